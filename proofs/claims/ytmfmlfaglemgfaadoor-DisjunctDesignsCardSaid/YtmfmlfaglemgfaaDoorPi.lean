/- Laws for a range over a function in the body of a range over a function, at known yields and whatever bound receiver; no early end. -/
/- The points of a set (package incidence), walked: an iterator; the numbers of blocks through each point. -/
/- incidence.Pairs, walked: how often two points are together; the table of math/bits lies as the program's text lays it. -/
import Derived.Test.YtmfmlfaglemgfaaDoorRg
import Derived.Test.YtmfmlfaglemgfaaDoorTz
import Derived.Test.YtmfmlfaglemgfaaDoorRx
import Derived.Test.YtmfmlfaglemgfaaDoorMk
import Derived.Laws.OwnMore
import Derived.Lib.BufferWrite
namespace Go.Proofs.YtmfmlfaglemgfaaDoor
set_option linter.unusedSimpArgs false
set_option linter.unusedVariables false
open Go.RowKit Go.Lib Go.Shelf Go.Proofs.YtmfmlfaglemgfaaDoorW.PrintWords

theorem wp_range3 {α : Type} {P : Program} {g : Operand} {ps : Array Tmp} {assign body : Code} {Q : Exit → Act → World → Prop} {a : Act} {w : World}
    {gf : Nat} {first lb : Array Value} (hg : a.eval g = .func (.func gf) first lb) (eg : ∀ args w, (callFunc gf args).run P w = .ok (.enter gf args) w)
    {encs : α → Array Value} {Kp : World → World → Prop} {xs : List α} (hit : Iter P gf (fun y => first ++ #[y] ++ lb) encs Kp xs w)
    (hKt : ∀ {A B C : World}, Kp A B → Kp B C → Kp A C) (hKb : ∀ (W : World) (l : Nat) (o o' : Obj), w.heap.size ≤ l → W.heap[l]? = some o → o.isCells = false → Kp W (W.putObj l o')) (hps : ∀ x, (encs x).size = ps.size)
    (I : List α → World → Prop) (hI : OwnFrom w.heap.size I) (h0 : I [] w) (Ax : α → Act → World → Prop) (hAx : ∀ x a', OwnFrom w.heap.size (fun (_ : Unit) W => Ax x a' W))
    (hassign : ∀ (l : Nat) (pre : List α) (x : α) (W : World) (K : Act → World → Prop), I pre W → w.heap.size + 2 ≤ W.heap.size → (∀ a' W', KeepsFrom w.heap.size W W' → Kp W W' → I pre W' → Ax x a' W' → K a' W') →
      assign.wpIn (Fence.wide.inRound l) 6 P (Exit.then K (fun _ _ _ => False)) { tmps := (ps.zip (encs x)).foldl (fun t (p, v) => t.setIfInBounds p v) a.tmps, defers := [] } W)
    (hbody : ∀ (l : Nat) (pre : List α) (x : α) (a' : Act) (W : World), pre ++ [x] <+: xs → w.heap.size ≤ l → (∃ r, W.heap[l]? = some (.loop r)) → w.heap.size + 2 ≤ W.heap.size → I pre W → Ax x a' W →
      body.wpIn (Fence.wide.inRound l) 6 P (ownPostG w.heap.size Kp I (fun _ _ _ => False) (pre ++ [x]) W) a' W)
    (hdone : ∀ (D : Nat) (W : World), w.heap.size ≤ D → I xs W → W.heap[D]? = some (.deferred (some [])) → Q .normal { a with defers := { target := .collected D, args := #[] } :: a.defers } W) :
    (Code.rangeFunc g ps assign body).wp P Q a w := by
  refine (wpIn_wide (n := 8)).1 (wpIn_rangeFunc ?_)
  intro fn hfn
  let L : LoopState → Option Code → Loop := fun st pe => { state := st, pending := pe, fn, tmps := a.tmps, params := ps, assign, body, defers := w.heap.size }
  obtain ⟨W1, hW1⟩ : ∃ W1, (w.alloc (.deferred (some []))).alloc (.loop (L .ready none)) = W1 := ⟨_, rfl⟩
  have hL1 : W1.heap[w.heap.size + 1]? = some (.loop (L .ready none)) := by rw [← hW1]; exact heap_new (by simp)
  have hK1 : W1.heap[w.heap.size]? = some (.deferred (some [])) := by rw [← hW1]; exact blk_alloc (heap_new rfl) _
  have hz1 : W1.heap.size = w.heap.size + 2 := by rw [← hW1]; simp
  have hb1 : Below w.heap.size w W1 := by rw [← hW1]; exact below_alloc (below_alloc (Below.refl _ _) _) _
  have hI1 : I [] W1 := by rw [← hW1]; exact hI.alloc _ (hI.alloc _ h0)
  refine ⟨w.heap.size + 1, [{ target := .collected w.heap.size, args := #[] }], W1, { target := .fn (.func gf) lb, args := first ++ #[.func (.yield (w.heap.size + 1)) #[] #[]] }, W1, gf,
    first ++ #[.func (.yield (w.heap.size + 1)) #[] #[]] ++ lb, W1, ?_, ?_, fun _ _ => trivial, ?_, fun _ => by decide, ?_⟩
  · rw [← hW1]; exact run_enterLoop_outer _ _ _ _ _
  · simp only [resolve, hg]
    simp [go_sem]
  · simp [invoke, go_sem, eg]
  · refine callsIn_wide.2 ((hit (w.heap.size + 1)
      (fun pre W => I pre W ∧ W.heap[w.heap.size + 1]? = some (.loop (L .ready none)) ∧ W.heap[w.heap.size]? = some (.deferred (some [])))
      (fun _ _ => False)
      W1 hb1 ?_ (fun _ _ _ _ h _ _ => h) ?_ ⟨hI1, hL1, hK1⟩).mono ?_)
    · rintro s A A' row ⟨hi, hl, hk⟩ hg' hr
      have hr' : ∀ r, row = some r → w.heap.size ≤ r ∧ ∃ o : Obj, A.heap[r]? = some o ∧ o.isCells = false := fun r e => ⟨by have := (hr r e).1; omega, (hr r e).2⟩
      exact ⟨hI s A A' row hi hg' hr', (hg'.block _ (blk_lt hl) (fun e => by have := (hr _ e.symm).1; omega)).trans hl, (hg'.block _ (blk_lt hk) (fun e => by have := (hr _ e.symm).1; omega)).trans hk⟩
    · rintro m pre x W hpre ⟨hi, hl, hk⟩
      refine YieldAt.anyDepth rfl (m := 6) m ?_
      have hlz := blk_lt hl
      refine ⟨fn, _, assign, body, run_yield (args := encs x) hl (hps x), roundIn_of_wpIn hfn (hassign _ pre x W _ hi (by omega) ?_)⟩
      intro a' Wa hkfa hkpa hia hax
      replace hl := hkfa.same _ _ (by omega) hl rfl
      replace hk := hkfa.same _ _ (Nat.le_refl _) hk rfl
      refine ⟨_, run_beginRound hl rfl, ?_⟩
      obtain ⟨Wb, hWb⟩ : ∃ Wb, Wa.putObj (w.heap.size + 1) (.loop (L .busy none)) = Wb := ⟨_, rfl⟩
      have hl2 : Wb.heap[w.heap.size + 1]? = some (.loop (L .busy none)) := by rw [← hWb]; exact World.putObj_heap_same (blk_lt hl)
      have hk2 : Wb.heap[w.heap.size]? = some (.deferred (some [])) := by rw [← hWb]; exact (World.putObj_heap_other (by omega)).trans hk
      have hkc : Kp Wa Wb := by rw [← hWb]; exact hKb _ _ _ _ (by omega) hl rfl
      have hib : I pre Wb := by rw [← hWb]; exact hI.putObj _ hia (by omega) hl rfl
      have hab : Ax x a' Wb := by rw [← hWb]; exact (hAx x a').putObj (s := ()) _ hax (by omega) hl rfl
      have hzb : w.heap.size + 2 ≤ Wb.heap.size := by have := blk_lt hl2; omega
      show body.wpIn (Fence.wide.inRound (w.heap.size + 1)) 6 P _ _ (Wa.putObj (w.heap.size + 1) (.loop (L .busy none)))
      rw [hWb]
      refine wpIn_mono (hbody _ pre x a' Wb hpre (by omega) ⟨_, hl2⟩ hzb hib hab) ?_
      rintro e a3 W3 hp
      cases e with
      | normal =>
        obtain ⟨hk3, hkp3, hi3⟩ := hp
        have hl3 := hk3.same _ _ (by omega) hl2 rfl
        have hk4 := hk3.same _ _ (Nat.le_refl _) hk2 rfl
        exact ⟨_, _, run_endRound (P := P) none hl3, .inl ⟨rfl, ⟨hI.putObj _ hi3 (by omega) hl3 rfl, World.putObj_heap_same (blk_lt hl3), (World.putObj_heap_other (by omega)).trans hk4⟩, hKt hkpa (hKt hkc (hKt hkp3 (hKb _ _ _ _ (by omega) hl3 rfl)))⟩⟩
      | ret => exact hp.2.elim
      | exit id => exact hp.2.elim
      | goto t => exact hp.2.elim
      | panic ch => exact hp.elim
      | outgrown => exact hp.elim
    · rintro e W2 ⟨⟨v, rfl⟩, (⟨hi, hl, hk⟩ | ⟨pre, hSp, hf⟩)⟩
      · exact ⟨none, _, run_endLoop (P := P) hl (fun h => by cases h), hdone _ _ (Nat.le_refl _) (hI.putObj _ hi (by omega) hl rfl) ((World.putObj_heap_other (by omega)).trans hk)⟩
      · exact hf.elim
theorem wpIn_range_round {α : Type} {P : Program} {g : Operand} {ps : Array Tmp} {assign body : Code} {Q : Exit → Act → World → Prop} {a : Act} {w : World} {l0 : Nat} {r0 : Loop} (hl0 : w.heap[l0]? = some (.loop r0))
    {gf : Nat} {first lb : Array Value} (hg : a.eval g = .func (.func gf) first lb) (eg : ∀ args w, (callFunc gf args).run P w = .ok (.enter gf args) w)
    {encs : α → Array Value} {Kp : World → World → Prop} {xs : List α} (hit : Iter P gf (fun y => first ++ #[y] ++ lb) encs Kp xs w)
    (hKt : ∀ {A B C : World}, Kp A B → Kp B C → Kp A C) (hKb : ∀ (W : World) (l : Nat) (o o' : Obj), w.heap.size ≤ l → W.heap[l]? = some o → o.isCells = false → Kp W (W.putObj l o')) (hps : ∀ x, (encs x).size = ps.size)
    (I : List α → World → Prop) (hI : OwnFrom w.heap.size I) (h0 : I [] w) (a₁ : α → Act)
    (hassign : ∀ (l : Nat) (x : α) (W : World) (K : Act → World → Prop), K (a₁ x) W →
      assign.wpIn (Fence.wide.inRound l) 6 P (Exit.then K (fun _ _ _ => False)) { tmps := (ps.zip (encs x)).foldl (fun t (p, v) => t.setIfInBounds p v) a.tmps, defers := [] } W)
    (hbody : ∀ (l : Nat) (pre : List α) (x : α) (W : World), pre ++ [x] <+: xs → I pre W → body.wpIn (Fence.wide.inRound l) 6 P (ownPostG w.heap.size Kp I (fun _ _ _ => False) (pre ++ [x]) W) (a₁ x) W)
    (hdone : ∀ (W : World), I xs W → Q .normal a W) :
    (Code.rangeFunc g ps assign body).wpIn (Fence.wide.inRound l0) 6 P Q a w := by
  refine wpIn_rangeFunc ?_
  intro fn hfn
  let L : LoopState → Option Code → Loop := fun st pe => { state := st, pending := pe, fn, tmps := a.tmps, params := ps, assign, body, defers := r0.defers }
  obtain ⟨W1, hW1⟩ : ∃ W1, w.alloc (.loop (L .ready none)) = W1 := ⟨_, rfl⟩
  have hL1 : W1.heap[w.heap.size]? = some (.loop (L .ready none)) := by rw [← hW1]; exact heap_new rfl
  have hz1 : W1.heap.size = w.heap.size + 1 := by rw [← hW1]; simp
  have hb1 : Below w.heap.size w W1 := by rw [← hW1]; exact below_alloc (Below.refl _ _) _
  have hI1 : I [] W1 := by rw [← hW1]; exact hI.alloc _ h0
  refine ⟨w.heap.size, [], W1, { target := .fn (.func gf) lb, args := first ++ #[.func (.yield w.heap.size) #[] #[]] }, W1, gf,
    first ++ #[.func (.yield w.heap.size) #[] #[]] ++ lb, W1, ?_, ?_, fun _ _ => trivial, ?_, fun _ => by decide, ?_⟩
  · rw [← hW1]; exact run_enterLoop_inner hl0 _ _ _ _ _
  · simp only [resolve, hg]
    simp [go_sem]
  · simp [invoke, go_sem, eg]
  · refine CallsIn.inRound l0 (callsIn_wide.2 ((hit w.heap.size
      (fun pre W => I pre W ∧ W.heap[w.heap.size]? = some (.loop (L .ready none)))
      (fun _ _ => False)
      W1 hb1 ?_ (fun _ _ _ _ h _ _ => h) ?_ ⟨hI1, hL1⟩).mono ?_))
    · rintro s A A' row ⟨hi, hl⟩ hg' hr
      have hr' : ∀ r, row = some r → w.heap.size ≤ r ∧ ∃ o : Obj, A.heap[r]? = some o ∧ o.isCells = false := fun r e => ⟨by have := (hr r e).1; omega, (hr r e).2⟩
      exact ⟨hI s A A' row hi hg' hr', (hg'.block _ (blk_lt hl) (fun e => by have := (hr _ e.symm).1; omega)).trans hl⟩
    · rintro m pre x W hpre ⟨hi, hl⟩
      refine YieldAt.anyDepth rfl (m := 6) m ?_
      refine ⟨fn, _, assign, body, run_yield (args := encs x) hl (hps x), roundIn_of_wpIn hfn (hassign _ x W _ ?_)⟩
      refine ⟨_, run_beginRound hl rfl, ?_⟩
      obtain ⟨Wb, hWb⟩ : ∃ Wb, W.putObj w.heap.size (.loop (L .busy none)) = Wb := ⟨_, rfl⟩
      have hl2 : Wb.heap[w.heap.size]? = some (.loop (L .busy none)) := by rw [← hWb]; exact World.putObj_heap_same (blk_lt hl)
      have hkc : Kp W Wb := by rw [← hWb]; exact hKb _ _ _ _ (Nat.le_refl _) hl rfl
      have hib : I pre Wb := by rw [← hWb]; exact hI.putObj _ hi (Nat.le_refl _) hl rfl
      show body.wpIn (Fence.wide.inRound w.heap.size) 6 P _ _ (W.putObj w.heap.size (.loop (L .busy none)))
      rw [hWb]
      refine wpIn_mono (hbody _ pre x Wb hpre hib) ?_
      rintro e a3 W3 hp
      cases e with
      | normal =>
        obtain ⟨hk3, hkp3, hi3⟩ := hp
        have hl3 := hk3.same _ _ (Nat.le_refl _) hl2 rfl
        exact ⟨_, _, run_endRound (P := P) none hl3, .inl ⟨rfl, ⟨hI.putObj _ hi3 (Nat.le_refl _) hl3 rfl, World.putObj_heap_same (blk_lt hl3)⟩, hKt hkc (hKt hkp3 (hKb _ _ _ _ (Nat.le_refl _) hl3 rfl))⟩⟩
      | ret => exact hp.2.elim
      | exit id => exact hp.2.elim
      | goto t => exact hp.2.elim
      | panic ch => exact hp.elim
      | outgrown => exact hp.elim
    · rintro e W2 ⟨⟨v, rfl⟩, (⟨hi, hl⟩ | ⟨pre, hSp, hf⟩)⟩
      · exact ⟨none, _, run_endLoop (P := P) hl (fun h => by cases h), hdone _ (hI.putObj _ hi (Nat.le_refl _) hl rfl)⟩
      · exact hf.elim
end Go.Proofs.YtmfmlfaglemgfaaDoor


namespace Go.Proofs.YtmfmlfaglemgfaaDoor
set_option linter.unusedSimpArgs false
set_option linter.unusedVariables false
open Go.RowKit Go.Lib Go.Shelf Go.Proofs.YtmfmlfaglemgfaaDoorW.PrintWords
attribute [local go_sem] Oper.semAt_some

/-- The points of a set, increasing. -/
def ptsF : Nat → Nat → List Nat
  | 0, _ => []
  | k + 1, s => if s = 0 then [] else ctz 64 s :: ptsF k (s &&& (s - 1))
def ptsL (s : Nat) : List Nat := ptsF s s
theorem and_pred_lt {s : Nat} (h : 0 < s) : s &&& (s - 1) < s := Nat.lt_of_le_of_lt Nat.and_le_right (by omega)
theorem ptsF_fuel : ∀ (k s : Nat), s ≤ k → ptsF k s = ptsF s s := by
  intro k
  induction k using Nat.strongRecOn with
  | _ k ih =>
    intro s hs
    rcases Nat.eq_zero_or_pos s with rfl | h0
    · cases k <;> simp [ptsF]
    · obtain ⟨k, rfl⟩ : ∃ m, k = m + 1 := ⟨k - 1, by omega⟩
      obtain ⟨n, hn⟩ : ∃ n, s = n + 1 := ⟨s - 1, by omega⟩
      have hlt := and_pred_lt h0
      have e1 : ptsF (k + 1) s = ctz 64 s :: ptsF k (s &&& (s - 1)) := by rw [ptsF, if_neg (by omega)]
      have e2 : ptsF s s = ctz 64 s :: ptsF n (s &&& (s - 1)) := by
        conv => lhs; arg 1; rw [hn]
        rw [ptsF, if_neg (by omega)]
      rw [e1, e2, ih k (by omega) _ (by omega)]
      by_cases hkn : n = k
      · subst hkn; rw [ih n (by omega) _ (by omega)]
      · rw [ih n (by omega) _ (by omega)]
theorem ptsL_zero : ptsL 0 = [] := rfl
theorem ptsL_cons {s : Nat} (h : 0 < s) : ptsL s = ctz 64 s :: ptsL (s &&& (s - 1)) := by
  obtain ⟨n, hn⟩ : ∃ n, s = n + 1 := ⟨s - 1, by omega⟩
  have hlt := and_pred_lt h
  unfold ptsL
  conv => lhs; arg 1; rw [hn]
  rw [ptsF, if_neg (by omega), ptsF_fuel n _ (by omega)]
theorem TabOk.put {W : World} {l : Nat} {o o' : Obj} (h : TabOk W) (hl : W.heap[l]? = some o) (ho : o.isCells = false) : TabOk (W.putObj l o') := fun i hi => cell_kept (h i hi) (grownBy_putObj' W l o') (fun r e => by cases e; exact ⟨o, hl, ho⟩)
/-- What a round keeps: the iterator's own cells, and the library's table. -/
def KT (B : Nat) (W W' : World) : Prop := KC B W W' ∧ (TabOk W → TabOk W')
theorem KT.trans {B : Nat} {X Y Z : World} (h : KT B X Y) (k : KT B Y Z) : KT B X Z := ⟨h.1.trans k.1, fun t => k.2 (h.2 t)⟩

set_option maxHeartbeats 2000000 in
set_option maxRecDepth 100000 in
theorem points_iter (s B : Nat) (hs : s < 2 ^ 64) (w : World) (hT : TabOk w) :
    Iter Tryd.prog 20 (fun y => #[.int .u64 s] ++ #[y] ++ #[]) (fun p : Nat => #[.int .i64 p]) (KT B) (ptsL s) w := by
  intro l J Jx W hW hJ hJx hY h0
  have hT0 := hT.below hW
  refine (callsIn_wide (n := 8)).1 ?_
  refine callsIn_of_wp Tryd.func20 rfl trivial ?_ rfl
  simp only [Tryd.ntmps20, List.size_toArray, List.length_cons, List.length_nil, Nat.reduceAdd, Nat.reduceSub, Array.replicate_succ, Array.replicate_zero, List.push_toArray, List.append_toArray, List.nil_append, List.cons_append, List.append_nil]
  gi_wp2
  gi_loopw [4] (fun r wr => ∃ (pre : List Nat) (q : Nat), r = .int .u64 q ∧ q ≤ s ∧ Hid (pre ++ ptsL q = ptsL s) ∧ J pre wr ∧ TabOk wr) (fun r _ => (intOf r).toNat)
  case atStart => exact ⟨[], s, rfl, Nat.le_refl _, rfl, h0, hT0⟩
  case round =>
    obtain ⟨pre, q, rfl, hq, HP, hj, ht⟩ := hrel
    by_cases h0 : q = 0
    · subst h0
      gi_wp2
      go_end0
      exact ⟨⟨_, rfl⟩, .inl (by have := HP.out; rw [ptsL_zero, List.append_nil] at this; rw [← this]; exact hj)⟩
    · have hq0 : 0 < q := by omega
      have hq64 : q < 2 ^ 64 := by omega
      have hne : ((q : Int) != 0) = true := by simp; omega
      have hpre : pre ++ [ctz 64 q] <+: ptsL s := ⟨ptsL (q &&& (q - 1)), by rw [← HP.out, ptsL_cons hq0]; simp⟩
      obtain ⟨fn, tmps, assign, body, hy, hR⟩ := hY 7 pre (ctz 64 q) wr hpre hj
      have HQ := hid (show bits BinOp.and IntKind.u64 (q : Int) ((q : Int) - 1) = ((q &&& (q - 1) : Nat) : Int) from by
        rw [show (q : Int) - 1 = ((q - 1 : Nat) : Int) from by omega, uand hq64 (by omega)])
      have hlt := and_pred_lt hq0
      have q1 : 1 ≤ (q : Int) := by omega
      clear hY hJ hJx h0
      gi_wp2_with (refine ⟨trivial, ?_⟩; gi_at_call 34; refine (callsIn_wide.2 (tz_any q hq64 hq0 _ ht)).mono ?_; rintro e w' ⟨rfl, rfl⟩)
      refine hR.mono ?_
      rintro e W' (⟨rfl, hJ', hk⟩ | ⟨rfl, hJx'⟩)
      · gi_wp2
        rw [HQ.out]
        go_roundw
        case rel => exact ⟨pre ++ [ctz 64 q], q &&& (q - 1), rfl, by omega, (show _ = _ from by rw [← HP.out, ptsL_cons hq0]; simp), hJ', hk.2 ht⟩
        case measure => simp [intOf]; omega
      · gi_wp2
        refine bodyPost_ret (results_none rfl _ _ _) rfl ?_
        exact ⟨⟨_, rfl⟩, .inr ⟨pre ++ [ctz 64 q], hpre, hJx'⟩⟩
end Go.Proofs.YtmfmlfaglemgfaaDoor


namespace Go.Proofs.YtmfmlfaglemgfaaDoor
set_option linter.unusedSimpArgs false
set_option linter.unusedVariables false
open Go.RowKit Go.Lib Go.Shelf Go.Proofs.YtmfmlfaglemgfaaDoorW.PrintWords
attribute [local go_sem] Oper.semAt_some

def arr (V : Nat) (f : Nat → Value) : Array Value := ((List.range V).map f).toArray
theorem arr_get {V k : Nat} {f : Nat → Value} (h : k < V) : (arr V f)[k]? = some (f k) := by simp [arr, h]
theorem arr_set {V q : Nat} {f : Nat → Value} (x : Value) : (arr V f).setIfInBounds q x = arr V (fun j => if j = q then x else f j) := by
  apply Array.ext
  · simp [arr]
  · intro i h1 h2
    simp only [arr, Array.size_setIfInBounds, List.size_toArray, List.length_map, List.length_range] at h1 h2
    by_cases hq : i = q
    · subst hq; simp [arr, h2]
    · simp [arr, h2, hq, Array.getElem_setIfInBounds, Ne.symm hq]
theorem arr_made (V : Nat) (z : Value) : madeCells #[z] V = arr V (fun _ => z) := by
  apply Array.ext'
  rw [toList_madeCells_one]
  simp [arr, List.map_const']
theorem arr_congr {V : Nat} {f g : Nat → Value} (h : ∀ j < V, f j = g j) : arr V f = arr V g := by
  unfold arr
  rw [List.map_congr_left fun j hj => h j (List.mem_range.1 hj)]
def rowV (R0 V : Nat) (i : Nat) : Value := .slice (some ⟨R0 + i, 0, none⟩) V V
def intV (f : Nat → Nat) (j : Nat) : Value := .int .i64 ((f j : Nat) : Int)
/-- The matrix in memory: a row of rows, and the rows behind one another. -/
def Mat (W : World) (G R0 V : Nat) (M : Nat → Nat → Nat) : Prop := Blk W G 36 (arr V (rowV R0 V)) ∧ ∀ i < V, Blk W (R0 + i) 3 (arr V (intV (M i)))
def upd (M : Nat → Nat → Nat) (p q : Nat) : Nat → Nat → Nat := fun i j => if i = p ∧ j = q then M i j + 1 else M i j
theorem Mat.row {W : World} {G R0 V p : Nat} {M : Nat → Nat → Nat} (h : Mat W G R0 V M) (hp : p < V) : W.cell? ⟨G, p, none⟩ = some (rowV R0 V p) := (h.1.cell p).trans (arr_get hp)
theorem Mat.at_ {W : World} {G R0 V p q : Nat} {M : Nat → Nat → Nat} (h : Mat W G R0 V M) (hp : p < V) (hq : q < V) : W.cell? ⟨R0 + p, q, none⟩ = some (.int .i64 ((M p q : Nat) : Int)) := ((h.2 p hp).cell q).trans (arr_get hq)
theorem Mat.set {W : World} {G R0 V p q : Nat} {M : Nat → Nat → Nat} (h : Mat W G R0 V M) (hp : p < V) (hG : G < R0) : Mat (W.setCell ⟨R0 + p, q, none⟩ (.int .i64 ((M p q + 1 : Nat) : Int))) G R0 V (upd M p q) := by
  refine ⟨h.1.far (by show G ≠ R0 + p; omega) _, fun i hi => ?_⟩
  by_cases hip : i = p
  · subst hip
    have h2 := (h.2 i hi).set_ q (.int .i64 ((M i q + 1 : Nat) : Int))
    rw [arr_set] at h2
    rw [show arr V (intV (upd M i q i)) = arr V (fun j => if j = q then .int .i64 ((M i q + 1 : Nat) : Int) else intV (M i) j) from arr_congr fun j _ => by
      unfold intV upd
      by_cases hj : j = q
      · subst hj; simp
      · simp [hj]]
    exact h2
  · have h2 := (h.2 i hi).far (p := ⟨R0 + p, q, none⟩) (by show R0 + i ≠ R0 + p; omega) (.int .i64 ((M p q + 1 : Nat) : Int))
    rw [show arr V (intV (upd M p q i)) = arr V (intV (M i)) from arr_congr fun j _ => by unfold intV upd; simp [hip]]
    exact h2
theorem Mat.below {W W' : World} {G R0 V : Nat} {M : Nat → Nat → Nat} (h : Mat W G R0 V M) (hb : Below W.heap.size W W') : Mat W' G R0 V M := ⟨h.1.below hb h.1.lt, fun i hi => (h.2 i hi).below hb (h.2 i hi).lt⟩
theorem Mat.congr {W : World} {G R0 V : Nat} {M M' : Nat → Nat → Nat} (h : Mat W G R0 V M) (he : ∀ i j, M i j = M' i j) : Mat W G R0 V M' := by
  rwa [show M' = M from (funext fun i => funext fun j => he i j).symm]
theorem blk_own {β : Type} (g t : Nat) (f : β → Array Value) : Own (fun s W => Blk W g t (f s)) := fun s A A' row h hg hr =>
  (hg.block g h.lt (fun e => by
    obtain ⟨o, ho, hc⟩ := hr g e.symm
    unfold Blk at h
    rw [h] at ho; cases ho; cases hc)).trans h
theorem mat_own {β : Type} (G R0 V : Nat) (f : β → Nat → Nat → Nat) : Own (fun s W => Mat W G R0 V (f s)) := fun s A A' row h hg hr =>
  ⟨blk_own G _ (fun _ : Unit => arr V (rowV R0 V)) () A A' row h.1 hg hr, fun i hi => blk_own (R0 + i) _ (fun _ : Unit => arr V (intV (f s i))) () A A' row (h.2 i hi) hg hr⟩
theorem TabOk.set9 {W : World} (h : TabOk W) {b o : Nat} (hp : b ≠ 0) (v : Value) : TabOk (W.setCell ⟨b, o, none⟩ v) := fun i hi => (World.cell?_setCell_far W ⟨b, o, none⟩ ⟨0, i, none⟩ v hp).trans (h i hi)
theorem tab_own {β : Type} : Own (fun (_ : β) W => TabOk W) := fun s W W' row hs hg hr i hi => cell_kept (hs i hi) hg hr
theorem kc_own {β : Type} (B : Nat) (W0 : World) : Own (fun (_ : β) W => KC B W0 W) := fun s A A' row h hg hr =>
  ⟨Nat.le_trans h.1 hg.size, fun k c t f hk hc => by
    have h1 := h.2 k c t f hk hc
    refine (hg.block k (blk_lt h1) (fun e => ?_)).trans h1
    obtain ⟨o, ho, hoc⟩ := hr k e.symm
    rw [h1] at ho; cases ho; cases hoc⟩
-- the points of a set, and what a block adds
def ptsOk : Bool := (List.range 128).all fun b => decide (ptsL b).Nodup && (List.range 7).all (fun i => (ptsL b).elem i == b.testBit i) && (ptsL b).all (fun i => decide (i < 7))
theorem ptsOk_true : ptsOk = true := by decide +kernel
theorem pts_ok {b : Nat} (h : b < 128) : (ptsL b).Nodup ∧ (∀ i < 7, i ∈ ptsL b ↔ b.testBit i = true) ∧ ∀ i ∈ ptsL b, i < 7 := by
  have h := List.all_eq_true.1 ptsOk_true b (List.mem_range.2 h)
  simp only [Bool.and_eq_true, decide_eq_true_eq] at h
  obtain ⟨⟨h1, h2⟩, h3⟩ := h
  refine ⟨h1, fun i hi => ?_, fun i hi => by simpa using List.all_eq_true.1 h3 i hi⟩
  have h4 := List.all_eq_true.1 h2 i (List.mem_range.2 hi)
  rw [← List.elem_iff, eq_of_beq h4]
theorem pts_lt {b V : Nat} (hb : b < 2 ^ V) (h : b < 128) : ∀ i ∈ ptsL b, i < V := by
  obtain ⟨_, h2, h3⟩ := pts_ok h
  intro i hi
  rcases Nat.lt_or_ge i V with h4 | h4
  · exact h4
  · have := (h2 i (h3 i hi)).1 hi
    rw [Nat.testBit_lt_two_pow (Nat.lt_of_lt_of_le hb (Nat.pow_le_pow_right (by decide) h4))] at this
    cases this
/-- What has been counted of a block: whole rows, and of one row a part. -/
def mAdd (M : Nat → Nat → Nat) (b : Nat) (pre : List Nat) : Nat → Nat → Nat := fun i j => M i j + if i ∈ pre ∧ j ∈ ptsL b then 1 else 0
def mIn (M : Nat → Nat → Nat) (p : Nat) (pre : List Nat) : Nat → Nat → Nat := fun i j => M i j + if i = p ∧ j ∈ pre then 1 else 0
theorem mIn_step {M : Nat → Nat → Nat} {p q : Nat} {pre : List Nat} (hq : q ∉ pre) (i j : Nat) : upd (mIn M p pre) p q i j = mIn M p (pre ++ [q]) i j := by
  unfold upd mIn
  by_cases hi : i = p
  · by_cases hj : j = q
    · subst hi hj; simp [hq]
    · simp [hi, hj]
  · simp [hi]
theorem mAdd_step {M : Nat → Nat → Nat} {b p : Nat} {pre : List Nat} (hp : p ∉ pre) (i j : Nat) : mIn (mAdd M b pre) p (ptsL b) i j = mAdd M b (pre ++ [p]) i j := by
  unfold mIn mAdd
  by_cases hi : i = p
  · subst hi; simp [hp]
  · simp [hi]
theorem not_mem_of_prefix {xs pre : List Nat} {x : Nat} (hn : xs.Nodup) (h : pre ++ [x] <+: xs) : x ∉ pre := fun hx => by
  obtain ⟨t, rfl⟩ := h
  rw [List.append_assoc] at hn
  exact (List.nodup_append.1 hn).2.2 x hx x (by simp) rfl
/-- How often two points are together in the first blocks. -/
def pairM (bs : List Nat) : Nat → Nat → Nat := fun i j => bs.countP fun b => b.testBit i && b.testBit j
theorem pairM_step {bs : List Nat} {k b i j : Nat} (h : bs.take (k + 1) = bs.take k ++ [b]) (hb : b < 128) (hi : i < 7) (hj : j < 7) : mAdd (pairM (bs.take k)) b (ptsL b) i j = pairM (bs.take (k + 1)) i j := by
  obtain ⟨_, h2, _⟩ := pts_ok hb
  unfold mAdd pairM
  rw [h, List.countP_append]
  congr 1
  simp only [List.countP_cons, List.countP_nil, Nat.zero_add]
  by_cases h3 : b.testBit i = true <;> by_cases h4 : b.testBit j = true <;> simp [h2 i hi, h2 j hj, h3, h4]
def mk0 (V R0 i : Nat) (k : Nat) : Value := if k < i then rowV R0 V k else .slice none 0 0
theorem infoI : (Tryd.prog.info? 3).map (fun i => (i.zero, i.size, i.bytes)) = some (some (.int .i64 0), 1, 8) := by kernel_rfl
theorem infoR : (Tryd.prog.info? 36).map (fun i => (i.zero, i.size, i.bytes)) = some (some (.slice none 0 0), 1, 24) := by kernel_rfl
set_option maxHeartbeats 4000000 in
set_option maxRecDepth 100000 in
theorem pairs_any (V : Nat) (hV : V ≤ 7) (A : Option Addr) (n c : Nat) (bs : List Nat) (w : World) (hB : BlC w A n bs) (hn : n < 2 ^ 40) (hbV : ∀ b ∈ bs, b < 2 ^ V) (hT : TabOk w) :
    Calls Tryd.prog 6 #[.agg #[.int .i64 V, .slice A n c]] w fun e w' => ∃ G R0, e = .returned (.slice (some ⟨G, 0, none⟩) V V) ∧ Mat w' G R0 V (pairM bs) ∧ Below w.heap.size w w' := by
  have hu := Tryd.underlying35
  have hmk := print_make (P := Tryd.prog) 36 3 .i64 8 Tryd.underlying36 infoI (by decide) V (by omega)
  have hmr := print_make_of (P := Tryd.prog) 32 36 (.slice none 0 0) 24 Tryd.underlying32 infoR rfl (by decide) V (by omega)
  obtain ⟨hn1, _⟩ := id hB
  subst hn1
  have HBV := hid hbV
  clear hbV
  refine calls_marks 8 Tryd.func6 rfl ?_
  simp only [Tryd.ntmps6, List.size_toArray, List.length_cons, List.length_nil, Nat.reduceAdd, Nat.reduceSub, Array.replicate_succ, Array.replicate_zero, List.push_toArray, List.append_toArray, List.nil_append, List.cons_append]
  go_upto_region 2 with (fail)
  obtain ⟨w0, hw0⟩ : ∃ w0, ((w.alloc (.cells #[.int .i64 V, .slice A bs.length c] 35)).alloc (.cells (madeCells #[.slice none 0 0] V) 36)).alloc (.cells #[.slice (some ⟨w.heap.size + 1, 0, none⟩) V V] 32) = w0 := ⟨_, rfl⟩
  have hz0 : w0.heap.size = w.heap.size + 3 := by rw [← hw0]; simp
  have hb0 : Below w.heap.size w w0 := by rw [← hw0]; exact below_alloc (below_alloc (below_alloc (Below.refl _ _) _) _) _
  have hx0 : Blk w0 w.heap.size 35 #[.int .i64 V, .slice A bs.length c] := by rw [← hw0]; exact ((Blk.new _ _ _).alloc _).alloc _
  have hg0 : Blk w0 (w.heap.size + 1) 36 (arr V (mk0 V (w.heap.size + 3) 0)) := by
    rw [← hw0, show arr V (mk0 V (w.heap.size + 3) 0) = madeCells #[.slice none 0 0] V from by rw [arr_made]; exact arr_congr fun j _ => by simp [mk0]]
    have := (Blk.new (w.alloc (.cells #[.int .i64 V, .slice A bs.length c] 35)) 36 (madeCells #[.slice none 0 0] V)).alloc (.cells #[.slice (some ⟨w.heap.size + 1, 0, none⟩) V V] 32)
    simpa using this
  have ho0 : Blk w0 (w.heap.size + 2) 32 #[.slice (some ⟨w.heap.size + 1, 0, none⟩) V V] := by
    rw [← hw0]
    have := Blk.new ((w.alloc (.cells #[.int .i64 V, .slice A bs.length c] 35)).alloc (.cells (madeCells #[.slice none 0 0] V) 36)) 32 #[.slice (some ⟨w.heap.size + 1, 0, none⟩) V V]
    simpa using this
  rw [hw0]
  clear hw0
  have hOO := (ho0.cell 0).trans rfl
  go_wp2
  go_loopw [14] (fun z wr => ∃ i : Nat, i ≤ V ∧ z = .int .i64 i ∧ Below w.heap.size w wr ∧ wr.heap.size = w.heap.size + 3 + i ∧ Blk wr w.heap.size 35 #[.int .i64 V, .slice A bs.length c] ∧ Blk wr (w.heap.size + 1) 36 (arr V (mk0 V (w.heap.size + 3) i)) ∧ Blk wr (w.heap.size + 2) 32 #[.slice (some ⟨w.heap.size + 1, 0, none⟩) V V] ∧ ∀ j < i, Blk wr (w.heap.size + 3 + j) 3 (arr V (intV fun _ => 0))) (fun z _ => V - (intOf z).toNat)
  case atStart => exact ⟨0, by omega, rfl, hb0, hz0, hx0, hg0, ho0, fun j hj => by omega⟩
  case round =>
    clear hb0 hz0 hx0 hg0 ho0 hOO hmr
    obtain ⟨ix, hi, rfl, hb, hz, hx, hg, ho, hrows⟩ := hrel
    have hO : wr.cell? ⟨w.heap.size + 2, 0, none⟩ = some (.slice (some ⟨w.heap.size + 1, 0, none⟩) V V) := (ho.cell 0).trans rfl
    have hV0 : wr.cell? ⟨w.heap.size, 0, none⟩ = some (.int .i64 V) := (hx.cell 0).trans rfl
    by_cases hlt : ix < V
    · have hGi : wr.cell? ⟨w.heap.size + 1, ix, none⟩ = some (.slice none 0 0) := (hg.cell ix).trans ((arr_get hlt).trans (by simp [mk0]))
      have hGf := hg.frozen ix
      have hOl : w.heap.size + 2 < wr.heap.size := by omega
      have hVl : w.heap.size < wr.heap.size := by omega
      have hGl : w.heap.size + 1 < wr.heap.size := by omega
      go_upto_region 5 with (fail)
      refine (wpIn_wide (n := 8)).1 ?_
      obtain ⟨vv, hvv⟩ : ∃ vv : Nat → Value, vv = fun i => (#[.slice (some ⟨w.heap.size + 1, 0, none⟩) V V, .int .i64 ix, .pointer (some ⟨w.heap.size, 0, none⟩), .int .i64 V, .slice (some ⟨w.heap.size + 3 + ix, 0, none⟩) V V, .pointer (some ⟨w.heap.size + 1, ix, none⟩)] : Array Value).getD i undef := ⟨_, rfl⟩
      have mk : ∀ (L : Nat → Bool) (a' : Act) (w' : World), a' = ({ tmps := #[.agg #[.int .i64 V, .slice A bs.length c], .pointer (some ⟨w.heap.size, 0, none⟩), .slice none 0 0, .pointer (some ⟨w.heap.size + 1 + 1, 0, none⟩), .int .i64 ix, undef, undef, undef, undef, .pointer (some ⟨w.heap.size, 0, none⟩), .int .i64 V, .slice (some ⟨w.heap.size + 1, 0, none⟩) V V, .slice (some ⟨w.heap.size + 1, 0, none⟩) V V, .int .i64 V, .int .i64 ix, .bool true, .int .i64 ix, a'.tmps.getD (17 + 0) undef, a'.tmps.getD (17 + 1) undef, a'.tmps.getD (17 + 2) undef, a'.tmps.getD (17 + 3) undef, a'.tmps.getD (17 + 4) undef, a'.tmps.getD (17 + 5) undef, u23, undef, undef, undef, undef, undef, undef, undef, undef, undef, undef, undef, undef, undef, undef, undef, undef, undef, undef, undef, undef, undef, undef, undef, undef], defers := [] } : Act) → (∀ j < 6, L j = true → a'.tmps.getD (17 + j) undef = vv j) → (fun (L : Nat → Bool) (wz : World) => (L 6 = true → L 4 = true) ∧ (L 4 = false → wz = wr.drew) ∧ (L 4 = true → L 6 = false → wz = (wr.alloc (.cells (madeCells #[.int .i64 0] V) 3)).drew) ∧ (L 6 = true → wz = ((wr.alloc (.cells (madeCells #[.int .i64 0] V) 3)).setCell ⟨w.heap.size + 1, ix, none⟩ (.slice (some ⟨w.heap.size + 3 + ix, 0, none⟩) V V)).drew)) L w' → ∃ y : Nat → Value, a' = ({ tmps := #[.agg #[.int .i64 V, .slice A bs.length c], .pointer (some ⟨w.heap.size, 0, none⟩), .slice none 0 0, .pointer (some ⟨w.heap.size + 1 + 1, 0, none⟩), .int .i64 ix, undef, undef, undef, undef, .pointer (some ⟨w.heap.size, 0, none⟩), .int .i64 V, .slice (some ⟨w.heap.size + 1, 0, none⟩) V V, .slice (some ⟨w.heap.size + 1, 0, none⟩) V V, .int .i64 V, .int .i64 ix, .bool true, .int .i64 ix, y 0, y 1, y 2, y 3, y 4, y 5, u23, undef, undef, undef, undef, undef, undef, undef, undef, undef, undef, undef, undef, undef, undef, undef, undef, undef, undef, undef, undef, undef, undef, undef, undef], defers := [] } : Act) ∧ (∀ j < 6, L j = true → y j = vv j) ∧ (fun (L : Nat → Bool) (wz : World) => (L 6 = true → L 4 = true) ∧ (L 4 = false → wz = wr.drew) ∧ (L 4 = true → L 6 = false → wz = (wr.alloc (.cells (madeCells #[.int .i64 0] V) 3)).drew) ∧ (L 6 = true → wz = ((wr.alloc (.cells (madeCells #[.int .i64 0] V) 3)).setCell ⟨w.heap.size + 1, ix, none⟩ (.slice (some ⟨w.heap.size + 3 + ix, 0, none⟩) V V)).drew)) L w' := fun L a' w' h1 h2 h3 => ⟨fun m => a'.tmps.getD (17 + m) undef, h1, h2, h3⟩
      refine wpIn_region_inv2 (by kernel_rfl) (fun L aI wI => ∃ y : Nat → Value, aI = ({ tmps := #[.agg #[.int .i64 V, .slice A bs.length c], .pointer (some ⟨w.heap.size, 0, none⟩), .slice none 0 0, .pointer (some ⟨w.heap.size + 1 + 1, 0, none⟩), .int .i64 ix, undef, undef, undef, undef, .pointer (some ⟨w.heap.size, 0, none⟩), .int .i64 V, .slice (some ⟨w.heap.size + 1, 0, none⟩) V V, .slice (some ⟨w.heap.size + 1, 0, none⟩) V V, .int .i64 V, .int .i64 ix, .bool true, .int .i64 ix, y 0, y 1, y 2, y 3, y 4, y 5, u23, undef, undef, undef, undef, undef, undef, undef, undef, undef, undef, undef, undef, undef, undef, undef, undef, undef, undef, undef, undef, undef, undef, undef, undef], defers := [] } : Act) ∧ (∀ j < 6, L j = true → y j = vv j) ∧ (fun (L : Nat → Bool) (wz : World) => (L 6 = true → L 4 = true) ∧ (L 4 = false → wz = wr.drew) ∧ (L 4 = true → L 6 = false → wz = (wr.alloc (.cells (madeCells #[.int .i64 0] V) 3)).drew) ∧ (L 6 = true → wz = ((wr.alloc (.cells (madeCells #[.int .i64 0] V) 3)).setCell ⟨w.heap.size + 1, ix, none⟩ (.slice (some ⟨w.heap.size + 3 + ix, 0, none⟩) V V)).drew)) L wI) ?acyc ?start ?step ?rdone
      case acyc => exact fun i o ho => acyc_of2 (by kernel_rfl) i o ho
      case start => exact mk (fun _ => false) _ _ rfl (fun _ _ h => by cases h) (by exact ⟨(fun h => nomatch h), (fun _ => rfl), (fun h => nomatch h), (fun h => nomatch h)⟩)
      case step =>
        rintro i o L a wx ho hLi hdep ⟨y, rfl, hy, hWI⟩ K hK
        have hi : i < 7 := (Array.getElem?_eq_some_iff.1 ho).1
        rcases i with _ | _ | _ | _ | _ | _ | _ | i
        · obtain rfl := Option.some.inj ho
          clear hdep ho
          obtain ⟨C6, h0, h1, h2⟩ := hWI
          have q : wx.cell? ⟨w.heap.size + 2, 0, none⟩ = some (.slice (some ⟨w.heap.size + 1, 0, none⟩) V V) := by
            cases h4 : L 4
            · rw [h0 h4]; exact hO
            · cases h6 : L 6
              · rw [h1 h4 h6]; exact ((below_drew (below_alloc (Below.refl _ _) _) : Below wr.heap.size wr (wr.alloc (.cells (madeCells #[.int .i64 0] V) 3)).drew).cell (p := ⟨w.heap.size + 2, 0, none⟩) hOl).trans hO
              · rw [h2 h6]; show ((wr.alloc (.cells (madeCells #[.int .i64 0] V) 3)).setCell _ _).cell? _ = _; rw [World.cell?_setCell_far _ _ _ _ (show w.heap.size + 1 ≠ w.heap.size + 2 by omega)]; exact ((below_drew (below_alloc (Below.refl _ _) _) : Below wr.heap.size wr (wr.alloc (.cells (madeCells #[.int .i64 0] V) 3)).drew).cell (p := ⟨w.heap.size + 2, 0, none⟩) hOl).trans hO
          go_simp
          refine hK _ _ (mk _ _ _ rfl ?_ ?_)
          rotate_left
          · exact ⟨(fun h => by have := C6 (by simpa [put1] using h); simp [put1, this]), (fun h => h0 (by simpa [put1] using h)), (fun h4 h6 => h1 (by simpa [put1] using h4) (by simpa [put1] using h6)), (fun h => h2 (by simpa [put1] using h))⟩
          · intro j hj h
            rcases j with _ | _ | _ | _ | _ | _ | j
            all_goals first | (rw [hvv]; rfl) | exact hy _ (by omega) (by simpa [put1] using h) | (exfalso; omega)
        · obtain rfl := Option.some.inj ho
          clear hdep ho
          obtain ⟨C6, h0, h1, h2⟩ := hWI
          go_simp
          refine hK _ _ (mk _ _ _ rfl ?_ ?_)
          rotate_left
          · exact ⟨(fun h => by have := C6 (by simpa [put1] using h); simp [put1, this]), (fun h => h0 (by simpa [put1] using h)), (fun h4 h6 => h1 (by simpa [put1] using h4) (by simpa [put1] using h6)), (fun h => h2 (by simpa [put1] using h))⟩
          · intro j hj h
            rcases j with _ | _ | _ | _ | _ | _ | j
            all_goals first | (rw [hvv]; rfl) | exact hy _ (by omega) (by simpa [put1] using h) | (exfalso; omega)
        · obtain rfl := Option.some.inj ho
          clear hdep ho
          obtain ⟨C6, h0, h1, h2⟩ := hWI
          go_simp
          refine hK _ _ (mk _ _ _ rfl ?_ ?_)
          rotate_left
          · exact ⟨(fun h => by have := C6 (by simpa [put1] using h); simp [put1, this]), (fun h => h0 (by simpa [put1] using h)), (fun h4 h6 => h1 (by simpa [put1] using h4) (by simpa [put1] using h6)), (fun h => h2 (by simpa [put1] using h))⟩
          · intro j hj h
            rcases j with _ | _ | _ | _ | _ | _ | j
            all_goals first | (rw [hvv]; rfl) | exact hy _ (by omega) (by simpa [put1] using h) | (exfalso; omega)
        · obtain rfl := Option.some.inj ho
          have d2 : L 2 = true := hdep ⟨2, .data⟩ (by simp) rfl
          have e2 : y 2 = .pointer (some ⟨w.heap.size, 0, none⟩) := (hy 2 (by omega) d2).trans (by rw [hvv]; rfl)
          clear hdep ho
          rw [e2]
          obtain ⟨C6, h0, h1, h2⟩ := hWI
          have q : wx.cell? ⟨w.heap.size, 0, none⟩ = some (.int .i64 V) := by
            cases h4 : L 4
            · rw [h0 h4]; exact hV0
            · cases h6 : L 6
              · rw [h1 h4 h6]; exact ((below_drew (below_alloc (Below.refl _ _) _) : Below wr.heap.size wr (wr.alloc (.cells (madeCells #[.int .i64 0] V) 3)).drew).cell (p := ⟨w.heap.size, 0, none⟩) hVl).trans hV0
              · rw [h2 h6]; show ((wr.alloc (.cells (madeCells #[.int .i64 0] V) 3)).setCell _ _).cell? _ = _; rw [World.cell?_setCell_far _ _ _ _ (show w.heap.size + 1 ≠ w.heap.size by omega)]; exact ((below_drew (below_alloc (Below.refl _ _) _) : Below wr.heap.size wr (wr.alloc (.cells (madeCells #[.int .i64 0] V) 3)).drew).cell (p := ⟨w.heap.size, 0, none⟩) hVl).trans hV0
          go_simp
          refine hK _ _ (mk _ _ _ rfl ?_ ?_)
          rotate_left
          · exact ⟨(fun h => by have := C6 (by simpa [put1] using h); simp [put1, this]), (fun h => h0 (by simpa [put1] using h)), (fun h4 h6 => h1 (by simpa [put1] using h4) (by simpa [put1] using h6)), (fun h => h2 (by simpa [put1] using h))⟩
          · intro j hj h
            rcases j with _ | _ | _ | _ | _ | _ | j
            all_goals first | (rw [hvv]; rfl) | exact hy _ (by omega) (by simpa [put1] using h) | (exfalso; omega)
        · obtain rfl := Option.some.inj ho
          have d3 : L 3 = true := hdep ⟨3, .data⟩ (by simp) rfl
          have e3 : y 3 = .int .i64 V := (hy 3 (by omega) d3).trans (by rw [hvv]; rfl)
          clear hdep ho
          rw [e3]
          obtain ⟨C6, h0, h1, h2⟩ := hWI
          obtain rfl := h0 hLi
          go_simp
          refine hK _ _ (mk _ _ _ rfl ?_ ?_)
          rotate_left
          · exact ⟨(fun h => by have := C6 (by simpa [put1] using h); simp [put1, this]), (fun h => by simp [put1] at h), (fun _ _ => rfl), (fun h => by have h9 := C6 (by simpa [put1] using h); rw [hLi] at h9; cases h9)⟩
          · intro j hj h
            rcases j with _ | _ | _ | _ | _ | _ | j
            all_goals first | (rw [hvv]; rfl) | exact hy _ (by omega) (by simpa [put1] using h) | (exfalso; omega)
        · obtain rfl := Option.some.inj ho
          have d0 : L 0 = true := hdep ⟨0, .data⟩ (by simp) rfl
          have d1 : L 1 = true := hdep ⟨1, .data⟩ (by simp) rfl
          have e0 : y 0 = .slice (some ⟨w.heap.size + 1, 0, none⟩) V V := (hy 0 (by omega) d0).trans (by rw [hvv]; rfl)
          have e1 : y 1 = .int .i64 ix := (hy 1 (by omega) d1).trans (by rw [hvv]; rfl)
          clear hdep ho
          rw [e0, e1]
          obtain ⟨C6, h0, h1, h2⟩ := hWI
          go_simp
          refine hK _ _ (mk _ _ _ rfl ?_ ?_)
          rotate_left
          · exact ⟨(fun h => by have := C6 (by simpa [put1] using h); simp [put1, this]), (fun h => h0 (by simpa [put1] using h)), (fun h4 h6 => h1 (by simpa [put1] using h4) (by simpa [put1] using h6)), (fun h => h2 (by simpa [put1] using h))⟩
          · intro j hj h
            rcases j with _ | _ | _ | _ | _ | _ | j
            all_goals first | (rw [hvv]; rfl) | exact hy _ (by omega) (by simpa [put1] using h) | (exfalso; omega)
        · obtain rfl := Option.some.inj ho
          have d4 : L 4 = true := hdep ⟨4, .data⟩ (by simp) rfl
          have d5 : L 5 = true := hdep ⟨5, .data⟩ (by simp) rfl
          have e4 : y 4 = .slice (some ⟨w.heap.size + 3 + ix, 0, none⟩) V V := (hy 4 (by omega) d4).trans (by rw [hvv]; rfl)
          have e5 : y 5 = .pointer (some ⟨w.heap.size + 1, ix, none⟩) := (hy 5 (by omega) d5).trans (by rw [hvv]; rfl)
          clear hdep ho
          rw [e4, e5]
          obtain ⟨C6, h0, h1, h2⟩ := hWI
          obtain rfl := h1 d4 hLi
          have q := ((below_drew (below_alloc (Below.refl _ _) _) : Below wr.heap.size wr (wr.alloc (.cells (madeCells #[.int .i64 0] V) 3)).drew).cell (p := ⟨w.heap.size + 1, ix, none⟩) hGl).trans hGi
          have qf := ((below_drew (below_alloc (Below.refl _ _) _) : Below wr.heap.size wr (wr.alloc (.cells (madeCells #[.int .i64 0] V) 3)).drew).frozen (p := ⟨w.heap.size + 1, ix, none⟩) hGl).trans hGf
          go_simp
          refine hK _ _ (mk _ _ _ rfl ?_ ?_)
          rotate_left
          · exact ⟨(fun _ => by simp [put1, d4]), (fun h => by simp [put1, d4] at h), (fun _ h => by simp [put1] at h), (fun _ => rfl)⟩
          · intro j hj h
            rcases j with _ | _ | _ | _ | _ | _ | j
            all_goals first | (rw [hvv]; rfl) | exact hy _ (by omega) (by simpa [put1] using h) | (exfalso; omega)
        · exfalso; omega
      case rdone =>
        rintro L a w5 hall ⟨y, rfl, hy, hWI⟩
        obtain rfl := hWI.2.2.2 (hall 6 (by decide))
        generalize y 0 = y0
        generalize y 1 = y1
        generalize y 2 = y2
        generalize y 3 = y3
        generalize y 4 = y4
        generalize y 5 = y5
        clear mk hvv hy hWI hall
        have FIN := hid (show Below w.heap.size w ((wr.alloc (.cells (madeCells #[.int .i64 0] V) 3)).setCell ⟨w.heap.size + 1, ix, none⟩ (.slice (some ⟨w.heap.size + 3 + ix, 0, none⟩) V V)).drew ∧ ((wr.alloc (.cells (madeCells #[.int .i64 0] V) 3)).setCell ⟨w.heap.size + 1, ix, none⟩ (.slice (some ⟨w.heap.size + 3 + ix, 0, none⟩) V V)).drew.heap.size = w.heap.size + 3 + (ix + 1) ∧
            Blk ((wr.alloc (.cells (madeCells #[.int .i64 0] V) 3)).setCell ⟨w.heap.size + 1, ix, none⟩ (.slice (some ⟨w.heap.size + 3 + ix, 0, none⟩) V V)).drew w.heap.size 35 #[.int .i64 V, .slice A bs.length c] ∧ Blk ((wr.alloc (.cells (madeCells #[.int .i64 0] V) 3)).setCell ⟨w.heap.size + 1, ix, none⟩ (.slice (some ⟨w.heap.size + 3 + ix, 0, none⟩) V V)).drew (w.heap.size + 1) 36 (arr V (mk0 V (w.heap.size + 3) (ix + 1))) ∧
            Blk ((wr.alloc (.cells (madeCells #[.int .i64 0] V) 3)).setCell ⟨w.heap.size + 1, ix, none⟩ (.slice (some ⟨w.heap.size + 3 + ix, 0, none⟩) V V)).drew (w.heap.size + 2) 32 #[.slice (some ⟨w.heap.size + 1, 0, none⟩) V V] ∧ ∀ j < ix + 1, Blk ((wr.alloc (.cells (madeCells #[.int .i64 0] V) 3)).setCell ⟨w.heap.size + 1, ix, none⟩ (.slice (some ⟨w.heap.size + 3 + ix, 0, none⟩) V V)).drew (w.heap.size + 3 + j) 3 (arr V (intV fun _ => 0)) from by
          refine ⟨below_drew ((below_alloc hb _).setCell (by show w.heap.size ≤ w.heap.size + 1; omega) _), by simp [World.setCell, hz]; omega, (hx.alloc _).far (by show w.heap.size ≠ w.heap.size + 1; omega) _, ?_, (ho.alloc _).far (by show w.heap.size + 2 ≠ w.heap.size + 1; omega) _, fun j hj => ?_⟩
          · have h2 := (hg.alloc (.cells (madeCells #[.int .i64 0] V) 3)).set_ ix (.slice (some ⟨w.heap.size + 3 + ix, 0, none⟩) V V)
            rw [arr_set] at h2
            rw [show arr V (mk0 V (w.heap.size + 3) (ix + 1)) = arr V (fun j => if j = ix then .slice (some ⟨w.heap.size + 3 + ix, 0, none⟩) V V else mk0 V (w.heap.size + 3) ix j) from arr_congr fun j _ => by
              unfold mk0
              rcases Nat.lt_trichotomy j ix with h | h | h
              · rw [if_pos (by omega), if_neg (by omega), if_pos h]
              · subst h; rw [if_pos (by omega), if_pos rfl]; rfl
              · rw [if_neg (by omega), if_neg (by omega), if_neg (by omega)]]
            exact h2
          · rcases Nat.lt_or_ge j ix with h | h
            · exact ((hrows j h).alloc _).far (by show w.heap.size + 3 + j ≠ w.heap.size + 1; omega) _
            · obtain rfl : j = ix := by omega
              refine Blk.far ?_ (by show w.heap.size + 3 + j ≠ w.heap.size + 1; omega) _
              rw [← hz, show arr V (intV fun _ => 0) = madeCells #[.int .i64 0] V from by rw [arr_made]; rfl]
              exact Blk.new _ _ _)
        clear hb hz hx hg ho hrows hO hV0 hGi hGf hOl hVl hGl
        go_wp2
        go_roundw
        case rel => exact ⟨ix + 1, by omega, by go_num, FIN.out⟩
        case measure => simp [intOf]; omega
    · obtain rfl : V = ix := by omega
      have hM0 : Mat wr (w.heap.size + 1) (w.heap.size + 3) V (fun _ _ => 0) := ⟨by rw [show arr V (rowV (w.heap.size + 3) V) = arr V (mk0 V (w.heap.size + 3) V) from arr_congr fun j hj => by simp [mk0, hj]]; exact hg, fun i hi => hrows i hi⟩
      have hpos : 0 < w.heap.size := World.block_lt_of_cell? w ⟨0, 0, none⟩ (hT 0 (by omega))
      have hT0 := hT.below hb
      have hX1 : wr.cell? ⟨w.heap.size, 1, none⟩ = some (.slice A bs.length c) := (hx.cell 1).trans rfl
      clear hmk hV0 hO hg hrows hi hlt
      go_wp2
      refine wp_loop (fun a wr => ∃ (s6 s28 s29 s30 s31 s32 s46 : Value) (k : Nat) (ds : List Nat),
        a = { tmps := #[.agg #[.int .i64 V, .slice A bs.length c], .pointer (some ⟨w.heap.size, 0, none⟩), .slice none 0 0, .pointer (some ⟨w.heap.size + 1 + 1, 0, none⟩), u4, undef, s6, undef, undef, .pointer (some ⟨w.heap.size, 0, none⟩), .int .i64 V, .slice (some ⟨w.heap.size + 1, 0, none⟩) V V, .slice (some ⟨w.heap.size + 1, 0, none⟩) V V, .int .i64 V, .int .i64 V, .bool false, u16, u17, u18, u19, u20, u21, u22, u23, .pointer (some ⟨w.heap.size, 1, none⟩), .slice A bs.length c, .int .i64 bs.length, .int .i64 k, s28, s29, s30, s31, s32, undef, undef, undef, undef, undef, undef, undef, undef, undef, undef, undef, undef, undef, s46, undef], defers := marks ds } ∧
        k ≤ bs.length ∧ Marked (w.heap.size + 3 + V) ds wr ∧ (∃ M, Mat wr (w.heap.size + 1) (w.heap.size + 3) V M ∧ ∀ i < 7, ∀ j < 7, M i j = pairM (bs.take k) i j) ∧ Blk wr (w.heap.size + 2) 32 #[.slice (some ⟨w.heap.size + 1, 0, none⟩) V V] ∧ TabOk wr ∧ Below w.heap.size w wr) (fun a _ => bs.length - (intOf (a.tmps.getD 27 undef)).toNat) ?_ ?_
      · exact ⟨_, _, _, _, _, _, _, 0, [], rfl, by omega, Marked.nil _ _, ⟨_, hM0, fun _ _ _ _ => by simp [pairM]⟩, ho, hT0, hb⟩
      have hX := hid hx
      clear hM0 ho hT0 hb hx hX1 hz
      rintro _ wr ⟨s6, s28, s29, s30, s31, s32, s46, k, ds, rfl, hk, hm, ⟨M, hMat, hMp⟩, ho, ht, hb⟩
      have hzM : ∀ p < V, w.heap.size + 3 + p < wr.heap.size := fun p hp => (hMat.2 p hp).lt
      by_cases hlt : k < bs.length
      · obtain ⟨ad, b, e, hc, hb64, HTK⟩ := (hB.below hb).at_ hlt
        cases e
        have hbV := HBV.out b HTK.out.2.2
        have hb128 : b < 128 := Nat.lt_of_lt_of_le hbV (Nat.pow_le_pow_right (by decide) hV)
        obtain ⟨hnd, hbit, _⟩ := pts_ok hb128
        have hptV := pts_lt hbV hb128
        have hHB := hid hbit
        clear hbit
        go_upto_region 10 with (fail)
        obtain ⟨wq, hwq⟩ : ∃ wq, wr.alloc (.cells #[.int .u64 b] 48) = wq := ⟨_, rfl⟩
        have hzq : wq.heap.size = wr.heap.size + 1 := by rw [← hwq]; simp
        have hbq : Blk wq wr.heap.size 48 #[.int .u64 b] := by rw [← hwq]; exact Blk.new _ _ _
        have hwr : Below wr.heap.size wr wq := by rw [← hwq]; exact below_alloc (Below.refl _ _) _
        rw [hwq]
        clear hwq
        have hMq := hMat.below hwr
        have hoq := ho.below hwr ho.lt
        have htq := ht.below hwr
        have hbw := below_then hb hb.size hwr
        have hmq : Marked (w.heap.size + 3 + V) ds wq := ⟨hm.1, fun D hD => ⟨(hm.2 D hD).1, (hwr.block D (hm.lt D hD)).trans (hm.2 D hD).2⟩⟩
        have hDq : ∀ D ∈ ds, D < wq.heap.size := hmq.lt
        have hob := ho.lt
        have qb : wq.cell? ⟨wr.heap.size, 0, none⟩ = some (.int .u64 b) := (hbq.cell 0).trans rfl
        clear hm hMat ho ht hc
        have hbx := HBV
        go_wp2
        refine wp_range3 (gf := 20) (first := #[.int .u64 b]) (lb := #[]) rfl (enters_of Tryd.func20 (by kernel_rfl) rfl) (points_iter b wq.heap.size (by omega) wq htq)
          KT.trans ?hKb (fun _ => rfl)
          (fun pre W => Mat W (w.heap.size + 1) (w.heap.size + 3) V (mAdd M b pre) ∧ Blk W (w.heap.size + 2) 32 #[.slice (some ⟨w.heap.size + 1, 0, none⟩) V V] ∧ Blk W wr.heap.size 48 #[.int .u64 b] ∧ TabOk W ∧ Below w.heap.size w W ∧ Marked (w.heap.size + 3 + V) ds W) ?hI ?h0
          (fun p a' W => ∃ pb, a' = { tmps := #[.agg #[.int .i64 V, .slice (some ad) bs.length c], .pointer (some ⟨w.heap.size, 0, none⟩), .slice none 0 0, .pointer (some ⟨w.heap.size + 1 + 1, 0, none⟩), u4, undef, .pointer (some ⟨wr.heap.size, 0, none⟩), .pointer (some ⟨pb, 0, none⟩), undef, .pointer (some ⟨w.heap.size, 0, none⟩), .int .i64 V, .slice (some ⟨w.heap.size + 1, 0, none⟩) V V, .slice (some ⟨w.heap.size + 1, 0, none⟩) V V, .int .i64 V, .int .i64 V, .bool false, u16, u17, u18, u19, u20, u21, u22, u23, .pointer (some ⟨w.heap.size, 1, none⟩), .slice (some ad) bs.length c, .int .i64 bs.length, .int .i64 k, .bool true, .pointer (some (ad.add k)), .int .u64 b, .int .u64 b, .func (.func 20) #[.int .u64 b] #[], .int .i64 (p : Nat), undef, undef, undef, undef, undef, undef, undef, undef, undef, undef, undef, undef, s46, undef], defers := [] } ∧ Blk W pb 3 #[.int .i64 (p : Nat)] ∧ wq.heap.size + 2 ≤ pb) ?hAx ?assign ?body ?done
        case hKb => exact fun W l o o' hl hlo ho => ⟨KC.put hlo ho, fun h => h.put hlo ho⟩
        case hI => exact OwnFrom.and (Own.from (mat_own _ _ _ _) _) (OwnFrom.and (Own.from (blk_own _ _ (fun _ => #[.slice (some ⟨w.heap.size + 1, 0, none⟩) V V])) _) (OwnFrom.and (Own.from (blk_own _ _ (fun _ => #[.int .u64 b])) _) (OwnFrom.and (Own.from tab_own _) (OwnFrom.and (ownFrom_below (Nat.le_refl _) (by omega)) (Marked.ownFrom hDq)))))
        case h0 => exact ⟨hMq.congr fun i j => by simp [mAdd], hoq, hbq, htq, hbw, hmq⟩
        case hAx =>
          rintro p a' s A' A'' row ⟨pb, e, hc, hl⟩ hg hr
          exact ⟨pb, e, blk_own pb _ (fun _ : Unit => #[.int .i64 (p : Nat)]) () A' A'' row hc hg (fun r e => (hr r e).2), hl⟩
        case assign =>
          rintro l pre p W K ⟨i1, i2, i3, i4, i5, i6⟩ hsz hK
          have hal : Below W.heap.size W (W.alloc (.cells #[.int .i64 (p : Nat)] 3)) := below_alloc (Below.refl _ _) _
          have FA := hid (hK { tmps := #[.agg #[.int .i64 V, .slice (some ad) bs.length c], .pointer (some ⟨w.heap.size, 0, none⟩), .slice none 0 0, .pointer (some ⟨w.heap.size + 1 + 1, 0, none⟩), u4, undef, .pointer (some ⟨wr.heap.size, 0, none⟩), .pointer (some ⟨W.heap.size, 0, none⟩), undef, .pointer (some ⟨w.heap.size, 0, none⟩), .int .i64 V, .slice (some ⟨w.heap.size + 1, 0, none⟩) V V, .slice (some ⟨w.heap.size + 1, 0, none⟩) V V, .int .i64 V, .int .i64 V, .bool false, u16, u17, u18, u19, u20, u21, u22, u23, .pointer (some ⟨w.heap.size, 1, none⟩), .slice (some ad) bs.length c, .int .i64 bs.length, .int .i64 k, .bool true, .pointer (some (ad.add k)), .int .u64 b, .int .u64 b, .func (.func 20) #[.int .u64 b] #[], .int .i64 (p : Nat), undef, undef, undef, undef, undef, undef, undef, undef, undef, undef, undef, undef, s46, undef], defers := [] } (W.alloc (.cells #[.int .i64 (p : Nat)] 3)) (KeepsFrom.of_grownBy (World.grownBy_alloc W _ none) (by rintro j ⟨⟩)) ⟨KC.of_below hal, fun h => h.below hal⟩
            ⟨i1.below hal, i2.below hal i2.lt, i3.below hal i3.lt, i4.below hal, below_then i5 i5.size hal, ⟨i6.1, fun D hD => ⟨(i6.2 D hD).1, (hal.block D (i6.lt D hD)).trans (i6.2 D hD).2⟩⟩⟩ ⟨W.heap.size, rfl, Blk.new _ _ _, hsz⟩)
          clear hK i1 i2 i3 i4 i5 i6
          gi_wp2
          exact FA.out
        case body =>
          rintro l pre p _ W hpre hl ⟨lp, hlp⟩ hsz ⟨i1, i2, i3, i4, i5, i6⟩ ⟨pb, rfl, hpb, hpbl⟩
          have hpn := not_mem_of_prefix hnd hpre
          have hpV : p < V := hptV p (hpre.subset (by simp))
          have kb : W.cell? ⟨wr.heap.size, 0, none⟩ = some (.int .u64 b) := (i3.cell 0).trans rfl
          have hpbW := hpb.lt
          have hrW : w.heap.size + 3 + p < wr.heap.size := hzM p hpV
          gi_wp2
          refine wpIn_range_round hlp (gf := 20) (first := #[.int .u64 b]) (lb := #[]) rfl (enters_of Tryd.func20 (by kernel_rfl) rfl) (points_iter b W.heap.size (by omega) W i4)
            KT.trans ?hKb2 (fun _ => rfl)
            (fun pre2 W2 => Mat W2 (w.heap.size + 1) (w.heap.size + 3) V (mIn (mAdd M b pre) p pre2) ∧ Blk W2 (w.heap.size + 2) 32 #[.slice (some ⟨w.heap.size + 1, 0, none⟩) V V] ∧ Blk W2 wr.heap.size 48 #[.int .u64 b] ∧ TabOk W2 ∧ Below w.heap.size w W2 ∧ Marked (w.heap.size + 3 + V) ds W2 ∧ Blk W2 pb 3 #[.int .i64 (p : Nat)] ∧ KC wq.heap.size W W2 ∧ KeepsFrom wq.heap.size W W2) ?hI2 ?h02 ?a12 ?assign2 ?body2 ?done2
          case assign2 => intro l x W K hK; gi_wp2; exact hK
          case hKb2 => exact fun W l o o' hl hlo ho => ⟨KC.put hlo ho, fun h => h.put hlo ho⟩
          case hI2 => exact OwnFrom.and (Own.from (mat_own _ _ _ _) _) (OwnFrom.and (Own.from (blk_own _ _ (fun _ => #[.slice (some ⟨w.heap.size + 1, 0, none⟩) V V])) _) (OwnFrom.and (Own.from (blk_own _ _ (fun _ => #[.int .u64 b])) _) (OwnFrom.and (Own.from tab_own _) (OwnFrom.and (ownFrom_below (Nat.le_refl _) (by omega)) (OwnFrom.and (Marked.ownFrom (fun D hD => by have := hDq D hD; omega)) (OwnFrom.and (Own.from (blk_own _ _ (fun _ => #[.int .i64 (p : Nat)])) _) (OwnFrom.and (Own.from (kc_own _ _) _) (ownFrom_keepsFrom (Nat.le_refl _)))))))))
          case h02 => exact ⟨i1.congr fun i j => by simp [mIn], i2, i3, i4, i5, i6, hpb, KC.refl _ _, KeepsFrom.refl _ _⟩
          case body2 =>
            rintro l2 pre2 q W2 hpre2 ⟨j1, j2, j3, j4, j5, j6, j7, j8, j9⟩
            have hqn := not_mem_of_prefix hnd hpre2
            have hqV : q < V := hptV q (hpre2.subset (by simp))
            have k1 : W2.cell? ⟨w.heap.size + 2, 0, none⟩ = some (.slice (some ⟨w.heap.size + 1, 0, none⟩) V V) := (j2.cell 0).trans rfl
            have k2 : W2.cell? ⟨pb, 0, none⟩ = some (.int .i64 (p : Nat)) := (j7.cell 0).trans rfl
            have k3 : W2.cell? ⟨w.heap.size + 1, p, none⟩ = some (.slice (some ⟨w.heap.size + 3 + p, 0, none⟩) V V) := j1.row hpV
            obtain ⟨cv, hcv⟩ : ∃ cv, mIn (mAdd M b pre) p pre2 p q = cv := ⟨_, rfl⟩
            have hcb : cv < 2 ^ 41 := by
              have h1 := hMp p (by omega) q (by omega)
              have h2 : pairM (bs.take k) p q ≤ (bs.take k).length := List.countP_le_length
              have h3 : (bs.take k).length ≤ bs.length := by simp; omega
              rw [← hcv]
              unfold mIn mAdd
              rw [h1]
              split <;> split <;> omega
            have k4 : W2.cell? ⟨w.heap.size + 3 + p, q, none⟩ = some (.int .i64 (cv : Int)) := by rw [← hcv]; exact j1.at_ hpV hqV
            have k5 := (j1.2 p hpV).frozen q
            have hMs := j1.set (q := q) hpV (show w.heap.size + 1 < w.heap.size + 3 by omega)
            rw [hcv, show ((cv + 1 : Nat) : Int) = (cv : Int) + 1 by simp] at hMs
            have FB := hid (show KeepsFrom W.heap.size W2 (W2.setCell ⟨w.heap.size + 3 + p, q, none⟩ (.int .i64 ((cv : Int) + 1))) ∧ KT W.heap.size W2 (W2.setCell ⟨w.heap.size + 3 + p, q, none⟩ (.int .i64 ((cv : Int) + 1))) ∧
                Mat (W2.setCell ⟨w.heap.size + 3 + p, q, none⟩ (.int .i64 ((cv : Int) + 1))) (w.heap.size + 1) (w.heap.size + 3) V (mIn (mAdd M b pre) p (pre2 ++ [q])) ∧ Blk (W2.setCell ⟨w.heap.size + 3 + p, q, none⟩ (.int .i64 ((cv : Int) + 1))) (w.heap.size + 2) 32 #[.slice (some ⟨w.heap.size + 1, 0, none⟩) V V] ∧ Blk (W2.setCell ⟨w.heap.size + 3 + p, q, none⟩ (.int .i64 ((cv : Int) + 1))) wr.heap.size 48 #[.int .u64 b] ∧ TabOk (W2.setCell ⟨w.heap.size + 3 + p, q, none⟩ (.int .i64 ((cv : Int) + 1))) ∧ Below w.heap.size w (W2.setCell ⟨w.heap.size + 3 + p, q, none⟩ (.int .i64 ((cv : Int) + 1))) ∧ Marked (w.heap.size + 3 + V) ds (W2.setCell ⟨w.heap.size + 3 + p, q, none⟩ (.int .i64 ((cv : Int) + 1))) ∧ Blk (W2.setCell ⟨w.heap.size + 3 + p, q, none⟩ (.int .i64 ((cv : Int) + 1))) pb 3 #[.int .i64 (p : Nat)] ∧ KC wq.heap.size W (W2.setCell ⟨w.heap.size + 3 + p, q, none⟩ (.int .i64 ((cv : Int) + 1))) ∧ KeepsFrom wq.heap.size W (W2.setCell ⟨w.heap.size + 3 + p, q, none⟩ (.int .i64 ((cv : Int) + 1))) from by
              have hgw : W2.grownBy (W2.setCell ⟨w.heap.size + 3 + p, q, none⟩ (.int .i64 ((cv : Int) + 1))) (some (w.heap.size + 3 + p)) := grownBy_setCell W2 (w.heap.size + 3 + p) q _
              have hne : w.heap.size + 3 + p ≠ 0 := by omega
              refine ⟨KeepsFrom.of_grownBy hgw (by rintro j ⟨⟩; omega), ⟨KC.set _ (show w.heap.size + 3 + p < _ by omega) _, fun t => t.set9 hne _⟩, hMs.congr (mIn_step hqn), j2.far (by show w.heap.size + 2 ≠ w.heap.size + 3 + p; omega) _, j3.far (by show wr.heap.size ≠ w.heap.size + 3 + p; omega) _, j4.set9 hne _, j5.setCell (show w.heap.size ≤ w.heap.size + 3 + p by omega) _, ⟨j6.1, fun D hD => ⟨(j6.2 D hD).1, (Below.heap_setCell W2 _ _ D (by have := (j6.2 D hD).1; show D ≠ w.heap.size + 3 + p; omega)).trans (j6.2 D hD).2⟩⟩, j7.far (by show pb ≠ w.heap.size + 3 + p; omega) _, KC.trans j8 (KC.set _ (show w.heap.size + 3 + p < _ by omega) _), KeepsFrom.trans j9 (KeepsFrom.of_grownBy hgw (by rintro j ⟨⟩; omega))⟩)
            clear hMs j1 j2 j3 j4 j5 j6 j7 j8 j9 hcv hpre2 hpre hX HTK
            gi_wp2
            exact FB.out
          case done2 =>
            rintro W2 ⟨j1, j2, j3, j4, j5, j6, j7, j8, j9⟩
            have FC := hid (And.intro j9 (And.intro (And.intro j8 (fun _ => j4) : KT wq.heap.size W W2) (And.intro (j1.congr (mAdd_step hpn)) (And.intro j2 (And.intro j3 (And.intro j4 (And.intro j5 j6)))))))
            clear j1 j2 j3 j4 j5 j6 j7 j8 j9
            gi_wp2
            exact FC.out
        case done =>
          rintro D W hD ⟨i1, i2, i3, i4, i5, i6⟩ hDd
          have hm2 : marks (D :: ds) = { target := .collected D, args := #[] } :: marks ds := rfl
          rw [← hm2]
          have hMk : Marked (w.heap.size + 3 + V) (D :: ds) W := ⟨List.nodup_cons.2 ⟨fun h => by have := hDq D h; omega, i6.1⟩, fun E hE => by
            rcases List.mem_cons.1 hE with rfl | hE
            · refine ⟨?_, hDd⟩
              rcases Nat.eq_zero_or_pos V with h0 | h0
              · omega
              · have := hzM (V - 1) (by omega); omega
            · exact i6.2 E hE⟩
          have hMe : ∃ M', Mat W (w.heap.size + 1) (w.heap.size + 3) V M' ∧ ∀ i < 7, ∀ j < 7, M' i j = pairM (bs.take (k + 1)) i j := ⟨_, i1, fun i hi j hj => by
            rw [← pairM_step HTK.out.1 hb128 hi hj]
            unfold mAdd
            rw [hMp i hi j hj]⟩
          have FD := hid (And.intro hMk (And.intro hMe (And.intro i2 (And.intro i4 i5))))
          clear hMk hMe i1 i2 i3 i4 i5 i6 hX HTK
          go_wp2
          obtain ⟨d1, d2, d3, d4, d5⟩ := FD.out
          exact ⟨⟨_, _, _, _, _, _, _, k + 1, D :: ds, rfl, by omega, d1, d2, d3, d4, d5⟩, by simp [intOf]; omega⟩
      · obtain rfl : k = bs.length := by omega
        rw [List.take_length] at hMp
        have hMf : Mat wr (w.heap.size + 1) (w.heap.size + 3) V (pairM bs) := ⟨hMat.1, fun i hi => by
          rw [show arr V (intV (pairM bs i)) = arr V (intV (M i)) from arr_congr fun j hj => by unfold intV; rw [hMp i (by omega) j (by omega)]]
          exact hMat.2 i hi⟩
        have hP := putAll_own (mat_own (w.heap.size + 1) (w.heap.size + 3) V (fun _ : Unit => pairM bs)) (s := ()) ds wr hm hMf
        have k1 : wr.cell? ⟨w.heap.size + 2, 0, none⟩ = some (.slice (some ⟨w.heap.size + 1, 0, none⟩) V V) := (ho.cell 0).trans rfl
        go_wp2
        refine m_rets (v := .slice (some ⟨w.heap.size + 1, 0, none⟩) V V) rfl hm (by simp [results, Tryd.results6, go_sem]) ⟨_, _, rfl, hP, ?_⟩
        exact putAll_below ds wr (hm.of_le (by omega)) hb
end Go.Proofs.YtmfmlfaglemgfaaDoor
