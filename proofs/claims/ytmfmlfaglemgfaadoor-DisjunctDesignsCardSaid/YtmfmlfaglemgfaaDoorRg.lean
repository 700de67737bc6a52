/- A law for a range over a function whose yields are a known list, at whatever bound receiver; in the plain calculus. -/
import Derived.Test.YtmfmlfaglemgfaaDoorIw
import Derived.RangeFuncWrites
import Derived.RangeFuncNested
import Derived.RangeFuncLeaves
namespace Go.Proofs.YtmfmlfaglemgfaaDoor
set_option linter.unusedSimpArgs false
set_option linter.unusedVariables false
open Go.RowKit Go.Lib Go.Shelf Go.Proofs.YtmfmlfaglemgfaaDoorW.PrintWords

/-- A call of f yields just xs, in this order, to whatever loop whose rounds keep Kp; `mk` lays the loop's yield among the arguments. -/
def Iter {α : Type} (P : Program) (f : FuncId) (mk : Value → Array Value) (encs : α → Array Value) (Kp : World → World → Prop) (xs : List α) (w : World) : Prop :=
  ∀ (l : Nat) (J Jx : List α → World → Prop) (W : World), Below w.heap.size w W → OwnFrom W.heap.size J → OwnFrom W.heap.size Jx →
    (∀ m pre x W1, pre ++ [x] <+: xs → J pre W1 → YieldAt Fence.wide m P l (encs x) W1 fun e W' =>
      (e = .returned (.bool true) ∧ J (pre ++ [x]) W' ∧ Kp W1 W') ∨ (e = .returned (.bool false) ∧ Jx (pre ++ [x]) W')) →
    J [] W →
    Calls P f (mk (.func (.yield l) #[] #[])) W fun e W' => (∃ v, e = .returned v) ∧ (J xs W' ∨ ∃ pre, pre <+: xs ∧ Jx pre W')

/-- The same, for a walk that begins behind the loop's own two objects. -/
def Iter2 {α : Type} (P : Program) (f : FuncId) (mk : Value → Array Value) (encs : α → Array Value) (Kp Kx : World → World → Prop) (xs : List α) (w : World) : Prop :=
  ∀ (l : Nat) (J Jx : List α → World → Prop) (W : World), Below w.heap.size w W → w.heap.size + 2 ≤ W.heap.size → OwnFrom W.heap.size J → OwnFrom W.heap.size Jx →
    (∀ m pre x W1, pre ++ [x] <+: xs → J pre W1 → YieldAt Fence.wide m P l (encs x) W1 fun e W' =>
      (e = .returned (.bool true) ∧ J (pre ++ [x]) W' ∧ Kp W1 W') ∨ (e = .returned (.bool false) ∧ Jx (pre ++ [x]) W' ∧ Kx W1 W')) →
    J [] W →
    Calls P f (mk (.func (.yield l) #[] #[])) W fun e W' => (∃ v, e = .returned v) ∧ (J xs W' ∨ ∃ pre, pre <+: xs ∧ Jx pre W')
theorem Iter.two {α : Type} {P : Program} {f : FuncId} {mk : Value → Array Value} {encs : α → Array Value} {Kp : World → World → Prop} {xs : List α} {w : World} (h : Iter P f mk encs Kp xs w) : Iter2 P f mk encs Kp (fun _ _ => True) xs w :=
  fun l J Jx W hb _ hJ hJx hY h0 => h l J Jx W hb hJ hJx (fun m pre x W1 hp hj => by
    obtain ⟨fn, tmps, assign, body, hy, hR⟩ := hY m pre x W1 hp hj
    exact ⟨fn, tmps, assign, body, hy, RoundIn.mono hR (fun e W' hh => hh.imp id (fun ⟨a, b, _⟩ => ⟨a, b⟩))⟩) h0

theorem wp_range2 {α : Type} {P : Program} {g : Operand} {ps : Array Tmp} {assign body : Code} {Q : Exit → Act → World → Prop} {a : Act} {w : World}
    {gf : Nat} {first lb : Array Value} (hg : a.eval g = .func (.func gf) first lb) (eg : ∀ args w, (callFunc gf args).run P w = .ok (.enter gf args) w)
    {encs : α → Array Value} {Kp Kx : World → World → Prop} {xs : List α} (hit : Iter2 P gf (fun y => first ++ #[y] ++ lb) encs Kp Kx xs w)
    (hKt : ∀ {A B C : World}, Kp A B → Kp B C → Kp A C) (hKb : ∀ (W : World) (o o' : Obj), W.heap[w.heap.size + 1]? = some o → o.isCells = false → Kp W (W.putObj (w.heap.size + 1) o')) (hps : ∀ x, (encs x).size = ps.size)
    (I : List α → World → Prop) (Ix : Code → List α → World → Prop) (hKx : ∀ c pre W W' W'', Ix c pre W' → W'.heap.size ≤ W''.heap.size → Kx W W'') (hI : OwnFrom w.heap.size I) (hIx : ∀ c, OwnFrom w.heap.size (Ix c)) (h0 : I [] w) (a₁ : α → Act)
    (hassign : ∀ (l : Nat) (x : α) (W : World) (K : Act → World → Prop), K (a₁ x) W →
      assign.wpIn (Fence.wide.inRound l) 6 P (Exit.then K (fun _ _ _ => False)) { tmps := (ps.zip (encs x)).foldl (fun t (p, v) => t.setIfInBounds p v) a.tmps, defers := [] } W)
    (hbody : ∀ (l : Nat) (pre : List α) (x : α) (W : World), pre ++ [x] <+: xs → I pre W → body.wpIn (Fence.wide.inRound l) 6 P (ownPostG w.heap.size Kp I Ix (pre ++ [x]) W) (a₁ x) W)
    (hdone : ∀ (D : Nat) (W : World), w.heap.size ≤ D → I xs W → W.heap[D]? = some (.deferred (some [])) → Q .normal { a with defers := { target := .collected D, args := #[] } :: a.defers } W)
    (hstop : ∀ (D : Nat) (c : Code) (pre : List α) (W : World), w.heap.size ≤ D → pre <+: xs → Ix c pre W → W.heap[D]? = some (.deferred (some [])) → c.wp P Q { a with defers := { target := .collected D, args := #[] } :: a.defers } W) :
    (Code.rangeFunc g ps assign body).wp P Q a w := by
  refine (wpIn_wide (n := 8)).1 (wpIn_rangeFunc ?_)
  intro fn hfn
  let L : LoopState → Option Code → Obj := fun st pe => .loop { state := st, pending := pe, fn, tmps := a.tmps, params := ps, assign, body, defers := w.heap.size }
  obtain ⟨W1, hW1⟩ : ∃ W1, (w.alloc (.deferred (some []))).alloc (L .ready none) = W1 := ⟨_, rfl⟩
  have hL1 : W1.heap[w.heap.size + 1]? = some (L .ready none) := by rw [← hW1]; exact heap_new (by simp)
  have hK1 : W1.heap[w.heap.size]? = some (.deferred (some [])) := by rw [← hW1]; exact blk_alloc (heap_new rfl) _
  have hz1 : W1.heap.size = w.heap.size + 2 := by rw [← hW1]; simp
  have hb1 : Below w.heap.size w W1 := by rw [← hW1]; exact below_alloc (below_alloc (Below.refl _ _) _) _
  have hI1 : I [] W1 := by rw [← hW1]; exact hI.alloc _ (hI.alloc _ h0)
  refine ⟨w.heap.size + 1, [{ target := .collected w.heap.size, args := #[] }], W1, { target := .fn (.func gf) lb, args := first ++ #[.func (.yield (w.heap.size + 1)) #[] #[]] }, W1, gf,
    first ++ #[.func (.yield (w.heap.size + 1)) #[] #[]] ++ lb, W1, ?_, ?_, fun _ _ => trivial, ?_, fun _ => by decide, ?_⟩
  · rw [← hW1]; exact run_enterLoop_outer _ _ _ _ _
  · simp only [resolve, hg]
    simp [go_sem]
  · simp [invoke, go_sem, eg]
  · refine callsIn_wide.2 ((hit (w.heap.size + 1)
      (fun pre W => I pre W ∧ W.heap[w.heap.size + 1]? = some (L .ready none) ∧ W.heap[w.heap.size]? = some (.deferred (some [])))
      (fun pre W => ∃ c, Ix c pre W ∧ W.heap[w.heap.size + 1]? = some (L .done (some c)) ∧ W.heap[w.heap.size]? = some (.deferred (some [])))
      W1 hb1 (by omega) ?_ ?_ ?_ ⟨hI1, hL1, hK1⟩).mono ?_)
    · rintro s A A' row ⟨hi, hl, hk⟩ hg' hr
      have hr' : ∀ r, row = some r → w.heap.size ≤ r ∧ ∃ o : Obj, A.heap[r]? = some o ∧ o.isCells = false := fun r e => ⟨by have := (hr r e).1; omega, (hr r e).2⟩
      exact ⟨hI s A A' row hi hg' hr', (hg'.block _ (blk_lt hl) (fun e => by have := (hr _ e.symm).1; omega)).trans hl, (hg'.block _ (blk_lt hk) (fun e => by have := (hr _ e.symm).1; omega)).trans hk⟩
    · rintro s A A' row ⟨c, hi, hl, hk⟩ hg' hr
      have hr' : ∀ r, row = some r → w.heap.size ≤ r ∧ ∃ o : Obj, A.heap[r]? = some o ∧ o.isCells = false := fun r e => ⟨by have := (hr r e).1; omega, (hr r e).2⟩
      exact ⟨c, hIx c s A A' row hi hg' hr', (hg'.block _ (blk_lt hl) (fun e => by have := (hr _ e.symm).1; omega)).trans hl, (hg'.block _ (blk_lt hk) (fun e => by have := (hr _ e.symm).1; omega)).trans hk⟩
    · rintro m pre x W hpre ⟨hi, hl, hk⟩
      refine YieldAt.anyDepth rfl (m := 6) m ?_
      refine ⟨fn, _, assign, body, run_yield (args := encs x) hl (hps x), roundIn_of_wpIn hfn (hassign _ x W _ ?_)⟩
      refine ⟨_, run_beginRound hl rfl, ?_⟩
      obtain ⟨Wb, hWb⟩ : ∃ Wb, W.putObj (w.heap.size + 1) (L .busy none) = Wb := ⟨_, rfl⟩
      have hl2 : Wb.heap[w.heap.size + 1]? = some (L .busy none) := by rw [← hWb]; exact World.putObj_heap_same (blk_lt hl)
      have hk2 : Wb.heap[w.heap.size]? = some (.deferred (some [])) := by rw [← hWb]; exact (World.putObj_heap_other (by omega)).trans hk
      have hkc : Kp W Wb := by rw [← hWb]; exact hKb _ _ _ hl rfl
      have hib : I pre Wb := by rw [← hWb]; exact hI.putObj _ hi (by omega) hl rfl
      show body.wpIn (Fence.wide.inRound (w.heap.size + 1)) 6 P _ _ (W.putObj (w.heap.size + 1) (L .busy none))
      rw [hWb]
      refine wpIn_mono (hbody _ pre x Wb hpre hib) ?_
      have fin : ∀ (jump : Option Code) (W3 : World), KeepsFrom w.heap.size Wb W3 →
          (Instr.endRound (w.heap.size + 1) jump).run P W3 = .ok (.bool jump.isNone) (W3.putObj (w.heap.size + 1) (L (if jump.isNone then .ready else .done) jump)) ∧
          W3.heap[w.heap.size + 1]? = some (L .busy none) ∧
          (W3.putObj (w.heap.size + 1) (L (if jump.isNone then .ready else .done) jump)).heap[w.heap.size + 1]? = some (L (if jump.isNone then .ready else .done) jump) ∧
          (W3.putObj (w.heap.size + 1) (L (if jump.isNone then .ready else .done) jump)).heap[w.heap.size]? = some (.deferred (some [])) := fun jump W3 hk3 => by
        have hl3 := hk3.same _ _ (by omega) hl2 rfl
        exact ⟨run_endRound (P := P) jump hl3, hl3, World.putObj_heap_same (blk_lt hl3), (World.putObj_heap_other (by omega)).trans (hk3.same _ _ (Nat.le_refl _) hk2 rfl)⟩
      rintro e a3 W3 hp
      cases e with
      | normal =>
        obtain ⟨hk3, hkp3, hi3⟩ := hp
        obtain ⟨hr, hl3, hl4, hk4⟩ := fin none W3 hk3
        exact ⟨_, _, hr, .inl ⟨rfl, ⟨hI.putObj _ hi3 (by omega) hl3 rfl, hl4, hk4⟩, hKt hkc (hKt hkp3 (hKb _ _ _ hl3 rfl))⟩⟩
      | ret =>
        obtain ⟨hk3, hi3⟩ := hp
        obtain ⟨hr, hl3, hl4, hk4⟩ := fin (some .ret) W3 hk3
        exact ⟨_, _, hr, .inr ⟨rfl, ⟨.ret, (hIx _).putObj _ hi3 (by omega) hl3 rfl, hl4, hk4⟩, hKx _ _ _ _ _ hi3 (by simp)⟩⟩
      | exit id =>
        obtain ⟨hk3, hi3⟩ := hp
        obtain ⟨hr, hl3, hl4, hk4⟩ := fin (some (.exit id)) W3 hk3
        exact ⟨_, _, hr, .inr ⟨rfl, ⟨.exit id, (hIx _).putObj _ hi3 (by omega) hl3 rfl, hl4, hk4⟩, hKx _ _ _ _ _ hi3 (by simp)⟩⟩
      | goto t =>
        obtain ⟨hk3, hi3⟩ := hp
        obtain ⟨hr, hl3, hl4, hk4⟩ := fin (some (.goto t)) W3 hk3
        exact ⟨_, _, hr, .inr ⟨rfl, ⟨.goto t, (hIx _).putObj _ hi3 (by omega) hl3 rfl, hl4, hk4⟩, hKx _ _ _ _ _ hi3 (by simp)⟩⟩
      | panic ch => exact hp.elim
      | outgrown => exact hp.elim
    · rintro e W2 ⟨⟨v, rfl⟩, (⟨hi, hl, hk⟩ | ⟨pre, hSp, c, hi, hl, hk⟩)⟩
      · exact ⟨none, _, run_endLoop (P := P) hl (fun h => by cases h), hdone _ _ (Nat.le_refl _) (hI.putObj _ hi (by omega) hl rfl) ((World.putObj_heap_other (by omega)).trans hk)⟩
      · exact ⟨some c, _, run_endLoop (P := P) hl (fun h => by cases h), wpIn_wide.2 (hstop _ c pre _ (Nat.le_refl _) hSp ((hIx c).putObj _ hi (by omega) hl rfl) ((World.putObj_heap_other (by omega)).trans hk))⟩

theorem wp_range {α : Type} {P : Program} {g : Operand} {ps : Array Tmp} {assign body : Code} {Q : Exit → Act → World → Prop} {a : Act} {w : World}
    {gf : Nat} {first lb : Array Value} (hg : a.eval g = .func (.func gf) first lb) (eg : ∀ args w, (callFunc gf args).run P w = .ok (.enter gf args) w)
    {encs : α → Array Value} {Kp : World → World → Prop} {xs : List α} (hit : Iter P gf (fun y => first ++ #[y] ++ lb) encs Kp xs w)
    (hKt : ∀ {A B C : World}, Kp A B → Kp B C → Kp A C) (hKb : ∀ (W : World) (l : Nat) (o o' : Obj), w.heap.size ≤ l → W.heap[l]? = some o → o.isCells = false → Kp W (W.putObj l o')) (hps : ∀ x, (encs x).size = ps.size)
    (I : List α → World → Prop) (Ix : Code → List α → World → Prop) (hI : OwnFrom w.heap.size I) (hIx : ∀ c, OwnFrom w.heap.size (Ix c)) (h0 : I [] w) (a₁ : α → Act)
    (hassign : ∀ (l : Nat) (x : α) (W : World) (K : Act → World → Prop), K (a₁ x) W →
      assign.wpIn (Fence.wide.inRound l) 6 P (Exit.then K (fun _ _ _ => False)) { tmps := (ps.zip (encs x)).foldl (fun t (p, v) => t.setIfInBounds p v) a.tmps, defers := [] } W)
    (hbody : ∀ (l : Nat) (pre : List α) (x : α) (W : World), pre ++ [x] <+: xs → I pre W → body.wpIn (Fence.wide.inRound l) 6 P (ownPostG w.heap.size Kp I Ix (pre ++ [x]) W) (a₁ x) W)
    (hdone : ∀ (D : Nat) (W : World), w.heap.size ≤ D → I xs W → W.heap[D]? = some (.deferred (some [])) → Q .normal { a with defers := { target := .collected D, args := #[] } :: a.defers } W)
    (hstop : ∀ (D : Nat) (c : Code) (pre : List α) (W : World), w.heap.size ≤ D → pre <+: xs → Ix c pre W → W.heap[D]? = some (.deferred (some [])) → c.wp P Q { a with defers := { target := .collected D, args := #[] } :: a.defers } W) :
    (Code.rangeFunc g ps assign body).wp P Q a w :=
  wp_range2 hg eg hit.two hKt (fun W o o' h1 h2 => hKb W _ o o' (by omega) h1 h2) hps I Ix (fun _ _ _ _ _ _ _ => trivial) hI hIx h0 a₁ hassign hbody hdone hstop

theorem KC.keeps {B : Nat} {W W' : World} {p : World → Prop} (h : KC B W W') (hp : p W → p W') : KC B W W' ∧ (p W → p W') := ⟨h, hp⟩

/-- The marks that several loops over functions have left, taken up at the function's end. -/
def putAll (W : World) (ds : List Nat) : World := ds.foldl (fun W D => W.putObj D (.deferred none)) W
def marks (ds : List Nat) : List Deferred := ds.map fun D => { target := .collected D, args := #[] }
def Marked (B : Nat) (ds : List Nat) (W : World) : Prop := ds.Nodup ∧ ∀ D ∈ ds, B ≤ D ∧ W.heap[D]? = some (.deferred (some []))
theorem Marked.nil (B : Nat) (W : World) : Marked B [] W := ⟨List.nodup_nil, by simp⟩
theorem Marked.put {B D : Nat} {ds : List Nat} {W : World} (h : Marked B (D :: ds) W) : Marked B ds (W.putObj D (.deferred none)) := by
  obtain ⟨hn, hm⟩ := h
  obtain ⟨hD, hn⟩ := List.nodup_cons.1 hn
  exact ⟨hn, fun E hE => ⟨(hm E (by simp [hE])).1, (World.putObj_heap_other (fun e => by subst e; exact hD hE)).trans (hm E (by simp [hE])).2⟩⟩
theorem Marked.grown {B : Nat} {ds : List Nat} {W W' : World} {row : Option Nat} (h : Marked B ds W) (hg : W.grownBy W' row) (hr : ∀ r, row = some r → ∃ o : Obj, W.heap[r]? = some o ∧ o.isCells = true) : Marked B ds W' :=
  ⟨h.1, fun D hD => ⟨(h.2 D hD).1, (hg.block D (blk_lt (h.2 D hD).2) (fun e => by
    obtain ⟨o, ho, hc⟩ := hr D e.symm
    rw [(h.2 D hD).2] at ho
    cases ho
    cases hc)).trans (h.2 D hD).2⟩⟩
theorem leaves_marks {P : Program} {fn : Func} {n B : Nat} {tmps : Array Value} {R : Ending → World → Prop} : ∀ (ds : List Nat) (W : World), Marked B ds W →
    LeavesInM Fence.wide n P fn tmps R [] .returning (putAll W ds) → LeavesInM Fence.wide n P fn tmps R (marks ds) .returning W
  | [], W, _, h => h
  | D :: ds, W, hm, h => ⟨by simp, .inl ⟨D, _, rfl, run_takeDeferred (hm.2 D (by simp)).2, leaves_marks ds _ hm.put h⟩⟩
theorem putAll_own {β : Type} {I : β → World → Prop} (hI : Own I) {s : β} {B : Nat} : ∀ (ds : List Nat) (W : World), Marked B ds W → I s W → I s (putAll W ds)
  | [], W, _, h => h
  | D :: ds, W, hm, h => putAll_own hI ds _ hm.put (hI s W _ (some D) h (grownBy_putObj' W D _) (fun r e => by cases e; exact ⟨_, (hm.2 D (by simp)).2, rfl⟩))
theorem putAll_below {B : Nat} {w : World} : ∀ (ds : List Nat) (W : World), Marked B ds W → Below B w W → Below B w (putAll W ds)
  | [], W, _, h => h
  | D :: ds, W, hm, h => putAll_below ds _ hm.put ⟨h.os, h.tape, h.output, by simpa using h.size, fun k hk => (World.putObj_heap_other (by have := (hm.2 D (by simp)).1; omega)).trans (h.block k hk)⟩
theorem m_rets {P : Program} {fn : Func} {n B : Nat} {R : Ending → World → Prop} {a : Act} {w : World} {v : Value} {ds : List Nat} (hd : a.defers = marks ds) (hm : Marked B ds w)
    (hr : (results fn a.tmps).run P (putAll w ds) = .ok v (putAll w ds)) (h : R (.returned v) (putAll w ds)) : bodyPostM Fence.wide n P fn R .ret a w := by
  show LeavesInM Fence.wide n P fn a.tmps R a.defers .returning w
  rw [hd]
  exact leaves_marks ds w hm ⟨v, hr, h⟩
end Go.Proofs.YtmfmlfaglemgfaaDoor
