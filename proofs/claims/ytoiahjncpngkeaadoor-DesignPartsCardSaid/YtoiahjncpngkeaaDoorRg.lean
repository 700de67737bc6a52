/- math/bits.TrailingZeros64, walked, where its table lies as the program's text lays it. -/
/- A law for a range over a function whose yields are a known list, at whatever bound receiver; in the plain calculus. -/
import Derived.Test.YtoiahjncpngkeaaDoorR6
import Derived.KernelRfl
import Derived.Test.YtoiahjncpngkeaaDoorIt
import Derived.RangeFuncWrites
import Derived.RangeFuncNested
import Derived.RangeFuncLeaves
namespace Go.Proofs.YtoiahjncpngkeaaDoor
set_option linter.unusedSimpArgs false
set_option linter.unusedVariables false
open Go.RowKit Go.Lib Go.Proofs.YtoiahjncpngkeaaDoorW.PrintWords

/-- The place of the least bit. -/
def ctz : Nat → Nat → Nat
  | 0, _ => 0
  | k + 1, x => if x % 2 = 1 then 0 else ctz k (x / 2) + 1
theorem ctz_form : ∀ (k x : Nat), 0 < x → x < 2 ^ k → ctz k x < k ∧ ∃ m, x = 2 ^ ctz k x * (2 * m + 1)
  | 0, x, h0, h => by simp at h; omega
  | k + 1, x, h0, h => by
    unfold ctz
    by_cases h1 : x % 2 = 1
    · rw [if_pos h1]
      exact ⟨by omega, x / 2, by omega⟩
    · rw [if_neg h1]
      obtain ⟨h2, m, hm⟩ := ctz_form k (x / 2) (by omega) (by rw [Nat.pow_succ] at h; omega)
      refine ⟨by omega, m, ?_⟩
      rw [Nat.pow_succ]
      have e1 : x = 2 * (x / 2) := by omega
      have e2 : 2 * (x / 2) = 2 ^ ctz k (x / 2) * 2 * (2 * m + 1) := by
        conv => lhs; rw [hm]
        rw [← Nat.mul_assoc, Nat.mul_comm 2 (2 ^ _)]
      exact e1.trans e2
theorem low_bit {x : Nat} (h0 : 0 < x) (hx : x < 2 ^ 64) : x &&& (2 ^ 64 - x) = 2 ^ ctz 64 x := by
  obtain ⟨hl, m, hm⟩ := ctz_form 64 x h0 hx
  generalize ctz 64 x = j at hl hm
  have hp := Nat.two_pow_pos j
  have hy : x - 1 = 2 ^ j * (2 * m) + (2 ^ j - 1) := by
    have h1 : x = 2 ^ j * (2 * m) + 2 ^ j := by rw [Nat.mul_add, Nat.mul_one] at hm; exact hm
    clear hm
    generalize 2 ^ j * (2 * m) = A at h1 ⊢
    generalize 2 ^ j = P at h1 hp ⊢
    omega
  apply Nat.eq_of_testBit_eq
  intro i
  rw [Nat.testBit_and, show 2 ^ 64 - x = 2 ^ 64 - ((x - 1) + 1) from by omega, Nat.testBit_two_pow_sub_succ (by omega), hy, Nat.testBit_two_pow_mul_add _ (by omega), Nat.testBit_two_pow]
  rw [show x = 2 ^ j * (2 * m + 1) + 0 from hm, Nat.testBit_two_pow_mul_add _ hp]
  by_cases hi : i < j
  · simp [hi]
    omega
  · rw [if_neg hi, if_neg hi]
    by_cases e : i = j
    · subst e; simp [hl]
    · obtain ⟨k, hk⟩ : ∃ k, i - j = k + 1 := ⟨i - j - 1, by omega⟩
      rw [hk, Nat.testBit_succ, Nat.testBit_succ, show (2 * m + 1) / 2 = m from by omega, show 2 * m / 2 = m from by omega]
      have : ¬ j = i := fun h => e h.symm
      simp [this]
      intro h _
      exact h
/-- The library's table. -/
def dbTab : List Nat := [0, 1, 56, 2, 57, 49, 28, 3, 61, 58, 42, 50, 38, 29, 17, 4, 62, 47, 59, 36, 45, 43, 51, 22, 53, 39, 33, 30, 24, 18, 12, 5, 63, 55, 48, 27, 60, 41, 37, 16, 46, 35, 44, 21, 52, 32, 23, 11, 54, 26, 40, 15, 34, 20, 31, 10, 25, 14, 19, 9, 13, 8, 7, 6]
theorem db_at : ∀ j < 64, 2 ^ j * 285870213051353865 % 18446744073709551616 / 288230376151711744 < 64 ∧ dbTab.getD (2 ^ j * 285870213051353865 % 18446744073709551616 / 288230376151711744) 0 = j := by decide +kernel
/-- The library's table lies in memory. -/
def TabOk (w : World) : Prop := ∀ i, i < 64 → w.cell? ⟨0, i, none⟩ = some (.int .u8 ((dbTab.getD i 0 : Nat) : Int))
theorem TabOk.below {w w1 : World} (h : TabOk w) (hb : Below w.heap.size w w1) : TabOk w1 := fun i hi =>
  (hb.cell (p := ⟨0, i, none⟩) (World.block_lt_of_cell? w ⟨0, i, none⟩ (h i hi))).trans (h i hi)
theorem wrapU_mod' (a : Nat) : IntKind.u64.wrap (a : Int) = ((a % 18446744073709551616 : Nat) : Int) := by
  simp [IntKind.wrap, IntKind.bits, IntKind.signed]
theorem tz_form {x : Nat} (h0 : 0 < x) (hx : x < 2 ^ 64) :
    (IntKind.u64.wrap (bits BinOp.and IntKind.u64 (x : Int) (IntKind.u64.wrap (-(x : Int))) * 285870213051353865) / 288230376151711744) = ((2 ^ ctz 64 x * 285870213051353865 % 18446744073709551616 / 288230376151711744 : Nat) : Int) := by
  have h1 : IntKind.u64.wrap (-(x : Int)) = ((2 ^ 64 - x : Nat) : Int) := by
    simp [IntKind.wrap, IntKind.bits, IntKind.signed]; omega
  rw [h1, uand hx (by omega), low_bit h0 hx, show ((2 ^ ctz 64 x : Nat) : Int) * 285870213051353865 = ((2 ^ ctz 64 x * 285870213051353865 : Nat) : Int) from by simp, wrapU_mod']
  simp
set_option maxHeartbeats 1000000 in
set_option maxRecDepth 100000 in
theorem tz_any (x : Nat) (hx : x < 2 ^ 64) (h0 : 0 < x) (w : World) (hT : TabOk w) :
    Calls Tryd.prog 64 #[.int .u64 x] w fun e w' => e = .returned (.int .i64 (ctz 64 x)) ∧ w' = w := by
  obtain ⟨hj, _⟩ := ctz_form 64 x h0 hx
  obtain ⟨hi, hv⟩ := db_at _ hj
  obtain ⟨q, hq⟩ : ∃ q, (2 ^ ctz 64 x * 285870213051353865 % 18446744073709551616 / 288230376151711744 : Nat) = q := ⟨_, rfl⟩
  have HF := tz_form h0 hx
  rw [hq] at hi hv HF
  have hc := hT q hi
  rw [hv] at hc
  clear hv hT
  have H0 := hid h0
  have hz : ((x : Int) == 0) = false := by simp; omega
  have h00 : 0 ≤ (q : Int) := by omega
  have h01 : (q : Int) < 64 := by omega
  have h63 : ctz 64 x < 256 := by omega
  clear hq hj
  go_enter Tryd.func64, Tryd.ntmps64
  go_wp2
  go_ret
  exact ⟨ret_i64 (by first | rfl | exact wrap64_nat (by omega)), rfl⟩
end Go.Proofs.YtoiahjncpngkeaaDoor


namespace Go.Proofs.YtoiahjncpngkeaaDoor
set_option linter.unusedSimpArgs false
set_option linter.unusedVariables false
open Go.RowKit Go.Lib Go.Shelf Go.Proofs.YtoiahjncpngkeaaDoorW.PrintWords

/-- A call of f yields just xs, in this order, to whatever loop whose rounds keep Kp; `mk` lays the loop's yield among the arguments. -/
def Iter {α : Type} (P : Program) (f : FuncId) (mk : Value → Array Value) (encs : α → Array Value) (Kp : World → World → Prop) (xs : List α) (w : World) : Prop :=
  ∀ (l : Nat) (J Jx : List α → World → Prop) (W : World), Below w.heap.size w W → OwnFrom W.heap.size J → OwnFrom W.heap.size Jx →
    (∀ m pre x W1, pre ++ [x] <+: xs → J pre W1 → YieldAt Fence.wide m P l (encs x) W1 fun e W' =>
      (e = .returned (.bool true) ∧ J (pre ++ [x]) W' ∧ Kp W1 W') ∨ (e = .returned (.bool false) ∧ Jx (pre ++ [x]) W')) →
    J [] W →
    Calls P f (mk (.func (.yield l) #[] #[])) W fun e W' => (∃ v, e = .returned v) ∧ (J xs W' ∨ ∃ pre, pre <+: xs ∧ Jx pre W')

theorem wp_range {α : Type} {P : Program} {g : Operand} {ps : Array Tmp} {assign body : Code} {Q : Exit → Act → World → Prop} {a : Act} {w : World}
    {gf : Nat} {first lb : Array Value} (hg : a.eval g = .func (.func gf) first lb) (eg : ∀ args w, (callFunc gf args).run P w = .ok (.enter gf args) w)
    {encs : α → Array Value} {Kp : World → World → Prop} {xs : List α} (hit : Iter P gf (fun y => first ++ #[y] ++ lb) encs Kp xs w)
    (hKt : ∀ {A B C : World}, Kp A B → Kp B C → Kp A C) (hKb : ∀ (W : World) (l : Nat) (o o' : Obj), w.heap.size ≤ l → W.heap[l]? = some o → o.isCells = false → Kp W (W.putObj l o')) (hps : ∀ x, (encs x).size = ps.size)
    (I : List α → World → Prop) (Ix : Code → List α → World → Prop) (hI : OwnFrom w.heap.size I) (hIx : ∀ c, OwnFrom w.heap.size (Ix c)) (h0 : I [] w) (a₁ : α → Act)
    (hassign : ∀ (l : Nat) (x : α) (W : World) (K : Act → World → Prop), K (a₁ x) W →
      assign.wpIn (Fence.wide.inRound l) 6 P (Exit.then K (fun _ _ _ => False)) { tmps := (ps.zip (encs x)).foldl (fun t (p, v) => t.setIfInBounds p v) a.tmps, defers := [] } W)
    (hbody : ∀ (l : Nat) (pre : List α) (x : α) (W : World), pre ++ [x] <+: xs → I pre W → body.wpIn (Fence.wide.inRound l) 6 P (ownPostG w.heap.size Kp I Ix (pre ++ [x]) W) (a₁ x) W)
    (hdone : ∀ (D : Nat) (W : World), w.heap.size ≤ D → I xs W → W.heap[D]? = some (.deferred (some [])) → Q .normal { a with defers := { target := .collected D, args := #[] } :: a.defers } W)
    (hstop : ∀ (D : Nat) (c : Code) (pre : List α) (W : World), w.heap.size ≤ D → pre <+: xs → Ix c pre W → W.heap[D]? = some (.deferred (some [])) → c.wp P Q { a with defers := { target := .collected D, args := #[] } :: a.defers } W) :
    (Code.rangeFunc g ps assign body).wp P Q a w := by
  refine (wpIn_wide (n := 8)).1 (wpIn_rangeFunc ?_)
  intro fn hfn
  let L : LoopState → Option Code → Obj := fun st pe => .loop { state := st, pending := pe, fn, tmps := a.tmps, params := ps, assign, body, defers := w.heap.size }
  obtain ⟨W1, hW1⟩ : ∃ W1, (w.alloc (.deferred (some []))).alloc (L .ready none) = W1 := ⟨_, rfl⟩
  have hL1 : W1.heap[w.heap.size + 1]? = some (L .ready none) := by rw [← hW1]; exact heap_new (by simp)
  have hK1 : W1.heap[w.heap.size]? = some (.deferred (some [])) := by rw [← hW1]; exact blk_alloc (heap_new rfl) _
  have hz1 : W1.heap.size = w.heap.size + 2 := by rw [← hW1]; simp
  have hb1 : Below w.heap.size w W1 := by rw [← hW1]; exact below_alloc (below_alloc (Below.refl _ _) _) _
  have hI1 : I [] W1 := by rw [← hW1]; exact hI.alloc _ (hI.alloc _ h0)
  refine ⟨w.heap.size + 1, [{ target := .collected w.heap.size, args := #[] }], W1, { target := .fn (.func gf) lb, args := first ++ #[.func (.yield (w.heap.size + 1)) #[] #[]] }, W1, gf,
    first ++ #[.func (.yield (w.heap.size + 1)) #[] #[]] ++ lb, W1, ?_, ?_, fun _ _ => trivial, ?_, fun _ => by decide, ?_⟩
  · rw [← hW1]; exact run_enterLoop_outer _ _ _ _ _
  · simp only [resolve, hg]
    simp [go_sem]
  · simp [invoke, go_sem, eg]
  · refine callsIn_wide.2 ((hit (w.heap.size + 1)
      (fun pre W => I pre W ∧ W.heap[w.heap.size + 1]? = some (L .ready none) ∧ W.heap[w.heap.size]? = some (.deferred (some [])))
      (fun pre W => ∃ c, Ix c pre W ∧ W.heap[w.heap.size + 1]? = some (L .done (some c)) ∧ W.heap[w.heap.size]? = some (.deferred (some [])))
      W1 hb1 ?_ ?_ ?_ ⟨hI1, hL1, hK1⟩).mono ?_)
    · rintro s A A' row ⟨hi, hl, hk⟩ hg' hr
      have hr' : ∀ r, row = some r → w.heap.size ≤ r ∧ ∃ o : Obj, A.heap[r]? = some o ∧ o.isCells = false := fun r e => ⟨by have := (hr r e).1; omega, (hr r e).2⟩
      exact ⟨hI s A A' row hi hg' hr', (hg'.block _ (blk_lt hl) (fun e => by have := (hr _ e.symm).1; omega)).trans hl, (hg'.block _ (blk_lt hk) (fun e => by have := (hr _ e.symm).1; omega)).trans hk⟩
    · rintro s A A' row ⟨c, hi, hl, hk⟩ hg' hr
      have hr' : ∀ r, row = some r → w.heap.size ≤ r ∧ ∃ o : Obj, A.heap[r]? = some o ∧ o.isCells = false := fun r e => ⟨by have := (hr r e).1; omega, (hr r e).2⟩
      exact ⟨c, hIx c s A A' row hi hg' hr', (hg'.block _ (blk_lt hl) (fun e => by have := (hr _ e.symm).1; omega)).trans hl, (hg'.block _ (blk_lt hk) (fun e => by have := (hr _ e.symm).1; omega)).trans hk⟩
    · rintro m pre x W hpre ⟨hi, hl, hk⟩
      refine YieldAt.anyDepth rfl (m := 6) m ?_
      refine ⟨fn, _, assign, body, run_yield (args := encs x) hl (hps x), roundIn_of_wpIn hfn (hassign _ x W _ ?_)⟩
      refine ⟨_, run_beginRound hl rfl, ?_⟩
      obtain ⟨Wb, hWb⟩ : ∃ Wb, W.putObj (w.heap.size + 1) (L .busy none) = Wb := ⟨_, rfl⟩
      have hl2 : Wb.heap[w.heap.size + 1]? = some (L .busy none) := by rw [← hWb]; exact World.putObj_heap_same (blk_lt hl)
      have hk2 : Wb.heap[w.heap.size]? = some (.deferred (some [])) := by rw [← hWb]; exact (World.putObj_heap_other (by omega)).trans hk
      have hkc : Kp W Wb := by rw [← hWb]; exact hKb _ _ _ _ (by omega) hl rfl
      have hib : I pre Wb := by rw [← hWb]; exact hI.putObj _ hi (by omega) hl rfl
      show body.wpIn (Fence.wide.inRound (w.heap.size + 1)) 6 P _ _ (W.putObj (w.heap.size + 1) (L .busy none))
      rw [hWb]
      refine wpIn_mono (hbody _ pre x Wb hpre hib) ?_
      have fin : ∀ (jump : Option Code) (W3 : World), KeepsFrom w.heap.size Wb W3 →
          (Instr.endRound (w.heap.size + 1) jump).run P W3 = .ok (.bool jump.isNone) (W3.putObj (w.heap.size + 1) (L (if jump.isNone then .ready else .done) jump)) ∧
          W3.heap[w.heap.size + 1]? = some (L .busy none) ∧
          (W3.putObj (w.heap.size + 1) (L (if jump.isNone then .ready else .done) jump)).heap[w.heap.size + 1]? = some (L (if jump.isNone then .ready else .done) jump) ∧
          (W3.putObj (w.heap.size + 1) (L (if jump.isNone then .ready else .done) jump)).heap[w.heap.size]? = some (.deferred (some [])) := fun jump W3 hk3 => by
        have hl3 := hk3.same _ _ (by omega) hl2 rfl
        exact ⟨run_endRound (P := P) jump hl3, hl3, World.putObj_heap_same (blk_lt hl3), (World.putObj_heap_other (by omega)).trans (hk3.same _ _ (Nat.le_refl _) hk2 rfl)⟩
      rintro e a3 W3 hp
      cases e with
      | normal =>
        obtain ⟨hk3, hkp3, hi3⟩ := hp
        obtain ⟨hr, hl3, hl4, hk4⟩ := fin none W3 hk3
        exact ⟨_, _, hr, .inl ⟨rfl, ⟨hI.putObj _ hi3 (by omega) hl3 rfl, hl4, hk4⟩, hKt hkc (hKt hkp3 (hKb _ _ _ _ (by omega) hl3 rfl))⟩⟩
      | ret =>
        obtain ⟨hk3, hi3⟩ := hp
        obtain ⟨hr, hl3, hl4, hk4⟩ := fin (some .ret) W3 hk3
        exact ⟨_, _, hr, .inr ⟨rfl, .ret, (hIx _).putObj _ hi3 (by omega) hl3 rfl, hl4, hk4⟩⟩
      | exit id =>
        obtain ⟨hk3, hi3⟩ := hp
        obtain ⟨hr, hl3, hl4, hk4⟩ := fin (some (.exit id)) W3 hk3
        exact ⟨_, _, hr, .inr ⟨rfl, .exit id, (hIx _).putObj _ hi3 (by omega) hl3 rfl, hl4, hk4⟩⟩
      | goto t =>
        obtain ⟨hk3, hi3⟩ := hp
        obtain ⟨hr, hl3, hl4, hk4⟩ := fin (some (.goto t)) W3 hk3
        exact ⟨_, _, hr, .inr ⟨rfl, .goto t, (hIx _).putObj _ hi3 (by omega) hl3 rfl, hl4, hk4⟩⟩
      | panic ch => exact hp.elim
      | outgrown => exact hp.elim
    · rintro e W2 ⟨⟨v, rfl⟩, (⟨hi, hl, hk⟩ | ⟨pre, hSp, c, hi, hl, hk⟩)⟩
      · exact ⟨none, _, run_endLoop (P := P) hl (fun h => by cases h), hdone _ _ (Nat.le_refl _) (hI.putObj _ hi (by omega) hl rfl) ((World.putObj_heap_other (by omega)).trans hk)⟩
      · exact ⟨some c, _, run_endLoop (P := P) hl (fun h => by cases h), wpIn_wide.2 (hstop _ c pre _ (Nat.le_refl _) hSp ((hIx c).putObj _ hi (by omega) hl rfl) ((World.putObj_heap_other (by omega)).trans hk))⟩

theorem KC.keeps {B : Nat} {W W' : World} {p : World → Prop} (h : KC B W W') (hp : p W → p W') : KC B W W' ∧ (p W → p W') := ⟨h, hp⟩

/-- The marks that several loops over functions have left, taken up at the function's end. -/
def putAll (W : World) (ds : List Nat) : World := ds.foldl (fun W D => W.putObj D (.deferred none)) W
def marks (ds : List Nat) : List Deferred := ds.map fun D => { target := .collected D, args := #[] }
def Marked (B : Nat) (ds : List Nat) (W : World) : Prop := ds.Nodup ∧ ∀ D ∈ ds, B ≤ D ∧ W.heap[D]? = some (.deferred (some []))
theorem Marked.nil (B : Nat) (W : World) : Marked B [] W := ⟨List.nodup_nil, by simp⟩
theorem Marked.put {B D : Nat} {ds : List Nat} {W : World} (h : Marked B (D :: ds) W) : Marked B ds (W.putObj D (.deferred none)) := by
  obtain ⟨hn, hm⟩ := h
  obtain ⟨hD, hn⟩ := List.nodup_cons.1 hn
  exact ⟨hn, fun E hE => ⟨(hm E (by simp [hE])).1, (World.putObj_heap_other (fun e => by subst e; exact hD hE)).trans (hm E (by simp [hE])).2⟩⟩
theorem Marked.grown {B : Nat} {ds : List Nat} {W W' : World} {row : Option Nat} (h : Marked B ds W) (hg : W.grownBy W' row) (hr : ∀ r, row = some r → ∃ o : Obj, W.heap[r]? = some o ∧ o.isCells = true) : Marked B ds W' :=
  ⟨h.1, fun D hD => ⟨(h.2 D hD).1, (hg.block D (blk_lt (h.2 D hD).2) (fun e => by
    obtain ⟨o, ho, hc⟩ := hr D e.symm
    rw [(h.2 D hD).2] at ho
    cases ho
    cases hc)).trans (h.2 D hD).2⟩⟩
theorem leaves_marks {P : Program} {fn : Func} {n B : Nat} {tmps : Array Value} {R : Ending → World → Prop} : ∀ (ds : List Nat) (W : World), Marked B ds W →
    LeavesInM Fence.wide n P fn tmps R [] .returning (putAll W ds) → LeavesInM Fence.wide n P fn tmps R (marks ds) .returning W
  | [], W, _, h => h
  | D :: ds, W, hm, h => ⟨by simp, .inl ⟨D, _, rfl, run_takeDeferred (hm.2 D (by simp)).2, leaves_marks ds _ hm.put h⟩⟩
theorem putAll_own {β : Type} {I : β → World → Prop} (hI : Own I) {s : β} {B : Nat} : ∀ (ds : List Nat) (W : World), Marked B ds W → I s W → I s (putAll W ds)
  | [], W, _, h => h
  | D :: ds, W, hm, h => putAll_own hI ds _ hm.put (hI s W _ (some D) h (grownBy_putObj' W D _) (fun r e => by cases e; exact ⟨_, (hm.2 D (by simp)).2, rfl⟩))
theorem putAll_below {B : Nat} {w : World} : ∀ (ds : List Nat) (W : World), Marked B ds W → Below B w W → Below B w (putAll W ds)
  | [], W, _, h => h
  | D :: ds, W, hm, h => putAll_below ds _ hm.put ⟨h.os, h.tape, h.output, by simpa using h.size, fun k hk => (World.putObj_heap_other (by have := (hm.2 D (by simp)).1; omega)).trans (h.block k hk)⟩
theorem m_rets {P : Program} {fn : Func} {n B : Nat} {R : Ending → World → Prop} {a : Act} {w : World} {v : Value} {ds : List Nat} (hd : a.defers = marks ds) (hm : Marked B ds w)
    (hr : (results fn a.tmps).run P (putAll w ds) = .ok v (putAll w ds)) (h : R (.returned v) (putAll w ds)) : bodyPostM Fence.wide n P fn R .ret a w := by
  show LeavesInM Fence.wide n P fn a.tmps R a.defers .returning w
  rw [hd]
  exact leaves_marks ds w hm ⟨v, hr, h⟩
end Go.Proofs.YtoiahjncpngkeaaDoor
