/- A law for a range over a function whose yields lie in memory, and whose rounds never stop it; in the plain calculus. An append to a slice cut to its own length. -/
import Derived.Test.YtheclfjbedajfaaRg
import Derived.Test.YtheclfjbedajfaaCi
namespace Go.Proofs.Ytheclfjbedajfaa
set_option linter.unusedSimpArgs false
set_option linter.unusedVariables false
open Go.RowKit Go.Lib Go.Shelf Go.Proofs.YtheclfjbedajfaaW.PrintWords

theorem own_KC {B : Nat} {W W' : World} {base : Nat} {e : TypeId} {size n : Nat} {v : Value} {xs : List Value} (h : W.ownsRow base e size v n xs) (hk : KC B W W') (hB : B ≤ base) : W'.ownsRow base e size v n xs := by
  obtain ⟨h1, h2 | ⟨g, cap, cur, h2, h3, h4, h5⟩⟩ := h
  · exact ⟨h1, .inl h2⟩
  · exact ⟨h1, .inr ⟨g, cap, cur, h2, h3, hk.2 g _ _ _ (by omega) h4, h5⟩⟩
theorem append_full {base m c g : Nat} {A : Option Addr} {xs : List Int} {p : Int} {W : World} (own : W.ownsRow base 3 1 (.slice A m c) m (nums .i64 xs)) (hg : W.cell? ⟨g, 0, none⟩ = some (.int .i64 p)) (hm : m < 2 ^ 30) :
    ∃ v w', (∀ ty : TypeId, (Builtin.append_ #[27, 27] ty #[.slice A m m, .slice (some ⟨g, 0, none⟩) 1 1]).run Try.prog W = .ok v w') ∧ w'.ownsRow W.heap.size 3 1 v (m + 1) (nums .i64 (xs ++ [p])) ∧ Below W.heap.size W w' := by
  obtain ⟨i0, hi0, hz0, hz1, hz2⟩ := info_parts infoI
  have hnews : ∀ j u, [Value.int .i64 p][j]? = some u → W.cell? ((⟨g, 0, none⟩ : Addr).add j) = some u := by
    intro j u hj
    cases j with
    | zero => simp at hj; subst hj; simpa [Addr.add] using hg
    | succ j => simp at hj
  have hlen := own.1
  have fin : ∀ (cells : List Value) (k : Nat) (cap : Nat), k = m + 1 → k ≤ cap → cap ≤ maxLen → cells = nums .i64 (xs ++ [p]) → (W.drew.alloc (.cells (cells.toArray ++ Builtin.zeroCells (Value.int .i64 0).cells (cap - k)) 3)).ownsRow W.heap.size 3 1 (.slice (some ⟨W.heap.size, 0, none⟩) k cap) (m + 1) (nums .i64 (xs ++ [p])) := by
    intro cells k cap hk hc hmax hcs
    subst hk hcs
    have hl : (nums IntKind.i64 (xs ++ [p])).length = m + 1 := by simp [nums] at hlen ⊢; omega
    refine ⟨by omega, .inr ⟨W.heap.size, cap, _, rfl, Nat.le_refl _, heap_new rfl, hc, hmax, ?_, ?_⟩⟩
    · rw [Nat.mul_one, Array.size_append, List.size_toArray, hl]
      simp [Builtin.zeroCells, Value.cells]
      omega
    · simp
      rw [List.take_append_of_le_length (by omega), ← hl, List.take_length]
  rcases A with _ | ad
  · rcases own.2 with ⟨he, h0⟩ | ⟨_, _, _, he, _⟩
    · subst h0
      obtain rfl : xs = [] := by
        have := own.1
        simp [nums] at this
        exact this
      have hrun := fun ty => run_append_nil (P := Try.prog) (w := W) 27 ty 3 i0 _ Try.underlying27 hi0 hz0 ⟨g, 0, none⟩ 1 1 [.int .i64 p] (by rw [hz1]; rfl) hnews (by omega) (by omega) (by rw [hz2]; omega)
      exact ⟨_, _, hrun, fin _ 1 _ rfl (grownCap_ge _ _ _ _) (grownCap_le_maxLen _ _ _ _ (by simp [maxLen])) rfl, below_alloc (below_drew (Below.refl _ _)) _⟩
    · cases he
  · have holds : ∀ j u, (nums IntKind.i64 xs)[j]? = some u → W.cell? (ad.add j) = some u := by
      rcases own.2 with ⟨he, _⟩ | ⟨g', cap', cur', he, _⟩
      · cases he
      · injection he with he
        injection he with he
        subst he
        exact fun j u hj => own.cells rfl j u hj
    have hrun := fun ty => run_append_grow (P := Try.prog) (w := W) 27 ty 3 i0 _ Try.underlying27 hi0 hz0 ad m m (nums .i64 xs) (by rw [hz1]; exact hlen) holds ⟨g, 0, none⟩ 1 1 [.int .i64 p] (by rw [hz1]; rfl) hnews (by omega) (by omega) (growslice_fits (by omega) (by rw [hz2]; omega))
    refine ⟨_, _, hrun, ?_, below_alloc (below_drew (Below.refl _ _)) _⟩
    have := fin (nums .i64 xs ++ [.int .i64 p]) (m + 1) (grownCap W (m + 1) m 3) rfl (grownCap_ge _ _ _ _) (grownCap_le_maxLen _ _ _ _ (by simp [maxLen]; omega)) (by simp [nums])
    simpa using this

/-- A call of f yields just xs, in this order, each laid into memory. -/
def IterM {α : Type} (P : Program) (f : FuncId) (mk : Value → Array Value) (R : α → Value → World → Prop) (Kp : World → World → Prop) (xs : List α) (w : World) : Prop :=
  ∀ (l : Nat) (J : List α → World → Prop) (W : World), Below w.heap.size w W → w.heap.size + 2 ≤ W.heap.size → OwnFrom W.heap.size J →
    (∀ m pre x v W1, pre ++ [x] <+: xs → R x v W1 → J pre W1 → YieldAt Fence.wide m P l #[v] W1 fun e W' => e = .returned (.bool true) ∧ J (pre ++ [x]) W' ∧ Kp W1 W') →
    J [] W →
    Calls P f (mk (.func (.yield l) #[] #[])) W fun e W' => (∃ v, e = .returned v) ∧ J xs W'
def postM {α : Type} (B : Nat) (Kp : World → World → Prop) (I : List α → World → Prop) (xs : List α) (W : World) : Exit → Act → World → Prop
  | .normal, _, W' => KeepsFrom B W W' ∧ Kp W W' ∧ I xs W'
  | _, _, _ => False
theorem wp_rangeM {α : Type} {P : Program} {g : Operand} {p0 : Tmp} {assign body : Code} {Q : Exit → Act → World → Prop} {a : Act} {w : World}
    {gf : Nat} {first lb : Array Value} (hg : a.eval g = .func (.func gf) first lb) (eg : ∀ args w, (callFunc gf args).run P w = .ok (.enter gf args) w)
    {R : α → Value → World → Prop} {Kp : World → World → Prop} {xs : List α} (hit : IterM P gf (fun y => first ++ #[y] ++ lb) R Kp xs w)
    (hKt : ∀ {A B C : World}, Kp A B → Kp B C → Kp A C) (hKb : ∀ (W : World) (o o' : Obj), W.heap[w.heap.size + 1]? = some o → o.isCells = false → Kp W (W.putObj (w.heap.size + 1) o'))
    (hR : ∀ x v (W : World) (o o' : Obj), R x v W → W.heap[w.heap.size + 1]? = some o → o.isCells = false → R x v (W.putObj (w.heap.size + 1) o'))
    (I : List α → World → Prop) (hI : OwnFrom w.heap.size I) (h0 : I [] w) (a₁ : Value → Act)
    (hassign : ∀ (l : Nat) (v : Value) (W : World) (K : Act → World → Prop), K (a₁ v) W →
      assign.wpIn (Fence.wide.inRound l) 6 P (Exit.then K (fun _ _ _ => False)) { tmps := a.tmps.setIfInBounds p0 v, defers := [] } W)
    (hbody : ∀ (l : Nat) (pre : List α) (x : α) (v : Value) (W : World), pre ++ [x] <+: xs → R x v W → I pre W → body.wpIn (Fence.wide.inRound l) 6 P (postM w.heap.size Kp I (pre ++ [x]) W) (a₁ v) W)
    (hdone : ∀ (D : Nat) (W : World), w.heap.size ≤ D → I xs W → W.heap[D]? = some (.deferred (some [])) → Q .normal { a with defers := { target := .collected D, args := #[] } :: a.defers } W) :
    (Code.rangeFunc g #[p0] assign body).wp P Q a w := by
  refine (wpIn_wide (n := 8)).1 (wpIn_rangeFunc ?_)
  intro fn hfn
  let L : LoopState → Option Code → Obj := fun st pe => .loop { state := st, pending := pe, fn, tmps := a.tmps, params := #[p0], assign, body, defers := w.heap.size }
  obtain ⟨W1, hW1⟩ : ∃ W1, (w.alloc (.deferred (some []))).alloc (L .ready none) = W1 := ⟨_, rfl⟩
  have hL1 : W1.heap[w.heap.size + 1]? = some (L .ready none) := by rw [← hW1]; exact heap_new (by simp)
  have hK1 : W1.heap[w.heap.size]? = some (.deferred (some [])) := by rw [← hW1]; exact blk_alloc (heap_new rfl) _
  have hz1 : W1.heap.size = w.heap.size + 2 := by rw [← hW1]; simp
  have hb1 : Below w.heap.size w W1 := by rw [← hW1]; exact below_alloc (below_alloc (Below.refl _ _) _) _
  have hI1 : I [] W1 := by rw [← hW1]; exact hI.alloc _ (hI.alloc _ h0)
  refine ⟨w.heap.size + 1, [{ target := .collected w.heap.size, args := #[] }], W1, { target := .fn (.func gf) lb, args := first ++ #[.func (.yield (w.heap.size + 1)) #[] #[]] }, W1, gf,
    first ++ #[.func (.yield (w.heap.size + 1)) #[] #[]] ++ lb, W1, ?_, ?_, fun _ _ => trivial, ?_, fun _ => by decide, ?_⟩
  · rw [← hW1]; exact run_enterLoop_outer _ _ _ _ _
  · simp only [resolve, hg]
    simp [go_sem]
  · simp [invoke, go_sem, eg]
  · refine callsIn_wide.2 ((hit (w.heap.size + 1)
      (fun pre W => I pre W ∧ W.heap[w.heap.size + 1]? = some (L .ready none) ∧ W.heap[w.heap.size]? = some (.deferred (some [])))
      W1 hb1 (by omega) ?_ ?_ ⟨hI1, hL1, hK1⟩).mono ?_)
    · rintro s A A' row ⟨hi, hl, hk⟩ hg' hr
      have hr' : ∀ r, row = some r → w.heap.size ≤ r ∧ ∃ o : Obj, A.heap[r]? = some o ∧ o.isCells = false := fun r e => ⟨by have := (hr r e).1; omega, (hr r e).2⟩
      exact ⟨hI s A A' row hi hg' hr', (hg'.block _ (blk_lt hl) (fun e => by have := (hr _ e.symm).1; omega)).trans hl, (hg'.block _ (blk_lt hk) (fun e => by have := (hr _ e.symm).1; omega)).trans hk⟩
    · rintro m pre x v W hpre hRx ⟨hi, hl, hk⟩
      refine YieldAt.anyDepth rfl (m := 6) m ?_
      have hry := run_yield (P := P) (args := #[v]) hl rfl
      rw [show (#[p0].zip #[v]).foldl (fun t (p, v) => t.setIfInBounds p v) a.tmps = a.tmps.setIfInBounds p0 v from by simp] at hry
      refine ⟨fn, _, assign, body, hry, roundIn_of_wpIn hfn (hassign _ v W _ ?_)⟩
      refine ⟨_, run_beginRound hl rfl, ?_⟩
      obtain ⟨Wb, hWb⟩ : ∃ Wb, W.putObj (w.heap.size + 1) (L .busy none) = Wb := ⟨_, rfl⟩
      have hl2 : Wb.heap[w.heap.size + 1]? = some (L .busy none) := by rw [← hWb]; exact World.putObj_heap_same (blk_lt hl)
      have hk2 : Wb.heap[w.heap.size]? = some (.deferred (some [])) := by rw [← hWb]; exact (World.putObj_heap_other (by omega)).trans hk
      have hkc : Kp W Wb := by rw [← hWb]; exact hKb _ _ _ hl rfl
      have hib : I pre Wb := by rw [← hWb]; exact hI.putObj _ hi (by omega) hl rfl
      have hRb : R x v Wb := by rw [← hWb]; exact hR _ _ _ _ _ hRx hl rfl
      show body.wpIn (Fence.wide.inRound (w.heap.size + 1)) 6 P _ _ (W.putObj (w.heap.size + 1) (L .busy none))
      rw [hWb]
      refine wpIn_mono (hbody _ pre x v Wb hpre hRb hib) ?_
      have fin : ∀ (jump : Option Code) (W3 : World), KeepsFrom w.heap.size Wb W3 →
          (Instr.endRound (w.heap.size + 1) jump).run P W3 = .ok (.bool jump.isNone) (W3.putObj (w.heap.size + 1) (L (if jump.isNone then .ready else .done) jump)) ∧
          W3.heap[w.heap.size + 1]? = some (L .busy none) ∧
          (W3.putObj (w.heap.size + 1) (L (if jump.isNone then .ready else .done) jump)).heap[w.heap.size + 1]? = some (L (if jump.isNone then .ready else .done) jump) ∧
          (W3.putObj (w.heap.size + 1) (L (if jump.isNone then .ready else .done) jump)).heap[w.heap.size]? = some (.deferred (some [])) := fun jump W3 hk3 => by
        have hl3 := hk3.same _ _ (by omega) hl2 rfl
        exact ⟨run_endRound (P := P) jump hl3, hl3, World.putObj_heap_same (blk_lt hl3), (World.putObj_heap_other (by omega)).trans (hk3.same _ _ (Nat.le_refl _) hk2 rfl)⟩
      rintro e a3 W3 hp
      cases e with
      | normal =>
        obtain ⟨hk3, hkp3, hi3⟩ := hp
        obtain ⟨hr, hl3, hl4, hk4⟩ := fin none W3 hk3
        exact ⟨_, _, hr, rfl, ⟨hI.putObj _ hi3 (by omega) hl3 rfl, hl4, hk4⟩, hKt hkc (hKt hkp3 (hKb _ _ _ hl3 rfl))⟩
      | ret => exact hp.elim
      | exit id => exact hp.elim
      | goto t => exact hp.elim
      | panic ch => exact hp.elim
      | outgrown => exact hp.elim
    · rintro e W2 ⟨⟨v, rfl⟩, hi, hl, hk⟩
      exact ⟨none, _, run_endLoop (P := P) hl (fun h => by cases h), hdone _ _ (Nat.le_refl _) (hI.putObj _ hi (by omega) hl rfl) ((World.putObj_heap_other (by omega)).trans hk)⟩
end Go.Proofs.Ytheclfjbedajfaa
