/- Glue for chapter 12's contracts: small sets are few; what a loop's least number is. -/
/- Words for the two pools that examples() makes in one statement. -/
-- The words of the print that this claim uses; the others are struck by trim.py, a program of this session.
import Derived.Test.YtmfmlfaglemgfaaDoorAp
import Derived.Test.YtmfmlfaglemgfaaDoorGl
import Derived.Test.YtmfmlfaglemgfaaDoorRx
import Derived.Lib.BufferWrite
namespace Go.Proofs.YtmfmlfaglemgfaaDoor
set_option linter.unusedSimpArgs false
set_option linter.unusedVariables false
def smallOk : Bool := (List.range 8).all fun V => (List.range 4).all fun d => decide ((upL d 0 (2 ^ V - 1)).length < 1000)
theorem smallOk_true : smallOk = true := by decide +kernel
theorem upL_small {V d : Nat} (hV : V < 8) (hd : d < 4) : (upL d 0 (2 ^ V - 1)).length < 2 ^ 40 := by
  have h := smallOk_true
  unfold smallOk at h
  simp only [List.all_eq_true, List.mem_range, decide_eq_true_eq] at h
  have := h V hV d hd
  omega
theorem mlist_le {t : Int} : ∀ (xs : List Int) (a : Int), t ≤ mlist a xs ↔ t ≤ a ∧ ∀ x ∈ xs, t ≤ x := by
  intro xs
  induction xs with
  | nil => intro a; simp [mlist]
  | cons y ys ih =>
    intro a
    have e : mlist a (y :: ys) = mlist (if y < a then y else a) ys := rfl
    rw [e, ih]
    constructor
    · rintro ⟨h1, h2⟩
      refine ⟨by split at h1 <;> omega, fun x hx => ?_⟩
      rcases List.mem_cons.1 hx with rfl | hx
      · split at h1 <;> omega
      · exact h2 x hx
    · rintro ⟨h1, h2⟩
      have h3 := h2 y (by simp)
      exact ⟨by split <;> omega, fun x hx => h2 x (by simp [hx])⟩
theorem upR_more {f g : Nat → Nat → List Nat} (h : ∀ s q x, x ∈ f s q → x ∈ g s q) (s : Nat) : ∀ (k q x : Nat), x ∈ upR f s k q → x ∈ upR g s k q := by
  intro k
  induction k with
  | zero => intro q x hx; simp [upR] at hx
  | succ k ih =>
    intro q x hx
    rw [upR] at hx ⊢
    split at hx
    · cases hx
    · rename_i h0
      rw [if_neg h0]
      rcases List.mem_append.1 hx with hx | hx
      · exact List.mem_append.2 (.inl (h _ _ _ hx))
      · exact List.mem_append.2 (.inr (ih _ _ hx))
/-- With a greater bound there are more sets. -/
theorem upL_more : ∀ (l s q x : Nat), x ∈ upL l s q → x ∈ upL (l + 1) s q := by
  intro l
  induction l with
  | zero => intro s q x hx; simp [upL] at hx; subst hx; simp [upL]
  | succ l ih =>
    intro s q x hx
    rw [upL] at hx
    rw [upL]
    rcases List.mem_cons.1 hx with rfl | hx
    · simp
    · exact List.mem_cons.2 (.inr (upR_more (fun s q x h => ih s q x h) s _ _ _ hx))
theorem slackL_mem {V d : Nat} {bs : List Nat} {x : Int} : ∀ {k : Nat}, x ∈ slackL V d bs k ↔ ∃ i < k, x ∈ slackI V d bs i := by
  intro k
  induction k with
  | zero => simp [slackL]
  | succ k ih =>
    rw [slackL, List.mem_append, ih]
    constructor
    · rintro (⟨i, hi, h⟩ | h)
      · exact ⟨i, by omega, h⟩
      · exact ⟨k, by omega, h⟩
    · rintro ⟨i, hi, h⟩
      rcases Nat.lt_or_ge i k with h1 | h1
      · exact .inl ⟨i, h1, h⟩
      · obtain rfl : i = k := by omega
        exact .inr h
/-- With a greater number of faulty items the slack is not greater. -/
theorem slackN_more (V d : Nat) (bs : List Nat) : slackN V (d + 1) bs ≤ slackN V d bs := by
  unfold slackN
  rw [mlist_le]
  have h := (mlist_le (t := mlist bs.length (slackL V (d + 1) bs V)) (slackL V (d + 1) bs V) (bs.length : Int)).1 (Int.le_refl _)
  refine ⟨h.1, fun x hx => h.2 x ?_⟩
  obtain ⟨i, hi, hx⟩ := slackL_mem.1 hx
  refine slackL_mem.2 ⟨i, hi, ?_⟩
  unfold slackI at hx ⊢
  obtain ⟨s, hs, rfl⟩ := List.mem_map.1 hx
  exact List.mem_map.2 ⟨s, upL_more _ _ _ _ hs, rfl⟩
theorem slackN_mono (V : Nat) (bs : List Nat) {d e : Nat} (h : d ≤ e) : slackN V e bs ≤ slackN V d bs := by
  induction e with
  | zero => rw [show d = 0 by omega]; exact Int.le_refl _
  | succ e ih =>
    rcases Nat.lt_or_ge d (e + 1) with h1 | h1
    · exact Int.le_trans (slackN_more V e bs) (ih (by omega))
    · rw [show d = e + 1 by omega]; exact Int.le_refl _
end Go.Proofs.YtmfmlfaglemgfaaDoor


namespace Go.Proofs.YtmfmlfaglemgfaaDoor
set_option linter.unusedSimpArgs false
set_option linter.unusedVariables false
open Go.RowKit Go.Lib Go.Shelf Go.Proofs.YtmfmlfaglemgfaaDoorW.PrintWords
attribute [local go_sem] Oper.semAt_some
/-- A row of the call's own with the tests of the example. -/
def OwnT (xs : List Int) (w : World) (v : Value) : Prop := ∃ base, w.ownsRow base 48 1 v xs.length (nums .u64 xs)
theorem OwnT.of_R {xs : List Int} {base : Nat} {w : World} {ok : Nat → Prop} {v : Value} (h : (Kd.int .u64).R 48 w base ok v xs) : OwnT xs w v := ⟨base, by have := Kd.own_of_R (enc := Value.int .u64) h; simpa [encs, nums] using this⟩
/-- A pool with its answer, in memory. -/
def got5 (V : Int) (v : Value) (d e : Int) : Array Value := #[.int .i64 V, v, .int .i64 d, .int .i64 e, .int .i64 0]
/-- A variable for a pool and its answer; full: it has been stored. -/
def GotB (V : Int) (xs : List Int) (base : Nat) (w : World) (g : Nat) (d e : Int) (full : Bool) : Prop :=
  base ≤ g ∧ ∃ cs : Array Value, Blk w g 42 cs ∧ cs.size = 5 ∧ (full = true → ∃ v, cs = got5 V v d e ∧ OwnT xs w v)
theorem OwnT.below {xs : List Int} {w w' : World} {v : Value} (h : OwnT xs w v) (hb : Below w.heap.size w w') : OwnT xs w' v := h.imp fun _ h => pw_own_below h hb
theorem GotB.below {V : Int} {xs : List Int} {base g : Nat} {w w' : World} {d e : Int} {f : Bool} (h : GotB V xs base w g d e f) (hb : Below w.heap.size w w') : GotB V xs base w' g d e f := by
  obtain ⟨h1, cs, h2, h3, h4⟩ := h
  exact ⟨h1, cs, h2.below hb h2.lt, h3, fun hf => by obtain ⟨v, e1, e2⟩ := h4 hf; exact ⟨v, e1, e2.below hb⟩⟩
theorem OwnT.set {xs : List Int} {g i : Nat} {w : World} {v : Value} {cs : Array Value} (h : OwnT xs w v) (hg : Blk w g 42 cs) (u : Value) : OwnT xs (w.setCell ⟨g, i, none⟩ u) v :=
  h.imp fun _ h => own_other h (grownBy_setCell w g i u) (.inr (own_blk_ne h hg (by decide)))
theorem GotB.set {V : Int} {xs : List Int} {base g g' i : Nat} {w : World} {d e : Int} {f : Bool} {cs : Array Value} (h : GotB V xs base w g d e f) (hg : Blk w g' 42 cs) (hne : g ≠ g') (u : Value) :
    GotB V xs base (w.setCell ⟨g', i, none⟩ u) g d e f := by
  obtain ⟨h1, cs1, h2, h3, h4⟩ := h
  exact ⟨h1, cs1, h2.far (by exact hne) u, h3, fun hf => by obtain ⟨v, e1, e2⟩ := h4 hf; exact ⟨v, e1, e2.set hg u⟩⟩
theorem five {cs : Array Value} (h : cs.size = 5) : ∃ a0 a1 a2 a3 a4, cs = #[a0, a1, a2, a3, a4] := by
  obtain ⟨l⟩ := cs
  match l, h with
  | [a0, a1, a2, a3, a4], _ => exact ⟨a0, a1, a2, a3, a4, rfl⟩
/-- The store of a pool and its answer, cell by cell. -/
def put5 (w : World) (g : Nat) (V : Int) (v : Value) (d e : Int) : World :=
  ((((w.setCell ⟨g, 0, none⟩ (.int .i64 V)).setCell ⟨g, 1, none⟩ v).setCell ⟨g, 2, none⟩ (.int .i64 d)).setCell ⟨g, 3, none⟩ (.int .i64 e)).setCell ⟨g, 4, none⟩ (.int .i64 0)
theorem put5_blk {w : World} {g : Nat} {cs : Array Value} (h : Blk w g 42 cs) (hs : cs.size = 5) (V : Int) (v : Value) (d e : Int) : Blk (put5 w g V v d e) g 42 (got5 V v d e) := by
  obtain ⟨l⟩ := cs
  match l, hs with
  | [a0, a1, a2, a3, a4], _ =>
    have h5 := ((((h.set_ 0 (.int .i64 V)).set_ 1 v).set_ 2 (.int .i64 d)).set_ 3 (.int .i64 e)).set_ 4 (.int .i64 0)
    exact h5
theorem put5_own {xs : List Int} {g : Nat} {w : World} {v0 : Value} {cs : Array Value} (h : OwnT xs w v0) (hg : Blk w g 42 cs) (V : Int) (v : Value) (d e : Int) : OwnT xs (put5 w g V v d e) v0 :=
  ((((h.set hg _).set (hg.set_ _ _) _).set ((hg.set_ _ _).set_ _ _) _).set (((hg.set_ _ _).set_ _ _).set_ _ _) _).set ((((hg.set_ _ _).set_ _ _).set_ _ _).set_ _ _) _
theorem put5_got {V : Int} {xs : List Int} {base g g' : Nat} {w : World} {d e : Int} {f : Bool} {cs : Array Value} (h : GotB V xs base w g d e f) (hg : Blk w g' 42 cs) (hne : g ≠ g') (V' : Int) (v : Value) (d' e' : Int) : GotB V xs base (put5 w g' V' v d' e') g d e f :=
  ((((h.set hg hne _).set (hg.set_ _ _) hne _).set ((hg.set_ _ _).set_ _ _) hne _).set (((hg.set_ _ _).set_ _ _).set_ _ _) hne _).set ((((hg.set_ _ _).set_ _ _).set_ _ _).set_ _ _) hne _
theorem put5_below {B g : Nat} {w w' : World} (h : Below B w w') (hg : B ≤ g) (V : Int) (v : Value) (d e : Int) : Below B w (put5 w' g V v d e) :=
  ((((h.setCell (by exact hg) _).setCell (by exact hg) _).setCell (by exact hg) _).setCell (by exact hg) _).setCell (by exact hg) _
end Go.Proofs.YtmfmlfaglemgfaaDoor


namespace Go.Proofs.YtmfmlfaglemgfaaDoor
set_option linter.unusedSimpArgs false
set_option linter.unusedVariables false
open Go.RowKit Go.Lib Go.Shelf Go.Proofs.YtmfmlfaglemgfaaDoorW.PrintWords
attribute [local go_sem] Oper.semAt_some
set_option maxHeartbeats 1000000 in
theorem with12_any (I D E d : Int) (A : Option Addr) (n c : Nat) (w : World) : Calls Tryd.prog 13 #[.agg #[.int .i64 I, .slice A n c, .int .i64 D, .int .i64 E], .int .i64 d] w fun e w' =>
    e = .returned (.agg #[.int .i64 I, .slice A n c, .int .i64 d, .int .i64 E]) ∧ Below w.heap.size w w' := by
  have hu := Tryd.underlying30
  go_enter Tryd.func13, Tryd.ntmps13
  go_wp2
  refine bodyPost_ret (v := .agg #[.int .i64 I, .slice A n c, .int .i64 d, .int .i64 E]) (by simp [results, Tryd.results13, go_sem, hu]) rfl ⟨rfl, ?_⟩
  first | exact below_alloc (Below.refl _ _) _ | exact below_alloc (below_alloc (Below.refl _ _) _) _
end Go.Proofs.YtmfmlfaglemgfaaDoor
