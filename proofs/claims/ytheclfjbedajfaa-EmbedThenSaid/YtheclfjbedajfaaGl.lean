/- Between this claim's contracts and the printed ones: lists of numbers in memory; no condition. -/
import Derived.Test.YtheclfjbedajfaaBa
namespace Go.Proofs.Ytheclfjbedajfaa
set_option linter.unusedSimpArgs false
set_option linter.unusedVariables false
open Go.RowKit Go.Lib Go.Proofs.YtheclfjbedajfaaW.PrintWords

def nl (l : List Int) : List Nat := l.map Int.toNat
theorem nl_length (l : List Int) : (nl l).length = l.length := by simp [nl]
theorem il_nl {l : List Int} (h : ∀ b ∈ l, 0 ≤ b) : il (nl l) = l := by
  induction l with
  | nil => rfl
  | cons b r ih =>
    have h0 := h b (by simp)
    simp only [il, nl, List.map_cons] at ih ⊢
    rw [ih fun x hx => h x (by simp [hx]), Int.toNat_of_nonneg h0]
theorem nl_il (bs : List Nat) : nl (il bs) = bs := by
  induction bs with
  | nil => rfl
  | cons b r ih => simp only [il, nl, List.map_cons] at ih ⊢; rw [ih]; simp
/-- All numbers are from 0 on, below a bound. -/
def okL (bd : Nat) (l : List Int) : Bool := l.all fun b => decide (0 ≤ b) && decide (b < (bd : Int))
theorem okL_iff {bd : Nat} {l : List Int} : okL bd l = true ↔ ∀ b ∈ l, 0 ≤ b ∧ b < (bd : Int) := by simp [okL]
theorem okL_il {bd : Nat} {bs : List Nat} (h : ∀ b ∈ bs, b < bd) : okL bd (il bs) = true := by
  rw [okL_iff]; intro b hb; simp only [il, List.mem_map] at hb; obtain ⟨x, hx, rfl⟩ := hb; have := h x hx; omega
theorem okL_nl {bd : Nat} {l : List Int} (h : okL bd l = true) : ∀ b ∈ nl l, b < bd := by
  rw [okL_iff] at h; intro b hb; simp only [nl, List.mem_map] at hb; obtain ⟨x, hx, rfl⟩ := hb; have := h x hx; omega
theorem nlc_of {kd : IntKind} {bd : Nat} {w : World} {A : Option Addr} {l : List Int} (hr : (Kd.int kd).C w A l.length l) (h : okL bd l = true) : NlC kd bd w A l.length (nl l) :=
  ⟨(nl_length l).symm, by rw [il_nl fun b hb => (okL_iff.1 h b hb).1]; exact hr, okL_nl h⟩
theorem blc_of {bd : Nat} (hbd : bd ≤ 2 ^ 64) {w : World} {A : Option Addr} {l : List Int} (hr : (Kd.int .u64).C w A l.length l) (h : okL bd l = true) : BlC w A l.length (nl l) :=
  ⟨(nl_length l).symm, by rw [il_nl fun b hb => (okL_iff.1 h b hb).1]; exact hr, fun b hb => Nat.lt_of_lt_of_le (okL_nl h b hb) hbd⟩
theorem R_own {kd : IntKind} {T n base : Nat} {w : World} {v : Value} {xs : List Int} (h : w.ownsRow base T 1 v n (nums kd xs)) : (Kd.int kd).R T w base (fun _ => True) v xs := by
  have hl : n = xs.length := by have := h.1; simpa [nums] using this.symm
  subst hl
  exact Kd.R_of_own (enc := Value.int kd) (by simpa [encs, nums] using h) (fun _ _ => trivial)
theorem some_if {α : Type} {c : Prop} [Decidable c] {x r : α} (h : (if c then some x else none) = some r) : c ∧ r = x := by
  split at h
  · exact ⟨by assumption, (Option.some.inj h).symm⟩
  · cases h
end Go.Proofs.Ytheclfjbedajfaa
