/- What design.Resolve computes, as a plain function; no condition. -/
import Derived.Test.YtoiahjncpngkeaaDoorEv
import Derived.Test.YtoiahjncpngkeaaDoorGl
namespace Go.Proofs.YtoiahjncpngkeaaDoor
set_option linter.unusedSimpArgs false
set_option linter.unusedVariables false
open Go.RowKit Go.Lib Go.Proofs.YtoiahjncpngkeaaDoorW.PrintWords

/-- The first block that is not used; n if there is none. -/
def fz (n u : Nat) : Nat := ((List.range n).find? fun j => !u.testBit j).getD n
/-- The search for a resolution: the classes out, the class cur that is being built, with the union all, from block i on. -/
def rgo (V : Nat) (bs : List Nat) : Nat → Nat → List (List Nat) → List Nat → Nat → Nat → Option (List (List Nat))
  | 0, _, _, _, _, _ => none
  | f + 1, used, out, cur, i, all =>
    if all = 2 ^ V - 1 then
      if bs.length ≤ fz bs.length used then some (out ++ [cur]) else rgo V bs f used (out ++ [cur]) [] (fz bs.length used) 0
    else if bs.length ≤ i then none
    else if used.testBit i || !(all &&& bs.getD i 0 == 0) then rgo V bs f used out cur (i + 1) all
    else match rgo V bs f (used ||| 2 ^ i) out (cur ++ [i]) (i + 1) (all ||| bs.getD i 0) with
      | some r => some r
      | none => if cur = [] then none else rgo V bs f used out cur (i + 1) all
def resL (V : Nat) (bs : List Nat) : List (List Int) × Int :=
  if 14 < bs.length then ([], 2)
  else if bs = [] ∨ bs.getD 0 0 = 0 ∨ evB V bs = false then ([], 4)
  else match (if bs.length ≤ fz bs.length 0 then some [] else rgo V bs ((bs.length + 1) * (2 * bs.length + 4)) 0 [] [] (fz bs.length 0) 0) with
    | some r => (r.map il, 0)
    | none => ([], 4)
theorem ptsL_lt {k : Nat} : ∀ {s p : Nat}, s < 2 ^ 64 → s < 2 ^ k → p ∈ ptsL s → p < k := by
  intro s
  induction s using Nat.strongRecOn with
  | _ s ih =>
    intro p h64 h hp
    rcases Nat.eq_zero_or_pos s with rfl | h0
    · simp [ptsL_zero] at hp
    · rw [ptsL_cons h0] at hp
      have hl := and_pred_lt h0
      rcases List.mem_cons.1 hp with rfl | hp
      · obtain ⟨_, m, hm⟩ := ctz_form 64 s h0 h64
        have h1 : 2 ^ ctz 64 s ≤ s := by
          conv => rhs; rw [hm]
          exact Nat.le_mul_of_pos_right _ (by omega)
        exact (Nat.pow_lt_pow_iff_right (by decide)).1 (Nat.lt_of_le_of_lt h1 h)
      · exact ih _ hl (by omega) (by omega) hp
/-- What the contracts of this chapter want of a structure: 1 to 7 points, less than 2 ^ 40 blocks, of its points. -/
def okX (V : Int) (l : List Int) : Bool := decide (1 ≤ V ∧ V ≤ 7 ∧ l.length < 2 ^ 40) && okL (2 ^ V.toNat) l
theorem okX_parts {V : Int} {l : List Int} (h : okX V l = true) : 1 ≤ V ∧ V ≤ 7 ∧ l.length < 2 ^ 40 ∧ okL 16384 l = true ∧ (∀ b ∈ nl l, b < 16384) ∧ ∀ b ∈ nl l, ∀ p ∈ ptsL b, p < V.toNat := by
  simp only [okX, Bool.and_eq_true, decide_eq_true_eq] at h
  obtain ⟨⟨h1, h2, h3⟩, h4⟩ := h
  have hp : (2 : Nat) ^ V.toNat ≤ 2 ^ 7 := Nat.pow_le_pow_right (by omega) (by omega)
  have h5 : okL 16384 l = true := by
    rw [okL_iff] at h4 ⊢; intro b hb; have := h4 b hb; omega
  refine ⟨h1, h2, h3, h5, okL_nl h5, fun b hb p hp2 => ?_⟩
  have hb2 := okL_nl h4 b hb
  exact ptsL_lt (by omega) hb2 hp2
theorem okX_small {V : Int} {l : List Int} (h : okX V l = true) : ∀ b ∈ nl l, b < 2 ^ V.toNat := by
  simp only [okX, Bool.and_eq_true] at h
  exact okL_nl h.2
end Go.Proofs.YtoiahjncpngkeaaDoor
