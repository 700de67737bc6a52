-- Written by this session's program xprint.py: it drives the kit's print with contracts of this session's own.
import Derived.Test.YtoiahjncpngkeaaDoorGl
import Derived.Test.YtoiahjncpngkeaaDoorPr
namespace Go.Proofs.YtoiahjncpngkeaaDoor.Pd
open Go.RowKit Go.Lib Go.Proofs.YtoiahjncpngkeaaDoorW.PrintWords
set_option linter.unusedVariables false
set_option linter.unusedSimpArgs false

/-! ### incidence_Complement: function 26 -/
def incidence_Complement.f (a0_0 : Int) (l0_1 : List Int) : Option (Int × List Int) := if 0 ≤ a0_0 ∧ a0_0 < 64 ∧ l0_1.length ≤ 12 ∧ okL (2 ^ a0_0.toNat) l0_1 = true then some (a0_0, il (sortedL ((nl l0_1).map (cm a0_0.toNat)))) else none
set_option maxRecDepth 100000 in
theorem incidence_Complement.calls (a0_0 : Int) (A0_1 : Option Addr) (c0_1 : Nat) (l0_1 : List Int) (r1 : Int) (r2 : List Int) (w : World) (hr0_1 : Kd.C (Kd.int .u64) w A0_1 l0_1.length l0_1) (hc0_1 : l0_1.length ≤ c0_1) (h : incidence_Complement.f a0_0 l0_1 = some (r1, r2)) :
    Calls Tryd.prog 26 #[.agg #[.int .i64 a0_0, .slice A0_1 l0_1.length c0_1]] w fun e w' => ∃ v1_ : Value, e = .returned (.agg #[.int .i64 r1, v1_]) ∧ Kd.R (Kd.int .u64) 60 w' w.heap.size (fun _ => True) v1_ r2 ∧ Below w.heap.size w w' := by
  obtain ⟨⟨h1, h2, h3, h4⟩, hr⟩ := some_if h
  obtain ⟨rfl, rfl⟩ := Prod.mk.inj hr
  obtain ⟨V, rfl⟩ := Int.eq_ofNat_of_zero_le h1
  rw [Int.toNat_natCast] at h4
  refine (complement_any V (by omega) A0_1 _ c0_1 (nl l0_1) w (blc_of (Nat.pow_le_pow_right (by decide) (by omega)) hr0_1 h4) h3 (okL_nl h4)).mono ?_
  rintro e w' ⟨v, he, ho, hb⟩
  exact ⟨v, he, R_own ho, hb⟩

/-! ### incidence_Derived: function 27 -/
def incidence_Derived.f (a0_0 : Int) (l0_1 : List Int) (a1 : Int) : Option (Int × List Int × Int) := if 2 ≤ a0_0 ∧ a0_0 ≤ 16 ∧ 0 ≤ a1 ∧ a1 < a0_0 ∧ l0_1.length ≤ 12 ∧ okL (2 ^ a0_0.toNat) l0_1 = true then some (((a0_0.toNat - 1 : Nat) : Int), il (sortedL ((kpB a1.toNat true (nl l0_1)).map (ptb a1.toNat))), 0) else none
set_option maxRecDepth 100000 in
theorem incidence_Derived.calls (a0_0 : Int) (A0_1 : Option Addr) (c0_1 : Nat) (l0_1 : List Int) (a1 : Int) (r1 : Int) (r2 : List Int) (r3 : Int) (w : World) (hr0_1 : Kd.C (Kd.int .u64) w A0_1 l0_1.length l0_1) (hc0_1 : l0_1.length ≤ c0_1) (h : incidence_Derived.f a0_0 l0_1 a1 = some (r1, r2, r3)) :
    Calls Tryd.prog 27 #[.agg #[.int .i64 a0_0, .slice A0_1 l0_1.length c0_1], .int .i64 a1] w fun e w' => ∃ v1_ : Value, e = .returned (.tuple #[.agg #[.int .i64 r1, v1_], .int .i64 r3]) ∧ Kd.R (Kd.int .u64) 60 w' w.heap.size (fun _ => True) v1_ r2 ∧ Below w.heap.size w w' := by
  obtain ⟨⟨h1, h2, h3, h4, h5, h6⟩, hr⟩ := some_if h
  simp only [Prod.mk.injEq] at hr
  obtain ⟨rfl, rfl, rfl⟩ := hr
  obtain ⟨V, rfl⟩ := Int.eq_ofNat_of_zero_le (show 0 ≤ a0_0 by omega)
  obtain ⟨p, rfl⟩ := Int.eq_ofNat_of_zero_le h3
  rw [Int.toNat_natCast] at h6
  simp only [Int.toNat_natCast]
  refine (derived_any V p (by omega) (by omega) (by omega) A0_1 _ c0_1 (nl l0_1) w (blc_of (Nat.pow_le_pow_right (by decide) (by omega)) hr0_1 h6) h5 (okL_nl h6)).mono ?_
  rintro e w' ⟨v, he, ho, hb⟩
  have hl : (kpB p true (nl l0_1)).length = (il (sortedL ((kpB p true (nl l0_1)).map (ptb p)))).length := by rw [il_length, sortedL_length, List.length_map]
  exact ⟨v, he, R_own ho, hb⟩

/-! ### incidence_Residual: function 28 -/
def incidence_Residual.f (a0_0 : Int) (l0_1 : List Int) (a1 : Int) : Option (Int × List Int × Int) := if 2 ≤ a0_0 ∧ a0_0 ≤ 16 ∧ 0 ≤ a1 ∧ a1 < a0_0 ∧ l0_1.length ≤ 12 ∧ okL (2 ^ a0_0.toNat) l0_1 = true then some (((a0_0.toNat - 1 : Nat) : Int), il (sortedL ((kpB a1.toNat false (nl l0_1)).map (ptb a1.toNat))), 0) else none
set_option maxRecDepth 100000 in
theorem incidence_Residual.calls (a0_0 : Int) (A0_1 : Option Addr) (c0_1 : Nat) (l0_1 : List Int) (a1 : Int) (r1 : Int) (r2 : List Int) (r3 : Int) (w : World) (hr0_1 : Kd.C (Kd.int .u64) w A0_1 l0_1.length l0_1) (hc0_1 : l0_1.length ≤ c0_1) (h : incidence_Residual.f a0_0 l0_1 a1 = some (r1, r2, r3)) :
    Calls Tryd.prog 28 #[.agg #[.int .i64 a0_0, .slice A0_1 l0_1.length c0_1], .int .i64 a1] w fun e w' => ∃ v1_ : Value, e = .returned (.tuple #[.agg #[.int .i64 r1, v1_], .int .i64 r3]) ∧ Kd.R (Kd.int .u64) 60 w' w.heap.size (fun _ => True) v1_ r2 ∧ Below w.heap.size w w' := by
  obtain ⟨⟨h1, h2, h3, h4, h5, h6⟩, hr⟩ := some_if h
  simp only [Prod.mk.injEq] at hr
  obtain ⟨rfl, rfl, rfl⟩ := hr
  obtain ⟨V, rfl⟩ := Int.eq_ofNat_of_zero_le (show 0 ≤ a0_0 by omega)
  obtain ⟨p, rfl⟩ := Int.eq_ofNat_of_zero_le h3
  rw [Int.toNat_natCast] at h6
  simp only [Int.toNat_natCast]
  refine (residual_any V p (by omega) (by omega) (by omega) A0_1 _ c0_1 (nl l0_1) w (blc_of (Nat.pow_le_pow_right (by decide) (by omega)) hr0_1 h6) h5 (okL_nl h6)).mono ?_
  rintro e w' ⟨v, he, ho, hb⟩
  have hl : (kpB p false (nl l0_1)).length = (il (sortedL ((kpB p false (nl l0_1)).map (ptb p)))).length := by rw [il_length, sortedL_length, List.length_map]
  exact ⟨v, he, R_own ho, hb⟩

end Go.Proofs.YtoiahjncpngkeaaDoor.Pd
