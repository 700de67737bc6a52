-- Written by this session's program xprint.py: it drives the kit's print with contracts of this session's own.
import Derived.Test.YtoiahjncpngkeaaDoorPdx0
import Derived.Test.YtoiahjncpngkeaaDoorSo
import Derived.Test.YtoiahjncpngkeaaDoorLi
import Derived.Test.YtoiahjncpngkeaaDoorDb
import Derived.Test.YtoiahjncpngkeaaDoorCk
import Derived.Test.YtoiahjncpngkeaaDoorDg
import Derived.Test.YtoiahjncpngkeaaDoorEv
import Derived.Test.YtoiahjncpngkeaaDoorSt
namespace Go.Proofs.YtoiahjncpngkeaaDoor.Pd
open Go.RowKit Go.Lib Go.Proofs.YtoiahjncpngkeaaDoorW.PrintWords
set_option linter.unusedVariables false
set_option linter.unusedSimpArgs false

/-! ### design_Check: function 12 -/
def design_Check.f (a0_0 : Int) (l0_1 : List Int) (a1_0 : Int) (a1_1 : Int) (a1_2 : Int) (a1_3 : Int) : Option (Int) := if l0_1.length < 2 ^ 40 ∧ okL 16384 l0_1 = true then some (chkL a0_0 (nl l0_1) a1_0 a1_1 a1_2 a1_3) else none
set_option maxRecDepth 100000 in
theorem design_Check.calls (a0_0 : Int) (A0_1 : Option Addr) (c0_1 : Nat) (l0_1 : List Int) (a1_0 : Int) (a1_1 : Int) (a1_2 : Int) (a1_3 : Int) (r : Int) (w : World) (hr0_1 : Kd.C (Kd.int .u64) w A0_1 l0_1.length l0_1) (hc0_1 : l0_1.length ≤ c0_1) (h : design_Check.f a0_0 l0_1 a1_0 a1_1 a1_2 a1_3 = some r) :
    Calls Tryd.prog 12 #[.agg #[.int .i64 a0_0, .slice A0_1 l0_1.length c0_1], .agg #[.int .i64 a1_0, .int .i64 a1_1, .int .i64 a1_2, .int .i64 a1_3]] w fun e w' => e = .returned (.int .i64 r) ∧ Below w.heap.size w w' := by
  obtain ⟨⟨h1, h2⟩, rfl⟩ := some_if h
  exact check_any a0_0 A0_1 _ c0_1 (nl l0_1) a1_0 a1_1 a1_2 a1_3 w (blc_of (by decide) hr0_1 h2) h1 (okL_nl h2)

/-! ### design_Lambda: function 41 -/
def design_Lambda.f (a0_0 : Int) (a0_1 : Int) (a0_2 : Int) (a0_3 : Int) (a1 : Int) : Option (Int × Int × Int) := if rightB a0_0 a0_1 a0_2 a0_3 = true ∧ 0 ≤ a1 ∧ a1 ≤ a0_0 then some (((lamN a0_1.toNat a0_0.toNat a0_2.toNat a0_3.toNat a1.toNat / Nat.gcd (lamN a0_1.toNat a0_0.toNat a0_2.toNat a0_3.toNat a1.toNat) (lamD a0_2.toNat a0_0.toNat a1.toNat) : Nat) : Int), ((lamD a0_2.toNat a0_0.toNat a1.toNat / Nat.gcd (lamN a0_1.toNat a0_0.toNat a0_2.toNat a0_3.toNat a1.toNat) (lamD a0_2.toNat a0_0.toNat a1.toNat) : Nat) : Int), 0) else some (0, 0, 1)
set_option maxRecDepth 100000 in
theorem design_Lambda.calls (a0_0 : Int) (a0_1 : Int) (a0_2 : Int) (a0_3 : Int) (a1 : Int) (r1 : Int) (r2 : Int) (r3 : Int) (w : World) (h : design_Lambda.f a0_0 a0_1 a0_2 a0_3 a1 = some (r1, r2, r3)) :
    Calls Tryd.prog 41 #[.agg #[.int .i64 a0_0, .int .i64 a0_1, .int .i64 a0_2, .int .i64 a0_3], .int .i64 a1] w fun e w' => e = .returned (.tuple #[.agg #[.int .i64 r1, .int .i64 r2], .int .i64 r3]) ∧ Below w.heap.size w w' := by
  by_cases hc : rightB a0_0 a0_1 a0_2 a0_3 = true ∧ 0 ≤ a1 ∧ a1 ≤ a0_0
  · unfold design_Lambda.f at h
    rw [if_pos hc] at h
    simp only [Option.some.injEq, Prod.mk.injEq] at h
    obtain ⟨rfl, rfl, rfl⟩ := h
    obtain ⟨hr, h0, h1⟩ := hc
    have hb := rightB_iff.1 hr
    obtain ⟨T, rfl⟩ := Int.eq_ofNat_of_zero_le (show 0 ≤ a0_0 by omega)
    obtain ⟨V, rfl⟩ := Int.eq_ofNat_of_zero_le (show 0 ≤ a0_1 by omega)
    obtain ⟨K, rfl⟩ := Int.eq_ofNat_of_zero_le (show 0 ≤ a0_2 by omega)
    obtain ⟨L, rfl⟩ := Int.eq_ofNat_of_zero_le (show 0 ≤ a0_3 by omega)
    obtain ⟨i, rfl⟩ := Int.eq_ofNat_of_zero_le h0
    exact lambda_yes T V K L i hr (by omega) w
  · unfold design_Lambda.f at h
    rw [if_neg hc] at h
    simp only [Option.some.injEq, Prod.mk.injEq] at h
    obtain ⟨rfl, rfl, rfl⟩ := h
    refine lambda_no a0_0 a0_1 a0_2 a0_3 a1 ?_ w
    cases hr : rightB a0_0 a0_1 a0_2 a0_3
    · exact .inl rfl
    · by_cases h0 : 0 ≤ a1
      · exact .inr (.inr (by
          have : ¬ a1 ≤ a0_0 := fun h1 => hc ⟨hr, h0, h1⟩
          omega))
      · exact .inr (.inl (by omega))

/-! ### design_Resolve: function 43 -/
def design_Resolve.f (a0_0 : Int) (l0_1 : List Int) : Option ((List (List Int)) × Int) := if okX a0_0 l0_1 = true then some (resL a0_0.toNat (nl l0_1)) else none
set_option maxRecDepth 100000 in
theorem design_Resolve.calls (a0_0 : Int) (A0_1 : Option Addr) (c0_1 : Nat) (l0_1 : List Int) (r1 : List (List Int)) (r2 : Int) (w : World) (hr0_1 : Kd.C (Kd.int .u64) w A0_1 l0_1.length l0_1) (hc0_1 : l0_1.length ≤ c0_1) (hT : TabOk w) (h : design_Resolve.f a0_0 l0_1 = some (r1, r2)) :
    Calls Tryd.prog 43 #[.agg #[.int .i64 a0_0, .slice A0_1 l0_1.length c0_1]] w fun e w' => ∃ v0_ : Value, e = .returned (.tuple #[v0_, .int .i64 r2]) ∧ Kd.S (Kd.slice 3 (Kd.int .i64)) 50 w' w.heap.size (fun _ => True) v0_ r1 ∧ Below w.heap.size w w' := by
  obtain ⟨h1, hr⟩ := some_if h
  obtain ⟨hV1, hV7, hn, h2, h3, h4⟩ := okX_parts h1
  have hr2 : resL a0_0.toNat (nl l0_1) = (r1, r2) := hr.symm
  obtain ⟨V, rfl⟩ := Int.eq_ofNat_of_zero_le (show 0 ≤ a0_0 by omega)
  refine (resolve_any V (by omega) (by omega) A0_1 _ c0_1 (nl l0_1) w (blc_of (by decide) hr0_1 h2) hn (okX_small h1) h4 hT).mono ?_
  rintro e w' ⟨v, vs, he, ho, hb⟩
  simp only [Int.toNat_natCast] at hr2
  rw [hr2] at he ho
  exact ⟨v, he, S_of_OutC ho, hb⟩

/-! ### design_Strength: function 45 -/
def design_Strength.f (a0_0 : Int) (l0_1 : List Int) : Option (Int × Int × Int × Int × Int) := if l0_1.length < 2 ^ 40 ∧ okL 16384 l0_1 = true ∧ 0 ≤ a0_0 then some ((strL a0_0.toNat (nl l0_1)).T, (strL a0_0.toNat (nl l0_1)).V, (strL a0_0.toNat (nl l0_1)).K, (strL a0_0.toNat (nl l0_1)).L, (strL a0_0.toNat (nl l0_1)).E) else none
set_option maxRecDepth 100000 in
theorem design_Strength.calls (a0_0 : Int) (A0_1 : Option Addr) (c0_1 : Nat) (l0_1 : List Int) (r1 : Int) (r2 : Int) (r3 : Int) (r4 : Int) (r5 : Int) (w : World) (hr0_1 : Kd.C (Kd.int .u64) w A0_1 l0_1.length l0_1) (hc0_1 : l0_1.length ≤ c0_1) (h : design_Strength.f a0_0 l0_1 = some (r1, r2, r3, r4, r5)) :
    Calls Tryd.prog 45 #[.agg #[.int .i64 a0_0, .slice A0_1 l0_1.length c0_1]] w fun e w' => e = .returned (.tuple #[.agg #[.int .i64 r1, .int .i64 r2, .int .i64 r3, .int .i64 r4], .int .i64 r5]) ∧ Below w.heap.size w w' := by
  obtain ⟨⟨h1, h2, h3⟩, hr⟩ := some_if h
  simp only [Prod.mk.injEq] at hr
  obtain ⟨rfl, rfl, rfl, rfl, rfl⟩ := hr
  obtain ⟨V, rfl⟩ := Int.eq_ofNat_of_zero_le h3
  exact strength_any V A0_1 _ c0_1 (nl l0_1) w (blc_of (by decide) hr0_1 h2) h1 (okL_nl h2)

/-! ### plexusref06_Limited: function 30 -/
def plexusref06_Limited.f (l0_0 : List Int) (a1 : Int) : Option (Int × List Int) := if l0_0.length < 2 ^ 63 ∧ okL 256 l0_0 = true ∧ 1 ≤ a1 ∧ a1 ≤ 7 then some ((limV (nl l0_0) a1.toNat : Nat), il (limB (nl l0_0) a1.toNat)) else none
set_option maxRecDepth 100000 in
theorem plexusref06_Limited.calls (A0_0 : Option Addr) (c0_0 : Nat) (l0_0 : List Int) (a1 : Int) (r1 : Int) (r2 : List Int) (w : World) (hr0_0 : Kd.C (Kd.int .u8) w A0_0 l0_0.length l0_0) (hc0_0 : l0_0.length ≤ c0_0) (h : plexusref06_Limited.f l0_0 a1 = some (r1, r2)) :
    Calls Tryd.prog 30 #[.agg #[.slice A0_0 l0_0.length c0_0], .int .i64 a1] w fun e w' => ∃ v1_ : Value, e = .returned (.agg #[.int .i64 r1, v1_]) ∧ Kd.R (Kd.int .u64) 60 w' w.heap.size (fun _ => True) v1_ r2 ∧ Below w.heap.size w w' := by
  obtain ⟨⟨h1, h2, h3, h4⟩, hr⟩ := some_if h
  obtain ⟨rfl, rfl⟩ := Prod.mk.inj hr
  obtain ⟨m, rfl⟩ := Int.eq_ofNat_of_zero_le (show 0 ≤ a1 by omega)
  refine (limited_any A0_0 _ c0_0 (nl l0_0) m (by omega) (by omega) w (nlc_of hr0_0 h2) (by omega)).mono ?_
  rintro e w' ⟨v, he, ho, hb⟩
  exact ⟨v, he, R_own ho, hb⟩

/-! ### incidence_Degrees: function 24 -/
def incidence_Degrees.f (a0_0 : Int) (l0_1 : List Int) : Option (List Int) := if okX a0_0 l0_1 = true then some (degL a0_0.toNat (nl l0_1)) else none
set_option maxRecDepth 100000 in
theorem incidence_Degrees.calls (a0_0 : Int) (A0_1 : Option Addr) (c0_1 : Nat) (l0_1 : List Int) (r : List Int) (w : World) (hr0_1 : Kd.C (Kd.int .u64) w A0_1 l0_1.length l0_1) (hc0_1 : l0_1.length ≤ c0_1) (hT : TabOk w) (h : incidence_Degrees.f a0_0 l0_1 = some r) :
    Calls Tryd.prog 24 #[.agg #[.int .i64 a0_0, .slice A0_1 l0_1.length c0_1]] w fun e w' => ∃ v0_ : Value, e = .returned (v0_) ∧ Kd.R (Kd.int .i64) 3 w' w.heap.size (fun _ => True) v0_ r ∧ Below w.heap.size w w' := by
  obtain ⟨h1, rfl⟩ := some_if h
  obtain ⟨hV1, hV7, hn, h2, h3, h4⟩ := okX_parts h1
  obtain ⟨V, rfl⟩ := Int.eq_ofNat_of_zero_le (show 0 ≤ a0_0 by omega)
  refine (degrees_any V (by omega) A0_1 _ c0_1 (nl l0_1) w (blc_of (by decide) hr0_1 h2) hn h3 h4 hT).mono ?_
  rintro e w' ⟨v, he, ho, hb⟩
  exact ⟨v, he, R_own ho, hb⟩

end Go.Proofs.YtoiahjncpngkeaaDoor.Pd
