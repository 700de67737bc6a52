-- Written by this session's program xprint.py: it drives the kit's print with contracts of this session's own.
import Derived.Test.YtmfmlfaglemgfaaDoorPdx0
import Derived.Test.YtmfmlfaglemgfaaDoorLi
import Derived.Test.YtmfmlfaglemgfaaDoorWi
import Derived.Test.YtmfmlfaglemgfaaDoorCn
namespace Go.Proofs.YtmfmlfaglemgfaaDoor.Pd
open Go.RowKit Go.Lib Go.Proofs.YtmfmlfaglemgfaaDoorW.PrintWords
set_option linter.unusedVariables false
set_option linter.unusedSimpArgs false

/-! ### disjunct_Slack: function 7 -/
def disjunct_Slack.f (a0_0 : Int) (l0_1 : List Int) (a0_2 : Int) (a0_3 : Int) : Option (Int) := if 0 ≤ a0_0 ∧ a0_0 ≤ 16 ∧ 0 ≤ a0_2 ∧ a0_2 ≤ 16 ∧ l0_1.length ≤ 15 ∧ okL 16384 l0_1 = true then some (slackN a0_0.toNat a0_2.toNat (nl l0_1)) else none
set_option maxRecDepth 100000 in
theorem disjunct_Slack.calls (a0_0 : Int) (A0_1 : Option Addr) (c0_1 : Nat) (l0_1 : List Int) (a0_2 : Int) (a0_3 : Int) (r : Int) (w : World) (hr0_1 : Kd.C (Kd.int .u64) w A0_1 l0_1.length l0_1) (hc0_1 : l0_1.length ≤ c0_1) (h : disjunct_Slack.f a0_0 l0_1 a0_2 a0_3 = some r) :
    Calls Tryd.prog 7 #[.agg #[.int .i64 a0_0, .slice A0_1 l0_1.length c0_1, .int .i64 a0_2, .int .i64 a0_3]] w fun e w' => e = .returned (.int .i64 r) ∧ Below w.heap.size w w' := by
  obtain ⟨⟨h1, h2, h3, h4, h5, h6⟩, rfl⟩ := some_if h
  obtain ⟨V, rfl⟩ := Int.eq_ofNat_of_zero_le h1
  obtain ⟨d, rfl⟩ := Int.eq_ofNat_of_zero_le h3
  exact slack_any V d _ c0_1 A0_1 a0_3 (nl l0_1) (by omega) (by omega) h5 w (blc_of (by decide) hr0_1 h6)

/-! ### plexusref06_Limited: function 27 -/
def plexusref06_Limited.f (l0_0 : List Int) (a1 : Int) : Option (Int × List Int) := if l0_0.length < 2 ^ 63 ∧ okL 256 l0_0 = true ∧ 1 ≤ a1 ∧ a1 ≤ 7 then some ((limV (nl l0_0) a1.toNat : Nat), il (limB (nl l0_0) a1.toNat)) else none
set_option maxRecDepth 100000 in
theorem plexusref06_Limited.calls (A0_0 : Option Addr) (c0_0 : Nat) (l0_0 : List Int) (a1 : Int) (r1 : Int) (r2 : List Int) (w : World) (hr0_0 : Kd.C (Kd.int .u8) w A0_0 l0_0.length l0_0) (hc0_0 : l0_0.length ≤ c0_0) (h : plexusref06_Limited.f l0_0 a1 = some (r1, r2)) :
    Calls Tryd.prog 27 #[.agg #[.slice A0_0 l0_0.length c0_0], .int .i64 a1] w fun e w' => ∃ v1_ : Value, e = .returned (.agg #[.int .i64 r1, v1_]) ∧ Kd.R (Kd.int .u64) 48 w' w.heap.size (fun _ => True) v1_ r2 ∧ Below w.heap.size w w' := by
  obtain ⟨⟨h1, h2, h3, h4⟩, hr⟩ := some_if h
  obtain ⟨rfl, rfl⟩ := Prod.mk.inj hr
  obtain ⟨m, rfl⟩ := Int.eq_ofNat_of_zero_le (show 0 ≤ a1 by omega)
  refine (limited_any A0_0 _ c0_0 (nl l0_0) m (by omega) (by omega) w (nlc_of hr0_0 h2) (by omega)).mono ?_
  rintro e w' ⟨v, he, ho, hb⟩
  exact ⟨v, he, R_own ho, hb⟩

/-! ### slices_Clone_uint64_uint64: function 41 -/
def slices_Clone_uint64_uint64.f (l0 : List Int) : Option (List Int) := if l0.length < 1099511627776 ∧ okL 18446744073709551616 l0 = true then some l0 else none
set_option maxRecDepth 100000 in
theorem slices_Clone_uint64_uint64.calls (A0 : Option Addr) (c0 : Nat) (l0 : List Int) (r : List Int) (w : World) (hr0 : Kd.C (Kd.int .u64) w A0 l0.length l0) (hc0 : l0.length ≤ c0) (h : slices_Clone_uint64_uint64.f l0 = some r) :
    Calls Tryd.prog 41 #[.slice A0 l0.length c0] w fun e w' => ∃ v0_ : Value, e = .returned (v0_) ∧ Kd.R (Kd.int .u64) 48 w' w.heap.size (fun _ => True) v0_ r ∧ Below w.heap.size w w' := by
  obtain ⟨⟨h1, h2⟩, hr⟩ := some_if h
  refine (clone_any A0 _ c0 (nl l0) w (blc_of (by decide) hr0 h2) h1).mono ?_
  rintro e w' ⟨v, he, ho, hb⟩
  rw [il_nl (fun b hb => (okL_iff.1 h2 b hb).1), ← hr] at ho
  exact ⟨v, he, R_own ho, hb⟩

/-! ### disjunct_Apart: function 12 -/
def disjunct_Apart.f (a0_0 : Int) (l0_1 : List Int) (a0_2 : Int) (a0_3 : Int) : Option (Int) := if 0 ≤ a0_0 ∧ a0_0 ≤ 7 ∧ 0 ≤ a0_2 ∧ a0_2 ≤ 3 ∧ l0_1.length ≤ 15 ∧ okL 16384 l0_1 = true then some (apartN a0_0.toNat a0_2.toNat (nl l0_1)) else none
set_option maxRecDepth 100000 in
theorem disjunct_Apart.calls (a0_0 : Int) (A0_1 : Option Addr) (c0_1 : Nat) (l0_1 : List Int) (a0_2 : Int) (a0_3 : Int) (r : Int) (w : World) (hr0_1 : Kd.C (Kd.int .u64) w A0_1 l0_1.length l0_1) (hc0_1 : l0_1.length ≤ c0_1) (h : disjunct_Apart.f a0_0 l0_1 a0_2 a0_3 = some r) :
    Calls Tryd.prog 12 #[.agg #[.int .i64 a0_0, .slice A0_1 l0_1.length c0_1, .int .i64 a0_2, .int .i64 a0_3]] w fun e w' => e = .returned (.int .i64 r) ∧ Below w.heap.size w w' := by
  obtain ⟨⟨h1, h2, h3, h4, h5, h6⟩, rfl⟩ := some_if h
  obtain ⟨V, rfl⟩ := Int.eq_ofNat_of_zero_le h1
  obtain ⟨d, rfl⟩ := Int.eq_ofNat_of_zero_le h3
  exact apart_any V d _ c0_1 A0_1 a0_3 (nl l0_1) (by omega) (by omega) h5 (upL_small (by omega) (by omega)) w (blc_of (by decide) hr0_1 h6)


/-! ### disjunct_Positive: function 16 -/
def disjunct_Positive.f (a0_0 : Int) (l0_1 : List Int) (a0_2 : Int) (a0_3 : Int) (a1 : Int) : Option (Int) := if l0_1.length ≤ 60 ∧ okL 16384 l0_1 = true ∧ 0 ≤ a1 ∧ a1 < 18446744073709551616 then some ((posN (nl l0_1) a1.toNat (nl l0_1).length : Nat) : Int) else none
set_option maxRecDepth 100000 in
theorem disjunct_Positive.calls (a0_0 : Int) (A0_1 : Option Addr) (c0_1 : Nat) (l0_1 : List Int) (a0_2 : Int) (a0_3 : Int) (a1 : Int) (r : Int) (w : World) (hr0_1 : Kd.C (Kd.int .u64) w A0_1 l0_1.length l0_1) (hc0_1 : l0_1.length ≤ c0_1) (h : disjunct_Positive.f a0_0 l0_1 a0_2 a0_3 a1 = some r) :
    Calls Tryd.prog 16 #[.agg #[.int .i64 a0_0, .slice A0_1 l0_1.length c0_1, .int .i64 a0_2, .int .i64 a0_3], .int .u64 a1] w fun e w' => e = .returned (.int .u64 r) ∧ Below w.heap.size w w' := by
  obtain ⟨⟨h1, h2, h3, h4⟩, rfl⟩ := some_if h
  obtain ⟨s, rfl⟩ := Int.eq_ofNat_of_zero_le h3
  exact positive_any a0_0 a0_2 a0_3 A0_1 _ c0_1 (nl l0_1) s (by omega) w (blc_of (by decide) hr0_1 h2) h1

/-! ### plexusref06_With: function 19 -/
def plexusref06_With.f (l0 : List Int) (a1 : Int) : Option (List Int) := if l0.length < 1099511627776 ∧ okL 16384 l0 = true ∧ 0 ≤ a1 ∧ a1 < 16384 then some (il (withL (nl l0) a1.toNat)) else none
set_option maxRecDepth 100000 in
theorem plexusref06_With.calls (A0 : Option Addr) (c0 : Nat) (l0 : List Int) (a1 : Int) (r : List Int) (w : World) (hr0 : Kd.C (Kd.int .u64) w A0 l0.length l0) (hc0 : l0.length ≤ c0) (h : plexusref06_With.f l0 a1 = some r) :
    Calls Tryd.prog 19 #[.slice A0 l0.length c0, .int .u64 a1] w fun e w' => ∃ v0_ : Value, e = .returned (v0_) ∧ Kd.R (Kd.int .u64) 48 w' w.heap.size (fun _ => True) v0_ r ∧ Below w.heap.size w w' := by
  obtain ⟨⟨h1, h2, h3, h4⟩, rfl⟩ := some_if h
  obtain ⟨b, rfl⟩ := Int.eq_ofNat_of_zero_le h3
  refine (with_any A0 _ c0 (nl l0) b (by omega) w (blc_of (by decide) hr0 h2) h1 hc0).mono ?_
  rintro e w' ⟨v, he, ho, hb⟩
  exact ⟨v, he, R_own (by simpa [il_length, withL_length, nl_length] using ho), hb⟩

end Go.Proofs.YtmfmlfaglemgfaaDoor.Pd
