-- Written by this session's program xprint.py: it drives the kit's print with contracts of this session's own.
/- slices.Sort at []uint64, walked for at most 12 elements of a row of the call's own. -/
/- slices.Sort at []uint64: the way to the insertion sort, walked for at most 12 elements. -/
/- The least bit of a number: plain lemmas; no condition. -/
/- math/bits.TrailingZeros64, walked, where its table lies as the program's text lays it. -/
/- The points of a set (package incidence), walked: an iterator; the numbers of blocks through each point. -/
/- incidence.made, walked for the function that incidence.Image hands it. -/
/- incidence.Image at a permutation, walked: the function that it hands to made, which goes over a set's points. -/
/- incidence.Image$1, walked: a set's points, taken over one by one. -/
/- incidence.Image at a permutation, walked. -/
/- Small facts of chapter 42's lists: points, blocks, masks; in plain Lean. -/
/- incidence.different at a list of different points; in plain Lean over the printed function. -/
-- Written by this session's program xprint.py: it drives the kit's print with contracts of this session's own.
import Derived.Test.YtheclfjbedajfaaDoorPdx0
import Derived.Test.YtheclfjbedajfaaDoorEy
import Derived.Test.YtheclfjbedajfaaDoorSi
import Derived.Lib.BufferOwn
import Derived.Deep.QuietTactic
import Derived.BigQuiet
import Derived.BigRegion
import Derived.KernelRfl
import Derived.Test.YtheclfjbedajfaaDoorPdx2
namespace Go.Proofs.YtheclfjbedajfaaDoor.Pd
open Go.RowKit Go.Proofs.YtheclfjbedajfaaDoorW.PrintWords Go.Proofs.YtheclfjbedajfaaDoorW.PrintLast Go.Proofs.YtheclfjbedajfaaDoorW.PrintMore
attribute [local go_sem] max2_int min2_int max_two min_two max_three min_three max_four min_four   -- for this text's walks alone
set_option linter.unusedVariables false
set_option linter.unusedSimpArgs false

/-! ### plexuslaw42_examples: function 4 -/
def plexuslaw42_examples.f : Option (Bool) := some true
theorem plexuslaw42_examples.calls (r : Bool) (w : World) (h : plexuslaw42_examples.f = some r) : Calls Tryd.prog 4 #[] w fun e w' => e = .returned (.bool r) ∧ Below w.heap.size w w' := by
  obtain rfl := Option.some.inj h
  exact examples_any w


/-! ### incidence_set_has: function 37 -/
def incidence_set_has.f (a0 : Int) (a1 : Int) : Option (Bool) := if 0 ≤ a1 then (some ((Go.bits .and .u64 (shr .u64 a0 a1) 1) == 1)) else (none)
set_option maxHeartbeats 8000000 in
set_option maxRecDepth 100000 in
theorem incidence_set_has.calls (a0 : Int) (a1 : Int) (r : Bool) (w : World) (h : incidence_set_has.f a0 a1 = some r) :
    Calls Tryd.prog 37 #[.int .u64 a0, .int .i64 a1] w fun e w' => e = .returned (.bool r) ∧ Drawn0 w w' := by
  have H : (if 0 ≤ a1 then (some ((Go.bits .and .u64 (shr .u64 a0 a1) 1) == 1)) else (none)) = some r := h
  clear h
  by_cases c3 : 0 ≤ a1
  · rw [if_pos c3] at H
    have c3b0 := eq_true c3
    have c3b1 : decide (0 ≤ a1) = true := decide_eq_true c3
    clear c3
    obtain ⟨ji4, hji4⟩ : ∃ j_ : Int, (shr .u64 a0 a1) = j_ := ⟨_, rfl⟩
    replace H : (some ((Go.bits .and .u64 (ji4) 1) == 1)) = some r := by first | (rw [hji4] at H; exact H) | (simp only [hji4] at H ⊢; exact H)
    have hji4_ : (a0 / 2 ^ min a1.toNat 64) = ji4 := hji4
    have hji4z : a1 ≤ 64 → (a0 / 2 ^ a1.toNat) = ji4 := shr_small hji4
    obtain rfl := Option.some.inj H
    go_enter Tryd.func37, Tryd.ntmps37
    go_wp2
    go_ret
    exact ⟨by first | rfl | (simp; done) | (simp only [← hji4] <;> (first | rfl | simp)) | (simp [*]; done), by repeat (first | exact Drawn0.refl _ | apply Drawn0.step)⟩
  · rw [if_neg c3] at H
    exact absurd H (by simp)

/-! ### incidence_different: function 22 -/
def incidence_different.l0 : Nat → Int → Int → List Int → Int → Int → Option (Bool)
  | 0, _, _, _, _, _ => none
  | k + 1, x1, x5, x8, x9, x10 => if x10 < x9 then (if 0 ≤ x10 then (if x10 < (x8.length : Int) then (if (rd x8 x10) < 0 then (some false) else (if (rd x8 x10) ≥ x1 then (some false) else ((incidence_set_has.f x5 (rd x8 x10)).bind fun t298 => (if t298 = true then (some false) else (if 0 ≤ (rd x8 x10) then (incidence_different.l0 k x1 (Go.bits .or .u64 x5 (shl .u64 1 (rd x8 x10))) x8 x9 (wrap64 (x10 + 1))) else (none)))))) else (none)) else (none)) else (some true)
def incidence_different.f (k : Nat) (l0 : List Int) (a1 : Int) : Option (Bool) := incidence_different.l0 k a1 0 l0 (l0.length : Int) 0
theorem incidence_different.mono_l : ∀ k, (∀ y0 y1 y2 y3 y4, LeO (incidence_different.l0 k y0 y1 y2 y3 y4) (incidence_different.l0 (k + 1) y0 y1 y2 y3 y4))
  | 0 => fun _ _ _ _ _ r h => by simp [incidence_different.l0] at h
  | k + 1 => by
    have ih0 := incidence_different.mono_l k
    · intro y0 y1 y2 y3 y4
      unfold incidence_different.l0
      repeat' first
      | (with_reducible exact ih0 _ _ _ _ _)
      | (with_reducible exact LeO.refl _)
      | (with_reducible exact LeO.none _)
      | (with_reducible refine LeO.ite ?_ ?_)
      | (with_reducible refine LeO.bind ?_ (fun _ => ?_))
      | exact ih0 _ _ _ _ _
      | exact LeO.none _
      | refine LeO.ite ?_ ?_
      | refine LeO.bind ?_ (fun _ => ?_)
theorem incidence_different.mono : ∀ a0 a1 k, LeO (incidence_different.f k a0 a1) (incidence_different.f (k + 1) a0 a1) := by
  intro a0 a1 k
  have ih0 := incidence_different.mono_l k
  unfold incidence_different.f
  repeat' first
      | (with_reducible exact ih0 _ _ _ _ _)
      | (with_reducible exact LeO.refl _)
      | (with_reducible exact LeO.none _)
      | (with_reducible refine LeO.ite ?_ ?_)
      | (with_reducible refine LeO.bind ?_ (fun _ => ?_))
      | exact ih0 _ _ _ _ _
      | exact LeO.none _
      | refine LeO.ite ?_ ?_
      | refine LeO.bind ?_ (fun _ => ?_)
set_option maxHeartbeats 8000000 in
set_option maxRecDepth 100000 in
theorem incidence_different.calls (k : Nat) (A0 : Option Addr) (c0 : Nat) (l0 : List Int) (a1 : Int) (r : Bool) (w : World) (hr0 : Kd.C (Kd.int .i64) w A0 l0.length l0) (hc0 : l0.length ≤ c0) (h : incidence_different.f k l0 a1 = some r) :
    Calls Tryd.prog 22 #[.slice A0 l0.length c0, .int .i64 a1] w fun e w' => e = .returned (.bool r) ∧ Drawn0 w w' := by
  have HR0 := Aside0.mk hr0
  have HC0 := Aside0.mk hc0
  clear hr0 hc0
  have H : (incidence_different.l0 k a1 0 l0 (l0.length : Int) 0) = some r := h
  clear h
  have H' := Aside0.mk H
  clear H
  go_enter Tryd.func22, Tryd.ntmps22
  go_wp2
  go_loopg [5, 10] k (fun kq v5 v10 w' => ∃ (x5_1 : Int) (x10_1 : Int), v5 = .int .u64 x5_1 ∧ v10 = .int .i64 x10_1 ∧ Aside0 (incidence_different.l0 kq a1 x5_1 l0 (l0.length : Int) x10_1 = some r) ∧ Aside0 (kq ≤ k) ∧ Drawn0 w w')
  case atStart => exact ⟨(0), (0), (by first | rfl | (simp; done) | (simp [*]; done)), (by first | rfl | (simp; done) | (simp [*]; done)), H', ⟨Nat.le_refl _⟩, by repeat (first | exact Drawn0.refl _ | apply Drawn0.step)⟩
  case round =>
    clear H'
    try clear c2
    try clear p2
    obtain ⟨x5_1, x10_1, rfl, rfl, HA, HK1, ⟨m1, rfl⟩⟩ := hrel
    cases gk with
    | zero => exact absurd HA.out (by simp [incidence_different.l0])
    | succ k1 =>
      have H := HA.out
      clear HA
      simp only [incidence_different.l0] at H
      by_cases c3 : x10_1 < (l0.length : Int)
      · rw [if_pos c3] at H
        have c3b0 : decide (x10_1 < (l0.length : Int)) = true := decide_eq_true c3
        clear c3
        by_cases c4 : 0 ≤ x10_1
        · rw [if_pos c4] at H
          have c4b0 : decide (0 ≤ x10_1) = true := decide_eq_true c4
          clear c4
          by_cases c5 : x10_1 < (l0.length : Int)
          · rw [if_pos c5] at H
            have c5b0 : decide (x10_1 < (l0.length : Int)) = true := decide_eq_true c5
            clear c5
            by_cases c6 : (rd l0 x10_1) < 0
            · rw [if_pos c6] at H
              have c6b0 : decide ((rd l0 x10_1) < 0) = true := decide_eq_true c6
              clear c6
              obtain rfl := Option.some.inj H
              have p297 : 0 ≤ (x10_1 : Int) := of_decide_eq_true (by first | (with_reducible assumption) | assumption)
              have q297 : x10_1 < (l0.length : Int) := of_decide_eq_true (by first | (with_reducible assumption) | assumption)
              obtain ⟨ad297, e297, hx297_0⟩ := Kd.at_int HR0.out x10_1 p297 q297
              cases e297
              replace p297 := eq_true p297
              replace q297 := eq_true q297
              go_wp2
              go_ret
              exact ⟨by first | rfl | (simp; done) | (simp [*]; done), by repeat (first | exact Drawn0.refl _ | apply Drawn0.step)⟩
            · rw [if_neg c6] at H
              have c6b0 : decide ((rd l0 x10_1) < 0) = false := decide_eq_false c6
              clear c6
              by_cases c7 : (rd l0 x10_1) ≥ a1
              · rw [if_pos c7] at H
                have c7b0 : decide (a1 ≤ (rd l0 x10_1)) = true := decide_eq_true c7
                clear c7
                obtain rfl := Option.some.inj H
                have p297 : 0 ≤ (x10_1 : Int) := of_decide_eq_true (by first | (with_reducible assumption) | assumption)
                have q297 : x10_1 < (l0.length : Int) := of_decide_eq_true (by first | (with_reducible assumption) | assumption)
                obtain ⟨ad297, e297, hx297_0⟩ := Kd.at_int HR0.out x10_1 p297 q297
                cases e297
                replace p297 := eq_true p297
                replace q297 := eq_true q297
                go_wp2
                go_ret
                exact ⟨by first | rfl | (simp; done) | (simp [*]; done), by repeat (first | exact Drawn0.refl _ | apply Drawn0.step)⟩
              · rw [if_neg c7] at H
                have c7b0 : decide (a1 ≤ (rd l0 x10_1)) = false := decide_eq_false c7
                clear c7
                replace H := Option.bind_eq_some_iff.mp H
                obtain ⟨t298, A80, H⟩ := H
                replace H : (if t298 = true then (some false) else (if 0 ≤ (rd l0 x10_1) then (incidence_different.l0 k1 a1 (Go.bits .or .u64 x5_1 (shl .u64 1 (rd l0 x10_1))) l0 (l0.length : Int) (wrap64 (x10_1 + 1))) else (none))) = some r := H
                have A8 := Aside0.mk A80
                clear A80
                by_cases c9 : t298 = true
                · subst c9
                  have H1 : (some false) = some r := by first | rfl | (rw [if_pos rfl] at H; exact H)
                  clear H
                  have H := H1
                  clear H1
                  obtain rfl := Option.some.inj H
                  have p297 : 0 ≤ (x10_1 : Int) := of_decide_eq_true (by first | (with_reducible assumption) | assumption)
                  have q297 : x10_1 < (l0.length : Int) := of_decide_eq_true (by first | (with_reducible assumption) | assumption)
                  obtain ⟨ad297, e297, hx297_0⟩ := Kd.at_int HR0.out x10_1 p297 q297
                  cases e297
                  replace p297 := eq_true p297
                  replace q297 := eq_true q297
                  go_wp2_with (first | (go_at_call 37; (with_reducible refine (incidence_set_has.calls x5_1 (rd l0 x10_1) true _ A8.out).mono ?_); rintro e w' ⟨rfl, ⟨nd, rfl⟩⟩))
                  go_ret
                  exact ⟨by first | rfl | (simp; done) | (simp [*]; done), by repeat (first | exact Drawn0.refl _ | apply Drawn0.step)⟩
                · replace c9 := Bool.eq_false_iff.mpr c9
                  subst c9
                  have H1 : (if 0 ≤ (rd l0 x10_1) then (incidence_different.l0 k1 a1 (Go.bits .or .u64 x5_1 (shl .u64 1 (rd l0 x10_1))) l0 (l0.length : Int) (wrap64 (x10_1 + 1))) else (none)) = some r := by first | rfl | (rw [if_neg (show ¬ (false = true) by decide)] at H; exact H)
                  clear H
                  have H := H1
                  clear H1
                  by_cases c10 : 0 ≤ (rd l0 x10_1)
                  · rw [if_pos c10] at H
                    have c10b0 := eq_true c10
                    have c10b1 : decide (0 ≤ (rd l0 x10_1)) = true := decide_eq_true c10
                    clear c10
                    obtain ⟨ji11, hji11⟩ : ∃ j_ : Int, (shl .u64 1 (rd l0 x10_1)) = j_ := ⟨_, rfl⟩
                    replace H : (incidence_different.l0 k1 a1 (Go.bits .or .u64 x5_1 (ji11)) l0 (l0.length : Int) (wrap64 (x10_1 + 1))) = some r := by first | (rw [hji11] at H; exact H) | (simp only [hji11] at H ⊢; exact H)
                    (try rw [hji11] at A8)
                    have hji11_ : (IntKind.u64.wrap (1 * 2 ^ min (rd l0 x10_1).toNat 64)) = ji11 := hji11
                    have hji11z : (rd l0 x10_1) ≤ 64 → (IntKind.u64.wrap (1 * 2 ^ (rd l0 x10_1).toNat)) = ji11 := shl_small hji11
                    have hji11u : (IntKind.u64.wrap (2 ^ min (rd l0 x10_1).toNat 64)) = ji11 := by have h_ := hji11_; rw [Int.one_mul] at h_; exact h_
                    have hji11v : (rd l0 x10_1) ≤ 64 → (IntKind.u64.wrap (2 ^ (rd l0 x10_1).toNat)) = ji11 := fun hle_ => by have h_ := hji11z hle_; rw [Int.one_mul] at h_; exact h_
                    have H' := Aside0.mk H
                    clear H
                    have p297 : 0 ≤ (x10_1 : Int) := of_decide_eq_true (by first | (with_reducible assumption) | assumption)
                    have q297 : x10_1 < (l0.length : Int) := of_decide_eq_true (by first | (with_reducible assumption) | assumption)
                    obtain ⟨ad297, e297, hx297_0⟩ := Kd.at_int HR0.out x10_1 p297 q297
                    cases e297
                    replace p297 := eq_true p297
                    replace q297 := eq_true q297
                    go_wp2_with (first | (go_at_call 37; (with_reducible refine (incidence_set_has.calls x5_1 (rd l0 x10_1) false _ A8.out).mono ?_); rintro e w' ⟨rfl, ⟨nd, rfl⟩⟩))
                    go_roundg k1
                    case measure => have := HK1.out; omega
                    case rel => exact ⟨(Go.bits .or .u64 x5_1 (ji11)), (wrap64 (x10_1 + 1)), (by first | rfl | (simp; done) | (simp only [← hji11] <;> (first | rfl | simp)) | (simp [*]; done)), (by first | rfl | (simp; done) | (simp [*]; done)), H', ⟨by have := HK1.out; omega⟩, by repeat (first | exact Drawn0.refl _ | apply Drawn0.step)⟩
                  · rw [if_neg c10] at H
                    exact absurd H (by simp)
          · rw [if_neg c5] at H
            exact absurd H (by simp)
        · rw [if_neg c4] at H
          exact absurd H (by simp)
      · rw [if_neg c3] at H
        have c3b0 : decide (x10_1 < (l0.length : Int)) = false := decide_eq_false c3
        clear c3
        obtain rfl := Option.some.inj H
        go_wp2
        go_ret
        exact ⟨by first | rfl | (simp; done) | (simp [*]; done), by repeat (first | exact Drawn0.refl _ | apply Drawn0.step)⟩

/-! ### cmp_isNaN_uint64: function 69 -/
def cmp_isNaN_uint64.f (a0 : Int) : Option (Bool) := some (a0 != a0)
set_option maxHeartbeats 8000000 in
set_option maxRecDepth 100000 in
theorem cmp_isNaN_uint64.calls (a0 : Int) (r : Bool) (w : World) (h : cmp_isNaN_uint64.f a0 = some r) :
    Calls Tryd.prog 69 #[.int .u64 a0] w fun e w' => e = .returned (.bool r) ∧ Drawn0 w w' := by
  have H : (some (a0 != a0)) = some r := h
  clear h
  obtain rfl := Option.some.inj H
  go_enter Tryd.func69, Tryd.ntmps69
  go_wp2
  go_ret
  exact ⟨by first | rfl | (simp; done) | (simp [*]; done), by repeat (first | exact Drawn0.refl _ | apply Drawn0.step)⟩

/-! ### cmp_Less_uint64: function 57 -/
def cmp_Less_uint64.f (a0 : Int) (a1 : Int) : Option (Bool) := (cmp_isNaN_uint64.f a0).bind fun t299 => (if t299 = true then ((cmp_isNaN_uint64.f a1).bind fun t300 => (if t300 = true then (some (decide (a0 < a1))) else (some true))) else (some (decide (a0 < a1))))
set_option maxHeartbeats 8000000 in
set_option maxRecDepth 100000 in
theorem cmp_Less_uint64.calls (a0 : Int) (a1 : Int) (r : Bool) (w : World) (h : cmp_Less_uint64.f a0 a1 = some r) :
    Calls Tryd.prog 57 #[.int .u64 a0, .int .u64 a1] w fun e w' => e = .returned (.bool r) ∧ Drawn0 w w' := by
  have H : ((cmp_isNaN_uint64.f a0).bind fun t299 => (if t299 = true then ((cmp_isNaN_uint64.f a1).bind fun t300 => (if t300 = true then (some (decide (a0 < a1))) else (some true))) else (some (decide (a0 < a1))))) = some r := h
  clear h
  replace H := Option.bind_eq_some_iff.mp H
  obtain ⟨t299, A30, H⟩ := H
  replace H : (if t299 = true then ((cmp_isNaN_uint64.f a1).bind fun t300 => (if t300 = true then (some (decide (a0 < a1))) else (some true))) else (some (decide (a0 < a1)))) = some r := H
  have A3 := Aside0.mk A30
  clear A30
  by_cases c4 : t299 = true
  · subst c4
    have H1 : ((cmp_isNaN_uint64.f a1).bind fun t300 => (if t300 = true then (some (decide (a0 < a1))) else (some true))) = some r := by first | rfl | (rw [if_pos rfl] at H; exact H)
    clear H
    have H := H1
    clear H1
    replace H := Option.bind_eq_some_iff.mp H
    obtain ⟨t300, A50, H⟩ := H
    replace H : (if t300 = true then (some (decide (a0 < a1))) else (some true)) = some r := H
    have A5 := Aside0.mk A50
    clear A50
    by_cases c6 : t300 = true
    · subst c6
      have H1 : (some (decide (a0 < a1))) = some r := by first | rfl | (rw [if_pos rfl] at H; exact H)
      clear H
      have H := H1
      clear H1
      obtain rfl := Option.some.inj H
      go_enter Tryd.func57, Tryd.ntmps57
      go_wp2_with (first | ((with_reducible refine gate_callee (f := 69) rfl ?_); refine goesL_ (some 6) rfl rfl Tryd.func69 (by kernel_rfl) rfl #[.int .u64 a0] rfl (by (try simp only [List.map_toArray, List.map_cons, List.map_nil]); first | done | rfl | (simp only [List.length_drop, List.length_take]; rfl)) ?_; (with_reducible refine (cmp_isNaN_uint64.calls a0 true _ A3.out).mono ?_); rintro e w' ⟨rfl, ⟨nd, rfl⟩⟩; refine ⟨_, rfl, ?_⟩) | (go_at_call 69; (with_reducible refine (cmp_isNaN_uint64.calls a1 true _ A5.out).mono ?_); rintro e w' ⟨rfl, ⟨nd, rfl⟩⟩))
      go_ret
      exact ⟨by first | rfl | (simp; done) | (simp [*]; done), by repeat (first | exact Drawn0.refl _ | apply Drawn0.step)⟩
    · replace c6 := Bool.eq_false_iff.mpr c6
      subst c6
      have H1 : (some true) = some r := by first | rfl | (rw [if_neg (show ¬ (false = true) by decide)] at H; exact H)
      clear H
      have H := H1
      clear H1
      obtain rfl := Option.some.inj H
      go_enter Tryd.func57, Tryd.ntmps57
      go_wp2_with (first | ((with_reducible refine gate_callee (f := 69) rfl ?_); refine goesL_ (some 6) rfl rfl Tryd.func69 (by kernel_rfl) rfl #[.int .u64 a0] rfl (by (try simp only [List.map_toArray, List.map_cons, List.map_nil]); first | done | rfl | (simp only [List.length_drop, List.length_take]; rfl)) ?_; (with_reducible refine (cmp_isNaN_uint64.calls a0 true _ A3.out).mono ?_); rintro e w' ⟨rfl, ⟨nd, rfl⟩⟩; refine ⟨_, rfl, ?_⟩) | (go_at_call 69; (with_reducible refine (cmp_isNaN_uint64.calls a1 false _ A5.out).mono ?_); rintro e w' ⟨rfl, ⟨nd, rfl⟩⟩))
      go_ret
      exact ⟨by first | rfl | (simp; done) | (simp [*]; done), by repeat (first | exact Drawn0.refl _ | apply Drawn0.step)⟩
  · replace c4 := Bool.eq_false_iff.mpr c4
    subst c4
    have H1 : (some (decide (a0 < a1))) = some r := by first | rfl | (rw [if_neg (show ¬ (false = true) by decide)] at H; exact H)
    clear H
    have H := H1
    clear H1
    obtain rfl := Option.some.inj H
    go_enter Tryd.func57, Tryd.ntmps57
    go_wp2_with (first | ((with_reducible refine gate_callee (f := 69) rfl ?_); refine goesL_ (some 6) rfl rfl Tryd.func69 (by kernel_rfl) rfl #[.int .u64 a0] rfl (by (try simp only [List.map_toArray, List.map_cons, List.map_nil]); first | done | rfl | (simp only [List.length_drop, List.length_take]; rfl)) ?_; (with_reducible refine (cmp_isNaN_uint64.calls a0 false _ A3.out).mono ?_); rintro e w' ⟨rfl, ⟨nd, rfl⟩⟩; refine ⟨_, rfl, ?_⟩))
    go_ret
    exact ⟨by first | rfl | (simp; done) | (simp [*]; done), by repeat (first | exact Drawn0.refl _ | apply Drawn0.step)⟩

end Go.Proofs.YtheclfjbedajfaaDoor.Pd


namespace Go.Proofs.YtheclfjbedajfaaDoor
set_option linter.unusedSimpArgs false
set_option linter.unusedVariables false
open Go.RowKit Go.Lib Go.Proofs.YtheclfjbedajfaaDoorW.PrintWords
attribute [local go_sem] Oper.semAt_some

theorem own_storeU {W : World} {base g n cap : Nat} {e : TypeId} {bs : List Nat} (h : W.ownsRow base e 1 (.slice (some ⟨g, 0, none⟩) n cap) n (nums .u64 (il bs))) (i x : Nat) :
    (W.setCell ⟨g, i, none⟩ (.int .u64 x)).ownsRow base e 1 (.slice (some ⟨g, 0, none⟩) n cap) n (nums .u64 (il (bs.set i x))) ∧ W.grownBy (W.setCell ⟨g, i, none⟩ (.int .u64 x)) (some g) := by
  have hs := h.stored i (.int .u64 x)
  have he : (nums .u64 (il bs)).set i (.int .u64 x) = nums .u64 (il (bs.set i x)) := by rw [← il_set]; simp [nums, List.map_set]
  rwa [he] at hs
theorem own_atU {W : World} {base g n cap : Nat} {e : TypeId} {bs : List Nat} (h : W.ownsRow base e 1 (.slice (some ⟨g, 0, none⟩) n cap) n (nums .u64 (il bs))) {i : Nat} (hi : i < n) :
    W.cell? ⟨g, i, none⟩ = some (.int .u64 ((bs.getD i 0 : Nat) : Int)) ∧ W.frozen? ⟨g, i, none⟩ = false := by
  have hl : n = bs.length := by have := h.1; simp [nums, il] at this; omega
  obtain ⟨h1, h2⟩ := own_at h (i : Int) (by omega) (by omega)
  rw [Int.toNat_natCast] at h1 h2
  rw [rd_il (by omega)] at h1
  exact ⟨h1, h2⟩
set_option maxHeartbeats 400000 in
theorem isnan_any (a : Nat) (w : World) : Calls Tryd.prog 69 #[.int .u64 a] w fun e w' => e = .returned (.bool false) ∧ w' = w := by
  go_enter Tryd.func69, Tryd.ntmps69
  go_wp2
  go_ret
  exact ⟨by simp, rfl⟩
set_option maxHeartbeats 400000 in
theorem less_any (a b : Nat) (w : World) : Calls Tryd.prog 57 #[.int .u64 a, .int .u64 b] w fun e w' => e = .returned (.bool (decide ((a : Int) < b))) ∧ w' = w := by
  go_enter Tryd.func57, Tryd.ntmps57
  go_wp2_with (go_at_call 69; refine (isnan_any _ _).mono ?_; rintro e w' ⟨rfl, rfl⟩)
  go_ret
  exact ⟨by simp, rfl⟩
theorem less_is (a b : Nat) (v : Bool) (h : decide ((a : Int) < b) = v) (w : World) : Calls Tryd.prog 57 #[.int .u64 a, .int .u64 b] w fun e w' => e = .returned (.bool v) ∧ w' = w := by
  rw [← h]; exact less_any a b w
theorem grown_drewN' {w W : World} {row : Option Nat} (h : w.grownBy W row) (n : Nat) : w.grownBy (W.drewN n) row := ⟨h.os, h.tape, h.output, h.size, h.block⟩
set_option maxHeartbeats 2000000 in
set_option maxRecDepth 100000 in
theorem insertion_any (base g cap : Nat) (bs : List Nat) (w : World) (ho : w.ownsRow base 25 1 (.slice (some ⟨g, 0, none⟩) bs.length cap) bs.length (nums .u64 (il bs))) (hn : bs.length ≤ 12) :
    Calls Tryd.prog 51 #[.slice (some ⟨g, 0, none⟩) bs.length cap, .int .i64 0, .int .i64 bs.length] w fun e w' =>
      e = .returned (.tuple #[]) ∧ w'.ownsRow base 25 1 (.slice (some ⟨g, 0, none⟩) bs.length cap) bs.length (nums .u64 (il (sortedL bs))) ∧ w.grownBy w' (some g) := by
  have hst : w.ownsRow base 25 1 (.slice (some ⟨g, 0, none⟩) bs.length cap) bs.length (nums .u64 (il (sortedL (bs.take 1) ++ bs.drop 1))) := by rw [sorted_start]; exact ho
  clear ho
  obtain ⟨n, hnb⟩ : ∃ n, n = bs.length := ⟨_, rfl⟩
  rw [← hnb] at hst hn ⊢
  have HNB := hid hnb
  clear hnb
  go_enter Tryd.func51, Tryd.ntmps51
  go_wp2
  go_loopw [6] (fun i wr => w.grownBy wr (some g) ∧ ∃ k : Nat, 1 ≤ k ∧ k ≤ n + 1 ∧ i = .int .i64 k ∧ wr.ownsRow base 25 1 (.slice (some ⟨g, 0, none⟩) n cap) n (nums .u64 (il (sortedL (bs.take k) ++ bs.drop k)))) (fun i _ => 20 - (intOf i).toNat)
  case atStart => exact ⟨World.grownBy.refl w _, 1, by omega, by omega, rfl, hst⟩
  case round =>
    obtain ⟨hg, k, hk1, hk2, rfl, ho⟩ := hrel
    clear hst
    by_cases hlt : k < n
    · obtain ⟨S, hS⟩ : ∃ S, sortedL (bs.take k) = S := ⟨_, rfl⟩
      obtain ⟨x, hx⟩ : ∃ x, bs.getD k 0 = x := ⟨_, rfl⟩
      have hSl : S.length = k := by rw [← hS, sortedL_length, List.length_take]; have := HNB.out; omega
      have hbk : bs.drop k = x :: bs.drop (k + 1) := by
        have := HNB.out
        rw [List.drop_eq_getElem_cons (show k < bs.length by omega), ← hx]; simp [List.getD_eq_getElem?_getD, show k < bs.length by omega]
      obtain ⟨R, hR⟩ : ∃ R, bs.drop (k + 1) = R := ⟨_, rfl⟩
      have ho2 : wr.ownsRow base 25 1 (.slice (some ⟨g, 0, none⟩) n cap) n (nums .u64 (il (insIn S x k ++ R))) := by
        have e : insIn S x k ++ R = sortedL (bs.take k) ++ bs.drop k := by rw [hS, hbk, hR, ← hSl, insIn_end]; simp
        rw [e]; exact ho
      have HSS := hid (show S.Pairwise (· ≤ ·) from by rw [← hS]; exact sortedL_sorted _)
      have HNEXT := hid (show withL S x ++ R = sortedL (bs.take (k + 1)) ++ bs.drop (k + 1) from by
        have := HNB.out
        rw [List.take_succ_eq_append_getElem (show k < bs.length by omega), sortedL_snoc, hS, hR, ← hx]; simp [List.getD_eq_getElem?_getD, show k < bs.length by omega])
      have HSL := hid hSl
      clear ho hS hx hbk hR hSl
      go_wp2
      go_loopw [7] (fun jv wr2 => w.grownBy wr2 (some g) ∧ ∃ j : Nat, j ≤ k ∧ jv = .int .i64 j ∧ wr2.ownsRow base 25 1 (.slice (some ⟨g, 0, none⟩) n cap) n (nums .u64 (il (insIn S x j ++ R))) ∧ Hid (∀ y ∈ S.drop j, x < y)) (fun jv _ => (intOf jv).toNat)
      case atStart => exact ⟨hg, k, by omega, rfl, ho2, (show ∀ y ∈ S.drop k, x < y from by have := HSL.out; intro y hy; rw [List.drop_of_length_le (by omega)] at hy; cases hy)⟩
      case round =>
        obtain ⟨hg2, j, hj, rfl, ho3, HD⟩ := hrel
        clear ho2
        have hout : (j = 0 ∨ S.getD (j - 1) 0 ≤ x) → wr.ownsRow base 25 1 (.slice (some ⟨g, 0, none⟩) n cap) n (nums .u64 (il (sortedL (bs.take (k + 1)) ++ bs.drop (k + 1)))) := fun h => by
          rw [← HNEXT.out, ← insIn_stop HSS.out (by have := HSL.out; omega) HD.out h]; exact ho3
        have HOUT := hid hout
        clear hout
        rcases Nat.eq_zero_or_pos j with hj0 | hj0
        · have HJ0 := hid hj0
          have hjv : (j : Int) = 0 := by omega
          rw [hjv]
          clear hj0 hjv
          have hgd : decide ((0 : Int) > 0) = false := by decide
          go_wp2_with fail
          go_quiet (fail)
          go_wp2
          go_round
          case rel => exact ⟨grown_drewN' hg2 _, k + 1, by omega, by omega, by go_num, HOUT.out (.inl HJ0.out)⟩
          case measure => simp [intOf]; omega
        · obtain ⟨p, hp⟩ : ∃ p, j = p + 1 := ⟨j - 1, by omega⟩
          have HP := hid hp
          have hpS : p < S.length := by have := HSL.out; omega
          obtain ⟨y, hy⟩ : ∃ y, S.getD p 0 = y := ⟨_, rfl⟩
          have hjn : p + 1 < n := by omega
          obtain ⟨ca, fa⟩ := own_atU ho3 (i := p + 1) hjn
          obtain ⟨cb, fb⟩ := own_atU ho3 (i := p) (by omega)
          rw [hp, insIn_at (by omega)] at ca
          rw [hp, insIn_prev hpS, hy] at cb
          have HSW := hid (show ((insIn S x j ++ R).set (p + 1) y).set p x = insIn S x p ++ R from by rw [hp, ← hy]; exact insIn_swap hpS)
          have HDN := hid (show x < y → ∀ z ∈ S.drop p, x < z from by
            intro hxy z hz
            rw [List.drop_eq_getElem_cons hpS] at hz
            rcases List.mem_cons.1 hz with rfl | hz
            · have : S.getD p 0 = S[p] := by simp [List.getD_eq_getElem?_getD, hpS]
              omega
            · exact HD.out z (by rw [hp]; exact hz))
          have HY := hid hy
          rw [show (j : Int) = (p : Int) + 1 from by omega]
          obtain ⟨iN, hiN⟩ : ∃ q, q = p + 1 := ⟨_, rfl⟩
          obtain ⟨jN, hjN⟩ : ∃ q, q = p := ⟨_, rfl⟩
          rw [← hiN] at ca fa
          rw [← hjN] at cb fb
          have ea : ((p : Int) + 1).toNat = iN := by omega
          have pa : (0 : Int) ≤ (p : Int) + 1 := by omega
          have ba : (p : Int) + 1 < (n : Int) := by omega
          have ra : IntKind.i64.wrap ((p : Int) + 1) = (p : Int) + 1 := by rw [IntKind.wrap_i64]; omega
          have ec : ((p : Int)).toNat = jN := by omega
          have pc : (0 : Int) ≤ (p : Int) := by omega
          have bc : (p : Int) < (n : Int) := by omega
          have rc : IntKind.i64.wrap ((p : Int)) = (p : Int) := by rw [IntKind.wrap_i64]; omega
          have hgd : decide ((p : Int) + 1 > (0 : Int)) = true := decide_eq_true (by omega)
          have HIN := hid hiN
          have HJN := hid hjN
          clear hp hy hiN hjN hpS
          cases hlv : decide ((x : Int) < (y : Int)) with
          | false =>
            have HLV := hid hlv
            clear hlv
            go_wp2_with fail
            go_quiet ((go_at_call 57; exact Calls.quiet_of_same (less_is _ _ _ HLV.out _)))
            go_wp2
            go_round
            case rel => exact ⟨grown_drewN' hg2 _, k + 1, by omega, by omega, by go_num, HOUT.out (.inr (by rw [HP.out, Nat.add_sub_cancel, HY.out]; have := of_decide_eq_false HLV.out; omega))⟩
            case measure => simp [intOf]; omega
          | true =>
            have HLV := hid hlv
            clear hlv
            go_wp2_with fail
            go_quiet ((go_at_call 57; exact Calls.quiet_of_same (less_is _ _ _ HLV.out _)))
            have ca2 : (wr.drewN nq).cell? ⟨g, iN, none⟩ = some (.int .u64 x) := ca
            have cb2 : (wr.drewN nq).cell? ⟨g, jN, none⟩ = some (.int .u64 y) := cb
            have fa2 : (wr.drewN nq).frozen? ⟨g, iN, none⟩ = false := fa
            have fb2 : (wr.drewN nq).frozen? ⟨g, jN, none⟩ = false := fb
            have ho4 : (wr.drewN nq).ownsRow base 25 1 (.slice (some ⟨g, 0, none⟩) n cap) n (nums .u64 (il (insIn S x j ++ R))) := ho3
            have hg3 := grown_drewN' hg2 nq
            clear ca cb fa fb ho3 hg2 HOUT
            generalize wr.drewN nq = w2 at *
            go_wp2_with fail
            go_region
            all_goals
              go_wp2
              go_round
              case rel =>
                rw [HIN.out, HJN.out]
                have hgA : w2.grownBy w2.drew (some g) := grown_drewN' (World.grownBy.refl w2 _) 1
                obtain ⟨s1, s2⟩ := own_storeU (W := w2.drew) ho4 (p + 1) y
                obtain ⟨s3, s4⟩ := own_storeU s1 p x
                rw [HSW.out] at s3
                exact ⟨grownBy_trans hg3 (grownBy_trans hgA (grownBy_trans s2 s4)), p, by have := HP.out; omega, by go_num, s3, HDN.out (by have := of_decide_eq_true HLV.out; omega)⟩
              case measure => have := HP.out; simp [intOf, rc] <;> omega
    · have e : sortedL (bs.take k) ++ bs.drop k = sortedL bs := by
        have := HNB.out
        rw [List.take_of_length_le (by omega), List.drop_of_length_le (by omega), List.append_nil]
      rw [e] at ho
      clear e
      go_wp2
      go_end0
      exact ⟨rfl, ho, hg⟩
end Go.Proofs.YtheclfjbedajfaaDoor


namespace Go.Proofs.YtheclfjbedajfaaDoor
set_option linter.unusedSimpArgs false
set_option linter.unusedVariables false
open Go.RowKit Go.Lib Go.Proofs.YtheclfjbedajfaaDoorW.PrintWords
attribute [local go_sem] Oper.semAt_some

set_option maxHeartbeats 1000000 in
theorem insertion_nil (w : World) : Calls Tryd.prog 51 #[.slice none 0 0, .int .i64 0, .int .i64 0] w fun e w' => e = .returned (.tuple #[]) ∧ w' = w := by
  go_enter Tryd.func51, Tryd.ntmps51
  go_wp2
  go_loopw [6] (fun i wr => wr = w ∧ i = .int .i64 1) (fun i _ => 0)
  case atStart => exact ⟨rfl, rfl⟩
  case round =>
    obtain ⟨rfl, rfl⟩ := hrel
    go_wp2
    go_end0
    exact ⟨rfl, rfl⟩
set_option maxHeartbeats 2000000 in
set_option maxRecDepth 100000 in
theorem len64_any (x : Nat) (hx : x ≤ 12) (w : World) : Calls Tryd.prog 61 #[.int .u64 x] w fun e w' => (∃ r : Int, e = .returned (.int .i64 r)) ∧ w' = w := by
  rcases (show x = 0 ∨ x = 1 ∨ x = 2 ∨ x = 3 ∨ x = 4 ∨ x = 5 ∨ x = 6 ∨ x = 7 ∨ x = 8 ∨ x = 9 ∨ x = 10 ∨ x = 11 ∨ x = 12 by omega) with rfl | rfl | rfl | rfl | rfl | rfl | rfl | rfl | rfl | rfl | rfl | rfl | rfl
  all_goals
    go_enter Tryd.func61, Tryd.ntmps61
    go_wp2
    go_ret
    exact ⟨⟨_, rfl⟩, rfl⟩
set_option maxHeartbeats 1000000 in
theorem len_any (x : Nat) (hx : x ≤ 12) (w : World) : Calls Tryd.prog 46 #[.int .u64 x] w fun e w' => (∃ r : Int, e = .returned (.int .i64 r)) ∧ w' = w := by
  go_enter Tryd.func46, Tryd.ntmps46
  go_wp2_with (go_at_call 61; refine (len64_any _ hx _).mono ?_; rintro e w' ⟨⟨r, rfl⟩, rfl⟩)
  go_ret
  exact ⟨⟨_, rfl⟩, rfl⟩
set_option maxHeartbeats 2000000 in
set_option maxRecDepth 100000 in
theorem pdq_any (base g cap : Nat) (bs : List Nat) (lim : Int) (w : World) (ho : w.ownsRow base 25 1 (.slice (some ⟨g, 0, none⟩) bs.length cap) bs.length (nums .u64 (il bs))) (hn : bs.length ≤ 12) :
    Calls Tryd.prog 45 #[.slice (some ⟨g, 0, none⟩) bs.length cap, .int .i64 0, .int .i64 bs.length, .int .i64 lim] w fun e w' =>
      e = .returned (.tuple #[]) ∧ w'.ownsRow base 25 1 (.slice (some ⟨g, 0, none⟩) bs.length cap) bs.length (nums .u64 (il (sortedL bs))) ∧ w.grownBy w' (some g) := by
  have HI := hid (insertion_any base g cap bs w ho hn)
  clear ho
  generalize bs.length = n at *
  go_enter Tryd.func45, Tryd.ntmps45
  go_wp2
  go_loopw [1, 2] (fun a b wr => wr = w ∧ a = .int .i64 0 ∧ b = .int .i64 n) (fun _ _ _ => 0)
  case atStart => exact ⟨rfl, rfl, rfl⟩
  case round =>
    obtain ⟨rfl, rfl, rfl⟩ := hrel
    go_wp2_with (go_at_call 51; refine HI.out.mono ?_; rintro e w' ⟨rfl, ho', hg'⟩)
    exact bodyPost_ret (v := .tuple #[]) (by simp [results, Tryd.results45, go_sem]) rfl ⟨rfl, ho', hg'⟩
set_option maxHeartbeats 1000000 in
set_option maxRecDepth 100000 in
theorem pdq_nil (lim : Int) (w : World) :
    Calls Tryd.prog 45 #[.slice none 0 0, .int .i64 0, .int .i64 0, .int .i64 lim] w fun e w' => e = .returned (.tuple #[]) ∧ w' = w := by
  go_enter Tryd.func45, Tryd.ntmps45
  go_wp2
  go_loopw [1, 2] (fun a b wr => wr = w ∧ a = .int .i64 0 ∧ b = .int .i64 0) (fun _ _ _ => 0)
  case atStart => exact ⟨rfl, rfl, rfl⟩
  case round =>
    obtain ⟨rfl, rfl, rfl⟩ := hrel
    go_wp2_with (go_at_call 51; refine (insertion_nil _).mono ?_; rintro e w' ⟨rfl, rfl⟩)
    exact bodyPost_ret (v := .tuple #[]) (by simp [results, Tryd.results45, go_sem]) rfl ⟨rfl, rfl⟩
set_option maxHeartbeats 1000000 in
theorem sort_some (base g cap : Nat) (bs : List Nat) (w : World) (ho : w.ownsRow base 25 1 (.slice (some ⟨g, 0, none⟩) bs.length cap) bs.length (nums .u64 (il bs))) (hn : bs.length ≤ 12) :
    Calls Tryd.prog 38 #[.slice (some ⟨g, 0, none⟩) bs.length cap] w fun e w' =>
      e = .returned (.tuple #[]) ∧ w'.ownsRow base 25 1 (.slice (some ⟨g, 0, none⟩) bs.length cap) bs.length (nums .u64 (il (sortedL bs))) ∧ w.grownBy w' (some g) := by
  have HI := hid (fun lim => pdq_any base g cap bs lim w ho hn)
  clear ho
  generalize bs.length = n at *
  have hw : IntKind.u64.wrap (n : Int) = (n : Int) := wrapU_nat (by omega)
  go_enter Tryd.func38, Tryd.ntmps38
  go_wp2_with (first
    | (go_at_call 46; refine (len_any n hn _).mono ?_; rintro e w' ⟨⟨r, rfl⟩, rfl⟩)
    | (go_at_call 45; refine (HI.out _).mono ?_; rintro e w' ⟨rfl, ho', hg'⟩))
  go_end0
  exact ⟨rfl, ho', hg'⟩
set_option maxHeartbeats 1000000 in
theorem sort_nil (w : World) : Calls Tryd.prog 38 #[.slice none 0 0] w fun e w' => e = .returned (.tuple #[]) ∧ w' = w := by
  go_enter Tryd.func38, Tryd.ntmps38
  go_wp2_with (first
    | (go_at_call 46; refine (len_any 0 (by omega) _).mono ?_; rintro e w' ⟨⟨r, rfl⟩, rfl⟩)
    | (go_at_call 45; refine (pdq_nil _ _).mono ?_; rintro e w' ⟨rfl, rfl⟩))
  go_end0
  exact ⟨rfl, rfl⟩
/-- slices.Sort on a row of the call's own, of at most 12 elements. -/
theorem sort_any (base : Nat) (v : Value) (bs : List Nat) (w : World) (ho : w.ownsRow base 25 1 v bs.length (nums .u64 (il bs))) (hn : bs.length ≤ 12) :
    Calls Tryd.prog 38 #[v] w fun e w' =>
      e = .returned (.tuple #[]) ∧ w'.ownsRow base 25 1 v bs.length (nums .u64 (il (sortedL bs))) ∧ w.grownBy w' v.ownBlock := by
  have ho' := ho
  rcases ho.2 with ⟨e1, h0⟩ | ⟨g, cap, cur, e1, _⟩
  · have hb : bs = [] := by
      have := h0; simp [nums, il] at this
      exact List.eq_nil_of_length_eq_zero (by simpa using this)
    subst hb
    subst e1
    exact (sort_nil w).mono fun e w' ⟨h1, h2⟩ => ⟨h1, by rw [h2]; exact ho', by rw [h2]; exact World.grownBy.refl _ _⟩
  · subst e1
    exact sort_some base g cap bs w ho' hn
end Go.Proofs.YtheclfjbedajfaaDoor


namespace Go.Proofs.YtheclfjbedajfaaDoor
set_option linter.unusedSimpArgs false
set_option linter.unusedVariables false
open Go.RowKit Go.Lib Go.Proofs.YtheclfjbedajfaaDoorW.PrintWords

/-- The place of the least bit. -/
def ctz : Nat → Nat → Nat
  | 0, _ => 0
  | k + 1, x => if x % 2 = 1 then 0 else ctz k (x / 2) + 1
theorem ctz_form : ∀ (k x : Nat), 0 < x → x < 2 ^ k → ctz k x < k ∧ ∃ m, x = 2 ^ ctz k x * (2 * m + 1)
  | 0, x, h0, h => by simp at h; omega
  | k + 1, x, h0, h => by
    unfold ctz
    by_cases h1 : x % 2 = 1
    · rw [if_pos h1]
      exact ⟨by omega, x / 2, by omega⟩
    · rw [if_neg h1]
      obtain ⟨h2, m, hm⟩ := ctz_form k (x / 2) (by omega) (by rw [Nat.pow_succ] at h; omega)
      refine ⟨by omega, m, ?_⟩
      rw [Nat.pow_succ]
      have e1 : x = 2 * (x / 2) := by omega
      have e2 : 2 * (x / 2) = 2 ^ ctz k (x / 2) * 2 * (2 * m + 1) := by
        conv => lhs; rw [hm]
        rw [← Nat.mul_assoc, Nat.mul_comm 2 (2 ^ _)]
      exact e1.trans e2
theorem low_bit {x : Nat} (h0 : 0 < x) (hx : x < 2 ^ 64) : x &&& (2 ^ 64 - x) = 2 ^ ctz 64 x := by
  obtain ⟨hl, m, hm⟩ := ctz_form 64 x h0 hx
  generalize ctz 64 x = j at hl hm
  have hp := Nat.two_pow_pos j
  have hy : x - 1 = 2 ^ j * (2 * m) + (2 ^ j - 1) := by
    have h1 : x = 2 ^ j * (2 * m) + 2 ^ j := by rw [Nat.mul_add, Nat.mul_one] at hm; exact hm
    clear hm
    generalize 2 ^ j * (2 * m) = A at h1 ⊢
    generalize 2 ^ j = P at h1 hp ⊢
    omega
  apply Nat.eq_of_testBit_eq
  intro i
  rw [Nat.testBit_and, show 2 ^ 64 - x = 2 ^ 64 - ((x - 1) + 1) from by omega, Nat.testBit_two_pow_sub_succ (by omega), hy, Nat.testBit_two_pow_mul_add _ (by omega), Nat.testBit_two_pow]
  rw [show x = 2 ^ j * (2 * m + 1) + 0 from hm, Nat.testBit_two_pow_mul_add _ hp]
  by_cases hi : i < j
  · simp [hi]
    omega
  · rw [if_neg hi, if_neg hi]
    by_cases e : i = j
    · subst e; simp [hl]
    · obtain ⟨k, hk⟩ : ∃ k, i - j = k + 1 := ⟨i - j - 1, by omega⟩
      rw [hk, Nat.testBit_succ, Nat.testBit_succ, show (2 * m + 1) / 2 = m from by omega, show 2 * m / 2 = m from by omega]
      have : ¬ j = i := fun h => e h.symm
      simp [this]
      intro h _
      exact h
end Go.Proofs.YtheclfjbedajfaaDoor


namespace Go.Proofs.YtheclfjbedajfaaDoor
set_option linter.unusedSimpArgs false
set_option linter.unusedVariables false
open Go.RowKit Go.Lib Go.Proofs.YtheclfjbedajfaaDoorW.PrintWords

/-- The library's table. -/
def dbTab : List Nat := [0, 1, 56, 2, 57, 49, 28, 3, 61, 58, 42, 50, 38, 29, 17, 4, 62, 47, 59, 36, 45, 43, 51, 22, 53, 39, 33, 30, 24, 18, 12, 5, 63, 55, 48, 27, 60, 41, 37, 16, 46, 35, 44, 21, 52, 32, 23, 11, 54, 26, 40, 15, 34, 20, 31, 10, 25, 14, 19, 9, 13, 8, 7, 6]
theorem db_at : ∀ j < 64, 2 ^ j * 285870213051353865 % 18446744073709551616 / 288230376151711744 < 64 ∧ dbTab.getD (2 ^ j * 285870213051353865 % 18446744073709551616 / 288230376151711744) 0 = j := by decide +kernel
/-- The library's table lies in memory. -/
def TabOk (w : World) : Prop := ∀ i, i < 64 → w.cell? ⟨0, i, none⟩ = some (.int .u8 ((dbTab.getD i 0 : Nat) : Int))
theorem TabOk.below {w w1 : World} (h : TabOk w) (hb : Below w.heap.size w w1) : TabOk w1 := fun i hi =>
  (hb.cell (p := ⟨0, i, none⟩) (World.block_lt_of_cell? w ⟨0, i, none⟩ (h i hi))).trans (h i hi)
theorem wrapU_mod' (a : Nat) : IntKind.u64.wrap (a : Int) = ((a % 18446744073709551616 : Nat) : Int) := by
  simp [IntKind.wrap, IntKind.bits, IntKind.signed]
theorem tz_form {x : Nat} (h0 : 0 < x) (hx : x < 2 ^ 64) :
    (IntKind.u64.wrap (bits BinOp.and IntKind.u64 (x : Int) (IntKind.u64.wrap (-(x : Int))) * 285870213051353865) / 288230376151711744) = ((2 ^ ctz 64 x * 285870213051353865 % 18446744073709551616 / 288230376151711744 : Nat) : Int) := by
  have h1 : IntKind.u64.wrap (-(x : Int)) = ((2 ^ 64 - x : Nat) : Int) := by
    simp [IntKind.wrap, IntKind.bits, IntKind.signed]; omega
  rw [h1, uand hx (by omega), low_bit h0 hx, show ((2 ^ ctz 64 x : Nat) : Int) * 285870213051353865 = ((2 ^ ctz 64 x * 285870213051353865 : Nat) : Int) from by simp, wrapU_mod']
  simp
set_option maxHeartbeats 1000000 in
set_option maxRecDepth 100000 in
theorem tz_any (x : Nat) (hx : x < 2 ^ 64) (h0 : 0 < x) (w : World) (hT : TabOk w) :
    Calls Tryd.prog 39 #[.int .u64 x] w fun e w' => e = .returned (.int .i64 (ctz 64 x)) ∧ w' = w := by
  obtain ⟨hj, _⟩ := ctz_form 64 x h0 hx
  obtain ⟨hi, hv⟩ := db_at _ hj
  obtain ⟨q, hq⟩ : ∃ q, (2 ^ ctz 64 x * 285870213051353865 % 18446744073709551616 / 288230376151711744 : Nat) = q := ⟨_, rfl⟩
  have HF := tz_form h0 hx
  rw [hq] at hi hv HF
  have hc := hT q hi
  rw [hv] at hc
  clear hv hT
  have H0 := hid h0
  have hz : ((x : Int) == 0) = false := by simp; omega
  have h00 : 0 ≤ (q : Int) := by omega
  have h01 : (q : Int) < 64 := by omega
  have h63 : ctz 64 x < 256 := by omega
  clear hq hj
  go_enter Tryd.func39, Tryd.ntmps39
  go_wp2
  go_ret
  exact ⟨ret_i64 (by first | rfl | exact wrap64_nat (by omega)), rfl⟩
end Go.Proofs.YtheclfjbedajfaaDoor


namespace Go.Proofs.YtheclfjbedajfaaDoor
set_option linter.unusedSimpArgs false
set_option linter.unusedVariables false
open Go.RowKit Go.Lib Go.Shelf Go.Proofs.YtheclfjbedajfaaDoorW.PrintWords
attribute [local go_sem] Oper.semAt_some

/-- The points of a set, increasing. -/
def ptsF : Nat → Nat → List Nat
  | 0, _ => []
  | k + 1, s => if s = 0 then [] else ctz 64 s :: ptsF k (s &&& (s - 1))
def ptsL (s : Nat) : List Nat := ptsF s s
theorem and_pred_lt {s : Nat} (h : 0 < s) : s &&& (s - 1) < s := Nat.lt_of_le_of_lt Nat.and_le_right (by omega)
theorem ptsF_fuel : ∀ (k s : Nat), s ≤ k → ptsF k s = ptsF s s := by
  intro k
  induction k using Nat.strongRecOn with
  | _ k ih =>
    intro s hs
    rcases Nat.eq_zero_or_pos s with rfl | h0
    · cases k <;> simp [ptsF]
    · obtain ⟨k, rfl⟩ : ∃ m, k = m + 1 := ⟨k - 1, by omega⟩
      obtain ⟨n, hn⟩ : ∃ n, s = n + 1 := ⟨s - 1, by omega⟩
      have hlt := and_pred_lt h0
      have e1 : ptsF (k + 1) s = ctz 64 s :: ptsF k (s &&& (s - 1)) := by rw [ptsF, if_neg (by omega)]
      have e2 : ptsF s s = ctz 64 s :: ptsF n (s &&& (s - 1)) := by
        conv => lhs; arg 1; rw [hn]
        rw [ptsF, if_neg (by omega)]
      rw [e1, e2, ih k (by omega) _ (by omega)]
      by_cases hkn : n = k
      · subst hkn; rw [ih n (by omega) _ (by omega)]
      · rw [ih n (by omega) _ (by omega)]
theorem ptsL_zero : ptsL 0 = [] := rfl
theorem ptsL_cons {s : Nat} (h : 0 < s) : ptsL s = ctz 64 s :: ptsL (s &&& (s - 1)) := by
  obtain ⟨n, hn⟩ : ∃ n, s = n + 1 := ⟨s - 1, by omega⟩
  have hlt := and_pred_lt h
  unfold ptsL
  conv => lhs; arg 1; rw [hn]
  rw [ptsF, if_neg (by omega), ptsF_fuel n _ (by omega)]
theorem TabOk.put {W : World} {l : Nat} {o o' : Obj} (h : TabOk W) (hl : W.heap[l]? = some o) (ho : o.isCells = false) : TabOk (W.putObj l o') := fun i hi => cell_kept (h i hi) (grownBy_putObj' W l o') (fun r e => by cases e; exact ⟨o, hl, ho⟩)
/-- What a round keeps: the iterator's own cells, and the library's table. -/
def KT (B : Nat) (W W' : World) : Prop := KC B W W' ∧ (TabOk W → TabOk W')
theorem KT.trans {B : Nat} {X Y Z : World} (h : KT B X Y) (k : KT B Y Z) : KT B X Z := ⟨h.1.trans k.1, fun t => k.2 (h.2 t)⟩

set_option maxHeartbeats 2000000 in
set_option maxRecDepth 100000 in
theorem points_iter (s B : Nat) (hs : s < 2 ^ 64) (w : World) (hT : TabOk w) :
    Iter Tryd.prog 25 (fun y => #[.int .u64 s] ++ #[y] ++ #[]) (fun p : Nat => #[.int .i64 p]) (KT B) (ptsL s) w := by
  intro l J Jx W hW hJ hJx hY h0
  have hT0 := hT.below hW
  refine (callsIn_wide (n := 8)).1 ?_
  refine callsIn_of_wp Tryd.func25 rfl trivial ?_ rfl
  simp only [Tryd.ntmps25, List.size_toArray, List.length_cons, List.length_nil, Nat.reduceAdd, Nat.reduceSub, Array.replicate_succ, Array.replicate_zero, List.push_toArray, List.append_toArray, List.nil_append, List.cons_append, List.append_nil]
  gi_wp2
  gi_loopw [4] (fun r wr => ∃ (pre : List Nat) (q : Nat), r = .int .u64 q ∧ q ≤ s ∧ Hid (pre ++ ptsL q = ptsL s) ∧ J pre wr ∧ TabOk wr) (fun r _ => (intOf r).toNat)
  case atStart => exact ⟨[], s, rfl, Nat.le_refl _, rfl, h0, hT0⟩
  case round =>
    obtain ⟨pre, q, rfl, hq, HP, hj, ht⟩ := hrel
    by_cases h0 : q = 0
    · subst h0
      gi_wp2
      go_end0
      exact ⟨⟨_, rfl⟩, .inl (by have := HP.out; rw [ptsL_zero, List.append_nil] at this; rw [← this]; exact hj)⟩
    · have hq0 : 0 < q := by omega
      have hq64 : q < 2 ^ 64 := by omega
      have hne : ((q : Int) != 0) = true := by simp; omega
      have hpre : pre ++ [ctz 64 q] <+: ptsL s := ⟨ptsL (q &&& (q - 1)), by rw [← HP.out, ptsL_cons hq0]; simp⟩
      obtain ⟨fn, tmps, assign, body, hy, hR⟩ := hY 7 pre (ctz 64 q) wr hpre hj
      have HQ := hid (show bits BinOp.and IntKind.u64 (q : Int) ((q : Int) - 1) = ((q &&& (q - 1) : Nat) : Int) from by
        rw [show (q : Int) - 1 = ((q - 1 : Nat) : Int) from by omega, uand hq64 (by omega)])
      have hlt := and_pred_lt hq0
      have q1 : 1 ≤ (q : Int) := by omega
      clear hY hJ hJx h0
      gi_wp2_with (refine ⟨trivial, ?_⟩; gi_at_call 39; refine (callsIn_wide.2 (tz_any q hq64 hq0 _ ht)).mono ?_; rintro e w' ⟨rfl, rfl⟩)
      refine hR.mono ?_
      rintro e W' (⟨rfl, hJ', hk⟩ | ⟨rfl, hJx'⟩)
      · gi_wp2
        rw [HQ.out]
        go_roundw
        case rel => exact ⟨pre ++ [ctz 64 q], q &&& (q - 1), rfl, by omega, (show _ = _ from by rw [← HP.out, ptsL_cons hq0]; simp), hJ', hk.2 ht⟩
        case measure => simp [intOf]; omega
      · gi_wp2
        refine bodyPost_ret (results_none rfl _ _ _) rfl ?_
        exact ⟨⟨_, rfl⟩, .inr ⟨pre ++ [ctz 64 q], hpre, hJx'⟩⟩
end Go.Proofs.YtheclfjbedajfaaDoor


namespace Go.Proofs.YtheclfjbedajfaaDoor
set_option linter.unusedSimpArgs false
set_option linter.unusedVariables false
open Go.RowKit Go.Lib Go.Shelf Go.Proofs.YtheclfjbedajfaaDoorW.PrintWords
attribute [local go_sem] Oper.semAt_some

theorem own_bdM {w w2 : World} {base : Nat} {e : TypeId} {size n : Nat} {v : Value} {xs : List Value} (h : w.ownsRow base e size v n xs) (hb : Below w.heap.size w w2) : w2.ownsRow base e size v n xs := pw_own_below h hb
set_option maxHeartbeats 2000000 in
set_option maxRecDepth 100000 in
theorem made_im (V : Int) (A : Option Addr) (n c : Nat) (bs : List Nat) (gf : Nat → Nat) (p : Addr) (w : World) (hB : BlC w A n bs) (hn : n ≤ 12)
    (hf : ∀ b ∈ bs, ∀ W, Below w.heap.size w W → Calls Tryd.prog 24 #[.int .u64 b, .pointer (some p)] W fun e W' => e = .returned (.int .u64 ((gf b : Nat) : Int)) ∧ Below W.heap.size W W') :
    Calls Tryd.prog 23 #[.int .i64 V, .slice A n c, .func (.func 24) #[] #[.pointer (some p)]] w fun e w' =>
      ∃ v, e = .returned (.agg #[.int .i64 V, v]) ∧ w'.ownsRow w.heap.size 25 1 v n (nums .u64 (il (sortedL (bs.map gf)))) ∧ Below w.heap.size w w' := by
  have hu := Tryd.underlying29
  obtain ⟨i0, hi0, hz0, hz1, hz2⟩ := info_parts infoU
  obtain ⟨hn1, _⟩ := id hB
  subst hn1
  have HF := hid hf
  clear hf
  go_enter Tryd.func23, Tryd.ntmps23
  go_wp2
  obtain ⟨w0, hw0⟩ : ∃ w0, ((w.alloc (.cells #[.int .i64 0, .slice none 0 0] 29)).alloc (.cells #[.int .i64 V, .slice none 0 0] 29)) = w0 := ⟨_, rfl⟩
  have hX0 : Blk w0 w.heap.size 29 #[.int .i64 0, .slice none 0 0] := by rw [← hw0]; exact (Blk.new _ _ _).alloc _
  have hY0 : Blk w0 (w.heap.size + 1) 29 #[.int .i64 V, .slice none 0 0] := by
    rw [← hw0]
    have := Blk.new (w.alloc (.cells #[.int .i64 0, .slice none 0 0] 29)) 29 #[.int .i64 V, .slice none 0 0]
    simpa using this
  have hb0 : Below w.heap.size w w0 := by rw [← hw0]; exact below_alloc (below_alloc (Below.refl _ _) _) _
  rw [hw0]
  clear hw0
  go_loopw [14] (fun i wr => Below w.heap.size w wr ∧ ∃ (k : Nat) (v : Value), k ≤ bs.length ∧ i = .int .i64 k ∧ wr.ownsRow w.heap.size 25 1 v k (nums .u64 (il ((bs.take k).map gf))) ∧
    Blk wr w.heap.size 29 #[.int .i64 0, .slice none 0 0] ∧ Blk wr (w.heap.size + 1) 29 #[.int .i64 V, v]) (fun i _ => bs.length - (intOf i).toNat)
  case atStart => exact ⟨hb0, 0, .slice none 0 0, by omega, rfl, ⟨by simp [nums, il], .inl ⟨rfl, by simp [nums, il]⟩⟩, hX0, hY0⟩
  case round =>
    obtain ⟨hb, k, v, hk, rfl, ho, hX, hY⟩ := hrel
    clear hX0 hY0 hb0
    by_cases hlt : k < bs.length
    · obtain ⟨ad, b, e, hc, hb64, HT⟩ := (hB.below hb).at_ hlt
      cases e
      have HM := hid HT.out.2.2
      have hx1 : wr.cell? ⟨w.heap.size + 1, 1, none⟩ = some v := (hY.cell 1).trans rfl
      have HO := hid ho
      have HX := hid hX
      have HY := hid hY
      clear ho hX hY
      go_wp2
      go_region_law (first
        | (go_simp; go_at_call 24; refine (HF.out b HM.out _ (below_drew hb)).mono ?_; rintro e W' ⟨rfl, hbc⟩
           have HO1 : Hid (W'.ownsRow w.heap.size 25 1 v k (nums .u64 (il ((bs.take k).map gf)))) := own_bdM (show wr.drew.ownsRow _ _ _ _ _ _ from HO.out) hbc
           have HX1 : Hid (Blk W' w.heap.size 29 #[.int .i64 0, .slice none 0 0]) := (show Blk wr.drew _ _ _ from HX.out).below hbc (show Blk wr.drew _ _ _ from HX.out).lt
           have HY1 : Hid (Blk W' (w.heap.size + 1) 29 #[.int .i64 V, v]) := (show Blk wr.drew _ _ _ from HY.out).below hbc (show Blk wr.drew _ _ _ from HY.out).lt
           have hb1 : Below w.heap.size w W' := below_then (below_drew hb) (below_drew hb).size hbc
           have hx2 : W'.cell? ⟨w.heap.size + 1, 1, none⟩ = some v := (HY1.out.cell 1).trans rfl
           have hx2a : (W'.alloc (.cells #[.int .u64 ((gf b : Nat) : Int)] 25)).cell? ⟨w.heap.size + 1, 1, none⟩ = some v := ((HY1.out.alloc _).cell 1).trans rfl
           clear hbc)
        | (refine step_append_any _ rfl (.tmp 19) (.tmp 23) _ rfl w.heap.size 25 i0 _ 1 8 Tryd.underlying27 hi0 hz0 hz1 hz2 rfl (by decide) v k (nums .u64 (il ((bs.take k).map gf))) (by simp [Act.eval])
             (HO1.out.alloc _) (W'.heap.size + 1) (some ⟨_, 0, none⟩) 1 1 [.int .u64 ((gf b : Nat) : Int)] (by first | (simp [Act.eval]; done) | (simp [Act.eval]; rfl))
             (reads_one (heap_new rfl) (by omega)) (by simp [Value.oneCell']) (by simp only [maxLen] <;> omega) (by omega) (by have := hb1.size; simp <;> omega) ?_
           intro v1 w1 hown1 hg1 hat1
           obtain ⟨A1, c1, rfl⟩ := own_slice hown1
           have HX2 : Hid (Blk w1 w.heap.size 29 #[.int .i64 0, .slice none 0 0]) := (HX1.out.alloc _).grown hg1 (own_blk_ne HO1.out HX1.out (by decide)).symm
           have HY2 : Hid (Blk w1 (w.heap.size + 1) 29 #[.int .i64 V, v]) := (HY1.out.alloc _).grown hg1 (own_blk_ne HO1.out HY1.out (by decide)).symm
           have hf2 : w1.frozen? ⟨w.heap.size + 1, 1, none⟩ = false := HY2.out.frozen 1
           have hx3 : w1.cell? ⟨w.heap.size + 1, 1, none⟩ = some v := (HY2.out.cell 1).trans rfl
           have HO2 := hid hown1
           have hb2 : Below w.heap.size w w1 := below_grown_own (below_alloc hb1 _) (by have := hb1.size; simp <;> omega) hg1 (own_base (HO1.out.alloc (.cells #[.int .u64 ((gf b : Nat) : Int)] 25)))
           clear hown1 hg1))
      all_goals
        go_wp2
        go_round
        case rel =>
          have hs := HY2.out.set_ 1 (.slice A1 (k + 1) c1)
          have hlast : (bs.take (k + 1)).map gf = (bs.take k).map gf ++ [gf b] := by rw [HT.out.1]; simp
          refine ⟨hb2.setCell (show w.heap.size ≤ w.heap.size + 1 by omega) _, k + 1, .slice A1 (k + 1) c1, by omega, by go_num, ?_, HX2.out.far (show w.heap.size ≠ w.heap.size + 1 by omega) _, by simpa using hs⟩
          rw [hlast]
          have h2 := ownsRow_setCell_other HO2.out (a := ⟨w.heap.size + 1, 1, none⟩) (own_blk_ne HO2.out HY2.out (by decide)) (.slice A1 (k + 1) c1)
          have e3 : nums .u64 (il ((bs.take k).map gf ++ [gf b])) = nums .u64 (il ((bs.take k).map gf)) ++ [.int .u64 ((gf b : Nat) : Int)] := by simp [nums, il]
          rw [e3]; exact h2
        case measure => simp [intOf]; omega
    · have e : (bs.take k).map gf = bs.map gf := by rw [List.take_of_length_le (by omega)]
      have hkn : k = bs.length := by omega
      rw [e] at ho
      clear e
      subst hkn
      obtain ⟨A1, c1, rfl⟩ := own_slice ho
      have hx1 : wr.cell? ⟨w.heap.size + 1, 1, none⟩ = some (.slice A1 bs.length c1) := (hY.cell 1).trans rfl
      have HS0 := sort_any w.heap.size (.slice A1 bs.length c1) (bs.map gf) wr (by rw [List.length_map]; exact ho) (by simpa using hn)
      rw [List.length_map] at HS0
      have HS := hid HS0
      clear HS0
      have HO := hid ho
      have HX := hid hX
      have HY := hid hY
      clear ho hX hY
      go_wp2_with (
        go_at_call 38
        refine HS.out.mono ?_
        rintro e W' ⟨rfl, ho2, hg2⟩
        have HO2 := hid ho2
        have HX2 : Hid (Blk W' w.heap.size 29 #[.int .i64 0, .slice none 0 0]) := HX.out.grown hg2 (own_blk_ne HO.out HX.out (by decide)).symm
        have HY2 : Hid (Blk W' (w.heap.size + 1) 29 #[.int .i64 V, .slice A1 bs.length c1]) := HY.out.grown hg2 (own_blk_ne HO.out HY.out (by decide)).symm
        have hb2 : Below w.heap.size w W' := below_grown_own hb hb.size hg2 (own_base HO.out)
        have y0 : W'.cell? ⟨w.heap.size + 1, 0, none⟩ = some (.int .i64 V) := (HY2.out.cell 0).trans rfl
        have y1 : W'.cell? ⟨w.heap.size + 1, 1, none⟩ = some (.slice A1 bs.length c1) := (HY2.out.cell 1).trans rfl
        have x0 : W'.cell? ⟨w.heap.size, 0, none⟩ = some (.int .i64 0) := (HX2.out.cell 0).trans rfl
        have x1 : W'.cell? ⟨w.heap.size, 1, none⟩ = some (.slice none 0 0) := (HX2.out.cell 1).trans rfl
        have f0 : W'.frozen? ⟨w.heap.size, 0, none⟩ = false := HX2.out.frozen 0
        have f1 : W'.frozen? ⟨w.heap.size, 1, none⟩ = false := HX2.out.frozen 1
        clear ho2 hg2)
      have h3 := ownsRow_setCell_other (ownsRow_setCell_other HO2.out (a := ⟨w.heap.size, 0, none⟩) (own_blk_ne HO2.out HX2.out (by decide)) (.int .i64 V)) (a := ⟨w.heap.size, 1, none⟩) (own_blk_ne HO2.out HX2.out (by decide)) (.slice A1 bs.length c1)
      have hZ := (HX2.out.set_ 0 (.int .i64 V)).set_ 1 (.slice A1 bs.length c1)
      have z0 : ((W'.setCell ⟨w.heap.size, 0, none⟩ (.int .i64 V)).setCell ⟨w.heap.size, 1, none⟩ (.slice A1 bs.length c1)).cell? ⟨w.heap.size, 0, none⟩ = some (.int .i64 V) := (hZ.cell 0).trans rfl
      have z1 : ((W'.setCell ⟨w.heap.size, 0, none⟩ (.int .i64 V)).setCell ⟨w.heap.size, 1, none⟩ (.slice A1 bs.length c1)).cell? ⟨w.heap.size, 1, none⟩ = some (.slice A1 bs.length c1) := (hZ.cell 1).trans rfl
      have hb3 : Below w.heap.size w ((W'.setCell ⟨w.heap.size, 0, none⟩ (.int .i64 V)).setCell ⟨w.heap.size, 1, none⟩ (.slice A1 bs.length c1)) := (hb2.setCell (Nat.le_refl _) _).setCell (Nat.le_refl _) _
      refine bodyPost_ret (v := .agg #[.int .i64 V, .slice A1 bs.length c1]) (by simp [results, Tryd.results23, go_sem, z0, z1]) rfl ⟨_, rfl, ?_, ?_⟩
      · exact h3
      · exact hb3
end Go.Proofs.YtheclfjbedajfaaDoor


namespace Go.Proofs.YtheclfjbedajfaaDoor
set_option linter.unusedSimpArgs false
set_option linter.unusedVariables false
open Go.RowKit Go.Lib Go.Shelf Go.Proofs.YtheclfjbedajfaaDoorW.PrintWords
attribute [local go_sem] Oper.semAt_some

def pts7 : Bool := (List.range 128).all fun b => (List.range 7).all (fun i => (ptsL b).elem i == b.testBit i) && (ptsL b).all (fun i => decide (i < 7))
theorem pts7_true : pts7 = true := by decide +kernel
theorem pts7_ok {b : Nat} (h : b < 128) : (∀ i < 7, i ∈ ptsL b ↔ b.testBit i = true) ∧ ∀ i ∈ ptsL b, i < 7 := by
  have h := List.all_eq_true.1 pts7_true b (List.mem_range.2 h)
  simp only [Bool.and_eq_true] at h
  obtain ⟨h2, h3⟩ := h
  refine ⟨fun i hi => ?_, fun i hi => by simpa using List.all_eq_true.1 h3 i hi⟩
  have h4 := List.all_eq_true.1 h2 i (List.mem_range.2 hi)
  rw [← List.elem_iff, eq_of_beq h4]
/-- The points that have been taken over so far. -/
def mvP (gs pre : List Nat) : Nat := pre.foldl (fun m p => m ||| 2 ^ gs.getD p 0) 0
theorem mvP_snoc (gs pre : List Nat) (p : Nat) : mvP gs (pre ++ [p]) = mvP gs pre ||| 2 ^ gs.getD p 0 := by simp [mvP]
theorem mvP_bit (gs : List Nat) (q : Nat) : ∀ pre : List Nat, (mvP gs pre).testBit q = true ↔ ∃ p ∈ pre, gs.getD p 0 = q := by
  intro pre
  have : ∀ (pre : List Nat) (m : Nat), (pre.foldl (fun m p => m ||| 2 ^ gs.getD p 0) m).testBit q = true ↔ m.testBit q = true ∨ ∃ p ∈ pre, gs.getD p 0 = q := by
    intro pre
    induction pre with
    | nil => intro m; simp
    | cons a r ih =>
      intro m
      rw [List.foldl_cons, ih, Nat.testBit_or, Bool.or_eq_true, Nat.testBit_two_pow, decide_eq_true_eq]
      constructor
      · rintro ((h | h) | ⟨p, h, e⟩)
        · exact .inl h
        · exact .inr ⟨a, by simp, h⟩
        · exact .inr ⟨p, by simp [h], e⟩
      · rintro (h | ⟨p, h, e⟩)
        · exact .inl (.inl h)
        · rcases List.mem_cons.1 h with rfl | h
          · exact .inl (.inr e)
          · exact .inr ⟨p, h, e⟩
  rw [mvP, this]
  simp
theorem mvP_all {b : Nat} {gs : List Nat} (hg : gs.length ≤ 7) (hb : b < 2 ^ gs.length) : mvP gs (ptsL b) = movedN b gs := by
  have h128 : b < 128 := Nat.lt_of_lt_of_le hb (Nat.pow_le_pow_right (by decide) hg)
  obtain ⟨h1, h2⟩ := pts7_ok h128
  apply Nat.eq_of_testBit_eq
  intro q
  rw [Bool.eq_iff_iff, mvP_bit, moved_bit]
  constructor
  · rintro ⟨p, hp, e⟩
    have hb1 := (h1 p (h2 p hp)).1 hp
    have hpl : p < gs.length := by
      rcases Nat.lt_or_ge p gs.length with h | h
      · exact h
      · rw [Nat.testBit_lt_two_pow (Nat.lt_of_lt_of_le hb (Nat.pow_le_pow_right (by decide) h))] at hb1
        cases hb1
    refine ⟨p, hb1, ?_⟩
    rw [← e, List.getD_eq_getElem?_getD, List.getElem?_eq_getElem hpl]
    rfl
  · rintro ⟨p, hb1, e⟩
    have hpl := (List.getElem?_eq_some_iff.1 e).1
    exact ⟨p, (h1 p (by omega)).2 hb1, by rw [List.getD_eq_getElem?_getD, e]; rfl⟩
theorem pts_in {b : Nat} {gs : List Nat} (hg : gs.length ≤ 7) (hb : b < 2 ^ gs.length) : ∀ p ∈ ptsL b, p < gs.length := by
  have h128 : b < 128 := Nat.lt_of_lt_of_le hb (Nat.pow_le_pow_right (by decide) hg)
  obtain ⟨h1, h2⟩ := pts7_ok h128
  intro p hp
  have hb1 := (h1 p (h2 p hp)).1 hp
  rcases Nat.lt_or_ge p gs.length with h | h
  · exact h
  · rw [Nat.testBit_lt_two_pow (Nat.lt_of_lt_of_le hb (Nat.pow_le_pow_right (by decide) h))] at hb1
    cases hb1
end Go.Proofs.YtheclfjbedajfaaDoor


namespace Go.Proofs.YtheclfjbedajfaaDoor
set_option linter.unusedSimpArgs false
set_option linter.unusedVariables false
open Go.RowKit Go.Lib Go.Shelf Go.Proofs.YtheclfjbedajfaaDoorW.PrintWords
attribute [local go_sem] Oper.semAt_some

theorem or_stepI {M q : Nat} (hM : M < 2 ^ 64) (hq : q < 64) : bits .or .u64 (M : Int) (IntKind.u64.wrap (2 ^ q)) = ((M ||| 2 ^ q : Nat) : Int) := by
  have p64 : 2 ^ q < 2 ^ 64 := Nat.pow_lt_pow_right (by decide) hq
  rw [show ((2 : Int) ^ q) = ((2 ^ q : Nat) : Int) from by simp, wrapU_nat p64, uor hM p64]
theorem mvP_lt {gs pre : List Nat} (h : ∀ p ∈ pre, gs.getD p 0 < 60) : mvP gs pre < 2 ^ 60 := by
  have : ∀ (pre : List Nat) (m : Nat), m < 2 ^ 60 → (∀ p ∈ pre, gs.getD p 0 < 60) → pre.foldl (fun m p => m ||| 2 ^ gs.getD p 0) m < 2 ^ 60 := by
    intro pre
    induction pre with
    | nil => intro m hm _; simpa using hm
    | cons a r ih =>
      intro m hm h
      rw [List.foldl_cons]
      exact ih _ (Nat.or_lt_two_pow hm (Nat.pow_lt_pow_right (by decide) (h a (by simp)))) (fun p hp => h p (by simp [hp]))
  exact this pre 0 (by decide) h
theorem tab_ownI {β : Type} : Own (fun (_ : β) W => TabOk W) := fun s W W' row hs hg hr i hi => cell_kept (hs i hi) hg hr
theorem blk_ownI {β : Type} (g t : Nat) (f : β → Array Value) : Own (fun s W => Blk W g t (f s)) := fun s A A' row h hg hr =>
  (hg.block g h.lt (fun e => by
    obtain ⟨o, ho, hc⟩ := hr g e.symm
    have h' : A.heap[g]? = some (.cells (f s) t (0, 0)) := h
    rw [h'] at ho; cases ho; cases hc)).trans h
theorem TabOk.setI {W : World} (h : TabOk W) {b o : Nat} (hp : b ≠ 0) (v : Value) : TabOk (W.setCell ⟨b, o, none⟩ v) := fun i hi => (World.cell?_setCell_far W ⟨b, o, none⟩ ⟨0, i, none⟩ v hp).trans (h i hi)
set_option maxHeartbeats 2000000 in
set_option maxRecDepth 100000 in
theorem imf_any (b : Nat) (gs : List Nat) (G : Option Addr) (cG pb : Nat) (w : World) (hg : gs.length ≤ 7) (hb : b < 2 ^ gs.length) (hq : ∀ q ∈ gs, q < 60) (hp : w.cell? ⟨pb, 0, none⟩ = some (.slice G gs.length cG)) (hG : IC w G gs.length (il gs)) (hT : TabOk w) :
    Calls Tryd.prog 24 #[.int .u64 b, .pointer (some ⟨pb, 0, none⟩)] w fun e w' => e = .returned (.int .u64 ((movedN b gs : Nat) : Int)) ∧ Below w.heap.size w w' := by
  have h128 : b < 128 := Nat.lt_of_lt_of_le hb (Nat.pow_le_pow_right (by decide) hg)
  have hin := pts_in hg hb
  have hall := mvP_all hg hb
  have hpos : 0 < w.heap.size := World.block_lt_of_cell? w ⟨0, 0, none⟩ (hT 0 (by omega))
  have hpb : pb < w.heap.size := World.block_lt_of_cell? w _ hp
  refine calls_marks 8 Tryd.func24 rfl ?_
  simp only [Tryd.ntmps24, List.size_toArray, List.length_cons, List.length_nil, Nat.reduceAdd, Nat.reduceSub, Array.replicate_succ, Array.replicate_zero, List.push_toArray, List.append_toArray, List.nil_append, List.cons_append, List.append_nil]
  go_wp2
  obtain ⟨w1, hw1⟩ : ∃ w1, w.alloc (.cells #[.int .u64 0] 60) = w1 := ⟨_, rfl⟩
  have hz1 : w1.heap.size = w.heap.size + 1 := by rw [← hw1]; simp
  have hb1 : Below w.heap.size w w1 := by rw [← hw1]; exact below_alloc (Below.refl _ _) _
  have k1 : Blk w1 w.heap.size 60 #[.int .u64 0] := by rw [← hw1]; exact Blk.new _ _ _
  rw [hw1]
  refine wp_range (gf := 25) (first := #[.int .u64 b]) (lb := #[]) rfl (enters_of Tryd.func25 (by kernel_rfl) rfl) (points_iter b w1.heap.size (by omega) w1 (hT.below hb1))
    KT.trans ?hKb (fun _ => rfl)
    (fun pre W => Blk W w.heap.size 60 #[.int .u64 ((mvP gs pre : Nat) : Int)] ∧ TabOk W ∧ Below w.heap.size w W)
    (fun _ _ _ => False) ?hI ?hIx ?h0 ?a1 ?assign ?body ?done ?stop
  case assign => intro l x W K hK; gi_wp2; exact hK
  case hKb => exact fun W l o o' hl hlo ho => ⟨KC.put hlo ho, fun h => h.put hlo ho⟩
  case hIx => exact fun _ => ownFrom_pure _ _
  case hI => exact OwnFrom.and (Own.from (blk_ownI _ _ (fun pre => #[.int .u64 ((mvP gs pre : Nat) : Int)])) _) (OwnFrom.and (Own.from tab_ownI _) (ownFrom_below (Nat.le_refl _) (by omega)))
  case h0 => exact ⟨k1, hT.below hb1, hb1⟩
  case body =>
    intro l pre p W hpre ⟨hk, ht, hbw⟩
    have hpm : p ∈ ptsL b := hpre.subset (by simp)
    have hpV := hin p hpm
    have q1 : W.cell? ⟨pb, 0, none⟩ = some (.slice G gs.length cG) := (hbw.cell (p := ⟨pb, 0, none⟩) hpb).trans hp
    have q0 := (hk.cell 0).trans rfl
    have f0 := hk.frozen 0
    have hgl : ∀ i ∈ ptsL b, gs.getD i 0 < 60 := fun i hi => hq _ (getD_mem (hin i hi))
    obtain ⟨ad, x, e, hc, hx⟩ := IC.at_ (Kd.C_below hG hbw) (k := p) hpV
    obtain rfl : ((gs.getD p 0 : Nat) : Int) = x := by
      have h1 := hx.out.1
      rw [il, List.getElem?_map, List.getElem?_eq_getElem hpV] at h1
      have h2 := Option.some.inj h1
      rw [← h2, List.getD_eq_getElem?_getD, List.getElem?_eq_getElem hpV]; rfl
    cases e
    obtain ⟨y, hy⟩ : ∃ y, gs.getD p 0 = y := ⟨_, rfl⟩
    have hy60 : y < 60 := by rw [← hy]; exact hgl p hpm
    have hM : mvP gs pre < 2 ^ 60 := mvP_lt fun i hi => hgl i (hpre.subset (by simp [hi]))
    have hor := or_stepI (M := mvP gs pre) (q := y) (Nat.lt_trans hM (by decide)) (Nat.lt_trans hy60 (by decide))
    have hsn : mvP gs (pre ++ [p]) = mvP gs pre ||| 2 ^ y := by rw [mvP_snoc, hy]
    rw [hy] at hc
    obtain ⟨M, hMe⟩ : ∃ M, mvP gs pre = M := ⟨_, rfl⟩
    rw [hMe] at q0 hM hor hsn
    have hpw : w.heap.size < w1.heap.size := by omega
    have FA := hid (show KeepsFrom w1.heap.size W (W.setCell ⟨w.heap.size, 0, none⟩ (.int .u64 ((M ||| 2 ^ y : Nat) : Int))).drew ∧ KT w1.heap.size W (W.setCell ⟨w.heap.size, 0, none⟩ (.int .u64 ((M ||| 2 ^ y : Nat) : Int))).drew ∧
        Blk (W.setCell ⟨w.heap.size, 0, none⟩ (.int .u64 ((M ||| 2 ^ y : Nat) : Int))).drew w.heap.size 60 #[.int .u64 ((mvP gs (pre ++ [p]) : Nat) : Int)] ∧ TabOk (W.setCell ⟨w.heap.size, 0, none⟩ (.int .u64 ((M ||| 2 ^ y : Nat) : Int))).drew ∧ Below w.heap.size w (W.setCell ⟨w.heap.size, 0, none⟩ (.int .u64 ((M ||| 2 ^ y : Nat) : Int))).drew from by
      refine ⟨?_, ⟨KC.set W (p := ⟨w.heap.size, 0, none⟩) hpw _, fun t => t.setI (show w.heap.size ≠ 0 by omega) _⟩, ?_, ht.setI (show w.heap.size ≠ 0 by omega) _, below_drew (hbw.setCell (p := ⟨w.heap.size, 0, none⟩) (Nat.le_refl _) _)⟩
      · have h := KeepsFrom.of_grownBy (B := w1.heap.size) (grownBy_setCell W w.heap.size 0 (.int .u64 ((M ||| 2 ^ y : Nat) : Int))) (by rintro j ⟨⟩; omega)
        exact ⟨h.size, h.same⟩
      · rw [hsn]
        have h := hk.set_ 0 (.int .u64 ((M ||| 2 ^ y : Nat) : Int))
        have h' : Blk (W.setCell ⟨w.heap.size, 0, none⟩ (.int .u64 ((M ||| 2 ^ y : Nat) : Int))) w.heap.size 60 #[.int .u64 ((M ||| 2 ^ y : Nat) : Int)] := by simpa using h
        exact h')
    have HOR := hid hor
    clear hx hor hsn hgl hy hall hin hMe hk ht hbw
    gi_wp2
    gi_region_with (fail)
    all_goals
      rw [HOR.out]
      gi_wp2
      exact FA.out
  case stop => exact fun D c pre W _ _ h _ => h.elim
  case done =>
    intro D W hD ⟨hk, ht, hbw⟩ hDd
    have q0 := (hk.cell 0).trans rfl
    rw [hall] at q0
    go_wp2
    have hb' : Below w.heap.size w (W.putObj D (.deferred none)) := ⟨hbw.os, hbw.tape, hbw.output, by simpa using hbw.size, fun k hk' => (World.putObj_heap_other (by omega)).trans (hbw.block k hk')⟩
    exact m_ret1 rfl hDd (by simp [results, Tryd.results24, go_sem]) ⟨rfl, hb'⟩
end Go.Proofs.YtheclfjbedajfaaDoor


namespace Go.Proofs.YtheclfjbedajfaaDoor
set_option linter.unusedSimpArgs false
set_option linter.unusedVariables false
open Go.RowKit Go.Lib Go.Shelf Go.Proofs.YtheclfjbedajfaaDoorW.PrintWords
attribute [local go_sem] Oper.semAt_some

set_option maxHeartbeats 2000000 in
set_option maxRecDepth 100000 in
/-- As long as 'different' says that the list has different points. -/
theorem image_inc_of (A G : Option Addr) (c cG : Nat) (bs gs : List Nat) (w : World) (hB : BlC w A bs.length bs) (hbl : bs.length ≤ 12) (hG : IC w G gs.length (il gs)) (hl : gs.length ≤ 7) (hbV : ∀ b ∈ bs, b < 2 ^ gs.length) (hq : ∀ q ∈ gs, q < 60) (hT : TabOk w)
    (hdiff : ∀ W, Below w.heap.size w W → Calls Tryd.prog 22 #[.slice G gs.length cG, .int .i64 gs.length] W fun e w' => e = .returned (.bool true) ∧ Below W.heap.size W w') :
    Calls Tryd.prog 6 #[.agg #[.int .i64 gs.length, .slice A bs.length c], .slice G gs.length cG] w fun e w' =>
      ∃ v, e = .returned (.agg #[.int .i64 gs.length, v]) ∧ w'.ownsRow w.heap.size 25 1 v bs.length (nums .u64 (il (imL bs gs))) ∧ Below w.heap.size w w' := by
  have hu := Tryd.underlying29
  obtain ⟨w0, hw0⟩ : ∃ w0, ((w.alloc (.cells #[.int .i64 gs.length, .slice A bs.length c] 29)).alloc (.cells #[.slice G gs.length cG] 32)).alloc (.cells #[.int .i64 0, .slice none 0 0] 29) = w0 := ⟨_, rfl⟩
  have hz0 : w0.heap.size = w.heap.size + 3 := by rw [← hw0]; simp
  have hb0 : Below w.heap.size w w0 := by rw [← hw0]; exact below_alloc (below_alloc (below_alloc (Below.refl _ _) _) _) _
  have x0 : w0.cell? ⟨w.heap.size, 0, none⟩ = some (.int .i64 gs.length) := by rw [← hw0]; simp [go_sem]
  have x1 : w0.cell? ⟨w.heap.size, 1, none⟩ = some (.slice A bs.length c) := by rw [← hw0]; simp [go_sem]
  have g0 : w0.cell? ⟨w.heap.size + 1, 0, none⟩ = some (.slice G gs.length cG) := by rw [← hw0]; simp [go_sem]
  have kO : Blk w0 (w.heap.size + 2) 29 #[.int .i64 0, .slice none 0 0] := by
    have k := Blk.new ((w.alloc (.cells #[.int .i64 gs.length, .slice A bs.length c] 29)).alloc (.cells #[.slice G gs.length cG] 32)) 29 #[.int .i64 0, .slice none 0 0]
    rw [hw0] at k
    simpa using k
  have HD := hid hdiff
  have HX := hid (fun W (hb : Below w0.heap.size w0 W) => (show W.cell? ⟨w.heap.size, 0, none⟩ = some (.int .i64 gs.length) ∧ W.cell? ⟨w.heap.size, 1, none⟩ = some (.slice A bs.length c) ∧ W.cell? ⟨w.heap.size + 1, 0, none⟩ = some (.slice G gs.length cG) from
    ⟨(hb.cell (p := ⟨w.heap.size, 0, none⟩) (by show w.heap.size < _; omega)).trans x0, (hb.cell (p := ⟨w.heap.size, 1, none⟩) (by show w.heap.size < _; omega)).trans x1, (hb.cell (p := ⟨w.heap.size + 1, 0, none⟩) (by show w.heap.size + 1 < _; omega)).trans g0⟩))
  have HM := hid (fun W (hb : Below w0.heap.size w0 W) => made_im gs.length A bs.length c bs (fun b => movedN b gs) ⟨w.heap.size + 1, 0, none⟩ W (hB.below (below_then hb0 hb0.size hb)) hbl (fun b hbm W' hW' =>
    imf_any b gs G cG (w.heap.size + 1) W' hl (hbV b hbm) hq ((HX.out W' (below_then hb hb.size hW')).2.2) (Kd.C_below hG (below_then hb0 hb0.size (below_then hb hb.size hW'))) (hT.below (below_then hb0 hb0.size (below_then hb hb.size hW')))))
  clear hB hG hdiff hT
  go_enter Tryd.func6, Tryd.ntmps6
  go_upto_region 3 with (go_at_call 22; refine (HD.out _ (by first | exact hb0 | (rw [hw0]; exact hb0))).mono ?_; rintro e w2 ⟨rfl, hb2⟩)
  have hb02 : Below w0.heap.size w0 w2 := hb2
  obtain ⟨x0, x1, g0⟩ := HX.out _ hb02
  have kO2 := kO.below hb02 kO.lt
  go_wp2_with (
    go_at_call 23
    refine (HM.out _ hb02).mono ?_
    rintro e w3 ⟨v, rfl, ho, hb3⟩
    obtain ⟨A1, c1, rfl⟩ := own_slice ho
    have HO := hid ho
    have HK := hid (kO2.below hb3 kO2.lt)
    have y0 : w3.cell? ⟨w.heap.size + 1 + 1, 0, none⟩ = some (.int .i64 0) := (HK.out.cell 0).trans rfl
    have y1 : w3.cell? ⟨w.heap.size + 1 + 1, 1, none⟩ = some (.slice none 0 0) := (HK.out.cell 1).trans rfl
    have f0 : w3.frozen? ⟨w.heap.size + 1 + 1, 0, none⟩ = false := HK.out.frozen 0
    have f1 : w3.frozen? ⟨w.heap.size + 1 + 1, 1, none⟩ = false := HK.out.frozen 1
    clear ho)
  have hZ := (HK.out.set_ 0 (.int .i64 gs.length)).set_ 1 (.slice A1 bs.length c1)
  have z0 := (hZ.cell 0).trans rfl
  have z1 := (hZ.cell 1).trans rfl
  have h3 := ownsRow_setCell_other (ownsRow_setCell_other HO.out (a := ⟨w.heap.size + 2, 0, none⟩) (own_blk_ne HO.out HK.out (by decide)) (.int .i64 gs.length)) (a := ⟨w.heap.size + 2, 1, none⟩) (own_blk_ne HO.out HK.out (by decide)) (.slice A1 bs.length c1)
  have hb03 : Below w.heap.size w w3 := below_then hb0 hb0.size (below_then hb02 hb02.size hb3)
  have hbZ : Below w.heap.size w ((w3.setCell ⟨w.heap.size + 2, 0, none⟩ (.int .i64 gs.length)).setCell ⟨w.heap.size + 2, 1, none⟩ (.slice A1 bs.length c1)) :=
    (hb03.setCell (p := ⟨w.heap.size + 2, 0, none⟩) (show w.heap.size ≤ w.heap.size + 2 by omega) _).setCell (p := ⟨w.heap.size + 2, 1, none⟩) (show w.heap.size ≤ w.heap.size + 2 by omega) _
  refine bodyPost_ret (v := .agg #[.int .i64 gs.length, .slice A1 bs.length c1]) (by simp [results, Tryd.results6, go_sem, z0, z1]) rfl ⟨_, rfl, ?_, hbZ⟩
  have hle : w.heap.size ≤ w2.heap.size := below_size (below_then hb0 hb0.size hb02)
  exact ⟨h3.1, by rcases h3.2 with e | ⟨g, cap, cur, e1, h1, h2⟩; exact .inl e; exact .inr ⟨g, cap, cur, e1, Nat.le_trans hle h1, h2⟩⟩
end Go.Proofs.YtheclfjbedajfaaDoor


namespace Go.Proofs.YtheclfjbedajfaaDoor
set_option linter.unusedSimpArgs false
set_option linter.unusedVariables false
open Go.RowKit Go.Lib Go.Proofs.YtheclfjbedajfaaDoorW.PrintWords Go.Proofs.YtheclfjbedajfaaDoorW.PrintMore

theorem wrap_idE {x : Int} (h1 : -9223372036854775808 ≤ x) (h2 : x ≤ 9223372036854775807) : wrap64 x = x := by unfold wrap64; omega
theorem mask_E {V : Nat} (h : V ≤ 7) : IntKind.u64.wrap ((shl .u64 1 (IntKind.u64.wrap (V : Int))) - 1) = ((2 ^ V - 1 : Nat) : Int) ∧ 0 ≤ IntKind.u64.wrap (V : Int) := by
  rcases (show V = 0 ∨ V = 1 ∨ V = 2 ∨ V = 3 ∨ V = 4 ∨ V = 5 ∨ V = 6 ∨ V = 7 by omega) with rfl | rfl | rfl | rfl | rfl | rfl | rfl | rfl <;> decide
theorem small7E {V : Nat} (h : V ≤ 7) : 2 ^ V ≤ 128 := Nat.pow_le_pow_right (by decide) h
theorem limB_memE {l : List Nat} {m : Nat} (hm1 : 1 ≤ m) (hm7 : m ≤ 7) : ∀ b ∈ limB l m, b < 2 ^ limV l m := fun b hb =>
  limRaw_lt hm1 hm7 b (List.mem_of_mem_take ((sortedL_permE _).mem_iff.1 hb))
theorem limB_lenE {l : List Nat} {m : Nat} : (limB l m).length ≤ 10 := by
  show (sortedL ((limRaw l m).take 10)).length ≤ 10
  rw [sortedL_len, List.length_take]; omega
theorem shL_perm (l : List Nat) : ∀ n, (shL l n).Perm (List.range n)
  | 0 => List.Perm.refl _
  | n + 1 => by
    rw [shL, List.append_assoc, List.range_succ, List.singleton_append]
    refine (List.perm_middle (a := n) (l₁ := (shL l n).take (shAt l n)) (l₂ := (shL l n).drop (shAt l n))).trans ?_
    rw [List.take_append_drop]
    refine ((shL_perm l n).cons n).trans ?_
    exact (List.perm_append_singleton n (List.range n)).symm
theorem diffB_nat {gs : List Nat} {n : Nat} (h1 : ∀ q ∈ gs, q < n) (h2 : gs.Nodup) : diffB (il gs) (n : Int) = true := diffB_iff.2 ⟨fun x hx => by
    obtain ⟨i, hi, rfl⟩ := List.mem_map.1 hx
    have := h1 i hi
    exact ⟨by simp, by simpa using this⟩, by
    unfold il List.Nodup; rw [List.pairwise_map]; exact h2.imp (fun h e => h (by omega))⟩
theorem shL_nodup (l : List Nat) (n : Nat) : (shL l n).Nodup := (shL_perm l n).nodup_iff.2 List.nodup_range
theorem shL_lt (l : List Nat) (n : Nat) : ∀ q ∈ shL l n, q < n := fun q hq => List.mem_range.1 ((shL_perm l n).mem_iff.1 hq)
theorem il_app (l r : List Nat) : il l ++ il r = il (l ++ r) := by simp [il]
theorem wrap_succ {j : Nat} (h : j < 1000) : wrap64 ((j : Int) + 1) = ((j + 1 : Nat) : Int) := by rw [wrap_idE] <;> omega
theorem mask_lt {t U : Nat} : t &&& (2 ^ U - 1) < 2 ^ U := by
  have := Nat.two_pow_pos U
  rw [Nat.and_two_pow_sub_one_eq_mod]; exact Nat.mod_lt _ (by omega)
theorem with_fE {C : List Nat} {x U : Nat} (hU : U ≤ 6) (hb : ∀ b ∈ C, b < 2 ^ U) (hl : C.length ≤ 100) (hx : x < 2 ^ U) : Pd.plexusref06_With.f (il C) (x : Int) = some (il (withL C x)) := by
  have h7 := small7E (show U ≤ 7 by omega)
  unfold Pd.plexusref06_With.f
  rw [if_pos ⟨by rw [il_length]; omega, okL_il fun b hbb => Nat.lt_of_lt_of_le (hb b hbb) (by omega), by omega, by omega⟩, nl_il, Int.toNat_natCast]
theorem nnI (n : Nat) : (0 : Int) ≤ (n : Int) := Int.natCast_nonneg n
theorem shuf_fE {U : Nat} (hU : U ≤ 60) {l3 : List Int} (g3 : l3.length < 2 ^ 63) (h3 : okL 256 l3 = true) : Pd.plexusref06_Shuffled.f (U : Int) l3 = some (il (shL (nl l3) U)) := by
  have h1 : (U : Int) < 1048576 := by omega
  unfold Pd.plexusref06_Shuffled.f
  exact if_pos ⟨g3, h3, nnI U, h1⟩
end Go.Proofs.YtheclfjbedajfaaDoor


namespace Go.Proofs.YtheclfjbedajfaaDoor.Pd
set_option linter.unusedSimpArgs false
set_option linter.unusedVariables false
open Go.RowKit Go.Lib Go.Proofs.YtheclfjbedajfaaDoorW.PrintWords Go.Proofs.YtheclfjbedajfaaDoor Go.Proofs.YtheclfjbedajfaaDoorW.PrintMore

theorem has_f {M p : Nat} (hM : M < 2 ^ 64) (hp : p < 64) : incidence_set_has.f (M : Int) (p : Int) = some (M.testBit p) := by
  have hb : min p 64 = p := Nat.min_eq_left (by omega)
  have e : shr .u64 (M : Int) (p : Int) = ((M / 2 ^ p : Nat) : Int) := by simp [shr, IntKind.bits, hb]
  have h2 : M / 2 ^ p < 2 ^ 64 := Nat.lt_of_le_of_lt (Nat.div_le_self _ _) hM
  unfold incidence_set_has.f
  rw [if_pos (nnI p), e]
  congr 1
  have h := uand_eq (a := M / 2 ^ p) (b := 1) (c := 1) h2 (by decide)
  rw [show ((1 : Nat) : Int) = (1 : Int) from rfl] at h
  rw [h, Nat.and_one_is_mod, Nat.testBit_eq_decide_div_mod_eq]
  rfl
theorem shl_f {q : Nat} (h : q < 64) : shl .u64 1 (q : Int) = ((2 ^ q : Nat) : Int) := by
  have hb : min q 64 = q := Nat.min_eq_left (by omega)
  have h2 : 2 ^ q < 2 ^ 64 := Nat.pow_lt_pow_right (by decide) h
  have : shl .u64 1 (q : Int) = IntKind.u64.wrap ((2 ^ q : Nat) : Int) := by simp [shl, IntKind.bits, hb]
  rw [this, wrapU_nat h2]
theorem diff_loopI {gs : List Nat} {V : Nat} (hV : V ≤ 60) (hl : gs.length < 1000) (hq : ∀ q ∈ gs, q < V) (hn : gs.Nodup) :
    ∀ (n i : Nat), i + n = gs.length → incidence_different.l0 (n + 1) (V : Int) ((mvP gs (List.range i) : Nat) : Int) (il gs) (gs.length : Int) (i : Int) = some true := by
  intro n
  induction n with
  | zero =>
    intro i hi
    unfold incidence_different.l0
    rw [if_neg (by omega)]
  | succ n ih =>
    intro i hi
    have hiL : i < gs.length := by omega
    have hg : gs[i]? = some (gs[i]) := List.getElem?_eq_getElem hiL
    have hr : rd (il gs) (i : Int) = ((gs[i] : Nat) : Int) := by
      unfold rd
      rw [List.getD_eq_getElem?_getD, Int.toNat_natCast, il, List.getElem?_map, hg]
      rfl
    have hd : gs.getD i 0 = gs[i] := by rw [List.getD_eq_getElem?_getD, hg]; rfl
    have hb := hq _ (List.getElem_mem hiL)
    have hM : mvP gs (List.range i) < 2 ^ 60 := mvP_lt fun p hp => by
      have hp := List.mem_range.1 hp
      have := hq _ (getD_mem (bs := gs) (k := p) (by omega))
      omega
    have hbit : (mvP gs (List.range i)).testBit (gs[i]) = false := by
      cases h : (mvP gs (List.range i)).testBit (gs[i])
      · rfl
      · obtain ⟨p, hp, e⟩ := (mvP_bit gs _ _).1 h
        have hp := List.mem_range.1 hp
        have hpL : p < gs.length := by omega
        rw [List.getD_eq_getElem?_getD, List.getElem?_eq_getElem hpL] at e
        have := (List.getElem_inj hn).1 (show gs[p] = gs[i] from by simpa using e)
        omega
    have hil : (i : Int) < ((il gs).length : Int) := by rw [il_length]; omega
    have IH := ih (i + 1) (by omega)
    rw [List.range_succ, mvP_snoc, hd] at IH
    unfold incidence_different.l0
    rw [if_pos (by omega), if_pos (nnI i), if_pos hil, hr, if_neg (by omega), if_neg (by omega), has_f (Nat.lt_trans hM (by decide)) (by omega), Option.bind_some, hbit, if_neg (by decide), if_pos (nnI _), shl_f (by omega), uor (Nat.lt_trans hM (by decide)) (Nat.pow_lt_pow_right (by decide) (by omega)), wrap_succ (by omega)]
    exact IH
theorem different_f {gs : List Nat} {V : Nat} (hV : V ≤ 60) (hl : gs.length < 1000) (hq : ∀ q ∈ gs, q < V) (hn : gs.Nodup) : incidence_different.f (gs.length + 1) (il gs) (V : Int) = some true := by
  have h := diff_loopI hV hl hq hn gs.length 0 (by omega)
  unfold incidence_different.f
  rw [il_length]
  exact h
theorem image_inc (A G : Option Addr) (c cG : Nat) (bs gs : List Nat) (w : World) (hB : BlC w A bs.length bs) (hbl : bs.length ≤ 12) (hG : IC w G gs.length (il gs)) (hcG : gs.length ≤ cG) (hl : gs.length ≤ 7) (hbV : ∀ b ∈ bs, b < 2 ^ gs.length) (hq : ∀ q ∈ gs, q < gs.length) (hn : gs.Nodup) (hT : TabOk w) :
    Calls Tryd.prog 6 #[.agg #[.int .i64 gs.length, .slice A bs.length c], .slice G gs.length cG] w fun e w' =>
      ∃ v, e = .returned (.agg #[.int .i64 gs.length, v]) ∧ w'.ownsRow w.heap.size 25 1 v bs.length (nums .u64 (il (imL bs gs))) ∧ Below w.heap.size w w' := by
  refine image_inc_of A G c cG bs gs w hB hbl hG hl hbV (fun q h => by have := hq q h; omega) hT fun W hW => ?_
  have h := incidence_different.calls (gs.length + 1) G cG (il gs) gs.length true W (by rw [il_length]; exact Kd.C_below hG hW) (by rw [il_length]; exact hcG) (different_f (by omega) (by omega) hq hn)
  rw [il_length] at h
  refine h.mono ?_
  rintro e w' ⟨rfl, n, rfl⟩
  exact ⟨rfl, pw_below_drewN (Below.refl _ _) _⟩
end Go.Proofs.YtheclfjbedajfaaDoor.Pd


namespace Go.Proofs.YtheclfjbedajfaaDoor.Pm
open Go.RowKit Go.Lib Go.Proofs.YtheclfjbedajfaaDoorW.PrintWords
set_option linter.unusedVariables false
set_option linter.unusedSimpArgs false

/-! ### plexuslaw42_examples: function 4 -/
def plexuslaw42_examples.f  : Option (Bool) := some true
set_option maxRecDepth 100000 in
theorem plexuslaw42_examples.calls  (r : Bool) (w : World) (h : plexuslaw42_examples.f  = some r) :
    Calls Tryd.prog 4 #[] w fun e w' => e = .returned (.bool r) ∧ Below w.heap.size w w' := by
  obtain rfl : true = r := Option.some.inj h
  exact Pd.examples_any w

/-! ### plexusref06_Limited: function 5 -/
def plexusref06_Limited.f (l0_0 : List Int) (a1 : Int) : Option (Int × List Int) := if l0_0.length < 2 ^ 63 ∧ okL 256 l0_0 = true ∧ 1 ≤ a1 ∧ a1 ≤ 7 then some ((limV (nl l0_0) a1.toNat : Nat), il (limB (nl l0_0) a1.toNat)) else none
set_option maxRecDepth 100000 in
theorem plexusref06_Limited.calls (A0_0 : Option Addr) (c0_0 : Nat) (l0_0 : List Int) (a1 : Int) (r1 : Int) (r2 : List Int) (w : World) (hr0_0 : Kd.C (Kd.int .u8) w A0_0 l0_0.length l0_0) (hc0_0 : l0_0.length ≤ c0_0) (h : plexusref06_Limited.f l0_0 a1 = some (r1, r2)) :
    Calls Tryd.prog 5 #[.agg #[.slice A0_0 l0_0.length c0_0], .int .i64 a1] w fun e w' => ∃ v1_ : Value, e = .returned (.agg #[.int .i64 r1, v1_]) ∧ Kd.R (Kd.int .u64) 25 w' w.heap.size (fun _ => True) v1_ r2 ∧ Below w.heap.size w w' := by
  obtain ⟨⟨h1, h2, h3, h4⟩, hr⟩ := some_if h
  obtain ⟨rfl, rfl⟩ := Prod.mk.inj hr
  obtain ⟨m, rfl⟩ := Int.eq_ofNat_of_zero_le (show 0 ≤ a1 by omega)
  refine (limited_any A0_0 _ c0_0 (nl l0_0) m (by omega) (by omega) w (nlc_of hr0_0 h2) (by omega)).mono ?_
  rintro e w' ⟨v, he, ho, hb⟩
  exact ⟨v, he, R_own ho, hb⟩

/-! ### incidence_Image: function 6 -/
def incidence_Image.f (a0_0 : Int) (l0_1 : List Int) (l1 : List Int) : Option (Int × List Int) := if a0_0 = l1.length ∧ l1.length ≤ 7 ∧ l0_1.length ≤ 12 ∧ okL (2 ^ l1.length) l0_1 = true ∧ diffB l1 l1.length = true then some (a0_0, il (imL (nl l0_1) (nl l1))) else none
set_option maxRecDepth 100000 in
theorem incidence_Image.calls (a0_0 : Int) (A0_1 : Option Addr) (c0_1 : Nat) (l0_1 : List Int) (A1 : Option Addr) (c1 : Nat) (l1 : List Int) (r1 : Int) (r2 : List Int) (w : World) (hr0_1 : Kd.C (Kd.int .u64) w A0_1 l0_1.length l0_1) (hc0_1 : l0_1.length ≤ c0_1) (hr1 : Kd.C (Kd.int .i64) w A1 l1.length l1) (hc1 : l1.length ≤ c1) (hT : TabOk w) (h : incidence_Image.f a0_0 l0_1 l1 = some (r1, r2)) :
    Calls Tryd.prog 6 #[.agg #[.int .i64 a0_0, .slice A0_1 l0_1.length c0_1], .slice A1 l1.length c1] w fun e w' => ∃ v1_ : Value, e = .returned (.agg #[.int .i64 r1, v1_]) ∧ Kd.R (Kd.int .u64) 25 w' w.heap.size (fun _ => True) v1_ r2 ∧ Below w.heap.size w w' := by
  obtain ⟨⟨h1, h2, h3, h4, h5⟩, hr⟩ := some_if h
  obtain ⟨q1, q2⟩ := Prod.mk.inj hr
  subst q1 q2 h1
  obtain ⟨e1, e2, e3, e4⟩ := diff_nl h5
  have h6 : okL (2 ^ 64) l0_1 = true := okL_iff.2 fun b hb => by have := okL_iff.1 h4 b hb; exact ⟨this.1, Int.lt_of_lt_of_le this.2 (by exact_mod_cast Nat.pow_le_pow_right (by decide) (by omega))⟩
  have := Pd.image_inc A0_1 A1 c0_1 c1 (nl l0_1) (nl l1) w (by rw [nl_length]; exact nlc_of hr0_1 h6) (by rw [nl_length]; exact h3) (by rw [e1, nl_length]; exact hr1) (by rw [nl_length]; exact hc1) (by rw [nl_length]; exact h2) (by rw [nl_length]; exact fun b hb => okL_nl h4 b hb) (by rw [nl_length]; exact fun q hq => by have := e2 q hq; omega) e3 hT
  rw [nl_length, nl_length] at this
  refine this.mono ?_
  rintro e w' ⟨v, he, ho, hb⟩
  exact ⟨v, he, R_own ho, hb⟩

/-! ### plexusref06_Shuffled: function 7 -/
def plexusref06_Shuffled.f (a0 : Int) (l1 : List Int) : Option (List Int) := if l1.length < 2 ^ 63 ∧ okL 256 l1 = true ∧ 0 ≤ a0 ∧ a0 < 1048576 then some (il (shL (nl l1) a0.toNat)) else none
set_option maxRecDepth 100000 in
theorem plexusref06_Shuffled.calls (a0 : Int) (A1 : Option Addr) (c1 : Nat) (l1 : List Int) (r : List Int) (w : World) (hr1 : Kd.C (Kd.int .u8) w A1 l1.length l1) (hc1 : l1.length ≤ c1) (h : plexusref06_Shuffled.f a0 l1 = some r) :
    Calls Tryd.prog 7 #[.int .i64 a0, .slice A1 l1.length c1] w fun e w' => ∃ v0_ : Value, e = .returned (v0_) ∧ Kd.R (Kd.int .i64) 3 w' w.heap.size (fun _ => True) v0_ r ∧ Below w.heap.size w w' := by
  obtain ⟨⟨h1, h2, h3, h4⟩, rfl⟩ := some_if h
  obtain ⟨n, rfl⟩ := Int.eq_ofNat_of_zero_le h3
  refine (shuffled_any A1 _ c1 n (nl l1) w (nlc_of hr1 h2) (by omega) (by omega)).mono ?_
  rintro e w' ⟨v, he, ho, hb⟩
  exact ⟨v, he, R_own ho, hb⟩

/-! ### plexusref06_With: function 8 -/
def plexusref06_With.f (l0 : List Int) (a1 : Int) : Option (List Int) := if l0.length < 1099511627776 ∧ okL 16384 l0 = true ∧ 0 ≤ a1 ∧ a1 < 16384 then some (il (withL (nl l0) a1.toNat)) else none
set_option maxRecDepth 100000 in
theorem plexusref06_With.calls (A0 : Option Addr) (c0 : Nat) (l0 : List Int) (a1 : Int) (r : List Int) (w : World) (hr0 : Kd.C (Kd.int .u64) w A0 l0.length l0) (hc0 : l0.length ≤ c0) (h : plexusref06_With.f l0 a1 = some r) :
    Calls Tryd.prog 8 #[.slice A0 l0.length c0, .int .u64 a1] w fun e w' => ∃ v0_ : Value, e = .returned (v0_) ∧ Kd.R (Kd.int .u64) 25 w' w.heap.size (fun _ => True) v0_ r ∧ Below w.heap.size w w' := by
  obtain ⟨⟨h1, h2, h3, h4⟩, rfl⟩ := some_if h
  obtain ⟨b, rfl⟩ := Int.eq_ofNat_of_zero_le h3
  refine (with_any A0 _ c0 (nl l0) b (by omega) w (blc_of (by decide) hr0 h2) h1 hc0).mono ?_
  rintro e w' ⟨v, he, ho, hb⟩
  exact ⟨v, he, R_own (by simpa [il_length, withL_length, nl_length] using ho), hb⟩

/-! ### embed_Best: function 26 -/
def embed_Best.f (a0_0 : Int) (l0_1 : List Int) (a1_0 : Int) (l1_1 : List Int) (l2 : List Int) : Option (List Int × List Int × Int) := if l0_1.length ≤ 12 ∧ l1_1.length ≤ 1000 ∧ l2.length < 1099511627776 ∧ okL 18446744073709551616 l0_1 = true ∧ okL 18446744073709551616 l1_1 = true ∧ okI l2 = true ∧ 0 ≤ a0_0 ∧ 0 ≤ a1_0 then some (bestF a0_0 a1_0 l0_1 l1_1 l2) else none
set_option maxRecDepth 100000 in
theorem embed_Best.calls (a0_0 : Int) (A0_1 : Option Addr) (c0_1 : Nat) (l0_1 : List Int) (a1_0 : Int) (A1_1 : Option Addr) (c1_1 : Nat) (l1_1 : List Int) (A2 : Option Addr) (c2 : Nat) (l2 : List Int) (r1 : List Int) (r2 : List Int) (r3 : Int) (w : World) (hr0_1 : Kd.C (Kd.int .u64) w A0_1 l0_1.length l0_1) (hc0_1 : l0_1.length ≤ c0_1) (hr1_1 : Kd.C (Kd.int .u64) w A1_1 l1_1.length l1_1) (hc1_1 : l1_1.length ≤ c1_1) (hr2 : Kd.C (Kd.int .i64) w A2 l2.length l2) (hc2 : l2.length ≤ c2) (h : embed_Best.f a0_0 l0_1 a1_0 l1_1 l2 = some (r1, r2, r3)) :
    Calls Tryd.prog 26 #[.agg #[.int .i64 a0_0, .slice A0_1 l0_1.length c0_1], .agg #[.int .i64 a1_0, .slice A1_1 l1_1.length c1_1], .slice A2 l2.length c2] w fun e w' => ∃ v0_ v1_ : Value, e = .returned (.tuple #[.agg #[v0_, v1_], .int .i64 r3]) ∧ Kd.R (Kd.int .i64) 3 w' w.heap.size (fun k_ => some k_ ≠ (v1_ : Value).ownBlock) v0_ r1 ∧ Kd.R (Kd.int .i64) 3 w' w.heap.size (fun k_ => some k_ ≠ (v0_ : Value).ownBlock) v1_ r2 ∧ Below w.heap.size w w' := by
  obtain ⟨⟨h1, h2, h3, h4, h5, h6, h7, h8⟩, hr⟩ := some_if h
  obtain ⟨V, rfl⟩ := Int.eq_ofNat_of_zero_le h7
  obtain ⟨U, rfl⟩ := Int.eq_ofNat_of_zero_le h8
  unfold bestF at hr
  split at hr
  · rename_i hc
    obtain ⟨q1, hq⟩ := Prod.mk.inj hr
    obtain ⟨q2, q3⟩ := Prod.mk.inj hq
    rw [q1, q2, q3]
    refine (best_big V U _ _ _ c0_1 c1_1 c2 A0_1 A1_1 A2 w hc).mono ?_
    rintro e w' ⟨rfl, hb⟩
    exact ⟨_, _, rfl, nil_pair.1, nil_pair.2, hb⟩
  · rename_i hc
    split at hr
    · rename_i hd
      obtain ⟨q1, hq⟩ := Prod.mk.inj hr
      obtain ⟨q2, q3⟩ := Prod.mk.inj hq
      rw [q1, q2, q3]
      refine (best_bad V U _ _ c0_1 c1_1 c2 A0_1 A1_1 A2 l2 w (by omega) (by omega) hr2 h3 (okI_iff.1 h6) false hd (fun e => nomatch e)).mono ?_
      rintro e w' ⟨rfl, hb⟩
      exact ⟨_, _, rfl, nil_pair.1, nil_pair.2, hb⟩
    · rename_i hd
      have hd1 : diffB l2 l0_1.length = true := by simpa using hd
      split at hr
      · rename_i hv
        obtain ⟨q1, hq⟩ := Prod.mk.inj hr
        obtain ⟨q2, q3⟩ := Prod.mk.inj hq
        rw [q1, q2, q3]
        refine (best_bad V U _ _ c0_1 c1_1 c2 A0_1 A1_1 A2 l2 w (by omega) (by omega) hr2 h3 (okI_iff.1 h6) true hd1 (fun _ => hv)).mono ?_
        rintro e w' ⟨rfl, hb⟩
        exact ⟨_, _, rfl, nil_pair.1, nil_pair.2, hb⟩
      · rename_i hv
        obtain ⟨q1, hq⟩ := Prod.mk.inj hr
        obtain ⟨q2, q3⟩ := Prod.mk.inj hq
        rw [q1, q2, q3]
        obtain ⟨e1, e2, e3, e4⟩ := diff_nl hd1
        have := best_ok V U c0_1 c1_1 c2 A0_1 A1_1 A2 (nl l0_1) (nl l1_1) (nl l2) w (by omega) (by omega) (by omega) (by rw [nl_length]; exact blc_of (by decide) hr0_1 h4) (by rw [nl_length]; exact blc_of (by decide) hr1_1 h5) (by rw [e1, nl_length]; exact hr2) (fun i hi => by have := e2 i hi; rw [nl_length]; omega) e3 (by rw [nl_length]; omega) (by rw [nl_length, nl_length]; omega) (by rw [nl_length]; omega) (by rw [nl_length]; omega)
        rw [nl_length, nl_length, nl_length] at this
        refine this.mono ?_
        rintro e w' ⟨v1, v2, rfl, ho1, ho2, hb, hnd⟩
        exact ⟨v1, v2, rfl, (R_pair ho1 ho2 hnd).1, (R_pair ho1 ho2 hnd).2, hb⟩

/-! ### embed_Kept: function 11 -/
def embed_Kept.f (l0_0 : List Int) (l0_1 : List Int) (l1 : List Int) : Option (List Int) := if l0_1.length < 1099511627776 ∧ l1.length < 1099511627776 then some (keptL l0_1 l1) else none
set_option maxRecDepth 100000 in
theorem embed_Kept.calls (A0_0 : Option Addr) (c0_0 : Nat) (l0_0 : List Int) (A0_1 : Option Addr) (c0_1 : Nat) (l0_1 : List Int) (A1 : Option Addr) (c1 : Nat) (l1 : List Int) (r : List Int) (w : World) (hr0_0 : Kd.C (Kd.int .i64) w A0_0 l0_0.length l0_0) (hc0_0 : l0_0.length ≤ c0_0) (hr0_1 : Kd.C (Kd.int .i64) w A0_1 l0_1.length l0_1) (hc0_1 : l0_1.length ≤ c0_1) (hr1 : Kd.C (Kd.int .i64) w A1 l1.length l1) (hc1 : l1.length ≤ c1) (h : embed_Kept.f l0_0 l0_1 l1 = some r) :
    Calls Tryd.prog 11 #[.agg #[.slice A0_0 l0_0.length c0_0, .slice A0_1 l0_1.length c0_1], .slice A1 l1.length c1] w fun e w' => ∃ v0_ : Value, e = .returned (v0_) ∧ Kd.R (Kd.int .i64) 3 w' w.heap.size (fun _ => True) v0_ r ∧ Below w.heap.size w w' := by
  obtain ⟨⟨h1, h2⟩, rfl⟩ := some_if h
  refine (kept_any (.slice A0_0 l0_0.length c0_0) A0_1 c0_1 l0_1 A1 c1 l1 w rfl hr0_1 hr1 h2).mono ?_
  rintro e w' ⟨v, he, ho, hb⟩
  exact ⟨v, he, R_own ho, hb⟩

end Go.Proofs.YtheclfjbedajfaaDoor.Pm
