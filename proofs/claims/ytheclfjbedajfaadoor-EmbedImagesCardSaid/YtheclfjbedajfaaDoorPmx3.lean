-- Written by this session's program xprint.py: it drives the kit's print with contracts of this session's own.
import Derived.Test.YtheclfjbedajfaaDoorPdx0
import Derived.Test.YtheclfjbedajfaaDoorPmExt
import Derived.Test.YtheclfjbedajfaaDoorPk
namespace Go.Proofs.YtheclfjbedajfaaDoor.Pm
open Go.Proofs.YtheclfjbedajfaaDoor.Pk Go.RowKit Go.Proofs.YtheclfjbedajfaaDoorW.PrintWords Go.Proofs.YtheclfjbedajfaaDoorW.PrintLast Go.Proofs.YtheclfjbedajfaaDoorW.PrintMore
attribute [local go_sem] max2_int min2_int max_two min_two max_three min_three max_four min_four   -- for this text's walks alone
set_option linter.unusedVariables false
set_option linter.unusedSimpArgs false

/-! ### plexuslaw42_EmbedImages: function 3 -/
def plexuslaw42_EmbedImages.j0 : Nat → Bool → Bool → Int → List Int → Int → List Int → List Int → List Int → Int → Option (Bool)
  | 0, _, _, _, _, _, _, _, _, _ => none
  | k + 1, x7, x77, x131000, x131001, x139000, x139001, x161000, x161001, x161002 => if x77 = true then (some false) else ((incidence_Image.f x131000 x131001 x161000).bind fun bt168 => ((plexusref06_Same.f k bt168.1 bt168.2 x139000 x139001).bind fun t172 => (if t172 = true then (some x7) else (some false))))
def plexuslaw42_EmbedImages.f (k : Nat) (l0_0 : List Int) (l1 : List Int) (a2 : Int) : Option (Bool) := (plexuslaw42_examples.f).bind fun t125 => (if t125 = true then ((plexusref06_Limited.f l0_0 4).bind fun bt126 => ((plexusref06_Shuffled.f bt126.1 l1).bind fun t131 => ((incidence_Image.f bt126.1 bt126.2 t131).bind fun bt134 => (if 0 ≤ (IntKind.u64.wrap (bt134.1)) then ((plexusref06_With.f bt134.2 (Go.bits .and .u64 a2 (IntKind.u64.wrap ((shl .u64 1 (IntKind.u64.wrap (bt134.1))) - 1)))).bind fun t139 => ((plexusref42_Done.f k bt126.1 bt126.2 65535).bind fun t143 => ((plexuslaw42_best.f bt126.1 bt126.2 bt134.1 bt134.2 t143).bind fun bt146 => ((plexuslaw42_best.f bt126.1 bt126.2 bt134.1 t139 t143).bind fun bt153 => (if bt146.2.2 = 0 then (if bt153.2.2 = 0 then ((embed_Kept.f bt146.1 bt146.2.1 t143).bind fun t162 => (if (t162.length : Int) = (bt126.2.length : Int) then ((embed_Kept.f bt153.1 bt153.2.1 t143).bind fun t165 => (plexuslaw42_EmbedImages.j0 k t125 ((t165.length : Int) != (bt126.2.length : Int)) bt126.1 bt126.2 bt134.1 bt134.2 bt146.1 bt146.2.1 bt146.2.2)) else (plexuslaw42_EmbedImages.j0 k t125 true bt126.1 bt126.2 bt134.1 bt134.2 bt146.1 bt146.2.1 bt146.2.2))) else (plexuslaw42_EmbedImages.j0 k t125 true bt126.1 bt126.2 bt134.1 bt134.2 bt146.1 bt146.2.1 bt146.2.2)) else (plexuslaw42_EmbedImages.j0 k t125 true bt126.1 bt126.2 bt134.1 bt134.2 bt146.1 bt146.2.1 bt146.2.2)))))) else (none))))) else (some false))
theorem plexuslaw42_EmbedImages.mono_l : ∀ k, (∀ y0 y1 y2 y3 y4 y5 y6 y7 y8, LeO (plexuslaw42_EmbedImages.j0 k y0 y1 y2 y3 y4 y5 y6 y7 y8) (plexuslaw42_EmbedImages.j0 (k + 1) y0 y1 y2 y3 y4 y5 y6 y7 y8))
  | 0 => fun _ _ _ _ _ _ _ _ _ r h => by simp [plexuslaw42_EmbedImages.j0] at h
  | k + 1 => by
    have ih0 := plexuslaw42_EmbedImages.mono_l k
    · intro y0 y1 y2 y3 y4 y5 y6 y7 y8
      unfold plexuslaw42_EmbedImages.j0
      repeat' first
      | (with_reducible exact ih0 _ _ _ _ _ _ _ _ _)
      | (with_reducible exact plexusref06_Same.mono _ _ _ _ _)
      | (with_reducible exact plexusref42_Done.mono _ _ _ _)
      | (with_reducible exact LeO.refl _)
      | (with_reducible exact LeO.none _)
      | (with_reducible refine LeO.ite ?_ ?_)
      | (with_reducible refine LeO.bind ?_ (fun _ => ?_))
      | exact ih0 _ _ _ _ _ _ _ _ _
      | exact plexusref06_Same.mono _ _ _ _ _
      | exact plexusref42_Done.mono _ _ _ _
      | exact LeO.none _
      | refine LeO.ite ?_ ?_
      | refine LeO.bind ?_ (fun _ => ?_)
theorem plexuslaw42_EmbedImages.mono : ∀ a0 a1 a2 k, LeO (plexuslaw42_EmbedImages.f k a0 a1 a2) (plexuslaw42_EmbedImages.f (k + 1) a0 a1 a2) := by
  intro a0 a1 a2 k
  have ih0 := plexuslaw42_EmbedImages.mono_l k
  unfold plexuslaw42_EmbedImages.f
  repeat' first
    | (with_reducible exact ih0 _ _ _ _ _ _ _ _ _)
    | (with_reducible exact plexusref06_Same.mono _ _ _ _ _)
    | (with_reducible exact plexusref42_Done.mono _ _ _ _)
    | (with_reducible exact LeO.refl _)
    | (with_reducible exact LeO.none _)
    | (with_reducible refine LeO.ite ?_ ?_)
    | (with_reducible refine LeO.bind ?_ (fun _ => ?_))
    | exact ih0 _ _ _ _ _ _ _ _ _
    | exact plexusref06_Same.mono _ _ _ _ _
    | exact plexusref42_Done.mono _ _ _ _
    | exact LeO.none _
    | refine LeO.ite ?_ ?_
    | refine LeO.bind ?_ (fun _ => ?_)
def plexuslaw42_EmbedImages.T5 : Bool × List (List Nat × List Nat) := (true, [([], []), ([], []), ([1], [1]), ([], []), ([2, 3], [2, 3]), ([0, 4, 4], [0, 4]), ([], []), ([6, 5, 5, 0, 1, 2, 3, 4, 5, 6], [5, 6])])
def plexuslaw42_EmbedImages.B5 : List Nat := [0, 0, 2, 0, 14, 31, 0, 127]
theorem plexuslaw42_EmbedImages.tab5 : rtab .any (opsOf Tryd.f3 5) = plexuslaw42_EmbedImages.T5 := by kernel_rfl
theorem plexuslaw42_EmbedImages.bits5 : waitsOk plexuslaw42_EmbedImages.T5.2 plexuslaw42_EmbedImages.B5 = true := by kernel_rfl
def plexuslaw42_EmbedImages.T6 : Bool × List (List Nat × List Nat) := (true, [([], []), ([0], [0]), ([], []), ([2], [2]), ([], []), ([], []), ([5], [5]), ([6], [6]), ([7], [7]), ([8], [8]), ([4, 9], [4, 9]), ([3, 10], [3, 10]), ([1, 11], [1, 11]), ([], []), ([13, 12, 11, 0, 1, 2, 3, 4, 5, 6, 7, 8, 9, 10, 11, 12, 13], [12, 13])])
def plexuslaw42_EmbedImages.B6 : List Nat := [0, 1, 0, 4, 0, 0, 32, 96, 224, 480, 1008, 2044, 4095, 0, 16383]
theorem plexuslaw42_EmbedImages.tab6 : rtab .any (opsOf Tryd.f3 6) = plexuslaw42_EmbedImages.T6 := by kernel_rfl
theorem plexuslaw42_EmbedImages.bits6 : waitsOk plexuslaw42_EmbedImages.T6.2 plexuslaw42_EmbedImages.B6 = true := by kernel_rfl
def plexuslaw42_EmbedImages.T8 : Bool × List (List Nat × List Nat) := (true, [([], []), ([], []), ([], []), ([0, 1, 2], [0, 1, 2]), ([], []), ([], []), ([], []), ([4, 5, 6, 3], [4, 5, 6]), ([], []), ([], []), ([8, 3, 7, 0, 1, 2, 3, 8, 9], [3, 8]), ([9, 7, 10, 0, 1, 2, 3, 4, 5, 6, 7, 8, 9, 10], [7, 9])])
def plexuslaw42_EmbedImages.B8 : List Nat := [0, 0, 0, 7, 0, 0, 0, 127, 0, 0, 1023, 2047]
theorem plexuslaw42_EmbedImages.tab8 : rtab .any (opsOf Tryd.f3 8) = plexuslaw42_EmbedImages.T8 := by kernel_rfl
theorem plexuslaw42_EmbedImages.bits8 : waitsOk plexuslaw42_EmbedImages.T8.2 plexuslaw42_EmbedImages.B8 = true := by kernel_rfl
def plexuslaw42_EmbedImages.T9 : Bool × List (List Nat × List Nat) := (true, [([], []), ([0], [0]), ([1], [1]), ([2], [2]), ([3], [3]), ([4, 3], [3, 4]), ([5, 3], [3, 5]), ([3, 6], [3, 6]), ([7, 3], [7]), ([8], [8]), ([9, 8], [8, 9]), ([8], [8]), ([10, 11, 8, 8], [8, 10, 11]), ([12, 8], [8, 12]), ([8], [8]), ([14, 8], [8, 14]), ([15, 8], [8, 15]), ([13, 16, 8], [8, 13, 16]), ([8, 17], [8, 17]), ([18, 12], [18]), ([19], [19]), ([20, 19], [19, 20]), ([19], [19]), ([21, 22, 19, 19], [19, 21, 22]), ([23, 19], [19, 23]), ([19], [19]), ([25, 19], [19, 25]), ([26, 19], [19, 26]), ([24, 27, 19], [19, 24, 27]), ([19, 28], [19, 28])])
def plexuslaw42_EmbedImages.B9 : List Nat := [0, 1, 3, 7, 15, 31, 63, 127, 255, 511, 1023, 511, 4095, 8191, 511, 16895, 49663, 131071, 262143, 524287, 1048575, 2097151, 1048575, 8388607, 16777215, 1048575, 34603007, 101711871, 268435455, 536870911]
theorem plexuslaw42_EmbedImages.tab9 : rtab .any (opsOf Tryd.f3 9) = plexuslaw42_EmbedImages.T9 := by kernel_rfl
theorem plexuslaw42_EmbedImages.bits9 : waitsOk plexuslaw42_EmbedImages.T9.2 plexuslaw42_EmbedImages.B9 = true := by kernel_rfl
def plexuslaw42_EmbedImages.T11 : Bool × List (List Nat × List Nat) := (true, [([], []), ([], []), ([1], [1]), ([2], [2]), ([0, 3], [0, 3]), ([], []), ([4, 5, 4], [4, 5]), ([6, 6], [6]), ([7], [7]), ([7, 8], [7, 8]), ([9, 7, 0, 1, 2, 3, 4, 5, 6, 7, 8, 9], [9])])
def plexuslaw42_EmbedImages.B11 : List Nat := [0, 0, 2, 6, 15, 0, 63, 127, 255, 511, 1023]
theorem plexuslaw42_EmbedImages.tab11 : rtab .any (opsOf Tryd.f3 11) = plexuslaw42_EmbedImages.T11 := by kernel_rfl
theorem plexuslaw42_EmbedImages.bits11 : waitsOk plexuslaw42_EmbedImages.T11.2 plexuslaw42_EmbedImages.B11 = true := by kernel_rfl
set_option maxHeartbeats 8000000 in
set_option maxRecDepth 100000 in
theorem plexuslaw42_EmbedImages.calls (k : Nat) (A0_0 : Option Addr) (c0_0 : Nat) (l0_0 : List Int) (A1 : Option Addr) (c1 : Nat) (l1 : List Int) (a2 : Int) (w : World) (hr0_0 : Kd.C (Kd.int .u8) w A0_0 l0_0.length l0_0) (hc0_0 : l0_0.length ≤ c0_0) (hr1 : Kd.C (Kd.int .u8) w A1 l1.length l1) (hc1 : l1.length ≤ c1) (hT : TabOk w) (h : plexuslaw42_EmbedImages.f k l0_0 l1 a2 = some true) :
  Calls Tryd.prog 3 #[.agg #[.slice A0_0 l0_0.length c0_0], .slice A1 l1.length c1, .int .u64 a2] w fun e w' => e = .returned (.bool true) ∧ Below w.heap.size w w' := by
  have hu24 := Tryd.underlying24
  have hu29 := Tryd.underlying29
  have hu42 := Tryd.underlying42
  have hu39 := Tryd.underlying39
  have HR0_0 := Aside0.mk hr0_0
  have HC0_0 := Aside0.mk hc0_0
  clear hr0_0 hc0_0
  have HR1 := Aside0.mk hr1
  have HC1 := Aside0.mk hc1
  clear hr1 hc1
  have HB := Aside0.mk (Below.refl w.heap.size w)
  have HT := Aside0.mk hT
  clear hT
  have H : ((plexuslaw42_examples.f).bind fun t125 => (if t125 = true then ((plexusref06_Limited.f l0_0 4).bind fun bt126 => ((plexusref06_Shuffled.f bt126.1 l1).bind fun t131 => ((incidence_Image.f bt126.1 bt126.2 t131).bind fun bt134 => (if 0 ≤ (IntKind.u64.wrap (bt134.1)) then ((plexusref06_With.f bt134.2 (Go.bits .and .u64 a2 (IntKind.u64.wrap ((shl .u64 1 (IntKind.u64.wrap (bt134.1))) - 1)))).bind fun t139 => ((plexusref42_Done.f k bt126.1 bt126.2 65535).bind fun t143 => ((plexuslaw42_best.f bt126.1 bt126.2 bt134.1 bt134.2 t143).bind fun bt146 => ((plexuslaw42_best.f bt126.1 bt126.2 bt134.1 t139 t143).bind fun bt153 => (if bt146.2.2 = 0 then (if bt153.2.2 = 0 then ((embed_Kept.f bt146.1 bt146.2.1 t143).bind fun t162 => (if (t162.length : Int) = (bt126.2.length : Int) then ((embed_Kept.f bt153.1 bt153.2.1 t143).bind fun t165 => (plexuslaw42_EmbedImages.j0 k t125 ((t165.length : Int) != (bt126.2.length : Int)) bt126.1 bt126.2 bt134.1 bt134.2 bt146.1 bt146.2.1 bt146.2.2)) else (plexuslaw42_EmbedImages.j0 k t125 true bt126.1 bt126.2 bt134.1 bt134.2 bt146.1 bt146.2.1 bt146.2.2))) else (plexuslaw42_EmbedImages.j0 k t125 true bt126.1 bt126.2 bt134.1 bt134.2 bt146.1 bt146.2.1 bt146.2.2)) else (plexuslaw42_EmbedImages.j0 k t125 true bt126.1 bt126.2 bt134.1 bt134.2 bt146.1 bt146.2.1 bt146.2.2)))))) else (none))))) else (some false))) = some true := h
  clear h
  replace H := Option.bind_eq_some_iff.mp H
  obtain ⟨t125, A40, H⟩ := H
  replace H : (if t125 = true then ((plexusref06_Limited.f l0_0 4).bind fun bt126 => ((plexusref06_Shuffled.f bt126.1 l1).bind fun t131 => ((incidence_Image.f bt126.1 bt126.2 t131).bind fun bt134 => (if 0 ≤ (IntKind.u64.wrap (bt134.1)) then ((plexusref06_With.f bt134.2 (Go.bits .and .u64 a2 (IntKind.u64.wrap ((shl .u64 1 (IntKind.u64.wrap (bt134.1))) - 1)))).bind fun t139 => ((plexusref42_Done.f k bt126.1 bt126.2 65535).bind fun t143 => ((plexuslaw42_best.f bt126.1 bt126.2 bt134.1 bt134.2 t143).bind fun bt146 => ((plexuslaw42_best.f bt126.1 bt126.2 bt134.1 t139 t143).bind fun bt153 => (if bt146.2.2 = 0 then (if bt153.2.2 = 0 then ((embed_Kept.f bt146.1 bt146.2.1 t143).bind fun t162 => (if (t162.length : Int) = (bt126.2.length : Int) then ((embed_Kept.f bt153.1 bt153.2.1 t143).bind fun t165 => (plexuslaw42_EmbedImages.j0 k t125 ((t165.length : Int) != (bt126.2.length : Int)) bt126.1 bt126.2 bt134.1 bt134.2 bt146.1 bt146.2.1 bt146.2.2)) else (plexuslaw42_EmbedImages.j0 k t125 true bt126.1 bt126.2 bt134.1 bt134.2 bt146.1 bt146.2.1 bt146.2.2))) else (plexuslaw42_EmbedImages.j0 k t125 true bt126.1 bt126.2 bt134.1 bt134.2 bt146.1 bt146.2.1 bt146.2.2)) else (plexuslaw42_EmbedImages.j0 k t125 true bt126.1 bt126.2 bt134.1 bt134.2 bt146.1 bt146.2.1 bt146.2.2)))))) else (none))))) else (some false)) = some true := H
  have A4 := Aside0.mk A40
  clear A40
  by_cases c5 : t125 = true
  · subst c5
    have H1 : ((plexusref06_Limited.f l0_0 4).bind fun bt126 => ((plexusref06_Shuffled.f bt126.1 l1).bind fun t131 => ((incidence_Image.f bt126.1 bt126.2 t131).bind fun bt134 => (if 0 ≤ (IntKind.u64.wrap (bt134.1)) then ((plexusref06_With.f bt134.2 (Go.bits .and .u64 a2 (IntKind.u64.wrap ((shl .u64 1 (IntKind.u64.wrap (bt134.1))) - 1)))).bind fun t139 => ((plexusref42_Done.f k bt126.1 bt126.2 65535).bind fun t143 => ((plexuslaw42_best.f bt126.1 bt126.2 bt134.1 bt134.2 t143).bind fun bt146 => ((plexuslaw42_best.f bt126.1 bt126.2 bt134.1 t139 t143).bind fun bt153 => (if bt146.2.2 = 0 then (if bt153.2.2 = 0 then ((embed_Kept.f bt146.1 bt146.2.1 t143).bind fun t162 => (if (t162.length : Int) = (bt126.2.length : Int) then ((embed_Kept.f bt153.1 bt153.2.1 t143).bind fun t165 => (plexuslaw42_EmbedImages.j0 k true ((t165.length : Int) != (bt126.2.length : Int)) bt126.1 bt126.2 bt134.1 bt134.2 bt146.1 bt146.2.1 bt146.2.2)) else (plexuslaw42_EmbedImages.j0 k true true bt126.1 bt126.2 bt134.1 bt134.2 bt146.1 bt146.2.1 bt146.2.2))) else (plexuslaw42_EmbedImages.j0 k true true bt126.1 bt126.2 bt134.1 bt134.2 bt146.1 bt146.2.1 bt146.2.2)) else (plexuslaw42_EmbedImages.j0 k true true bt126.1 bt126.2 bt134.1 bt134.2 bt146.1 bt146.2.1 bt146.2.2)))))) else (none))))) = some true := by first | rfl | (rw [if_pos rfl] at H; exact H)
    clear H
    have H := H1
    clear H1
    replace H := Option.bind_eq_some_iff.mp H
    obtain ⟨⟨t126, t127⟩, A60, H⟩ := H
    try dsimp only at H
    have A6 := Aside0.mk A60
    clear A60
    replace H := Option.bind_eq_some_iff.mp H
    obtain ⟨t131, A70, H⟩ := H
    try dsimp only at H
    have A7 := Aside0.mk A70
    clear A70
    replace H := Option.bind_eq_some_iff.mp H
    obtain ⟨⟨t134, t135⟩, A80, H⟩ := H
    replace H : (if 0 ≤ (IntKind.u64.wrap (t134)) then ((plexusref06_With.f t135 (Go.bits .and .u64 a2 (IntKind.u64.wrap ((shl .u64 1 (IntKind.u64.wrap (t134))) - 1)))).bind fun t139 => ((plexusref42_Done.f k t126 t127 65535).bind fun t143 => ((plexuslaw42_best.f t126 t127 t134 t135 t143).bind fun bt146 => ((plexuslaw42_best.f t126 t127 t134 t139 t143).bind fun bt153 => (if bt146.2.2 = 0 then (if bt153.2.2 = 0 then ((embed_Kept.f bt146.1 bt146.2.1 t143).bind fun t162 => (if (t162.length : Int) = (t127.length : Int) then ((embed_Kept.f bt153.1 bt153.2.1 t143).bind fun t165 => (plexuslaw42_EmbedImages.j0 k true ((t165.length : Int) != (t127.length : Int)) t126 t127 t134 t135 bt146.1 bt146.2.1 bt146.2.2)) else (plexuslaw42_EmbedImages.j0 k true true t126 t127 t134 t135 bt146.1 bt146.2.1 bt146.2.2))) else (plexuslaw42_EmbedImages.j0 k true true t126 t127 t134 t135 bt146.1 bt146.2.1 bt146.2.2)) else (plexuslaw42_EmbedImages.j0 k true true t126 t127 t134 t135 bt146.1 bt146.2.1 bt146.2.2)))))) else (none)) = some true := H
    have A8 := Aside0.mk A80
    clear A80
    obtain ⟨ji9, hji9⟩ : ∃ j_ : Int, (IntKind.u64.wrap (t134)) = j_ := ⟨_, rfl⟩
    replace H : (if 0 ≤ (ji9) then ((plexusref06_With.f t135 (Go.bits .and .u64 a2 (IntKind.u64.wrap ((shl .u64 1 (ji9)) - 1)))).bind fun t139 => ((plexusref42_Done.f k t126 t127 65535).bind fun t143 => ((plexuslaw42_best.f t126 t127 t134 t135 t143).bind fun bt146 => ((plexuslaw42_best.f t126 t127 t134 t139 t143).bind fun bt153 => (if bt146.2.2 = 0 then (if bt153.2.2 = 0 then ((embed_Kept.f bt146.1 bt146.2.1 t143).bind fun t162 => (if (t162.length : Int) = (t127.length : Int) then ((embed_Kept.f bt153.1 bt153.2.1 t143).bind fun t165 => (plexuslaw42_EmbedImages.j0 k true ((t165.length : Int) != (t127.length : Int)) t126 t127 t134 t135 bt146.1 bt146.2.1 bt146.2.2)) else (plexuslaw42_EmbedImages.j0 k true true t126 t127 t134 t135 bt146.1 bt146.2.1 bt146.2.2))) else (plexuslaw42_EmbedImages.j0 k true true t126 t127 t134 t135 bt146.1 bt146.2.1 bt146.2.2)) else (plexuslaw42_EmbedImages.j0 k true true t126 t127 t134 t135 bt146.1 bt146.2.1 bt146.2.2)))))) else (none)) = some true := by first | (rw [hji9] at H; exact H) | (simp only [hji9] at H ⊢; exact H)
    (try rw [hji9] at A4)
    (try rw [hji9] at A6)
    (try rw [hji9] at A7)
    (try rw [hji9] at A8)
    by_cases c10 : 0 ≤ (ji9)
    rotate_left
    · rw [if_neg c10] at H
      exact absurd H (by simp)
    rw [if_pos c10] at H
    have c10b0 := eq_true c10
    have c10b1 : decide (0 ≤ (ji9)) = true := decide_eq_true c10
    clear c10
    obtain ⟨ji11, hji11⟩ : ∃ j_ : Int, (shl .u64 1 (ji9)) = j_ := ⟨_, rfl⟩
    replace H : ((plexusref06_With.f t135 (Go.bits .and .u64 a2 (IntKind.u64.wrap ((ji11) - 1)))).bind fun t139 => ((plexusref42_Done.f k t126 t127 65535).bind fun t143 => ((plexuslaw42_best.f t126 t127 t134 t135 t143).bind fun bt146 => ((plexuslaw42_best.f t126 t127 t134 t139 t143).bind fun bt153 => (if bt146.2.2 = 0 then (if bt153.2.2 = 0 then ((embed_Kept.f bt146.1 bt146.2.1 t143).bind fun t162 => (if (t162.length : Int) = (t127.length : Int) then ((embed_Kept.f bt153.1 bt153.2.1 t143).bind fun t165 => (plexuslaw42_EmbedImages.j0 k true ((t165.length : Int) != (t127.length : Int)) t126 t127 t134 t135 bt146.1 bt146.2.1 bt146.2.2)) else (plexuslaw42_EmbedImages.j0 k true true t126 t127 t134 t135 bt146.1 bt146.2.1 bt146.2.2))) else (plexuslaw42_EmbedImages.j0 k true true t126 t127 t134 t135 bt146.1 bt146.2.1 bt146.2.2)) else (plexuslaw42_EmbedImages.j0 k true true t126 t127 t134 t135 bt146.1 bt146.2.1 bt146.2.2)))))) = some true := by first | (rw [hji11] at H; exact H) | (simp only [hji11] at H ⊢; exact H)
    (try rw [hji11] at A4)
    (try rw [hji11] at A6)
    (try rw [hji11] at A7)
    (try rw [hji11] at A8)
    have hji11_ : (IntKind.u64.wrap (1 * 2 ^ min (ji9).toNat 64)) = ji11 := hji11
    have hji11z : (ji9) ≤ 64 → (IntKind.u64.wrap (1 * 2 ^ (ji9).toNat)) = ji11 := shl_small hji11
    have hji11u : (IntKind.u64.wrap (2 ^ min (ji9).toNat 64)) = ji11 := by have h_ := hji11_; rw [Int.one_mul] at h_; exact h_
    have hji11v : (ji9) ≤ 64 → (IntKind.u64.wrap (2 ^ (ji9).toNat)) = ji11 := fun hle_ => by have h_ := hji11z hle_; rw [Int.one_mul] at h_; exact h_
    replace H := Option.bind_eq_some_iff.mp H
    obtain ⟨t139, A120, H⟩ := H
    try dsimp only at H
    have A12 := Aside0.mk A120
    clear A120
    replace H := Option.bind_eq_some_iff.mp H
    obtain ⟨t143, A130, H⟩ := H
    try dsimp only at H
    have A13 := Aside0.mk A130
    clear A130
    replace H := Option.bind_eq_some_iff.mp H
    obtain ⟨⟨t146, t149, t152⟩, A140, H⟩ := H
    try dsimp only at H
    have A14 := Aside0.mk A140
    clear A140
    replace H := Option.bind_eq_some_iff.mp H
    obtain ⟨⟨t153, t156, t159⟩, A150, H⟩ := H
    replace H : (if t152 = 0 then (if t159 = 0 then ((embed_Kept.f t146 t149 t143).bind fun t162 => (if (t162.length : Int) = (t127.length : Int) then ((embed_Kept.f t153 t156 t143).bind fun t165 => (plexuslaw42_EmbedImages.j0 k true ((t165.length : Int) != (t127.length : Int)) t126 t127 t134 t135 t146 t149 t152)) else (plexuslaw42_EmbedImages.j0 k true true t126 t127 t134 t135 t146 t149 t152))) else (plexuslaw42_EmbedImages.j0 k true true t126 t127 t134 t135 t146 t149 t152)) else (plexuslaw42_EmbedImages.j0 k true true t126 t127 t134 t135 t146 t149 t152)) = some true := H
    have A15 := Aside0.mk A150
    clear A150
    have HC16 := Aside0.mk H
    clear H
    go_enter Tryd.func3, Tryd.ntmps3
    try go_wp2_with (first | ((with_reducible refine gate_dst (N := 3) rfl ?_); (try (refine gate_guard (by rfl) ?_; dsimp only)); refine box_event ?hg (N := 3) ?hd (cs := #[.slice A0_0 l0_0.length c0_0]) (t := 24) ?hr ?_; (case hd => rfl); (case hg => rfl); (case hr => first | (go_simp; done) | (go_simp; rfl)); intro gb124 hg w17 hbox hb; have n0_ := pkS HB hb; have n1_ := Aside0.mk (hbox); have n2_ := pkG hg HB; have n3_ := pkG hg HB; clear HB; have HB := n0_; have BK124 := n1_; have GW124 := n2_; have GE124 := n3_; clear n0_ n1_ n2_ n3_; clear hb hbox hg) | ((with_reducible refine gate_callee (f := 4) rfl ?_); refine goesL_ (some 14) rfl rfl Tryd.func4 (by kernel_rfl) rfl #[] rfl (by (try simp only [List.map_toArray, List.map_cons, List.map_nil]); first | done | rfl | (simp only [List.length_drop, List.length_take]; rfl)) ?_; (with_reducible refine (plexuslaw42_examples.calls  true _ A4.out).mono ?_); rintro e w18 ⟨rfl, hb⟩; refine ⟨_, rfl, ?_⟩; have n0_ := pkBb BK124 hb; have n1_ := pkS HB hb; clear BK124; clear HB; have BK124 := n0_; have HB := n1_; clear n0_ n1_; (try clear hb); (try clear hb2); (try clear hk); (try clear hi); have hcz19_0 : w18.cell? ⟨gb124, 0, none⟩ = some (.slice A0_0 l0_0.length c0_0) := (blk_cell BK124.out 0).trans rfl; have hfz19_0 := blk_frozen BK124.out 0) | ((with_reducible refine gate_callee (f := 5) rfl ?_); refine goesL_ (some 18) rfl rfl Tryd.func5 (by kernel_rfl) rfl #[.agg #[.slice A0_0 l0_0.length c0_0], .int .i64 4] rfl (by (try simp only [List.map_toArray, List.map_cons, List.map_nil]); first | done | rfl | (simp only [List.length_drop, List.length_take]; rfl)) ?_; (with_reducible refine (plexusref06_Limited.calls _ _ l0_0 4 t126 t127 _ ?side1 ?side2 A6.out).mono ?_); (case side1 => exact pkC (Kd.C_below HR0_0.out HB.out)); (case side2 => exact HC0_0.out); rintro e w20 ⟨v128, rfl, ho0, hb⟩; refine ⟨_, rfl, ?_⟩; have n0_ := Aside0.mk (Kd.R_lower ho0 (pkZ HB)); have n1_ := pkBb BK124 hb; have n2_ := pkS HB hb; clear BK124; clear HB; have HO129 := n0_; have BK124 := n1_; have HB := n2_; clear n0_ n1_ n2_; (try clear hb); (try clear hb2); (try clear hk); (try clear hi); (try clear ho0)) | ((with_reducible refine gate_dst (N := 8) rfl ?_); (try (refine gate_guard (by rfl) ?_; dsimp only)); refine box_event ?hg (N := 8) ?hd (cs := #[.int .i64 0, .slice none 0 0]) (t := 29) ?hr ?_; (case hd => rfl); (case hg => rfl); (case hr => first | (go_simp; done) | (go_simp; rfl)); intro gb130 hg w21 hbox hb; have n0_ := pkRb HO129 hb; have n1_ := pkBb BK124 hb; have n2_ := pkS HB hb; have n3_ := Aside0.mk (hbox); have n4_ := pkG hg HB; have n5_ := pkG hg HB; have n6_ := pkN hg BK124; have n7_ := pkM hg BK124; clear HO129; clear BK124; clear HB; have HO129 := n0_; have BK124 := n1_; have HB := n2_; have BK130 := n3_; have GW130 := n4_; have GE130 := n5_; have NB124_130 := n6_; have NB130_124 := n7_; clear n0_ n1_ n2_ n3_ n4_ n5_ n6_ n7_; clear hb hbox hg; have hnb22 := NB130_124.out; have hnc22 := NB124_130.out; have hcz23_0 : w21.cell? ⟨gb130, 0, none⟩ = some (.int .i64 0) := (blk_cell BK130.out 0).trans rfl; have hcz23_1 : w21.cell? ⟨gb130, 1, none⟩ = some (.slice none 0 0) := (blk_cell BK130.out 1).trans rfl; have hfz23_0 := blk_frozen BK130.out 0; have hfz23_1 := blk_frozen BK130.out 1; obtain ⟨Ao24, co24, eo24⟩ := Kd.R_slice HO129.out; subst eo24))
    obtain ⟨w25, hW_⟩ : ∃ x_, x_ = ((w21.setCell ⟨gb130, 0, none⟩ (.int .i64 t126)).setCell ⟨gb130, 1, none⟩ (.slice Ao24 t127.length co24)) := ⟨_, rfl⟩
    have n0_ : Aside0 (Kd.R (Kd.int .u64) 25 w25 w.heap.size (fun _ => True) (.slice Ao24 t127.length co24) t127) := ⟨by subst hW_; (with_reducible repeat (first | apply Kd.R_alloc | apply Kd.R_drewN | apply Kd.R_drew)); exact Kd.R_mono (Kd.R_far (p := ⟨gb130, 1, none⟩) (Kd.R_far (p := ⟨gb130, 0, none⟩) (Kd.R_types HO129.out BK130.out (by decide)) (fun _ hk => hk.2) (.int .i64 t126)) (fun _ hk => hk.2) (.slice Ao24 t127.length co24)) (fun _ hk => trivial)⟩
    have n1_ : Aside0 (w25.heap[gb124]? = some (.cells #[.slice A0_0 l0_0.length c0_0] 24 (0, 0))) := ⟨by subst hW_; (with_reducible repeat (first | refine blk_drewN ?_ _ | refine blk_drew ?_ | refine blk_alloc ?_ _)); refine blk_far ?_ NB124_130.out _; (with_reducible repeat (first | refine blk_drewN ?_ _ | refine blk_drew ?_ | refine blk_alloc ?_ _)); refine blk_far ?_ NB124_130.out _; (with_reducible repeat (first | refine blk_drewN ?_ _ | refine blk_drew ?_ | refine blk_alloc ?_ _)); exact BK124.out⟩
    have n2_ : Aside0 (w25.heap[gb130]? = some (.cells #[.int .i64 t126, .slice Ao24 t127.length co24] 29 (0, 0))) := ⟨by subst hW_; (with_reducible repeat (first | refine blk_drewN ?_ _ | refine blk_drew ?_ | refine blk_alloc ?_ _)); refine blk_put (cs := #[.int .i64 t126, .slice none 0 0]) ?_ 1 _ rfl; (with_reducible repeat (first | refine blk_drewN ?_ _ | refine blk_drew ?_ | refine blk_alloc ?_ _)); refine blk_put (cs := #[.int .i64 0, .slice none 0 0]) ?_ 0 _ rfl; (with_reducible repeat (first | refine blk_drewN ?_ _ | refine blk_drew ?_ | refine blk_alloc ?_ _)); exact BK130.out⟩
    have n3_ : Aside0 (Below w.heap.size w w25) := ⟨by subst hW_; exact pkW HB.out⟩
    rw [← hW_]
    clear hW_ HO129 BK124 BK130 HB
    have HO129 := n0_
    have BK124 := n1_
    have BK130 := n2_
    have HB := n3_
    clear n0_ n1_ n2_ n3_
    replace HO129 := Aside0.mk (Kd.R_drew HO129.out)
    replace BK124 := Aside0.mk (blk_drew BK124.out)
    replace BK130 := Aside0.mk (blk_drew BK130.out)
    replace HB := Aside0.mk (below_drew1 HB.out)
    refine start_ (n := 8) (S := fun w' => w'.cell? ⟨gb130, 0, none⟩ = some (.int .i64 t126) ∧ w'.cell? ⟨gb130, 1, none⟩ = some (.slice Ao24 t127.length co24)) (ds := []) #[false, false, false, false, false, false, false, false] (by kernel_rfl) rfl rfl ⟨(blk_cell BK130.out 0).trans rfl, (blk_cell BK130.out 1).trans rfl⟩ (fun hHeld => ?_); refine with_tabW plexuslaw42_EmbedImages.tab5 plexuslaw42_EmbedImages.bits5 (fun HT_ HW_ => ?_)
    generalize w25.drew = w26 at HO129 BK124 BK130 HB hHeld ⊢
    refine pkP 1 20 #[false, true, false, false, false, false, false, false] HT_ ?_
    refine pkP 3 22 #[false, true, false, true, false, false, false, false] HT_ ?_
    refine take_ (i := 0) (N := some 19) (v := ?_) (a' := ?_) #[true, true, false, true, false, false, false, false] rfl rfl (take_ofW HT_.out HW_.out (by kernel_rfl)) (fun _ _ _ h => h) (Or.inl ⟨by rfl, ?_⟩) hHeld ?_ ?_
    rotate_left
    · rintro w' ⟨s0, s1⟩
      go_simp
      with_reducible rfl
    rotate_left
    · simp only [Act.put, List.setIfInBounds_toArray, List.set_cons_zero, List.set_cons_succ, i64_w, i32_w]
      rfl
    refine take_ (i := 2) (N := some 21) (v := ?_) (a' := ?_) #[true, true, true, true, false, false, false, false] rfl rfl (take_ofW HT_.out HW_.out (by kernel_rfl)) (fun _ _ _ h => h) (Or.inl ⟨by rfl, ?_⟩) hHeld ?_ ?_
    rotate_left
    · rintro w' ⟨s0, s1⟩
      go_simp
      with_reducible rfl
    rotate_left
    · simp only [Act.put, List.setIfInBounds_toArray, List.set_cons_zero, List.set_cons_succ, i64_w, i32_w]
      rfl
    refine join_ (σ := Value × Value × Nat) 1 #[true, true, true, true, true, true, true, false] (fun s_ => [(23, s_.1), (24, .agg #[.int .i64 t134, s_.2.1]), (9, .pointer (some ⟨s_.2.2, 0, none⟩))]) (fun s_ w' => (w'.cell? ⟨gb130, 0, none⟩ = some (.int .i64 t126) ∧ w'.cell? ⟨gb130, 1, none⟩ = some (.slice Ao24 t127.length co24)) ∧ (Kd.R (Kd.int .u64) 25 w' w.heap.size (fun k_ => some k_ ≠ (s_.2.1 : Value).ownBlock) (.slice Ao24 t127.length co24) t127) ∧ (Kd.R (Kd.int .i64) 3 w' w.heap.size (fun _ => True) s_.1 t131) ∧ (Kd.R (Kd.int .u64) 25 w' w.heap.size (fun k_ => some k_ ≠ (.slice Ao24 t127.length co24 : Value).ownBlock) s_.2.1 t135) ∧ (w'.heap[gb124]? = some (.cells #[.slice A0_0 l0_0.length c0_0] 24 (0, 0))) ∧ (w'.heap[gb130]? = some (.cells #[.int .i64 t126, .slice Ao24 t127.length co24] 29 (0, 0))) ∧ (w'.heap[s_.2.2]? = some (.cells #[.int .i64 0, .slice none 0 0] 29 (0, 0))) ∧ (w.heap.size ≤ s_.2.2) ∧ (w.heap.size ≤ s_.2.2) ∧ (gb124 ≠ s_.2.2) ∧ (s_.2.2 ≠ gb124) ∧ (gb130 ≠ s_.2.2) ∧ (s_.2.2 ≠ gb130) ∧ (Below w.heap.size w w')) ?_ ?_
    rotate_left
    · intro hCont
      refine two_ (i := 4) (j := 6) (Ni := some 23) (Nj := some 9) #[true, true, true, true, true, false, false, false] #[true, true, true, true, false, false, true, false] rfl rfl rfl rfl (two_of HT_.out (by kernel_rfl)) (by decide) (by decide) (fun K hK => ?_) (fun K hK => ?_)
      · skip
        refine goes_ Tryd.func7 (by kernel_rfl) rfl #[.int .i64 t126, .slice A1 l1.length c1] (by rfl) rfl rfl (by (try simp only [List.map_toArray, List.map_cons, List.map_nil]); first | done | rfl | (simp only [List.length_drop, List.length_take]; rfl)) ?_
        with_reducible refine (plexusref06_Shuffled.calls t126 _ _ l1 t131 _ ?side1 ?side2 A7.out).mono ?_
        case side1 => exact pkC (Kd.C_below HR1.out HB.out)
        case side2 => exact HC1.out
        rintro e w27 ⟨v132, rfl, ho0, hb⟩
        refine ⟨_, rfl, ?_⟩
        replace HO129 := pkRb HO129 hb
        have HO133 := Aside0.mk (Kd.R_lower ho0 (pkZ HB))
        replace BK124 := pkBb BK124 hb
        replace BK130 := pkBb BK130 hb
        replace HB := pkS HB hb
        (try clear hb)
        (try clear hb2)
        (try clear hk)
        (try clear hi)
        (try clear ho0)
        obtain ⟨Ao28, co28, eo28⟩ := Kd.R_slice HO133.out
        (first | subst eo28 | (injection eo28 with f1_ f2_ f3_; have f4_ := f1_.symm; have f5_ := f3_.symm; clear f1_ f2_ f3_; subst f4_; subst f5_))
        refine hK.out _ _ ⟨(blk_cell BK130.out 0).trans rfl, (blk_cell BK130.out 1).trans rfl⟩ (fun hHeld => ?_)
        clear hK K
        refine pkA 23 ?_
        refine two_ (i := 5) (j := 6) (Ni := some 24) (Nj := some 9) #[true, true, true, true, true, true, false, false] #[true, true, true, true, true, false, true, false] rfl rfl rfl rfl (two_of HT_.out (by kernel_rfl)) (by decide) (by decide) (fun K hK => ?_) (fun K hK => ?_)
        · skip
          refine goes_ Tryd.func6 (by kernel_rfl) rfl #[.agg #[.int .i64 t126, .slice Ao24 t127.length co24], .slice Ao28 t131.length co28] (by rfl) rfl rfl (by (try simp only [List.map_toArray, List.map_cons, List.map_nil]); first | done | rfl | (simp only [List.length_drop, List.length_take]; rfl)) ?_
          with_reducible refine (incidence_Image.calls t126 _ _ t127 _ _ t131 t134 t135 _ ?side1 ?side2 ?side3 ?side4 ?side5 A8.out).mono ?_
          case side1 => exact pkC (Kd.R_reads' HO129.out).2.2
          case side2 => exact (Kd.R_reads' HO129.out).2.1
          case side3 => exact pkC (Kd.R_reads' HO133.out).2.2
          case side4 => exact (Kd.R_reads' HO133.out).2.1
          case side5 => exact TabOk.below HT.out (pkW HB.out)
          rintro e w29 ⟨v136, rfl, ho0, hb⟩
          refine ⟨_, rfl, ?_⟩
          replace HO133 := pkRb HO133 hb
          have HO137 := Aside0.mk (Kd.R_lower (Kd.R_new' ho0 (Kd.R_lt (pkR HO129.out))) (pkZ HB))
          replace HO129 := Aside0.mk (Kd.R_elder' (pkR HO129.out) (Kd.R_base ho0) hb)
          replace BK124 := pkBb BK124 hb
          replace BK130 := pkBb BK130 hb
          replace HB := pkS HB hb
          (try clear hb)
          (try clear hb2)
          (try clear hk)
          (try clear hi)
          (try clear ho0)
          refine hK.out _ _ ⟨(blk_cell BK130.out 0).trans rfl, (blk_cell BK130.out 1).trans rfl⟩ (fun hHeld => ?_)
          clear hK K
          refine pkA 24 ?_
          refine one_ (i := 6) (N := some 9) #[true, true, true, true, true, true, true, false] rfl rfl (one_of HT_.out (by kernel_rfl)) (by decide) (fun K hK => ?_)
          refine box_step ?hg (N := 9) ?hd (cs := #[.int .i64 0, .slice none 0 0]) (t := 29) ?hr ?_; (case hd => rfl); (case hg => rfl); (case hr => first | (go_simp; done) | (go_simp; rfl))
          intro gb138 hg w30 hbox hb
          replace HO129 := pkRb HO129 hb
          replace HO133 := pkRb HO133 hb
          replace HO137 := pkRb HO137 hb
          have BK138 := Aside0.mk (hbox)
          have GW138 := pkG hg HB
          have GE138 := pkG hg HB
          replace HB := pkS HB hb
          have NB124_138 := pkN hg BK124
          have NB138_124 := pkM hg BK124
          replace BK124 := pkBb BK124 hb
          have NB130_138 := pkN hg BK130
          have NB138_130 := pkM hg BK130
          replace BK130 := pkBb BK130 hb
          clear hb hbox hg
          refine hK.out _ _ ⟨(blk_cell BK130.out 0).trans rfl, (blk_cell BK130.out 1).trans rfl⟩ (fun hHeld => ?_)
          clear hK K
          refine pkA 9 ?_
          exact norm_ (by simp only [YtheclfjbedajfaaDoorW.PrintLast.putAll, Act.put, List.setIfInBounds_toArray, List.set_cons_zero, List.set_cons_succ]) (hCont (.slice Ao28 t131.length co28, v136, gb138) _ ⟨hHeld, (pkR (Kd.R_mono HO129.out (fun _ hk => hk.2))), (pkR HO133.out), (pkR (Kd.R_mono HO137.out (fun _ hk => hk.2))), (pkB BK124.out), (pkB BK130.out), (pkB BK138.out), GW138.out, GE138.out, NB124_138.out, NB138_124.out, NB130_138.out, NB138_130.out, (pkW HB.out)⟩)
        · skip
          refine box_step ?hg (N := 9) ?hd (cs := #[.int .i64 0, .slice none 0 0]) (t := 29) ?hr ?_; (case hd => rfl); (case hg => rfl); (case hr => first | (go_simp; done) | (go_simp; rfl))
          intro gb138 hg w28 hbox hb
          replace HO129 := pkRb HO129 hb
          replace HO133 := pkRb HO133 hb
          have BK138 := Aside0.mk (hbox)
          have GW138 := pkG hg HB
          have GE138 := pkG hg HB
          replace HB := pkS HB hb
          have NB124_138 := pkN hg BK124
          have NB138_124 := pkM hg BK124
          replace BK124 := pkBb BK124 hb
          have NB130_138 := pkN hg BK130
          have NB138_130 := pkM hg BK130
          replace BK130 := pkBb BK130 hb
          clear hb hbox hg
          obtain ⟨Ao29, co29, eo29⟩ := Kd.R_slice HO133.out
          (first | subst eo29 | (injection eo29 with f1_ f2_ f3_; have f4_ := f1_.symm; have f5_ := f3_.symm; clear f1_ f2_ f3_; subst f4_; subst f5_))
          refine hK.out _ _ ⟨(blk_cell BK130.out 0).trans rfl, (blk_cell BK130.out 1).trans rfl⟩ (fun hHeld => ?_)
          clear hK K
          refine pkA 9 ?_
          refine one_ (i := 5) (N := some 24) #[true, true, true, true, true, true, true, false] rfl rfl (one_of HT_.out (by kernel_rfl)) (by decide) (fun K hK => ?_)
          refine goes_ Tryd.func6 (by kernel_rfl) rfl #[.agg #[.int .i64 t126, .slice Ao24 t127.length co24], .slice Ao29 t131.length co29] (by rfl) rfl rfl (by (try simp only [List.map_toArray, List.map_cons, List.map_nil]); first | done | rfl | (simp only [List.length_drop, List.length_take]; rfl)) ?_
          with_reducible refine (incidence_Image.calls t126 _ _ t127 _ _ t131 t134 t135 _ ?side1 ?side2 ?side3 ?side4 ?side5 A8.out).mono ?_
          case side1 => exact pkC (Kd.R_reads' HO129.out).2.2
          case side2 => exact (Kd.R_reads' HO129.out).2.1
          case side3 => exact pkC (Kd.R_reads' HO133.out).2.2
          case side4 => exact (Kd.R_reads' HO133.out).2.1
          case side5 => exact TabOk.below HT.out (pkW HB.out)
          rintro e w30 ⟨v136, rfl, ho0, hb⟩
          refine ⟨_, rfl, ?_⟩
          replace HO133 := pkRb HO133 hb
          have HO137 := Aside0.mk (Kd.R_lower (Kd.R_new' ho0 (Kd.R_lt (pkR HO129.out))) (pkZ HB))
          replace HO129 := Aside0.mk (Kd.R_elder' (pkR HO129.out) (Kd.R_base ho0) hb)
          replace BK124 := pkBb BK124 hb
          replace BK130 := pkBb BK130 hb
          replace BK138 := pkBb BK138 hb
          replace HB := pkS HB hb
          (try clear hb)
          (try clear hb2)
          (try clear hk)
          (try clear hi)
          (try clear ho0)
          refine hK.out _ _ ⟨(blk_cell BK130.out 0).trans rfl, (blk_cell BK130.out 1).trans rfl⟩ (fun hHeld => ?_)
          clear hK K
          refine pkA 24 ?_
          exact norm_ (by simp only [YtheclfjbedajfaaDoorW.PrintLast.putAll, Act.put, List.setIfInBounds_toArray, List.set_cons_zero, List.set_cons_succ]) (hCont (.slice Ao29 t131.length co29, v136, gb138) _ ⟨hHeld, (pkR (Kd.R_mono HO129.out (fun _ hk => hk.2))), (pkR HO133.out), (pkR (Kd.R_mono HO137.out (fun _ hk => hk.2))), (pkB BK124.out), (pkB BK130.out), (pkB BK138.out), GW138.out, GE138.out, NB124_138.out, NB138_124.out, NB130_138.out, NB138_130.out, (pkW HB.out)⟩)
      · skip
        refine box_step ?hg (N := 9) ?hd (cs := #[.int .i64 0, .slice none 0 0]) (t := 29) ?hr ?_; (case hd => rfl); (case hg => rfl); (case hr => first | (go_simp; done) | (go_simp; rfl))
        intro gb138 hg w27 hbox hb
        replace HO129 := pkRb HO129 hb
        have BK138 := Aside0.mk (hbox)
        have GW138 := pkG hg HB
        have GE138 := pkG hg HB
        replace HB := pkS HB hb
        have NB124_138 := pkN hg BK124
        have NB138_124 := pkM hg BK124
        replace BK124 := pkBb BK124 hb
        have NB130_138 := pkN hg BK130
        have NB138_130 := pkM hg BK130
        replace BK130 := pkBb BK130 hb
        clear hb hbox hg
        refine hK.out _ _ ⟨(blk_cell BK130.out 0).trans rfl, (blk_cell BK130.out 1).trans rfl⟩ (fun hHeld => ?_)
        clear hK K
        refine pkA 9 ?_
        refine one_ (i := 4) (N := some 23) #[true, true, true, true, true, false, true, false] rfl rfl (one_of HT_.out (by kernel_rfl)) (by decide) (fun K hK => ?_)
        refine goes_ Tryd.func7 (by kernel_rfl) rfl #[.int .i64 t126, .slice A1 l1.length c1] (by rfl) rfl rfl (by (try simp only [List.map_toArray, List.map_cons, List.map_nil]); first | done | rfl | (simp only [List.length_drop, List.length_take]; rfl)) ?_
        with_reducible refine (plexusref06_Shuffled.calls t126 _ _ l1 t131 _ ?side1 ?side2 A7.out).mono ?_
        case side1 => exact pkC (Kd.C_below HR1.out HB.out)
        case side2 => exact HC1.out
        rintro e w28 ⟨v132, rfl, ho0, hb⟩
        refine ⟨_, rfl, ?_⟩
        replace HO129 := pkRb HO129 hb
        have HO133 := Aside0.mk (Kd.R_lower ho0 (pkZ HB))
        replace BK124 := pkBb BK124 hb
        replace BK130 := pkBb BK130 hb
        replace BK138 := pkBb BK138 hb
        replace HB := pkS HB hb
        (try clear hb)
        (try clear hb2)
        (try clear hk)
        (try clear hi)
        (try clear ho0)
        obtain ⟨Ao29, co29, eo29⟩ := Kd.R_slice HO133.out
        (first | subst eo29 | (injection eo29 with f1_ f2_ f3_; have f4_ := f1_.symm; have f5_ := f3_.symm; clear f1_ f2_ f3_; subst f4_; subst f5_))
        refine hK.out _ _ ⟨(blk_cell BK130.out 0).trans rfl, (blk_cell BK130.out 1).trans rfl⟩ (fun hHeld => ?_)
        clear hK K
        refine pkA 23 ?_
        refine one_ (i := 5) (N := some 24) #[true, true, true, true, true, true, true, false] rfl rfl (one_of HT_.out (by kernel_rfl)) (by decide) (fun K hK => ?_)
        refine goes_ Tryd.func6 (by kernel_rfl) rfl #[.agg #[.int .i64 t126, .slice Ao24 t127.length co24], .slice Ao29 t131.length co29] (by rfl) rfl rfl (by (try simp only [List.map_toArray, List.map_cons, List.map_nil]); first | done | rfl | (simp only [List.length_drop, List.length_take]; rfl)) ?_
        with_reducible refine (incidence_Image.calls t126 _ _ t127 _ _ t131 t134 t135 _ ?side1 ?side2 ?side3 ?side4 ?side5 A8.out).mono ?_
        case side1 => exact pkC (Kd.R_reads' HO129.out).2.2
        case side2 => exact (Kd.R_reads' HO129.out).2.1
        case side3 => exact pkC (Kd.R_reads' HO133.out).2.2
        case side4 => exact (Kd.R_reads' HO133.out).2.1
        case side5 => exact TabOk.below HT.out (pkW HB.out)
        rintro e w30 ⟨v136, rfl, ho0, hb⟩
        refine ⟨_, rfl, ?_⟩
        replace HO133 := pkRb HO133 hb
        have HO137 := Aside0.mk (Kd.R_lower (Kd.R_new' ho0 (Kd.R_lt (pkR HO129.out))) (pkZ HB))
        replace HO129 := Aside0.mk (Kd.R_elder' (pkR HO129.out) (Kd.R_base ho0) hb)
        replace BK124 := pkBb BK124 hb
        replace BK130 := pkBb BK130 hb
        replace BK138 := pkBb BK138 hb
        replace HB := pkS HB hb
        (try clear hb)
        (try clear hb2)
        (try clear hk)
        (try clear hi)
        (try clear ho0)
        refine hK.out _ _ ⟨(blk_cell BK130.out 0).trans rfl, (blk_cell BK130.out 1).trans rfl⟩ (fun hHeld => ?_)
        clear hK K
        refine pkA 24 ?_
        exact norm_ (by simp only [YtheclfjbedajfaaDoorW.PrintLast.putAll, Act.put, List.setIfInBounds_toArray, List.set_cons_zero, List.set_cons_succ]) (hCont (.slice Ao29 t131.length co29, v136, gb138) _ ⟨hHeld, (pkR (Kd.R_mono HO129.out (fun _ hk => hk.2))), (pkR HO133.out), (pkR (Kd.R_mono HO137.out (fun _ hk => hk.2))), (pkB BK124.out), (pkB BK130.out), (pkB BK138.out), GW138.out, GE138.out, NB124_138.out, NB138_124.out, NB130_138.out, NB138_130.out, (pkW HB.out)⟩)
    clear HO129 BK124 BK130 HB
    rintro ⟨v132, v136, gb138⟩ w31 ⟨hS_, HO129, HO133, HO137, BK124, BK130, BK138, GW138, GE138, NB124_138, NB138_124, NB130_138, NB138_130, HB⟩
    try dsimp only at HO129 HO133 HO137 BK124 BK130 BK138 GW138 GE138 NB124_138 NB138_124 NB130_138 NB138_130 HB
    replace HO129 := Aside0.mk HO129
    replace HO133 := Aside0.mk HO133
    replace HO137 := Aside0.mk HO137
    replace BK124 := Aside0.mk BK124
    replace BK130 := Aside0.mk BK130
    replace BK138 := Aside0.mk BK138
    replace GW138 := Aside0.mk GW138
    replace GE138 := Aside0.mk GE138
    replace NB124_138 := Aside0.mk NB124_138
    replace NB138_124 := Aside0.mk NB138_124
    replace NB130_138 := Aside0.mk NB130_138
    replace NB138_130 := Aside0.mk NB138_130
    replace HB := Aside0.mk HB
    have hHeld : w31.cell? ⟨gb130, 0, none⟩ = some (.int .i64 t126) ∧ w31.cell? ⟨gb130, 1, none⟩ = some (.slice Ao24 t127.length co24) := hS_
    obtain ⟨Ao33, co33, eo33⟩ := Kd.R_slice HO137.out
    (first | subst eo33 | (injection eo33 with f1_ f2_ f3_; have f4_ := f1_.symm; have f5_ := f3_.symm; clear f1_ f2_ f3_; subst f4_; subst f5_))
    refine norm_ (a' := ?_) ?_ ?_
    rotate_left
    · simp only [YtheclfjbedajfaaDoorW.PrintLast.putAll, Act.put, List.setIfInBounds_toArray, List.set_cons_zero, List.set_cons_succ]
      rfl
    refine one_ (i := 7) (N := none) #[true, true, true, true, true, true, true, true] rfl rfl (one_of HT_.out (by kernel_rfl)) (by decide) (fun K hK => ?_)
    have hs32 : w31.cell? ⟨gb138, 0, none⟩ = some (.int .i64 0) := (blk_cell BK138.out 0).trans rfl
    have hfs32 := blk_frozen BK138.out 0
    have hns32_0 := NB124_138.out
    have hns32_1 := NB130_138.out
    have hms32_0 := NB138_124.out
    have hms32_1 := NB138_130.out
    have hs34 : w31.cell? ⟨gb138, 1, none⟩ = some (.slice none 0 0) := (blk_cell BK138.out 1).trans rfl
    have hfs34 := blk_frozen BK138.out 1
    have hns34_0 := NB124_138.out
    have hns34_1 := NB130_138.out
    have hms34_0 := NB138_124.out
    have hms34_1 := NB138_130.out
    refine skip_ (w1 := ?_) (by rfl) rfl ?_ ?_
    rotate_left
    · go_simp
      rfl
    refine hK.out _ _ ⟨((cell_far (p := ⟨gb138, _, none⟩) NB130_138.out _).trans (((cell_far (p := ⟨gb138, _, none⟩) NB130_138.out _).trans (hHeld.1)))), ((cell_far (p := ⟨gb138, _, none⟩) NB130_138.out _).trans (((cell_far (p := ⟨gb138, _, none⟩) NB130_138.out _).trans (hHeld.2))))⟩ (fun hHeld => ?_)
    clear hK K
    refine done_ (done_of HT_.out (by kernel_rfl)) ?_
    try go_wp2
    obtain ⟨w35, hW_⟩ : ∃ x_, x_ = ((w31.setCell ⟨gb138, 0, none⟩ (.int .i64 t134)).setCell ⟨gb138, 1, none⟩ (.slice Ao33 t135.length co33)) := ⟨_, rfl⟩
    have n0_ : Aside0 (Kd.R (Kd.int .u64) 25 w35 w.heap.size (fun k_ => some k_ ≠ (.slice Ao33 t135.length co33 : Value).ownBlock) (.slice Ao24 t127.length co24) t127) := ⟨by subst hW_; (with_reducible repeat (first | apply Kd.R_alloc | apply Kd.R_drewN | apply Kd.R_drew)); exact Kd.R_mono (Kd.R_far (p := ⟨gb138, 1, none⟩) (Kd.R_far (p := ⟨gb138, 0, none⟩) (Kd.R_types HO129.out BK138.out (by decide)) (fun _ hk => hk.2) (.int .i64 t134)) (fun _ hk => hk.2) (.slice Ao33 t135.length co33)) (fun _ hk => by first | exact hk.1 | trivial)⟩
    have n1_ : Aside0 (Kd.R (Kd.int .i64) 3 w35 w.heap.size (fun _ => True) v132 t131) := ⟨by subst hW_; (with_reducible repeat (first | apply Kd.R_alloc | apply Kd.R_drewN | apply Kd.R_drew)); exact Kd.R_mono (Kd.R_far (p := ⟨gb138, 1, none⟩) (Kd.R_far (p := ⟨gb138, 0, none⟩) (Kd.R_types HO133.out BK138.out (by decide)) (fun _ hk => hk.2) (.int .i64 t134)) (fun _ hk => hk.2) (.slice Ao33 t135.length co33)) (fun _ hk => trivial)⟩
    have n2_ : Aside0 (Kd.R (Kd.int .u64) 25 w35 w.heap.size (fun k_ => some k_ ≠ (.slice Ao24 t127.length co24 : Value).ownBlock) (.slice Ao33 t135.length co33) t135) := ⟨by subst hW_; (with_reducible repeat (first | apply Kd.R_alloc | apply Kd.R_drewN | apply Kd.R_drew)); exact Kd.R_mono (Kd.R_far (p := ⟨gb138, 1, none⟩) (Kd.R_far (p := ⟨gb138, 0, none⟩) (Kd.R_types HO137.out BK138.out (by decide)) (fun _ hk => hk.2) (.int .i64 t134)) (fun _ hk => hk.2) (.slice Ao33 t135.length co33)) (fun _ hk => by first | exact hk.1 | trivial)⟩
    have n3_ : Aside0 (w35.heap[gb124]? = some (.cells #[.slice A0_0 l0_0.length c0_0] 24 (0, 0))) := ⟨by subst hW_; (with_reducible repeat (first | refine blk_drewN ?_ _ | refine blk_drew ?_ | refine blk_alloc ?_ _)); refine blk_far ?_ NB124_138.out _; (with_reducible repeat (first | refine blk_drewN ?_ _ | refine blk_drew ?_ | refine blk_alloc ?_ _)); refine blk_far ?_ NB124_138.out _; (with_reducible repeat (first | refine blk_drewN ?_ _ | refine blk_drew ?_ | refine blk_alloc ?_ _)); exact BK124.out⟩
    have n4_ : Aside0 (w35.heap[gb130]? = some (.cells #[.int .i64 t126, .slice Ao24 t127.length co24] 29 (0, 0))) := ⟨by subst hW_; (with_reducible repeat (first | refine blk_drewN ?_ _ | refine blk_drew ?_ | refine blk_alloc ?_ _)); refine blk_far ?_ NB130_138.out _; (with_reducible repeat (first | refine blk_drewN ?_ _ | refine blk_drew ?_ | refine blk_alloc ?_ _)); refine blk_far ?_ NB130_138.out _; (with_reducible repeat (first | refine blk_drewN ?_ _ | refine blk_drew ?_ | refine blk_alloc ?_ _)); exact BK130.out⟩
    have n5_ : Aside0 (w35.heap[gb138]? = some (.cells #[.int .i64 t134, .slice Ao33 t135.length co33] 29 (0, 0))) := ⟨by subst hW_; (with_reducible repeat (first | refine blk_drewN ?_ _ | refine blk_drew ?_ | refine blk_alloc ?_ _)); refine blk_put (cs := #[.int .i64 t134, .slice none 0 0]) ?_ 1 _ rfl; (with_reducible repeat (first | refine blk_drewN ?_ _ | refine blk_drew ?_ | refine blk_alloc ?_ _)); refine blk_put (cs := #[.int .i64 0, .slice none 0 0]) ?_ 0 _ rfl; (with_reducible repeat (first | refine blk_drewN ?_ _ | refine blk_drew ?_ | refine blk_alloc ?_ _)); exact BK138.out⟩
    have n6_ : Aside0 (Below w.heap.size w w35) := ⟨by subst hW_; exact pkW HB.out⟩
    rw [← hW_]
    clear hW_ HO129 HO133 HO137 BK124 BK130 BK138 HB
    have HO129 := n0_
    have HO133 := n1_
    have HO137 := n2_
    have BK124 := n3_
    have BK130 := n4_
    have BK138 := n5_
    have HB := n6_
    clear n0_ n1_ n2_ n3_ n4_ n5_ n6_
    replace HO129 := Aside0.mk (Kd.R_drew HO129.out)
    replace HO133 := Aside0.mk (Kd.R_drew HO133.out)
    replace HO137 := Aside0.mk (Kd.R_drew HO137.out)
    replace BK124 := Aside0.mk (blk_drew BK124.out)
    replace BK130 := Aside0.mk (blk_drew BK130.out)
    replace BK138 := Aside0.mk (blk_drew BK138.out)
    replace HB := Aside0.mk (below_drew1 HB.out)
    refine start_ (n := 15) (S := fun w' => w'.cell? ⟨gb138, 0, none⟩ = some (.int .i64 t134) ∧ w'.cell? ⟨gb138, 1, none⟩ = some (.slice Ao33 t135.length co33)) (ds := []) #[false, false, false, false, false, false, false, false, false, false, false, false, false, false, false] (by kernel_rfl) rfl rfl ⟨(blk_cell BK138.out 0).trans rfl, (blk_cell BK138.out 1).trans rfl⟩ (fun hHeld => ?_); refine with_tabW plexuslaw42_EmbedImages.tab6 plexuslaw42_EmbedImages.bits6 (fun HT_ HW_ => ?_)
    generalize w35.drew = w36 at HO129 HO133 HO137 BK124 BK130 BK138 HB hHeld ⊢
    refine pkP 0 25 #[true, false, false, false, false, false, false, false, false, false, false, false, false, false, false] HT_ ?_
    refine pkP 2 27 #[true, false, true, false, false, false, false, false, false, false, false, false, false, false, false] HT_ ?_
    refine pkP 4 29 #[true, false, true, false, true, false, false, false, false, false, false, false, false, false, false] HT_ ?_
    refine pkP 5 30 #[true, false, true, false, true, true, false, false, false, false, false, false, false, false, false] HT_ ?_
    refine take_ (i := 1) (N := some 26) (v := ?_) (a' := ?_) #[true, true, true, false, true, true, false, false, false, false, false, false, false, false, false] rfl rfl (take_ofW HT_.out HW_.out (by kernel_rfl)) (fun _ _ _ h => h) (Or.inl ⟨by rfl, ?_⟩) hHeld ?_ ?_
    rotate_left
    · rintro w' ⟨s0, s1⟩
      go_simp
      with_reducible rfl
    rotate_left
    · simp only [Act.put, List.setIfInBounds_toArray, List.set_cons_zero, List.set_cons_succ, i64_w, i32_w]
      rfl
    refine take_ (i := 3) (N := some 28) (v := ?_) (a' := ?_) #[true, true, true, true, true, true, false, false, false, false, false, false, false, false, false] rfl rfl (take_ofW HT_.out HW_.out (by kernel_rfl)) (fun _ _ _ h => h) (Or.inl ⟨by rfl, ?_⟩) hHeld ?_ ?_
    rotate_left
    · rintro w' ⟨s0, s1⟩
      go_simp
      with_reducible rfl
    rotate_left
    · simp only [Act.put, List.setIfInBounds_toArray, List.set_cons_zero, List.set_cons_succ, i64_w, i32_w]
      rfl
    refine take_ (i := 6) (N := some 31) (v := ?_) (a' := ?_) #[true, true, true, true, true, true, true, false, false, false, false, false, false, false, false] rfl rfl (take_ofW HT_.out HW_.out (by kernel_rfl)) (fun _ _ _ h => h) (Or.inl ⟨by rfl, ?_⟩) hHeld ?_ ?_
    rotate_left
    · rintro w' ⟨s0, s1⟩
      go_simp
      with_reducible rfl
    rotate_left
    · simp only [Act.put, List.setIfInBounds_toArray, List.set_cons_zero, List.set_cons_succ, i64_w, i32_w]
      rfl
    refine pkP 7 32 #[true, true, true, true, true, true, true, true, false, false, false, false, false, false, false] HT_ ?_
    refine pkP 8 33 #[true, true, true, true, true, true, true, true, true, false, false, false, false, false, false] HT_ ?_
    refine pkP 9 34 #[true, true, true, true, true, true, true, true, true, true, false, false, false, false, false] HT_ ?_
    refine pkP 10 35 #[true, true, true, true, true, true, true, true, true, true, true, false, false, false, false] HT_ ?_
    refine join_ (σ := Value × Nat) 1 #[true, true, true, true, true, true, true, true, true, true, true, true, true, true, false] (fun s_ => [(36, s_.1), (10, .pointer (some ⟨s_.2, 0, none⟩)), (37, .agg #[.int .i64 t134, s_.1])]) (fun s_ w' => (w'.cell? ⟨gb138, 0, none⟩ = some (.int .i64 t134) ∧ w'.cell? ⟨gb138, 1, none⟩ = some (.slice Ao33 t135.length co33)) ∧ (Kd.R (Kd.int .u64) 25 w' w.heap.size (fun k_ => some k_ ≠ (.slice Ao33 t135.length co33 : Value).ownBlock ∧ some k_ ≠ (s_.1 : Value).ownBlock) (.slice Ao24 t127.length co24) t127) ∧ (Kd.R (Kd.int .i64) 3 w' w.heap.size (fun _ => True) v132 t131) ∧ (Kd.R (Kd.int .u64) 25 w' w.heap.size (fun k_ => some k_ ≠ (.slice Ao24 t127.length co24 : Value).ownBlock ∧ some k_ ≠ (s_.1 : Value).ownBlock) (.slice Ao33 t135.length co33) t135) ∧ (Kd.R (Kd.int .u64) 25 w' w.heap.size (fun k_ => some k_ ≠ (.slice Ao24 t127.length co24 : Value).ownBlock ∧ some k_ ≠ (.slice Ao33 t135.length co33 : Value).ownBlock) s_.1 t139) ∧ (w'.heap[gb124]? = some (.cells #[.slice A0_0 l0_0.length c0_0] 24 (0, 0))) ∧ (w'.heap[gb130]? = some (.cells #[.int .i64 t126, .slice Ao24 t127.length co24] 29 (0, 0))) ∧ (w'.heap[gb138]? = some (.cells #[.int .i64 t134, .slice Ao33 t135.length co33] 29 (0, 0))) ∧ (w'.heap[s_.2]? = some (.cells #[.int .i64 0, .slice none 0 0] 29 (0, 0))) ∧ (w.heap.size ≤ s_.2) ∧ (w.heap.size ≤ s_.2) ∧ (gb124 ≠ s_.2) ∧ (s_.2 ≠ gb124) ∧ (gb130 ≠ s_.2) ∧ (s_.2 ≠ gb130) ∧ (gb138 ≠ s_.2) ∧ (s_.2 ≠ gb138) ∧ (Below w.heap.size w w')) ?_ ?_
    rotate_left
    · intro hCont
      refine two_ (i := 11) (j := 13) (Ni := some 36) (Nj := some 10) #[true, true, true, true, true, true, true, true, true, true, true, true, false, false, false] #[true, true, true, true, true, true, true, true, true, true, true, false, false, true, false] rfl rfl rfl rfl (two_of HT_.out (by kernel_rfl)) (by decide) (by decide) (fun K hK => ?_) (fun K hK => ?_)
      · skip
        refine goes_ Tryd.func8 (by kernel_rfl) rfl #[.slice Ao33 t135.length co33, .int .u64 (Go.bits .and .u64 a2 (IntKind.u64.wrap ((ji11) - 1)))] (by rfl) rfl rfl (by (try simp only [List.map_toArray, List.map_cons, List.map_nil]); first | done | (simp only [hji11]; rfl) | rfl | (simp only [List.length_drop, List.length_take]; rfl)) ?_
        with_reducible refine (plexusref06_With.calls _ _ t135 (Go.bits .and .u64 a2 (IntKind.u64.wrap ((ji11) - 1))) t139 _ ?side1 ?side2 A12.out).mono ?_
        case side1 => exact pkC (Kd.R_reads' HO137.out).2.2
        case side2 => exact (Kd.R_reads' HO137.out).2.1
        rintro e w37 ⟨v140, rfl, ho0, hb⟩
        refine ⟨_, rfl, ?_⟩
        replace HO133 := pkRb HO133 hb
        have HO141 := Aside0.mk (Kd.R_lower (Kd.R_new' (Kd.R_new' ho0 (Kd.R_lt (pkR HO129.out))) (Kd.R_lt (pkR HO137.out))) (pkZ HB))
        replace HO129 := Aside0.mk (Kd.R_elder' (pkR HO129.out) (Kd.R_base ho0) hb)
        replace HO137 := Aside0.mk (Kd.R_elder' (pkR HO137.out) (Kd.R_base ho0) hb)
        replace BK124 := pkBb BK124 hb
        replace BK130 := pkBb BK130 hb
        replace BK138 := pkBb BK138 hb
        replace HB := pkS HB hb
        (try clear hb)
        (try clear hb2)
        (try clear hk)
        (try clear hi)
        (try clear ho0)
        obtain ⟨Ao38, co38, eo38⟩ := Kd.R_slice HO141.out
        (first | subst eo38 | (injection eo38 with f1_ f2_ f3_; have f4_ := f1_.symm; have f5_ := f3_.symm; clear f1_ f2_ f3_; subst f4_; subst f5_))
        refine hK.out _ _ ⟨(blk_cell BK138.out 0).trans rfl, (blk_cell BK138.out 1).trans rfl⟩ (fun hHeld => ?_)
        clear hK K
        refine pkA 36 ?_
        refine pkP 12 37 #[true, true, true, true, true, true, true, true, true, true, true, true, true, false, false] HT_ ?_
        refine one_ (i := 13) (N := some 10) #[true, true, true, true, true, true, true, true, true, true, true, true, true, true, false] rfl rfl (one_of HT_.out (by kernel_rfl)) (by decide) (fun K hK => ?_)
        refine box_step ?hg (N := 10) ?hd (cs := #[.int .i64 0, .slice none 0 0]) (t := 29) ?hr ?_; (case hd => rfl); (case hg => rfl); (case hr => first | (go_simp; done) | (go_simp; rfl))
        intro gb142 hg w39 hbox hb
        replace HO129 := pkRb HO129 hb
        replace HO133 := pkRb HO133 hb
        replace HO137 := pkRb HO137 hb
        replace HO141 := pkRb HO141 hb
        have BK142 := Aside0.mk (hbox)
        have GW142 := pkG hg HB
        have GE142 := pkG hg HB
        replace HB := pkS HB hb
        have NB124_142 := pkN hg BK124
        have NB142_124 := pkM hg BK124
        replace BK124 := pkBb BK124 hb
        have NB130_142 := pkN hg BK130
        have NB142_130 := pkM hg BK130
        replace BK130 := pkBb BK130 hb
        have NB138_142 := pkN hg BK138
        have NB142_138 := pkM hg BK138
        replace BK138 := pkBb BK138 hb
        clear hb hbox hg
        refine hK.out _ _ ⟨(blk_cell BK138.out 0).trans rfl, (blk_cell BK138.out 1).trans rfl⟩ (fun hHeld => ?_)
        clear hK K
        refine pkA 10 ?_
        exact norm_ (by simp only [YtheclfjbedajfaaDoorW.PrintLast.putAll, Act.put, List.setIfInBounds_toArray, List.set_cons_zero, List.set_cons_succ]) (hCont (.slice Ao38 t139.length co38, gb142) _ ⟨hHeld, (pkR HO129.out), (pkR HO133.out), (pkR HO137.out), (by (with_reducible repeat (first | apply Kd.R_alloc | apply Kd.R_drewN | apply Kd.R_drew)); exact Kd.R_mono HO141.out (fun _ hk => ⟨hk.1.2, hk.2⟩)), (pkB BK124.out), (pkB BK130.out), (pkB BK138.out), (pkB BK142.out), GW142.out, GE142.out, NB124_142.out, NB142_124.out, NB130_142.out, NB142_130.out, NB138_142.out, NB142_138.out, (pkW HB.out)⟩)
      · skip
        refine box_step ?hg (N := 10) ?hd (cs := #[.int .i64 0, .slice none 0 0]) (t := 29) ?hr ?_; (case hd => rfl); (case hg => rfl); (case hr => first | (go_simp; done) | (go_simp; rfl))
        intro gb142 hg w37 hbox hb
        replace HO129 := pkRb HO129 hb
        replace HO133 := pkRb HO133 hb
        replace HO137 := pkRb HO137 hb
        have BK142 := Aside0.mk (hbox)
        have GW142 := pkG hg HB
        have GE142 := pkG hg HB
        replace HB := pkS HB hb
        have NB124_142 := pkN hg BK124
        have NB142_124 := pkM hg BK124
        replace BK124 := pkBb BK124 hb
        have NB130_142 := pkN hg BK130
        have NB142_130 := pkM hg BK130
        replace BK130 := pkBb BK130 hb
        have NB138_142 := pkN hg BK138
        have NB142_138 := pkM hg BK138
        replace BK138 := pkBb BK138 hb
        clear hb hbox hg
        refine hK.out _ _ ⟨(blk_cell BK138.out 0).trans rfl, (blk_cell BK138.out 1).trans rfl⟩ (fun hHeld => ?_)
        clear hK K
        refine pkA 10 ?_
        refine one_ (i := 11) (N := some 36) #[true, true, true, true, true, true, true, true, true, true, true, true, false, true, false] rfl rfl (one_of HT_.out (by kernel_rfl)) (by decide) (fun K hK => ?_)
        refine goes_ Tryd.func8 (by kernel_rfl) rfl #[.slice Ao33 t135.length co33, .int .u64 (Go.bits .and .u64 a2 (IntKind.u64.wrap ((ji11) - 1)))] (by rfl) rfl rfl (by (try simp only [List.map_toArray, List.map_cons, List.map_nil]); first | done | (simp only [hji11]; rfl) | rfl | (simp only [List.length_drop, List.length_take]; rfl)) ?_
        with_reducible refine (plexusref06_With.calls _ _ t135 (Go.bits .and .u64 a2 (IntKind.u64.wrap ((ji11) - 1))) t139 _ ?side1 ?side2 A12.out).mono ?_
        case side1 => exact pkC (Kd.R_reads' HO137.out).2.2
        case side2 => exact (Kd.R_reads' HO137.out).2.1
        rintro e w38 ⟨v140, rfl, ho0, hb⟩
        refine ⟨_, rfl, ?_⟩
        replace HO133 := pkRb HO133 hb
        have HO141 := Aside0.mk (Kd.R_lower (Kd.R_new' (Kd.R_new' ho0 (Kd.R_lt (pkR HO129.out))) (Kd.R_lt (pkR HO137.out))) (pkZ HB))
        replace HO129 := Aside0.mk (Kd.R_elder' (pkR HO129.out) (Kd.R_base ho0) hb)
        replace HO137 := Aside0.mk (Kd.R_elder' (pkR HO137.out) (Kd.R_base ho0) hb)
        replace BK124 := pkBb BK124 hb
        replace BK130 := pkBb BK130 hb
        replace BK138 := pkBb BK138 hb
        replace BK142 := pkBb BK142 hb
        replace HB := pkS HB hb
        (try clear hb)
        (try clear hb2)
        (try clear hk)
        (try clear hi)
        (try clear ho0)
        obtain ⟨Ao39, co39, eo39⟩ := Kd.R_slice HO141.out
        (first | subst eo39 | (injection eo39 with f1_ f2_ f3_; have f4_ := f1_.symm; have f5_ := f3_.symm; clear f1_ f2_ f3_; subst f4_; subst f5_))
        refine hK.out _ _ ⟨(blk_cell BK138.out 0).trans rfl, (blk_cell BK138.out 1).trans rfl⟩ (fun hHeld => ?_)
        clear hK K
        refine pkA 36 ?_
        refine pkP 12 37 #[true, true, true, true, true, true, true, true, true, true, true, true, true, true, false] HT_ ?_
        exact norm_ (by simp only [YtheclfjbedajfaaDoorW.PrintLast.putAll, Act.put, List.setIfInBounds_toArray, List.set_cons_zero, List.set_cons_succ]) (hCont (.slice Ao39 t139.length co39, gb142) _ ⟨hHeld, (pkR HO129.out), (pkR HO133.out), (pkR HO137.out), (by (with_reducible repeat (first | apply Kd.R_alloc | apply Kd.R_drewN | apply Kd.R_drew)); exact Kd.R_mono HO141.out (fun _ hk => ⟨hk.1.2, hk.2⟩)), (pkB BK124.out), (pkB BK130.out), (pkB BK138.out), (pkB BK142.out), GW142.out, GE142.out, NB124_142.out, NB142_124.out, NB130_142.out, NB142_130.out, NB138_142.out, NB142_138.out, (pkW HB.out)⟩)
    clear HO129 HO133 HO137 BK124 BK130 BK138 HB
    rintro ⟨v140, gb142⟩ w40 ⟨hS_, HO129, HO133, HO137, HO141, BK124, BK130, BK138, BK142, GW142, GE142, NB124_142, NB142_124, NB130_142, NB142_130, NB138_142, NB142_138, HB⟩
    try dsimp only at HO129 HO133 HO137 HO141 BK124 BK130 BK138 BK142 GW142 GE142 NB124_142 NB142_124 NB130_142 NB142_130 NB138_142 NB142_138 HB
    replace HO129 := Aside0.mk HO129
    replace HO133 := Aside0.mk HO133
    replace HO137 := Aside0.mk HO137
    replace HO141 := Aside0.mk HO141
    replace BK124 := Aside0.mk BK124
    replace BK130 := Aside0.mk BK130
    replace BK138 := Aside0.mk BK138
    replace BK142 := Aside0.mk BK142
    replace GW142 := Aside0.mk GW142
    replace GE142 := Aside0.mk GE142
    replace NB124_142 := Aside0.mk NB124_142
    replace NB142_124 := Aside0.mk NB142_124
    replace NB130_142 := Aside0.mk NB130_142
    replace NB142_130 := Aside0.mk NB142_130
    replace NB138_142 := Aside0.mk NB138_142
    replace NB142_138 := Aside0.mk NB142_138
    replace HB := Aside0.mk HB
    have hHeld : w40.cell? ⟨gb138, 0, none⟩ = some (.int .i64 t134) ∧ w40.cell? ⟨gb138, 1, none⟩ = some (.slice Ao33 t135.length co33) := hS_
    obtain ⟨Ao41, co41, eo41⟩ := Kd.R_slice HO141.out
    (first | subst eo41 | (injection eo41 with f1_ f2_ f3_; have f4_ := f1_.symm; have f5_ := f3_.symm; clear f1_ f2_ f3_; subst f4_; subst f5_))
    refine norm_ (a' := ?_) ?_ ?_
    rotate_left
    · simp only [YtheclfjbedajfaaDoorW.PrintLast.putAll, Act.put, List.setIfInBounds_toArray, List.set_cons_zero, List.set_cons_succ]
      rfl
    refine one_ (i := 14) (N := none) #[true, true, true, true, true, true, true, true, true, true, true, true, true, true, true] rfl rfl (one_of HT_.out (by kernel_rfl)) (by decide) (fun K hK => ?_)
    have hs42 : w40.cell? ⟨gb142, 0, none⟩ = some (.int .i64 0) := (blk_cell BK142.out 0).trans rfl
    have hfs42 := blk_frozen BK142.out 0
    have hns42_0 := NB124_142.out
    have hns42_1 := NB130_142.out
    have hns42_2 := NB138_142.out
    have hms42_0 := NB142_124.out
    have hms42_1 := NB142_130.out
    have hms42_2 := NB142_138.out
    have hs43 : w40.cell? ⟨gb142, 1, none⟩ = some (.slice none 0 0) := (blk_cell BK142.out 1).trans rfl
    have hfs43 := blk_frozen BK142.out 1
    have hns43_0 := NB124_142.out
    have hns43_1 := NB130_142.out
    have hns43_2 := NB138_142.out
    have hms43_0 := NB142_124.out
    have hms43_1 := NB142_130.out
    have hms43_2 := NB142_138.out
    refine skip_ (w1 := ?_) (by rfl) rfl ?_ ?_
    rotate_left
    · go_simp
      rfl
    refine hK.out _ _ ⟨((cell_far (p := ⟨gb142, _, none⟩) NB138_142.out _).trans (((cell_far (p := ⟨gb142, _, none⟩) NB138_142.out _).trans (hHeld.1)))), ((cell_far (p := ⟨gb142, _, none⟩) NB138_142.out _).trans (((cell_far (p := ⟨gb142, _, none⟩) NB138_142.out _).trans (hHeld.2))))⟩ (fun hHeld => ?_)
    clear hK K
    refine done_ (done_of HT_.out (by kernel_rfl)) ?_
    have hnb44 := NB130_138.out
    have hnc44 := NB138_130.out
    have hnb45 := NB130_142.out
    have hnc45 := NB142_130.out
    have hcz46_0 : w40.cell? ⟨gb130, 0, none⟩ = some (.int .i64 t126) := (blk_cell BK130.out 0).trans rfl
    have hcz46_1 : w40.cell? ⟨gb130, 1, none⟩ = some (.slice Ao24 t127.length co24) := (blk_cell BK130.out 1).trans rfl
    have hfz46_0 := blk_frozen BK130.out 0
    have hfz46_1 := blk_frozen BK130.out 1
    try go_wp2_with (first | ((with_reducible refine gate_callee (f := 9) rfl ?_); refine goesL_ (some 39) rfl rfl Tryd.func9 (by kernel_rfl) rfl #[.agg #[.int .i64 t126, .slice Ao24 t127.length co24], .int .u16 65535] rfl (by (try simp only [List.map_toArray, List.map_cons, List.map_nil]); first | done | rfl | (simp only [List.length_drop, List.length_take]; rfl)) ?_; (with_reducible refine (plexusref42_Done.calls k t126 _ _ t127 65535 t143 _ ?side1 ?side2 A13.out).mono ?_); (case side1 => refine (Kd.R_reads' (e := 25) (base := w.heap.size) (ok := fun k_ => (some k_ ≠ (.slice Ao33 t135.length co33 : Value).ownBlock ∧ some k_ ≠ (.slice Ao41 t139.length co41 : Value).ownBlock)) (n := t127.length) (c := co24) ?_).2.2; exact (by (with_reducible repeat (first | apply Kd.R_alloc | apply Kd.R_drewN | apply Kd.R_drew)); exact (Kd.R_mono (Kd.R_far (p := ⟨gb142, 1, none⟩) (Kd.R_far (p := ⟨gb142, 0, none⟩) (Kd.R_types HO129.out BK142.out (by decide)) (fun _ hk => hk.2) (.int .i64 t134)) (fun _ hk => hk.2) (.slice Ao41 t139.length co41)) (fun _ h_ => h_.1)))); (case side2 => exact (Kd.R_reads' HO129.out).2.1); rintro e w47 ⟨v144, rfl, ho0, hb⟩; refine ⟨_, rfl, ?_⟩; have n0_ := Aside0.mk (Kd.R_below (by (with_reducible repeat (first | apply Kd.R_alloc | apply Kd.R_drewN | apply Kd.R_drew)); exact (Kd.R_mono (Kd.R_far (p := ⟨gb142, 1, none⟩) (Kd.R_far (p := ⟨gb142, 0, none⟩) (Kd.R_types HO129.out BK142.out (by decide)) (fun _ hk => hk.2) (.int .i64 t134)) (fun _ hk => hk.2) (.slice Ao41 t139.length co41)) (fun _ h_ => h_.1))) hb); have n1_ := Aside0.mk (Kd.R_elder' (by (with_reducible repeat (first | apply Kd.R_alloc | apply Kd.R_drewN | apply Kd.R_drew)); exact (Kd.R_mono (Kd.R_far (p := ⟨gb142, 1, none⟩) (Kd.R_far (p := ⟨gb142, 0, none⟩) (Kd.R_types HO133.out BK142.out (by decide)) (fun _ hk => hk.2) (.int .i64 t134)) (fun _ hk => hk.2) (.slice Ao41 t139.length co41)) (fun _ h_ => h_.1))) (Kd.R_base ho0) hb); have n2_ := Aside0.mk (Kd.R_below (by (with_reducible repeat (first | apply Kd.R_alloc | apply Kd.R_drewN | apply Kd.R_drew)); exact (Kd.R_mono (Kd.R_far (p := ⟨gb142, 1, none⟩) (Kd.R_far (p := ⟨gb142, 0, none⟩) (Kd.R_types HO137.out BK142.out (by decide)) (fun _ hk => hk.2) (.int .i64 t134)) (fun _ hk => hk.2) (.slice Ao41 t139.length co41)) (fun _ h_ => h_.1))) hb); have n3_ := Aside0.mk (Kd.R_below (by (with_reducible repeat (first | apply Kd.R_alloc | apply Kd.R_drewN | apply Kd.R_drew)); exact (Kd.R_mono (Kd.R_far (p := ⟨gb142, 1, none⟩) (Kd.R_far (p := ⟨gb142, 0, none⟩) (Kd.R_types HO141.out BK142.out (by decide)) (fun _ hk => hk.2) (.int .i64 t134)) (fun _ hk => hk.2) (.slice Ao41 t139.length co41)) (fun _ h_ => h_.1))) hb); have n4_ := Aside0.mk (Kd.R_lower (Kd.R_new' ho0 (Kd.R_lt (by (with_reducible repeat (first | apply Kd.R_alloc | apply Kd.R_drewN | apply Kd.R_drew)); exact (Kd.R_mono (Kd.R_far (p := ⟨gb142, 1, none⟩) (Kd.R_far (p := ⟨gb142, 0, none⟩) (Kd.R_types HO133.out BK142.out (by decide)) (fun _ hk => hk.2) (.int .i64 t134)) (fun _ hk => hk.2) (.slice Ao41 t139.length co41)) (fun _ h_ => h_.1))))) (pkZ HB)); have n5_ := Aside0.mk (blk_below (g := gb124) (o := .cells #[.slice A0_0 l0_0.length c0_0] 24 (0, 0)) (by (with_reducible repeat (first | refine blk_drewN ?_ _ | refine blk_drew ?_ | refine blk_alloc ?_ _)); refine blk_far ?_ NB124_142.out _; (with_reducible repeat (first | refine blk_drewN ?_ _ | refine blk_drew ?_ | refine blk_alloc ?_ _)); refine blk_far ?_ NB124_142.out _; (with_reducible repeat (first | refine blk_drewN ?_ _ | refine blk_drew ?_ | refine blk_alloc ?_ _)); exact BK124.out) hb); have n6_ := Aside0.mk (blk_below (g := gb130) (o := .cells #[.int .i64 t126, .slice Ao24 t127.length co24] 29 (0, 0)) (by (with_reducible repeat (first | refine blk_drewN ?_ _ | refine blk_drew ?_ | refine blk_alloc ?_ _)); refine blk_far ?_ NB130_142.out _; (with_reducible repeat (first | refine blk_drewN ?_ _ | refine blk_drew ?_ | refine blk_alloc ?_ _)); refine blk_far ?_ NB130_142.out _; (with_reducible repeat (first | refine blk_drewN ?_ _ | refine blk_drew ?_ | refine blk_alloc ?_ _)); exact BK130.out) hb); have n7_ := Aside0.mk (blk_below (g := gb138) (o := .cells #[.int .i64 t134, .slice Ao33 t135.length co33] 29 (0, 0)) (by (with_reducible repeat (first | refine blk_drewN ?_ _ | refine blk_drew ?_ | refine blk_alloc ?_ _)); refine blk_far ?_ NB138_142.out _; (with_reducible repeat (first | refine blk_drewN ?_ _ | refine blk_drew ?_ | refine blk_alloc ?_ _)); refine blk_far ?_ NB138_142.out _; (with_reducible repeat (first | refine blk_drewN ?_ _ | refine blk_drew ?_ | refine blk_alloc ?_ _)); exact BK138.out) hb); have n8_ := Aside0.mk (blk_below (g := gb142) (o := .cells #[.int .i64 t134, .slice Ao41 t139.length co41] 29 (0, 0)) (by (with_reducible repeat (first | refine blk_drewN ?_ _ | refine blk_drew ?_ | refine blk_alloc ?_ _)); refine blk_put (cs := #[.int .i64 t134, .slice none 0 0]) ?_ 1 _ rfl; (with_reducible repeat (first | refine blk_drewN ?_ _ | refine blk_drew ?_ | refine blk_alloc ?_ _)); refine blk_put (cs := #[.int .i64 0, .slice none 0 0]) ?_ 0 _ rfl; (with_reducible repeat (first | refine blk_drewN ?_ _ | refine blk_drew ?_ | refine blk_alloc ?_ _)); exact BK142.out) hb); have n9_ := pkS HB hb; clear HO129; clear HO133; clear HO137; clear HO141; clear BK124; clear BK130; clear BK138; clear BK142; clear HB; have HO129 := n0_; have HO133 := n1_; have HO137 := n2_; have HO141 := n3_; have HO145 := n4_; have BK124 := n5_; have BK130 := n6_; have BK138 := n7_; have BK142 := n8_; have HB := n9_; clear n0_ n1_ n2_ n3_ n4_ n5_ n6_ n7_ n8_ n9_; (try clear hb); (try clear hb2); (try clear hk); (try clear hi); (try clear ho0); obtain ⟨Ao48, co48, eo48⟩ := Kd.R_slice HO145.out; subst eo48))
    replace HO129 := Aside0.mk (Kd.R_drew HO129.out)
    replace HO133 := Aside0.mk (Kd.R_drew HO133.out)
    replace HO137 := Aside0.mk (Kd.R_drew HO137.out)
    replace HO141 := Aside0.mk (Kd.R_drew HO141.out)
    replace HO145 := Aside0.mk (Kd.R_drew HO145.out)
    replace BK124 := Aside0.mk (blk_drew BK124.out)
    replace BK130 := Aside0.mk (blk_drew BK130.out)
    replace BK138 := Aside0.mk (blk_drew BK138.out)
    replace BK142 := Aside0.mk (blk_drew BK142.out)
    replace HB := Aside0.mk (below_drew1 HB.out)
    refine start_ (n := 12) (S := fun w' => w'.cell? ⟨gb130, 0, none⟩ = some (.int .i64 t126) ∧ w'.cell? ⟨gb130, 1, none⟩ = some (.slice Ao24 t127.length co24) ∧ w'.cell? ⟨gb138, 0, none⟩ = some (.int .i64 t134) ∧ w'.cell? ⟨gb138, 1, none⟩ = some (.slice Ao33 t135.length co33) ∧ w'.cell? ⟨gb142, 0, none⟩ = some (.int .i64 t134) ∧ w'.cell? ⟨gb142, 1, none⟩ = some (.slice Ao41 t139.length co41)) (ds := []) #[false, false, false, false, false, false, false, false, false, false, false, false] (by kernel_rfl) rfl rfl ⟨(blk_cell BK130.out 0).trans rfl, (blk_cell BK130.out 1).trans rfl, (blk_cell BK138.out 0).trans rfl, (blk_cell BK138.out 1).trans rfl, (blk_cell BK142.out 0).trans rfl, (blk_cell BK142.out 1).trans rfl⟩ (fun hHeld => ?_); refine with_tabW plexuslaw42_EmbedImages.tab8 plexuslaw42_EmbedImages.bits8 (fun HT_ HW_ => ?_)
    generalize w47.drew = w49 at HO129 HO133 HO137 HO141 HO145 BK124 BK130 BK138 BK142 HB hHeld ⊢
    refine pkP 2 42 #[false, false, true, false, false, false, false, false, false, false, false, false] HT_ ?_
    refine pkP 6 46 #[false, false, true, false, false, false, true, false, false, false, false, false] HT_ ?_
    refine take_ (i := 0) (N := some 40) (v := ?_) (a' := ?_) #[true, false, true, false, false, false, true, false, false, false, false, false] rfl rfl (take_ofW HT_.out HW_.out (by kernel_rfl)) (fun _ _ _ h => h) (Or.inl ⟨by rfl, ?_⟩) hHeld ?_ ?_
    rotate_left
    · rintro w' ⟨s0, s1, s2, s3, s4, s5⟩
      go_simp
      with_reducible rfl
    rotate_left
    · simp only [Act.put, List.setIfInBounds_toArray, List.set_cons_zero, List.set_cons_succ, i64_w, i32_w]
      rfl
    refine take_ (i := 1) (N := some 41) (v := ?_) (a' := ?_) #[true, true, true, false, false, false, true, false, false, false, false, false] rfl rfl (take_ofW HT_.out HW_.out (by kernel_rfl)) (fun _ _ _ h => h) (Or.inl ⟨by rfl, ?_⟩) hHeld ?_ ?_
    rotate_left
    · rintro w' ⟨s0, s1, s2, s3, s4, s5⟩
      go_simp
      with_reducible rfl
    rotate_left
    · simp only [Act.put, List.setIfInBounds_toArray, List.set_cons_zero, List.set_cons_succ, i64_w, i32_w]
      rfl
    refine take_ (i := 4) (N := some 44) (v := ?_) (a' := ?_) #[true, true, true, false, true, false, true, false, false, false, false, false] rfl rfl (take_ofW HT_.out HW_.out (by kernel_rfl)) (fun _ _ _ h => h) (Or.inl ⟨by rfl, ?_⟩) hHeld ?_ ?_
    rotate_left
    · rintro w' ⟨s0, s1, s2, s3, s4, s5⟩
      go_simp
      with_reducible rfl
    rotate_left
    · simp only [Act.put, List.setIfInBounds_toArray, List.set_cons_zero, List.set_cons_succ, i64_w, i32_w]
      rfl
    refine take_ (i := 5) (N := some 45) (v := ?_) (a' := ?_) #[true, true, true, false, true, true, true, false, false, false, false, false] rfl rfl (take_ofW HT_.out HW_.out (by kernel_rfl)) (fun _ _ _ h => h) (Or.inl ⟨by rfl, ?_⟩) hHeld ?_ ?_
    rotate_left
    · rintro w' ⟨s0, s1, s2, s3, s4, s5⟩
      go_simp
      with_reducible rfl
    rotate_left
    · simp only [Act.put, List.setIfInBounds_toArray, List.set_cons_zero, List.set_cons_succ, i64_w, i32_w]
      rfl
    refine join_ (σ := Value × Value × Value × Value × Nat × Nat) 2 #[true, true, true, true, true, true, true, true, true, true, false, false] (fun s_ => [(43, .agg #[s_.1, s_.2.1, .int .i64 t152]), (47, .agg #[s_.2.2.1, s_.2.2.2.1, .int .i64 t159]), (12, .pointer (some ⟨s_.2.2.2.2.1, 0, none⟩)), (13, .pointer (some ⟨s_.2.2.2.2.2, 0, none⟩))]) (fun s_ w' => (w'.cell? ⟨gb130, 0, none⟩ = some (.int .i64 t126) ∧ w'.cell? ⟨gb130, 1, none⟩ = some (.slice Ao24 t127.length co24) ∧ w'.cell? ⟨gb138, 0, none⟩ = some (.int .i64 t134) ∧ w'.cell? ⟨gb138, 1, none⟩ = some (.slice Ao33 t135.length co33) ∧ w'.cell? ⟨gb142, 0, none⟩ = some (.int .i64 t134) ∧ w'.cell? ⟨gb142, 1, none⟩ = some (.slice Ao41 t139.length co41)) ∧ (Kd.R (Kd.int .u64) 25 w' w.heap.size (fun k_ => some k_ ≠ (.slice Ao33 t135.length co33 : Value).ownBlock ∧ some k_ ≠ (.slice Ao41 t139.length co41 : Value).ownBlock) (.slice Ao24 t127.length co24) t127) ∧ (Kd.R (Kd.int .i64) 3 w' w.heap.size (fun k_ => some k_ ≠ (.slice Ao48 t143.length co48 : Value).ownBlock ∧ some k_ ≠ (s_.1 : Value).ownBlock ∧ some k_ ≠ (s_.2.1 : Value).ownBlock ∧ some k_ ≠ (s_.2.2.1 : Value).ownBlock ∧ some k_ ≠ (s_.2.2.2.1 : Value).ownBlock) v132 t131) ∧ (Kd.R (Kd.int .u64) 25 w' w.heap.size (fun k_ => some k_ ≠ (.slice Ao24 t127.length co24 : Value).ownBlock ∧ some k_ ≠ (.slice Ao41 t139.length co41 : Value).ownBlock) (.slice Ao33 t135.length co33) t135) ∧ (Kd.R (Kd.int .u64) 25 w' w.heap.size (fun k_ => some k_ ≠ (.slice Ao24 t127.length co24 : Value).ownBlock ∧ some k_ ≠ (.slice Ao33 t135.length co33 : Value).ownBlock) (.slice Ao41 t139.length co41) t139) ∧ (Kd.R (Kd.int .i64) 3 w' w.heap.size (fun k_ => some k_ ≠ (v132 : Value).ownBlock ∧ some k_ ≠ (s_.1 : Value).ownBlock ∧ some k_ ≠ (s_.2.1 : Value).ownBlock ∧ some k_ ≠ (s_.2.2.1 : Value).ownBlock ∧ some k_ ≠ (s_.2.2.2.1 : Value).ownBlock) (.slice Ao48 t143.length co48) t143) ∧ (Kd.R (Kd.int .i64) 3 w' w.heap.size (fun k_ => some k_ ≠ (v132 : Value).ownBlock ∧ some k_ ≠ (.slice Ao48 t143.length co48 : Value).ownBlock ∧ some k_ ≠ (s_.2.1 : Value).ownBlock ∧ some k_ ≠ (s_.2.2.1 : Value).ownBlock ∧ some k_ ≠ (s_.2.2.2.1 : Value).ownBlock) s_.1 t146) ∧ (Kd.R (Kd.int .i64) 3 w' w.heap.size (fun k_ => some k_ ≠ (v132 : Value).ownBlock ∧ some k_ ≠ (.slice Ao48 t143.length co48 : Value).ownBlock ∧ some k_ ≠ (s_.1 : Value).ownBlock ∧ some k_ ≠ (s_.2.2.1 : Value).ownBlock ∧ some k_ ≠ (s_.2.2.2.1 : Value).ownBlock) s_.2.1 t149) ∧ (Kd.R (Kd.int .i64) 3 w' w.heap.size (fun k_ => some k_ ≠ (v132 : Value).ownBlock ∧ some k_ ≠ (.slice Ao48 t143.length co48 : Value).ownBlock ∧ some k_ ≠ (s_.1 : Value).ownBlock ∧ some k_ ≠ (s_.2.1 : Value).ownBlock ∧ some k_ ≠ (s_.2.2.2.1 : Value).ownBlock) s_.2.2.1 t153) ∧ (Kd.R (Kd.int .i64) 3 w' w.heap.size (fun k_ => some k_ ≠ (v132 : Value).ownBlock ∧ some k_ ≠ (.slice Ao48 t143.length co48 : Value).ownBlock ∧ some k_ ≠ (s_.1 : Value).ownBlock ∧ some k_ ≠ (s_.2.1 : Value).ownBlock ∧ some k_ ≠ (s_.2.2.1 : Value).ownBlock) s_.2.2.2.1 t156) ∧ (w'.heap[gb124]? = some (.cells #[.slice A0_0 l0_0.length c0_0] 24 (0, 0))) ∧ (w'.heap[gb130]? = some (.cells #[.int .i64 t126, .slice Ao24 t127.length co24] 29 (0, 0))) ∧ (w'.heap[gb138]? = some (.cells #[.int .i64 t134, .slice Ao33 t135.length co33] 29 (0, 0))) ∧ (w'.heap[gb142]? = some (.cells #[.int .i64 t134, .slice Ao41 t139.length co41] 29 (0, 0))) ∧ (w'.heap[s_.2.2.2.2.1]? = some (.cells #[.slice none 0 0, .slice none 0 0, .int .i64 0] 42 (0, 0))) ∧ (w'.heap[s_.2.2.2.2.2]? = some (.cells #[.slice none 0 0, .slice none 0 0, .int .i64 0] 42 (0, 0))) ∧ (w.heap.size ≤ s_.2.2.2.2.1) ∧ (w.heap.size ≤ s_.2.2.2.2.1) ∧ (gb124 ≠ s_.2.2.2.2.1) ∧ (s_.2.2.2.2.1 ≠ gb124) ∧ (gb130 ≠ s_.2.2.2.2.1) ∧ (s_.2.2.2.2.1 ≠ gb130) ∧ (gb138 ≠ s_.2.2.2.2.1) ∧ (s_.2.2.2.2.1 ≠ gb138) ∧ (gb142 ≠ s_.2.2.2.2.1) ∧ (s_.2.2.2.2.1 ≠ gb142) ∧ (s_.2.2.2.2.2 ≠ s_.2.2.2.2.1) ∧ (s_.2.2.2.2.1 ≠ s_.2.2.2.2.2) ∧ (w.heap.size ≤ s_.2.2.2.2.2) ∧ (w.heap.size ≤ s_.2.2.2.2.2) ∧ (gb124 ≠ s_.2.2.2.2.2) ∧ (s_.2.2.2.2.2 ≠ gb124) ∧ (gb130 ≠ s_.2.2.2.2.2) ∧ (s_.2.2.2.2.2 ≠ gb130) ∧ (gb138 ≠ s_.2.2.2.2.2) ∧ (s_.2.2.2.2.2 ≠ gb138) ∧ (gb142 ≠ s_.2.2.2.2.2) ∧ (s_.2.2.2.2.2 ≠ gb142) ∧ (Below w.heap.size w w')) ?_ ?_
    rotate_left
    · intro hJ3_7_8_9
      refine join_ (σ := Value × Value × Value × Value × Nat) 3 #[true, true, true, true, true, true, true, true, true, false, false, false] (fun s_ => [(43, .agg #[s_.1, s_.2.1, .int .i64 t152]), (47, .agg #[s_.2.2.1, s_.2.2.2.1, .int .i64 t159]), (12, .pointer (some ⟨s_.2.2.2.2, 0, none⟩))]) (fun s_ w' => (w'.cell? ⟨gb130, 0, none⟩ = some (.int .i64 t126) ∧ w'.cell? ⟨gb130, 1, none⟩ = some (.slice Ao24 t127.length co24) ∧ w'.cell? ⟨gb138, 0, none⟩ = some (.int .i64 t134) ∧ w'.cell? ⟨gb138, 1, none⟩ = some (.slice Ao33 t135.length co33) ∧ w'.cell? ⟨gb142, 0, none⟩ = some (.int .i64 t134) ∧ w'.cell? ⟨gb142, 1, none⟩ = some (.slice Ao41 t139.length co41)) ∧ (Kd.R (Kd.int .u64) 25 w' w.heap.size (fun k_ => some k_ ≠ (.slice Ao33 t135.length co33 : Value).ownBlock ∧ some k_ ≠ (.slice Ao41 t139.length co41 : Value).ownBlock) (.slice Ao24 t127.length co24) t127) ∧ (Kd.R (Kd.int .i64) 3 w' w.heap.size (fun k_ => some k_ ≠ (.slice Ao48 t143.length co48 : Value).ownBlock ∧ some k_ ≠ (s_.1 : Value).ownBlock ∧ some k_ ≠ (s_.2.1 : Value).ownBlock ∧ some k_ ≠ (s_.2.2.1 : Value).ownBlock ∧ some k_ ≠ (s_.2.2.2.1 : Value).ownBlock) v132 t131) ∧ (Kd.R (Kd.int .u64) 25 w' w.heap.size (fun k_ => some k_ ≠ (.slice Ao24 t127.length co24 : Value).ownBlock ∧ some k_ ≠ (.slice Ao41 t139.length co41 : Value).ownBlock) (.slice Ao33 t135.length co33) t135) ∧ (Kd.R (Kd.int .u64) 25 w' w.heap.size (fun k_ => some k_ ≠ (.slice Ao24 t127.length co24 : Value).ownBlock ∧ some k_ ≠ (.slice Ao33 t135.length co33 : Value).ownBlock) (.slice Ao41 t139.length co41) t139) ∧ (Kd.R (Kd.int .i64) 3 w' w.heap.size (fun k_ => some k_ ≠ (v132 : Value).ownBlock ∧ some k_ ≠ (s_.1 : Value).ownBlock ∧ some k_ ≠ (s_.2.1 : Value).ownBlock ∧ some k_ ≠ (s_.2.2.1 : Value).ownBlock ∧ some k_ ≠ (s_.2.2.2.1 : Value).ownBlock) (.slice Ao48 t143.length co48) t143) ∧ (Kd.R (Kd.int .i64) 3 w' w.heap.size (fun k_ => some k_ ≠ (v132 : Value).ownBlock ∧ some k_ ≠ (.slice Ao48 t143.length co48 : Value).ownBlock ∧ some k_ ≠ (s_.2.1 : Value).ownBlock ∧ some k_ ≠ (s_.2.2.1 : Value).ownBlock ∧ some k_ ≠ (s_.2.2.2.1 : Value).ownBlock) s_.1 t146) ∧ (Kd.R (Kd.int .i64) 3 w' w.heap.size (fun k_ => some k_ ≠ (v132 : Value).ownBlock ∧ some k_ ≠ (.slice Ao48 t143.length co48 : Value).ownBlock ∧ some k_ ≠ (s_.1 : Value).ownBlock ∧ some k_ ≠ (s_.2.2.1 : Value).ownBlock ∧ some k_ ≠ (s_.2.2.2.1 : Value).ownBlock) s_.2.1 t149) ∧ (Kd.R (Kd.int .i64) 3 w' w.heap.size (fun k_ => some k_ ≠ (v132 : Value).ownBlock ∧ some k_ ≠ (.slice Ao48 t143.length co48 : Value).ownBlock ∧ some k_ ≠ (s_.1 : Value).ownBlock ∧ some k_ ≠ (s_.2.1 : Value).ownBlock ∧ some k_ ≠ (s_.2.2.2.1 : Value).ownBlock) s_.2.2.1 t153) ∧ (Kd.R (Kd.int .i64) 3 w' w.heap.size (fun k_ => some k_ ≠ (v132 : Value).ownBlock ∧ some k_ ≠ (.slice Ao48 t143.length co48 : Value).ownBlock ∧ some k_ ≠ (s_.1 : Value).ownBlock ∧ some k_ ≠ (s_.2.1 : Value).ownBlock ∧ some k_ ≠ (s_.2.2.1 : Value).ownBlock) s_.2.2.2.1 t156) ∧ (w'.heap[gb124]? = some (.cells #[.slice A0_0 l0_0.length c0_0] 24 (0, 0))) ∧ (w'.heap[gb130]? = some (.cells #[.int .i64 t126, .slice Ao24 t127.length co24] 29 (0, 0))) ∧ (w'.heap[gb138]? = some (.cells #[.int .i64 t134, .slice Ao33 t135.length co33] 29 (0, 0))) ∧ (w'.heap[gb142]? = some (.cells #[.int .i64 t134, .slice Ao41 t139.length co41] 29 (0, 0))) ∧ (w'.heap[s_.2.2.2.2]? = some (.cells #[.slice none 0 0, .slice none 0 0, .int .i64 0] 42 (0, 0))) ∧ (w.heap.size ≤ s_.2.2.2.2) ∧ (w.heap.size ≤ s_.2.2.2.2) ∧ (gb124 ≠ s_.2.2.2.2) ∧ (s_.2.2.2.2 ≠ gb124) ∧ (gb130 ≠ s_.2.2.2.2) ∧ (s_.2.2.2.2 ≠ gb130) ∧ (gb138 ≠ s_.2.2.2.2) ∧ (s_.2.2.2.2 ≠ gb138) ∧ (gb142 ≠ s_.2.2.2.2) ∧ (s_.2.2.2.2 ≠ gb142) ∧ (Below w.heap.size w w')) ?_ ?_
      rotate_left
      · intro hJ3_7_8
        refine join_ (σ := Value × Value × Value × Value × Nat) 3 #[true, true, true, true, true, true, true, true, false, true, false, false] (fun s_ => [(43, .agg #[s_.1, s_.2.1, .int .i64 t152]), (47, .agg #[s_.2.2.1, s_.2.2.2.1, .int .i64 t159]), (13, .pointer (some ⟨s_.2.2.2.2, 0, none⟩))]) (fun s_ w' => (w'.cell? ⟨gb130, 0, none⟩ = some (.int .i64 t126) ∧ w'.cell? ⟨gb130, 1, none⟩ = some (.slice Ao24 t127.length co24) ∧ w'.cell? ⟨gb138, 0, none⟩ = some (.int .i64 t134) ∧ w'.cell? ⟨gb138, 1, none⟩ = some (.slice Ao33 t135.length co33) ∧ w'.cell? ⟨gb142, 0, none⟩ = some (.int .i64 t134) ∧ w'.cell? ⟨gb142, 1, none⟩ = some (.slice Ao41 t139.length co41)) ∧ (Kd.R (Kd.int .u64) 25 w' w.heap.size (fun k_ => some k_ ≠ (.slice Ao33 t135.length co33 : Value).ownBlock ∧ some k_ ≠ (.slice Ao41 t139.length co41 : Value).ownBlock) (.slice Ao24 t127.length co24) t127) ∧ (Kd.R (Kd.int .i64) 3 w' w.heap.size (fun k_ => some k_ ≠ (.slice Ao48 t143.length co48 : Value).ownBlock ∧ some k_ ≠ (s_.1 : Value).ownBlock ∧ some k_ ≠ (s_.2.1 : Value).ownBlock ∧ some k_ ≠ (s_.2.2.1 : Value).ownBlock ∧ some k_ ≠ (s_.2.2.2.1 : Value).ownBlock) v132 t131) ∧ (Kd.R (Kd.int .u64) 25 w' w.heap.size (fun k_ => some k_ ≠ (.slice Ao24 t127.length co24 : Value).ownBlock ∧ some k_ ≠ (.slice Ao41 t139.length co41 : Value).ownBlock) (.slice Ao33 t135.length co33) t135) ∧ (Kd.R (Kd.int .u64) 25 w' w.heap.size (fun k_ => some k_ ≠ (.slice Ao24 t127.length co24 : Value).ownBlock ∧ some k_ ≠ (.slice Ao33 t135.length co33 : Value).ownBlock) (.slice Ao41 t139.length co41) t139) ∧ (Kd.R (Kd.int .i64) 3 w' w.heap.size (fun k_ => some k_ ≠ (v132 : Value).ownBlock ∧ some k_ ≠ (s_.1 : Value).ownBlock ∧ some k_ ≠ (s_.2.1 : Value).ownBlock ∧ some k_ ≠ (s_.2.2.1 : Value).ownBlock ∧ some k_ ≠ (s_.2.2.2.1 : Value).ownBlock) (.slice Ao48 t143.length co48) t143) ∧ (Kd.R (Kd.int .i64) 3 w' w.heap.size (fun k_ => some k_ ≠ (v132 : Value).ownBlock ∧ some k_ ≠ (.slice Ao48 t143.length co48 : Value).ownBlock ∧ some k_ ≠ (s_.2.1 : Value).ownBlock ∧ some k_ ≠ (s_.2.2.1 : Value).ownBlock ∧ some k_ ≠ (s_.2.2.2.1 : Value).ownBlock) s_.1 t146) ∧ (Kd.R (Kd.int .i64) 3 w' w.heap.size (fun k_ => some k_ ≠ (v132 : Value).ownBlock ∧ some k_ ≠ (.slice Ao48 t143.length co48 : Value).ownBlock ∧ some k_ ≠ (s_.1 : Value).ownBlock ∧ some k_ ≠ (s_.2.2.1 : Value).ownBlock ∧ some k_ ≠ (s_.2.2.2.1 : Value).ownBlock) s_.2.1 t149) ∧ (Kd.R (Kd.int .i64) 3 w' w.heap.size (fun k_ => some k_ ≠ (v132 : Value).ownBlock ∧ some k_ ≠ (.slice Ao48 t143.length co48 : Value).ownBlock ∧ some k_ ≠ (s_.1 : Value).ownBlock ∧ some k_ ≠ (s_.2.1 : Value).ownBlock ∧ some k_ ≠ (s_.2.2.2.1 : Value).ownBlock) s_.2.2.1 t153) ∧ (Kd.R (Kd.int .i64) 3 w' w.heap.size (fun k_ => some k_ ≠ (v132 : Value).ownBlock ∧ some k_ ≠ (.slice Ao48 t143.length co48 : Value).ownBlock ∧ some k_ ≠ (s_.1 : Value).ownBlock ∧ some k_ ≠ (s_.2.1 : Value).ownBlock ∧ some k_ ≠ (s_.2.2.1 : Value).ownBlock) s_.2.2.2.1 t156) ∧ (w'.heap[gb124]? = some (.cells #[.slice A0_0 l0_0.length c0_0] 24 (0, 0))) ∧ (w'.heap[gb130]? = some (.cells #[.int .i64 t126, .slice Ao24 t127.length co24] 29 (0, 0))) ∧ (w'.heap[gb138]? = some (.cells #[.int .i64 t134, .slice Ao33 t135.length co33] 29 (0, 0))) ∧ (w'.heap[gb142]? = some (.cells #[.int .i64 t134, .slice Ao41 t139.length co41] 29 (0, 0))) ∧ (w'.heap[s_.2.2.2.2]? = some (.cells #[.slice none 0 0, .slice none 0 0, .int .i64 0] 42 (0, 0))) ∧ (w.heap.size ≤ s_.2.2.2.2) ∧ (w.heap.size ≤ s_.2.2.2.2) ∧ (gb124 ≠ s_.2.2.2.2) ∧ (s_.2.2.2.2 ≠ gb124) ∧ (gb130 ≠ s_.2.2.2.2) ∧ (s_.2.2.2.2 ≠ gb130) ∧ (gb138 ≠ s_.2.2.2.2) ∧ (s_.2.2.2.2 ≠ gb138) ∧ (gb142 ≠ s_.2.2.2.2) ∧ (s_.2.2.2.2 ≠ gb142) ∧ (Below w.heap.size w w')) ?_ ?_
        rotate_left
        · intro hJ3_7_9
          refine join_ (σ := Value × Value × Nat × Nat) 3 #[true, true, true, true, true, true, true, false, true, true, false, false] (fun s_ => [(43, .agg #[s_.1, s_.2.1, .int .i64 t152]), (12, .pointer (some ⟨s_.2.2.1, 0, none⟩)), (13, .pointer (some ⟨s_.2.2.2, 0, none⟩))]) (fun s_ w' => (w'.cell? ⟨gb130, 0, none⟩ = some (.int .i64 t126) ∧ w'.cell? ⟨gb130, 1, none⟩ = some (.slice Ao24 t127.length co24) ∧ w'.cell? ⟨gb138, 0, none⟩ = some (.int .i64 t134) ∧ w'.cell? ⟨gb138, 1, none⟩ = some (.slice Ao33 t135.length co33) ∧ w'.cell? ⟨gb142, 0, none⟩ = some (.int .i64 t134) ∧ w'.cell? ⟨gb142, 1, none⟩ = some (.slice Ao41 t139.length co41)) ∧ (Kd.R (Kd.int .u64) 25 w' w.heap.size (fun k_ => some k_ ≠ (.slice Ao33 t135.length co33 : Value).ownBlock ∧ some k_ ≠ (.slice Ao41 t139.length co41 : Value).ownBlock) (.slice Ao24 t127.length co24) t127) ∧ (Kd.R (Kd.int .i64) 3 w' w.heap.size (fun k_ => some k_ ≠ (.slice Ao48 t143.length co48 : Value).ownBlock ∧ some k_ ≠ (s_.1 : Value).ownBlock ∧ some k_ ≠ (s_.2.1 : Value).ownBlock) v132 t131) ∧ (Kd.R (Kd.int .u64) 25 w' w.heap.size (fun k_ => some k_ ≠ (.slice Ao24 t127.length co24 : Value).ownBlock ∧ some k_ ≠ (.slice Ao41 t139.length co41 : Value).ownBlock) (.slice Ao33 t135.length co33) t135) ∧ (Kd.R (Kd.int .u64) 25 w' w.heap.size (fun k_ => some k_ ≠ (.slice Ao24 t127.length co24 : Value).ownBlock ∧ some k_ ≠ (.slice Ao33 t135.length co33 : Value).ownBlock) (.slice Ao41 t139.length co41) t139) ∧ (Kd.R (Kd.int .i64) 3 w' w.heap.size (fun k_ => some k_ ≠ (v132 : Value).ownBlock ∧ some k_ ≠ (s_.1 : Value).ownBlock ∧ some k_ ≠ (s_.2.1 : Value).ownBlock) (.slice Ao48 t143.length co48) t143) ∧ (Kd.R (Kd.int .i64) 3 w' w.heap.size (fun k_ => some k_ ≠ (v132 : Value).ownBlock ∧ some k_ ≠ (.slice Ao48 t143.length co48 : Value).ownBlock ∧ some k_ ≠ (s_.2.1 : Value).ownBlock) s_.1 t146) ∧ (Kd.R (Kd.int .i64) 3 w' w.heap.size (fun k_ => some k_ ≠ (v132 : Value).ownBlock ∧ some k_ ≠ (.slice Ao48 t143.length co48 : Value).ownBlock ∧ some k_ ≠ (s_.1 : Value).ownBlock) s_.2.1 t149) ∧ (w'.heap[gb124]? = some (.cells #[.slice A0_0 l0_0.length c0_0] 24 (0, 0))) ∧ (w'.heap[gb130]? = some (.cells #[.int .i64 t126, .slice Ao24 t127.length co24] 29 (0, 0))) ∧ (w'.heap[gb138]? = some (.cells #[.int .i64 t134, .slice Ao33 t135.length co33] 29 (0, 0))) ∧ (w'.heap[gb142]? = some (.cells #[.int .i64 t134, .slice Ao41 t139.length co41] 29 (0, 0))) ∧ (w'.heap[s_.2.2.1]? = some (.cells #[.slice none 0 0, .slice none 0 0, .int .i64 0] 42 (0, 0))) ∧ (w'.heap[s_.2.2.2]? = some (.cells #[.slice none 0 0, .slice none 0 0, .int .i64 0] 42 (0, 0))) ∧ (w.heap.size ≤ s_.2.2.1) ∧ (w.heap.size ≤ s_.2.2.1) ∧ (gb124 ≠ s_.2.2.1) ∧ (s_.2.2.1 ≠ gb124) ∧ (gb130 ≠ s_.2.2.1) ∧ (s_.2.2.1 ≠ gb130) ∧ (gb138 ≠ s_.2.2.1) ∧ (s_.2.2.1 ≠ gb138) ∧ (gb142 ≠ s_.2.2.1) ∧ (s_.2.2.1 ≠ gb142) ∧ (s_.2.2.2 ≠ s_.2.2.1) ∧ (s_.2.2.1 ≠ s_.2.2.2) ∧ (w.heap.size ≤ s_.2.2.2) ∧ (w.heap.size ≤ s_.2.2.2) ∧ (gb124 ≠ s_.2.2.2) ∧ (s_.2.2.2 ≠ gb124) ∧ (gb130 ≠ s_.2.2.2) ∧ (s_.2.2.2 ≠ gb130) ∧ (gb138 ≠ s_.2.2.2) ∧ (s_.2.2.2 ≠ gb138) ∧ (gb142 ≠ s_.2.2.2) ∧ (s_.2.2.2 ≠ gb142) ∧ (Below w.heap.size w w')) ?_ ?_
          rotate_left
          · intro hJ3_8_9
            refine join_ (σ := Value × Value × Value × Value) 4 #[true, true, true, true, true, true, true, true, false, false, false, false] (fun s_ => [(43, .agg #[s_.1, s_.2.1, .int .i64 t152]), (47, .agg #[s_.2.2.1, s_.2.2.2, .int .i64 t159])]) (fun s_ w' => (w'.cell? ⟨gb130, 0, none⟩ = some (.int .i64 t126) ∧ w'.cell? ⟨gb130, 1, none⟩ = some (.slice Ao24 t127.length co24) ∧ w'.cell? ⟨gb138, 0, none⟩ = some (.int .i64 t134) ∧ w'.cell? ⟨gb138, 1, none⟩ = some (.slice Ao33 t135.length co33) ∧ w'.cell? ⟨gb142, 0, none⟩ = some (.int .i64 t134) ∧ w'.cell? ⟨gb142, 1, none⟩ = some (.slice Ao41 t139.length co41)) ∧ (Kd.R (Kd.int .u64) 25 w' w.heap.size (fun k_ => some k_ ≠ (.slice Ao33 t135.length co33 : Value).ownBlock ∧ some k_ ≠ (.slice Ao41 t139.length co41 : Value).ownBlock) (.slice Ao24 t127.length co24) t127) ∧ (Kd.R (Kd.int .i64) 3 w' w.heap.size (fun k_ => some k_ ≠ (.slice Ao48 t143.length co48 : Value).ownBlock ∧ some k_ ≠ (s_.1 : Value).ownBlock ∧ some k_ ≠ (s_.2.1 : Value).ownBlock ∧ some k_ ≠ (s_.2.2.1 : Value).ownBlock ∧ some k_ ≠ (s_.2.2.2 : Value).ownBlock) v132 t131) ∧ (Kd.R (Kd.int .u64) 25 w' w.heap.size (fun k_ => some k_ ≠ (.slice Ao24 t127.length co24 : Value).ownBlock ∧ some k_ ≠ (.slice Ao41 t139.length co41 : Value).ownBlock) (.slice Ao33 t135.length co33) t135) ∧ (Kd.R (Kd.int .u64) 25 w' w.heap.size (fun k_ => some k_ ≠ (.slice Ao24 t127.length co24 : Value).ownBlock ∧ some k_ ≠ (.slice Ao33 t135.length co33 : Value).ownBlock) (.slice Ao41 t139.length co41) t139) ∧ (Kd.R (Kd.int .i64) 3 w' w.heap.size (fun k_ => some k_ ≠ (v132 : Value).ownBlock ∧ some k_ ≠ (s_.1 : Value).ownBlock ∧ some k_ ≠ (s_.2.1 : Value).ownBlock ∧ some k_ ≠ (s_.2.2.1 : Value).ownBlock ∧ some k_ ≠ (s_.2.2.2 : Value).ownBlock) (.slice Ao48 t143.length co48) t143) ∧ (Kd.R (Kd.int .i64) 3 w' w.heap.size (fun k_ => some k_ ≠ (v132 : Value).ownBlock ∧ some k_ ≠ (.slice Ao48 t143.length co48 : Value).ownBlock ∧ some k_ ≠ (s_.2.1 : Value).ownBlock ∧ some k_ ≠ (s_.2.2.1 : Value).ownBlock ∧ some k_ ≠ (s_.2.2.2 : Value).ownBlock) s_.1 t146) ∧ (Kd.R (Kd.int .i64) 3 w' w.heap.size (fun k_ => some k_ ≠ (v132 : Value).ownBlock ∧ some k_ ≠ (.slice Ao48 t143.length co48 : Value).ownBlock ∧ some k_ ≠ (s_.1 : Value).ownBlock ∧ some k_ ≠ (s_.2.2.1 : Value).ownBlock ∧ some k_ ≠ (s_.2.2.2 : Value).ownBlock) s_.2.1 t149) ∧ (Kd.R (Kd.int .i64) 3 w' w.heap.size (fun k_ => some k_ ≠ (v132 : Value).ownBlock ∧ some k_ ≠ (.slice Ao48 t143.length co48 : Value).ownBlock ∧ some k_ ≠ (s_.1 : Value).ownBlock ∧ some k_ ≠ (s_.2.1 : Value).ownBlock ∧ some k_ ≠ (s_.2.2.2 : Value).ownBlock) s_.2.2.1 t153) ∧ (Kd.R (Kd.int .i64) 3 w' w.heap.size (fun k_ => some k_ ≠ (v132 : Value).ownBlock ∧ some k_ ≠ (.slice Ao48 t143.length co48 : Value).ownBlock ∧ some k_ ≠ (s_.1 : Value).ownBlock ∧ some k_ ≠ (s_.2.1 : Value).ownBlock ∧ some k_ ≠ (s_.2.2.1 : Value).ownBlock) s_.2.2.2 t156) ∧ (w'.heap[gb124]? = some (.cells #[.slice A0_0 l0_0.length c0_0] 24 (0, 0))) ∧ (w'.heap[gb130]? = some (.cells #[.int .i64 t126, .slice Ao24 t127.length co24] 29 (0, 0))) ∧ (w'.heap[gb138]? = some (.cells #[.int .i64 t134, .slice Ao33 t135.length co33] 29 (0, 0))) ∧ (w'.heap[gb142]? = some (.cells #[.int .i64 t134, .slice Ao41 t139.length co41] 29 (0, 0))) ∧ (Below w.heap.size w w')) ?_ ?_
            rotate_left
            · intro hJ3_7
              refine join_ (σ := Value × Value × Nat) 4 #[true, true, true, true, true, true, true, false, true, false, false, false] (fun s_ => [(43, .agg #[s_.1, s_.2.1, .int .i64 t152]), (12, .pointer (some ⟨s_.2.2, 0, none⟩))]) (fun s_ w' => (w'.cell? ⟨gb130, 0, none⟩ = some (.int .i64 t126) ∧ w'.cell? ⟨gb130, 1, none⟩ = some (.slice Ao24 t127.length co24) ∧ w'.cell? ⟨gb138, 0, none⟩ = some (.int .i64 t134) ∧ w'.cell? ⟨gb138, 1, none⟩ = some (.slice Ao33 t135.length co33) ∧ w'.cell? ⟨gb142, 0, none⟩ = some (.int .i64 t134) ∧ w'.cell? ⟨gb142, 1, none⟩ = some (.slice Ao41 t139.length co41)) ∧ (Kd.R (Kd.int .u64) 25 w' w.heap.size (fun k_ => some k_ ≠ (.slice Ao33 t135.length co33 : Value).ownBlock ∧ some k_ ≠ (.slice Ao41 t139.length co41 : Value).ownBlock) (.slice Ao24 t127.length co24) t127) ∧ (Kd.R (Kd.int .i64) 3 w' w.heap.size (fun k_ => some k_ ≠ (.slice Ao48 t143.length co48 : Value).ownBlock ∧ some k_ ≠ (s_.1 : Value).ownBlock ∧ some k_ ≠ (s_.2.1 : Value).ownBlock) v132 t131) ∧ (Kd.R (Kd.int .u64) 25 w' w.heap.size (fun k_ => some k_ ≠ (.slice Ao24 t127.length co24 : Value).ownBlock ∧ some k_ ≠ (.slice Ao41 t139.length co41 : Value).ownBlock) (.slice Ao33 t135.length co33) t135) ∧ (Kd.R (Kd.int .u64) 25 w' w.heap.size (fun k_ => some k_ ≠ (.slice Ao24 t127.length co24 : Value).ownBlock ∧ some k_ ≠ (.slice Ao33 t135.length co33 : Value).ownBlock) (.slice Ao41 t139.length co41) t139) ∧ (Kd.R (Kd.int .i64) 3 w' w.heap.size (fun k_ => some k_ ≠ (v132 : Value).ownBlock ∧ some k_ ≠ (s_.1 : Value).ownBlock ∧ some k_ ≠ (s_.2.1 : Value).ownBlock) (.slice Ao48 t143.length co48) t143) ∧ (Kd.R (Kd.int .i64) 3 w' w.heap.size (fun k_ => some k_ ≠ (v132 : Value).ownBlock ∧ some k_ ≠ (.slice Ao48 t143.length co48 : Value).ownBlock ∧ some k_ ≠ (s_.2.1 : Value).ownBlock) s_.1 t146) ∧ (Kd.R (Kd.int .i64) 3 w' w.heap.size (fun k_ => some k_ ≠ (v132 : Value).ownBlock ∧ some k_ ≠ (.slice Ao48 t143.length co48 : Value).ownBlock ∧ some k_ ≠ (s_.1 : Value).ownBlock) s_.2.1 t149) ∧ (w'.heap[gb124]? = some (.cells #[.slice A0_0 l0_0.length c0_0] 24 (0, 0))) ∧ (w'.heap[gb130]? = some (.cells #[.int .i64 t126, .slice Ao24 t127.length co24] 29 (0, 0))) ∧ (w'.heap[gb138]? = some (.cells #[.int .i64 t134, .slice Ao33 t135.length co33] 29 (0, 0))) ∧ (w'.heap[gb142]? = some (.cells #[.int .i64 t134, .slice Ao41 t139.length co41] 29 (0, 0))) ∧ (w'.heap[s_.2.2]? = some (.cells #[.slice none 0 0, .slice none 0 0, .int .i64 0] 42 (0, 0))) ∧ (w.heap.size ≤ s_.2.2) ∧ (w.heap.size ≤ s_.2.2) ∧ (gb124 ≠ s_.2.2) ∧ (s_.2.2 ≠ gb124) ∧ (gb130 ≠ s_.2.2) ∧ (s_.2.2 ≠ gb130) ∧ (gb138 ≠ s_.2.2) ∧ (s_.2.2 ≠ gb138) ∧ (gb142 ≠ s_.2.2) ∧ (s_.2.2 ≠ gb142) ∧ (Below w.heap.size w w')) ?_ ?_
              rotate_left
              · intro hJ3_8
                refine join_ (σ := Value × Value × Nat) 4 #[true, true, true, true, true, true, true, false, false, true, false, false] (fun s_ => [(43, .agg #[s_.1, s_.2.1, .int .i64 t152]), (13, .pointer (some ⟨s_.2.2, 0, none⟩))]) (fun s_ w' => (w'.cell? ⟨gb130, 0, none⟩ = some (.int .i64 t126) ∧ w'.cell? ⟨gb130, 1, none⟩ = some (.slice Ao24 t127.length co24) ∧ w'.cell? ⟨gb138, 0, none⟩ = some (.int .i64 t134) ∧ w'.cell? ⟨gb138, 1, none⟩ = some (.slice Ao33 t135.length co33) ∧ w'.cell? ⟨gb142, 0, none⟩ = some (.int .i64 t134) ∧ w'.cell? ⟨gb142, 1, none⟩ = some (.slice Ao41 t139.length co41)) ∧ (Kd.R (Kd.int .u64) 25 w' w.heap.size (fun k_ => some k_ ≠ (.slice Ao33 t135.length co33 : Value).ownBlock ∧ some k_ ≠ (.slice Ao41 t139.length co41 : Value).ownBlock) (.slice Ao24 t127.length co24) t127) ∧ (Kd.R (Kd.int .i64) 3 w' w.heap.size (fun k_ => some k_ ≠ (.slice Ao48 t143.length co48 : Value).ownBlock ∧ some k_ ≠ (s_.1 : Value).ownBlock ∧ some k_ ≠ (s_.2.1 : Value).ownBlock) v132 t131) ∧ (Kd.R (Kd.int .u64) 25 w' w.heap.size (fun k_ => some k_ ≠ (.slice Ao24 t127.length co24 : Value).ownBlock ∧ some k_ ≠ (.slice Ao41 t139.length co41 : Value).ownBlock) (.slice Ao33 t135.length co33) t135) ∧ (Kd.R (Kd.int .u64) 25 w' w.heap.size (fun k_ => some k_ ≠ (.slice Ao24 t127.length co24 : Value).ownBlock ∧ some k_ ≠ (.slice Ao33 t135.length co33 : Value).ownBlock) (.slice Ao41 t139.length co41) t139) ∧ (Kd.R (Kd.int .i64) 3 w' w.heap.size (fun k_ => some k_ ≠ (v132 : Value).ownBlock ∧ some k_ ≠ (s_.1 : Value).ownBlock ∧ some k_ ≠ (s_.2.1 : Value).ownBlock) (.slice Ao48 t143.length co48) t143) ∧ (Kd.R (Kd.int .i64) 3 w' w.heap.size (fun k_ => some k_ ≠ (v132 : Value).ownBlock ∧ some k_ ≠ (.slice Ao48 t143.length co48 : Value).ownBlock ∧ some k_ ≠ (s_.2.1 : Value).ownBlock) s_.1 t146) ∧ (Kd.R (Kd.int .i64) 3 w' w.heap.size (fun k_ => some k_ ≠ (v132 : Value).ownBlock ∧ some k_ ≠ (.slice Ao48 t143.length co48 : Value).ownBlock ∧ some k_ ≠ (s_.1 : Value).ownBlock) s_.2.1 t149) ∧ (w'.heap[gb124]? = some (.cells #[.slice A0_0 l0_0.length c0_0] 24 (0, 0))) ∧ (w'.heap[gb130]? = some (.cells #[.int .i64 t126, .slice Ao24 t127.length co24] 29 (0, 0))) ∧ (w'.heap[gb138]? = some (.cells #[.int .i64 t134, .slice Ao33 t135.length co33] 29 (0, 0))) ∧ (w'.heap[gb142]? = some (.cells #[.int .i64 t134, .slice Ao41 t139.length co41] 29 (0, 0))) ∧ (w'.heap[s_.2.2]? = some (.cells #[.slice none 0 0, .slice none 0 0, .int .i64 0] 42 (0, 0))) ∧ (w.heap.size ≤ s_.2.2) ∧ (w.heap.size ≤ s_.2.2) ∧ (gb124 ≠ s_.2.2) ∧ (s_.2.2 ≠ gb124) ∧ (gb130 ≠ s_.2.2) ∧ (s_.2.2 ≠ gb130) ∧ (gb138 ≠ s_.2.2) ∧ (s_.2.2 ≠ gb138) ∧ (gb142 ≠ s_.2.2) ∧ (s_.2.2 ≠ gb142) ∧ (Below w.heap.size w w')) ?_ ?_
                rotate_left
                · intro hJ3_9
                  refine join_ (σ := Nat × Nat) 4 #[true, true, true, false, true, true, true, false, true, true, false, false] (fun s_ => [(12, .pointer (some ⟨s_.1, 0, none⟩)), (13, .pointer (some ⟨s_.2, 0, none⟩))]) (fun s_ w' => (w'.cell? ⟨gb130, 0, none⟩ = some (.int .i64 t126) ∧ w'.cell? ⟨gb130, 1, none⟩ = some (.slice Ao24 t127.length co24) ∧ w'.cell? ⟨gb138, 0, none⟩ = some (.int .i64 t134) ∧ w'.cell? ⟨gb138, 1, none⟩ = some (.slice Ao33 t135.length co33) ∧ w'.cell? ⟨gb142, 0, none⟩ = some (.int .i64 t134) ∧ w'.cell? ⟨gb142, 1, none⟩ = some (.slice Ao41 t139.length co41)) ∧ (Kd.R (Kd.int .u64) 25 w' w.heap.size (fun k_ => some k_ ≠ (.slice Ao33 t135.length co33 : Value).ownBlock ∧ some k_ ≠ (.slice Ao41 t139.length co41 : Value).ownBlock) (.slice Ao24 t127.length co24) t127) ∧ (Kd.R (Kd.int .i64) 3 w' w.heap.size (fun k_ => some k_ ≠ (.slice Ao48 t143.length co48 : Value).ownBlock) v132 t131) ∧ (Kd.R (Kd.int .u64) 25 w' w.heap.size (fun k_ => some k_ ≠ (.slice Ao24 t127.length co24 : Value).ownBlock ∧ some k_ ≠ (.slice Ao41 t139.length co41 : Value).ownBlock) (.slice Ao33 t135.length co33) t135) ∧ (Kd.R (Kd.int .u64) 25 w' w.heap.size (fun k_ => some k_ ≠ (.slice Ao24 t127.length co24 : Value).ownBlock ∧ some k_ ≠ (.slice Ao33 t135.length co33 : Value).ownBlock) (.slice Ao41 t139.length co41) t139) ∧ (Kd.R (Kd.int .i64) 3 w' w.heap.size (fun k_ => some k_ ≠ (v132 : Value).ownBlock) (.slice Ao48 t143.length co48) t143) ∧ (w'.heap[gb124]? = some (.cells #[.slice A0_0 l0_0.length c0_0] 24 (0, 0))) ∧ (w'.heap[gb130]? = some (.cells #[.int .i64 t126, .slice Ao24 t127.length co24] 29 (0, 0))) ∧ (w'.heap[gb138]? = some (.cells #[.int .i64 t134, .slice Ao33 t135.length co33] 29 (0, 0))) ∧ (w'.heap[gb142]? = some (.cells #[.int .i64 t134, .slice Ao41 t139.length co41] 29 (0, 0))) ∧ (w'.heap[s_.1]? = some (.cells #[.slice none 0 0, .slice none 0 0, .int .i64 0] 42 (0, 0))) ∧ (w'.heap[s_.2]? = some (.cells #[.slice none 0 0, .slice none 0 0, .int .i64 0] 42 (0, 0))) ∧ (w.heap.size ≤ s_.1) ∧ (w.heap.size ≤ s_.1) ∧ (gb124 ≠ s_.1) ∧ (s_.1 ≠ gb124) ∧ (gb130 ≠ s_.1) ∧ (s_.1 ≠ gb130) ∧ (gb138 ≠ s_.1) ∧ (s_.1 ≠ gb138) ∧ (gb142 ≠ s_.1) ∧ (s_.1 ≠ gb142) ∧ (s_.2 ≠ s_.1) ∧ (s_.1 ≠ s_.2) ∧ (w.heap.size ≤ s_.2) ∧ (w.heap.size ≤ s_.2) ∧ (gb124 ≠ s_.2) ∧ (s_.2 ≠ gb124) ∧ (gb130 ≠ s_.2) ∧ (s_.2 ≠ gb130) ∧ (gb138 ≠ s_.2) ∧ (s_.2 ≠ gb138) ∧ (gb142 ≠ s_.2) ∧ (s_.2 ≠ gb142) ∧ (Below w.heap.size w w')) ?_ ?_
                  rotate_left
                  · intro hJ8_9
                    refine join_ (σ := Value × Value) 5 #[true, true, true, true, true, true, true, false, false, false, false, false] (fun s_ => [(43, .agg #[s_.1, s_.2, .int .i64 t152])]) (fun s_ w' => (w'.cell? ⟨gb130, 0, none⟩ = some (.int .i64 t126) ∧ w'.cell? ⟨gb130, 1, none⟩ = some (.slice Ao24 t127.length co24) ∧ w'.cell? ⟨gb138, 0, none⟩ = some (.int .i64 t134) ∧ w'.cell? ⟨gb138, 1, none⟩ = some (.slice Ao33 t135.length co33) ∧ w'.cell? ⟨gb142, 0, none⟩ = some (.int .i64 t134) ∧ w'.cell? ⟨gb142, 1, none⟩ = some (.slice Ao41 t139.length co41)) ∧ (Kd.R (Kd.int .u64) 25 w' w.heap.size (fun k_ => some k_ ≠ (.slice Ao33 t135.length co33 : Value).ownBlock ∧ some k_ ≠ (.slice Ao41 t139.length co41 : Value).ownBlock) (.slice Ao24 t127.length co24) t127) ∧ (Kd.R (Kd.int .i64) 3 w' w.heap.size (fun k_ => some k_ ≠ (.slice Ao48 t143.length co48 : Value).ownBlock ∧ some k_ ≠ (s_.1 : Value).ownBlock ∧ some k_ ≠ (s_.2 : Value).ownBlock) v132 t131) ∧ (Kd.R (Kd.int .u64) 25 w' w.heap.size (fun k_ => some k_ ≠ (.slice Ao24 t127.length co24 : Value).ownBlock ∧ some k_ ≠ (.slice Ao41 t139.length co41 : Value).ownBlock) (.slice Ao33 t135.length co33) t135) ∧ (Kd.R (Kd.int .u64) 25 w' w.heap.size (fun k_ => some k_ ≠ (.slice Ao24 t127.length co24 : Value).ownBlock ∧ some k_ ≠ (.slice Ao33 t135.length co33 : Value).ownBlock) (.slice Ao41 t139.length co41) t139) ∧ (Kd.R (Kd.int .i64) 3 w' w.heap.size (fun k_ => some k_ ≠ (v132 : Value).ownBlock ∧ some k_ ≠ (s_.1 : Value).ownBlock ∧ some k_ ≠ (s_.2 : Value).ownBlock) (.slice Ao48 t143.length co48) t143) ∧ (Kd.R (Kd.int .i64) 3 w' w.heap.size (fun k_ => some k_ ≠ (v132 : Value).ownBlock ∧ some k_ ≠ (.slice Ao48 t143.length co48 : Value).ownBlock ∧ some k_ ≠ (s_.2 : Value).ownBlock) s_.1 t146) ∧ (Kd.R (Kd.int .i64) 3 w' w.heap.size (fun k_ => some k_ ≠ (v132 : Value).ownBlock ∧ some k_ ≠ (.slice Ao48 t143.length co48 : Value).ownBlock ∧ some k_ ≠ (s_.1 : Value).ownBlock) s_.2 t149) ∧ (w'.heap[gb124]? = some (.cells #[.slice A0_0 l0_0.length c0_0] 24 (0, 0))) ∧ (w'.heap[gb130]? = some (.cells #[.int .i64 t126, .slice Ao24 t127.length co24] 29 (0, 0))) ∧ (w'.heap[gb138]? = some (.cells #[.int .i64 t134, .slice Ao33 t135.length co33] 29 (0, 0))) ∧ (w'.heap[gb142]? = some (.cells #[.int .i64 t134, .slice Ao41 t139.length co41] 29 (0, 0))) ∧ (Below w.heap.size w w')) ?_ ?_
                    rotate_left
                    · intro hJ3
                      refine join_ (σ := Nat) 5 #[true, true, true, false, true, true, true, false, true, false, false, false] (fun s_ => [(12, .pointer (some ⟨s_, 0, none⟩))]) (fun s_ w' => (w'.cell? ⟨gb130, 0, none⟩ = some (.int .i64 t126) ∧ w'.cell? ⟨gb130, 1, none⟩ = some (.slice Ao24 t127.length co24) ∧ w'.cell? ⟨gb138, 0, none⟩ = some (.int .i64 t134) ∧ w'.cell? ⟨gb138, 1, none⟩ = some (.slice Ao33 t135.length co33) ∧ w'.cell? ⟨gb142, 0, none⟩ = some (.int .i64 t134) ∧ w'.cell? ⟨gb142, 1, none⟩ = some (.slice Ao41 t139.length co41)) ∧ (Kd.R (Kd.int .u64) 25 w' w.heap.size (fun k_ => some k_ ≠ (.slice Ao33 t135.length co33 : Value).ownBlock ∧ some k_ ≠ (.slice Ao41 t139.length co41 : Value).ownBlock) (.slice Ao24 t127.length co24) t127) ∧ (Kd.R (Kd.int .i64) 3 w' w.heap.size (fun k_ => some k_ ≠ (.slice Ao48 t143.length co48 : Value).ownBlock) v132 t131) ∧ (Kd.R (Kd.int .u64) 25 w' w.heap.size (fun k_ => some k_ ≠ (.slice Ao24 t127.length co24 : Value).ownBlock ∧ some k_ ≠ (.slice Ao41 t139.length co41 : Value).ownBlock) (.slice Ao33 t135.length co33) t135) ∧ (Kd.R (Kd.int .u64) 25 w' w.heap.size (fun k_ => some k_ ≠ (.slice Ao24 t127.length co24 : Value).ownBlock ∧ some k_ ≠ (.slice Ao33 t135.length co33 : Value).ownBlock) (.slice Ao41 t139.length co41) t139) ∧ (Kd.R (Kd.int .i64) 3 w' w.heap.size (fun k_ => some k_ ≠ (v132 : Value).ownBlock) (.slice Ao48 t143.length co48) t143) ∧ (w'.heap[gb124]? = some (.cells #[.slice A0_0 l0_0.length c0_0] 24 (0, 0))) ∧ (w'.heap[gb130]? = some (.cells #[.int .i64 t126, .slice Ao24 t127.length co24] 29 (0, 0))) ∧ (w'.heap[gb138]? = some (.cells #[.int .i64 t134, .slice Ao33 t135.length co33] 29 (0, 0))) ∧ (w'.heap[gb142]? = some (.cells #[.int .i64 t134, .slice Ao41 t139.length co41] 29 (0, 0))) ∧ (w'.heap[s_]? = some (.cells #[.slice none 0 0, .slice none 0 0, .int .i64 0] 42 (0, 0))) ∧ (w.heap.size ≤ s_) ∧ (w.heap.size ≤ s_) ∧ (gb124 ≠ s_) ∧ (s_ ≠ gb124) ∧ (gb130 ≠ s_) ∧ (s_ ≠ gb130) ∧ (gb138 ≠ s_) ∧ (s_ ≠ gb138) ∧ (gb142 ≠ s_) ∧ (s_ ≠ gb142) ∧ (Below w.heap.size w w')) ?_ ?_
                      rotate_left
                      · intro hJ8
                        refine join_ (σ := Nat) 5 #[true, true, true, false, true, true, true, false, false, true, false, false] (fun s_ => [(13, .pointer (some ⟨s_, 0, none⟩))]) (fun s_ w' => (w'.cell? ⟨gb130, 0, none⟩ = some (.int .i64 t126) ∧ w'.cell? ⟨gb130, 1, none⟩ = some (.slice Ao24 t127.length co24) ∧ w'.cell? ⟨gb138, 0, none⟩ = some (.int .i64 t134) ∧ w'.cell? ⟨gb138, 1, none⟩ = some (.slice Ao33 t135.length co33) ∧ w'.cell? ⟨gb142, 0, none⟩ = some (.int .i64 t134) ∧ w'.cell? ⟨gb142, 1, none⟩ = some (.slice Ao41 t139.length co41)) ∧ (Kd.R (Kd.int .u64) 25 w' w.heap.size (fun k_ => some k_ ≠ (.slice Ao33 t135.length co33 : Value).ownBlock ∧ some k_ ≠ (.slice Ao41 t139.length co41 : Value).ownBlock) (.slice Ao24 t127.length co24) t127) ∧ (Kd.R (Kd.int .i64) 3 w' w.heap.size (fun k_ => some k_ ≠ (.slice Ao48 t143.length co48 : Value).ownBlock) v132 t131) ∧ (Kd.R (Kd.int .u64) 25 w' w.heap.size (fun k_ => some k_ ≠ (.slice Ao24 t127.length co24 : Value).ownBlock ∧ some k_ ≠ (.slice Ao41 t139.length co41 : Value).ownBlock) (.slice Ao33 t135.length co33) t135) ∧ (Kd.R (Kd.int .u64) 25 w' w.heap.size (fun k_ => some k_ ≠ (.slice Ao24 t127.length co24 : Value).ownBlock ∧ some k_ ≠ (.slice Ao33 t135.length co33 : Value).ownBlock) (.slice Ao41 t139.length co41) t139) ∧ (Kd.R (Kd.int .i64) 3 w' w.heap.size (fun k_ => some k_ ≠ (v132 : Value).ownBlock) (.slice Ao48 t143.length co48) t143) ∧ (w'.heap[gb124]? = some (.cells #[.slice A0_0 l0_0.length c0_0] 24 (0, 0))) ∧ (w'.heap[gb130]? = some (.cells #[.int .i64 t126, .slice Ao24 t127.length co24] 29 (0, 0))) ∧ (w'.heap[gb138]? = some (.cells #[.int .i64 t134, .slice Ao33 t135.length co33] 29 (0, 0))) ∧ (w'.heap[gb142]? = some (.cells #[.int .i64 t134, .slice Ao41 t139.length co41] 29 (0, 0))) ∧ (w'.heap[s_]? = some (.cells #[.slice none 0 0, .slice none 0 0, .int .i64 0] 42 (0, 0))) ∧ (w.heap.size ≤ s_) ∧ (w.heap.size ≤ s_) ∧ (gb124 ≠ s_) ∧ (s_ ≠ gb124) ∧ (gb130 ≠ s_) ∧ (s_ ≠ gb130) ∧ (gb138 ≠ s_) ∧ (s_ ≠ gb138) ∧ (gb142 ≠ s_) ∧ (s_ ≠ gb142) ∧ (Below w.heap.size w w')) ?_ ?_
                        rotate_left
                        · intro hJ9
                          refine three_ (i := 3) (j := 8) (k := 9) (Ni := some 43) (Nj := some 12) (Nk := some 13) #[true, true, true, true, true, true, true, false, false, false, false, false] #[true, true, true, false, true, true, true, false, true, false, false, false] #[true, true, true, false, true, true, true, false, false, true, false, false] rfl rfl rfl rfl rfl rfl (three_of HT_.out (by kernel_rfl)) (by decide) (by decide) (by decide) (fun K hK => ?_) (fun K hK => ?_) (fun K hK => ?_)
                          · skip
                            refine goes_ Tryd.func10 (by kernel_rfl) rfl #[.agg #[.int .i64 t126, .slice Ao24 t127.length co24], .agg #[.int .i64 t134, .slice Ao33 t135.length co33], .slice Ao48 t143.length co48] (by rfl) rfl rfl (by (try simp only [List.map_toArray, List.map_cons, List.map_nil]); first | done | rfl | (simp only [List.length_drop, List.length_take]; rfl)) ?_
                            with_reducible refine (plexuslaw42_best.calls t126 _ _ t127 t134 _ _ t135 _ _ t143 t146 t149 t152 _ ?side1 ?side2 ?side3 ?side4 ?side5 ?side6 A14.out).mono ?_
                            case side1 => exact pkC (Kd.R_reads' HO129.out).2.2
                            case side2 => exact (Kd.R_reads' HO129.out).2.1
                            case side3 => exact pkC (Kd.R_reads' HO137.out).2.2
                            case side4 => exact (Kd.R_reads' HO137.out).2.1
                            case side5 => exact pkC (Kd.R_reads' HO145.out).2.2
                            case side6 => exact (Kd.R_reads' HO145.out).2.1
                            rintro e w50 ⟨v147, v150, rfl, ho0, ho1, hb⟩
                            refine ⟨_, rfl, ?_⟩
                            replace HO129 := pkRb HO129 hb
                            replace HO137 := pkRb HO137 hb
                            replace HO141 := pkRb HO141 hb
                            have HO148 := Aside0.mk (Kd.R_lower (Kd.R_new' (Kd.R_new' ho0 (Kd.R_lt (pkR HO133.out))) (Kd.R_lt (pkR HO145.out))) (pkZ HB))
                            have HO151 := Aside0.mk (Kd.R_lower (Kd.R_new' (Kd.R_new' ho1 (Kd.R_lt (pkR HO133.out))) (Kd.R_lt (pkR HO145.out))) (pkZ HB))
                            replace HO133 := Aside0.mk (Kd.R_mono (Kd.R_told (Kd.R_told (Kd.R_old (pkR HO133.out) hb) (Kd.R_base ho0)) (Kd.R_base ho1)) (fun _ h_ => h_.1))
                            replace HO145 := Aside0.mk (Kd.R_mono (Kd.R_told (Kd.R_told (Kd.R_old (pkR HO145.out) hb) (Kd.R_base ho0)) (Kd.R_base ho1)) (fun _ h_ => h_.1))
                            replace BK124 := pkBb BK124 hb
                            replace BK130 := pkBb BK130 hb
                            replace BK138 := pkBb BK138 hb
                            replace BK142 := pkBb BK142 hb
                            replace HB := pkS HB hb
                            (try clear hb)
                            (try clear hb2)
                            (try clear hk)
                            (try clear hi)
                            (try clear ho0)
                            (try clear ho1)
                            refine hK.out _ _ ⟨(blk_cell BK130.out 0).trans rfl, (blk_cell BK130.out 1).trans rfl, (blk_cell BK138.out 0).trans rfl, (blk_cell BK138.out 1).trans rfl, (blk_cell BK142.out 0).trans rfl, (blk_cell BK142.out 1).trans rfl⟩ (fun hHeld => ?_)
                            clear hK K
                            refine pkA 43 ?_
                            exact pkJ (hJ3 (v147, v150) _ ⟨hHeld, (pkR HO129.out), (by (with_reducible repeat (first | apply Kd.R_alloc | apply Kd.R_drewN | apply Kd.R_drew)); exact Kd.R_mono HO133.out (fun _ hk => ⟨hk.1.1.2, ⟨hk.1.2, hk.2⟩⟩)), (pkR HO137.out), (pkR HO141.out), (by (with_reducible repeat (first | apply Kd.R_alloc | apply Kd.R_drewN | apply Kd.R_drew)); exact Kd.R_mono HO145.out (fun _ hk => ⟨hk.1.1.2, ⟨hk.1.2, hk.2⟩⟩)), (by (with_reducible repeat (first | apply Kd.R_alloc | apply Kd.R_drewN | apply Kd.R_drew)); exact Kd.R_mono HO148.out (fun _ hk => ⟨hk.1.2, ⟨hk.2, hk.1.1⟩⟩)), (by (with_reducible repeat (first | apply Kd.R_alloc | apply Kd.R_drewN | apply Kd.R_drew)); exact Kd.R_mono HO151.out (fun _ hk => ⟨hk.1.2, ⟨hk.2, hk.1.1⟩⟩)), (pkB BK124.out), (pkB BK130.out), (pkB BK138.out), (pkB BK142.out), (pkW HB.out)⟩)
                          · skip
                            refine box_step ?hg (N := 12) ?hd (cs := #[.slice none 0 0, .slice none 0 0, .int .i64 0]) (t := 42) ?hr ?_; (case hd => rfl); (case hg => rfl); (case hr => first | (go_simp; done) | (go_simp; rfl))
                            intro gb160 hg w50 hbox hb
                            replace HO129 := pkRb HO129 hb
                            replace HO133 := pkRb HO133 hb
                            replace HO137 := pkRb HO137 hb
                            replace HO141 := pkRb HO141 hb
                            replace HO145 := pkRb HO145 hb
                            have BK160 := Aside0.mk (hbox)
                            have GW160 := pkG hg HB
                            have GE160 := pkG hg HB
                            replace HB := pkS HB hb
                            have NB124_160 := pkN hg BK124
                            have NB160_124 := pkM hg BK124
                            replace BK124 := pkBb BK124 hb
                            have NB130_160 := pkN hg BK130
                            have NB160_130 := pkM hg BK130
                            replace BK130 := pkBb BK130 hb
                            have NB138_160 := pkN hg BK138
                            have NB160_138 := pkM hg BK138
                            replace BK138 := pkBb BK138 hb
                            have NB142_160 := pkN hg BK142
                            have NB160_142 := pkM hg BK142
                            replace BK142 := pkBb BK142 hb
                            clear hb hbox hg
                            refine hK.out _ _ ⟨(blk_cell BK130.out 0).trans rfl, (blk_cell BK130.out 1).trans rfl, (blk_cell BK138.out 0).trans rfl, (blk_cell BK138.out 1).trans rfl, (blk_cell BK142.out 0).trans rfl, (blk_cell BK142.out 1).trans rfl⟩ (fun hHeld => ?_)
                            clear hK K
                            refine pkA 12 ?_
                            exact pkJ (hJ8 (gb160) _ ⟨hHeld, (pkR HO129.out), (pkR (Kd.R_mono HO133.out (fun _ hk => hk.2))), (pkR HO137.out), (pkR HO141.out), (pkR (Kd.R_mono HO145.out (fun _ hk => hk.2))), (pkB BK124.out), (pkB BK130.out), (pkB BK138.out), (pkB BK142.out), (pkB BK160.out), GW160.out, GE160.out, NB124_160.out, NB160_124.out, NB130_160.out, NB160_130.out, NB138_160.out, NB160_138.out, NB142_160.out, NB160_142.out, (pkW HB.out)⟩)
                          · skip
                            refine box_step ?hg (N := 13) ?hd (cs := #[.slice none 0 0, .slice none 0 0, .int .i64 0]) (t := 42) ?hr ?_; (case hd => rfl); (case hg => rfl); (case hr => first | (go_simp; done) | (go_simp; rfl))
                            intro gb161 hg w50 hbox hb
                            replace HO129 := pkRb HO129 hb
                            replace HO133 := pkRb HO133 hb
                            replace HO137 := pkRb HO137 hb
                            replace HO141 := pkRb HO141 hb
                            replace HO145 := pkRb HO145 hb
                            have BK161 := Aside0.mk (hbox)
                            have GW161 := pkG hg HB
                            have GE161 := pkG hg HB
                            replace HB := pkS HB hb
                            have NB124_161 := pkN hg BK124
                            have NB161_124 := pkM hg BK124
                            replace BK124 := pkBb BK124 hb
                            have NB130_161 := pkN hg BK130
                            have NB161_130 := pkM hg BK130
                            replace BK130 := pkBb BK130 hb
                            have NB138_161 := pkN hg BK138
                            have NB161_138 := pkM hg BK138
                            replace BK138 := pkBb BK138 hb
                            have NB142_161 := pkN hg BK142
                            have NB161_142 := pkM hg BK142
                            replace BK142 := pkBb BK142 hb
                            clear hb hbox hg
                            refine hK.out _ _ ⟨(blk_cell BK130.out 0).trans rfl, (blk_cell BK130.out 1).trans rfl, (blk_cell BK138.out 0).trans rfl, (blk_cell BK138.out 1).trans rfl, (blk_cell BK142.out 0).trans rfl, (blk_cell BK142.out 1).trans rfl⟩ (fun hHeld => ?_)
                            clear hK K
                            refine pkA 13 ?_
                            exact pkJ (hJ9 (gb161) _ ⟨hHeld, (pkR HO129.out), (pkR (Kd.R_mono HO133.out (fun _ hk => hk.2))), (pkR HO137.out), (pkR HO141.out), (pkR (Kd.R_mono HO145.out (fun _ hk => hk.2))), (pkB BK124.out), (pkB BK130.out), (pkB BK138.out), (pkB BK142.out), (pkB BK161.out), GW161.out, GE161.out, NB124_161.out, NB161_124.out, NB130_161.out, NB161_130.out, NB138_161.out, NB161_138.out, NB142_161.out, NB161_142.out, (pkW HB.out)⟩)
                        · skip
                          clear HO129 HO133 HO137 HO141 HO145 BK124 BK130 BK138 BK142 HB
                          rintro gb161 w51 ⟨hS_, HO129, HO133, HO137, HO141, HO145, BK124, BK130, BK138, BK142, BK161, GW161, GE161, NB124_161, NB161_124, NB130_161, NB161_130, NB138_161, NB161_138, NB142_161, NB161_142, HB⟩
                          try dsimp only at HO129 HO133 HO137 HO141 HO145 BK124 BK130 BK138 BK142 BK161 GW161 GE161 NB124_161 NB161_124 NB130_161 NB161_130 NB138_161 NB161_138 NB142_161 NB161_142 HB
                          replace HO129 := Aside0.mk HO129
                          replace HO133 := Aside0.mk HO133
                          replace HO137 := Aside0.mk HO137
                          replace HO141 := Aside0.mk HO141
                          replace HO145 := Aside0.mk HO145
                          replace BK124 := Aside0.mk BK124
                          replace BK130 := Aside0.mk BK130
                          replace BK138 := Aside0.mk BK138
                          replace BK142 := Aside0.mk BK142
                          replace BK161 := Aside0.mk BK161
                          replace GW161 := Aside0.mk GW161
                          replace GE161 := Aside0.mk GE161
                          replace NB124_161 := Aside0.mk NB124_161
                          replace NB161_124 := Aside0.mk NB161_124
                          replace NB130_161 := Aside0.mk NB130_161
                          replace NB161_130 := Aside0.mk NB161_130
                          replace NB138_161 := Aside0.mk NB138_161
                          replace NB161_138 := Aside0.mk NB161_138
                          replace NB142_161 := Aside0.mk NB142_161
                          replace NB161_142 := Aside0.mk NB161_142
                          replace HB := Aside0.mk HB
                          have hHeld : w51.cell? ⟨gb130, 0, none⟩ = some (.int .i64 t126) ∧ w51.cell? ⟨gb130, 1, none⟩ = some (.slice Ao24 t127.length co24) ∧ w51.cell? ⟨gb138, 0, none⟩ = some (.int .i64 t134) ∧ w51.cell? ⟨gb138, 1, none⟩ = some (.slice Ao33 t135.length co33) ∧ w51.cell? ⟨gb142, 0, none⟩ = some (.int .i64 t134) ∧ w51.cell? ⟨gb142, 1, none⟩ = some (.slice Ao41 t139.length co41) := hS_
                          refine norm_ (a' := ?_) ?_ ?_
                          rotate_left
                          · simp only [YtheclfjbedajfaaDoorW.PrintLast.putAll, Act.put, List.setIfInBounds_toArray, List.set_cons_zero, List.set_cons_succ]
                            rfl
                          refine two_ (i := 3) (j := 8) (Ni := some 43) (Nj := some 12) #[true, true, true, true, true, true, true, false, false, true, false, false] #[true, true, true, false, true, true, true, false, true, true, false, false] rfl rfl rfl rfl (two_of HT_.out (by kernel_rfl)) (by decide) (by decide) (fun K hK => ?_) (fun K hK => ?_)
                          · skip
                            refine goes_ Tryd.func10 (by kernel_rfl) rfl #[.agg #[.int .i64 t126, .slice Ao24 t127.length co24], .agg #[.int .i64 t134, .slice Ao33 t135.length co33], .slice Ao48 t143.length co48] (by rfl) rfl rfl (by (try simp only [List.map_toArray, List.map_cons, List.map_nil]); first | done | rfl | (simp only [List.length_drop, List.length_take]; rfl)) ?_
                            with_reducible refine (plexuslaw42_best.calls t126 _ _ t127 t134 _ _ t135 _ _ t143 t146 t149 t152 _ ?side1 ?side2 ?side3 ?side4 ?side5 ?side6 A14.out).mono ?_
                            case side1 => exact pkC (Kd.R_reads' HO129.out).2.2
                            case side2 => exact (Kd.R_reads' HO129.out).2.1
                            case side3 => exact pkC (Kd.R_reads' HO137.out).2.2
                            case side4 => exact (Kd.R_reads' HO137.out).2.1
                            case side5 => exact pkC (Kd.R_reads' HO145.out).2.2
                            case side6 => exact (Kd.R_reads' HO145.out).2.1
                            rintro e w52 ⟨v147, v150, rfl, ho0, ho1, hb⟩
                            refine ⟨_, rfl, ?_⟩
                            replace HO129 := pkRb HO129 hb
                            replace HO137 := pkRb HO137 hb
                            replace HO141 := pkRb HO141 hb
                            have HO148 := Aside0.mk (Kd.R_lower (Kd.R_new' (Kd.R_new' ho0 (Kd.R_lt (pkR HO133.out))) (Kd.R_lt (pkR HO145.out))) (pkZ HB))
                            have HO151 := Aside0.mk (Kd.R_lower (Kd.R_new' (Kd.R_new' ho1 (Kd.R_lt (pkR HO133.out))) (Kd.R_lt (pkR HO145.out))) (pkZ HB))
                            replace HO133 := Aside0.mk (Kd.R_mono (Kd.R_told (Kd.R_told (Kd.R_old (pkR HO133.out) hb) (Kd.R_base ho0)) (Kd.R_base ho1)) (fun _ h_ => h_.1))
                            replace HO145 := Aside0.mk (Kd.R_mono (Kd.R_told (Kd.R_told (Kd.R_old (pkR HO145.out) hb) (Kd.R_base ho0)) (Kd.R_base ho1)) (fun _ h_ => h_.1))
                            replace BK124 := pkBb BK124 hb
                            replace BK130 := pkBb BK130 hb
                            replace BK138 := pkBb BK138 hb
                            replace BK142 := pkBb BK142 hb
                            replace BK161 := pkBb BK161 hb
                            replace HB := pkS HB hb
                            (try clear hb)
                            (try clear hb2)
                            (try clear hk)
                            (try clear hi)
                            (try clear ho0)
                            (try clear ho1)
                            refine hK.out _ _ ⟨(blk_cell BK130.out 0).trans rfl, (blk_cell BK130.out 1).trans rfl, (blk_cell BK138.out 0).trans rfl, (blk_cell BK138.out 1).trans rfl, (blk_cell BK142.out 0).trans rfl, (blk_cell BK142.out 1).trans rfl⟩ (fun hHeld => ?_)
                            clear hK K
                            refine pkA 43 ?_
                            exact pkJ (hJ3_9 (v147, v150, gb161) _ ⟨hHeld, (pkR HO129.out), (by (with_reducible repeat (first | apply Kd.R_alloc | apply Kd.R_drewN | apply Kd.R_drew)); exact Kd.R_mono HO133.out (fun _ hk => ⟨hk.1.1, ⟨hk.1.2, hk.2⟩⟩)), (pkR HO137.out), (pkR HO141.out), (by (with_reducible repeat (first | apply Kd.R_alloc | apply Kd.R_drewN | apply Kd.R_drew)); exact Kd.R_mono HO145.out (fun _ hk => ⟨hk.1.1, ⟨hk.1.2, hk.2⟩⟩)), (by (with_reducible repeat (first | apply Kd.R_alloc | apply Kd.R_drewN | apply Kd.R_drew)); exact Kd.R_mono HO148.out (fun _ hk => ⟨hk.1.2, ⟨hk.2, hk.1.1⟩⟩)), (by (with_reducible repeat (first | apply Kd.R_alloc | apply Kd.R_drewN | apply Kd.R_drew)); exact Kd.R_mono HO151.out (fun _ hk => ⟨hk.1.2, ⟨hk.2, hk.1.1⟩⟩)), (pkB BK124.out), (pkB BK130.out), (pkB BK138.out), (pkB BK142.out), (pkB BK161.out), GW161.out, GE161.out, NB124_161.out, NB161_124.out, NB130_161.out, NB161_130.out, NB138_161.out, NB161_138.out, NB142_161.out, NB161_142.out, (pkW HB.out)⟩)
                          · skip
                            refine box_step ?hg (N := 12) ?hd (cs := #[.slice none 0 0, .slice none 0 0, .int .i64 0]) (t := 42) ?hr ?_; (case hd => rfl); (case hg => rfl); (case hr => first | (go_simp; done) | (go_simp; rfl))
                            intro gb160 hg w52 hbox hb
                            replace HO129 := pkRb HO129 hb
                            replace HO133 := pkRb HO133 hb
                            replace HO137 := pkRb HO137 hb
                            replace HO141 := pkRb HO141 hb
                            replace HO145 := pkRb HO145 hb
                            have BK160 := Aside0.mk (hbox)
                            have GW160 := pkG hg HB
                            have GE160 := pkG hg HB
                            replace HB := pkS HB hb
                            have NB124_160 := pkN hg BK124
                            have NB160_124 := pkM hg BK124
                            replace BK124 := pkBb BK124 hb
                            have NB130_160 := pkN hg BK130
                            have NB160_130 := pkM hg BK130
                            replace BK130 := pkBb BK130 hb
                            have NB138_160 := pkN hg BK138
                            have NB160_138 := pkM hg BK138
                            replace BK138 := pkBb BK138 hb
                            have NB142_160 := pkN hg BK142
                            have NB160_142 := pkM hg BK142
                            replace BK142 := pkBb BK142 hb
                            have NB161_160 := pkN hg BK161
                            have NB160_161 := pkM hg BK161
                            replace BK161 := pkBb BK161 hb
                            clear hb hbox hg
                            refine hK.out _ _ ⟨(blk_cell BK130.out 0).trans rfl, (blk_cell BK130.out 1).trans rfl, (blk_cell BK138.out 0).trans rfl, (blk_cell BK138.out 1).trans rfl, (blk_cell BK142.out 0).trans rfl, (blk_cell BK142.out 1).trans rfl⟩ (fun hHeld => ?_)
                            clear hK K
                            refine pkA 12 ?_
                            exact pkJ (hJ8_9 (gb160, gb161) _ ⟨hHeld, (pkR HO129.out), (pkR HO133.out), (pkR HO137.out), (pkR HO141.out), (pkR HO145.out), (pkB BK124.out), (pkB BK130.out), (pkB BK138.out), (pkB BK142.out), (pkB BK160.out), (pkB BK161.out), GW160.out, GE160.out, NB124_160.out, NB160_124.out, NB130_160.out, NB160_130.out, NB138_160.out, NB160_138.out, NB142_160.out, NB160_142.out, NB161_160.out, NB160_161.out, GW161.out, GE161.out, NB124_161.out, NB161_124.out, NB130_161.out, NB161_130.out, NB138_161.out, NB161_138.out, NB142_161.out, NB161_142.out, (pkW HB.out)⟩)
                      · skip
                        clear HO129 HO133 HO137 HO141 HO145 BK124 BK130 BK138 BK142 HB
                        rintro gb160 w51 ⟨hS_, HO129, HO133, HO137, HO141, HO145, BK124, BK130, BK138, BK142, BK160, GW160, GE160, NB124_160, NB160_124, NB130_160, NB160_130, NB138_160, NB160_138, NB142_160, NB160_142, HB⟩
                        try dsimp only at HO129 HO133 HO137 HO141 HO145 BK124 BK130 BK138 BK142 BK160 GW160 GE160 NB124_160 NB160_124 NB130_160 NB160_130 NB138_160 NB160_138 NB142_160 NB160_142 HB
                        replace HO129 := Aside0.mk HO129
                        replace HO133 := Aside0.mk HO133
                        replace HO137 := Aside0.mk HO137
                        replace HO141 := Aside0.mk HO141
                        replace HO145 := Aside0.mk HO145
                        replace BK124 := Aside0.mk BK124
                        replace BK130 := Aside0.mk BK130
                        replace BK138 := Aside0.mk BK138
                        replace BK142 := Aside0.mk BK142
                        replace BK160 := Aside0.mk BK160
                        replace GW160 := Aside0.mk GW160
                        replace GE160 := Aside0.mk GE160
                        replace NB124_160 := Aside0.mk NB124_160
                        replace NB160_124 := Aside0.mk NB160_124
                        replace NB130_160 := Aside0.mk NB130_160
                        replace NB160_130 := Aside0.mk NB160_130
                        replace NB138_160 := Aside0.mk NB138_160
                        replace NB160_138 := Aside0.mk NB160_138
                        replace NB142_160 := Aside0.mk NB142_160
                        replace NB160_142 := Aside0.mk NB160_142
                        replace HB := Aside0.mk HB
                        have hHeld : w51.cell? ⟨gb130, 0, none⟩ = some (.int .i64 t126) ∧ w51.cell? ⟨gb130, 1, none⟩ = some (.slice Ao24 t127.length co24) ∧ w51.cell? ⟨gb138, 0, none⟩ = some (.int .i64 t134) ∧ w51.cell? ⟨gb138, 1, none⟩ = some (.slice Ao33 t135.length co33) ∧ w51.cell? ⟨gb142, 0, none⟩ = some (.int .i64 t134) ∧ w51.cell? ⟨gb142, 1, none⟩ = some (.slice Ao41 t139.length co41) := hS_
                        refine norm_ (a' := ?_) ?_ ?_
                        rotate_left
                        · simp only [YtheclfjbedajfaaDoorW.PrintLast.putAll, Act.put, List.setIfInBounds_toArray, List.set_cons_zero, List.set_cons_succ]
                          rfl
                        refine two_ (i := 3) (j := 9) (Ni := some 43) (Nj := some 13) #[true, true, true, true, true, true, true, false, true, false, false, false] #[true, true, true, false, true, true, true, false, true, true, false, false] rfl rfl rfl rfl (two_of HT_.out (by kernel_rfl)) (by decide) (by decide) (fun K hK => ?_) (fun K hK => ?_)
                        · skip
                          refine goes_ Tryd.func10 (by kernel_rfl) rfl #[.agg #[.int .i64 t126, .slice Ao24 t127.length co24], .agg #[.int .i64 t134, .slice Ao33 t135.length co33], .slice Ao48 t143.length co48] (by rfl) rfl rfl (by (try simp only [List.map_toArray, List.map_cons, List.map_nil]); first | done | rfl | (simp only [List.length_drop, List.length_take]; rfl)) ?_
                          with_reducible refine (plexuslaw42_best.calls t126 _ _ t127 t134 _ _ t135 _ _ t143 t146 t149 t152 _ ?side1 ?side2 ?side3 ?side4 ?side5 ?side6 A14.out).mono ?_
                          case side1 => exact pkC (Kd.R_reads' HO129.out).2.2
                          case side2 => exact (Kd.R_reads' HO129.out).2.1
                          case side3 => exact pkC (Kd.R_reads' HO137.out).2.2
                          case side4 => exact (Kd.R_reads' HO137.out).2.1
                          case side5 => exact pkC (Kd.R_reads' HO145.out).2.2
                          case side6 => exact (Kd.R_reads' HO145.out).2.1
                          rintro e w52 ⟨v147, v150, rfl, ho0, ho1, hb⟩
                          refine ⟨_, rfl, ?_⟩
                          replace HO129 := pkRb HO129 hb
                          replace HO137 := pkRb HO137 hb
                          replace HO141 := pkRb HO141 hb
                          have HO148 := Aside0.mk (Kd.R_lower (Kd.R_new' (Kd.R_new' ho0 (Kd.R_lt (pkR HO133.out))) (Kd.R_lt (pkR HO145.out))) (pkZ HB))
                          have HO151 := Aside0.mk (Kd.R_lower (Kd.R_new' (Kd.R_new' ho1 (Kd.R_lt (pkR HO133.out))) (Kd.R_lt (pkR HO145.out))) (pkZ HB))
                          replace HO133 := Aside0.mk (Kd.R_mono (Kd.R_told (Kd.R_told (Kd.R_old (pkR HO133.out) hb) (Kd.R_base ho0)) (Kd.R_base ho1)) (fun _ h_ => h_.1))
                          replace HO145 := Aside0.mk (Kd.R_mono (Kd.R_told (Kd.R_told (Kd.R_old (pkR HO145.out) hb) (Kd.R_base ho0)) (Kd.R_base ho1)) (fun _ h_ => h_.1))
                          replace BK124 := pkBb BK124 hb
                          replace BK130 := pkBb BK130 hb
                          replace BK138 := pkBb BK138 hb
                          replace BK142 := pkBb BK142 hb
                          replace BK160 := pkBb BK160 hb
                          replace HB := pkS HB hb
                          (try clear hb)
                          (try clear hb2)
                          (try clear hk)
                          (try clear hi)
                          (try clear ho0)
                          (try clear ho1)
                          refine hK.out _ _ ⟨(blk_cell BK130.out 0).trans rfl, (blk_cell BK130.out 1).trans rfl, (blk_cell BK138.out 0).trans rfl, (blk_cell BK138.out 1).trans rfl, (blk_cell BK142.out 0).trans rfl, (blk_cell BK142.out 1).trans rfl⟩ (fun hHeld => ?_)
                          clear hK K
                          refine pkA 43 ?_
                          exact pkJ (hJ3_8 (v147, v150, gb160) _ ⟨hHeld, (pkR HO129.out), (by (with_reducible repeat (first | apply Kd.R_alloc | apply Kd.R_drewN | apply Kd.R_drew)); exact Kd.R_mono HO133.out (fun _ hk => ⟨hk.1.1, ⟨hk.1.2, hk.2⟩⟩)), (pkR HO137.out), (pkR HO141.out), (by (with_reducible repeat (first | apply Kd.R_alloc | apply Kd.R_drewN | apply Kd.R_drew)); exact Kd.R_mono HO145.out (fun _ hk => ⟨hk.1.1, ⟨hk.1.2, hk.2⟩⟩)), (by (with_reducible repeat (first | apply Kd.R_alloc | apply Kd.R_drewN | apply Kd.R_drew)); exact Kd.R_mono HO148.out (fun _ hk => ⟨hk.1.2, ⟨hk.2, hk.1.1⟩⟩)), (by (with_reducible repeat (first | apply Kd.R_alloc | apply Kd.R_drewN | apply Kd.R_drew)); exact Kd.R_mono HO151.out (fun _ hk => ⟨hk.1.2, ⟨hk.2, hk.1.1⟩⟩)), (pkB BK124.out), (pkB BK130.out), (pkB BK138.out), (pkB BK142.out), (pkB BK160.out), GW160.out, GE160.out, NB124_160.out, NB160_124.out, NB130_160.out, NB160_130.out, NB138_160.out, NB160_138.out, NB142_160.out, NB160_142.out, (pkW HB.out)⟩)
                        · skip
                          refine box_step ?hg (N := 13) ?hd (cs := #[.slice none 0 0, .slice none 0 0, .int .i64 0]) (t := 42) ?hr ?_; (case hd => rfl); (case hg => rfl); (case hr => first | (go_simp; done) | (go_simp; rfl))
                          intro gb161 hg w52 hbox hb
                          replace HO129 := pkRb HO129 hb
                          replace HO133 := pkRb HO133 hb
                          replace HO137 := pkRb HO137 hb
                          replace HO141 := pkRb HO141 hb
                          replace HO145 := pkRb HO145 hb
                          have BK161 := Aside0.mk (hbox)
                          have GW161 := pkG hg HB
                          have GE161 := pkG hg HB
                          replace HB := pkS HB hb
                          have NB124_161 := pkN hg BK124
                          have NB161_124 := pkM hg BK124
                          replace BK124 := pkBb BK124 hb
                          have NB130_161 := pkN hg BK130
                          have NB161_130 := pkM hg BK130
                          replace BK130 := pkBb BK130 hb
                          have NB138_161 := pkN hg BK138
                          have NB161_138 := pkM hg BK138
                          replace BK138 := pkBb BK138 hb
                          have NB142_161 := pkN hg BK142
                          have NB161_142 := pkM hg BK142
                          replace BK142 := pkBb BK142 hb
                          have NB160_161 := pkN hg BK160
                          have NB161_160 := pkM hg BK160
                          replace BK160 := pkBb BK160 hb
                          clear hb hbox hg
                          refine hK.out _ _ ⟨(blk_cell BK130.out 0).trans rfl, (blk_cell BK130.out 1).trans rfl, (blk_cell BK138.out 0).trans rfl, (blk_cell BK138.out 1).trans rfl, (blk_cell BK142.out 0).trans rfl, (blk_cell BK142.out 1).trans rfl⟩ (fun hHeld => ?_)
                          clear hK K
                          refine pkA 13 ?_
                          exact pkJ (hJ8_9 (gb160, gb161) _ ⟨hHeld, (pkR HO129.out), (pkR HO133.out), (pkR HO137.out), (pkR HO141.out), (pkR HO145.out), (pkB BK124.out), (pkB BK130.out), (pkB BK138.out), (pkB BK142.out), (pkB BK160.out), (pkB BK161.out), GW160.out, GE160.out, NB124_160.out, NB160_124.out, NB130_160.out, NB160_130.out, NB138_160.out, NB160_138.out, NB142_160.out, NB160_142.out, NB161_160.out, NB160_161.out, GW161.out, GE161.out, NB124_161.out, NB161_124.out, NB130_161.out, NB161_130.out, NB138_161.out, NB161_138.out, NB142_161.out, NB161_142.out, (pkW HB.out)⟩)
                    · skip
                      clear HO129 HO133 HO137 HO141 HO145 BK124 BK130 BK138 BK142 HB
                      rintro ⟨v147, v150⟩ w51 ⟨hS_, HO129, HO133, HO137, HO141, HO145, HO148, HO151, BK124, BK130, BK138, BK142, HB⟩
                      try dsimp only at HO129 HO133 HO137 HO141 HO145 HO148 HO151 BK124 BK130 BK138 BK142 HB
                      replace HO129 := Aside0.mk HO129
                      replace HO133 := Aside0.mk HO133
                      replace HO137 := Aside0.mk HO137
                      replace HO141 := Aside0.mk HO141
                      replace HO145 := Aside0.mk HO145
                      replace HO148 := Aside0.mk HO148
                      replace HO151 := Aside0.mk HO151
                      replace BK124 := Aside0.mk BK124
                      replace BK130 := Aside0.mk BK130
                      replace BK138 := Aside0.mk BK138
                      replace BK142 := Aside0.mk BK142
                      replace HB := Aside0.mk HB
                      have hHeld : w51.cell? ⟨gb130, 0, none⟩ = some (.int .i64 t126) ∧ w51.cell? ⟨gb130, 1, none⟩ = some (.slice Ao24 t127.length co24) ∧ w51.cell? ⟨gb138, 0, none⟩ = some (.int .i64 t134) ∧ w51.cell? ⟨gb138, 1, none⟩ = some (.slice Ao33 t135.length co33) ∧ w51.cell? ⟨gb142, 0, none⟩ = some (.int .i64 t134) ∧ w51.cell? ⟨gb142, 1, none⟩ = some (.slice Ao41 t139.length co41) := hS_
                      refine norm_ (a' := ?_) ?_ ?_
                      rotate_left
                      · simp only [YtheclfjbedajfaaDoorW.PrintLast.putAll, Act.put, List.setIfInBounds_toArray, List.set_cons_zero, List.set_cons_succ]
                        rfl
                      refine three_ (i := 7) (j := 8) (k := 9) (Ni := some 47) (Nj := some 12) (Nk := some 13) #[true, true, true, true, true, true, true, true, false, false, false, false] #[true, true, true, true, true, true, true, false, true, false, false, false] #[true, true, true, true, true, true, true, false, false, true, false, false] rfl rfl rfl rfl rfl rfl (three_of HT_.out (by kernel_rfl)) (by decide) (by decide) (by decide) (fun K hK => ?_) (fun K hK => ?_) (fun K hK => ?_)
                      · skip
                        refine goes_ Tryd.func10 (by kernel_rfl) rfl #[.agg #[.int .i64 t126, .slice Ao24 t127.length co24], .agg #[.int .i64 t134, .slice Ao41 t139.length co41], .slice Ao48 t143.length co48] (by rfl) rfl rfl (by (try simp only [List.map_toArray, List.map_cons, List.map_nil]); first | done | rfl | (simp only [List.length_drop, List.length_take]; rfl)) ?_
                        with_reducible refine (plexuslaw42_best.calls t126 _ _ t127 t134 _ _ t139 _ _ t143 t153 t156 t159 _ ?side1 ?side2 ?side3 ?side4 ?side5 ?side6 A15.out).mono ?_
                        case side1 => exact pkC (Kd.R_reads' HO129.out).2.2
                        case side2 => exact (Kd.R_reads' HO129.out).2.1
                        case side3 => exact pkC (Kd.R_reads' HO141.out).2.2
                        case side4 => exact (Kd.R_reads' HO141.out).2.1
                        case side5 => exact pkC (Kd.R_reads' HO145.out).2.2
                        case side6 => exact (Kd.R_reads' HO145.out).2.1
                        rintro e w52 ⟨v154, v157, rfl, ho0, ho1, hb⟩
                        refine ⟨_, rfl, ?_⟩
                        replace HO129 := pkRb HO129 hb
                        replace HO137 := pkRb HO137 hb
                        replace HO141 := pkRb HO141 hb
                        have HO155 := Aside0.mk (Kd.R_lower (Kd.R_new' (Kd.R_new' (Kd.R_new' (Kd.R_new' ho0 (Kd.R_lt (pkR HO133.out))) (Kd.R_lt (pkR HO145.out))) (Kd.R_lt (pkR HO148.out))) (Kd.R_lt (pkR HO151.out))) (pkZ HB))
                        have HO158 := Aside0.mk (Kd.R_lower (Kd.R_new' (Kd.R_new' (Kd.R_new' (Kd.R_new' ho1 (Kd.R_lt (pkR HO133.out))) (Kd.R_lt (pkR HO145.out))) (Kd.R_lt (pkR HO148.out))) (Kd.R_lt (pkR HO151.out))) (pkZ HB))
                        replace HO133 := Aside0.mk (Kd.R_mono (Kd.R_told (Kd.R_told (Kd.R_old (pkR HO133.out) hb) (Kd.R_base ho0)) (Kd.R_base ho1)) (fun _ h_ => h_.1))
                        replace HO145 := Aside0.mk (Kd.R_mono (Kd.R_told (Kd.R_told (Kd.R_old (pkR HO145.out) hb) (Kd.R_base ho0)) (Kd.R_base ho1)) (fun _ h_ => h_.1))
                        replace HO148 := Aside0.mk (Kd.R_mono (Kd.R_told (Kd.R_told (Kd.R_old (pkR HO148.out) hb) (Kd.R_base ho0)) (Kd.R_base ho1)) (fun _ h_ => h_.1))
                        replace HO151 := Aside0.mk (Kd.R_mono (Kd.R_told (Kd.R_told (Kd.R_old (pkR HO151.out) hb) (Kd.R_base ho0)) (Kd.R_base ho1)) (fun _ h_ => h_.1))
                        replace BK124 := pkBb BK124 hb
                        replace BK130 := pkBb BK130 hb
                        replace BK138 := pkBb BK138 hb
                        replace BK142 := pkBb BK142 hb
                        replace HB := pkS HB hb
                        (try clear hb)
                        (try clear hb2)
                        (try clear hk)
                        (try clear hi)
                        (try clear ho0)
                        (try clear ho1)
                        refine hK.out _ _ ⟨(blk_cell BK130.out 0).trans rfl, (blk_cell BK130.out 1).trans rfl, (blk_cell BK138.out 0).trans rfl, (blk_cell BK138.out 1).trans rfl, (blk_cell BK142.out 0).trans rfl, (blk_cell BK142.out 1).trans rfl⟩ (fun hHeld => ?_)
                        clear hK K
                        refine pkA 47 ?_
                        exact pkJ (hJ3_7 (v147, v150, v154, v157) _ ⟨hHeld, (pkR HO129.out), (by (with_reducible repeat (first | apply Kd.R_alloc | apply Kd.R_drewN | apply Kd.R_drew)); exact Kd.R_mono HO133.out (fun _ hk => ⟨hk.1.1.1, ⟨hk.1.1.2.1, ⟨hk.1.1.2.2, ⟨hk.1.2, hk.2⟩⟩⟩⟩)), (pkR HO137.out), (pkR HO141.out), (by (with_reducible repeat (first | apply Kd.R_alloc | apply Kd.R_drewN | apply Kd.R_drew)); exact Kd.R_mono HO145.out (fun _ hk => ⟨hk.1.1.1, ⟨hk.1.1.2.1, ⟨hk.1.1.2.2, ⟨hk.1.2, hk.2⟩⟩⟩⟩)), (by (with_reducible repeat (first | apply Kd.R_alloc | apply Kd.R_drewN | apply Kd.R_drew)); exact Kd.R_mono HO148.out (fun _ hk => ⟨hk.1.1.1, ⟨hk.1.1.2.1, ⟨hk.1.1.2.2, ⟨hk.1.2, hk.2⟩⟩⟩⟩)), (by (with_reducible repeat (first | apply Kd.R_alloc | apply Kd.R_drewN | apply Kd.R_drew)); exact Kd.R_mono HO151.out (fun _ hk => ⟨hk.1.1.1, ⟨hk.1.1.2.1, ⟨hk.1.1.2.2, ⟨hk.1.2, hk.2⟩⟩⟩⟩)), (by (with_reducible repeat (first | apply Kd.R_alloc | apply Kd.R_drewN | apply Kd.R_drew)); exact Kd.R_mono HO155.out (fun _ hk => ⟨hk.1.1.1.2, ⟨hk.1.1.2, ⟨hk.1.2, ⟨hk.2, hk.1.1.1.1⟩⟩⟩⟩)), (by (with_reducible repeat (first | apply Kd.R_alloc | apply Kd.R_drewN | apply Kd.R_drew)); exact Kd.R_mono HO158.out (fun _ hk => ⟨hk.1.1.1.2, ⟨hk.1.1.2, ⟨hk.1.2, ⟨hk.2, hk.1.1.1.1⟩⟩⟩⟩)), (pkB BK124.out), (pkB BK130.out), (pkB BK138.out), (pkB BK142.out), (pkW HB.out)⟩)
                      · skip
                        refine box_step ?hg (N := 12) ?hd (cs := #[.slice none 0 0, .slice none 0 0, .int .i64 0]) (t := 42) ?hr ?_; (case hd => rfl); (case hg => rfl); (case hr => first | (go_simp; done) | (go_simp; rfl))
                        intro gb160 hg w52 hbox hb
                        replace HO129 := pkRb HO129 hb
                        replace HO133 := pkRb HO133 hb
                        replace HO137 := pkRb HO137 hb
                        replace HO141 := pkRb HO141 hb
                        replace HO145 := pkRb HO145 hb
                        replace HO148 := pkRb HO148 hb
                        replace HO151 := pkRb HO151 hb
                        have BK160 := Aside0.mk (hbox)
                        have GW160 := pkG hg HB
                        have GE160 := pkG hg HB
                        replace HB := pkS HB hb
                        have NB124_160 := pkN hg BK124
                        have NB160_124 := pkM hg BK124
                        replace BK124 := pkBb BK124 hb
                        have NB130_160 := pkN hg BK130
                        have NB160_130 := pkM hg BK130
                        replace BK130 := pkBb BK130 hb
                        have NB138_160 := pkN hg BK138
                        have NB160_138 := pkM hg BK138
                        replace BK138 := pkBb BK138 hb
                        have NB142_160 := pkN hg BK142
                        have NB160_142 := pkM hg BK142
                        replace BK142 := pkBb BK142 hb
                        clear hb hbox hg
                        refine hK.out _ _ ⟨(blk_cell BK130.out 0).trans rfl, (blk_cell BK130.out 1).trans rfl, (blk_cell BK138.out 0).trans rfl, (blk_cell BK138.out 1).trans rfl, (blk_cell BK142.out 0).trans rfl, (blk_cell BK142.out 1).trans rfl⟩ (fun hHeld => ?_)
                        clear hK K
                        refine pkA 12 ?_
                        exact pkJ (hJ3_8 (v147, v150, gb160) _ ⟨hHeld, (pkR HO129.out), (pkR HO133.out), (pkR HO137.out), (pkR HO141.out), (pkR HO145.out), (pkR HO148.out), (pkR HO151.out), (pkB BK124.out), (pkB BK130.out), (pkB BK138.out), (pkB BK142.out), (pkB BK160.out), GW160.out, GE160.out, NB124_160.out, NB160_124.out, NB130_160.out, NB160_130.out, NB138_160.out, NB160_138.out, NB142_160.out, NB160_142.out, (pkW HB.out)⟩)
                      · skip
                        refine box_step ?hg (N := 13) ?hd (cs := #[.slice none 0 0, .slice none 0 0, .int .i64 0]) (t := 42) ?hr ?_; (case hd => rfl); (case hg => rfl); (case hr => first | (go_simp; done) | (go_simp; rfl))
                        intro gb161 hg w52 hbox hb
                        replace HO129 := pkRb HO129 hb
                        replace HO133 := pkRb HO133 hb
                        replace HO137 := pkRb HO137 hb
                        replace HO141 := pkRb HO141 hb
                        replace HO145 := pkRb HO145 hb
                        replace HO148 := pkRb HO148 hb
                        replace HO151 := pkRb HO151 hb
                        have BK161 := Aside0.mk (hbox)
                        have GW161 := pkG hg HB
                        have GE161 := pkG hg HB
                        replace HB := pkS HB hb
                        have NB124_161 := pkN hg BK124
                        have NB161_124 := pkM hg BK124
                        replace BK124 := pkBb BK124 hb
                        have NB130_161 := pkN hg BK130
                        have NB161_130 := pkM hg BK130
                        replace BK130 := pkBb BK130 hb
                        have NB138_161 := pkN hg BK138
                        have NB161_138 := pkM hg BK138
                        replace BK138 := pkBb BK138 hb
                        have NB142_161 := pkN hg BK142
                        have NB161_142 := pkM hg BK142
                        replace BK142 := pkBb BK142 hb
                        clear hb hbox hg
                        refine hK.out _ _ ⟨(blk_cell BK130.out 0).trans rfl, (blk_cell BK130.out 1).trans rfl, (blk_cell BK138.out 0).trans rfl, (blk_cell BK138.out 1).trans rfl, (blk_cell BK142.out 0).trans rfl, (blk_cell BK142.out 1).trans rfl⟩ (fun hHeld => ?_)
                        clear hK K
                        refine pkA 13 ?_
                        exact pkJ (hJ3_9 (v147, v150, gb161) _ ⟨hHeld, (pkR HO129.out), (pkR HO133.out), (pkR HO137.out), (pkR HO141.out), (pkR HO145.out), (pkR HO148.out), (pkR HO151.out), (pkB BK124.out), (pkB BK130.out), (pkB BK138.out), (pkB BK142.out), (pkB BK161.out), GW161.out, GE161.out, NB124_161.out, NB161_124.out, NB130_161.out, NB161_130.out, NB138_161.out, NB161_138.out, NB142_161.out, NB161_142.out, (pkW HB.out)⟩)
                  · skip
                    clear HO129 HO133 HO137 HO141 HO145 BK124 BK130 BK138 BK142 HB
                    rintro ⟨gb160, gb161⟩ w52 ⟨hS_, HO129, HO133, HO137, HO141, HO145, BK124, BK130, BK138, BK142, BK160, BK161, GW160, GE160, NB124_160, NB160_124, NB130_160, NB160_130, NB138_160, NB160_138, NB142_160, NB160_142, NB161_160, NB160_161, GW161, GE161, NB124_161, NB161_124, NB130_161, NB161_130, NB138_161, NB161_138, NB142_161, NB161_142, HB⟩
                    try dsimp only at HO129 HO133 HO137 HO141 HO145 BK124 BK130 BK138 BK142 BK160 BK161 GW160 GE160 NB124_160 NB160_124 NB130_160 NB160_130 NB138_160 NB160_138 NB142_160 NB160_142 NB161_160 NB160_161 GW161 GE161 NB124_161 NB161_124 NB130_161 NB161_130 NB138_161 NB161_138 NB142_161 NB161_142 HB
                    replace HO129 := Aside0.mk HO129
                    replace HO133 := Aside0.mk HO133
                    replace HO137 := Aside0.mk HO137
                    replace HO141 := Aside0.mk HO141
                    replace HO145 := Aside0.mk HO145
                    replace BK124 := Aside0.mk BK124
                    replace BK130 := Aside0.mk BK130
                    replace BK138 := Aside0.mk BK138
                    replace BK142 := Aside0.mk BK142
                    replace BK160 := Aside0.mk BK160
                    replace BK161 := Aside0.mk BK161
                    replace GW160 := Aside0.mk GW160
                    replace GE160 := Aside0.mk GE160
                    replace NB124_160 := Aside0.mk NB124_160
                    replace NB160_124 := Aside0.mk NB160_124
                    replace NB130_160 := Aside0.mk NB130_160
                    replace NB160_130 := Aside0.mk NB160_130
                    replace NB138_160 := Aside0.mk NB138_160
                    replace NB160_138 := Aside0.mk NB160_138
                    replace NB142_160 := Aside0.mk NB142_160
                    replace NB160_142 := Aside0.mk NB160_142
                    replace NB161_160 := Aside0.mk NB161_160
                    replace NB160_161 := Aside0.mk NB160_161
                    replace GW161 := Aside0.mk GW161
                    replace GE161 := Aside0.mk GE161
                    replace NB124_161 := Aside0.mk NB124_161
                    replace NB161_124 := Aside0.mk NB161_124
                    replace NB130_161 := Aside0.mk NB130_161
                    replace NB161_130 := Aside0.mk NB161_130
                    replace NB138_161 := Aside0.mk NB138_161
                    replace NB161_138 := Aside0.mk NB161_138
                    replace NB142_161 := Aside0.mk NB142_161
                    replace NB161_142 := Aside0.mk NB161_142
                    replace HB := Aside0.mk HB
                    have hHeld : w52.cell? ⟨gb130, 0, none⟩ = some (.int .i64 t126) ∧ w52.cell? ⟨gb130, 1, none⟩ = some (.slice Ao24 t127.length co24) ∧ w52.cell? ⟨gb138, 0, none⟩ = some (.int .i64 t134) ∧ w52.cell? ⟨gb138, 1, none⟩ = some (.slice Ao33 t135.length co33) ∧ w52.cell? ⟨gb142, 0, none⟩ = some (.int .i64 t134) ∧ w52.cell? ⟨gb142, 1, none⟩ = some (.slice Ao41 t139.length co41) := hS_
                    refine norm_ (a' := ?_) ?_ ?_
                    rotate_left
                    · simp only [YtheclfjbedajfaaDoorW.PrintLast.putAll, Act.put, List.setIfInBounds_toArray, List.set_cons_zero, List.set_cons_succ]
                      rfl
                    refine one_ (i := 3) (N := some 43) #[true, true, true, true, true, true, true, false, true, true, false, false] rfl rfl (one_of HT_.out (by kernel_rfl)) (by decide) (fun K hK => ?_)
                    refine goes_ Tryd.func10 (by kernel_rfl) rfl #[.agg #[.int .i64 t126, .slice Ao24 t127.length co24], .agg #[.int .i64 t134, .slice Ao33 t135.length co33], .slice Ao48 t143.length co48] (by rfl) rfl rfl (by (try simp only [List.map_toArray, List.map_cons, List.map_nil]); first | done | rfl | (simp only [List.length_drop, List.length_take]; rfl)) ?_
                    with_reducible refine (plexuslaw42_best.calls t126 _ _ t127 t134 _ _ t135 _ _ t143 t146 t149 t152 _ ?side1 ?side2 ?side3 ?side4 ?side5 ?side6 A14.out).mono ?_
                    case side1 => exact pkC (Kd.R_reads' HO129.out).2.2
                    case side2 => exact (Kd.R_reads' HO129.out).2.1
                    case side3 => exact pkC (Kd.R_reads' HO137.out).2.2
                    case side4 => exact (Kd.R_reads' HO137.out).2.1
                    case side5 => exact pkC (Kd.R_reads' HO145.out).2.2
                    case side6 => exact (Kd.R_reads' HO145.out).2.1
                    rintro e w53 ⟨v147, v150, rfl, ho0, ho1, hb⟩
                    refine ⟨_, rfl, ?_⟩
                    replace HO129 := pkRb HO129 hb
                    replace HO137 := pkRb HO137 hb
                    replace HO141 := pkRb HO141 hb
                    have HO148 := Aside0.mk (Kd.R_lower (Kd.R_new' (Kd.R_new' ho0 (Kd.R_lt (pkR HO133.out))) (Kd.R_lt (pkR HO145.out))) (pkZ HB))
                    have HO151 := Aside0.mk (Kd.R_lower (Kd.R_new' (Kd.R_new' ho1 (Kd.R_lt (pkR HO133.out))) (Kd.R_lt (pkR HO145.out))) (pkZ HB))
                    replace HO133 := Aside0.mk (Kd.R_mono (Kd.R_told (Kd.R_told (Kd.R_old (pkR HO133.out) hb) (Kd.R_base ho0)) (Kd.R_base ho1)) (fun _ h_ => h_.1))
                    replace HO145 := Aside0.mk (Kd.R_mono (Kd.R_told (Kd.R_told (Kd.R_old (pkR HO145.out) hb) (Kd.R_base ho0)) (Kd.R_base ho1)) (fun _ h_ => h_.1))
                    replace BK124 := pkBb BK124 hb
                    replace BK130 := pkBb BK130 hb
                    replace BK138 := pkBb BK138 hb
                    replace BK142 := pkBb BK142 hb
                    replace BK160 := pkBb BK160 hb
                    replace BK161 := pkBb BK161 hb
                    replace HB := pkS HB hb
                    (try clear hb)
                    (try clear hb2)
                    (try clear hk)
                    (try clear hi)
                    (try clear ho0)
                    (try clear ho1)
                    refine hK.out _ _ ⟨(blk_cell BK130.out 0).trans rfl, (blk_cell BK130.out 1).trans rfl, (blk_cell BK138.out 0).trans rfl, (blk_cell BK138.out 1).trans rfl, (blk_cell BK142.out 0).trans rfl, (blk_cell BK142.out 1).trans rfl⟩ (fun hHeld => ?_)
                    clear hK K
                    refine pkA 43 ?_
                    exact pkJ (hJ3_8_9 (v147, v150, gb160, gb161) _ ⟨hHeld, (pkR HO129.out), (by (with_reducible repeat (first | apply Kd.R_alloc | apply Kd.R_drewN | apply Kd.R_drew)); exact Kd.R_mono HO133.out (fun _ hk => ⟨hk.1.1, ⟨hk.1.2, hk.2⟩⟩)), (pkR HO137.out), (pkR HO141.out), (by (with_reducible repeat (first | apply Kd.R_alloc | apply Kd.R_drewN | apply Kd.R_drew)); exact Kd.R_mono HO145.out (fun _ hk => ⟨hk.1.1, ⟨hk.1.2, hk.2⟩⟩)), (by (with_reducible repeat (first | apply Kd.R_alloc | apply Kd.R_drewN | apply Kd.R_drew)); exact Kd.R_mono HO148.out (fun _ hk => ⟨hk.1.2, ⟨hk.2, hk.1.1⟩⟩)), (by (with_reducible repeat (first | apply Kd.R_alloc | apply Kd.R_drewN | apply Kd.R_drew)); exact Kd.R_mono HO151.out (fun _ hk => ⟨hk.1.2, ⟨hk.2, hk.1.1⟩⟩)), (pkB BK124.out), (pkB BK130.out), (pkB BK138.out), (pkB BK142.out), (pkB BK160.out), (pkB BK161.out), GW160.out, GE160.out, NB124_160.out, NB160_124.out, NB130_160.out, NB160_130.out, NB138_160.out, NB160_138.out, NB142_160.out, NB160_142.out, NB161_160.out, NB160_161.out, GW161.out, GE161.out, NB124_161.out, NB161_124.out, NB130_161.out, NB161_130.out, NB138_161.out, NB161_138.out, NB142_161.out, NB161_142.out, (pkW HB.out)⟩)
                · skip
                  clear HO129 HO133 HO137 HO141 HO145 BK124 BK130 BK138 BK142 HB
                  rintro ⟨v147, v150, gb161⟩ w52 ⟨hS_, HO129, HO133, HO137, HO141, HO145, HO148, HO151, BK124, BK130, BK138, BK142, BK161, GW161, GE161, NB124_161, NB161_124, NB130_161, NB161_130, NB138_161, NB161_138, NB142_161, NB161_142, HB⟩
                  try dsimp only at HO129 HO133 HO137 HO141 HO145 HO148 HO151 BK124 BK130 BK138 BK142 BK161 GW161 GE161 NB124_161 NB161_124 NB130_161 NB161_130 NB138_161 NB161_138 NB142_161 NB161_142 HB
                  replace HO129 := Aside0.mk HO129
                  replace HO133 := Aside0.mk HO133
                  replace HO137 := Aside0.mk HO137
                  replace HO141 := Aside0.mk HO141
                  replace HO145 := Aside0.mk HO145
                  replace HO148 := Aside0.mk HO148
                  replace HO151 := Aside0.mk HO151
                  replace BK124 := Aside0.mk BK124
                  replace BK130 := Aside0.mk BK130
                  replace BK138 := Aside0.mk BK138
                  replace BK142 := Aside0.mk BK142
                  replace BK161 := Aside0.mk BK161
                  replace GW161 := Aside0.mk GW161
                  replace GE161 := Aside0.mk GE161
                  replace NB124_161 := Aside0.mk NB124_161
                  replace NB161_124 := Aside0.mk NB161_124
                  replace NB130_161 := Aside0.mk NB130_161
                  replace NB161_130 := Aside0.mk NB161_130
                  replace NB138_161 := Aside0.mk NB138_161
                  replace NB161_138 := Aside0.mk NB161_138
                  replace NB142_161 := Aside0.mk NB142_161
                  replace NB161_142 := Aside0.mk NB161_142
                  replace HB := Aside0.mk HB
                  have hHeld : w52.cell? ⟨gb130, 0, none⟩ = some (.int .i64 t126) ∧ w52.cell? ⟨gb130, 1, none⟩ = some (.slice Ao24 t127.length co24) ∧ w52.cell? ⟨gb138, 0, none⟩ = some (.int .i64 t134) ∧ w52.cell? ⟨gb138, 1, none⟩ = some (.slice Ao33 t135.length co33) ∧ w52.cell? ⟨gb142, 0, none⟩ = some (.int .i64 t134) ∧ w52.cell? ⟨gb142, 1, none⟩ = some (.slice Ao41 t139.length co41) := hS_
                  refine norm_ (a' := ?_) ?_ ?_
                  rotate_left
                  · simp only [YtheclfjbedajfaaDoorW.PrintLast.putAll, Act.put, List.setIfInBounds_toArray, List.set_cons_zero, List.set_cons_succ]
                    rfl
                  refine two_ (i := 7) (j := 8) (Ni := some 47) (Nj := some 12) #[true, true, true, true, true, true, true, true, false, true, false, false] #[true, true, true, true, true, true, true, false, true, true, false, false] rfl rfl rfl rfl (two_of HT_.out (by kernel_rfl)) (by decide) (by decide) (fun K hK => ?_) (fun K hK => ?_)
                  · skip
                    refine goes_ Tryd.func10 (by kernel_rfl) rfl #[.agg #[.int .i64 t126, .slice Ao24 t127.length co24], .agg #[.int .i64 t134, .slice Ao41 t139.length co41], .slice Ao48 t143.length co48] (by rfl) rfl rfl (by (try simp only [List.map_toArray, List.map_cons, List.map_nil]); first | done | rfl | (simp only [List.length_drop, List.length_take]; rfl)) ?_
                    with_reducible refine (plexuslaw42_best.calls t126 _ _ t127 t134 _ _ t139 _ _ t143 t153 t156 t159 _ ?side1 ?side2 ?side3 ?side4 ?side5 ?side6 A15.out).mono ?_
                    case side1 => exact pkC (Kd.R_reads' HO129.out).2.2
                    case side2 => exact (Kd.R_reads' HO129.out).2.1
                    case side3 => exact pkC (Kd.R_reads' HO141.out).2.2
                    case side4 => exact (Kd.R_reads' HO141.out).2.1
                    case side5 => exact pkC (Kd.R_reads' HO145.out).2.2
                    case side6 => exact (Kd.R_reads' HO145.out).2.1
                    rintro e w53 ⟨v154, v157, rfl, ho0, ho1, hb⟩
                    refine ⟨_, rfl, ?_⟩
                    replace HO129 := pkRb HO129 hb
                    replace HO137 := pkRb HO137 hb
                    replace HO141 := pkRb HO141 hb
                    have HO155 := Aside0.mk (Kd.R_lower (Kd.R_new' (Kd.R_new' (Kd.R_new' (Kd.R_new' ho0 (Kd.R_lt (pkR HO133.out))) (Kd.R_lt (pkR HO145.out))) (Kd.R_lt (pkR HO148.out))) (Kd.R_lt (pkR HO151.out))) (pkZ HB))
                    have HO158 := Aside0.mk (Kd.R_lower (Kd.R_new' (Kd.R_new' (Kd.R_new' (Kd.R_new' ho1 (Kd.R_lt (pkR HO133.out))) (Kd.R_lt (pkR HO145.out))) (Kd.R_lt (pkR HO148.out))) (Kd.R_lt (pkR HO151.out))) (pkZ HB))
                    replace HO133 := Aside0.mk (Kd.R_mono (Kd.R_told (Kd.R_told (Kd.R_old (pkR HO133.out) hb) (Kd.R_base ho0)) (Kd.R_base ho1)) (fun _ h_ => h_.1))
                    replace HO145 := Aside0.mk (Kd.R_mono (Kd.R_told (Kd.R_told (Kd.R_old (pkR HO145.out) hb) (Kd.R_base ho0)) (Kd.R_base ho1)) (fun _ h_ => h_.1))
                    replace HO148 := Aside0.mk (Kd.R_mono (Kd.R_told (Kd.R_told (Kd.R_old (pkR HO148.out) hb) (Kd.R_base ho0)) (Kd.R_base ho1)) (fun _ h_ => h_.1))
                    replace HO151 := Aside0.mk (Kd.R_mono (Kd.R_told (Kd.R_told (Kd.R_old (pkR HO151.out) hb) (Kd.R_base ho0)) (Kd.R_base ho1)) (fun _ h_ => h_.1))
                    replace BK124 := pkBb BK124 hb
                    replace BK130 := pkBb BK130 hb
                    replace BK138 := pkBb BK138 hb
                    replace BK142 := pkBb BK142 hb
                    replace BK161 := pkBb BK161 hb
                    replace HB := pkS HB hb
                    (try clear hb)
                    (try clear hb2)
                    (try clear hk)
                    (try clear hi)
                    (try clear ho0)
                    (try clear ho1)
                    refine hK.out _ _ ⟨(blk_cell BK130.out 0).trans rfl, (blk_cell BK130.out 1).trans rfl, (blk_cell BK138.out 0).trans rfl, (blk_cell BK138.out 1).trans rfl, (blk_cell BK142.out 0).trans rfl, (blk_cell BK142.out 1).trans rfl⟩ (fun hHeld => ?_)
                    clear hK K
                    refine pkA 47 ?_
                    exact pkJ (hJ3_7_9 (v147, v150, v154, v157, gb161) _ ⟨hHeld, (pkR HO129.out), (by (with_reducible repeat (first | apply Kd.R_alloc | apply Kd.R_drewN | apply Kd.R_drew)); exact Kd.R_mono HO133.out (fun _ hk => ⟨hk.1.1.1, ⟨hk.1.1.2.1, ⟨hk.1.1.2.2, ⟨hk.1.2, hk.2⟩⟩⟩⟩)), (pkR HO137.out), (pkR HO141.out), (by (with_reducible repeat (first | apply Kd.R_alloc | apply Kd.R_drewN | apply Kd.R_drew)); exact Kd.R_mono HO145.out (fun _ hk => ⟨hk.1.1.1, ⟨hk.1.1.2.1, ⟨hk.1.1.2.2, ⟨hk.1.2, hk.2⟩⟩⟩⟩)), (by (with_reducible repeat (first | apply Kd.R_alloc | apply Kd.R_drewN | apply Kd.R_drew)); exact Kd.R_mono HO148.out (fun _ hk => ⟨hk.1.1.1, ⟨hk.1.1.2.1, ⟨hk.1.1.2.2, ⟨hk.1.2, hk.2⟩⟩⟩⟩)), (by (with_reducible repeat (first | apply Kd.R_alloc | apply Kd.R_drewN | apply Kd.R_drew)); exact Kd.R_mono HO151.out (fun _ hk => ⟨hk.1.1.1, ⟨hk.1.1.2.1, ⟨hk.1.1.2.2, ⟨hk.1.2, hk.2⟩⟩⟩⟩)), (by (with_reducible repeat (first | apply Kd.R_alloc | apply Kd.R_drewN | apply Kd.R_drew)); exact Kd.R_mono HO155.out (fun _ hk => ⟨hk.1.1.1.2, ⟨hk.1.1.2, ⟨hk.1.2, ⟨hk.2, hk.1.1.1.1⟩⟩⟩⟩)), (by (with_reducible repeat (first | apply Kd.R_alloc | apply Kd.R_drewN | apply Kd.R_drew)); exact Kd.R_mono HO158.out (fun _ hk => ⟨hk.1.1.1.2, ⟨hk.1.1.2, ⟨hk.1.2, ⟨hk.2, hk.1.1.1.1⟩⟩⟩⟩)), (pkB BK124.out), (pkB BK130.out), (pkB BK138.out), (pkB BK142.out), (pkB BK161.out), GW161.out, GE161.out, NB124_161.out, NB161_124.out, NB130_161.out, NB161_130.out, NB138_161.out, NB161_138.out, NB142_161.out, NB161_142.out, (pkW HB.out)⟩)
                  · skip
                    refine box_step ?hg (N := 12) ?hd (cs := #[.slice none 0 0, .slice none 0 0, .int .i64 0]) (t := 42) ?hr ?_; (case hd => rfl); (case hg => rfl); (case hr => first | (go_simp; done) | (go_simp; rfl))
                    intro gb160 hg w53 hbox hb
                    replace HO129 := pkRb HO129 hb
                    replace HO133 := pkRb HO133 hb
                    replace HO137 := pkRb HO137 hb
                    replace HO141 := pkRb HO141 hb
                    replace HO145 := pkRb HO145 hb
                    replace HO148 := pkRb HO148 hb
                    replace HO151 := pkRb HO151 hb
                    have BK160 := Aside0.mk (hbox)
                    have GW160 := pkG hg HB
                    have GE160 := pkG hg HB
                    replace HB := pkS HB hb
                    have NB124_160 := pkN hg BK124
                    have NB160_124 := pkM hg BK124
                    replace BK124 := pkBb BK124 hb
                    have NB130_160 := pkN hg BK130
                    have NB160_130 := pkM hg BK130
                    replace BK130 := pkBb BK130 hb
                    have NB138_160 := pkN hg BK138
                    have NB160_138 := pkM hg BK138
                    replace BK138 := pkBb BK138 hb
                    have NB142_160 := pkN hg BK142
                    have NB160_142 := pkM hg BK142
                    replace BK142 := pkBb BK142 hb
                    have NB161_160 := pkN hg BK161
                    have NB160_161 := pkM hg BK161
                    replace BK161 := pkBb BK161 hb
                    clear hb hbox hg
                    refine hK.out _ _ ⟨(blk_cell BK130.out 0).trans rfl, (blk_cell BK130.out 1).trans rfl, (blk_cell BK138.out 0).trans rfl, (blk_cell BK138.out 1).trans rfl, (blk_cell BK142.out 0).trans rfl, (blk_cell BK142.out 1).trans rfl⟩ (fun hHeld => ?_)
                    clear hK K
                    refine pkA 12 ?_
                    exact pkJ (hJ3_8_9 (v147, v150, gb160, gb161) _ ⟨hHeld, (pkR HO129.out), (pkR HO133.out), (pkR HO137.out), (pkR HO141.out), (pkR HO145.out), (pkR HO148.out), (pkR HO151.out), (pkB BK124.out), (pkB BK130.out), (pkB BK138.out), (pkB BK142.out), (pkB BK160.out), (pkB BK161.out), GW160.out, GE160.out, NB124_160.out, NB160_124.out, NB130_160.out, NB160_130.out, NB138_160.out, NB160_138.out, NB142_160.out, NB160_142.out, NB161_160.out, NB160_161.out, GW161.out, GE161.out, NB124_161.out, NB161_124.out, NB130_161.out, NB161_130.out, NB138_161.out, NB161_138.out, NB142_161.out, NB161_142.out, (pkW HB.out)⟩)
              · skip
                clear HO129 HO133 HO137 HO141 HO145 BK124 BK130 BK138 BK142 HB
                rintro ⟨v147, v150, gb160⟩ w52 ⟨hS_, HO129, HO133, HO137, HO141, HO145, HO148, HO151, BK124, BK130, BK138, BK142, BK160, GW160, GE160, NB124_160, NB160_124, NB130_160, NB160_130, NB138_160, NB160_138, NB142_160, NB160_142, HB⟩
                try dsimp only at HO129 HO133 HO137 HO141 HO145 HO148 HO151 BK124 BK130 BK138 BK142 BK160 GW160 GE160 NB124_160 NB160_124 NB130_160 NB160_130 NB138_160 NB160_138 NB142_160 NB160_142 HB
                replace HO129 := Aside0.mk HO129
                replace HO133 := Aside0.mk HO133
                replace HO137 := Aside0.mk HO137
                replace HO141 := Aside0.mk HO141
                replace HO145 := Aside0.mk HO145
                replace HO148 := Aside0.mk HO148
                replace HO151 := Aside0.mk HO151
                replace BK124 := Aside0.mk BK124
                replace BK130 := Aside0.mk BK130
                replace BK138 := Aside0.mk BK138
                replace BK142 := Aside0.mk BK142
                replace BK160 := Aside0.mk BK160
                replace GW160 := Aside0.mk GW160
                replace GE160 := Aside0.mk GE160
                replace NB124_160 := Aside0.mk NB124_160
                replace NB160_124 := Aside0.mk NB160_124
                replace NB130_160 := Aside0.mk NB130_160
                replace NB160_130 := Aside0.mk NB160_130
                replace NB138_160 := Aside0.mk NB138_160
                replace NB160_138 := Aside0.mk NB160_138
                replace NB142_160 := Aside0.mk NB142_160
                replace NB160_142 := Aside0.mk NB160_142
                replace HB := Aside0.mk HB
                have hHeld : w52.cell? ⟨gb130, 0, none⟩ = some (.int .i64 t126) ∧ w52.cell? ⟨gb130, 1, none⟩ = some (.slice Ao24 t127.length co24) ∧ w52.cell? ⟨gb138, 0, none⟩ = some (.int .i64 t134) ∧ w52.cell? ⟨gb138, 1, none⟩ = some (.slice Ao33 t135.length co33) ∧ w52.cell? ⟨gb142, 0, none⟩ = some (.int .i64 t134) ∧ w52.cell? ⟨gb142, 1, none⟩ = some (.slice Ao41 t139.length co41) := hS_
                refine norm_ (a' := ?_) ?_ ?_
                rotate_left
                · simp only [YtheclfjbedajfaaDoorW.PrintLast.putAll, Act.put, List.setIfInBounds_toArray, List.set_cons_zero, List.set_cons_succ]
                  rfl
                refine two_ (i := 7) (j := 9) (Ni := some 47) (Nj := some 13) #[true, true, true, true, true, true, true, true, true, false, false, false] #[true, true, true, true, true, true, true, false, true, true, false, false] rfl rfl rfl rfl (two_of HT_.out (by kernel_rfl)) (by decide) (by decide) (fun K hK => ?_) (fun K hK => ?_)
                · skip
                  refine goes_ Tryd.func10 (by kernel_rfl) rfl #[.agg #[.int .i64 t126, .slice Ao24 t127.length co24], .agg #[.int .i64 t134, .slice Ao41 t139.length co41], .slice Ao48 t143.length co48] (by rfl) rfl rfl (by (try simp only [List.map_toArray, List.map_cons, List.map_nil]); first | done | rfl | (simp only [List.length_drop, List.length_take]; rfl)) ?_
                  with_reducible refine (plexuslaw42_best.calls t126 _ _ t127 t134 _ _ t139 _ _ t143 t153 t156 t159 _ ?side1 ?side2 ?side3 ?side4 ?side5 ?side6 A15.out).mono ?_
                  case side1 => exact pkC (Kd.R_reads' HO129.out).2.2
                  case side2 => exact (Kd.R_reads' HO129.out).2.1
                  case side3 => exact pkC (Kd.R_reads' HO141.out).2.2
                  case side4 => exact (Kd.R_reads' HO141.out).2.1
                  case side5 => exact pkC (Kd.R_reads' HO145.out).2.2
                  case side6 => exact (Kd.R_reads' HO145.out).2.1
                  rintro e w53 ⟨v154, v157, rfl, ho0, ho1, hb⟩
                  refine ⟨_, rfl, ?_⟩
                  replace HO129 := pkRb HO129 hb
                  replace HO137 := pkRb HO137 hb
                  replace HO141 := pkRb HO141 hb
                  have HO155 := Aside0.mk (Kd.R_lower (Kd.R_new' (Kd.R_new' (Kd.R_new' (Kd.R_new' ho0 (Kd.R_lt (pkR HO133.out))) (Kd.R_lt (pkR HO145.out))) (Kd.R_lt (pkR HO148.out))) (Kd.R_lt (pkR HO151.out))) (pkZ HB))
                  have HO158 := Aside0.mk (Kd.R_lower (Kd.R_new' (Kd.R_new' (Kd.R_new' (Kd.R_new' ho1 (Kd.R_lt (pkR HO133.out))) (Kd.R_lt (pkR HO145.out))) (Kd.R_lt (pkR HO148.out))) (Kd.R_lt (pkR HO151.out))) (pkZ HB))
                  replace HO133 := Aside0.mk (Kd.R_mono (Kd.R_told (Kd.R_told (Kd.R_old (pkR HO133.out) hb) (Kd.R_base ho0)) (Kd.R_base ho1)) (fun _ h_ => h_.1))
                  replace HO145 := Aside0.mk (Kd.R_mono (Kd.R_told (Kd.R_told (Kd.R_old (pkR HO145.out) hb) (Kd.R_base ho0)) (Kd.R_base ho1)) (fun _ h_ => h_.1))
                  replace HO148 := Aside0.mk (Kd.R_mono (Kd.R_told (Kd.R_told (Kd.R_old (pkR HO148.out) hb) (Kd.R_base ho0)) (Kd.R_base ho1)) (fun _ h_ => h_.1))
                  replace HO151 := Aside0.mk (Kd.R_mono (Kd.R_told (Kd.R_told (Kd.R_old (pkR HO151.out) hb) (Kd.R_base ho0)) (Kd.R_base ho1)) (fun _ h_ => h_.1))
                  replace BK124 := pkBb BK124 hb
                  replace BK130 := pkBb BK130 hb
                  replace BK138 := pkBb BK138 hb
                  replace BK142 := pkBb BK142 hb
                  replace BK160 := pkBb BK160 hb
                  replace HB := pkS HB hb
                  (try clear hb)
                  (try clear hb2)
                  (try clear hk)
                  (try clear hi)
                  (try clear ho0)
                  (try clear ho1)
                  refine hK.out _ _ ⟨(blk_cell BK130.out 0).trans rfl, (blk_cell BK130.out 1).trans rfl, (blk_cell BK138.out 0).trans rfl, (blk_cell BK138.out 1).trans rfl, (blk_cell BK142.out 0).trans rfl, (blk_cell BK142.out 1).trans rfl⟩ (fun hHeld => ?_)
                  clear hK K
                  refine pkA 47 ?_
                  exact pkJ (hJ3_7_8 (v147, v150, v154, v157, gb160) _ ⟨hHeld, (pkR HO129.out), (by (with_reducible repeat (first | apply Kd.R_alloc | apply Kd.R_drewN | apply Kd.R_drew)); exact Kd.R_mono HO133.out (fun _ hk => ⟨hk.1.1.1, ⟨hk.1.1.2.1, ⟨hk.1.1.2.2, ⟨hk.1.2, hk.2⟩⟩⟩⟩)), (pkR HO137.out), (pkR HO141.out), (by (with_reducible repeat (first | apply Kd.R_alloc | apply Kd.R_drewN | apply Kd.R_drew)); exact Kd.R_mono HO145.out (fun _ hk => ⟨hk.1.1.1, ⟨hk.1.1.2.1, ⟨hk.1.1.2.2, ⟨hk.1.2, hk.2⟩⟩⟩⟩)), (by (with_reducible repeat (first | apply Kd.R_alloc | apply Kd.R_drewN | apply Kd.R_drew)); exact Kd.R_mono HO148.out (fun _ hk => ⟨hk.1.1.1, ⟨hk.1.1.2.1, ⟨hk.1.1.2.2, ⟨hk.1.2, hk.2⟩⟩⟩⟩)), (by (with_reducible repeat (first | apply Kd.R_alloc | apply Kd.R_drewN | apply Kd.R_drew)); exact Kd.R_mono HO151.out (fun _ hk => ⟨hk.1.1.1, ⟨hk.1.1.2.1, ⟨hk.1.1.2.2, ⟨hk.1.2, hk.2⟩⟩⟩⟩)), (by (with_reducible repeat (first | apply Kd.R_alloc | apply Kd.R_drewN | apply Kd.R_drew)); exact Kd.R_mono HO155.out (fun _ hk => ⟨hk.1.1.1.2, ⟨hk.1.1.2, ⟨hk.1.2, ⟨hk.2, hk.1.1.1.1⟩⟩⟩⟩)), (by (with_reducible repeat (first | apply Kd.R_alloc | apply Kd.R_drewN | apply Kd.R_drew)); exact Kd.R_mono HO158.out (fun _ hk => ⟨hk.1.1.1.2, ⟨hk.1.1.2, ⟨hk.1.2, ⟨hk.2, hk.1.1.1.1⟩⟩⟩⟩)), (pkB BK124.out), (pkB BK130.out), (pkB BK138.out), (pkB BK142.out), (pkB BK160.out), GW160.out, GE160.out, NB124_160.out, NB160_124.out, NB130_160.out, NB160_130.out, NB138_160.out, NB160_138.out, NB142_160.out, NB160_142.out, (pkW HB.out)⟩)
                · skip
                  refine box_step ?hg (N := 13) ?hd (cs := #[.slice none 0 0, .slice none 0 0, .int .i64 0]) (t := 42) ?hr ?_; (case hd => rfl); (case hg => rfl); (case hr => first | (go_simp; done) | (go_simp; rfl))
                  intro gb161 hg w53 hbox hb
                  replace HO129 := pkRb HO129 hb
                  replace HO133 := pkRb HO133 hb
                  replace HO137 := pkRb HO137 hb
                  replace HO141 := pkRb HO141 hb
                  replace HO145 := pkRb HO145 hb
                  replace HO148 := pkRb HO148 hb
                  replace HO151 := pkRb HO151 hb
                  have BK161 := Aside0.mk (hbox)
                  have GW161 := pkG hg HB
                  have GE161 := pkG hg HB
                  replace HB := pkS HB hb
                  have NB124_161 := pkN hg BK124
                  have NB161_124 := pkM hg BK124
                  replace BK124 := pkBb BK124 hb
                  have NB130_161 := pkN hg BK130
                  have NB161_130 := pkM hg BK130
                  replace BK130 := pkBb BK130 hb
                  have NB138_161 := pkN hg BK138
                  have NB161_138 := pkM hg BK138
                  replace BK138 := pkBb BK138 hb
                  have NB142_161 := pkN hg BK142
                  have NB161_142 := pkM hg BK142
                  replace BK142 := pkBb BK142 hb
                  have NB160_161 := pkN hg BK160
                  have NB161_160 := pkM hg BK160
                  replace BK160 := pkBb BK160 hb
                  clear hb hbox hg
                  refine hK.out _ _ ⟨(blk_cell BK130.out 0).trans rfl, (blk_cell BK130.out 1).trans rfl, (blk_cell BK138.out 0).trans rfl, (blk_cell BK138.out 1).trans rfl, (blk_cell BK142.out 0).trans rfl, (blk_cell BK142.out 1).trans rfl⟩ (fun hHeld => ?_)
                  clear hK K
                  refine pkA 13 ?_
                  exact pkJ (hJ3_8_9 (v147, v150, gb160, gb161) _ ⟨hHeld, (pkR HO129.out), (pkR HO133.out), (pkR HO137.out), (pkR HO141.out), (pkR HO145.out), (pkR HO148.out), (pkR HO151.out), (pkB BK124.out), (pkB BK130.out), (pkB BK138.out), (pkB BK142.out), (pkB BK160.out), (pkB BK161.out), GW160.out, GE160.out, NB124_160.out, NB160_124.out, NB130_160.out, NB160_130.out, NB138_160.out, NB160_138.out, NB142_160.out, NB160_142.out, NB161_160.out, NB160_161.out, GW161.out, GE161.out, NB124_161.out, NB161_124.out, NB130_161.out, NB161_130.out, NB138_161.out, NB161_138.out, NB142_161.out, NB161_142.out, (pkW HB.out)⟩)
            · skip
              clear HO129 HO133 HO137 HO141 HO145 BK124 BK130 BK138 BK142 HB
              rintro ⟨v147, v150, v154, v157⟩ w52 ⟨hS_, HO129, HO133, HO137, HO141, HO145, HO148, HO151, HO155, HO158, BK124, BK130, BK138, BK142, HB⟩
              try dsimp only at HO129 HO133 HO137 HO141 HO145 HO148 HO151 HO155 HO158 BK124 BK130 BK138 BK142 HB
              replace HO129 := Aside0.mk HO129
              replace HO133 := Aside0.mk HO133
              replace HO137 := Aside0.mk HO137
              replace HO141 := Aside0.mk HO141
              replace HO145 := Aside0.mk HO145
              replace HO148 := Aside0.mk HO148
              replace HO151 := Aside0.mk HO151
              replace HO155 := Aside0.mk HO155
              replace HO158 := Aside0.mk HO158
              replace BK124 := Aside0.mk BK124
              replace BK130 := Aside0.mk BK130
              replace BK138 := Aside0.mk BK138
              replace BK142 := Aside0.mk BK142
              replace HB := Aside0.mk HB
              have hHeld : w52.cell? ⟨gb130, 0, none⟩ = some (.int .i64 t126) ∧ w52.cell? ⟨gb130, 1, none⟩ = some (.slice Ao24 t127.length co24) ∧ w52.cell? ⟨gb138, 0, none⟩ = some (.int .i64 t134) ∧ w52.cell? ⟨gb138, 1, none⟩ = some (.slice Ao33 t135.length co33) ∧ w52.cell? ⟨gb142, 0, none⟩ = some (.int .i64 t134) ∧ w52.cell? ⟨gb142, 1, none⟩ = some (.slice Ao41 t139.length co41) := hS_
              refine norm_ (a' := ?_) ?_ ?_
              rotate_left
              · simp only [YtheclfjbedajfaaDoorW.PrintLast.putAll, Act.put, List.setIfInBounds_toArray, List.set_cons_zero, List.set_cons_succ]
                rfl
              refine two_ (i := 8) (j := 9) (Ni := some 12) (Nj := some 13) #[true, true, true, true, true, true, true, true, true, false, false, false] #[true, true, true, true, true, true, true, true, false, true, false, false] rfl rfl rfl rfl (two_of HT_.out (by kernel_rfl)) (by decide) (by decide) (fun K hK => ?_) (fun K hK => ?_)
              · skip
                refine box_step ?hg (N := 12) ?hd (cs := #[.slice none 0 0, .slice none 0 0, .int .i64 0]) (t := 42) ?hr ?_; (case hd => rfl); (case hg => rfl); (case hr => first | (go_simp; done) | (go_simp; rfl))
                intro gb160 hg w53 hbox hb
                replace HO129 := pkRb HO129 hb
                replace HO133 := pkRb HO133 hb
                replace HO137 := pkRb HO137 hb
                replace HO141 := pkRb HO141 hb
                replace HO145 := pkRb HO145 hb
                replace HO148 := pkRb HO148 hb
                replace HO151 := pkRb HO151 hb
                replace HO155 := pkRb HO155 hb
                replace HO158 := pkRb HO158 hb
                have BK160 := Aside0.mk (hbox)
                have GW160 := pkG hg HB
                have GE160 := pkG hg HB
                replace HB := pkS HB hb
                have NB124_160 := pkN hg BK124
                have NB160_124 := pkM hg BK124
                replace BK124 := pkBb BK124 hb
                have NB130_160 := pkN hg BK130
                have NB160_130 := pkM hg BK130
                replace BK130 := pkBb BK130 hb
                have NB138_160 := pkN hg BK138
                have NB160_138 := pkM hg BK138
                replace BK138 := pkBb BK138 hb
                have NB142_160 := pkN hg BK142
                have NB160_142 := pkM hg BK142
                replace BK142 := pkBb BK142 hb
                clear hb hbox hg
                refine hK.out _ _ ⟨(blk_cell BK130.out 0).trans rfl, (blk_cell BK130.out 1).trans rfl, (blk_cell BK138.out 0).trans rfl, (blk_cell BK138.out 1).trans rfl, (blk_cell BK142.out 0).trans rfl, (blk_cell BK142.out 1).trans rfl⟩ (fun hHeld => ?_)
                clear hK K
                refine pkA 12 ?_
                exact pkJ (hJ3_7_8 (v147, v150, v154, v157, gb160) _ ⟨hHeld, (pkR HO129.out), (pkR HO133.out), (pkR HO137.out), (pkR HO141.out), (pkR HO145.out), (pkR HO148.out), (pkR HO151.out), (pkR HO155.out), (pkR HO158.out), (pkB BK124.out), (pkB BK130.out), (pkB BK138.out), (pkB BK142.out), (pkB BK160.out), GW160.out, GE160.out, NB124_160.out, NB160_124.out, NB130_160.out, NB160_130.out, NB138_160.out, NB160_138.out, NB142_160.out, NB160_142.out, (pkW HB.out)⟩)
              · skip
                refine box_step ?hg (N := 13) ?hd (cs := #[.slice none 0 0, .slice none 0 0, .int .i64 0]) (t := 42) ?hr ?_; (case hd => rfl); (case hg => rfl); (case hr => first | (go_simp; done) | (go_simp; rfl))
                intro gb161 hg w53 hbox hb
                replace HO129 := pkRb HO129 hb
                replace HO133 := pkRb HO133 hb
                replace HO137 := pkRb HO137 hb
                replace HO141 := pkRb HO141 hb
                replace HO145 := pkRb HO145 hb
                replace HO148 := pkRb HO148 hb
                replace HO151 := pkRb HO151 hb
                replace HO155 := pkRb HO155 hb
                replace HO158 := pkRb HO158 hb
                have BK161 := Aside0.mk (hbox)
                have GW161 := pkG hg HB
                have GE161 := pkG hg HB
                replace HB := pkS HB hb
                have NB124_161 := pkN hg BK124
                have NB161_124 := pkM hg BK124
                replace BK124 := pkBb BK124 hb
                have NB130_161 := pkN hg BK130
                have NB161_130 := pkM hg BK130
                replace BK130 := pkBb BK130 hb
                have NB138_161 := pkN hg BK138
                have NB161_138 := pkM hg BK138
                replace BK138 := pkBb BK138 hb
                have NB142_161 := pkN hg BK142
                have NB161_142 := pkM hg BK142
                replace BK142 := pkBb BK142 hb
                clear hb hbox hg
                refine hK.out _ _ ⟨(blk_cell BK130.out 0).trans rfl, (blk_cell BK130.out 1).trans rfl, (blk_cell BK138.out 0).trans rfl, (blk_cell BK138.out 1).trans rfl, (blk_cell BK142.out 0).trans rfl, (blk_cell BK142.out 1).trans rfl⟩ (fun hHeld => ?_)
                clear hK K
                refine pkA 13 ?_
                exact pkJ (hJ3_7_9 (v147, v150, v154, v157, gb161) _ ⟨hHeld, (pkR HO129.out), (pkR HO133.out), (pkR HO137.out), (pkR HO141.out), (pkR HO145.out), (pkR HO148.out), (pkR HO151.out), (pkR HO155.out), (pkR HO158.out), (pkB BK124.out), (pkB BK130.out), (pkB BK138.out), (pkB BK142.out), (pkB BK161.out), GW161.out, GE161.out, NB124_161.out, NB161_124.out, NB130_161.out, NB161_130.out, NB138_161.out, NB161_138.out, NB142_161.out, NB161_142.out, (pkW HB.out)⟩)
          · skip
            clear HO129 HO133 HO137 HO141 HO145 BK124 BK130 BK138 BK142 HB
            rintro ⟨v147, v150, gb160, gb161⟩ w53 ⟨hS_, HO129, HO133, HO137, HO141, HO145, HO148, HO151, BK124, BK130, BK138, BK142, BK160, BK161, GW160, GE160, NB124_160, NB160_124, NB130_160, NB160_130, NB138_160, NB160_138, NB142_160, NB160_142, NB161_160, NB160_161, GW161, GE161, NB124_161, NB161_124, NB130_161, NB161_130, NB138_161, NB161_138, NB142_161, NB161_142, HB⟩
            try dsimp only at HO129 HO133 HO137 HO141 HO145 HO148 HO151 BK124 BK130 BK138 BK142 BK160 BK161 GW160 GE160 NB124_160 NB160_124 NB130_160 NB160_130 NB138_160 NB160_138 NB142_160 NB160_142 NB161_160 NB160_161 GW161 GE161 NB124_161 NB161_124 NB130_161 NB161_130 NB138_161 NB161_138 NB142_161 NB161_142 HB
            replace HO129 := Aside0.mk HO129
            replace HO133 := Aside0.mk HO133
            replace HO137 := Aside0.mk HO137
            replace HO141 := Aside0.mk HO141
            replace HO145 := Aside0.mk HO145
            replace HO148 := Aside0.mk HO148
            replace HO151 := Aside0.mk HO151
            replace BK124 := Aside0.mk BK124
            replace BK130 := Aside0.mk BK130
            replace BK138 := Aside0.mk BK138
            replace BK142 := Aside0.mk BK142
            replace BK160 := Aside0.mk BK160
            replace BK161 := Aside0.mk BK161
            replace GW160 := Aside0.mk GW160
            replace GE160 := Aside0.mk GE160
            replace NB124_160 := Aside0.mk NB124_160
            replace NB160_124 := Aside0.mk NB160_124
            replace NB130_160 := Aside0.mk NB130_160
            replace NB160_130 := Aside0.mk NB160_130
            replace NB138_160 := Aside0.mk NB138_160
            replace NB160_138 := Aside0.mk NB160_138
            replace NB142_160 := Aside0.mk NB142_160
            replace NB160_142 := Aside0.mk NB160_142
            replace NB161_160 := Aside0.mk NB161_160
            replace NB160_161 := Aside0.mk NB160_161
            replace GW161 := Aside0.mk GW161
            replace GE161 := Aside0.mk GE161
            replace NB124_161 := Aside0.mk NB124_161
            replace NB161_124 := Aside0.mk NB161_124
            replace NB130_161 := Aside0.mk NB130_161
            replace NB161_130 := Aside0.mk NB161_130
            replace NB138_161 := Aside0.mk NB138_161
            replace NB161_138 := Aside0.mk NB161_138
            replace NB142_161 := Aside0.mk NB142_161
            replace NB161_142 := Aside0.mk NB161_142
            replace HB := Aside0.mk HB
            have hHeld : w53.cell? ⟨gb130, 0, none⟩ = some (.int .i64 t126) ∧ w53.cell? ⟨gb130, 1, none⟩ = some (.slice Ao24 t127.length co24) ∧ w53.cell? ⟨gb138, 0, none⟩ = some (.int .i64 t134) ∧ w53.cell? ⟨gb138, 1, none⟩ = some (.slice Ao33 t135.length co33) ∧ w53.cell? ⟨gb142, 0, none⟩ = some (.int .i64 t134) ∧ w53.cell? ⟨gb142, 1, none⟩ = some (.slice Ao41 t139.length co41) := hS_
            refine norm_ (a' := ?_) ?_ ?_
            rotate_left
            · simp only [YtheclfjbedajfaaDoorW.PrintLast.putAll, Act.put, List.setIfInBounds_toArray, List.set_cons_zero, List.set_cons_succ]
              rfl
            refine one_ (i := 7) (N := some 47) #[true, true, true, true, true, true, true, true, true, true, false, false] rfl rfl (one_of HT_.out (by kernel_rfl)) (by decide) (fun K hK => ?_)
            refine goes_ Tryd.func10 (by kernel_rfl) rfl #[.agg #[.int .i64 t126, .slice Ao24 t127.length co24], .agg #[.int .i64 t134, .slice Ao41 t139.length co41], .slice Ao48 t143.length co48] (by rfl) rfl rfl (by (try simp only [List.map_toArray, List.map_cons, List.map_nil]); first | done | rfl | (simp only [List.length_drop, List.length_take]; rfl)) ?_
            with_reducible refine (plexuslaw42_best.calls t126 _ _ t127 t134 _ _ t139 _ _ t143 t153 t156 t159 _ ?side1 ?side2 ?side3 ?side4 ?side5 ?side6 A15.out).mono ?_
            case side1 => exact pkC (Kd.R_reads' HO129.out).2.2
            case side2 => exact (Kd.R_reads' HO129.out).2.1
            case side3 => exact pkC (Kd.R_reads' HO141.out).2.2
            case side4 => exact (Kd.R_reads' HO141.out).2.1
            case side5 => exact pkC (Kd.R_reads' HO145.out).2.2
            case side6 => exact (Kd.R_reads' HO145.out).2.1
            rintro e w54 ⟨v154, v157, rfl, ho0, ho1, hb⟩
            refine ⟨_, rfl, ?_⟩
            replace HO129 := pkRb HO129 hb
            replace HO137 := pkRb HO137 hb
            replace HO141 := pkRb HO141 hb
            have HO155 := Aside0.mk (Kd.R_lower (Kd.R_new' (Kd.R_new' (Kd.R_new' (Kd.R_new' ho0 (Kd.R_lt (pkR HO133.out))) (Kd.R_lt (pkR HO145.out))) (Kd.R_lt (pkR HO148.out))) (Kd.R_lt (pkR HO151.out))) (pkZ HB))
            have HO158 := Aside0.mk (Kd.R_lower (Kd.R_new' (Kd.R_new' (Kd.R_new' (Kd.R_new' ho1 (Kd.R_lt (pkR HO133.out))) (Kd.R_lt (pkR HO145.out))) (Kd.R_lt (pkR HO148.out))) (Kd.R_lt (pkR HO151.out))) (pkZ HB))
            replace HO133 := Aside0.mk (Kd.R_mono (Kd.R_told (Kd.R_told (Kd.R_old (pkR HO133.out) hb) (Kd.R_base ho0)) (Kd.R_base ho1)) (fun _ h_ => h_.1))
            replace HO145 := Aside0.mk (Kd.R_mono (Kd.R_told (Kd.R_told (Kd.R_old (pkR HO145.out) hb) (Kd.R_base ho0)) (Kd.R_base ho1)) (fun _ h_ => h_.1))
            replace HO148 := Aside0.mk (Kd.R_mono (Kd.R_told (Kd.R_told (Kd.R_old (pkR HO148.out) hb) (Kd.R_base ho0)) (Kd.R_base ho1)) (fun _ h_ => h_.1))
            replace HO151 := Aside0.mk (Kd.R_mono (Kd.R_told (Kd.R_told (Kd.R_old (pkR HO151.out) hb) (Kd.R_base ho0)) (Kd.R_base ho1)) (fun _ h_ => h_.1))
            replace BK124 := pkBb BK124 hb
            replace BK130 := pkBb BK130 hb
            replace BK138 := pkBb BK138 hb
            replace BK142 := pkBb BK142 hb
            replace BK160 := pkBb BK160 hb
            replace BK161 := pkBb BK161 hb
            replace HB := pkS HB hb
            (try clear hb)
            (try clear hb2)
            (try clear hk)
            (try clear hi)
            (try clear ho0)
            (try clear ho1)
            refine hK.out _ _ ⟨(blk_cell BK130.out 0).trans rfl, (blk_cell BK130.out 1).trans rfl, (blk_cell BK138.out 0).trans rfl, (blk_cell BK138.out 1).trans rfl, (blk_cell BK142.out 0).trans rfl, (blk_cell BK142.out 1).trans rfl⟩ (fun hHeld => ?_)
            clear hK K
            refine pkA 47 ?_
            exact pkJ (hJ3_7_8_9 (v147, v150, v154, v157, gb160, gb161) _ ⟨hHeld, (pkR HO129.out), (by (with_reducible repeat (first | apply Kd.R_alloc | apply Kd.R_drewN | apply Kd.R_drew)); exact Kd.R_mono HO133.out (fun _ hk => ⟨hk.1.1.1, ⟨hk.1.1.2.1, ⟨hk.1.1.2.2, ⟨hk.1.2, hk.2⟩⟩⟩⟩)), (pkR HO137.out), (pkR HO141.out), (by (with_reducible repeat (first | apply Kd.R_alloc | apply Kd.R_drewN | apply Kd.R_drew)); exact Kd.R_mono HO145.out (fun _ hk => ⟨hk.1.1.1, ⟨hk.1.1.2.1, ⟨hk.1.1.2.2, ⟨hk.1.2, hk.2⟩⟩⟩⟩)), (by (with_reducible repeat (first | apply Kd.R_alloc | apply Kd.R_drewN | apply Kd.R_drew)); exact Kd.R_mono HO148.out (fun _ hk => ⟨hk.1.1.1, ⟨hk.1.1.2.1, ⟨hk.1.1.2.2, ⟨hk.1.2, hk.2⟩⟩⟩⟩)), (by (with_reducible repeat (first | apply Kd.R_alloc | apply Kd.R_drewN | apply Kd.R_drew)); exact Kd.R_mono HO151.out (fun _ hk => ⟨hk.1.1.1, ⟨hk.1.1.2.1, ⟨hk.1.1.2.2, ⟨hk.1.2, hk.2⟩⟩⟩⟩)), (by (with_reducible repeat (first | apply Kd.R_alloc | apply Kd.R_drewN | apply Kd.R_drew)); exact Kd.R_mono HO155.out (fun _ hk => ⟨hk.1.1.1.2, ⟨hk.1.1.2, ⟨hk.1.2, ⟨hk.2, hk.1.1.1.1⟩⟩⟩⟩)), (by (with_reducible repeat (first | apply Kd.R_alloc | apply Kd.R_drewN | apply Kd.R_drew)); exact Kd.R_mono HO158.out (fun _ hk => ⟨hk.1.1.1.2, ⟨hk.1.1.2, ⟨hk.1.2, ⟨hk.2, hk.1.1.1.1⟩⟩⟩⟩)), (pkB BK124.out), (pkB BK130.out), (pkB BK138.out), (pkB BK142.out), (pkB BK160.out), (pkB BK161.out), GW160.out, GE160.out, NB124_160.out, NB160_124.out, NB130_160.out, NB160_130.out, NB138_160.out, NB160_138.out, NB142_160.out, NB160_142.out, NB161_160.out, NB160_161.out, GW161.out, GE161.out, NB124_161.out, NB161_124.out, NB130_161.out, NB161_130.out, NB138_161.out, NB161_138.out, NB142_161.out, NB161_142.out, (pkW HB.out)⟩)
        · skip
          clear HO129 HO133 HO137 HO141 HO145 BK124 BK130 BK138 BK142 HB
          rintro ⟨v147, v150, v154, v157, gb161⟩ w53 ⟨hS_, HO129, HO133, HO137, HO141, HO145, HO148, HO151, HO155, HO158, BK124, BK130, BK138, BK142, BK161, GW161, GE161, NB124_161, NB161_124, NB130_161, NB161_130, NB138_161, NB161_138, NB142_161, NB161_142, HB⟩
          try dsimp only at HO129 HO133 HO137 HO141 HO145 HO148 HO151 HO155 HO158 BK124 BK130 BK138 BK142 BK161 GW161 GE161 NB124_161 NB161_124 NB130_161 NB161_130 NB138_161 NB161_138 NB142_161 NB161_142 HB
          replace HO129 := Aside0.mk HO129
          replace HO133 := Aside0.mk HO133
          replace HO137 := Aside0.mk HO137
          replace HO141 := Aside0.mk HO141
          replace HO145 := Aside0.mk HO145
          replace HO148 := Aside0.mk HO148
          replace HO151 := Aside0.mk HO151
          replace HO155 := Aside0.mk HO155
          replace HO158 := Aside0.mk HO158
          replace BK124 := Aside0.mk BK124
          replace BK130 := Aside0.mk BK130
          replace BK138 := Aside0.mk BK138
          replace BK142 := Aside0.mk BK142
          replace BK161 := Aside0.mk BK161
          replace GW161 := Aside0.mk GW161
          replace GE161 := Aside0.mk GE161
          replace NB124_161 := Aside0.mk NB124_161
          replace NB161_124 := Aside0.mk NB161_124
          replace NB130_161 := Aside0.mk NB130_161
          replace NB161_130 := Aside0.mk NB161_130
          replace NB138_161 := Aside0.mk NB138_161
          replace NB161_138 := Aside0.mk NB161_138
          replace NB142_161 := Aside0.mk NB142_161
          replace NB161_142 := Aside0.mk NB161_142
          replace HB := Aside0.mk HB
          have hHeld : w53.cell? ⟨gb130, 0, none⟩ = some (.int .i64 t126) ∧ w53.cell? ⟨gb130, 1, none⟩ = some (.slice Ao24 t127.length co24) ∧ w53.cell? ⟨gb138, 0, none⟩ = some (.int .i64 t134) ∧ w53.cell? ⟨gb138, 1, none⟩ = some (.slice Ao33 t135.length co33) ∧ w53.cell? ⟨gb142, 0, none⟩ = some (.int .i64 t134) ∧ w53.cell? ⟨gb142, 1, none⟩ = some (.slice Ao41 t139.length co41) := hS_
          refine norm_ (a' := ?_) ?_ ?_
          rotate_left
          · simp only [YtheclfjbedajfaaDoorW.PrintLast.putAll, Act.put, List.setIfInBounds_toArray, List.set_cons_zero, List.set_cons_succ]
            rfl
          refine one_ (i := 8) (N := some 12) #[true, true, true, true, true, true, true, true, true, true, false, false] rfl rfl (one_of HT_.out (by kernel_rfl)) (by decide) (fun K hK => ?_)
          refine box_step ?hg (N := 12) ?hd (cs := #[.slice none 0 0, .slice none 0 0, .int .i64 0]) (t := 42) ?hr ?_; (case hd => rfl); (case hg => rfl); (case hr => first | (go_simp; done) | (go_simp; rfl))
          intro gb160 hg w54 hbox hb
          replace HO129 := pkRb HO129 hb
          replace HO133 := pkRb HO133 hb
          replace HO137 := pkRb HO137 hb
          replace HO141 := pkRb HO141 hb
          replace HO145 := pkRb HO145 hb
          replace HO148 := pkRb HO148 hb
          replace HO151 := pkRb HO151 hb
          replace HO155 := pkRb HO155 hb
          replace HO158 := pkRb HO158 hb
          have BK160 := Aside0.mk (hbox)
          have GW160 := pkG hg HB
          have GE160 := pkG hg HB
          replace HB := pkS HB hb
          have NB124_160 := pkN hg BK124
          have NB160_124 := pkM hg BK124
          replace BK124 := pkBb BK124 hb
          have NB130_160 := pkN hg BK130
          have NB160_130 := pkM hg BK130
          replace BK130 := pkBb BK130 hb
          have NB138_160 := pkN hg BK138
          have NB160_138 := pkM hg BK138
          replace BK138 := pkBb BK138 hb
          have NB142_160 := pkN hg BK142
          have NB160_142 := pkM hg BK142
          replace BK142 := pkBb BK142 hb
          have NB161_160 := pkN hg BK161
          have NB160_161 := pkM hg BK161
          replace BK161 := pkBb BK161 hb
          clear hb hbox hg
          refine hK.out _ _ ⟨(blk_cell BK130.out 0).trans rfl, (blk_cell BK130.out 1).trans rfl, (blk_cell BK138.out 0).trans rfl, (blk_cell BK138.out 1).trans rfl, (blk_cell BK142.out 0).trans rfl, (blk_cell BK142.out 1).trans rfl⟩ (fun hHeld => ?_)
          clear hK K
          refine pkA 12 ?_
          exact pkJ (hJ3_7_8_9 (v147, v150, v154, v157, gb160, gb161) _ ⟨hHeld, (pkR HO129.out), (pkR HO133.out), (pkR HO137.out), (pkR HO141.out), (pkR HO145.out), (pkR HO148.out), (pkR HO151.out), (pkR HO155.out), (pkR HO158.out), (pkB BK124.out), (pkB BK130.out), (pkB BK138.out), (pkB BK142.out), (pkB BK160.out), (pkB BK161.out), GW160.out, GE160.out, NB124_160.out, NB160_124.out, NB130_160.out, NB160_130.out, NB138_160.out, NB160_138.out, NB142_160.out, NB160_142.out, NB161_160.out, NB160_161.out, GW161.out, GE161.out, NB124_161.out, NB161_124.out, NB130_161.out, NB161_130.out, NB138_161.out, NB161_138.out, NB142_161.out, NB161_142.out, (pkW HB.out)⟩)
      · skip
        clear HO129 HO133 HO137 HO141 HO145 BK124 BK130 BK138 BK142 HB
        rintro ⟨v147, v150, v154, v157, gb160⟩ w53 ⟨hS_, HO129, HO133, HO137, HO141, HO145, HO148, HO151, HO155, HO158, BK124, BK130, BK138, BK142, BK160, GW160, GE160, NB124_160, NB160_124, NB130_160, NB160_130, NB138_160, NB160_138, NB142_160, NB160_142, HB⟩
        try dsimp only at HO129 HO133 HO137 HO141 HO145 HO148 HO151 HO155 HO158 BK124 BK130 BK138 BK142 BK160 GW160 GE160 NB124_160 NB160_124 NB130_160 NB160_130 NB138_160 NB160_138 NB142_160 NB160_142 HB
        replace HO129 := Aside0.mk HO129
        replace HO133 := Aside0.mk HO133
        replace HO137 := Aside0.mk HO137
        replace HO141 := Aside0.mk HO141
        replace HO145 := Aside0.mk HO145
        replace HO148 := Aside0.mk HO148
        replace HO151 := Aside0.mk HO151
        replace HO155 := Aside0.mk HO155
        replace HO158 := Aside0.mk HO158
        replace BK124 := Aside0.mk BK124
        replace BK130 := Aside0.mk BK130
        replace BK138 := Aside0.mk BK138
        replace BK142 := Aside0.mk BK142
        replace BK160 := Aside0.mk BK160
        replace GW160 := Aside0.mk GW160
        replace GE160 := Aside0.mk GE160
        replace NB124_160 := Aside0.mk NB124_160
        replace NB160_124 := Aside0.mk NB160_124
        replace NB130_160 := Aside0.mk NB130_160
        replace NB160_130 := Aside0.mk NB160_130
        replace NB138_160 := Aside0.mk NB138_160
        replace NB160_138 := Aside0.mk NB160_138
        replace NB142_160 := Aside0.mk NB142_160
        replace NB160_142 := Aside0.mk NB160_142
        replace HB := Aside0.mk HB
        have hHeld : w53.cell? ⟨gb130, 0, none⟩ = some (.int .i64 t126) ∧ w53.cell? ⟨gb130, 1, none⟩ = some (.slice Ao24 t127.length co24) ∧ w53.cell? ⟨gb138, 0, none⟩ = some (.int .i64 t134) ∧ w53.cell? ⟨gb138, 1, none⟩ = some (.slice Ao33 t135.length co33) ∧ w53.cell? ⟨gb142, 0, none⟩ = some (.int .i64 t134) ∧ w53.cell? ⟨gb142, 1, none⟩ = some (.slice Ao41 t139.length co41) := hS_
        refine norm_ (a' := ?_) ?_ ?_
        rotate_left
        · simp only [YtheclfjbedajfaaDoorW.PrintLast.putAll, Act.put, List.setIfInBounds_toArray, List.set_cons_zero, List.set_cons_succ]
          rfl
        refine one_ (i := 9) (N := some 13) #[true, true, true, true, true, true, true, true, true, true, false, false] rfl rfl (one_of HT_.out (by kernel_rfl)) (by decide) (fun K hK => ?_)
        refine box_step ?hg (N := 13) ?hd (cs := #[.slice none 0 0, .slice none 0 0, .int .i64 0]) (t := 42) ?hr ?_; (case hd => rfl); (case hg => rfl); (case hr => first | (go_simp; done) | (go_simp; rfl))
        intro gb161 hg w54 hbox hb
        replace HO129 := pkRb HO129 hb
        replace HO133 := pkRb HO133 hb
        replace HO137 := pkRb HO137 hb
        replace HO141 := pkRb HO141 hb
        replace HO145 := pkRb HO145 hb
        replace HO148 := pkRb HO148 hb
        replace HO151 := pkRb HO151 hb
        replace HO155 := pkRb HO155 hb
        replace HO158 := pkRb HO158 hb
        have BK161 := Aside0.mk (hbox)
        have GW161 := pkG hg HB
        have GE161 := pkG hg HB
        replace HB := pkS HB hb
        have NB124_161 := pkN hg BK124
        have NB161_124 := pkM hg BK124
        replace BK124 := pkBb BK124 hb
        have NB130_161 := pkN hg BK130
        have NB161_130 := pkM hg BK130
        replace BK130 := pkBb BK130 hb
        have NB138_161 := pkN hg BK138
        have NB161_138 := pkM hg BK138
        replace BK138 := pkBb BK138 hb
        have NB142_161 := pkN hg BK142
        have NB161_142 := pkM hg BK142
        replace BK142 := pkBb BK142 hb
        have NB160_161 := pkN hg BK160
        have NB161_160 := pkM hg BK160
        replace BK160 := pkBb BK160 hb
        clear hb hbox hg
        refine hK.out _ _ ⟨(blk_cell BK130.out 0).trans rfl, (blk_cell BK130.out 1).trans rfl, (blk_cell BK138.out 0).trans rfl, (blk_cell BK138.out 1).trans rfl, (blk_cell BK142.out 0).trans rfl, (blk_cell BK142.out 1).trans rfl⟩ (fun hHeld => ?_)
        clear hK K
        refine pkA 13 ?_
        exact pkJ (hJ3_7_8_9 (v147, v150, v154, v157, gb160, gb161) _ ⟨hHeld, (pkR HO129.out), (pkR HO133.out), (pkR HO137.out), (pkR HO141.out), (pkR HO145.out), (pkR HO148.out), (pkR HO151.out), (pkR HO155.out), (pkR HO158.out), (pkB BK124.out), (pkB BK130.out), (pkB BK138.out), (pkB BK142.out), (pkB BK160.out), (pkB BK161.out), GW160.out, GE160.out, NB124_160.out, NB160_124.out, NB130_160.out, NB160_130.out, NB138_160.out, NB160_138.out, NB142_160.out, NB160_142.out, NB161_160.out, NB160_161.out, GW161.out, GE161.out, NB124_161.out, NB161_124.out, NB130_161.out, NB161_130.out, NB138_161.out, NB161_138.out, NB142_161.out, NB161_142.out, (pkW HB.out)⟩)
    clear HO129 HO133 HO137 HO141 HO145 BK124 BK130 BK138 BK142 HB
    rintro ⟨v147, v150, v154, v157, gb160, gb161⟩ w54 ⟨hS_, HO129, HO133, HO137, HO141, HO145, HO148, HO151, HO155, HO158, BK124, BK130, BK138, BK142, BK160, BK161, GW160, GE160, NB124_160, NB160_124, NB130_160, NB160_130, NB138_160, NB160_138, NB142_160, NB160_142, NB161_160, NB160_161, GW161, GE161, NB124_161, NB161_124, NB130_161, NB161_130, NB138_161, NB161_138, NB142_161, NB161_142, HB⟩
    try dsimp only at HO129 HO133 HO137 HO141 HO145 HO148 HO151 HO155 HO158 BK124 BK130 BK138 BK142 BK160 BK161 GW160 GE160 NB124_160 NB160_124 NB130_160 NB160_130 NB138_160 NB160_138 NB142_160 NB160_142 NB161_160 NB160_161 GW161 GE161 NB124_161 NB161_124 NB130_161 NB161_130 NB138_161 NB161_138 NB142_161 NB161_142 HB
    replace HO129 := Aside0.mk HO129
    replace HO133 := Aside0.mk HO133
    replace HO137 := Aside0.mk HO137
    replace HO141 := Aside0.mk HO141
    replace HO145 := Aside0.mk HO145
    replace HO148 := Aside0.mk HO148
    replace HO151 := Aside0.mk HO151
    replace HO155 := Aside0.mk HO155
    replace HO158 := Aside0.mk HO158
    replace BK124 := Aside0.mk BK124
    replace BK130 := Aside0.mk BK130
    replace BK138 := Aside0.mk BK138
    replace BK142 := Aside0.mk BK142
    replace BK160 := Aside0.mk BK160
    replace BK161 := Aside0.mk BK161
    replace GW160 := Aside0.mk GW160
    replace GE160 := Aside0.mk GE160
    replace NB124_160 := Aside0.mk NB124_160
    replace NB160_124 := Aside0.mk NB160_124
    replace NB130_160 := Aside0.mk NB130_160
    replace NB160_130 := Aside0.mk NB160_130
    replace NB138_160 := Aside0.mk NB138_160
    replace NB160_138 := Aside0.mk NB160_138
    replace NB142_160 := Aside0.mk NB142_160
    replace NB160_142 := Aside0.mk NB160_142
    replace NB161_160 := Aside0.mk NB161_160
    replace NB160_161 := Aside0.mk NB160_161
    replace GW161 := Aside0.mk GW161
    replace GE161 := Aside0.mk GE161
    replace NB124_161 := Aside0.mk NB124_161
    replace NB161_124 := Aside0.mk NB161_124
    replace NB130_161 := Aside0.mk NB130_161
    replace NB161_130 := Aside0.mk NB161_130
    replace NB138_161 := Aside0.mk NB138_161
    replace NB161_138 := Aside0.mk NB161_138
    replace NB142_161 := Aside0.mk NB142_161
    replace NB161_142 := Aside0.mk NB161_142
    replace HB := Aside0.mk HB
    have hHeld : w54.cell? ⟨gb130, 0, none⟩ = some (.int .i64 t126) ∧ w54.cell? ⟨gb130, 1, none⟩ = some (.slice Ao24 t127.length co24) ∧ w54.cell? ⟨gb138, 0, none⟩ = some (.int .i64 t134) ∧ w54.cell? ⟨gb138, 1, none⟩ = some (.slice Ao33 t135.length co33) ∧ w54.cell? ⟨gb142, 0, none⟩ = some (.int .i64 t134) ∧ w54.cell? ⟨gb142, 1, none⟩ = some (.slice Ao41 t139.length co41) := hS_
    obtain ⟨Ao55, co55, eo55⟩ := Kd.R_slice HO148.out
    (first | subst eo55 | (injection eo55 with f1_ f2_ f3_; have f4_ := f1_.symm; have f5_ := f3_.symm; clear f1_ f2_ f3_; subst f4_; subst f5_))
    obtain ⟨Ao57, co57, eo57⟩ := Kd.R_slice HO151.out
    (first | subst eo57 | (injection eo57 with f1_ f2_ f3_; have f4_ := f1_.symm; have f5_ := f3_.symm; clear f1_ f2_ f3_; subst f4_; subst f5_))
    obtain ⟨Ao60, co60, eo60⟩ := Kd.R_slice HO155.out
    (first | subst eo60 | (injection eo60 with f1_ f2_ f3_; have f4_ := f1_.symm; have f5_ := f3_.symm; clear f1_ f2_ f3_; subst f4_; subst f5_))
    obtain ⟨Ao62, co62, eo62⟩ := Kd.R_slice HO158.out
    (first | subst eo62 | (injection eo62 with f1_ f2_ f3_; have f4_ := f1_.symm; have f5_ := f3_.symm; clear f1_ f2_ f3_; subst f4_; subst f5_))
    refine norm_ (a' := ?_) ?_ ?_
    rotate_left
    · simp only [YtheclfjbedajfaaDoorW.PrintLast.putAll, Act.put, List.setIfInBounds_toArray, List.set_cons_zero, List.set_cons_succ]
      rfl
    refine one_ (i := 10) (N := none) #[true, true, true, true, true, true, true, true, true, true, true, false] rfl rfl (one_of HT_.out (by kernel_rfl)) (by decide) (fun K hK => ?_)
    have hs56 : w54.cell? ⟨gb160, 0, none⟩ = some (.slice none 0 0) := (blk_cell BK160.out 0).trans rfl
    have hfs56 := blk_frozen BK160.out 0
    have hns56_0 := NB124_160.out
    have hns56_1 := NB130_160.out
    have hns56_2 := NB138_160.out
    have hns56_3 := NB142_160.out
    have hns56_5 := NB161_160.out
    have hms56_0 := NB160_124.out
    have hms56_1 := NB160_130.out
    have hms56_2 := NB160_138.out
    have hms56_3 := NB160_142.out
    have hms56_5 := NB160_161.out
    have hs58 : w54.cell? ⟨gb160, 1, none⟩ = some (.slice none 0 0) := (blk_cell BK160.out 1).trans rfl
    have hfs58 := blk_frozen BK160.out 1
    have hns58_0 := NB124_160.out
    have hns58_1 := NB130_160.out
    have hns58_2 := NB138_160.out
    have hns58_3 := NB142_160.out
    have hns58_5 := NB161_160.out
    have hms58_0 := NB160_124.out
    have hms58_1 := NB160_130.out
    have hms58_2 := NB160_138.out
    have hms58_3 := NB160_142.out
    have hms58_5 := NB160_161.out
    have hs59 : w54.cell? ⟨gb160, 2, none⟩ = some (.int .i64 0) := (blk_cell BK160.out 2).trans rfl
    have hfs59 := blk_frozen BK160.out 2
    have hns59_0 := NB124_160.out
    have hns59_1 := NB130_160.out
    have hns59_2 := NB138_160.out
    have hns59_3 := NB142_160.out
    have hns59_5 := NB161_160.out
    have hms59_0 := NB160_124.out
    have hms59_1 := NB160_130.out
    have hms59_2 := NB160_138.out
    have hms59_3 := NB160_142.out
    have hms59_5 := NB160_161.out
    refine skip_ (w1 := ?_) (by rfl) rfl ?_ ?_
    rotate_left
    · go_simp
      rfl
    refine hK.out _ _ ⟨((cell_far (p := ⟨gb160, _, none⟩) NB130_160.out _).trans (((cell_far (p := ⟨gb160, _, none⟩) NB130_160.out _).trans (((cell_far (p := ⟨gb160, _, none⟩) NB130_160.out _).trans (hHeld.1)))))), ((cell_far (p := ⟨gb160, _, none⟩) NB130_160.out _).trans (((cell_far (p := ⟨gb160, _, none⟩) NB130_160.out _).trans (((cell_far (p := ⟨gb160, _, none⟩) NB130_160.out _).trans (hHeld.2.1)))))), ((cell_far (p := ⟨gb160, _, none⟩) NB138_160.out _).trans (((cell_far (p := ⟨gb160, _, none⟩) NB138_160.out _).trans (((cell_far (p := ⟨gb160, _, none⟩) NB138_160.out _).trans (hHeld.2.2.1)))))), ((cell_far (p := ⟨gb160, _, none⟩) NB138_160.out _).trans (((cell_far (p := ⟨gb160, _, none⟩) NB138_160.out _).trans (((cell_far (p := ⟨gb160, _, none⟩) NB138_160.out _).trans (hHeld.2.2.2.1)))))), ((cell_far (p := ⟨gb160, _, none⟩) NB142_160.out _).trans (((cell_far (p := ⟨gb160, _, none⟩) NB142_160.out _).trans (((cell_far (p := ⟨gb160, _, none⟩) NB142_160.out _).trans (hHeld.2.2.2.2.1)))))), ((cell_far (p := ⟨gb160, _, none⟩) NB142_160.out _).trans (((cell_far (p := ⟨gb160, _, none⟩) NB142_160.out _).trans (((cell_far (p := ⟨gb160, _, none⟩) NB142_160.out _).trans (hHeld.2.2.2.2.2))))))⟩ (fun hHeld => ?_)
    clear hK K
    refine one_ (i := 11) (N := none) #[true, true, true, true, true, true, true, true, true, true, true, true] rfl rfl (one_of HT_.out (by kernel_rfl)) (by decide) (fun K hK => ?_)
    have hs61 : w54.cell? ⟨gb161, 0, none⟩ = some (.slice none 0 0) := (blk_cell BK161.out 0).trans rfl
    have hfs61 := blk_frozen BK161.out 0
    have hns61_0 := NB124_161.out
    have hns61_1 := NB130_161.out
    have hns61_2 := NB138_161.out
    have hns61_3 := NB142_161.out
    have hns61_4 := NB160_161.out
    have hms61_0 := NB161_124.out
    have hms61_1 := NB161_130.out
    have hms61_2 := NB161_138.out
    have hms61_3 := NB161_142.out
    have hms61_4 := NB161_160.out
    have hs63 : w54.cell? ⟨gb161, 1, none⟩ = some (.slice none 0 0) := (blk_cell BK161.out 1).trans rfl
    have hfs63 := blk_frozen BK161.out 1
    have hns63_0 := NB124_161.out
    have hns63_1 := NB130_161.out
    have hns63_2 := NB138_161.out
    have hns63_3 := NB142_161.out
    have hns63_4 := NB160_161.out
    have hms63_0 := NB161_124.out
    have hms63_1 := NB161_130.out
    have hms63_2 := NB161_138.out
    have hms63_3 := NB161_142.out
    have hms63_4 := NB161_160.out
    have hs64 : w54.cell? ⟨gb161, 2, none⟩ = some (.int .i64 0) := (blk_cell BK161.out 2).trans rfl
    have hfs64 := blk_frozen BK161.out 2
    have hns64_0 := NB124_161.out
    have hns64_1 := NB130_161.out
    have hns64_2 := NB138_161.out
    have hns64_3 := NB142_161.out
    have hns64_4 := NB160_161.out
    have hms64_0 := NB161_124.out
    have hms64_1 := NB161_130.out
    have hms64_2 := NB161_138.out
    have hms64_3 := NB161_142.out
    have hms64_4 := NB161_160.out
    refine skip_ (w1 := ?_) (by rfl) rfl ?_ ?_
    rotate_left
    · go_simp
      rfl
    refine hK.out _ _ ⟨((cell_far (p := ⟨gb161, _, none⟩) NB130_161.out _).trans (((cell_far (p := ⟨gb161, _, none⟩) NB130_161.out _).trans (((cell_far (p := ⟨gb161, _, none⟩) NB130_161.out _).trans (hHeld.1)))))), ((cell_far (p := ⟨gb161, _, none⟩) NB130_161.out _).trans (((cell_far (p := ⟨gb161, _, none⟩) NB130_161.out _).trans (((cell_far (p := ⟨gb161, _, none⟩) NB130_161.out _).trans (hHeld.2.1)))))), ((cell_far (p := ⟨gb161, _, none⟩) NB138_161.out _).trans (((cell_far (p := ⟨gb161, _, none⟩) NB138_161.out _).trans (((cell_far (p := ⟨gb161, _, none⟩) NB138_161.out _).trans (hHeld.2.2.1)))))), ((cell_far (p := ⟨gb161, _, none⟩) NB138_161.out _).trans (((cell_far (p := ⟨gb161, _, none⟩) NB138_161.out _).trans (((cell_far (p := ⟨gb161, _, none⟩) NB138_161.out _).trans (hHeld.2.2.2.1)))))), ((cell_far (p := ⟨gb161, _, none⟩) NB142_161.out _).trans (((cell_far (p := ⟨gb161, _, none⟩) NB142_161.out _).trans (((cell_far (p := ⟨gb161, _, none⟩) NB142_161.out _).trans (hHeld.2.2.2.2.1)))))), ((cell_far (p := ⟨gb161, _, none⟩) NB142_161.out _).trans (((cell_far (p := ⟨gb161, _, none⟩) NB142_161.out _).trans (((cell_far (p := ⟨gb161, _, none⟩) NB142_161.out _).trans (hHeld.2.2.2.2.2))))))⟩ (fun hHeld => ?_)
    clear hK K
    refine done_ (done_of HT_.out (by kernel_rfl)) ?_
    go_upto_region 9 with (fail)
    go_cut [77] (fun v77 wc => ∃ (kq : Nat) (x77_15 : Bool), v77 = .bool x77_15 ∧ Aside0 (plexuslaw42_EmbedImages.j0 kq true x77_15 t126 t127 t134 t135 t146 t149 t152 = some true) ∧ Aside0 (kq ≤ k) ∧ Aside0 (Kd.R (Kd.int .u64) 25 wc w.heap.size (fun k_ => some k_ ≠ ((.slice Ao33 t135.length co33) : Value).ownBlock ∧ some k_ ≠ ((.slice Ao41 t139.length co41) : Value).ownBlock) (.slice Ao24 t127.length co24) t127) ∧ Aside0 (Kd.R (Kd.int .u64) 25 wc w.heap.size (fun k_ => some k_ ≠ ((.slice Ao24 t127.length co24) : Value).ownBlock ∧ some k_ ≠ ((.slice Ao41 t139.length co41) : Value).ownBlock) (.slice Ao33 t135.length co33) t135) ∧ Aside0 (Kd.R (Kd.int .u64) 25 wc w.heap.size (fun k_ => some k_ ≠ ((.slice Ao24 t127.length co24) : Value).ownBlock ∧ some k_ ≠ ((.slice Ao33 t135.length co33) : Value).ownBlock) (.slice Ao41 t139.length co41) t139) ∧ Aside0 (Kd.R (Kd.int .i64) 3 wc w.heap.size (fun k_ => some k_ ≠ ((.slice Ao57 t149.length co57) : Value).ownBlock ∧ some k_ ≠ ((.slice Ao60 t153.length co60) : Value).ownBlock ∧ some k_ ≠ ((.slice Ao62 t156.length co62) : Value).ownBlock) (.slice Ao55 t146.length co55) t146) ∧ Aside0 (Kd.R (Kd.int .i64) 3 wc w.heap.size (fun k_ => some k_ ≠ ((.slice Ao55 t146.length co55) : Value).ownBlock ∧ some k_ ≠ ((.slice Ao60 t153.length co60) : Value).ownBlock ∧ some k_ ≠ ((.slice Ao62 t156.length co62) : Value).ownBlock) (.slice Ao57 t149.length co57) t149) ∧ Aside0 (Kd.R (Kd.int .i64) 3 wc w.heap.size (fun k_ => some k_ ≠ ((.slice Ao55 t146.length co55) : Value).ownBlock ∧ some k_ ≠ ((.slice Ao57 t149.length co57) : Value).ownBlock ∧ some k_ ≠ ((.slice Ao62 t156.length co62) : Value).ownBlock) (.slice Ao60 t153.length co60) t153) ∧ Aside0 (Kd.R (Kd.int .i64) 3 wc w.heap.size (fun k_ => some k_ ≠ ((.slice Ao55 t146.length co55) : Value).ownBlock ∧ some k_ ≠ ((.slice Ao57 t149.length co57) : Value).ownBlock ∧ some k_ ≠ ((.slice Ao60 t153.length co60) : Value).ownBlock) (.slice Ao62 t156.length co62) t156) ∧ Aside0 (wc.heap[gb124]? = some (.cells #[(.slice A0_0 l0_0.length c0_0)] 24 (0, 0))) ∧ Aside0 (wc.heap[gb130]? = some (.cells #[.int .i64 t126, (.slice Ao24 t127.length co24)] 29 (0, 0))) ∧ Aside0 (wc.heap[gb138]? = some (.cells #[.int .i64 t134, (.slice Ao33 t135.length co33)] 29 (0, 0))) ∧ Aside0 (wc.heap[gb142]? = some (.cells #[.int .i64 t134, (.slice Ao41 t139.length co41)] 29 (0, 0))) ∧ Aside0 (wc.heap[gb160]? = some (.cells #[(.slice Ao55 t146.length co55), (.slice Ao57 t149.length co57), .int .i64 t152] 42 (0, 0))) ∧ Aside0 (wc.heap[gb161]? = some (.cells #[(.slice Ao60 t153.length co60), (.slice Ao62 t156.length co62), .int .i64 t159] 42 (0, 0))) ∧ Aside0 (Below w.heap.size w wc))
    case first =>
      have H := HC16.out
      clear HC16
      by_cases c65 : t152 = 0
      · rw [if_pos c65] at H
        have c65b0 : (t152 == 0) = true := beq_iff_eq.mpr c65
        have c65b1 : (t152 != 0) = false := bne_eq_false_iff_eq.mpr c65
        clear c65
        (first | rw [c65b0] | (simp only [i64_w, i32_w]; rw [c65b0]) | skip)
        by_cases c66 : t159 = 0
        · rw [if_pos c66] at H
          have c66b0 : (t159 == 0) = true := beq_iff_eq.mpr c66
          have c66b1 : (t159 != 0) = false := bne_eq_false_iff_eq.mpr c66
          clear c66
          replace H := Option.bind_eq_some_iff.mp H
          obtain ⟨t162, A670, H⟩ := H
          replace H : (if (t162.length : Int) = (t127.length : Int) then ((embed_Kept.f t153 t156 t143).bind fun t165 => (plexuslaw42_EmbedImages.j0 k true ((t165.length : Int) != (t127.length : Int)) t126 t127 t134 t135 t146 t149 t152)) else (plexuslaw42_EmbedImages.j0 k true true t126 t127 t134 t135 t146 t149 t152)) = some true := H
          have A67 := Aside0.mk A670
          clear A670
          by_cases c68 : (t162.length : Int) = (t127.length : Int)
          · rw [if_pos c68] at H
            have c68b0 : ((t162.length : Int) == (t127.length : Int)) = true := beq_iff_eq.mpr c68
            have c68b1 : ((t162.length : Int) != (t127.length : Int)) = false := bne_eq_false_iff_eq.mpr c68
            have c68b2 : (t162.length == t127.length) = true := by first | simpa using c68 | (simp at c68 ⊢; omega)
            clear c68
            replace H := Option.bind_eq_some_iff.mp H
            obtain ⟨t165, A690, H⟩ := H
            replace H : (plexuslaw42_EmbedImages.j0 k true ((t165.length : Int) != (t127.length : Int)) t126 t127 t134 t135 t146 t149 t152) = some true := H
            have A69 := Aside0.mk A690
            clear A690
            have H' := Aside0.mk H
            clear H
            try go_wp2
            obtain ⟨w70, hW_⟩ : ∃ x_, x_ = ((((((w54.setCell ⟨gb160, 0, none⟩ (.slice Ao55 t146.length co55)).setCell ⟨gb160, 1, none⟩ (.slice Ao57 t149.length co57)).setCell ⟨gb160, 2, none⟩ (.int .i64 t152)).setCell ⟨gb161, 0, none⟩ (.slice Ao60 t153.length co60)).setCell ⟨gb161, 1, none⟩ (.slice Ao62 t156.length co62)).setCell ⟨gb161, 2, none⟩ (.int .i64 t159)) := ⟨_, rfl⟩
            have n0_ : Aside0 (Kd.R (Kd.int .u64) 25 w70 w.heap.size (fun k_ => some k_ ≠ (.slice Ao33 t135.length co33 : Value).ownBlock ∧ some k_ ≠ (.slice Ao41 t139.length co41 : Value).ownBlock) (.slice Ao24 t127.length co24) t127) := ⟨by subst hW_; (with_reducible repeat (first | apply Kd.R_alloc | apply Kd.R_drewN | apply Kd.R_drew)); exact Kd.R_mono (Kd.R_far (p := ⟨gb161, 2, none⟩) (Kd.R_far (p := ⟨gb161, 1, none⟩) (Kd.R_far (p := ⟨gb161, 0, none⟩) (Kd.R_far (p := ⟨gb160, 2, none⟩) (Kd.R_far (p := ⟨gb160, 1, none⟩) (Kd.R_far (p := ⟨gb160, 0, none⟩) (Kd.R_types (Kd.R_types HO129.out BK160.out (by decide)) BK161.out (by decide)) (fun _ hk => hk.1.2) (.slice Ao55 t146.length co55)) (fun _ hk => hk.1.2) (.slice Ao57 t149.length co57)) (fun _ hk => hk.1.2) (.int .i64 t152)) (fun _ hk => hk.2) (.slice Ao60 t153.length co60)) (fun _ hk => hk.2) (.slice Ao62 t156.length co62)) (fun _ hk => hk.2) (.int .i64 t159)) (fun _ hk => ⟨hk.1.1.1, hk.1.1.2⟩)⟩
            have n1_ : Aside0 (Kd.R (Kd.int .i64) 3 w70 w.heap.size (fun k_ => some k_ ≠ (.slice Ao48 t143.length co48 : Value).ownBlock ∧ some k_ ≠ (.slice Ao55 t146.length co55 : Value).ownBlock ∧ some k_ ≠ (.slice Ao57 t149.length co57 : Value).ownBlock ∧ some k_ ≠ (.slice Ao60 t153.length co60 : Value).ownBlock ∧ some k_ ≠ (.slice Ao62 t156.length co62 : Value).ownBlock) v132 t131) := ⟨by subst hW_; (with_reducible repeat (first | apply Kd.R_alloc | apply Kd.R_drewN | apply Kd.R_drew)); exact Kd.R_mono (Kd.R_far (p := ⟨gb161, 2, none⟩) (Kd.R_far (p := ⟨gb161, 1, none⟩) (Kd.R_far (p := ⟨gb161, 0, none⟩) (Kd.R_far (p := ⟨gb160, 2, none⟩) (Kd.R_far (p := ⟨gb160, 1, none⟩) (Kd.R_far (p := ⟨gb160, 0, none⟩) (Kd.R_types (Kd.R_types HO133.out BK160.out (by decide)) BK161.out (by decide)) (fun _ hk => hk.1.2) (.slice Ao55 t146.length co55)) (fun _ hk => hk.1.2) (.slice Ao57 t149.length co57)) (fun _ hk => hk.1.2) (.int .i64 t152)) (fun _ hk => hk.2) (.slice Ao60 t153.length co60)) (fun _ hk => hk.2) (.slice Ao62 t156.length co62)) (fun _ hk => hk.2) (.int .i64 t159)) (fun _ hk => ⟨hk.1.1.1, ⟨hk.1.1.2.1, ⟨hk.1.1.2.2.1, ⟨hk.1.1.2.2.2.1, hk.1.1.2.2.2.2⟩⟩⟩⟩)⟩
            have n2_ : Aside0 (Kd.R (Kd.int .u64) 25 w70 w.heap.size (fun k_ => some k_ ≠ (.slice Ao24 t127.length co24 : Value).ownBlock ∧ some k_ ≠ (.slice Ao41 t139.length co41 : Value).ownBlock) (.slice Ao33 t135.length co33) t135) := ⟨by subst hW_; (with_reducible repeat (first | apply Kd.R_alloc | apply Kd.R_drewN | apply Kd.R_drew)); exact Kd.R_mono (Kd.R_far (p := ⟨gb161, 2, none⟩) (Kd.R_far (p := ⟨gb161, 1, none⟩) (Kd.R_far (p := ⟨gb161, 0, none⟩) (Kd.R_far (p := ⟨gb160, 2, none⟩) (Kd.R_far (p := ⟨gb160, 1, none⟩) (Kd.R_far (p := ⟨gb160, 0, none⟩) (Kd.R_types (Kd.R_types HO137.out BK160.out (by decide)) BK161.out (by decide)) (fun _ hk => hk.1.2) (.slice Ao55 t146.length co55)) (fun _ hk => hk.1.2) (.slice Ao57 t149.length co57)) (fun _ hk => hk.1.2) (.int .i64 t152)) (fun _ hk => hk.2) (.slice Ao60 t153.length co60)) (fun _ hk => hk.2) (.slice Ao62 t156.length co62)) (fun _ hk => hk.2) (.int .i64 t159)) (fun _ hk => ⟨hk.1.1.1, hk.1.1.2⟩)⟩
            have n3_ : Aside0 (Kd.R (Kd.int .u64) 25 w70 w.heap.size (fun k_ => some k_ ≠ (.slice Ao24 t127.length co24 : Value).ownBlock ∧ some k_ ≠ (.slice Ao33 t135.length co33 : Value).ownBlock) (.slice Ao41 t139.length co41) t139) := ⟨by subst hW_; (with_reducible repeat (first | apply Kd.R_alloc | apply Kd.R_drewN | apply Kd.R_drew)); exact Kd.R_mono (Kd.R_far (p := ⟨gb161, 2, none⟩) (Kd.R_far (p := ⟨gb161, 1, none⟩) (Kd.R_far (p := ⟨gb161, 0, none⟩) (Kd.R_far (p := ⟨gb160, 2, none⟩) (Kd.R_far (p := ⟨gb160, 1, none⟩) (Kd.R_far (p := ⟨gb160, 0, none⟩) (Kd.R_types (Kd.R_types HO141.out BK160.out (by decide)) BK161.out (by decide)) (fun _ hk => hk.1.2) (.slice Ao55 t146.length co55)) (fun _ hk => hk.1.2) (.slice Ao57 t149.length co57)) (fun _ hk => hk.1.2) (.int .i64 t152)) (fun _ hk => hk.2) (.slice Ao60 t153.length co60)) (fun _ hk => hk.2) (.slice Ao62 t156.length co62)) (fun _ hk => hk.2) (.int .i64 t159)) (fun _ hk => ⟨hk.1.1.1, hk.1.1.2⟩)⟩
            have n4_ : Aside0 (Kd.R (Kd.int .i64) 3 w70 w.heap.size (fun k_ => some k_ ≠ (v132 : Value).ownBlock ∧ some k_ ≠ (.slice Ao55 t146.length co55 : Value).ownBlock ∧ some k_ ≠ (.slice Ao57 t149.length co57 : Value).ownBlock ∧ some k_ ≠ (.slice Ao60 t153.length co60 : Value).ownBlock ∧ some k_ ≠ (.slice Ao62 t156.length co62 : Value).ownBlock) (.slice Ao48 t143.length co48) t143) := ⟨by subst hW_; (with_reducible repeat (first | apply Kd.R_alloc | apply Kd.R_drewN | apply Kd.R_drew)); exact Kd.R_mono (Kd.R_far (p := ⟨gb161, 2, none⟩) (Kd.R_far (p := ⟨gb161, 1, none⟩) (Kd.R_far (p := ⟨gb161, 0, none⟩) (Kd.R_far (p := ⟨gb160, 2, none⟩) (Kd.R_far (p := ⟨gb160, 1, none⟩) (Kd.R_far (p := ⟨gb160, 0, none⟩) (Kd.R_types (Kd.R_types HO145.out BK160.out (by decide)) BK161.out (by decide)) (fun _ hk => hk.1.2) (.slice Ao55 t146.length co55)) (fun _ hk => hk.1.2) (.slice Ao57 t149.length co57)) (fun _ hk => hk.1.2) (.int .i64 t152)) (fun _ hk => hk.2) (.slice Ao60 t153.length co60)) (fun _ hk => hk.2) (.slice Ao62 t156.length co62)) (fun _ hk => hk.2) (.int .i64 t159)) (fun _ hk => ⟨hk.1.1.1, ⟨hk.1.1.2.1, ⟨hk.1.1.2.2.1, ⟨hk.1.1.2.2.2.1, hk.1.1.2.2.2.2⟩⟩⟩⟩)⟩
            have n5_ : Aside0 (Kd.R (Kd.int .i64) 3 w70 w.heap.size (fun k_ => some k_ ≠ (v132 : Value).ownBlock ∧ some k_ ≠ (.slice Ao48 t143.length co48 : Value).ownBlock ∧ some k_ ≠ (.slice Ao57 t149.length co57 : Value).ownBlock ∧ some k_ ≠ (.slice Ao60 t153.length co60 : Value).ownBlock ∧ some k_ ≠ (.slice Ao62 t156.length co62 : Value).ownBlock) (.slice Ao55 t146.length co55) t146) := ⟨by subst hW_; (with_reducible repeat (first | apply Kd.R_alloc | apply Kd.R_drewN | apply Kd.R_drew)); exact Kd.R_mono (Kd.R_far (p := ⟨gb161, 2, none⟩) (Kd.R_far (p := ⟨gb161, 1, none⟩) (Kd.R_far (p := ⟨gb161, 0, none⟩) (Kd.R_far (p := ⟨gb160, 2, none⟩) (Kd.R_far (p := ⟨gb160, 1, none⟩) (Kd.R_far (p := ⟨gb160, 0, none⟩) (Kd.R_types (Kd.R_types HO148.out BK160.out (by decide)) BK161.out (by decide)) (fun _ hk => hk.1.2) (.slice Ao55 t146.length co55)) (fun _ hk => hk.1.2) (.slice Ao57 t149.length co57)) (fun _ hk => hk.1.2) (.int .i64 t152)) (fun _ hk => hk.2) (.slice Ao60 t153.length co60)) (fun _ hk => hk.2) (.slice Ao62 t156.length co62)) (fun _ hk => hk.2) (.int .i64 t159)) (fun _ hk => ⟨hk.1.1.1, ⟨hk.1.1.2.1, ⟨hk.1.1.2.2.1, ⟨hk.1.1.2.2.2.1, hk.1.1.2.2.2.2⟩⟩⟩⟩)⟩
            have n6_ : Aside0 (Kd.R (Kd.int .i64) 3 w70 w.heap.size (fun k_ => some k_ ≠ (v132 : Value).ownBlock ∧ some k_ ≠ (.slice Ao48 t143.length co48 : Value).ownBlock ∧ some k_ ≠ (.slice Ao55 t146.length co55 : Value).ownBlock ∧ some k_ ≠ (.slice Ao60 t153.length co60 : Value).ownBlock ∧ some k_ ≠ (.slice Ao62 t156.length co62 : Value).ownBlock) (.slice Ao57 t149.length co57) t149) := ⟨by subst hW_; (with_reducible repeat (first | apply Kd.R_alloc | apply Kd.R_drewN | apply Kd.R_drew)); exact Kd.R_mono (Kd.R_far (p := ⟨gb161, 2, none⟩) (Kd.R_far (p := ⟨gb161, 1, none⟩) (Kd.R_far (p := ⟨gb161, 0, none⟩) (Kd.R_far (p := ⟨gb160, 2, none⟩) (Kd.R_far (p := ⟨gb160, 1, none⟩) (Kd.R_far (p := ⟨gb160, 0, none⟩) (Kd.R_types (Kd.R_types HO151.out BK160.out (by decide)) BK161.out (by decide)) (fun _ hk => hk.1.2) (.slice Ao55 t146.length co55)) (fun _ hk => hk.1.2) (.slice Ao57 t149.length co57)) (fun _ hk => hk.1.2) (.int .i64 t152)) (fun _ hk => hk.2) (.slice Ao60 t153.length co60)) (fun _ hk => hk.2) (.slice Ao62 t156.length co62)) (fun _ hk => hk.2) (.int .i64 t159)) (fun _ hk => ⟨hk.1.1.1, ⟨hk.1.1.2.1, ⟨hk.1.1.2.2.1, ⟨hk.1.1.2.2.2.1, hk.1.1.2.2.2.2⟩⟩⟩⟩)⟩
            have n7_ : Aside0 (Kd.R (Kd.int .i64) 3 w70 w.heap.size (fun k_ => some k_ ≠ (v132 : Value).ownBlock ∧ some k_ ≠ (.slice Ao48 t143.length co48 : Value).ownBlock ∧ some k_ ≠ (.slice Ao55 t146.length co55 : Value).ownBlock ∧ some k_ ≠ (.slice Ao57 t149.length co57 : Value).ownBlock ∧ some k_ ≠ (.slice Ao62 t156.length co62 : Value).ownBlock) (.slice Ao60 t153.length co60) t153) := ⟨by subst hW_; (with_reducible repeat (first | apply Kd.R_alloc | apply Kd.R_drewN | apply Kd.R_drew)); exact Kd.R_mono (Kd.R_far (p := ⟨gb161, 2, none⟩) (Kd.R_far (p := ⟨gb161, 1, none⟩) (Kd.R_far (p := ⟨gb161, 0, none⟩) (Kd.R_far (p := ⟨gb160, 2, none⟩) (Kd.R_far (p := ⟨gb160, 1, none⟩) (Kd.R_far (p := ⟨gb160, 0, none⟩) (Kd.R_types (Kd.R_types HO155.out BK160.out (by decide)) BK161.out (by decide)) (fun _ hk => hk.1.2) (.slice Ao55 t146.length co55)) (fun _ hk => hk.1.2) (.slice Ao57 t149.length co57)) (fun _ hk => hk.1.2) (.int .i64 t152)) (fun _ hk => hk.2) (.slice Ao60 t153.length co60)) (fun _ hk => hk.2) (.slice Ao62 t156.length co62)) (fun _ hk => hk.2) (.int .i64 t159)) (fun _ hk => ⟨hk.1.1.1, ⟨hk.1.1.2.1, ⟨hk.1.1.2.2.1, ⟨hk.1.1.2.2.2.1, hk.1.1.2.2.2.2⟩⟩⟩⟩)⟩
            have n8_ : Aside0 (Kd.R (Kd.int .i64) 3 w70 w.heap.size (fun k_ => some k_ ≠ (v132 : Value).ownBlock ∧ some k_ ≠ (.slice Ao48 t143.length co48 : Value).ownBlock ∧ some k_ ≠ (.slice Ao55 t146.length co55 : Value).ownBlock ∧ some k_ ≠ (.slice Ao57 t149.length co57 : Value).ownBlock ∧ some k_ ≠ (.slice Ao60 t153.length co60 : Value).ownBlock) (.slice Ao62 t156.length co62) t156) := ⟨by subst hW_; (with_reducible repeat (first | apply Kd.R_alloc | apply Kd.R_drewN | apply Kd.R_drew)); exact Kd.R_mono (Kd.R_far (p := ⟨gb161, 2, none⟩) (Kd.R_far (p := ⟨gb161, 1, none⟩) (Kd.R_far (p := ⟨gb161, 0, none⟩) (Kd.R_far (p := ⟨gb160, 2, none⟩) (Kd.R_far (p := ⟨gb160, 1, none⟩) (Kd.R_far (p := ⟨gb160, 0, none⟩) (Kd.R_types (Kd.R_types HO158.out BK160.out (by decide)) BK161.out (by decide)) (fun _ hk => hk.1.2) (.slice Ao55 t146.length co55)) (fun _ hk => hk.1.2) (.slice Ao57 t149.length co57)) (fun _ hk => hk.1.2) (.int .i64 t152)) (fun _ hk => hk.2) (.slice Ao60 t153.length co60)) (fun _ hk => hk.2) (.slice Ao62 t156.length co62)) (fun _ hk => hk.2) (.int .i64 t159)) (fun _ hk => ⟨hk.1.1.1, ⟨hk.1.1.2.1, ⟨hk.1.1.2.2.1, ⟨hk.1.1.2.2.2.1, hk.1.1.2.2.2.2⟩⟩⟩⟩)⟩
            have n9_ : Aside0 (w70.heap[gb124]? = some (.cells #[.slice A0_0 l0_0.length c0_0] 24 (0, 0))) := ⟨by subst hW_; (with_reducible repeat (first | refine blk_drewN ?_ _ | refine blk_drew ?_ | refine blk_alloc ?_ _)); refine blk_far ?_ NB124_161.out _; (with_reducible repeat (first | refine blk_drewN ?_ _ | refine blk_drew ?_ | refine blk_alloc ?_ _)); refine blk_far ?_ NB124_161.out _; (with_reducible repeat (first | refine blk_drewN ?_ _ | refine blk_drew ?_ | refine blk_alloc ?_ _)); refine blk_far ?_ NB124_161.out _; (with_reducible repeat (first | refine blk_drewN ?_ _ | refine blk_drew ?_ | refine blk_alloc ?_ _)); refine blk_far ?_ NB124_160.out _; (with_reducible repeat (first | refine blk_drewN ?_ _ | refine blk_drew ?_ | refine blk_alloc ?_ _)); refine blk_far ?_ NB124_160.out _; (with_reducible repeat (first | refine blk_drewN ?_ _ | refine blk_drew ?_ | refine blk_alloc ?_ _)); refine blk_far ?_ NB124_160.out _; (with_reducible repeat (first | refine blk_drewN ?_ _ | refine blk_drew ?_ | refine blk_alloc ?_ _)); exact BK124.out⟩
            have n10_ : Aside0 (w70.heap[gb130]? = some (.cells #[.int .i64 t126, .slice Ao24 t127.length co24] 29 (0, 0))) := ⟨by subst hW_; (with_reducible repeat (first | refine blk_drewN ?_ _ | refine blk_drew ?_ | refine blk_alloc ?_ _)); refine blk_far ?_ NB130_161.out _; (with_reducible repeat (first | refine blk_drewN ?_ _ | refine blk_drew ?_ | refine blk_alloc ?_ _)); refine blk_far ?_ NB130_161.out _; (with_reducible repeat (first | refine blk_drewN ?_ _ | refine blk_drew ?_ | refine blk_alloc ?_ _)); refine blk_far ?_ NB130_161.out _; (with_reducible repeat (first | refine blk_drewN ?_ _ | refine blk_drew ?_ | refine blk_alloc ?_ _)); refine blk_far ?_ NB130_160.out _; (with_reducible repeat (first | refine blk_drewN ?_ _ | refine blk_drew ?_ | refine blk_alloc ?_ _)); refine blk_far ?_ NB130_160.out _; (with_reducible repeat (first | refine blk_drewN ?_ _ | refine blk_drew ?_ | refine blk_alloc ?_ _)); refine blk_far ?_ NB130_160.out _; (with_reducible repeat (first | refine blk_drewN ?_ _ | refine blk_drew ?_ | refine blk_alloc ?_ _)); exact BK130.out⟩
            have n11_ : Aside0 (w70.heap[gb138]? = some (.cells #[.int .i64 t134, .slice Ao33 t135.length co33] 29 (0, 0))) := ⟨by subst hW_; (with_reducible repeat (first | refine blk_drewN ?_ _ | refine blk_drew ?_ | refine blk_alloc ?_ _)); refine blk_far ?_ NB138_161.out _; (with_reducible repeat (first | refine blk_drewN ?_ _ | refine blk_drew ?_ | refine blk_alloc ?_ _)); refine blk_far ?_ NB138_161.out _; (with_reducible repeat (first | refine blk_drewN ?_ _ | refine blk_drew ?_ | refine blk_alloc ?_ _)); refine blk_far ?_ NB138_161.out _; (with_reducible repeat (first | refine blk_drewN ?_ _ | refine blk_drew ?_ | refine blk_alloc ?_ _)); refine blk_far ?_ NB138_160.out _; (with_reducible repeat (first | refine blk_drewN ?_ _ | refine blk_drew ?_ | refine blk_alloc ?_ _)); refine blk_far ?_ NB138_160.out _; (with_reducible repeat (first | refine blk_drewN ?_ _ | refine blk_drew ?_ | refine blk_alloc ?_ _)); refine blk_far ?_ NB138_160.out _; (with_reducible repeat (first | refine blk_drewN ?_ _ | refine blk_drew ?_ | refine blk_alloc ?_ _)); exact BK138.out⟩
            have n12_ : Aside0 (w70.heap[gb142]? = some (.cells #[.int .i64 t134, .slice Ao41 t139.length co41] 29 (0, 0))) := ⟨by subst hW_; (with_reducible repeat (first | refine blk_drewN ?_ _ | refine blk_drew ?_ | refine blk_alloc ?_ _)); refine blk_far ?_ NB142_161.out _; (with_reducible repeat (first | refine blk_drewN ?_ _ | refine blk_drew ?_ | refine blk_alloc ?_ _)); refine blk_far ?_ NB142_161.out _; (with_reducible repeat (first | refine blk_drewN ?_ _ | refine blk_drew ?_ | refine blk_alloc ?_ _)); refine blk_far ?_ NB142_161.out _; (with_reducible repeat (first | refine blk_drewN ?_ _ | refine blk_drew ?_ | refine blk_alloc ?_ _)); refine blk_far ?_ NB142_160.out _; (with_reducible repeat (first | refine blk_drewN ?_ _ | refine blk_drew ?_ | refine blk_alloc ?_ _)); refine blk_far ?_ NB142_160.out _; (with_reducible repeat (first | refine blk_drewN ?_ _ | refine blk_drew ?_ | refine blk_alloc ?_ _)); refine blk_far ?_ NB142_160.out _; (with_reducible repeat (first | refine blk_drewN ?_ _ | refine blk_drew ?_ | refine blk_alloc ?_ _)); exact BK142.out⟩
            have n13_ : Aside0 (w70.heap[gb160]? = some (.cells #[.slice Ao55 t146.length co55, .slice Ao57 t149.length co57, .int .i64 t152] 42 (0, 0))) := ⟨by subst hW_; (with_reducible repeat (first | refine blk_drewN ?_ _ | refine blk_drew ?_ | refine blk_alloc ?_ _)); refine blk_far ?_ NB160_161.out _; (with_reducible repeat (first | refine blk_drewN ?_ _ | refine blk_drew ?_ | refine blk_alloc ?_ _)); refine blk_far ?_ NB160_161.out _; (with_reducible repeat (first | refine blk_drewN ?_ _ | refine blk_drew ?_ | refine blk_alloc ?_ _)); refine blk_far ?_ NB160_161.out _; (with_reducible repeat (first | refine blk_drewN ?_ _ | refine blk_drew ?_ | refine blk_alloc ?_ _)); refine blk_put (cs := #[.slice Ao55 t146.length co55, .slice Ao57 t149.length co57, .int .i64 0]) ?_ 2 _ rfl; (with_reducible repeat (first | refine blk_drewN ?_ _ | refine blk_drew ?_ | refine blk_alloc ?_ _)); refine blk_put (cs := #[.slice Ao55 t146.length co55, .slice none 0 0, .int .i64 0]) ?_ 1 _ rfl; (with_reducible repeat (first | refine blk_drewN ?_ _ | refine blk_drew ?_ | refine blk_alloc ?_ _)); refine blk_put (cs := #[.slice none 0 0, .slice none 0 0, .int .i64 0]) ?_ 0 _ rfl; (with_reducible repeat (first | refine blk_drewN ?_ _ | refine blk_drew ?_ | refine blk_alloc ?_ _)); exact BK160.out⟩
            have n14_ : Aside0 (w70.heap[gb161]? = some (.cells #[.slice Ao60 t153.length co60, .slice Ao62 t156.length co62, .int .i64 t159] 42 (0, 0))) := ⟨by subst hW_; (with_reducible repeat (first | refine blk_drewN ?_ _ | refine blk_drew ?_ | refine blk_alloc ?_ _)); refine blk_put (cs := #[.slice Ao60 t153.length co60, .slice Ao62 t156.length co62, .int .i64 0]) ?_ 2 _ rfl; (with_reducible repeat (first | refine blk_drewN ?_ _ | refine blk_drew ?_ | refine blk_alloc ?_ _)); refine blk_put (cs := #[.slice Ao60 t153.length co60, .slice none 0 0, .int .i64 0]) ?_ 1 _ rfl; (with_reducible repeat (first | refine blk_drewN ?_ _ | refine blk_drew ?_ | refine blk_alloc ?_ _)); refine blk_put (cs := #[.slice none 0 0, .slice none 0 0, .int .i64 0]) ?_ 0 _ rfl; (with_reducible repeat (first | refine blk_drewN ?_ _ | refine blk_drew ?_ | refine blk_alloc ?_ _)); refine blk_far ?_ NB161_160.out _; (with_reducible repeat (first | refine blk_drewN ?_ _ | refine blk_drew ?_ | refine blk_alloc ?_ _)); refine blk_far ?_ NB161_160.out _; (with_reducible repeat (first | refine blk_drewN ?_ _ | refine blk_drew ?_ | refine blk_alloc ?_ _)); refine blk_far ?_ NB161_160.out _; (with_reducible repeat (first | refine blk_drewN ?_ _ | refine blk_drew ?_ | refine blk_alloc ?_ _)); exact BK161.out⟩
            have n15_ : Aside0 (Below w.heap.size w w70) := ⟨by subst hW_; exact pkW HB.out⟩
            rw [← hW_]
            clear hW_ HO129 HO133 HO137 HO141 HO145 HO148 HO151 HO155 HO158 BK124 BK130 BK138 BK142 BK160 BK161 HB
            have HO129 := n0_
            have HO133 := n1_
            have HO137 := n2_
            have HO141 := n3_
            have HO145 := n4_
            have HO148 := n5_
            have HO151 := n6_
            have HO155 := n7_
            have HO158 := n8_
            have BK124 := n9_
            have BK130 := n10_
            have BK138 := n11_
            have BK142 := n12_
            have BK160 := n13_
            have BK161 := n14_
            have HB := n15_
            clear n0_ n1_ n2_ n3_ n4_ n5_ n6_ n7_ n8_ n9_ n10_ n11_ n12_ n13_ n14_ n15_
            replace HO129 := Aside0.mk (Kd.R_drew HO129.out)
            replace HO133 := Aside0.mk (Kd.R_drew HO133.out)
            replace HO137 := Aside0.mk (Kd.R_drew HO137.out)
            replace HO141 := Aside0.mk (Kd.R_drew HO141.out)
            replace HO145 := Aside0.mk (Kd.R_drew HO145.out)
            replace HO148 := Aside0.mk (Kd.R_drew HO148.out)
            replace HO151 := Aside0.mk (Kd.R_drew HO151.out)
            replace HO155 := Aside0.mk (Kd.R_drew HO155.out)
            replace HO158 := Aside0.mk (Kd.R_drew HO158.out)
            replace BK124 := Aside0.mk (blk_drew BK124.out)
            replace BK130 := Aside0.mk (blk_drew BK130.out)
            replace BK138 := Aside0.mk (blk_drew BK138.out)
            replace BK142 := Aside0.mk (blk_drew BK142.out)
            replace BK160 := Aside0.mk (blk_drew BK160.out)
            replace BK161 := Aside0.mk (blk_drew BK161.out)
            replace HB := Aside0.mk (below_drew1 HB.out)
            refine start_ (n := 30) (S := fun w' => w'.cell? ⟨gb160, 0, none⟩ = some (.slice Ao55 t146.length co55) ∧ w'.cell? ⟨gb160, 1, none⟩ = some (.slice Ao57 t149.length co57) ∧ w'.cell? ⟨gb160, 2, none⟩ = some (.int .i64 t152) ∧ w'.cell? ⟨gb161, 0, none⟩ = some (.slice Ao60 t153.length co60) ∧ w'.cell? ⟨gb161, 1, none⟩ = some (.slice Ao62 t156.length co62) ∧ w'.cell? ⟨gb161, 2, none⟩ = some (.int .i64 t159) ∧ w'.cell? ⟨gb130, 0, none⟩ = some (.int .i64 t126) ∧ w'.cell? ⟨gb130, 1, none⟩ = some (.slice Ao24 t127.length co24)) (ds := []) #[false, false, false, false, false, false, false, false, false, false, false, false, false, false, false, false, false, false, false, false, false, false, false, false, false, false, false, false, false, false] (by kernel_rfl) rfl rfl ⟨(blk_cell BK160.out 0).trans rfl, (blk_cell BK160.out 1).trans rfl, (blk_cell BK160.out 2).trans rfl, (blk_cell BK161.out 0).trans rfl, (blk_cell BK161.out 1).trans rfl, (blk_cell BK161.out 2).trans rfl, (blk_cell BK130.out 0).trans rfl, (blk_cell BK130.out 1).trans rfl⟩ (fun hHeld => ?_); refine with_tabW plexuslaw42_EmbedImages.tab9 plexuslaw42_EmbedImages.bits9 (fun HT_ HW_ => ?_)
            generalize w70.drew = w71 at HO129 HO133 HO137 HO141 HO145 HO148 HO151 HO155 HO158 BK124 BK130 BK138 BK142 BK160 BK161 HB hHeld ⊢
            refine pkP 0 48 #[true, false, false, false, false, false, false, false, false, false, false, false, false, false, false, false, false, false, false, false, false, false, false, false, false, false, false, false, false, false] HT_ ?_
            refine take_ (i := 1) (N := some 49) (v := ?_) (a' := ?_) #[true, true, false, false, false, false, false, false, false, false, false, false, false, false, false, false, false, false, false, false, false, false, false, false, false, false, false, false, false, false] rfl rfl (take_ofW HT_.out HW_.out (by kernel_rfl)) (fun _ _ _ h => h) (Or.inl ⟨by rfl, ?_⟩) hHeld ?_ ?_
            rotate_left
            · rintro w' ⟨s0, s1, s2, s3, s4, s5, s6, s7⟩
              go_simp
              with_reducible rfl
            rotate_left
            · simp only [Act.put, List.setIfInBounds_toArray, List.set_cons_zero, List.set_cons_succ, i64_w, i32_w]
              rfl
            refine pkP 2 50 #[true, true, true, false, false, false, false, false, false, false, false, false, false, false, false, false, false, false, false, false, false, false, false, false, false, false, false, false, false, false] HT_ ?_
            refine pkP 3 51 #[true, true, true, true, false, false, false, false, false, false, false, false, false, false, false, false, false, false, false, false, false, false, false, false, false, false, false, false, false, false] HT_ ?_
            refine pkP 4 52 #[true, true, true, true, true, false, false, false, false, false, false, false, false, false, false, false, false, false, false, false, false, false, false, false, false, false, false, false, false, false] HT_ ?_
            refine take_ (i := 5) (N := some 53) (v := ?_) (a' := ?_) #[true, true, true, true, true, true, false, false, false, false, false, false, false, false, false, false, false, false, false, false, false, false, false, false, false, false, false, false, false, false] rfl rfl (take_ofW HT_.out HW_.out (by kernel_rfl)) (fun _ _ _ h => h) (Or.inl ⟨by rfl, ?_⟩) hHeld ?_ ?_
            rotate_left
            · rintro w' ⟨s0, s1, s2, s3, s4, s5, s6, s7⟩
              go_simp
              with_reducible rfl
            rotate_left
            · simp only [Act.put, List.setIfInBounds_toArray, List.set_cons_zero, List.set_cons_succ, i64_w, i32_w]
              rfl
            refine pkP 6 54 #[true, true, true, true, true, true, true, false, false, false, false, false, false, false, false, false, false, false, false, false, false, false, false, false, false, false, false, false, false, false] HT_ ?_
            refine pkP 7 55 #[true, true, true, true, true, true, true, true, false, false, false, false, false, false, false, false, false, false, false, false, false, false, false, false, false, false, false, false, false, false] HT_ ?_
            refine pkP 8 56 #[true, true, true, true, true, true, true, true, true, false, false, false, false, false, false, false, false, false, false, false, false, false, false, false, false, false, false, false, false, false] HT_ ?_
            refine pkP 9 57 #[true, true, true, true, true, true, true, true, true, true, false, false, false, false, false, false, false, false, false, false, false, false, false, false, false, false, false, false, false, false] HT_ ?_
            refine pkP 11 59 #[true, true, true, true, true, true, true, true, true, true, false, true, false, false, false, false, false, false, false, false, false, false, false, false, false, false, false, false, false, false] HT_ ?_
            refine pkP 14 62 #[true, true, true, true, true, true, true, true, true, true, false, true, false, false, true, false, false, false, false, false, false, false, false, false, false, false, false, false, false, false] HT_ ?_
            refine take_ (i := 10) (N := some 58) (v := ?_) (a' := ?_) #[true, true, true, true, true, true, true, true, true, true, true, true, false, false, true, false, false, false, false, false, false, false, false, false, false, false, false, false, false, false] rfl rfl (take_ofW HT_.out HW_.out (by kernel_rfl)) (fun _ _ _ h => h) (Or.inl ⟨by rfl, ?_⟩) hHeld ?_ ?_
            rotate_left
            · rintro w' ⟨s0, s1, s2, s3, s4, s5, s6, s7⟩
              go_simp
              with_reducible rfl
            rotate_left
            · simp only [Act.put, List.setIfInBounds_toArray, List.set_cons_zero, List.set_cons_succ, i64_w, i32_w]
              rfl
            refine take_ (i := 15) (N := some 63) (v := ?_) (a' := ?_) #[true, true, true, true, true, true, true, true, true, true, true, true, false, false, true, true, false, false, false, false, false, false, false, false, false, false, false, false, false, false] rfl rfl (take_ofW HT_.out HW_.out (by kernel_rfl)) (fun _ _ _ h => h) (Or.inl ⟨by rfl, ?_⟩) hHeld ?_ ?_
            rotate_left
            · rintro w' ⟨s0, s1, s2, s3, s4, s5, s6, s7⟩
              go_simp
              with_reducible rfl
            rotate_left
            · simp only [Act.put, List.setIfInBounds_toArray, List.set_cons_zero, List.set_cons_succ, i64_w, i32_w]
              rfl
            refine pkP 16 64 #[true, true, true, true, true, true, true, true, true, true, true, true, false, false, true, true, true, false, false, false, false, false, false, false, false, false, false, false, false, false] HT_ ?_
            refine one_ (i := 12) (N := some 60) #[true, true, true, true, true, true, true, true, true, true, true, true, true, false, true, true, true, false, false, false, false, false, false, false, false, false, false, false, false, false] rfl rfl (one_of HT_.out (by kernel_rfl)) (by decide) (fun K hK => ?_)
            refine goes_ Tryd.func11 (by kernel_rfl) rfl #[.agg #[.slice Ao55 t146.length co55, .slice Ao57 t149.length co57], .slice Ao48 t143.length co48] (by rfl) rfl rfl (by (try simp only [List.map_toArray, List.map_cons, List.map_nil]); first | done | rfl | (simp only [List.length_drop, List.length_take]; rfl)) ?_
            with_reducible refine (embed_Kept.calls _ _ t146 _ _ t149 _ _ t143 t162 _ ?side1 ?side2 ?side3 ?side4 ?side5 ?side6 A67.out).mono ?_
            case side1 => exact pkC (Kd.R_reads' HO148.out).2.2
            case side2 => exact (Kd.R_reads' HO148.out).2.1
            case side3 => exact pkC (Kd.R_reads' HO151.out).2.2
            case side4 => exact (Kd.R_reads' HO151.out).2.1
            case side5 => exact pkC (Kd.R_reads' HO145.out).2.2
            case side6 => exact (Kd.R_reads' HO145.out).2.1
            rintro e w72 ⟨v163, rfl, ho0, hb⟩
            refine ⟨_, rfl, ?_⟩
            replace HO129 := pkRb HO129 hb
            replace HO137 := pkRb HO137 hb
            replace HO141 := pkRb HO141 hb
            have HO164 := Aside0.mk (Kd.R_lower (Kd.R_new' (Kd.R_new' (Kd.R_new' (Kd.R_new' (Kd.R_new' (Kd.R_new' ho0 (Kd.R_lt (pkR HO133.out))) (Kd.R_lt (pkR HO145.out))) (Kd.R_lt (pkR HO148.out))) (Kd.R_lt (pkR HO151.out))) (Kd.R_lt (pkR HO155.out))) (Kd.R_lt (pkR HO158.out))) (pkZ HB))
            replace HO133 := Aside0.mk (Kd.R_elder' (pkR HO133.out) (Kd.R_base ho0) hb)
            replace HO145 := Aside0.mk (Kd.R_elder' (pkR HO145.out) (Kd.R_base ho0) hb)
            replace HO148 := Aside0.mk (Kd.R_elder' (pkR HO148.out) (Kd.R_base ho0) hb)
            replace HO151 := Aside0.mk (Kd.R_elder' (pkR HO151.out) (Kd.R_base ho0) hb)
            replace HO155 := Aside0.mk (Kd.R_elder' (pkR HO155.out) (Kd.R_base ho0) hb)
            replace HO158 := Aside0.mk (Kd.R_elder' (pkR HO158.out) (Kd.R_base ho0) hb)
            replace BK124 := pkBb BK124 hb
            replace BK130 := pkBb BK130 hb
            replace BK138 := pkBb BK138 hb
            replace BK142 := pkBb BK142 hb
            replace BK160 := pkBb BK160 hb
            replace BK161 := pkBb BK161 hb
            replace HB := pkS HB hb
            (try clear hb)
            (try clear hb2)
            (try clear hk)
            (try clear hi)
            (try clear ho0)
            obtain ⟨Ao73, co73, eo73⟩ := Kd.R_slice HO164.out
            (first | subst eo73 | (injection eo73 with f1_ f2_ f3_; have f4_ := f1_.symm; have f5_ := f3_.symm; clear f1_ f2_ f3_; subst f4_; subst f5_))
            refine hK.out _ _ ⟨(blk_cell BK160.out 0).trans rfl, (blk_cell BK160.out 1).trans rfl, (blk_cell BK160.out 2).trans rfl, (blk_cell BK161.out 0).trans rfl, (blk_cell BK161.out 1).trans rfl, (blk_cell BK161.out 2).trans rfl, (blk_cell BK130.out 0).trans rfl, (blk_cell BK130.out 1).trans rfl⟩ (fun hHeld => ?_)
            clear hK K
            refine pkA 60 ?_
            refine pkP 13 61 #[true, true, true, true, true, true, true, true, true, true, true, true, true, true, true, true, true, false, false, false, false, false, false, false, false, false, false, false, false, false] HT_ ?_
            refine pkP 17 65 #[true, true, true, true, true, true, true, true, true, true, true, true, true, true, true, true, true, true, false, false, false, false, false, false, false, false, false, false, false, false] HT_ ?_
            refine pkP 18 66 #[true, true, true, true, true, true, true, true, true, true, true, true, true, true, true, true, true, true, true, false, false, false, false, false, false, false, false, false, false, false] HT_ ?_
            refine pkP 19 67 #[true, true, true, true, true, true, true, true, true, true, true, true, true, true, true, true, true, true, true, true, false, false, false, false, false, false, false, false, false, false] HT_ ?_
            refine pkP 20 68 #[true, true, true, true, true, true, true, true, true, true, true, true, true, true, true, true, true, true, true, true, true, false, false, false, false, false, false, false, false, false] HT_ ?_
            refine pkP 22 70 #[true, true, true, true, true, true, true, true, true, true, true, true, true, true, true, true, true, true, true, true, true, false, true, false, false, false, false, false, false, false] HT_ ?_
            refine pkP 25 73 #[true, true, true, true, true, true, true, true, true, true, true, true, true, true, true, true, true, true, true, true, true, false, true, false, false, true, false, false, false, false] HT_ ?_
            refine take_ (i := 21) (N := some 69) (v := ?_) (a' := ?_) #[true, true, true, true, true, true, true, true, true, true, true, true, true, true, true, true, true, true, true, true, true, true, true, false, false, true, false, false, false, false] rfl rfl (take_ofW HT_.out HW_.out (by kernel_rfl)) (fun _ _ _ h => h) (Or.inl ⟨by rfl, ?_⟩) hHeld ?_ ?_
            rotate_left
            · rintro w' ⟨s0, s1, s2, s3, s4, s5, s6, s7⟩
              go_simp
              with_reducible rfl
            rotate_left
            · simp only [Act.put, List.setIfInBounds_toArray, List.set_cons_zero, List.set_cons_succ, i64_w, i32_w]
              rfl
            refine take_ (i := 26) (N := some 74) (v := ?_) (a' := ?_) #[true, true, true, true, true, true, true, true, true, true, true, true, true, true, true, true, true, true, true, true, true, true, true, false, false, true, true, false, false, false] rfl rfl (take_ofW HT_.out HW_.out (by kernel_rfl)) (fun _ _ _ h => h) (Or.inl ⟨by rfl, ?_⟩) hHeld ?_ ?_
            rotate_left
            · rintro w' ⟨s0, s1, s2, s3, s4, s5, s6, s7⟩
              go_simp
              with_reducible rfl
            rotate_left
            · simp only [Act.put, List.setIfInBounds_toArray, List.set_cons_zero, List.set_cons_succ, i64_w, i32_w]
              rfl
            refine pkP 27 75 #[true, true, true, true, true, true, true, true, true, true, true, true, true, true, true, true, true, true, true, true, true, true, true, false, false, true, true, true, false, false] HT_ ?_
            refine one_ (i := 23) (N := some 71) #[true, true, true, true, true, true, true, true, true, true, true, true, true, true, true, true, true, true, true, true, true, true, true, true, false, true, true, true, false, false] rfl rfl (one_of HT_.out (by kernel_rfl)) (by decide) (fun K hK => ?_)
            refine goes_ Tryd.func11 (by kernel_rfl) rfl #[.agg #[.slice Ao60 t153.length co60, .slice Ao62 t156.length co62], .slice Ao48 t143.length co48] (by rfl) rfl rfl (by (try simp only [List.map_toArray, List.map_cons, List.map_nil]); first | done | rfl | (simp only [List.length_drop, List.length_take]; rfl)) ?_
            with_reducible refine (embed_Kept.calls _ _ t153 _ _ t156 _ _ t143 t165 _ ?side1 ?side2 ?side3 ?side4 ?side5 ?side6 A69.out).mono ?_
            case side1 => exact pkC (Kd.R_reads' HO155.out).2.2
            case side2 => exact (Kd.R_reads' HO155.out).2.1
            case side3 => exact pkC (Kd.R_reads' HO158.out).2.2
            case side4 => exact (Kd.R_reads' HO158.out).2.1
            case side5 => exact pkC (Kd.R_reads' HO145.out).2.2
            case side6 => exact (Kd.R_reads' HO145.out).2.1
            rintro e w74 ⟨v166, rfl, ho0, hb⟩
            refine ⟨_, rfl, ?_⟩
            replace HO129 := pkRb HO129 hb
            replace HO137 := pkRb HO137 hb
            replace HO141 := pkRb HO141 hb
            have HO167 := Aside0.mk (Kd.R_lower (Kd.R_new' (Kd.R_new' (Kd.R_new' (Kd.R_new' (Kd.R_new' (Kd.R_new' (Kd.R_new' ho0 (Kd.R_lt (pkR HO133.out))) (Kd.R_lt (pkR HO145.out))) (Kd.R_lt (pkR HO148.out))) (Kd.R_lt (pkR HO151.out))) (Kd.R_lt (pkR HO155.out))) (Kd.R_lt (pkR HO158.out))) (Kd.R_lt (pkR HO164.out))) (pkZ HB))
            replace HO133 := Aside0.mk (Kd.R_elder' (pkR HO133.out) (Kd.R_base ho0) hb)
            replace HO145 := Aside0.mk (Kd.R_elder' (pkR HO145.out) (Kd.R_base ho0) hb)
            replace HO148 := Aside0.mk (Kd.R_elder' (pkR HO148.out) (Kd.R_base ho0) hb)
            replace HO151 := Aside0.mk (Kd.R_elder' (pkR HO151.out) (Kd.R_base ho0) hb)
            replace HO155 := Aside0.mk (Kd.R_elder' (pkR HO155.out) (Kd.R_base ho0) hb)
            replace HO158 := Aside0.mk (Kd.R_elder' (pkR HO158.out) (Kd.R_base ho0) hb)
            replace HO164 := Aside0.mk (Kd.R_elder' (pkR HO164.out) (Kd.R_base ho0) hb)
            replace BK124 := pkBb BK124 hb
            replace BK130 := pkBb BK130 hb
            replace BK138 := pkBb BK138 hb
            replace BK142 := pkBb BK142 hb
            replace BK160 := pkBb BK160 hb
            replace BK161 := pkBb BK161 hb
            replace HB := pkS HB hb
            (try clear hb)
            (try clear hb2)
            (try clear hk)
            (try clear hi)
            (try clear ho0)
            obtain ⟨Ao75, co75, eo75⟩ := Kd.R_slice HO167.out
            (first | subst eo75 | (injection eo75 with f1_ f2_ f3_; have f4_ := f1_.symm; have f5_ := f3_.symm; clear f1_ f2_ f3_; subst f4_; subst f5_))
            refine hK.out _ _ ⟨(blk_cell BK160.out 0).trans rfl, (blk_cell BK160.out 1).trans rfl, (blk_cell BK160.out 2).trans rfl, (blk_cell BK161.out 0).trans rfl, (blk_cell BK161.out 1).trans rfl, (blk_cell BK161.out 2).trans rfl, (blk_cell BK130.out 0).trans rfl, (blk_cell BK130.out 1).trans rfl⟩ (fun hHeld => ?_)
            clear hK K
            refine pkA 71 ?_
            refine pkP 24 72 #[true, true, true, true, true, true, true, true, true, true, true, true, true, true, true, true, true, true, true, true, true, true, true, true, true, true, true, true, false, false] HT_ ?_
            refine pkP 28 76 #[true, true, true, true, true, true, true, true, true, true, true, true, true, true, true, true, true, true, true, true, true, true, true, true, true, true, true, true, true, false] HT_ ?_
            refine pkP 29 77 #[true, true, true, true, true, true, true, true, true, true, true, true, true, true, true, true, true, true, true, true, true, true, true, true, true, true, true, true, true, true] HT_ ?_
            refine done_ (done_of HT_.out (by kernel_rfl)) ?_
            try go_wp2
            go_meet
            case rel => exact ⟨_, (((t165.length : Int) != (t127.length : Int))), (by first | rfl | (simp; done) | (simp [*]; done)), H', ⟨by first | omega | exact Nat.le_refl _⟩, ⟨pkR HO129.out⟩, ⟨pkR HO137.out⟩, ⟨pkR HO141.out⟩, ⟨by (with_reducible repeat (first | apply Kd.R_alloc | apply Kd.R_drewN | apply Kd.R_drew)); exact Kd.R_mono HO148.out (fun _ hk => ⟨hk.1.1.2.2.1, ⟨hk.1.1.2.2.2.1, hk.1.1.2.2.2.2⟩⟩)⟩, ⟨by (with_reducible repeat (first | apply Kd.R_alloc | apply Kd.R_drewN | apply Kd.R_drew)); exact Kd.R_mono HO151.out (fun _ hk => ⟨hk.1.1.2.2.1, ⟨hk.1.1.2.2.2.1, hk.1.1.2.2.2.2⟩⟩)⟩, ⟨by (with_reducible repeat (first | apply Kd.R_alloc | apply Kd.R_drewN | apply Kd.R_drew)); exact Kd.R_mono HO155.out (fun _ hk => ⟨hk.1.1.2.2.1, ⟨hk.1.1.2.2.2.1, hk.1.1.2.2.2.2⟩⟩)⟩, ⟨by (with_reducible repeat (first | apply Kd.R_alloc | apply Kd.R_drewN | apply Kd.R_drew)); exact Kd.R_mono HO158.out (fun _ hk => ⟨hk.1.1.2.2.1, ⟨hk.1.1.2.2.2.1, hk.1.1.2.2.2.2⟩⟩)⟩, ⟨pkB BK124.out⟩, ⟨pkB BK130.out⟩, ⟨pkB BK138.out⟩, ⟨pkB BK142.out⟩, ⟨pkB BK160.out⟩, ⟨pkB BK161.out⟩, ⟨pkW HB.out⟩⟩
          · rw [if_neg c68] at H
            have c68b0 : ((t162.length : Int) == (t127.length : Int)) = false := beq_eq_false_iff_ne.mpr c68
            have c68b1 : ((t162.length : Int) != (t127.length : Int)) = true := bne_iff_ne.mpr c68
            have c68b2 : (t162.length == t127.length) = false := by first | simpa using c68 | (simp at c68 ⊢; omega)
            exact absurd H (by generalize k = q_; cases q_ <;> simp [plexuslaw42_EmbedImages.j0])
        · rw [if_neg c66] at H
          have c66b0 : (t159 == 0) = false := beq_eq_false_iff_ne.mpr c66
          have c66b1 : (t159 != 0) = true := bne_iff_ne.mpr c66
          exact absurd H (by generalize k = q_; cases q_ <;> simp [plexuslaw42_EmbedImages.j0])
      · rw [if_neg c65] at H
        have c65b0 : (t152 == 0) = false := beq_eq_false_iff_ne.mpr c65
        have c65b1 : (t152 != 0) = true := bne_iff_ne.mpr c65
        (first | rw [c65b0] | (simp only [i64_w, i32_w]; rw [c65b0]) | skip)
        exact absurd H (by generalize k = q_; cases q_ <;> simp [plexuslaw42_EmbedImages.j0])
    case rest =>
      clear HC16
      try clear c1
      try clear p2
      try clear c6
      try clear c11
      try clear c65
      try clear c65b0
      try clear c65b1
      try clear c66
      try clear c66b0
      try clear c66b1
      try clear c68
      try clear c68b0
      try clear c68b1
      try clear c68b2
      obtain ⟨kq, x77_15, rfl, HA, HJ15, HO_131001, HO_139001, HO_143001, HO_161000, HO_161001, HO_162000, HO_162001, BK124, BK130, BK138, BK142, BK160, BK161, HB⟩ := hcut
      cases kq with
      | zero => exact absurd HA.out (by simp [plexuslaw42_EmbedImages.j0])
      | succ kj15 =>
        have H := HA.out
        clear HA
        simp only [plexuslaw42_EmbedImages.j0] at H
        by_cases c76 : x77_15 = true
        · subst c76
          have H1 : (some false) = some true := by first | rfl | (rw [if_pos rfl] at H; exact H)
          clear H
          have H := H1
          clear H1
          exact absurd H (by simp)
        · replace c76 := Bool.eq_false_iff.mpr c76
          subst c76
          have H1 : ((incidence_Image.f t126 t127 t146).bind fun bt168 => ((plexusref06_Same.f kj15 bt168.1 bt168.2 t134 t135).bind fun t172 => (if t172 = true then (some true) else (some false)))) = some true := by first | rfl | (rw [if_neg (show ¬ (false = true) by decide)] at H; exact H)
          clear H
          have H := H1
          clear H1
          replace H := Option.bind_eq_some_iff.mp H
          obtain ⟨⟨t168, t169⟩, A770, H⟩ := H
          try dsimp only at H
          have A77 := Aside0.mk A770
          clear A770
          replace H := Option.bind_eq_some_iff.mp H
          obtain ⟨t172, A780, H⟩ := H
          replace H : (if t172 = true then (some true) else (some false)) = some true := H
          have A78 := Aside0.mk A780
          clear A780
          by_cases c79 : t172 = true
          · subst c79
            have H1 : (some true) = some true := by rfl
            clear H
            have H := H1
            clear H1
            have Hr_ := Option.some.inj H
            try go_wp2
            replace HO_131001 := Aside0.mk (Kd.R_drew HO_131001.out)
            replace HO_139001 := Aside0.mk (Kd.R_drew HO_139001.out)
            replace HO_143001 := Aside0.mk (Kd.R_drew HO_143001.out)
            replace HO_161000 := Aside0.mk (Kd.R_drew HO_161000.out)
            replace HO_161001 := Aside0.mk (Kd.R_drew HO_161001.out)
            replace HO_162000 := Aside0.mk (Kd.R_drew HO_162000.out)
            replace HO_162001 := Aside0.mk (Kd.R_drew HO_162001.out)
            replace BK124 := Aside0.mk (blk_drew BK124.out)
            replace BK130 := Aside0.mk (blk_drew BK130.out)
            replace BK138 := Aside0.mk (blk_drew BK138.out)
            replace BK142 := Aside0.mk (blk_drew BK142.out)
            replace BK160 := Aside0.mk (blk_drew BK160.out)
            replace BK161 := Aside0.mk (blk_drew BK161.out)
            replace HB := Aside0.mk (below_drew1 HB.out)
            refine start_ (n := 11) (S := fun w' => w'.cell? ⟨gb130, 0, none⟩ = some (.int .i64 t126) ∧ w'.cell? ⟨gb130, 1, none⟩ = some (.slice Ao24 t127.length co24) ∧ w'.cell? ⟨gb160, 0, none⟩ = some (.slice Ao55 t146.length co55) ∧ w'.cell? ⟨gb160, 1, none⟩ = some (.slice Ao57 t149.length co57) ∧ w'.cell? ⟨gb160, 2, none⟩ = some (.int .i64 t152) ∧ w'.cell? ⟨gb138, 0, none⟩ = some (.int .i64 t134) ∧ w'.cell? ⟨gb138, 1, none⟩ = some (.slice Ao33 t135.length co33)) (ds := []) #[false, false, false, false, false, false, false, false, false, false, false] (by kernel_rfl) rfl rfl ⟨(blk_cell BK130.out 0).trans rfl, (blk_cell BK130.out 1).trans rfl, (blk_cell BK160.out 0).trans rfl, (blk_cell BK160.out 1).trans rfl, (blk_cell BK160.out 2).trans rfl, (blk_cell BK138.out 0).trans rfl, (blk_cell BK138.out 1).trans rfl⟩ (fun hHeld => ?_); refine with_tabW plexuslaw42_EmbedImages.tab11 plexuslaw42_EmbedImages.bits11 (fun HT_ HW_ => ?_)
            generalize wc.drew = w80 at HO_131001 HO_139001 HO_143001 HO_161000 HO_161001 HO_162000 HO_162001 BK124 BK130 BK138 BK142 BK160 BK161 HB hHeld ⊢
            refine pkP 1 79 #[false, true, false, false, false, false, false, false, false, false, false] HT_ ?_
            refine pkP 2 80 #[false, true, true, false, false, false, false, false, false, false, false] HT_ ?_
            refine take_ (i := 0) (N := some 78) (v := ?_) (a' := ?_) #[true, true, true, false, false, false, false, false, false, false, false] rfl rfl (take_ofW HT_.out HW_.out (by kernel_rfl)) (fun _ _ _ h => h) (Or.inl ⟨by rfl, ?_⟩) hHeld ?_ ?_
            rotate_left
            · rintro w' ⟨s0, s1, s2, s3, s4, s5, s6⟩
              go_simp
              with_reducible rfl
            rotate_left
            · simp only [Act.put, List.setIfInBounds_toArray, List.set_cons_zero, List.set_cons_succ, i64_w, i32_w]
              rfl
            refine take_ (i := 3) (N := some 81) (v := ?_) (a' := ?_) #[true, true, true, true, false, false, false, false, false, false, false] rfl rfl (take_ofW HT_.out HW_.out (by kernel_rfl)) (fun _ _ _ h => h) (Or.inl ⟨by rfl, ?_⟩) hHeld ?_ ?_
            rotate_left
            · rintro w' ⟨s0, s1, s2, s3, s4, s5, s6⟩
              go_simp
              with_reducible rfl
            rotate_left
            · simp only [Act.put, List.setIfInBounds_toArray, List.set_cons_zero, List.set_cons_succ, i64_w, i32_w]
              rfl
            refine take_ (i := 5) (N := some 83) (v := ?_) (a' := ?_) #[true, true, true, true, false, true, false, false, false, false, false] rfl rfl (take_ofW HT_.out HW_.out (by kernel_rfl)) (fun _ _ _ h => h) (Or.inl ⟨by rfl, ?_⟩) hHeld ?_ ?_
            rotate_left
            · rintro w' ⟨s0, s1, s2, s3, s4, s5, s6⟩
              go_simp
              with_reducible rfl
            rotate_left
            · simp only [Act.put, List.setIfInBounds_toArray, List.set_cons_zero, List.set_cons_succ, i64_w, i32_w]
              rfl
            refine one_ (i := 4) (N := some 82) #[true, true, true, true, true, true, false, false, false, false, false] rfl rfl (one_of HT_.out (by kernel_rfl)) (by decide) (fun K hK => ?_)
            refine goes_ Tryd.func6 (by kernel_rfl) rfl #[.agg #[.int .i64 t126, .slice Ao24 t127.length co24], .slice Ao55 t146.length co55] (by rfl) rfl rfl (by (try simp only [List.map_toArray, List.map_cons, List.map_nil]); first | done | rfl | (simp only [List.length_drop, List.length_take]; rfl)) ?_
            with_reducible refine (incidence_Image.calls t126 _ _ t127 _ _ t146 t168 t169 _ ?side1 ?side2 ?side3 ?side4 ?side5 A77.out).mono ?_
            case side1 => exact pkC (Kd.R_reads' HO_131001.out).2.2
            case side2 => exact (Kd.R_reads' HO_131001.out).2.1
            case side3 => exact pkC (Kd.R_reads' HO_161000.out).2.2
            case side4 => exact (Kd.R_reads' HO_161000.out).2.1
            case side5 => exact TabOk.below HT.out (pkW HB.out)
            rintro e w81 ⟨v170, rfl, ho0, hb⟩
            refine ⟨_, rfl, ?_⟩
            replace HO_161000 := pkRb HO_161000 hb
            replace HO_161001 := pkRb HO_161001 hb
            replace HO_162000 := pkRb HO_162000 hb
            replace HO_162001 := pkRb HO_162001 hb
            have HO171 := Aside0.mk (Kd.R_lower (Kd.R_new' (Kd.R_new' (Kd.R_new' ho0 (Kd.R_lt (pkR HO_131001.out))) (Kd.R_lt (pkR HO_139001.out))) (Kd.R_lt (pkR HO_143001.out))) (pkZ HB))
            replace HO_131001 := Aside0.mk (Kd.R_elder' (pkR HO_131001.out) (Kd.R_base ho0) hb)
            replace HO_139001 := Aside0.mk (Kd.R_elder' (pkR HO_139001.out) (Kd.R_base ho0) hb)
            replace HO_143001 := Aside0.mk (Kd.R_elder' (pkR HO_143001.out) (Kd.R_base ho0) hb)
            replace BK124 := pkBb BK124 hb
            replace BK130 := pkBb BK130 hb
            replace BK138 := pkBb BK138 hb
            replace BK142 := pkBb BK142 hb
            replace BK160 := pkBb BK160 hb
            replace BK161 := pkBb BK161 hb
            replace HB := pkS HB hb
            (try clear hb)
            (try clear hb2)
            (try clear hk)
            (try clear hi)
            (try clear ho0)
            obtain ⟨Ao82, co82, eo82⟩ := Kd.R_slice HO171.out
            (first | subst eo82 | (injection eo82 with f1_ f2_ f3_; have f4_ := f1_.symm; have f5_ := f3_.symm; clear f1_ f2_ f3_; subst f4_; subst f5_))
            refine hK.out _ _ ⟨(blk_cell BK130.out 0).trans rfl, (blk_cell BK130.out 1).trans rfl, (blk_cell BK160.out 0).trans rfl, (blk_cell BK160.out 1).trans rfl, (blk_cell BK160.out 2).trans rfl, (blk_cell BK138.out 0).trans rfl, (blk_cell BK138.out 1).trans rfl⟩ (fun hHeld => ?_)
            clear hK K
            refine pkA 82 ?_
            refine one_ (i := 6) (N := some 84) #[true, true, true, true, true, true, true, false, false, false, false] rfl rfl (one_of HT_.out (by kernel_rfl)) (by decide) (fun K hK => ?_)
            refine goes_ Tryd.func12 (by kernel_rfl) rfl #[.agg #[.int .i64 t168, .slice Ao82 t169.length co82], .agg #[.int .i64 t134, .slice Ao33 t135.length co33]] (by rfl) rfl rfl (by (try simp only [List.map_toArray, List.map_cons, List.map_nil]); first | done | rfl | (simp only [List.length_drop, List.length_take]; rfl)) ?_
            with_reducible refine (plexusref06_Same.calls kj15 t168 _ _ t169 t134 _ _ t135 true _ ?side1 ?side2 ?side3 ?side4 A78.out).mono ?_
            case side1 => exact pkC (Kd.R_reads' HO171.out).2.2
            case side2 => exact (Kd.R_reads' HO171.out).2.1
            case side3 => exact pkC (Kd.R_reads' HO_139001.out).2.2
            case side4 => exact (Kd.R_reads' HO_139001.out).2.1
            rintro e w83 ⟨rfl, hb⟩
            refine ⟨_, rfl, ?_⟩
            replace HO_131001 := pkRb HO_131001 hb
            replace HO_139001 := pkRb HO_139001 hb
            replace HO_143001 := pkRb HO_143001 hb
            replace HO_161000 := pkRb HO_161000 hb
            replace HO_161001 := pkRb HO_161001 hb
            replace HO_162000 := pkRb HO_162000 hb
            replace HO_162001 := pkRb HO_162001 hb
            replace HO171 := pkRb HO171 hb
            replace BK124 := pkBb BK124 hb
            replace BK130 := pkBb BK130 hb
            replace BK138 := pkBb BK138 hb
            replace BK142 := pkBb BK142 hb
            replace BK160 := pkBb BK160 hb
            replace BK161 := pkBb BK161 hb
            replace HB := pkS HB hb
            (try clear hb)
            (try clear hb2)
            (try clear hk)
            (try clear hi)
            refine hK.out _ _ ⟨(blk_cell BK130.out 0).trans rfl, (blk_cell BK130.out 1).trans rfl, (blk_cell BK160.out 0).trans rfl, (blk_cell BK160.out 1).trans rfl, (blk_cell BK160.out 2).trans rfl, (blk_cell BK138.out 0).trans rfl, (blk_cell BK138.out 1).trans rfl⟩ (fun hHeld => ?_)
            clear hK K
            refine pkA 84 ?_
            refine pkP 7 85 #[true, true, true, true, true, true, true, true, false, false, false] HT_ ?_
            refine pkP 8 86 #[true, true, true, true, true, true, true, true, true, false, false] HT_ ?_
            refine pkP 9 87 #[true, true, true, true, true, true, true, true, true, true, false] HT_ ?_
            refine pkP 10 6 #[true, true, true, true, true, true, true, true, true, true, true] HT_ ?_
            refine done_ (done_of HT_.out (by kernel_rfl)) ?_
            try go_wp2
            go_ret
            exact ⟨by first | rfl | (simp [errW_none, errW_some] <;> rfl) | (simp only [← hji9, ← hji11]; first | rfl | (simp [errW_none, errW_some] <;> rfl)) | (simp [*, errW_none, errW_some] <;> rfl), pkW HB.out⟩
          · replace c79 := Bool.eq_false_iff.mpr c79
            subst c79
            have H1 : (some false) = some true := by first | rfl | (rw [if_neg (show ¬ (false = true) by decide)] at H; exact H)
            clear H
            have H := H1
            clear H1
            exact absurd H (by simp)
  · replace c5 := Bool.eq_false_iff.mpr c5
    subst c5
    have H1 : (some false) = some true := by first | rfl | (rw [if_neg (show ¬ (false = true) by decide)] at H; exact H)
    clear H
    have H := H1
    clear H1
    exact absurd H (by simp)

end Go.Proofs.YtheclfjbedajfaaDoor.Pm
