-- Written by this session's program xprint.py: it drives the kit's print with contracts of this session's own.
import Derived.Test.YtoiahjncpngkeaaDoorPdx0
import Derived.Test.YtoiahjncpngkeaaDoorPdExt
import Derived.Test.YtoiahjncpngkeaaDoorPdx3
import Derived.Test.YtoiahjncpngkeaaDoorPdx5
import Derived.Test.YtoiahjncpngkeaaDoorPdx6
import Derived.Test.YtoiahjncpngkeaaDoorPdx7
import Derived.Test.YtoiahjncpngkeaaDoorPdx8
namespace Go.Proofs.YtoiahjncpngkeaaDoor.Pd
open Go.RowKit Go.Proofs.YtoiahjncpngkeaaDoorW.PrintWords Go.Proofs.YtoiahjncpngkeaaDoorW.PrintLast Go.Proofs.YtoiahjncpngkeaaDoorW.PrintMore
attribute [local go_sem] max2_int min2_int max_two min_two max_three min_three max_four min_four   -- for this text's walks alone
set_option linter.unusedVariables false
set_option linter.unusedSimpArgs false

attribute [local go_sem high] eqA26 eqA41
/-! ### exs: function 9 -/
def exs.f (k : Nat)  : Option (Bool) := (plexuslaw09_plane.f).bind fun bt168 => ((plexuslaw09_strength.f bt168.1 bt168.2).bind fun bt173 => ((plexuslaw09_turned.f k 2 7 3 1).bind fun bt178 => ((plexuslaw09_lambda.f 2 5 3 1 0).bind fun bt183 => ((design_Check.f bt168.1 bt168.2 2 7 3 1).bind fun t189 => (if t189 = 0 then (if (!(bt173.1 == 2) || (!(bt173.2.1 == 7) || (!(bt173.2.2.1 == 3) || (!(bt173.2.2.2.1 == 1))))) = true then (some false) else (if bt173.2.2.2.2 = 0 then (if (!(bt178.1 == 2) || (!(bt178.2.1 == 7) || (!(bt178.2.2.1 == 4) || (!(bt178.2.2.2.1 == 2))))) = true then (some false) else (if bt178.2.2.2.2 = 0 then (if (!(bt183.1 == 10) || (!(bt183.2.1 == 3))) = true then (some false) else ((plexuslaw09_lambda.f 2 7 3 1 1).bind fun bt190 => (if (!(bt190.1 == 3) || (!(bt190.2.1 == 1))) = true then (some false) else ((some (([3, 5, 6, 9, 10, 12] : List Int) : List Int)).bind fun y193 => ((plexuslaw09_resolved.f 4 y193).bind fun bt197 => ((plexuslaw09_resolved.f bt168.1 bt168.2).bind fun bt201 => (if bt197.2 = 0 then ((plexusref06_SameRows.f k bt197.1 (([(([0, 5] : List Int)), (([1, 4] : List Int)), (([2, 3] : List Int))] : List (List Int)))).bind fun t219 => (if t219 = true then (if bt201.2 = 4 then ((design_Classes.f k 4 y193 bt197.1).bind fun t220 => (if t220 = 0 then (if 1 ≤ (bt197.1.length : Int) then ((design_Classes.f k 4 y193 (bt197.1.drop 1)).bind fun t226 => (if t226 = 90 then ((design_Check.f 4 y193 2 7 3 1).bind fun t227 => (if t227 = 90 then ((design_Check.f bt168.1 bt168.2 0 0 0 0).bind fun t228 => (some (t228 == 1))) else (some false))) else (some false))) else (none)) else (some false))) else (some false)) else (some false))) else (some false)))))))) else (some false))) else (some false))) else (some false))))))
theorem exs.mono : ∀ k, LeO (exs.f k ) (exs.f (k + 1) ) := by
  intro  k
  unfold exs.f
  repeat' first
    | (with_reducible exact design_Classes.mono _ _ _ _)
    | (with_reducible exact plexuslaw09_turned.mono _ _ _ _ _)
    | (with_reducible exact plexusref06_SameRows.mono _ _ _)
    | (with_reducible exact LeO.refl _)
    | (with_reducible exact LeO.none _)
    | (with_reducible refine LeO.ite ?_ ?_)
    | (with_reducible refine LeO.bind ?_ (fun _ => ?_))
    | exact design_Classes.mono _ _ _ _
    | exact plexuslaw09_turned.mono _ _ _ _ _
    | exact plexusref06_SameRows.mono _ _ _
    | exact LeO.none _
    | refine LeO.ite ?_ ?_
    | refine LeO.bind ?_ (fun _ => ?_)
def exs.T3 : Bool × List (List Nat × List Nat) := (true, [([], []), ([0], [0]), ([], []), ([2, 1], [2]), ([], []), ([4, 3], [4]), ([], []), ([], []), ([], []), ([6, 1, 5, 0, 1, 6, 7, 8], [1, 6]), ([7, 3, 9, 0, 1, 2, 3, 6, 7, 8, 9], [3, 7]), ([8, 5, 10, 0, 1, 2, 3, 4, 5, 6, 7, 8, 9, 10], [5, 8])])
def exs.B3 : List Nat := [0, 1, 0, 7, 0, 31, 0, 0, 0, 511, 1023, 2047]
theorem exs.tab3 : rtab .any (opsOf Tryd.f9 3) = exs.T3 := by kernel_rfl
theorem exs.bits3 : waitsOk exs.T3.2 exs.B3 = true := by kernel_rfl
def exs.T7 : Bool × List (List Nat × List Nat) := (true, [([], []), ([0], [0]), ([], []), ([2, 1], [2]), ([], []), ([], []), ([4, 1, 3, 0, 1, 4, 5], [1, 4]), ([5, 3, 6, 0, 1, 2, 3, 4, 5, 6], [3, 5])])
def exs.B7 : List Nat := [0, 1, 0, 7, 0, 0, 63, 127]
theorem exs.tab7 : rtab .any (opsOf Tryd.f9 7) = exs.T7 := by kernel_rfl
theorem exs.bits7 : waitsOk exs.T7.2 exs.B7 = true := by kernel_rfl
def exs.T8 : Bool × List (List Nat × List Nat) := (true, [([], []), ([0], [0]), ([1], [1]), ([2], [2]), ([3], [3]), ([4, 3], [3, 4]), ([3], [3]), ([3], [3]), ([3], [3]), ([6, 7, 8, 3], [3, 6, 7, 8]), ([5, 9, 3, 3], [3, 5, 9]), ([3, 10], [3, 10]), ([11, 10], [11]), ([12], [12]), ([13, 12], [12, 13]), ([14, 12], [12, 14]), ([12, 15], [12, 15]), ([16, 12], [16]), ([17], [17]), ([17], [17]), ([19, 17], [17, 19]), ([18, 20, 17, 17], [17, 18, 20]), ([21, 17], [17, 21]), ([17, 22], [17, 22]), ([23, 21], [23]), ([24], [24]), ([24], [24]), ([26, 24], [24, 26]), ([27, 24], [24, 27]), ([25, 28, 24, 24], [24, 25, 28]), ([29, 24], [24, 29]), ([24, 30], [24, 30]), ([31, 29], [31]), ([32], [32]), ([32], [32]), ([33, 34, 32, 32], [32, 33, 34]), ([35, 32], [32, 35]), ([32, 36], [32, 36]), ([37, 35], [37]), ([38], [38]), ([38], [38]), ([39, 40, 38, 38], [38, 39, 40]), ([41, 38], [38, 41]), ([38, 42], [38, 42]), ([43, 41, 0, 1, 2, 3, 4, 5, 6, 7, 8, 9, 10, 11, 12, 13, 14, 15, 16, 17, 18, 19, 20, 21, 22, 23, 24, 25, 26, 27, 28, 29, 30, 31, 32, 33, 34, 35, 36, 37, 38, 39, 40, 41, 42, 43], [43])])
def exs.B8 : List Nat := [0, 1, 3, 7, 15, 31, 15, 15, 15, 463, 1023, 2047, 4095, 8191, 16383, 32767, 65535, 131071, 262143, 262143, 786431, 2097151, 4194303, 8388607, 16777215, 33554431, 33554431, 100663295, 234881023, 536870911, 1073741823, 2147483647, 4294967295, 8589934591, 8589934591, 34359738367, 68719476735, 137438953471, 274877906943, 549755813887, 549755813887, 2199023255551, 4398046511103, 8796093022207, 17592186044415]
theorem exs.tab8 : rtab .any (opsOf Tryd.f9 8) = exs.T8 := by kernel_rfl
theorem exs.bits8 : waitsOk exs.T8.2 exs.B8 = true := by kernel_rfl
set_option maxHeartbeats 8000000 in
set_option maxRecDepth 100000 in
theorem exs.calls (k : Nat)  (w : World) (hT : TabOk w) (h : exs.f k  = some true) :
  Calls Tryd.prog 9 #[] w fun e w' => e = .returned (.bool true) ∧ Below w.heap.size w w' := by
  have hu26 := Tryd.underlying26
  have hu31 := Tryd.underlying31
  have hu35 := Tryd.underlying35
  have hu43 := Tryd.underlying43
  have hu41 := Tryd.underlying41
  have hu46 := Tryd.underlying46
  have hfld43_0 : ∀ (x0_ x1_ x2_ : Value) (W : World), (Instr.field 43 (.agg #[x0_, x1_, x2_]) 0).run Tryd.prog W = .ok (.agg #[x0_, x1_]) W := fun _ _ _ W => by kernel_rfl
  have HB := Aside0.mk (Below.refl w.heap.size w)
  have HT := Aside0.mk hT
  clear hT
  have H : ((plexuslaw09_plane.f).bind fun bt168 => ((plexuslaw09_strength.f bt168.1 bt168.2).bind fun bt173 => ((plexuslaw09_turned.f k 2 7 3 1).bind fun bt178 => ((plexuslaw09_lambda.f 2 5 3 1 0).bind fun bt183 => ((design_Check.f bt168.1 bt168.2 2 7 3 1).bind fun t189 => (if t189 = 0 then (if (!(bt173.1 == 2) || (!(bt173.2.1 == 7) || (!(bt173.2.2.1 == 3) || (!(bt173.2.2.2.1 == 1))))) = true then (some false) else (if bt173.2.2.2.2 = 0 then (if (!(bt178.1 == 2) || (!(bt178.2.1 == 7) || (!(bt178.2.2.1 == 4) || (!(bt178.2.2.2.1 == 2))))) = true then (some false) else (if bt178.2.2.2.2 = 0 then (if (!(bt183.1 == 10) || (!(bt183.2.1 == 3))) = true then (some false) else ((plexuslaw09_lambda.f 2 7 3 1 1).bind fun bt190 => (if (!(bt190.1 == 3) || (!(bt190.2.1 == 1))) = true then (some false) else ((some (([3, 5, 6, 9, 10, 12] : List Int) : List Int)).bind fun y193 => ((plexuslaw09_resolved.f 4 y193).bind fun bt197 => ((plexuslaw09_resolved.f bt168.1 bt168.2).bind fun bt201 => (if bt197.2 = 0 then ((plexusref06_SameRows.f k bt197.1 (([(([0, 5] : List Int)), (([1, 4] : List Int)), (([2, 3] : List Int))] : List (List Int)))).bind fun t219 => (if t219 = true then (if bt201.2 = 4 then ((design_Classes.f k 4 y193 bt197.1).bind fun t220 => (if t220 = 0 then (if 1 ≤ (bt197.1.length : Int) then ((design_Classes.f k 4 y193 (bt197.1.drop 1)).bind fun t226 => (if t226 = 90 then ((design_Check.f 4 y193 2 7 3 1).bind fun t227 => (if t227 = 90 then ((design_Check.f bt168.1 bt168.2 0 0 0 0).bind fun t228 => (some (t228 == 1))) else (some false))) else (some false))) else (none)) else (some false))) else (some false)) else (some false))) else (some false)))))))) else (some false))) else (some false))) else (some false))))))) = some true := h
  clear h
  replace H := Option.bind_eq_some_iff.mp H
  obtain ⟨⟨t168, t169⟩, A10, H⟩ := H
  dsimp only at H
  have A1 := Aside0.mk A10
  clear A10
  replace H := Option.bind_eq_some_iff.mp H
  obtain ⟨⟨t173, t174, t175, t176, t177⟩, A20, H⟩ := H
  dsimp only at H
  have A2 := Aside0.mk A20
  clear A20
  replace H := Option.bind_eq_some_iff.mp H
  obtain ⟨⟨t178, t179, t180, t181, t182⟩, A30, H⟩ := H
  dsimp only at H
  have A3 := Aside0.mk A30
  clear A30
  replace H := Option.bind_eq_some_iff.mp H
  obtain ⟨⟨t183, t184, t185⟩, A40, H⟩ := H
  dsimp only at H
  have A4 := Aside0.mk A40
  clear A40
  replace H := Option.bind_eq_some_iff.mp H
  obtain ⟨t189, A50, H⟩ := H
  replace H : (if t189 = 0 then (if (!(t173 == 2) || (!(t174 == 7) || (!(t175 == 3) || (!(t176 == 1))))) = true then (some false) else (if t177 = 0 then (if (!(t178 == 2) || (!(t179 == 7) || (!(t180 == 4) || (!(t181 == 2))))) = true then (some false) else (if t182 = 0 then (if (!(t183 == 10) || (!(t184 == 3))) = true then (some false) else ((plexuslaw09_lambda.f 2 7 3 1 1).bind fun bt190 => (if (!(bt190.1 == 3) || (!(bt190.2.1 == 1))) = true then (some false) else ((some (([3, 5, 6, 9, 10, 12] : List Int) : List Int)).bind fun y193 => ((plexuslaw09_resolved.f 4 y193).bind fun bt197 => ((plexuslaw09_resolved.f t168 t169).bind fun bt201 => (if bt197.2 = 0 then ((plexusref06_SameRows.f k bt197.1 (([(([0, 5] : List Int)), (([1, 4] : List Int)), (([2, 3] : List Int))] : List (List Int)))).bind fun t219 => (if t219 = true then (if bt201.2 = 4 then ((design_Classes.f k 4 y193 bt197.1).bind fun t220 => (if t220 = 0 then (if 1 ≤ (bt197.1.length : Int) then ((design_Classes.f k 4 y193 (bt197.1.drop 1)).bind fun t226 => (if t226 = 90 then ((design_Check.f 4 y193 2 7 3 1).bind fun t227 => (if t227 = 90 then ((design_Check.f t168 t169 0 0 0 0).bind fun t228 => (some (t228 == 1))) else (some false))) else (some false))) else (none)) else (some false))) else (some false)) else (some false))) else (some false)))))))) else (some false))) else (some false))) else (some false)) = some true := H
  have A5 := Aside0.mk A50
  clear A50
  by_cases c6 : t189 = 0
  rotate_left
  · rw [if_neg c6] at H
    have c6b0 : (t189 == 0) = false := beq_eq_false_iff_ne.mpr c6
    have c6b1 : (t189 != 0) = true := bne_iff_ne.mpr c6
    exact absurd H (by simp)
  rw [if_pos c6] at H
  have c6b0 : (t189 == 0) = true := beq_iff_eq.mpr c6
  have c6b1 : (t189 != 0) = false := bne_eq_false_iff_eq.mpr c6
  clear c6
  by_cases c7 : (!(t173 == 2) || (!(t174 == 7) || (!(t175 == 3) || (!(t176 == 1))))) = true
  · rw [if_pos c7] at H
    have c7b0 : (!(t173 == 2) || (!(t174 == 7) || (!(t175 == 3) || (!(t176 == 1))))) = true := c7
    clear c7
    exact absurd H (by simp)
  rw [if_neg c7] at H
  have c7b0 : (!(t173 == 2) || (!(t174 == 7) || (!(t175 == 3) || (!(t176 == 1))))) = false := by simpa using c7
  clear c7
  by_cases c8 : t177 = 0
  rotate_left
  · rw [if_neg c8] at H
    have c8b0 : (t177 == 0) = false := beq_eq_false_iff_ne.mpr c8
    have c8b1 : (t177 != 0) = true := bne_iff_ne.mpr c8
    exact absurd H (by simp)
  rw [if_pos c8] at H
  have c8b0 : (t177 == 0) = true := beq_iff_eq.mpr c8
  have c8b1 : (t177 != 0) = false := bne_eq_false_iff_eq.mpr c8
  clear c8
  by_cases c9 : (!(t178 == 2) || (!(t179 == 7) || (!(t180 == 4) || (!(t181 == 2))))) = true
  · rw [if_pos c9] at H
    have c9b0 : (!(t178 == 2) || (!(t179 == 7) || (!(t180 == 4) || (!(t181 == 2))))) = true := c9
    clear c9
    exact absurd H (by simp)
  rw [if_neg c9] at H
  have c9b0 : (!(t178 == 2) || (!(t179 == 7) || (!(t180 == 4) || (!(t181 == 2))))) = false := by simpa using c9
  clear c9
  by_cases c10 : t182 = 0
  rotate_left
  · rw [if_neg c10] at H
    have c10b0 : (t182 == 0) = false := beq_eq_false_iff_ne.mpr c10
    have c10b1 : (t182 != 0) = true := bne_iff_ne.mpr c10
    exact absurd H (by simp)
  rw [if_pos c10] at H
  have c10b0 : (t182 == 0) = true := beq_iff_eq.mpr c10
  have c10b1 : (t182 != 0) = false := bne_eq_false_iff_eq.mpr c10
  clear c10
  by_cases c11 : (!(t183 == 10) || (!(t184 == 3))) = true
  · rw [if_pos c11] at H
    have c11b0 : (!(t183 == 10) || (!(t184 == 3))) = true := c11
    clear c11
    exact absurd H (by simp)
  rw [if_neg c11] at H
  have c11b0 : (!(t183 == 10) || (!(t184 == 3))) = false := by simpa using c11
  clear c11
  replace H := Option.bind_eq_some_iff.mp H
  obtain ⟨⟨t190, t191, t192⟩, A120, H⟩ := H
  replace H : (if (!(t190 == 3) || (!(t191 == 1))) = true then (some false) else ((some (([3, 5, 6, 9, 10, 12] : List Int) : List Int)).bind fun y193 => ((plexuslaw09_resolved.f 4 y193).bind fun bt197 => ((plexuslaw09_resolved.f t168 t169).bind fun bt201 => (if bt197.2 = 0 then ((plexusref06_SameRows.f k bt197.1 (([(([0, 5] : List Int)), (([1, 4] : List Int)), (([2, 3] : List Int))] : List (List Int)))).bind fun t219 => (if t219 = true then (if bt201.2 = 4 then ((design_Classes.f k 4 y193 bt197.1).bind fun t220 => (if t220 = 0 then (if 1 ≤ (bt197.1.length : Int) then ((design_Classes.f k 4 y193 (bt197.1.drop 1)).bind fun t226 => (if t226 = 90 then ((design_Check.f 4 y193 2 7 3 1).bind fun t227 => (if t227 = 90 then ((design_Check.f t168 t169 0 0 0 0).bind fun t228 => (some (t228 == 1))) else (some false))) else (some false))) else (none)) else (some false))) else (some false)) else (some false))) else (some false)))))) = some true := H
  have A12 := Aside0.mk A120
  clear A120
  by_cases c13 : (!(t190 == 3) || (!(t191 == 1))) = true
  · rw [if_pos c13] at H
    have c13b0 : (!(t190 == 3) || (!(t191 == 1))) = true := c13
    clear c13
    exact absurd H (by simp)
  rw [if_neg c13] at H
  have c13b0 : (!(t190 == 3) || (!(t191 == 1))) = false := by simpa using c13
  clear c13
  obtain ⟨y193, hy193⟩ : ∃ y_ : List Int, y_ = (([3, 5, 6, 9, 10, 12] : List Int)) := ⟨_, rfl⟩
  replace H : ((plexuslaw09_resolved.f 4 y193).bind fun bt197 => ((plexuslaw09_resolved.f t168 t169).bind fun bt201 => (if bt197.2 = 0 then ((plexusref06_SameRows.f k bt197.1 (([(([0, 5] : List Int)), (([1, 4] : List Int)), (([2, 3] : List Int))] : List (List Int)))).bind fun t219 => (if t219 = true then (if bt201.2 = 4 then ((design_Classes.f k 4 y193 bt197.1).bind fun t220 => (if t220 = 0 then (if 1 ≤ (bt197.1.length : Int) then ((design_Classes.f k 4 y193 (bt197.1.drop 1)).bind fun t226 => (if t226 = 90 then ((design_Check.f 4 y193 2 7 3 1).bind fun t227 => (if t227 = 90 then ((design_Check.f t168 t169 0 0 0 0).bind fun t228 => (some (t228 == 1))) else (some false))) else (some false))) else (none)) else (some false))) else (some false)) else (some false))) else (some false)))) = some true := by first | (rw [hy193]; with_reducible exact H) | (have H2_ := (Option.bind_some _ _).symm.trans H; rw [hy193]; with_reducible exact H2_) | (have H2_ := (Option.bind_some _ _).symm.trans H; with_reducible exact H2_) | with_reducible exact H | (rw [hy193]; exact H) | exact H
  have Ny193 := Aside0.mk hy193
  clear hy193
  replace H := Option.bind_eq_some_iff.mp H
  obtain ⟨⟨t197, t200⟩, A140, H⟩ := H
  dsimp only at H
  have A14 := Aside0.mk A140
  clear A140
  replace H := Option.bind_eq_some_iff.mp H
  obtain ⟨⟨t201, t204⟩, A150, H⟩ := H
  replace H : (if t200 = 0 then ((plexusref06_SameRows.f k t197 (([(([0, 5] : List Int)), (([1, 4] : List Int)), (([2, 3] : List Int))] : List (List Int)))).bind fun t219 => (if t219 = true then (if t204 = 4 then ((design_Classes.f k 4 y193 t197).bind fun t220 => (if t220 = 0 then (if 1 ≤ (t197.length : Int) then ((design_Classes.f k 4 y193 (t197.drop 1)).bind fun t226 => (if t226 = 90 then ((design_Check.f 4 y193 2 7 3 1).bind fun t227 => (if t227 = 90 then ((design_Check.f t168 t169 0 0 0 0).bind fun t228 => (some (t228 == 1))) else (some false))) else (some false))) else (none)) else (some false))) else (some false)) else (some false))) else (some false)) = some true := H
  have A15 := Aside0.mk A150
  clear A150
  by_cases c16 : t200 = 0
  rotate_left
  · rw [if_neg c16] at H
    have c16b0 : (t200 == 0) = false := beq_eq_false_iff_ne.mpr c16
    have c16b1 : (t200 != 0) = true := bne_iff_ne.mpr c16
    exact absurd H (by simp)
  rw [if_pos c16] at H
  have c16b0 : (t200 == 0) = true := beq_iff_eq.mpr c16
  have c16b1 : (t200 != 0) = false := bne_eq_false_iff_eq.mpr c16
  clear c16
  obtain ⟨y207, hy207⟩ : ∃ y_ : List Int, y_ = (([0, 5] : List Int)) := ⟨_, rfl⟩
  replace H : ((plexusref06_SameRows.f k t197 (([y207, (([1, 4] : List Int)), (([2, 3] : List Int))] : List (List Int)))).bind fun t219 => (if t219 = true then (if t204 = 4 then ((design_Classes.f k 4 y193 t197).bind fun t220 => (if t220 = 0 then (if 1 ≤ (t197.length : Int) then ((design_Classes.f k 4 y193 (t197.drop 1)).bind fun t226 => (if t226 = 90 then ((design_Check.f 4 y193 2 7 3 1).bind fun t227 => (if t227 = 90 then ((design_Check.f t168 t169 0 0 0 0).bind fun t228 => (some (t228 == 1))) else (some false))) else (some false))) else (none)) else (some false))) else (some false)) else (some false))) = some true := by first | (rw [hy207]; with_reducible exact H) | (have H2_ := (Option.bind_some _ _).symm.trans H; rw [hy207]; with_reducible exact H2_) | (have H2_ := (Option.bind_some _ _).symm.trans H; with_reducible exact H2_) | with_reducible exact H | (rw [hy207]; exact H) | exact H
  have Ny207 := Aside0.mk hy207
  clear hy207
  obtain ⟨y210, hy210⟩ : ∃ y_ : List Int, y_ = (([1, 4] : List Int)) := ⟨_, rfl⟩
  replace H : ((plexusref06_SameRows.f k t197 (([y207, y210, (([2, 3] : List Int))] : List (List Int)))).bind fun t219 => (if t219 = true then (if t204 = 4 then ((design_Classes.f k 4 y193 t197).bind fun t220 => (if t220 = 0 then (if 1 ≤ (t197.length : Int) then ((design_Classes.f k 4 y193 (t197.drop 1)).bind fun t226 => (if t226 = 90 then ((design_Check.f 4 y193 2 7 3 1).bind fun t227 => (if t227 = 90 then ((design_Check.f t168 t169 0 0 0 0).bind fun t228 => (some (t228 == 1))) else (some false))) else (some false))) else (none)) else (some false))) else (some false)) else (some false))) = some true := by first | (rw [hy210]; with_reducible exact H) | (have H2_ := (Option.bind_some _ _).symm.trans H; rw [hy210]; with_reducible exact H2_) | (have H2_ := (Option.bind_some _ _).symm.trans H; with_reducible exact H2_) | with_reducible exact H | (rw [hy210]; exact H) | exact H
  have Ny210 := Aside0.mk hy210
  clear hy210
  obtain ⟨y213, hy213⟩ : ∃ y_ : List Int, y_ = (([2, 3] : List Int)) := ⟨_, rfl⟩
  replace H : ((plexusref06_SameRows.f k t197 (([y207, y210, y213] : List (List Int)))).bind fun t219 => (if t219 = true then (if t204 = 4 then ((design_Classes.f k 4 y193 t197).bind fun t220 => (if t220 = 0 then (if 1 ≤ (t197.length : Int) then ((design_Classes.f k 4 y193 (t197.drop 1)).bind fun t226 => (if t226 = 90 then ((design_Check.f 4 y193 2 7 3 1).bind fun t227 => (if t227 = 90 then ((design_Check.f t168 t169 0 0 0 0).bind fun t228 => (some (t228 == 1))) else (some false))) else (some false))) else (none)) else (some false))) else (some false)) else (some false))) = some true := by first | (rw [hy213]; with_reducible exact H) | (have H2_ := (Option.bind_some _ _).symm.trans H; rw [hy213]; with_reducible exact H2_) | (have H2_ := (Option.bind_some _ _).symm.trans H; with_reducible exact H2_) | with_reducible exact H | (rw [hy213]; exact H) | exact H
  have Ny213 := Aside0.mk hy213
  clear hy213
  obtain ⟨y216, hy216⟩ : ∃ y_ : List (List Int), y_ = (([y207, y210, y213] : List (List Int))) := ⟨_, rfl⟩
  replace H : ((plexusref06_SameRows.f k t197 y216).bind fun t219 => (if t219 = true then (if t204 = 4 then ((design_Classes.f k 4 y193 t197).bind fun t220 => (if t220 = 0 then (if 1 ≤ (t197.length : Int) then ((design_Classes.f k 4 y193 (t197.drop 1)).bind fun t226 => (if t226 = 90 then ((design_Check.f 4 y193 2 7 3 1).bind fun t227 => (if t227 = 90 then ((design_Check.f t168 t169 0 0 0 0).bind fun t228 => (some (t228 == 1))) else (some false))) else (some false))) else (none)) else (some false))) else (some false)) else (some false))) = some true := by first | (rw [hy216]; with_reducible exact H) | (have H2_ := (Option.bind_some _ _).symm.trans H; rw [hy216]; with_reducible exact H2_) | (have H2_ := (Option.bind_some _ _).symm.trans H; with_reducible exact H2_) | with_reducible exact H | (rw [hy216]; exact H) | exact H
  have Ny216 := Aside0.mk hy216
  clear hy216
  replace H := Option.bind_eq_some_iff.mp H
  obtain ⟨t219, A170, H⟩ := H
  replace H : (if t219 = true then (if t204 = 4 then ((design_Classes.f k 4 y193 t197).bind fun t220 => (if t220 = 0 then (if 1 ≤ (t197.length : Int) then ((design_Classes.f k 4 y193 (t197.drop 1)).bind fun t226 => (if t226 = 90 then ((design_Check.f 4 y193 2 7 3 1).bind fun t227 => (if t227 = 90 then ((design_Check.f t168 t169 0 0 0 0).bind fun t228 => (some (t228 == 1))) else (some false))) else (some false))) else (none)) else (some false))) else (some false)) else (some false)) = some true := H
  have A17 := Aside0.mk A170
  clear A170
  by_cases c18 : t219 = true
  · subst c18
    have H1 : (if t204 = 4 then ((design_Classes.f k 4 y193 t197).bind fun t220 => (if t220 = 0 then (if 1 ≤ (t197.length : Int) then ((design_Classes.f k 4 y193 (t197.drop 1)).bind fun t226 => (if t226 = 90 then ((design_Check.f 4 y193 2 7 3 1).bind fun t227 => (if t227 = 90 then ((design_Check.f t168 t169 0 0 0 0).bind fun t228 => (some (t228 == 1))) else (some false))) else (some false))) else (none)) else (some false))) else (some false)) = some true := by rw [if_pos rfl] at H; exact H
    clear H
    have H := H1
    clear H1
    by_cases c19 : t204 = 4
    rotate_left
    · rw [if_neg c19] at H
      have c19b0 : (t204 == 4) = false := beq_eq_false_iff_ne.mpr c19
      have c19b1 : (t204 != 4) = true := bne_iff_ne.mpr c19
      exact absurd H (by simp)
    rw [if_pos c19] at H
    have c19b0 : (t204 == 4) = true := beq_iff_eq.mpr c19
    have c19b1 : (t204 != 4) = false := bne_eq_false_iff_eq.mpr c19
    clear c19
    replace H := Option.bind_eq_some_iff.mp H
    obtain ⟨t220, A200, H⟩ := H
    replace H : (if t220 = 0 then (if 1 ≤ (t197.length : Int) then ((design_Classes.f k 4 y193 (t197.drop 1)).bind fun t226 => (if t226 = 90 then ((design_Check.f 4 y193 2 7 3 1).bind fun t227 => (if t227 = 90 then ((design_Check.f t168 t169 0 0 0 0).bind fun t228 => (some (t228 == 1))) else (some false))) else (some false))) else (none)) else (some false)) = some true := H
    have A20 := Aside0.mk A200
    clear A200
    by_cases c21 : t220 = 0
    rotate_left
    · rw [if_neg c21] at H
      have c21b0 : (t220 == 0) = false := beq_eq_false_iff_ne.mpr c21
      have c21b1 : (t220 != 0) = true := bne_iff_ne.mpr c21
      exact absurd H (by simp)
    rw [if_pos c21] at H
    have c21b0 : (t220 == 0) = true := beq_iff_eq.mpr c21
    have c21b1 : (t220 != 0) = false := bne_eq_false_iff_eq.mpr c21
    clear c21
    by_cases c22 : 1 ≤ (t197.length : Int)
    rotate_left
    · rw [if_neg c22] at H
      exact absurd H (by simp)
    rw [if_pos c22] at H
    have c22b0 := eq_true c22
    have c22b1 : decide (1 ≤ (t197.length : Int)) = true := decide_eq_true c22
    clear c22
    obtain ⟨y221, hy221⟩ : ∃ y_ : List (List Int), y_ = (t197.drop 1) := ⟨_, rfl⟩
    replace H : ((design_Classes.f k 4 y193 y221).bind fun t226 => (if t226 = 90 then ((design_Check.f 4 y193 2 7 3 1).bind fun t227 => (if t227 = 90 then ((design_Check.f t168 t169 0 0 0 0).bind fun t228 => (some (t228 == 1))) else (some false))) else (some false))) = some true := by first | (rw [hy221]; with_reducible exact H) | (have H2_ := (Option.bind_some _ _).symm.trans H; rw [hy221]; with_reducible exact H2_) | (have H2_ := (Option.bind_some _ _).symm.trans H; with_reducible exact H2_) | with_reducible exact H | (rw [hy221]; exact H) | exact H
    have Ny221 := Aside0.mk hy221
    clear hy221
    replace H := Option.bind_eq_some_iff.mp H
    obtain ⟨t226, A230, H⟩ := H
    replace H : (if t226 = 90 then ((design_Check.f 4 y193 2 7 3 1).bind fun t227 => (if t227 = 90 then ((design_Check.f t168 t169 0 0 0 0).bind fun t228 => (some (t228 == 1))) else (some false))) else (some false)) = some true := H
    have A23 := Aside0.mk A230
    clear A230
    by_cases c24 : t226 = 90
    rotate_left
    · rw [if_neg c24] at H
      have c24b0 : (t226 == 90) = false := beq_eq_false_iff_ne.mpr c24
      have c24b1 : (t226 != 90) = true := bne_iff_ne.mpr c24
      exact absurd H (by simp)
    rw [if_pos c24] at H
    have c24b0 : (t226 == 90) = true := beq_iff_eq.mpr c24
    have c24b1 : (t226 != 90) = false := bne_eq_false_iff_eq.mpr c24
    clear c24
    replace H := Option.bind_eq_some_iff.mp H
    obtain ⟨t227, A250, H⟩ := H
    replace H : (if t227 = 90 then ((design_Check.f t168 t169 0 0 0 0).bind fun t228 => (some (t228 == 1))) else (some false)) = some true := H
    have A25 := Aside0.mk A250
    clear A250
    by_cases c26 : t227 = 90
    rotate_left
    · rw [if_neg c26] at H
      have c26b0 : (t227 == 90) = false := beq_eq_false_iff_ne.mpr c26
      have c26b1 : (t227 != 90) = true := bne_iff_ne.mpr c26
      exact absurd H (by simp)
    rw [if_pos c26] at H
    have c26b0 : (t227 == 90) = true := beq_iff_eq.mpr c26
    have c26b1 : (t227 != 90) = false := bne_eq_false_iff_eq.mpr c26
    clear c26
    replace H := Option.bind_eq_some_iff.mp H
    obtain ⟨t228, A270, H⟩ := H
    replace H : (some (t228 == 1)) = some true := H
    have A27 := Aside0.mk A270
    clear A270
    have Hr_ := Option.some.inj H
    go_enter Tryd.func9, Tryd.ntmps9
    try go_wp2_with (first | ((with_reducible refine gate_dst (N := 1) rfl ?_); (try (refine gate_guard (by rfl) ?_; dsimp only)); refine box_event ?hg (N := 1) ?hd (cs := #[.int .i64 0, .int .i64 0, .int .i64 0, .int .i64 0]) (t := 26) ?hr ?_; (case hd => rfl); (case hg => rfl); (case hr => first | (go_simp; done) | (go_simp; rfl)); intro gb167 hg w28 hbox hb; have n0_ := Aside0.mk (below_step (by repeat (first | (with_reducible first | exact HB.out | apply below_alloc | apply pw_below_drewN | apply below_drew1) | exact HB.out)) hb); have n1_ := Aside0.mk (hbox); have n2_ := Aside0.mk ((by rw [hg]; exact (below_size (by repeat (first | (with_reducible first | exact HB.out | apply below_alloc | apply pw_below_drewN | apply below_drew1) | exact HB.out))) : w.heap.size ≤ gb167)); have n3_ := Aside0.mk ((by rw [hg]; exact (below_size (by repeat (first | (with_reducible first | exact HB.out | apply below_alloc | apply pw_below_drewN | apply below_drew1) | exact HB.out))) : w.heap.size ≤ gb167)); clear HB; have HB := n0_; have BK167 := n1_; have GW167 := n2_; have GE167 := n3_; clear n0_ n1_ n2_ n3_; clear hb hbox hg; have hcz29_0 : w28.cell? ⟨gb167, 0, none⟩ = some (.int .i64 0) := (blk_cell BK167.out 0).trans rfl; have hcz29_1 : w28.cell? ⟨gb167, 1, none⟩ = some (.int .i64 0) := (blk_cell BK167.out 1).trans rfl; have hcz29_2 : w28.cell? ⟨gb167, 2, none⟩ = some (.int .i64 0) := (blk_cell BK167.out 2).trans rfl; have hcz29_3 : w28.cell? ⟨gb167, 3, none⟩ = some (.int .i64 0) := (blk_cell BK167.out 3).trans rfl; have hfz29_0 := blk_frozen BK167.out 0; have hfz29_1 := blk_frozen BK167.out 1; have hfz29_2 := blk_frozen BK167.out 2; have hfz29_3 := blk_frozen BK167.out 3) | ((with_reducible refine gate_callee (f := 29) rfl ?_); refine goesL_ (some 10) rfl rfl Tryd.func29 (by kernel_rfl) rfl #[] rfl (by (try simp only [List.map_toArray, List.map_cons, List.map_nil]); first | done | rfl | (simp only [List.length_drop, List.length_take]; rfl)) ?_; (with_reducible refine (plexuslaw09_plane.calls  t168 t169 _ A1.out).mono ?_); rintro e w30 ⟨v170, rfl, ho0, hb⟩; refine ⟨_, rfl, ?_⟩; have n0_ := Aside0.mk (Kd.R_lower ho0 (below_size (by repeat (first | (with_reducible first | exact HB.out | apply below_alloc | apply pw_below_drewN | apply below_drew1 | refine below_set ?_ GE167.out) | exact HB.out)))); have n1_ := Aside0.mk (blk_below (g := gb167) (o := .cells #[.int .i64 2, .int .i64 7, .int .i64 3, .int .i64 1] 26 (0, 0)) (by (with_reducible repeat (first | refine blk_drewN ?_ _ | refine blk_drew ?_ | refine blk_alloc ?_ _)); refine blk_put (cs := #[.int .i64 2, .int .i64 7, .int .i64 3, .int .i64 0]) ?_ 3 _ rfl; (with_reducible repeat (first | refine blk_drewN ?_ _ | refine blk_drew ?_ | refine blk_alloc ?_ _)); refine blk_put (cs := #[.int .i64 2, .int .i64 7, .int .i64 0, .int .i64 0]) ?_ 2 _ rfl; (with_reducible repeat (first | refine blk_drewN ?_ _ | refine blk_drew ?_ | refine blk_alloc ?_ _)); refine blk_put (cs := #[.int .i64 2, .int .i64 0, .int .i64 0, .int .i64 0]) ?_ 1 _ rfl; (with_reducible repeat (first | refine blk_drewN ?_ _ | refine blk_drew ?_ | refine blk_alloc ?_ _)); refine blk_put (cs := #[.int .i64 0, .int .i64 0, .int .i64 0, .int .i64 0]) ?_ 0 _ rfl; (with_reducible repeat (first | refine blk_drewN ?_ _ | refine blk_drew ?_ | refine blk_alloc ?_ _)); exact BK167.out) hb); have n2_ := Aside0.mk (below_step (by repeat (first | (with_reducible first | exact HB.out | apply below_alloc | apply pw_below_drewN | apply below_drew1 | refine below_set ?_ GE167.out) | exact HB.out)) hb); clear BK167; clear HB; have HO171 := n0_; have BK167 := n1_; have HB := n2_; clear n0_ n1_ n2_; (try clear hb); (try clear hb2); (try clear hk); (try clear hi); (try clear ho0)) | ((with_reducible refine gate_dst (N := 2) rfl ?_); (try (refine gate_guard (by rfl) ?_; dsimp only)); refine box_event ?hg (N := 2) ?hd (cs := #[.int .i64 0, .slice none 0 0]) (t := 31) ?hr ?_; (case hd => rfl); (case hg => rfl); (case hr => first | (go_simp; done) | (go_simp; rfl)); intro gb172 hg w31 hbox hb; have n0_ := Aside0.mk (Kd.R_below (by (with_reducible repeat (first | apply Kd.R_alloc | apply Kd.R_drewN | apply Kd.R_drew)); exact HO171.out) hb); have n1_ := Aside0.mk (blk_below (g := gb167) (o := .cells #[.int .i64 2, .int .i64 7, .int .i64 3, .int .i64 1] 26 (0, 0)) (by (with_reducible repeat (first | refine blk_drewN ?_ _ | refine blk_drew ?_ | refine blk_alloc ?_ _)); exact BK167.out) hb); have n2_ := Aside0.mk (below_step (by repeat (first | (with_reducible first | exact HB.out | apply below_alloc | apply pw_below_drewN | apply below_drew1 | refine below_set ?_ GE167.out) | exact HB.out)) hb); have n3_ := Aside0.mk (hbox); have n4_ := Aside0.mk ((by rw [hg]; exact (below_size (by repeat (first | (with_reducible first | exact HB.out | apply below_alloc | apply pw_below_drewN | apply below_drew1 | refine below_set ?_ GE167.out) | exact HB.out))) : w.heap.size ≤ gb172)); have n5_ := Aside0.mk ((by rw [hg]; exact (below_size (by repeat (first | (with_reducible first | exact HB.out | apply below_alloc | apply pw_below_drewN | apply below_drew1 | refine below_set ?_ GE167.out) | exact HB.out))) : w.heap.size ≤ gb172)); have n6_ := Aside0.mk ((by rw [hg]; exact Nat.ne_of_lt (blk_lt (g := gb167) (o := .cells #[.int .i64 2, .int .i64 7, .int .i64 3, .int .i64 1] 26 (0, 0)) (by (with_reducible repeat (first | refine blk_drewN ?_ _ | refine blk_drew ?_ | refine blk_alloc ?_ _)); exact BK167.out)) : gb167 ≠ gb172)); have n7_ := Aside0.mk ((by rw [hg]; exact Nat.ne_of_gt (blk_lt (g := gb167) (o := .cells #[.int .i64 2, .int .i64 7, .int .i64 3, .int .i64 1] 26 (0, 0)) (by (with_reducible repeat (first | refine blk_drewN ?_ _ | refine blk_drew ?_ | refine blk_alloc ?_ _)); exact BK167.out)) : gb172 ≠ gb167)); clear HO171; clear BK167; clear HB; have HO171 := n0_; have BK167 := n1_; have HB := n2_; have BK172 := n3_; have GW172 := n4_; have GE172 := n5_; have NB167_172 := n6_; have NB172_167 := n7_; clear n0_ n1_ n2_ n3_ n4_ n5_ n6_ n7_; clear hb hbox hg; have hnb32 := NB172_167.out; have hnc32 := NB167_172.out; have hcz33_0 : w31.cell? ⟨gb172, 0, none⟩ = some (.int .i64 0) := (blk_cell BK172.out 0).trans rfl; have hcz33_1 : w31.cell? ⟨gb172, 1, none⟩ = some (.slice none 0 0) := (blk_cell BK172.out 1).trans rfl; have hfz33_0 := blk_frozen BK172.out 0; have hfz33_1 := blk_frozen BK172.out 1; obtain ⟨Ao34, co34, eo34⟩ := Kd.R_slice HO171.out; subst eo34))
    have n0_ : Aside0 (Kd.R (Kd.int .u64) 60 ((w31.setCell ⟨gb172, 0, none⟩ (.int .i64 t168)).setCell ⟨gb172, 1, none⟩ (.slice Ao34 t169.length co34)) w.heap.size (fun _ => True) (.slice Ao34 t169.length co34) t169) := ⟨by (with_reducible repeat (first | apply Kd.R_alloc | apply Kd.R_drewN | apply Kd.R_drew)); exact Kd.R_mono (Kd.R_far (p := ⟨gb172, 1, none⟩) (Kd.R_far (p := ⟨gb172, 0, none⟩) (Kd.R_types HO171.out BK172.out (by decide)) (fun _ hk => hk.2) (.int .i64 t168)) (fun _ hk => hk.2) (.slice Ao34 t169.length co34)) (fun _ hk => trivial)⟩
    have n1_ : Aside0 (((w31.setCell ⟨gb172, 0, none⟩ (.int .i64 t168)).setCell ⟨gb172, 1, none⟩ (.slice Ao34 t169.length co34)).heap[gb167]? = some (.cells #[.int .i64 2, .int .i64 7, .int .i64 3, .int .i64 1] 26 (0, 0))) := ⟨by (with_reducible repeat (first | refine blk_drewN ?_ _ | refine blk_drew ?_ | refine blk_alloc ?_ _)); refine blk_far ?_ NB167_172.out _; (with_reducible repeat (first | refine blk_drewN ?_ _ | refine blk_drew ?_ | refine blk_alloc ?_ _)); refine blk_far ?_ NB167_172.out _; (with_reducible repeat (first | refine blk_drewN ?_ _ | refine blk_drew ?_ | refine blk_alloc ?_ _)); exact BK167.out⟩
    have n2_ : Aside0 (((w31.setCell ⟨gb172, 0, none⟩ (.int .i64 t168)).setCell ⟨gb172, 1, none⟩ (.slice Ao34 t169.length co34)).heap[gb172]? = some (.cells #[.int .i64 t168, .slice Ao34 t169.length co34] 31 (0, 0))) := ⟨by (with_reducible repeat (first | refine blk_drewN ?_ _ | refine blk_drew ?_ | refine blk_alloc ?_ _)); refine blk_put (cs := #[.int .i64 t168, .slice none 0 0]) ?_ 1 _ rfl; (with_reducible repeat (first | refine blk_drewN ?_ _ | refine blk_drew ?_ | refine blk_alloc ?_ _)); refine blk_put (cs := #[.int .i64 0, .slice none 0 0]) ?_ 0 _ rfl; (with_reducible repeat (first | refine blk_drewN ?_ _ | refine blk_drew ?_ | refine blk_alloc ?_ _)); exact BK172.out⟩
    have n3_ : Aside0 (Below w.heap.size w ((w31.setCell ⟨gb172, 0, none⟩ (.int .i64 t168)).setCell ⟨gb172, 1, none⟩ (.slice Ao34 t169.length co34))) := ⟨by repeat (first | (with_reducible first | exact HB.out | apply below_alloc | apply pw_below_drewN | apply below_drew1 | refine below_set ?_ GE167.out | refine below_set ?_ GE172.out) | exact HB.out)⟩
    (try clear HO171)
    (try clear BK167)
    (try clear BK172)
    (try clear HB)
    generalize ((w31.setCell ⟨gb172, 0, none⟩ (.int .i64 t168)).setCell ⟨gb172, 1, none⟩ (.slice Ao34 t169.length co34)) = w35 at n0_ n1_ n2_ n3_ ⊢
    have HO171 := n0_
    have BK167 := n1_
    have BK172 := n2_
    have HB := n3_
    clear n0_ n1_ n2_ n3_
    have n0_ := Aside0.mk (Kd.R_drew HO171.out)
    have n1_ := Aside0.mk (blk_drew BK167.out)
    have n2_ := Aside0.mk (blk_drew BK172.out)
    have n3_ := Aside0.mk (below_drew1 HB.out)
    clear HO171
    clear BK167
    clear BK172
    clear HB
    have HO171 := n0_
    have BK167 := n1_
    have BK172 := n2_
    have HB := n3_
    clear n0_ n1_ n2_ n3_
    refine start_ (n := 12) (S := fun w' => True) (ds := []) #[false, false, false, false, false, false, false, false, false, false, false, false] (by kernel_rfl) rfl rfl trivial (fun hHeld => ?_); refine with_tabW exs.tab3 exs.bits3 (fun HT_ HW_ => ?_)
    generalize w35.drew = w36 at HO171 BK167 BK172 HB hHeld ⊢
    refine inv_at [0, 1, 2, 3, 4, 5, 6, 7, 8, 9, 10, 11] (fun a0_ b a w' => ∃ (gb186 : Nat) (gb187 : Nat) (gb188 : Nat) (m6_ : Value) (m7_ : Value) (m8_ : Value), a = putSel a0_ b [(0, 11, .agg #[.int .i64 t168, .slice Ao34 t169.length co34]), (1, 12, .agg #[.int .i64 t173, .int .i64 t174, .int .i64 t175, .int .i64 t176, .int .i64 t177]), (2, 13, .agg #[.int .i64 2, .int .i64 7, .int .i64 3, .int .i64 1]), (3, 14, .agg #[.int .i64 t178, .int .i64 t179, .int .i64 t180, .int .i64 t181, .int .i64 t182]), (4, 15, .agg #[.int .i64 2, .int .i64 5, .int .i64 3, .int .i64 1]), (5, 16, .agg #[.int .i64 t183, .int .i64 t184, .int .i64 t185]), (6, 3, m6_), (7, 4, m7_), (8, 5, m8_)] ∧ (Kd.R (Kd.int .u64) 60 w' w.heap.size (fun _ => True) (.slice Ao34 t169.length co34) t169) ∧ (w'.heap[gb167]? = some (.cells #[.int .i64 2, .int .i64 7, .int .i64 3, .int .i64 1] 26 (0, 0))) ∧ (w'.heap[gb172]? = some (.cells #[.int .i64 t168, .slice Ao34 t169.length co34] 31 (0, 0))) ∧ (Below w.heap.size w w') ∧ (b 6 = true → b 7 = true → gb187 ≠ gb186) ∧ (b 6 = true → b 7 = true → gb186 ≠ gb187) ∧ (b 6 = true → b 8 = true → gb188 ≠ gb186) ∧ (b 6 = true → b 8 = true → gb186 ≠ gb188) ∧ (b 7 = true → b 8 = true → gb188 ≠ gb187) ∧ (b 7 = true → b 8 = true → gb187 ≠ gb188) ∧ (b 6 = true → b 9 = false → w'.heap[gb186]? = some (.cells #[.int .i64 0, .int .i64 0, .int .i64 0, .int .i64 0, .int .i64 0] 35 (0, 0))) ∧ (b 6 = true → w.heap.size ≤ gb186) ∧ (b 6 = true → w.heap.size ≤ gb186) ∧ (b 6 = true → gb167 ≠ gb186) ∧ (b 6 = true → gb186 ≠ gb167) ∧ (b 6 = true → gb172 ≠ gb186) ∧ (b 6 = true → gb186 ≠ gb172) ∧ (b 7 = true → b 10 = false → w'.heap[gb187]? = some (.cells #[.int .i64 0, .int .i64 0, .int .i64 0, .int .i64 0, .int .i64 0] 35 (0, 0))) ∧ (b 7 = true → w.heap.size ≤ gb187) ∧ (b 7 = true → w.heap.size ≤ gb187) ∧ (b 7 = true → gb167 ≠ gb187) ∧ (b 7 = true → gb187 ≠ gb167) ∧ (b 7 = true → gb172 ≠ gb187) ∧ (b 7 = true → gb187 ≠ gb172) ∧ (b 8 = true → b 11 = false → w'.heap[gb188]? = some (.cells #[.int .i64 0, .int .i64 0, .int .i64 0] 43 (0, 0))) ∧ (b 8 = true → w.heap.size ≤ gb188) ∧ (b 8 = true → w.heap.size ≤ gb188) ∧ (b 8 = true → gb167 ≠ gb188) ∧ (b 8 = true → gb188 ≠ gb167) ∧ (b 8 = true → gb172 ≠ gb188) ∧ (b 8 = true → gb188 ≠ gb172) ∧ (b 9 = true → w'.heap[gb186]? = some (.cells #[.int .i64 t173, .int .i64 t174, .int .i64 t175, .int .i64 t176, .int .i64 t177] 35 (0, 0))) ∧ (b 10 = true → w'.heap[gb187]? = some (.cells #[.int .i64 t178, .int .i64 t179, .int .i64 t180, .int .i64 t181, .int .i64 t182] 35 (0, 0))) ∧ (b 11 = true → w'.heap[gb188]? = some (.cells #[.int .i64 t183, .int .i64 t184, .int .i64 t185] 43 (0, 0))) ∧ (b 6 = true → (m6_ : Value) = .pointer (some ⟨gb186, 0, none⟩)) ∧ (b 7 = true → (m7_ : Value) = .pointer (some ⟨gb187, 0, none⟩)) ∧ (b 8 = true → (m8_ : Value) = .pointer (some ⟨gb188, 0, none⟩))) HT_.out HW_.out (by kernel_rfl) (by kernel_rfl) ?_ ?_ ?_
    · exact ⟨0, 0, 0, .bool false, .bool false, .bool false, by simp only [putSel, Bool.false_eq_true, if_false], HO171.out, BK167.out, BK172.out, HB.out, fun h_ => absurd h_ (by decide), fun h_ => absurd h_ (by decide), fun h_ => absurd h_ (by decide), fun h_ => absurd h_ (by decide), fun h_ => absurd h_ (by decide), fun h_ => absurd h_ (by decide), fun h_ => absurd h_ (by decide), fun h_ => absurd h_ (by decide), fun h_ => absurd h_ (by decide), fun h_ => absurd h_ (by decide), fun h_ => absurd h_ (by decide), fun h_ => absurd h_ (by decide), fun h_ => absurd h_ (by decide), fun h_ => absurd h_ (by decide), fun h_ => absurd h_ (by decide), fun h_ => absurd h_ (by decide), fun h_ => absurd h_ (by decide), fun h_ => absurd h_ (by decide), fun h_ => absurd h_ (by decide), fun h_ => absurd h_ (by decide), fun h_ => absurd h_ (by decide), fun h_ => absurd h_ (by decide), fun h_ => absurd h_ (by decide), fun h_ => absurd h_ (by decide), fun h_ => absurd h_ (by decide), fun h_ => absurd h_ (by decide), fun h_ => absurd h_ (by decide), fun h_ => absurd h_ (by decide), fun h_ => absurd h_ (by decide), fun h_ => absurd h_ (by decide), fun h_ => absurd h_ (by decide), fun h_ => absurd h_ (by decide), fun h_ => absurd h_ (by decide)⟩
    · skip
      clear BK167 BK172 HB HO171
      refine steps_cons ?_ ?_
      · rintro b a w' ⟨gb186, gb187, gb188, m6_, m7_, m8_, ha, Q_HO171, Q_BK167, Q_BK172, Q_HB, Q_NB187_186, Q_NB186_187, Q_NB188_186, Q_NB186_188, Q_NB188_187, Q_NB187_188, Q_BK186, Q_GW186, Q_GE186, Q_NB167_186, Q_NB186_167, Q_NB172_186, Q_NB186_172, Q_BK187, Q_GW187, Q_GE187, Q_NB167_187, Q_NB187_167, Q_NB172_187, Q_NB187_172, Q_BK188, Q_GW188, Q_GE188, Q_NB167_188, Q_NB188_167, Q_NB172_188, Q_NB188_172, Q_BK186_e9, Q_BK187_e10, Q_BK188_e11, Q_X6_, Q_X7_, Q_X8_⟩ hb_ hon hoff
        refine ⟨_, rfl, fun K hK => ?_⟩
        have e2 : a.tmps[2]? = some (.pointer (some ⟨gb172, 0, none⟩)) := by rw [ha]; exact (putSel_off rfl).trans rfl
        replace ha := Aside0.mk ha
        have BK172 := Aside0.mk Q_BK172
        have hc0_ : w'.cell? ⟨gb172, 0, none⟩ = some (.int .i64 t168) := (blk_cell BK172.out 0).trans rfl
        have hc1_ : w'.cell? ⟨gb172, 1, none⟩ = some (.slice Ao34 t169.length co34) := (blk_cell BK172.out 1).trans rfl
        refine value_ (w1 := w') (v := .agg #[.int .i64 t168, .slice Ao34 t169.length co34]) (by rfl) rfl ?_ ?_
        · go_simp
          (try simp only [i64_w])
          try rfl
        refine hK.out _ _ ⟨gb186, gb187, gb188, m6_, m7_, m8_, (by rw [ha.out]; exact putSel_upk 0 hb_ rfl rfl rfl), Q_HO171, Q_BK167, Q_BK172, Q_HB, Q_NB187_186, Q_NB186_187, Q_NB188_186, Q_NB186_188, Q_NB188_187, Q_NB187_188, Q_BK186, Q_GW186, Q_GE186, Q_NB167_186, Q_NB186_167, Q_NB172_186, Q_NB186_172, Q_BK187, Q_GW187, Q_GE187, Q_NB167_187, Q_NB187_167, Q_NB172_187, Q_NB187_172, Q_BK188, Q_GW188, Q_GE188, Q_NB167_188, Q_NB188_167, Q_NB172_188, Q_NB188_172, fun h0_ => absurd ((hoff 9 (by kernel_rfl)).symm.trans h0_) (by decide), fun h0_ => absurd ((hoff 10 (by kernel_rfl)).symm.trans h0_) (by decide), fun h0_ => absurd ((hoff 11 (by kernel_rfl)).symm.trans h0_) (by decide), Q_X6_, Q_X7_, Q_X8_⟩
      refine steps_cons ?_ ?_
      · rintro b a w' ⟨gb186, gb187, gb188, m6_, m7_, m8_, ha, Q_HO171, Q_BK167, Q_BK172, Q_HB, Q_NB187_186, Q_NB186_187, Q_NB188_186, Q_NB186_188, Q_NB188_187, Q_NB187_188, Q_BK186, Q_GW186, Q_GE186, Q_NB167_186, Q_NB186_167, Q_NB172_186, Q_NB186_172, Q_BK187, Q_GW187, Q_GE187, Q_NB167_187, Q_NB187_167, Q_NB172_187, Q_NB187_172, Q_BK188, Q_GW188, Q_GE188, Q_NB167_188, Q_NB188_167, Q_NB172_188, Q_NB188_172, Q_BK186_e9, Q_BK187_e10, Q_BK188_e11, Q_X6_, Q_X7_, Q_X8_⟩ hb_ hon hoff
        refine ⟨_, rfl, fun K hK => ?_⟩
        have e11 : a.tmps[11]? = some (.agg #[.int .i64 t168, .slice Ao34 t169.length co34]) := by rw [ha]; exact putSel_on (e := (0, 11, .agg #[.int .i64 t168, .slice Ao34 t169.length co34])) 0 rfl rfl (hon 0 (by kernel_rfl)) rfl
        replace ha := Aside0.mk ha
        have HO171 := Aside0.mk Q_HO171
        have BK167 := Aside0.mk Q_BK167
        have BK172 := Aside0.mk Q_BK172
        have HB := Aside0.mk Q_HB
        refine goes_ Tryd.func20 (by kernel_rfl) rfl #[.agg #[.int .i64 t168, .slice Ao34 t169.length co34]] (by rfl) rfl rfl (by first | (simp only [List.map_toArray, List.map_cons, List.map_nil, Act.eval, Array.getD_eq_getD_getElem?, Option.getD_some, e11]; done) | (simp only [List.map_toArray, List.map_cons, List.map_nil, Act.eval, Array.getD_eq_getD_getElem?, Option.getD_some, e11]; rfl)) ?_
        with_reducible refine (plexuslaw09_strength.calls t168 _ _ t169 t173 t174 t175 t176 t177 _ ?side1 ?side2 A2.out).mono ?_
        (case side1 => repeat (first | exact (Kd.R_reads' HO171.out).2.2 | (with_reducible refine Kd.C_alloc ?_ _) | (with_reducible refine Kd.C_drewN ?_ _) | (with_reducible refine Kd.C_drew ?_)))
        (case side2 => exact (Kd.R_reads' HO171.out).2.1)
        rintro e w37 ⟨rfl, hb⟩
        refine ⟨_, rfl, ?_⟩
        have n0_ := Aside0.mk (Kd.R_below HO171.out hb)
        have n1_ := Aside0.mk (blk_below BK167.out hb)
        have n2_ := Aside0.mk (blk_below BK172.out hb)
        have n3_ := Aside0.mk (below_step HB.out hb)
        have z_BK186 := fun (h0_ : b 6 = true) (h1_ : b 9 = false) => (show w37.heap[gb186]? = some (.cells #[.int .i64 0, .int .i64 0, .int .i64 0, .int .i64 0, .int .i64 0] 35 (0, 0)) from by first | exact (blk_below (Q_BK186 h0_ h1_) hb))
        have z_BK187 := fun (h0_ : b 7 = true) (h1_ : b 10 = false) => (show w37.heap[gb187]? = some (.cells #[.int .i64 0, .int .i64 0, .int .i64 0, .int .i64 0, .int .i64 0] 35 (0, 0)) from by first | exact (blk_below (Q_BK187 h0_ h1_) hb))
        have z_BK188 := fun (h0_ : b 8 = true) (h1_ : b 11 = false) => (show w37.heap[gb188]? = some (.cells #[.int .i64 0, .int .i64 0, .int .i64 0] 43 (0, 0)) from by first | exact (blk_below (Q_BK188 h0_ h1_) hb))
        clear HO171
        clear BK167
        clear BK172
        clear HB
        have HO171 := n0_
        have BK167 := n1_
        have BK172 := n2_
        have HB := n3_
        clear n0_ n1_ n2_ n3_
        (try clear hb)
        (try clear hb2)
        (try clear hk)
        (try clear hi)
        refine hK.out _ _ ⟨gb186, gb187, gb188, m6_, m7_, m8_, (by rw [ha.out]; exact putSel_upk 1 hb_ rfl rfl rfl), HO171.out, BK167.out, BK172.out, HB.out, Q_NB187_186, Q_NB186_187, Q_NB188_186, Q_NB186_188, Q_NB188_187, Q_NB187_188, z_BK186, Q_GW186, Q_GE186, Q_NB167_186, Q_NB186_167, Q_NB172_186, Q_NB186_172, z_BK187, Q_GW187, Q_GE187, Q_NB167_187, Q_NB187_167, Q_NB172_187, Q_NB187_172, z_BK188, Q_GW188, Q_GE188, Q_NB167_188, Q_NB188_167, Q_NB172_188, Q_NB188_172, fun h0_ => absurd ((hoff 9 (by kernel_rfl)).symm.trans h0_) (by decide), fun h0_ => absurd ((hoff 10 (by kernel_rfl)).symm.trans h0_) (by decide), fun h0_ => absurd ((hoff 11 (by kernel_rfl)).symm.trans h0_) (by decide), Q_X6_, Q_X7_, Q_X8_⟩
      refine steps_cons ?_ ?_
      · rintro b a w' ⟨gb186, gb187, gb188, m6_, m7_, m8_, ha, Q_HO171, Q_BK167, Q_BK172, Q_HB, Q_NB187_186, Q_NB186_187, Q_NB188_186, Q_NB186_188, Q_NB188_187, Q_NB187_188, Q_BK186, Q_GW186, Q_GE186, Q_NB167_186, Q_NB186_167, Q_NB172_186, Q_NB186_172, Q_BK187, Q_GW187, Q_GE187, Q_NB167_187, Q_NB187_167, Q_NB172_187, Q_NB187_172, Q_BK188, Q_GW188, Q_GE188, Q_NB167_188, Q_NB188_167, Q_NB172_188, Q_NB188_172, Q_BK186_e9, Q_BK187_e10, Q_BK188_e11, Q_X6_, Q_X7_, Q_X8_⟩ hb_ hon hoff
        refine ⟨_, rfl, fun K hK => ?_⟩
        have e1 : a.tmps[1]? = some (.pointer (some ⟨gb167, 0, none⟩)) := by rw [ha]; exact (putSel_off rfl).trans rfl
        replace ha := Aside0.mk ha
        have BK167 := Aside0.mk Q_BK167
        have hc0_ : w'.cell? ⟨gb167, 0, none⟩ = some (.int .i64 2) := (blk_cell BK167.out 0).trans rfl
        have hc1_ : w'.cell? ⟨gb167, 1, none⟩ = some (.int .i64 7) := (blk_cell BK167.out 1).trans rfl
        have hc2_ : w'.cell? ⟨gb167, 2, none⟩ = some (.int .i64 3) := (blk_cell BK167.out 2).trans rfl
        have hc3_ : w'.cell? ⟨gb167, 3, none⟩ = some (.int .i64 1) := (blk_cell BK167.out 3).trans rfl
        refine value_ (w1 := w') (v := .agg #[.int .i64 2, .int .i64 7, .int .i64 3, .int .i64 1]) (by rfl) rfl ?_ ?_
        · go_simp
          (try simp only [i64_w])
          try rfl
        refine hK.out _ _ ⟨gb186, gb187, gb188, m6_, m7_, m8_, (by rw [ha.out]; exact putSel_upk 2 hb_ rfl rfl rfl), Q_HO171, Q_BK167, Q_BK172, Q_HB, Q_NB187_186, Q_NB186_187, Q_NB188_186, Q_NB186_188, Q_NB188_187, Q_NB187_188, Q_BK186, Q_GW186, Q_GE186, Q_NB167_186, Q_NB186_167, Q_NB172_186, Q_NB186_172, Q_BK187, Q_GW187, Q_GE187, Q_NB167_187, Q_NB187_167, Q_NB172_187, Q_NB187_172, Q_BK188, Q_GW188, Q_GE188, Q_NB167_188, Q_NB188_167, Q_NB172_188, Q_NB188_172, fun h0_ => absurd ((hoff 9 (by kernel_rfl)).symm.trans h0_) (by decide), fun h0_ => absurd ((hoff 10 (by kernel_rfl)).symm.trans h0_) (by decide), fun h0_ => absurd ((hoff 11 (by kernel_rfl)).symm.trans h0_) (by decide), Q_X6_, Q_X7_, Q_X8_⟩
      refine steps_cons ?_ ?_
      · rintro b a w' ⟨gb186, gb187, gb188, m6_, m7_, m8_, ha, Q_HO171, Q_BK167, Q_BK172, Q_HB, Q_NB187_186, Q_NB186_187, Q_NB188_186, Q_NB186_188, Q_NB188_187, Q_NB187_188, Q_BK186, Q_GW186, Q_GE186, Q_NB167_186, Q_NB186_167, Q_NB172_186, Q_NB186_172, Q_BK187, Q_GW187, Q_GE187, Q_NB167_187, Q_NB187_167, Q_NB172_187, Q_NB187_172, Q_BK188, Q_GW188, Q_GE188, Q_NB167_188, Q_NB188_167, Q_NB172_188, Q_NB188_172, Q_BK186_e9, Q_BK187_e10, Q_BK188_e11, Q_X6_, Q_X7_, Q_X8_⟩ hb_ hon hoff
        refine ⟨_, rfl, fun K hK => ?_⟩
        have e13 : a.tmps[13]? = some (.agg #[.int .i64 2, .int .i64 7, .int .i64 3, .int .i64 1]) := by rw [ha]; exact putSel_on (e := (2, 13, .agg #[.int .i64 2, .int .i64 7, .int .i64 3, .int .i64 1])) 2 rfl rfl (hon 2 (by kernel_rfl)) rfl
        replace ha := Aside0.mk ha
        have HO171 := Aside0.mk Q_HO171
        have BK167 := Aside0.mk Q_BK167
        have BK172 := Aside0.mk Q_BK172
        have HB := Aside0.mk Q_HB
        refine goes_ Tryd.func14 (by kernel_rfl) rfl #[.agg #[.int .i64 2, .int .i64 7, .int .i64 3, .int .i64 1]] (by rfl) rfl rfl (by first | (simp only [List.map_toArray, List.map_cons, List.map_nil, Act.eval, Array.getD_eq_getD_getElem?, Option.getD_some, e13]; done) | (simp only [List.map_toArray, List.map_cons, List.map_nil, Act.eval, Array.getD_eq_getD_getElem?, Option.getD_some, e13]; rfl)) ?_
        with_reducible refine (plexuslaw09_turned.calls k 2 7 3 1 t178 t179 t180 t181 t182 _ A3.out).mono ?_
        rintro e w39 ⟨rfl, hb⟩
        refine ⟨_, rfl, ?_⟩
        have n0_ := Aside0.mk (Kd.R_below HO171.out hb)
        have n1_ := Aside0.mk (blk_below BK167.out hb)
        have n2_ := Aside0.mk (blk_below BK172.out hb)
        have n3_ := Aside0.mk (below_step HB.out hb)
        have z_BK186 := fun (h0_ : b 6 = true) (h1_ : b 9 = false) => (show w39.heap[gb186]? = some (.cells #[.int .i64 0, .int .i64 0, .int .i64 0, .int .i64 0, .int .i64 0] 35 (0, 0)) from by first | exact (blk_below (Q_BK186 h0_ h1_) hb))
        have z_BK187 := fun (h0_ : b 7 = true) (h1_ : b 10 = false) => (show w39.heap[gb187]? = some (.cells #[.int .i64 0, .int .i64 0, .int .i64 0, .int .i64 0, .int .i64 0] 35 (0, 0)) from by first | exact (blk_below (Q_BK187 h0_ h1_) hb))
        have z_BK188 := fun (h0_ : b 8 = true) (h1_ : b 11 = false) => (show w39.heap[gb188]? = some (.cells #[.int .i64 0, .int .i64 0, .int .i64 0] 43 (0, 0)) from by first | exact (blk_below (Q_BK188 h0_ h1_) hb))
        clear HO171
        clear BK167
        clear BK172
        clear HB
        have HO171 := n0_
        have BK167 := n1_
        have BK172 := n2_
        have HB := n3_
        clear n0_ n1_ n2_ n3_
        (try clear hb)
        (try clear hb2)
        (try clear hk)
        (try clear hi)
        refine hK.out _ _ ⟨gb186, gb187, gb188, m6_, m7_, m8_, (by rw [ha.out]; exact putSel_upk 3 hb_ rfl rfl rfl), HO171.out, BK167.out, BK172.out, HB.out, Q_NB187_186, Q_NB186_187, Q_NB188_186, Q_NB186_188, Q_NB188_187, Q_NB187_188, z_BK186, Q_GW186, Q_GE186, Q_NB167_186, Q_NB186_167, Q_NB172_186, Q_NB186_172, z_BK187, Q_GW187, Q_GE187, Q_NB167_187, Q_NB187_167, Q_NB172_187, Q_NB187_172, z_BK188, Q_GW188, Q_GE188, Q_NB167_188, Q_NB188_167, Q_NB172_188, Q_NB188_172, fun h0_ => absurd ((hoff 9 (by kernel_rfl)).symm.trans h0_) (by decide), fun h0_ => absurd ((hoff 10 (by kernel_rfl)).symm.trans h0_) (by decide), fun h0_ => absurd ((hoff 11 (by kernel_rfl)).symm.trans h0_) (by decide), Q_X6_, Q_X7_, Q_X8_⟩
      refine steps_cons ?_ ?_
      · rintro b a w' ⟨gb186, gb187, gb188, m6_, m7_, m8_, ha, Q_HO171, Q_BK167, Q_BK172, Q_HB, Q_NB187_186, Q_NB186_187, Q_NB188_186, Q_NB186_188, Q_NB188_187, Q_NB187_188, Q_BK186, Q_GW186, Q_GE186, Q_NB167_186, Q_NB186_167, Q_NB172_186, Q_NB186_172, Q_BK187, Q_GW187, Q_GE187, Q_NB167_187, Q_NB187_167, Q_NB172_187, Q_NB187_172, Q_BK188, Q_GW188, Q_GE188, Q_NB167_188, Q_NB188_167, Q_NB172_188, Q_NB188_172, Q_BK186_e9, Q_BK187_e10, Q_BK188_e11, Q_X6_, Q_X7_, Q_X8_⟩ hb_ hon hoff
        refine ⟨_, rfl, fun K hK => ?_⟩
        replace ha := Aside0.mk ha
        refine value_ (w1 := w') (v := .agg #[.int .i64 2, .int .i64 5, .int .i64 3, .int .i64 1]) (by rfl) rfl ?_ ?_
        · go_simp
          (try simp only [i64_w])
          try rfl
        refine hK.out _ _ ⟨gb186, gb187, gb188, m6_, m7_, m8_, (by rw [ha.out]; exact putSel_upk 4 hb_ rfl rfl rfl), Q_HO171, Q_BK167, Q_BK172, Q_HB, Q_NB187_186, Q_NB186_187, Q_NB188_186, Q_NB186_188, Q_NB188_187, Q_NB187_188, Q_BK186, Q_GW186, Q_GE186, Q_NB167_186, Q_NB186_167, Q_NB172_186, Q_NB186_172, Q_BK187, Q_GW187, Q_GE187, Q_NB167_187, Q_NB187_167, Q_NB172_187, Q_NB187_172, Q_BK188, Q_GW188, Q_GE188, Q_NB167_188, Q_NB188_167, Q_NB172_188, Q_NB188_172, fun h0_ => absurd ((hoff 9 (by kernel_rfl)).symm.trans h0_) (by decide), fun h0_ => absurd ((hoff 10 (by kernel_rfl)).symm.trans h0_) (by decide), fun h0_ => absurd ((hoff 11 (by kernel_rfl)).symm.trans h0_) (by decide), Q_X6_, Q_X7_, Q_X8_⟩
      refine steps_cons ?_ ?_
      · rintro b a w' ⟨gb186, gb187, gb188, m6_, m7_, m8_, ha, Q_HO171, Q_BK167, Q_BK172, Q_HB, Q_NB187_186, Q_NB186_187, Q_NB188_186, Q_NB186_188, Q_NB188_187, Q_NB187_188, Q_BK186, Q_GW186, Q_GE186, Q_NB167_186, Q_NB186_167, Q_NB172_186, Q_NB186_172, Q_BK187, Q_GW187, Q_GE187, Q_NB167_187, Q_NB187_167, Q_NB172_187, Q_NB187_172, Q_BK188, Q_GW188, Q_GE188, Q_NB167_188, Q_NB188_167, Q_NB172_188, Q_NB188_172, Q_BK186_e9, Q_BK187_e10, Q_BK188_e11, Q_X6_, Q_X7_, Q_X8_⟩ hb_ hon hoff
        refine ⟨_, rfl, fun K hK => ?_⟩
        have e15 : a.tmps[15]? = some (.agg #[.int .i64 2, .int .i64 5, .int .i64 3, .int .i64 1]) := by rw [ha]; exact putSel_on (e := (4, 15, .agg #[.int .i64 2, .int .i64 5, .int .i64 3, .int .i64 1])) 4 rfl rfl (hon 4 (by kernel_rfl)) rfl
        replace ha := Aside0.mk ha
        have HO171 := Aside0.mk Q_HO171
        have BK167 := Aside0.mk Q_BK167
        have BK172 := Aside0.mk Q_BK172
        have HB := Aside0.mk Q_HB
        refine goes_ Tryd.func16 (by kernel_rfl) rfl #[.agg #[.int .i64 2, .int .i64 5, .int .i64 3, .int .i64 1], .int .i64 0] (by rfl) rfl rfl (by first | (simp only [List.map_toArray, List.map_cons, List.map_nil, Act.eval, Array.getD_eq_getD_getElem?, Option.getD_some, e15]; done) | (simp only [List.map_toArray, List.map_cons, List.map_nil, Act.eval, Array.getD_eq_getD_getElem?, Option.getD_some, e15]; rfl)) ?_
        with_reducible refine (plexuslaw09_lambda.calls 2 5 3 1 0 t183 t184 t185 _ A4.out).mono ?_
        rintro e w40 ⟨rfl, hb⟩
        refine ⟨_, rfl, ?_⟩
        have n0_ := Aside0.mk (Kd.R_below HO171.out hb)
        have n1_ := Aside0.mk (blk_below BK167.out hb)
        have n2_ := Aside0.mk (blk_below BK172.out hb)
        have n3_ := Aside0.mk (below_step HB.out hb)
        have z_BK186 := fun (h0_ : b 6 = true) (h1_ : b 9 = false) => (show w40.heap[gb186]? = some (.cells #[.int .i64 0, .int .i64 0, .int .i64 0, .int .i64 0, .int .i64 0] 35 (0, 0)) from by first | exact (blk_below (Q_BK186 h0_ h1_) hb))
        have z_BK187 := fun (h0_ : b 7 = true) (h1_ : b 10 = false) => (show w40.heap[gb187]? = some (.cells #[.int .i64 0, .int .i64 0, .int .i64 0, .int .i64 0, .int .i64 0] 35 (0, 0)) from by first | exact (blk_below (Q_BK187 h0_ h1_) hb))
        have z_BK188 := fun (h0_ : b 8 = true) (h1_ : b 11 = false) => (show w40.heap[gb188]? = some (.cells #[.int .i64 0, .int .i64 0, .int .i64 0] 43 (0, 0)) from by first | exact (blk_below (Q_BK188 h0_ h1_) hb))
        clear HO171
        clear BK167
        clear BK172
        clear HB
        have HO171 := n0_
        have BK167 := n1_
        have BK172 := n2_
        have HB := n3_
        clear n0_ n1_ n2_ n3_
        (try clear hb)
        (try clear hb2)
        (try clear hk)
        (try clear hi)
        refine hK.out _ _ ⟨gb186, gb187, gb188, m6_, m7_, m8_, (by rw [ha.out]; exact putSel_upk 5 hb_ rfl rfl rfl), HO171.out, BK167.out, BK172.out, HB.out, Q_NB187_186, Q_NB186_187, Q_NB188_186, Q_NB186_188, Q_NB188_187, Q_NB187_188, z_BK186, Q_GW186, Q_GE186, Q_NB167_186, Q_NB186_167, Q_NB172_186, Q_NB186_172, z_BK187, Q_GW187, Q_GE187, Q_NB167_187, Q_NB187_167, Q_NB172_187, Q_NB187_172, z_BK188, Q_GW188, Q_GE188, Q_NB167_188, Q_NB188_167, Q_NB172_188, Q_NB188_172, fun h0_ => absurd ((hoff 9 (by kernel_rfl)).symm.trans h0_) (by decide), fun h0_ => absurd ((hoff 10 (by kernel_rfl)).symm.trans h0_) (by decide), fun h0_ => absurd ((hoff 11 (by kernel_rfl)).symm.trans h0_) (by decide), Q_X6_, Q_X7_, Q_X8_⟩
      refine steps_cons ?_ ?_
      · rintro b a w' ⟨gb186, gb187, gb188, m6_, m7_, m8_, ha, Q_HO171, Q_BK167, Q_BK172, Q_HB, Q_NB187_186, Q_NB186_187, Q_NB188_186, Q_NB186_188, Q_NB188_187, Q_NB187_188, Q_BK186, Q_GW186, Q_GE186, Q_NB167_186, Q_NB186_167, Q_NB172_186, Q_NB186_172, Q_BK187, Q_GW187, Q_GE187, Q_NB167_187, Q_NB187_167, Q_NB172_187, Q_NB187_172, Q_BK188, Q_GW188, Q_GE188, Q_NB167_188, Q_NB188_167, Q_NB172_188, Q_NB188_172, Q_BK186_e9, Q_BK187_e10, Q_BK188_e11, Q_X6_, Q_X7_, Q_X8_⟩ hb_ hon hoff
        refine ⟨_, rfl, fun K hK => ?_⟩
        replace ha := Aside0.mk ha
        have HO171 := Aside0.mk Q_HO171
        have BK167 := Aside0.mk Q_BK167
        have BK172 := Aside0.mk Q_BK172
        have HB := Aside0.mk Q_HB
        refine box_step ?hg (N := 3) ?hd (cs := #[.int .i64 0, .int .i64 0, .int .i64 0, .int .i64 0, .int .i64 0]) (t := 35) ?hr ?_; (case hd => rfl); (case hg => rfl); (case hr => first | (go_simp; done) | (go_simp; rfl))
        intro gb186 hg w37 hbox hb
        have n0_ := Aside0.mk (Kd.R_below HO171.out hb)
        have n1_ := Aside0.mk (blk_below BK167.out hb)
        have n2_ := Aside0.mk (blk_below BK172.out hb)
        have n3_ := Aside0.mk (below_step HB.out hb)
        have n4_ := Aside0.mk (hbox)
        have n5_ := Aside0.mk ((by rw [hg]; exact (below_size HB.out) : w.heap.size ≤ gb186))
        have n6_ := Aside0.mk ((by rw [hg]; exact (below_size HB.out) : w.heap.size ≤ gb186))
        have n7_ := Aside0.mk ((by rw [hg]; exact Nat.ne_of_lt (blk_lt (g := gb167) (o := .cells #[.int .i64 2, .int .i64 7, .int .i64 3, .int .i64 1] 26 (0, 0)) BK167.out) : gb167 ≠ gb186))
        have n8_ := Aside0.mk ((by rw [hg]; exact Nat.ne_of_gt (blk_lt (g := gb167) (o := .cells #[.int .i64 2, .int .i64 7, .int .i64 3, .int .i64 1] 26 (0, 0)) BK167.out) : gb186 ≠ gb167))
        have n9_ := Aside0.mk ((by rw [hg]; exact Nat.ne_of_lt (blk_lt (g := gb172) (o := .cells #[.int .i64 t168, .slice Ao34 t169.length co34] 31 (0, 0)) BK172.out) : gb172 ≠ gb186))
        have n10_ := Aside0.mk ((by rw [hg]; exact Nat.ne_of_gt (blk_lt (g := gb172) (o := .cells #[.int .i64 t168, .slice Ao34 t169.length co34] 31 (0, 0)) BK172.out) : gb186 ≠ gb172))
        have z_NB187_186 := fun (h0_ : up b 6 6 = true) (h1_ : up b 6 7 = true) => (show gb187 ≠ gb186 from ((by rw [hg]; exact Nat.ne_of_lt (blk_lt (g := gb187) (o := .cells #[.int .i64 0, .int .i64 0, .int .i64 0, .int .i64 0, .int .i64 0] 35 (0, 0)) (by (with_reducible repeat (first | refine blk_drewN ?_ _ | refine blk_drew ?_ | refine blk_alloc ?_ _)); exact (Q_BK187 h1_ (hoff 10 (by kernel_rfl))))) : gb187 ≠ gb186)))
        have z_NB186_187 := fun (h0_ : up b 6 6 = true) (h1_ : up b 6 7 = true) => (show gb186 ≠ gb187 from ((by rw [hg]; exact Nat.ne_of_gt (blk_lt (g := gb187) (o := .cells #[.int .i64 0, .int .i64 0, .int .i64 0, .int .i64 0, .int .i64 0] 35 (0, 0)) (by (with_reducible repeat (first | refine blk_drewN ?_ _ | refine blk_drew ?_ | refine blk_alloc ?_ _)); exact (Q_BK187 h1_ (hoff 10 (by kernel_rfl))))) : gb186 ≠ gb187)))
        have z_NB188_186 := fun (h0_ : up b 6 6 = true) (h1_ : up b 6 8 = true) => (show gb188 ≠ gb186 from ((by rw [hg]; exact Nat.ne_of_lt (blk_lt (g := gb188) (o := .cells #[.int .i64 0, .int .i64 0, .int .i64 0] 43 (0, 0)) (by (with_reducible repeat (first | refine blk_drewN ?_ _ | refine blk_drew ?_ | refine blk_alloc ?_ _)); exact (Q_BK188 h1_ (hoff 11 (by kernel_rfl))))) : gb188 ≠ gb186)))
        have z_NB186_188 := fun (h0_ : up b 6 6 = true) (h1_ : up b 6 8 = true) => (show gb186 ≠ gb188 from ((by rw [hg]; exact Nat.ne_of_gt (blk_lt (g := gb188) (o := .cells #[.int .i64 0, .int .i64 0, .int .i64 0] 43 (0, 0)) (by (with_reducible repeat (first | refine blk_drewN ?_ _ | refine blk_drew ?_ | refine blk_alloc ?_ _)); exact (Q_BK188 h1_ (hoff 11 (by kernel_rfl))))) : gb186 ≠ gb188)))
        have z_BK187 := fun (h0_ : b 7 = true) (h1_ : b 10 = false) => (show w37.heap[gb187]? = some (.cells #[.int .i64 0, .int .i64 0, .int .i64 0, .int .i64 0, .int .i64 0] 35 (0, 0)) from by first | exact (blk_below (Q_BK187 h0_ h1_) hb))
        have z_BK188 := fun (h0_ : b 8 = true) (h1_ : b 11 = false) => (show w37.heap[gb188]? = some (.cells #[.int .i64 0, .int .i64 0, .int .i64 0] 43 (0, 0)) from by first | exact (blk_below (Q_BK188 h0_ h1_) hb))
        clear HO171
        clear BK167
        clear BK172
        clear HB
        have HO171 := n0_
        have BK167 := n1_
        have BK172 := n2_
        have HB := n3_
        have BK186 := n4_
        have GW186 := n5_
        have GE186 := n6_
        have NB167_186 := n7_
        have NB186_167 := n8_
        have NB172_186 := n9_
        have NB186_172 := n10_
        clear n0_ n1_ n2_ n3_ n4_ n5_ n6_ n7_ n8_ n9_ n10_
        clear hb hbox hg
        refine hK.out _ _ ⟨gb186, gb187, gb188, (.pointer (some ⟨gb186, 0, none⟩)), m7_, m8_, (by rw [ha.out]; exact putSel_upk 6 hb_ rfl rfl rfl), HO171.out, BK167.out, BK172.out, HB.out, z_NB187_186, z_NB186_187, z_NB188_186, z_NB186_188, Q_NB188_187, Q_NB187_188, fun _ _ => BK186.out, fun _ => GW186.out, fun _ => GE186.out, fun _ => NB167_186.out, fun _ => NB186_167.out, fun _ => NB172_186.out, fun _ => NB186_172.out, z_BK187, Q_GW187, Q_GE187, Q_NB167_187, Q_NB187_167, Q_NB172_187, Q_NB187_172, z_BK188, Q_GW188, Q_GE188, Q_NB167_188, Q_NB188_167, Q_NB172_188, Q_NB188_172, fun h0_ => absurd ((hoff 9 (by kernel_rfl)).symm.trans h0_) (by decide), fun h0_ => absurd ((hoff 10 (by kernel_rfl)).symm.trans h0_) (by decide), fun h0_ => absurd ((hoff 11 (by kernel_rfl)).symm.trans h0_) (by decide), fun _ => rfl, Q_X7_, Q_X8_⟩
      refine steps_cons ?_ ?_
      · rintro b a w' ⟨gb186, gb187, gb188, m6_, m7_, m8_, ha, Q_HO171, Q_BK167, Q_BK172, Q_HB, Q_NB187_186, Q_NB186_187, Q_NB188_186, Q_NB186_188, Q_NB188_187, Q_NB187_188, Q_BK186, Q_GW186, Q_GE186, Q_NB167_186, Q_NB186_167, Q_NB172_186, Q_NB186_172, Q_BK187, Q_GW187, Q_GE187, Q_NB167_187, Q_NB187_167, Q_NB172_187, Q_NB187_172, Q_BK188, Q_GW188, Q_GE188, Q_NB167_188, Q_NB188_167, Q_NB172_188, Q_NB188_172, Q_BK186_e9, Q_BK187_e10, Q_BK188_e11, Q_X6_, Q_X7_, Q_X8_⟩ hb_ hon hoff
        refine ⟨_, rfl, fun K hK => ?_⟩
        replace ha := Aside0.mk ha
        have HO171 := Aside0.mk Q_HO171
        have BK167 := Aside0.mk Q_BK167
        have BK172 := Aside0.mk Q_BK172
        have HB := Aside0.mk Q_HB
        refine box_step ?hg (N := 4) ?hd (cs := #[.int .i64 0, .int .i64 0, .int .i64 0, .int .i64 0, .int .i64 0]) (t := 35) ?hr ?_; (case hd => rfl); (case hg => rfl); (case hr => first | (go_simp; done) | (go_simp; rfl))
        intro gb187 hg w37 hbox hb
        have n0_ := Aside0.mk (Kd.R_below HO171.out hb)
        have n1_ := Aside0.mk (blk_below BK167.out hb)
        have n2_ := Aside0.mk (blk_below BK172.out hb)
        have n3_ := Aside0.mk (below_step HB.out hb)
        have n4_ := Aside0.mk (hbox)
        have n5_ := Aside0.mk ((by rw [hg]; exact (below_size HB.out) : w.heap.size ≤ gb187))
        have n6_ := Aside0.mk ((by rw [hg]; exact (below_size HB.out) : w.heap.size ≤ gb187))
        have n7_ := Aside0.mk ((by rw [hg]; exact Nat.ne_of_lt (blk_lt (g := gb167) (o := .cells #[.int .i64 2, .int .i64 7, .int .i64 3, .int .i64 1] 26 (0, 0)) BK167.out) : gb167 ≠ gb187))
        have n8_ := Aside0.mk ((by rw [hg]; exact Nat.ne_of_gt (blk_lt (g := gb167) (o := .cells #[.int .i64 2, .int .i64 7, .int .i64 3, .int .i64 1] 26 (0, 0)) BK167.out) : gb187 ≠ gb167))
        have n9_ := Aside0.mk ((by rw [hg]; exact Nat.ne_of_lt (blk_lt (g := gb172) (o := .cells #[.int .i64 t168, .slice Ao34 t169.length co34] 31 (0, 0)) BK172.out) : gb172 ≠ gb187))
        have n10_ := Aside0.mk ((by rw [hg]; exact Nat.ne_of_gt (blk_lt (g := gb172) (o := .cells #[.int .i64 t168, .slice Ao34 t169.length co34] 31 (0, 0)) BK172.out) : gb187 ≠ gb172))
        have z_NB187_186 := fun (h0_ : up b 7 6 = true) (h1_ : up b 7 7 = true) => (show gb187 ≠ gb186 from ((by rw [hg]; exact Nat.ne_of_gt (blk_lt (g := gb186) (o := .cells #[.int .i64 0, .int .i64 0, .int .i64 0, .int .i64 0, .int .i64 0] 35 (0, 0)) (by (with_reducible repeat (first | refine blk_drewN ?_ _ | refine blk_drew ?_ | refine blk_alloc ?_ _)); exact (Q_BK186 h0_ (hoff 9 (by kernel_rfl))))) : gb187 ≠ gb186)))
        have z_NB186_187 := fun (h0_ : up b 7 6 = true) (h1_ : up b 7 7 = true) => (show gb186 ≠ gb187 from ((by rw [hg]; exact Nat.ne_of_lt (blk_lt (g := gb186) (o := .cells #[.int .i64 0, .int .i64 0, .int .i64 0, .int .i64 0, .int .i64 0] 35 (0, 0)) (by (with_reducible repeat (first | refine blk_drewN ?_ _ | refine blk_drew ?_ | refine blk_alloc ?_ _)); exact (Q_BK186 h0_ (hoff 9 (by kernel_rfl))))) : gb186 ≠ gb187)))
        have z_NB188_187 := fun (h0_ : up b 7 7 = true) (h1_ : up b 7 8 = true) => (show gb188 ≠ gb187 from ((by rw [hg]; exact Nat.ne_of_lt (blk_lt (g := gb188) (o := .cells #[.int .i64 0, .int .i64 0, .int .i64 0] 43 (0, 0)) (by (with_reducible repeat (first | refine blk_drewN ?_ _ | refine blk_drew ?_ | refine blk_alloc ?_ _)); exact (Q_BK188 h1_ (hoff 11 (by kernel_rfl))))) : gb188 ≠ gb187)))
        have z_NB187_188 := fun (h0_ : up b 7 7 = true) (h1_ : up b 7 8 = true) => (show gb187 ≠ gb188 from ((by rw [hg]; exact Nat.ne_of_gt (blk_lt (g := gb188) (o := .cells #[.int .i64 0, .int .i64 0, .int .i64 0] 43 (0, 0)) (by (with_reducible repeat (first | refine blk_drewN ?_ _ | refine blk_drew ?_ | refine blk_alloc ?_ _)); exact (Q_BK188 h1_ (hoff 11 (by kernel_rfl))))) : gb187 ≠ gb188)))
        have z_BK186 := fun (h0_ : b 6 = true) (h1_ : b 9 = false) => (show w37.heap[gb186]? = some (.cells #[.int .i64 0, .int .i64 0, .int .i64 0, .int .i64 0, .int .i64 0] 35 (0, 0)) from by first | exact (blk_below (Q_BK186 h0_ h1_) hb))
        have z_BK188 := fun (h0_ : b 8 = true) (h1_ : b 11 = false) => (show w37.heap[gb188]? = some (.cells #[.int .i64 0, .int .i64 0, .int .i64 0] 43 (0, 0)) from by first | exact (blk_below (Q_BK188 h0_ h1_) hb))
        clear HO171
        clear BK167
        clear BK172
        clear HB
        have HO171 := n0_
        have BK167 := n1_
        have BK172 := n2_
        have HB := n3_
        have BK187 := n4_
        have GW187 := n5_
        have GE187 := n6_
        have NB167_187 := n7_
        have NB187_167 := n8_
        have NB172_187 := n9_
        have NB187_172 := n10_
        clear n0_ n1_ n2_ n3_ n4_ n5_ n6_ n7_ n8_ n9_ n10_
        clear hb hbox hg
        refine hK.out _ _ ⟨gb186, gb187, gb188, m6_, (.pointer (some ⟨gb187, 0, none⟩)), m8_, (by rw [ha.out]; exact putSel_upk 7 hb_ rfl rfl rfl), HO171.out, BK167.out, BK172.out, HB.out, z_NB187_186, z_NB186_187, Q_NB188_186, Q_NB186_188, z_NB188_187, z_NB187_188, z_BK186, Q_GW186, Q_GE186, Q_NB167_186, Q_NB186_167, Q_NB172_186, Q_NB186_172, fun _ _ => BK187.out, fun _ => GW187.out, fun _ => GE187.out, fun _ => NB167_187.out, fun _ => NB187_167.out, fun _ => NB172_187.out, fun _ => NB187_172.out, z_BK188, Q_GW188, Q_GE188, Q_NB167_188, Q_NB188_167, Q_NB172_188, Q_NB188_172, fun h0_ => absurd ((hoff 9 (by kernel_rfl)).symm.trans h0_) (by decide), fun h0_ => absurd ((hoff 10 (by kernel_rfl)).symm.trans h0_) (by decide), fun h0_ => absurd ((hoff 11 (by kernel_rfl)).symm.trans h0_) (by decide), Q_X6_, fun _ => rfl, Q_X8_⟩
      refine steps_cons ?_ ?_
      · rintro b a w' ⟨gb186, gb187, gb188, m6_, m7_, m8_, ha, Q_HO171, Q_BK167, Q_BK172, Q_HB, Q_NB187_186, Q_NB186_187, Q_NB188_186, Q_NB186_188, Q_NB188_187, Q_NB187_188, Q_BK186, Q_GW186, Q_GE186, Q_NB167_186, Q_NB186_167, Q_NB172_186, Q_NB186_172, Q_BK187, Q_GW187, Q_GE187, Q_NB167_187, Q_NB187_167, Q_NB172_187, Q_NB187_172, Q_BK188, Q_GW188, Q_GE188, Q_NB167_188, Q_NB188_167, Q_NB172_188, Q_NB188_172, Q_BK186_e9, Q_BK187_e10, Q_BK188_e11, Q_X6_, Q_X7_, Q_X8_⟩ hb_ hon hoff
        refine ⟨_, rfl, fun K hK => ?_⟩
        replace ha := Aside0.mk ha
        have HO171 := Aside0.mk Q_HO171
        have BK167 := Aside0.mk Q_BK167
        have BK172 := Aside0.mk Q_BK172
        have HB := Aside0.mk Q_HB
        refine box_step ?hg (N := 5) ?hd (cs := #[.int .i64 0, .int .i64 0, .int .i64 0]) (t := 43) ?hr ?_; (case hd => rfl); (case hg => rfl); (case hr => first | (go_simp; done) | (go_simp; rfl))
        intro gb188 hg w37 hbox hb
        have n0_ := Aside0.mk (Kd.R_below HO171.out hb)
        have n1_ := Aside0.mk (blk_below BK167.out hb)
        have n2_ := Aside0.mk (blk_below BK172.out hb)
        have n3_ := Aside0.mk (below_step HB.out hb)
        have n4_ := Aside0.mk (hbox)
        have n5_ := Aside0.mk ((by rw [hg]; exact (below_size HB.out) : w.heap.size ≤ gb188))
        have n6_ := Aside0.mk ((by rw [hg]; exact (below_size HB.out) : w.heap.size ≤ gb188))
        have n7_ := Aside0.mk ((by rw [hg]; exact Nat.ne_of_lt (blk_lt (g := gb167) (o := .cells #[.int .i64 2, .int .i64 7, .int .i64 3, .int .i64 1] 26 (0, 0)) BK167.out) : gb167 ≠ gb188))
        have n8_ := Aside0.mk ((by rw [hg]; exact Nat.ne_of_gt (blk_lt (g := gb167) (o := .cells #[.int .i64 2, .int .i64 7, .int .i64 3, .int .i64 1] 26 (0, 0)) BK167.out) : gb188 ≠ gb167))
        have n9_ := Aside0.mk ((by rw [hg]; exact Nat.ne_of_lt (blk_lt (g := gb172) (o := .cells #[.int .i64 t168, .slice Ao34 t169.length co34] 31 (0, 0)) BK172.out) : gb172 ≠ gb188))
        have n10_ := Aside0.mk ((by rw [hg]; exact Nat.ne_of_gt (blk_lt (g := gb172) (o := .cells #[.int .i64 t168, .slice Ao34 t169.length co34] 31 (0, 0)) BK172.out) : gb188 ≠ gb172))
        have z_NB188_186 := fun (h0_ : up b 8 6 = true) (h1_ : up b 8 8 = true) => (show gb188 ≠ gb186 from ((by rw [hg]; exact Nat.ne_of_gt (blk_lt (g := gb186) (o := .cells #[.int .i64 0, .int .i64 0, .int .i64 0, .int .i64 0, .int .i64 0] 35 (0, 0)) (by (with_reducible repeat (first | refine blk_drewN ?_ _ | refine blk_drew ?_ | refine blk_alloc ?_ _)); exact (Q_BK186 h0_ (hoff 9 (by kernel_rfl))))) : gb188 ≠ gb186)))
        have z_NB186_188 := fun (h0_ : up b 8 6 = true) (h1_ : up b 8 8 = true) => (show gb186 ≠ gb188 from ((by rw [hg]; exact Nat.ne_of_lt (blk_lt (g := gb186) (o := .cells #[.int .i64 0, .int .i64 0, .int .i64 0, .int .i64 0, .int .i64 0] 35 (0, 0)) (by (with_reducible repeat (first | refine blk_drewN ?_ _ | refine blk_drew ?_ | refine blk_alloc ?_ _)); exact (Q_BK186 h0_ (hoff 9 (by kernel_rfl))))) : gb186 ≠ gb188)))
        have z_NB188_187 := fun (h0_ : up b 8 7 = true) (h1_ : up b 8 8 = true) => (show gb188 ≠ gb187 from ((by rw [hg]; exact Nat.ne_of_gt (blk_lt (g := gb187) (o := .cells #[.int .i64 0, .int .i64 0, .int .i64 0, .int .i64 0, .int .i64 0] 35 (0, 0)) (by (with_reducible repeat (first | refine blk_drewN ?_ _ | refine blk_drew ?_ | refine blk_alloc ?_ _)); exact (Q_BK187 h0_ (hoff 10 (by kernel_rfl))))) : gb188 ≠ gb187)))
        have z_NB187_188 := fun (h0_ : up b 8 7 = true) (h1_ : up b 8 8 = true) => (show gb187 ≠ gb188 from ((by rw [hg]; exact Nat.ne_of_lt (blk_lt (g := gb187) (o := .cells #[.int .i64 0, .int .i64 0, .int .i64 0, .int .i64 0, .int .i64 0] 35 (0, 0)) (by (with_reducible repeat (first | refine blk_drewN ?_ _ | refine blk_drew ?_ | refine blk_alloc ?_ _)); exact (Q_BK187 h0_ (hoff 10 (by kernel_rfl))))) : gb187 ≠ gb188)))
        have z_BK186 := fun (h0_ : b 6 = true) (h1_ : b 9 = false) => (show w37.heap[gb186]? = some (.cells #[.int .i64 0, .int .i64 0, .int .i64 0, .int .i64 0, .int .i64 0] 35 (0, 0)) from by first | exact (blk_below (Q_BK186 h0_ h1_) hb))
        have z_BK187 := fun (h0_ : b 7 = true) (h1_ : b 10 = false) => (show w37.heap[gb187]? = some (.cells #[.int .i64 0, .int .i64 0, .int .i64 0, .int .i64 0, .int .i64 0] 35 (0, 0)) from by first | exact (blk_below (Q_BK187 h0_ h1_) hb))
        clear HO171
        clear BK167
        clear BK172
        clear HB
        have HO171 := n0_
        have BK167 := n1_
        have BK172 := n2_
        have HB := n3_
        have BK188 := n4_
        have GW188 := n5_
        have GE188 := n6_
        have NB167_188 := n7_
        have NB188_167 := n8_
        have NB172_188 := n9_
        have NB188_172 := n10_
        clear n0_ n1_ n2_ n3_ n4_ n5_ n6_ n7_ n8_ n9_ n10_
        clear hb hbox hg
        refine hK.out _ _ ⟨gb186, gb187, gb188, m6_, m7_, (.pointer (some ⟨gb188, 0, none⟩)), (by rw [ha.out]; exact putSel_upk 8 hb_ rfl rfl rfl), HO171.out, BK167.out, BK172.out, HB.out, Q_NB187_186, Q_NB186_187, z_NB188_186, z_NB186_188, z_NB188_187, z_NB187_188, z_BK186, Q_GW186, Q_GE186, Q_NB167_186, Q_NB186_167, Q_NB172_186, Q_NB186_172, z_BK187, Q_GW187, Q_GE187, Q_NB167_187, Q_NB187_167, Q_NB172_187, Q_NB187_172, fun _ _ => BK188.out, fun _ => GW188.out, fun _ => GE188.out, fun _ => NB167_188.out, fun _ => NB188_167.out, fun _ => NB172_188.out, fun _ => NB188_172.out, fun h0_ => absurd ((hoff 9 (by kernel_rfl)).symm.trans h0_) (by decide), fun h0_ => absurd ((hoff 10 (by kernel_rfl)).symm.trans h0_) (by decide), fun h0_ => absurd ((hoff 11 (by kernel_rfl)).symm.trans h0_) (by decide), Q_X6_, Q_X7_, fun _ => rfl⟩
      refine steps_cons ?_ ?_
      · rintro b a w' ⟨gb186, gb187, gb188, m6_, m7_, m8_, ha, Q_HO171, Q_BK167, Q_BK172, Q_HB, Q_NB187_186, Q_NB186_187, Q_NB188_186, Q_NB186_188, Q_NB188_187, Q_NB187_188, Q_BK186, Q_GW186, Q_GE186, Q_NB167_186, Q_NB186_167, Q_NB172_186, Q_NB186_172, Q_BK187, Q_GW187, Q_GE187, Q_NB167_187, Q_NB187_167, Q_NB172_187, Q_NB187_172, Q_BK188, Q_GW188, Q_GE188, Q_NB167_188, Q_NB188_167, Q_NB172_188, Q_NB188_172, Q_BK186_e9, Q_BK187_e10, Q_BK188_e11, Q_X6_, Q_X7_, Q_X8_⟩ hb_ hon hoff
        refine ⟨_, rfl, fun K hK => ?_⟩
        have e3 : a.tmps[3]? = some (m6_) := by rw [ha]; exact putSel_on (e := (6, 3, m6_)) 6 rfl rfl (hon 6 (by kernel_rfl)) rfl
        rw [Q_X6_ (hon 6 (by kernel_rfl))] at e3
        have e12 : a.tmps[12]? = some (.agg #[.int .i64 t173, .int .i64 t174, .int .i64 t175, .int .i64 t176, .int .i64 t177]) := by rw [ha]; exact putSel_on (e := (1, 12, .agg #[.int .i64 t173, .int .i64 t174, .int .i64 t175, .int .i64 t176, .int .i64 t177])) 1 rfl rfl (hon 1 (by kernel_rfl)) rfl
        replace ha := Aside0.mk ha
        have HO171 := Aside0.mk Q_HO171
        have BK167 := Aside0.mk Q_BK167
        have BK172 := Aside0.mk Q_BK172
        have HB := Aside0.mk Q_HB
        have NB187_186 := Aside0.mk (Q_NB187_186 (hon 6 (by kernel_rfl)) (hon 7 (by kernel_rfl)))
        have NB186_187 := Aside0.mk (Q_NB186_187 (hon 6 (by kernel_rfl)) (hon 7 (by kernel_rfl)))
        have NB188_186 := Aside0.mk (Q_NB188_186 (hon 6 (by kernel_rfl)) (hon 8 (by kernel_rfl)))
        have NB186_188 := Aside0.mk (Q_NB186_188 (hon 6 (by kernel_rfl)) (hon 8 (by kernel_rfl)))
        have NB188_187 := Aside0.mk (Q_NB188_187 (hon 7 (by kernel_rfl)) (hon 8 (by kernel_rfl)))
        have NB187_188 := Aside0.mk (Q_NB187_188 (hon 7 (by kernel_rfl)) (hon 8 (by kernel_rfl)))
        have BK186 := Aside0.mk (Q_BK186 (hon 6 (by kernel_rfl)) hb_)
        have GW186 := Aside0.mk (Q_GW186 (hon 6 (by kernel_rfl)))
        have GE186 := Aside0.mk (Q_GE186 (hon 6 (by kernel_rfl)))
        have NB167_186 := Aside0.mk (Q_NB167_186 (hon 6 (by kernel_rfl)))
        have NB186_167 := Aside0.mk (Q_NB186_167 (hon 6 (by kernel_rfl)))
        have NB172_186 := Aside0.mk (Q_NB172_186 (hon 6 (by kernel_rfl)))
        have NB186_172 := Aside0.mk (Q_NB186_172 (hon 6 (by kernel_rfl)))
        have BK187 := Aside0.mk (Q_BK187 (hon 7 (by kernel_rfl)) (hoff 10 (by kernel_rfl)))
        have GW187 := Aside0.mk (Q_GW187 (hon 7 (by kernel_rfl)))
        have GE187 := Aside0.mk (Q_GE187 (hon 7 (by kernel_rfl)))
        have NB167_187 := Aside0.mk (Q_NB167_187 (hon 7 (by kernel_rfl)))
        have NB187_167 := Aside0.mk (Q_NB187_167 (hon 7 (by kernel_rfl)))
        have NB172_187 := Aside0.mk (Q_NB172_187 (hon 7 (by kernel_rfl)))
        have NB187_172 := Aside0.mk (Q_NB187_172 (hon 7 (by kernel_rfl)))
        have BK188 := Aside0.mk (Q_BK188 (hon 8 (by kernel_rfl)) (hoff 11 (by kernel_rfl)))
        have GW188 := Aside0.mk (Q_GW188 (hon 8 (by kernel_rfl)))
        have GE188 := Aside0.mk (Q_GE188 (hon 8 (by kernel_rfl)))
        have NB167_188 := Aside0.mk (Q_NB167_188 (hon 8 (by kernel_rfl)))
        have NB188_167 := Aside0.mk (Q_NB188_167 (hon 8 (by kernel_rfl)))
        have NB172_188 := Aside0.mk (Q_NB172_188 (hon 8 (by kernel_rfl)))
        have NB188_172 := Aside0.mk (Q_NB188_172 (hon 8 (by kernel_rfl)))
        have hs44 : w'.cell? ⟨gb186, 0, none⟩ = some (.int .i64 0) := (blk_cell BK186.out 0).trans rfl
        have hfs44 := blk_frozen BK186.out 0
        have hns44_0 := NB167_186.out
        have hns44_1 := NB172_186.out
        have hns44_3 := NB187_186.out
        have hns44_4 := NB188_186.out
        have hms44_0 := NB186_167.out
        have hms44_1 := NB186_172.out
        have hms44_3 := NB186_187.out
        have hms44_4 := NB186_188.out
        have hs45 : w'.cell? ⟨gb186, 1, none⟩ = some (.int .i64 0) := (blk_cell BK186.out 1).trans rfl
        have hfs45 := blk_frozen BK186.out 1
        have hns45_0 := NB167_186.out
        have hns45_1 := NB172_186.out
        have hns45_3 := NB187_186.out
        have hns45_4 := NB188_186.out
        have hms45_0 := NB186_167.out
        have hms45_1 := NB186_172.out
        have hms45_3 := NB186_187.out
        have hms45_4 := NB186_188.out
        have hs46 : w'.cell? ⟨gb186, 2, none⟩ = some (.int .i64 0) := (blk_cell BK186.out 2).trans rfl
        have hfs46 := blk_frozen BK186.out 2
        have hns46_0 := NB167_186.out
        have hns46_1 := NB172_186.out
        have hns46_3 := NB187_186.out
        have hns46_4 := NB188_186.out
        have hms46_0 := NB186_167.out
        have hms46_1 := NB186_172.out
        have hms46_3 := NB186_187.out
        have hms46_4 := NB186_188.out
        have hs47 : w'.cell? ⟨gb186, 3, none⟩ = some (.int .i64 0) := (blk_cell BK186.out 3).trans rfl
        have hfs47 := blk_frozen BK186.out 3
        have hns47_0 := NB167_186.out
        have hns47_1 := NB172_186.out
        have hns47_3 := NB187_186.out
        have hns47_4 := NB188_186.out
        have hms47_0 := NB186_167.out
        have hms47_1 := NB186_172.out
        have hms47_3 := NB186_187.out
        have hms47_4 := NB186_188.out
        have hs48 : w'.cell? ⟨gb186, 4, none⟩ = some (.int .i64 0) := (blk_cell BK186.out 4).trans rfl
        have hfs48 := blk_frozen BK186.out 4
        have hns48_0 := NB167_186.out
        have hns48_1 := NB172_186.out
        have hns48_3 := NB187_186.out
        have hns48_4 := NB188_186.out
        have hms48_0 := NB186_167.out
        have hms48_1 := NB186_172.out
        have hms48_3 := NB186_187.out
        have hms48_4 := NB186_188.out
        refine skip_ (w1 := ?_) (by rfl) rfl ?_ ?_
        rotate_left
        · go_simp
          rfl
        refine hK.out _ _ ⟨gb186, gb187, gb188, m6_, m7_, m8_, (by rw [ha.out]; exact putSel_none (v := undef) rfl), (by (with_reducible repeat (first | apply Kd.R_alloc | apply Kd.R_drewN | apply Kd.R_drew)); exact Kd.R_mono (Kd.R_far (p := ⟨gb186, 4, none⟩) (Kd.R_far (p := ⟨gb186, 3, none⟩) (Kd.R_far (p := ⟨gb186, 2, none⟩) (Kd.R_far (p := ⟨gb186, 1, none⟩) (Kd.R_far (p := ⟨gb186, 0, none⟩) (Kd.R_types HO171.out BK186.out (by decide)) (fun _ hk => hk.2) (.int .i64 t173)) (fun _ hk => hk.2) (.int .i64 t174)) (fun _ hk => hk.2) (.int .i64 t175)) (fun _ hk => hk.2) (.int .i64 t176)) (fun _ hk => hk.2) (.int .i64 t177)) (fun _ hk => trivial)), (by (with_reducible repeat (first | refine blk_drewN ?_ _ | refine blk_drew ?_ | refine blk_alloc ?_ _)); refine blk_far ?_ NB167_186.out _; (with_reducible repeat (first | refine blk_drewN ?_ _ | refine blk_drew ?_ | refine blk_alloc ?_ _)); refine blk_far ?_ NB167_186.out _; (with_reducible repeat (first | refine blk_drewN ?_ _ | refine blk_drew ?_ | refine blk_alloc ?_ _)); refine blk_far ?_ NB167_186.out _; (with_reducible repeat (first | refine blk_drewN ?_ _ | refine blk_drew ?_ | refine blk_alloc ?_ _)); refine blk_far ?_ NB167_186.out _; (with_reducible repeat (first | refine blk_drewN ?_ _ | refine blk_drew ?_ | refine blk_alloc ?_ _)); refine blk_far ?_ NB167_186.out _; (with_reducible repeat (first | refine blk_drewN ?_ _ | refine blk_drew ?_ | refine blk_alloc ?_ _)); exact BK167.out), (by (with_reducible repeat (first | refine blk_drewN ?_ _ | refine blk_drew ?_ | refine blk_alloc ?_ _)); refine blk_far ?_ NB172_186.out _; (with_reducible repeat (first | refine blk_drewN ?_ _ | refine blk_drew ?_ | refine blk_alloc ?_ _)); refine blk_far ?_ NB172_186.out _; (with_reducible repeat (first | refine blk_drewN ?_ _ | refine blk_drew ?_ | refine blk_alloc ?_ _)); refine blk_far ?_ NB172_186.out _; (with_reducible repeat (first | refine blk_drewN ?_ _ | refine blk_drew ?_ | refine blk_alloc ?_ _)); refine blk_far ?_ NB172_186.out _; (with_reducible repeat (first | refine blk_drewN ?_ _ | refine blk_drew ?_ | refine blk_alloc ?_ _)); refine blk_far ?_ NB172_186.out _; (with_reducible repeat (first | refine blk_drewN ?_ _ | refine blk_drew ?_ | refine blk_alloc ?_ _)); exact BK172.out), (by repeat (first | (with_reducible first | exact HB.out | apply below_alloc | apply pw_below_drewN | apply below_drew1 | refine below_set ?_ GE167.out | refine below_set ?_ GE172.out | refine below_set ?_ GE186.out | refine below_set ?_ GE187.out | refine below_set ?_ GE188.out) | exact HB.out)), fun _ _ => NB187_186.out, fun _ _ => NB186_187.out, fun _ _ => NB188_186.out, fun _ _ => NB186_188.out, fun _ _ => NB188_187.out, fun _ _ => NB187_188.out, fun _ h1_ => absurd ((up_self b 9).symm.trans h1_) (by decide), fun _ => GW186.out, fun _ => GE186.out, fun _ => NB167_186.out, fun _ => NB186_167.out, fun _ => NB172_186.out, fun _ => NB186_172.out, fun _ _ => (by (with_reducible repeat (first | refine blk_drewN ?_ _ | refine blk_drew ?_ | refine blk_alloc ?_ _)); refine blk_far ?_ NB187_186.out _; (with_reducible repeat (first | refine blk_drewN ?_ _ | refine blk_drew ?_ | refine blk_alloc ?_ _)); refine blk_far ?_ NB187_186.out _; (with_reducible repeat (first | refine blk_drewN ?_ _ | refine blk_drew ?_ | refine blk_alloc ?_ _)); refine blk_far ?_ NB187_186.out _; (with_reducible repeat (first | refine blk_drewN ?_ _ | refine blk_drew ?_ | refine blk_alloc ?_ _)); refine blk_far ?_ NB187_186.out _; (with_reducible repeat (first | refine blk_drewN ?_ _ | refine blk_drew ?_ | refine blk_alloc ?_ _)); refine blk_far ?_ NB187_186.out _; (with_reducible repeat (first | refine blk_drewN ?_ _ | refine blk_drew ?_ | refine blk_alloc ?_ _)); exact BK187.out), fun _ => GW187.out, fun _ => GE187.out, fun _ => NB167_187.out, fun _ => NB187_167.out, fun _ => NB172_187.out, fun _ => NB187_172.out, fun _ _ => (by (with_reducible repeat (first | refine blk_drewN ?_ _ | refine blk_drew ?_ | refine blk_alloc ?_ _)); refine blk_far ?_ NB188_186.out _; (with_reducible repeat (first | refine blk_drewN ?_ _ | refine blk_drew ?_ | refine blk_alloc ?_ _)); refine blk_far ?_ NB188_186.out _; (with_reducible repeat (first | refine blk_drewN ?_ _ | refine blk_drew ?_ | refine blk_alloc ?_ _)); refine blk_far ?_ NB188_186.out _; (with_reducible repeat (first | refine blk_drewN ?_ _ | refine blk_drew ?_ | refine blk_alloc ?_ _)); refine blk_far ?_ NB188_186.out _; (with_reducible repeat (first | refine blk_drewN ?_ _ | refine blk_drew ?_ | refine blk_alloc ?_ _)); refine blk_far ?_ NB188_186.out _; (with_reducible repeat (first | refine blk_drewN ?_ _ | refine blk_drew ?_ | refine blk_alloc ?_ _)); exact BK188.out), fun _ => GW188.out, fun _ => GE188.out, fun _ => NB167_188.out, fun _ => NB188_167.out, fun _ => NB172_188.out, fun _ => NB188_172.out, fun _ => (by (with_reducible repeat (first | refine blk_drewN ?_ _ | refine blk_drew ?_ | refine blk_alloc ?_ _)); refine blk_put (cs := #[.int .i64 t173, .int .i64 t174, .int .i64 t175, .int .i64 t176, .int .i64 0]) ?_ 4 _ rfl; (with_reducible repeat (first | refine blk_drewN ?_ _ | refine blk_drew ?_ | refine blk_alloc ?_ _)); refine blk_put (cs := #[.int .i64 t173, .int .i64 t174, .int .i64 t175, .int .i64 0, .int .i64 0]) ?_ 3 _ rfl; (with_reducible repeat (first | refine blk_drewN ?_ _ | refine blk_drew ?_ | refine blk_alloc ?_ _)); refine blk_put (cs := #[.int .i64 t173, .int .i64 t174, .int .i64 0, .int .i64 0, .int .i64 0]) ?_ 2 _ rfl; (with_reducible repeat (first | refine blk_drewN ?_ _ | refine blk_drew ?_ | refine blk_alloc ?_ _)); refine blk_put (cs := #[.int .i64 t173, .int .i64 0, .int .i64 0, .int .i64 0, .int .i64 0]) ?_ 1 _ rfl; (with_reducible repeat (first | refine blk_drewN ?_ _ | refine blk_drew ?_ | refine blk_alloc ?_ _)); refine blk_put (cs := #[.int .i64 0, .int .i64 0, .int .i64 0, .int .i64 0, .int .i64 0]) ?_ 0 _ rfl; (with_reducible repeat (first | refine blk_drewN ?_ _ | refine blk_drew ?_ | refine blk_alloc ?_ _)); exact BK186.out), fun h0_ => absurd ((hoff 10 (by kernel_rfl)).symm.trans h0_) (by decide), fun h0_ => absurd ((hoff 11 (by kernel_rfl)).symm.trans h0_) (by decide), Q_X6_, Q_X7_, Q_X8_⟩
      refine steps_cons ?_ ?_
      · rintro b a w' ⟨gb186, gb187, gb188, m6_, m7_, m8_, ha, Q_HO171, Q_BK167, Q_BK172, Q_HB, Q_NB187_186, Q_NB186_187, Q_NB188_186, Q_NB186_188, Q_NB188_187, Q_NB187_188, Q_BK186, Q_GW186, Q_GE186, Q_NB167_186, Q_NB186_167, Q_NB172_186, Q_NB186_172, Q_BK187, Q_GW187, Q_GE187, Q_NB167_187, Q_NB187_167, Q_NB172_187, Q_NB187_172, Q_BK188, Q_GW188, Q_GE188, Q_NB167_188, Q_NB188_167, Q_NB172_188, Q_NB188_172, Q_BK186_e9, Q_BK187_e10, Q_BK188_e11, Q_X6_, Q_X7_, Q_X8_⟩ hb_ hon hoff
        refine ⟨_, rfl, fun K hK => ?_⟩
        have e4 : a.tmps[4]? = some (m7_) := by rw [ha]; exact putSel_on (e := (7, 4, m7_)) 7 rfl rfl (hon 7 (by kernel_rfl)) rfl
        rw [Q_X7_ (hon 7 (by kernel_rfl))] at e4
        have e14 : a.tmps[14]? = some (.agg #[.int .i64 t178, .int .i64 t179, .int .i64 t180, .int .i64 t181, .int .i64 t182]) := by rw [ha]; exact putSel_on (e := (3, 14, .agg #[.int .i64 t178, .int .i64 t179, .int .i64 t180, .int .i64 t181, .int .i64 t182])) 3 rfl rfl (hon 3 (by kernel_rfl)) rfl
        replace ha := Aside0.mk ha
        have HO171 := Aside0.mk Q_HO171
        have BK167 := Aside0.mk Q_BK167
        have BK172 := Aside0.mk Q_BK172
        have HB := Aside0.mk Q_HB
        have NB187_186 := Aside0.mk (Q_NB187_186 (hon 6 (by kernel_rfl)) (hon 7 (by kernel_rfl)))
        have NB186_187 := Aside0.mk (Q_NB186_187 (hon 6 (by kernel_rfl)) (hon 7 (by kernel_rfl)))
        have NB188_186 := Aside0.mk (Q_NB188_186 (hon 6 (by kernel_rfl)) (hon 8 (by kernel_rfl)))
        have NB186_188 := Aside0.mk (Q_NB186_188 (hon 6 (by kernel_rfl)) (hon 8 (by kernel_rfl)))
        have NB188_187 := Aside0.mk (Q_NB188_187 (hon 7 (by kernel_rfl)) (hon 8 (by kernel_rfl)))
        have NB187_188 := Aside0.mk (Q_NB187_188 (hon 7 (by kernel_rfl)) (hon 8 (by kernel_rfl)))
        have GW186 := Aside0.mk (Q_GW186 (hon 6 (by kernel_rfl)))
        have GE186 := Aside0.mk (Q_GE186 (hon 6 (by kernel_rfl)))
        have NB167_186 := Aside0.mk (Q_NB167_186 (hon 6 (by kernel_rfl)))
        have NB186_167 := Aside0.mk (Q_NB186_167 (hon 6 (by kernel_rfl)))
        have NB172_186 := Aside0.mk (Q_NB172_186 (hon 6 (by kernel_rfl)))
        have NB186_172 := Aside0.mk (Q_NB186_172 (hon 6 (by kernel_rfl)))
        have BK187 := Aside0.mk (Q_BK187 (hon 7 (by kernel_rfl)) hb_)
        have GW187 := Aside0.mk (Q_GW187 (hon 7 (by kernel_rfl)))
        have GE187 := Aside0.mk (Q_GE187 (hon 7 (by kernel_rfl)))
        have NB167_187 := Aside0.mk (Q_NB167_187 (hon 7 (by kernel_rfl)))
        have NB187_167 := Aside0.mk (Q_NB187_167 (hon 7 (by kernel_rfl)))
        have NB172_187 := Aside0.mk (Q_NB172_187 (hon 7 (by kernel_rfl)))
        have NB187_172 := Aside0.mk (Q_NB187_172 (hon 7 (by kernel_rfl)))
        have BK188 := Aside0.mk (Q_BK188 (hon 8 (by kernel_rfl)) (hoff 11 (by kernel_rfl)))
        have GW188 := Aside0.mk (Q_GW188 (hon 8 (by kernel_rfl)))
        have GE188 := Aside0.mk (Q_GE188 (hon 8 (by kernel_rfl)))
        have NB167_188 := Aside0.mk (Q_NB167_188 (hon 8 (by kernel_rfl)))
        have NB188_167 := Aside0.mk (Q_NB188_167 (hon 8 (by kernel_rfl)))
        have NB172_188 := Aside0.mk (Q_NB172_188 (hon 8 (by kernel_rfl)))
        have NB188_172 := Aside0.mk (Q_NB188_172 (hon 8 (by kernel_rfl)))
        have BK186 := Aside0.mk (Q_BK186_e9 (hon 9 (by kernel_rfl)))
        have hs49 : w'.cell? ⟨gb187, 0, none⟩ = some (.int .i64 0) := (blk_cell BK187.out 0).trans rfl
        have hfs49 := blk_frozen BK187.out 0
        have hns49_0 := NB167_187.out
        have hns49_1 := NB172_187.out
        have hns49_2 := NB186_187.out
        have hns49_4 := NB188_187.out
        have hms49_0 := NB187_167.out
        have hms49_1 := NB187_172.out
        have hms49_2 := NB187_186.out
        have hms49_4 := NB187_188.out
        have hs50 : w'.cell? ⟨gb187, 1, none⟩ = some (.int .i64 0) := (blk_cell BK187.out 1).trans rfl
        have hfs50 := blk_frozen BK187.out 1
        have hns50_0 := NB167_187.out
        have hns50_1 := NB172_187.out
        have hns50_2 := NB186_187.out
        have hns50_4 := NB188_187.out
        have hms50_0 := NB187_167.out
        have hms50_1 := NB187_172.out
        have hms50_2 := NB187_186.out
        have hms50_4 := NB187_188.out
        have hs51 : w'.cell? ⟨gb187, 2, none⟩ = some (.int .i64 0) := (blk_cell BK187.out 2).trans rfl
        have hfs51 := blk_frozen BK187.out 2
        have hns51_0 := NB167_187.out
        have hns51_1 := NB172_187.out
        have hns51_2 := NB186_187.out
        have hns51_4 := NB188_187.out
        have hms51_0 := NB187_167.out
        have hms51_1 := NB187_172.out
        have hms51_2 := NB187_186.out
        have hms51_4 := NB187_188.out
        have hs52 : w'.cell? ⟨gb187, 3, none⟩ = some (.int .i64 0) := (blk_cell BK187.out 3).trans rfl
        have hfs52 := blk_frozen BK187.out 3
        have hns52_0 := NB167_187.out
        have hns52_1 := NB172_187.out
        have hns52_2 := NB186_187.out
        have hns52_4 := NB188_187.out
        have hms52_0 := NB187_167.out
        have hms52_1 := NB187_172.out
        have hms52_2 := NB187_186.out
        have hms52_4 := NB187_188.out
        have hs53 : w'.cell? ⟨gb187, 4, none⟩ = some (.int .i64 0) := (blk_cell BK187.out 4).trans rfl
        have hfs53 := blk_frozen BK187.out 4
        have hns53_0 := NB167_187.out
        have hns53_1 := NB172_187.out
        have hns53_2 := NB186_187.out
        have hns53_4 := NB188_187.out
        have hms53_0 := NB187_167.out
        have hms53_1 := NB187_172.out
        have hms53_2 := NB187_186.out
        have hms53_4 := NB187_188.out
        refine skip_ (w1 := ?_) (by rfl) rfl ?_ ?_
        rotate_left
        · go_simp
          rfl
        refine hK.out _ _ ⟨gb186, gb187, gb188, m6_, m7_, m8_, (by rw [ha.out]; exact putSel_none (v := undef) rfl), (by (with_reducible repeat (first | apply Kd.R_alloc | apply Kd.R_drewN | apply Kd.R_drew)); exact Kd.R_mono (Kd.R_far (p := ⟨gb187, 4, none⟩) (Kd.R_far (p := ⟨gb187, 3, none⟩) (Kd.R_far (p := ⟨gb187, 2, none⟩) (Kd.R_far (p := ⟨gb187, 1, none⟩) (Kd.R_far (p := ⟨gb187, 0, none⟩) (Kd.R_types HO171.out BK187.out (by decide)) (fun _ hk => hk.2) (.int .i64 t178)) (fun _ hk => hk.2) (.int .i64 t179)) (fun _ hk => hk.2) (.int .i64 t180)) (fun _ hk => hk.2) (.int .i64 t181)) (fun _ hk => hk.2) (.int .i64 t182)) (fun _ hk => trivial)), (by (with_reducible repeat (first | refine blk_drewN ?_ _ | refine blk_drew ?_ | refine blk_alloc ?_ _)); refine blk_far ?_ NB167_187.out _; (with_reducible repeat (first | refine blk_drewN ?_ _ | refine blk_drew ?_ | refine blk_alloc ?_ _)); refine blk_far ?_ NB167_187.out _; (with_reducible repeat (first | refine blk_drewN ?_ _ | refine blk_drew ?_ | refine blk_alloc ?_ _)); refine blk_far ?_ NB167_187.out _; (with_reducible repeat (first | refine blk_drewN ?_ _ | refine blk_drew ?_ | refine blk_alloc ?_ _)); refine blk_far ?_ NB167_187.out _; (with_reducible repeat (first | refine blk_drewN ?_ _ | refine blk_drew ?_ | refine blk_alloc ?_ _)); refine blk_far ?_ NB167_187.out _; (with_reducible repeat (first | refine blk_drewN ?_ _ | refine blk_drew ?_ | refine blk_alloc ?_ _)); exact BK167.out), (by (with_reducible repeat (first | refine blk_drewN ?_ _ | refine blk_drew ?_ | refine blk_alloc ?_ _)); refine blk_far ?_ NB172_187.out _; (with_reducible repeat (first | refine blk_drewN ?_ _ | refine blk_drew ?_ | refine blk_alloc ?_ _)); refine blk_far ?_ NB172_187.out _; (with_reducible repeat (first | refine blk_drewN ?_ _ | refine blk_drew ?_ | refine blk_alloc ?_ _)); refine blk_far ?_ NB172_187.out _; (with_reducible repeat (first | refine blk_drewN ?_ _ | refine blk_drew ?_ | refine blk_alloc ?_ _)); refine blk_far ?_ NB172_187.out _; (with_reducible repeat (first | refine blk_drewN ?_ _ | refine blk_drew ?_ | refine blk_alloc ?_ _)); refine blk_far ?_ NB172_187.out _; (with_reducible repeat (first | refine blk_drewN ?_ _ | refine blk_drew ?_ | refine blk_alloc ?_ _)); exact BK172.out), (by repeat (first | (with_reducible first | exact HB.out | apply below_alloc | apply pw_below_drewN | apply below_drew1 | refine below_set ?_ GE167.out | refine below_set ?_ GE172.out | refine below_set ?_ GE186.out | refine below_set ?_ GE187.out | refine below_set ?_ GE188.out) | exact HB.out)), fun _ _ => NB187_186.out, fun _ _ => NB186_187.out, fun _ _ => NB188_186.out, fun _ _ => NB186_188.out, fun _ _ => NB188_187.out, fun _ _ => NB187_188.out, fun _ h1_ => absurd ((hon 9 (by kernel_rfl)).symm.trans h1_) (by decide), fun _ => GW186.out, fun _ => GE186.out, fun _ => NB167_186.out, fun _ => NB186_167.out, fun _ => NB172_186.out, fun _ => NB186_172.out, fun _ h1_ => absurd ((up_self b 10).symm.trans h1_) (by decide), fun _ => GW187.out, fun _ => GE187.out, fun _ => NB167_187.out, fun _ => NB187_167.out, fun _ => NB172_187.out, fun _ => NB187_172.out, fun _ _ => (by (with_reducible repeat (first | refine blk_drewN ?_ _ | refine blk_drew ?_ | refine blk_alloc ?_ _)); refine blk_far ?_ NB188_187.out _; (with_reducible repeat (first | refine blk_drewN ?_ _ | refine blk_drew ?_ | refine blk_alloc ?_ _)); refine blk_far ?_ NB188_187.out _; (with_reducible repeat (first | refine blk_drewN ?_ _ | refine blk_drew ?_ | refine blk_alloc ?_ _)); refine blk_far ?_ NB188_187.out _; (with_reducible repeat (first | refine blk_drewN ?_ _ | refine blk_drew ?_ | refine blk_alloc ?_ _)); refine blk_far ?_ NB188_187.out _; (with_reducible repeat (first | refine blk_drewN ?_ _ | refine blk_drew ?_ | refine blk_alloc ?_ _)); refine blk_far ?_ NB188_187.out _; (with_reducible repeat (first | refine blk_drewN ?_ _ | refine blk_drew ?_ | refine blk_alloc ?_ _)); exact BK188.out), fun _ => GW188.out, fun _ => GE188.out, fun _ => NB167_188.out, fun _ => NB188_167.out, fun _ => NB172_188.out, fun _ => NB188_172.out, fun _ => (by (with_reducible repeat (first | refine blk_drewN ?_ _ | refine blk_drew ?_ | refine blk_alloc ?_ _)); refine blk_far ?_ NB186_187.out _; (with_reducible repeat (first | refine blk_drewN ?_ _ | refine blk_drew ?_ | refine blk_alloc ?_ _)); refine blk_far ?_ NB186_187.out _; (with_reducible repeat (first | refine blk_drewN ?_ _ | refine blk_drew ?_ | refine blk_alloc ?_ _)); refine blk_far ?_ NB186_187.out _; (with_reducible repeat (first | refine blk_drewN ?_ _ | refine blk_drew ?_ | refine blk_alloc ?_ _)); refine blk_far ?_ NB186_187.out _; (with_reducible repeat (first | refine blk_drewN ?_ _ | refine blk_drew ?_ | refine blk_alloc ?_ _)); refine blk_far ?_ NB186_187.out _; (with_reducible repeat (first | refine blk_drewN ?_ _ | refine blk_drew ?_ | refine blk_alloc ?_ _)); exact BK186.out), fun _ => (by (with_reducible repeat (first | refine blk_drewN ?_ _ | refine blk_drew ?_ | refine blk_alloc ?_ _)); refine blk_put (cs := #[.int .i64 t178, .int .i64 t179, .int .i64 t180, .int .i64 t181, .int .i64 0]) ?_ 4 _ rfl; (with_reducible repeat (first | refine blk_drewN ?_ _ | refine blk_drew ?_ | refine blk_alloc ?_ _)); refine blk_put (cs := #[.int .i64 t178, .int .i64 t179, .int .i64 t180, .int .i64 0, .int .i64 0]) ?_ 3 _ rfl; (with_reducible repeat (first | refine blk_drewN ?_ _ | refine blk_drew ?_ | refine blk_alloc ?_ _)); refine blk_put (cs := #[.int .i64 t178, .int .i64 t179, .int .i64 0, .int .i64 0, .int .i64 0]) ?_ 2 _ rfl; (with_reducible repeat (first | refine blk_drewN ?_ _ | refine blk_drew ?_ | refine blk_alloc ?_ _)); refine blk_put (cs := #[.int .i64 t178, .int .i64 0, .int .i64 0, .int .i64 0, .int .i64 0]) ?_ 1 _ rfl; (with_reducible repeat (first | refine blk_drewN ?_ _ | refine blk_drew ?_ | refine blk_alloc ?_ _)); refine blk_put (cs := #[.int .i64 0, .int .i64 0, .int .i64 0, .int .i64 0, .int .i64 0]) ?_ 0 _ rfl; (with_reducible repeat (first | refine blk_drewN ?_ _ | refine blk_drew ?_ | refine blk_alloc ?_ _)); exact BK187.out), fun h0_ => absurd ((hoff 11 (by kernel_rfl)).symm.trans h0_) (by decide), Q_X6_, Q_X7_, Q_X8_⟩
      refine steps_cons ?_ ?_
      · rintro b a w' ⟨gb186, gb187, gb188, m6_, m7_, m8_, ha, Q_HO171, Q_BK167, Q_BK172, Q_HB, Q_NB187_186, Q_NB186_187, Q_NB188_186, Q_NB186_188, Q_NB188_187, Q_NB187_188, Q_BK186, Q_GW186, Q_GE186, Q_NB167_186, Q_NB186_167, Q_NB172_186, Q_NB186_172, Q_BK187, Q_GW187, Q_GE187, Q_NB167_187, Q_NB187_167, Q_NB172_187, Q_NB187_172, Q_BK188, Q_GW188, Q_GE188, Q_NB167_188, Q_NB188_167, Q_NB172_188, Q_NB188_172, Q_BK186_e9, Q_BK187_e10, Q_BK188_e11, Q_X6_, Q_X7_, Q_X8_⟩ hb_ hon hoff
        refine ⟨_, rfl, fun K hK => ?_⟩
        have e5 : a.tmps[5]? = some (m8_) := by rw [ha]; exact putSel_on (e := (8, 5, m8_)) 8 rfl rfl (hon 8 (by kernel_rfl)) rfl
        rw [Q_X8_ (hon 8 (by kernel_rfl))] at e5
        have e16 : a.tmps[16]? = some (.agg #[.int .i64 t183, .int .i64 t184, .int .i64 t185]) := by rw [ha]; exact putSel_on (e := (5, 16, .agg #[.int .i64 t183, .int .i64 t184, .int .i64 t185])) 5 rfl rfl (hon 5 (by kernel_rfl)) rfl
        replace ha := Aside0.mk ha
        have HO171 := Aside0.mk Q_HO171
        have BK167 := Aside0.mk Q_BK167
        have BK172 := Aside0.mk Q_BK172
        have HB := Aside0.mk Q_HB
        have NB187_186 := Aside0.mk (Q_NB187_186 (hon 6 (by kernel_rfl)) (hon 7 (by kernel_rfl)))
        have NB186_187 := Aside0.mk (Q_NB186_187 (hon 6 (by kernel_rfl)) (hon 7 (by kernel_rfl)))
        have NB188_186 := Aside0.mk (Q_NB188_186 (hon 6 (by kernel_rfl)) (hon 8 (by kernel_rfl)))
        have NB186_188 := Aside0.mk (Q_NB186_188 (hon 6 (by kernel_rfl)) (hon 8 (by kernel_rfl)))
        have NB188_187 := Aside0.mk (Q_NB188_187 (hon 7 (by kernel_rfl)) (hon 8 (by kernel_rfl)))
        have NB187_188 := Aside0.mk (Q_NB187_188 (hon 7 (by kernel_rfl)) (hon 8 (by kernel_rfl)))
        have GW186 := Aside0.mk (Q_GW186 (hon 6 (by kernel_rfl)))
        have GE186 := Aside0.mk (Q_GE186 (hon 6 (by kernel_rfl)))
        have NB167_186 := Aside0.mk (Q_NB167_186 (hon 6 (by kernel_rfl)))
        have NB186_167 := Aside0.mk (Q_NB186_167 (hon 6 (by kernel_rfl)))
        have NB172_186 := Aside0.mk (Q_NB172_186 (hon 6 (by kernel_rfl)))
        have NB186_172 := Aside0.mk (Q_NB186_172 (hon 6 (by kernel_rfl)))
        have GW187 := Aside0.mk (Q_GW187 (hon 7 (by kernel_rfl)))
        have GE187 := Aside0.mk (Q_GE187 (hon 7 (by kernel_rfl)))
        have NB167_187 := Aside0.mk (Q_NB167_187 (hon 7 (by kernel_rfl)))
        have NB187_167 := Aside0.mk (Q_NB187_167 (hon 7 (by kernel_rfl)))
        have NB172_187 := Aside0.mk (Q_NB172_187 (hon 7 (by kernel_rfl)))
        have NB187_172 := Aside0.mk (Q_NB187_172 (hon 7 (by kernel_rfl)))
        have BK188 := Aside0.mk (Q_BK188 (hon 8 (by kernel_rfl)) hb_)
        have GW188 := Aside0.mk (Q_GW188 (hon 8 (by kernel_rfl)))
        have GE188 := Aside0.mk (Q_GE188 (hon 8 (by kernel_rfl)))
        have NB167_188 := Aside0.mk (Q_NB167_188 (hon 8 (by kernel_rfl)))
        have NB188_167 := Aside0.mk (Q_NB188_167 (hon 8 (by kernel_rfl)))
        have NB172_188 := Aside0.mk (Q_NB172_188 (hon 8 (by kernel_rfl)))
        have NB188_172 := Aside0.mk (Q_NB188_172 (hon 8 (by kernel_rfl)))
        have BK186 := Aside0.mk (Q_BK186_e9 (hon 9 (by kernel_rfl)))
        have BK187 := Aside0.mk (Q_BK187_e10 (hon 10 (by kernel_rfl)))
        have hs54 : w'.cell? ⟨gb188, 0, none⟩ = some (.int .i64 0) := (blk_cell BK188.out 0).trans rfl
        have hfs54 := blk_frozen BK188.out 0
        have hns54_0 := NB167_188.out
        have hns54_1 := NB172_188.out
        have hns54_2 := NB186_188.out
        have hns54_3 := NB187_188.out
        have hms54_0 := NB188_167.out
        have hms54_1 := NB188_172.out
        have hms54_2 := NB188_186.out
        have hms54_3 := NB188_187.out
        have hs55 : w'.cell? ⟨gb188, 1, none⟩ = some (.int .i64 0) := (blk_cell BK188.out 1).trans rfl
        have hfs55 := blk_frozen BK188.out 1
        have hns55_0 := NB167_188.out
        have hns55_1 := NB172_188.out
        have hns55_2 := NB186_188.out
        have hns55_3 := NB187_188.out
        have hms55_0 := NB188_167.out
        have hms55_1 := NB188_172.out
        have hms55_2 := NB188_186.out
        have hms55_3 := NB188_187.out
        have hs56 : w'.cell? ⟨gb188, 2, none⟩ = some (.int .i64 0) := (blk_cell BK188.out 2).trans rfl
        have hfs56 := blk_frozen BK188.out 2
        have hns56_0 := NB167_188.out
        have hns56_1 := NB172_188.out
        have hns56_2 := NB186_188.out
        have hns56_3 := NB187_188.out
        have hms56_0 := NB188_167.out
        have hms56_1 := NB188_172.out
        have hms56_2 := NB188_186.out
        have hms56_3 := NB188_187.out
        refine skip_ (w1 := ?_) (by rfl) rfl ?_ ?_
        rotate_left
        · go_simp
          rfl
        refine hK.out _ _ ⟨gb186, gb187, gb188, m6_, m7_, m8_, (by rw [ha.out]; exact putSel_none (v := undef) rfl), (by (with_reducible repeat (first | apply Kd.R_alloc | apply Kd.R_drewN | apply Kd.R_drew)); exact Kd.R_mono (Kd.R_far (p := ⟨gb188, 2, none⟩) (Kd.R_far (p := ⟨gb188, 1, none⟩) (Kd.R_far (p := ⟨gb188, 0, none⟩) (Kd.R_types HO171.out BK188.out (by decide)) (fun _ hk => hk.2) (.int .i64 t183)) (fun _ hk => hk.2) (.int .i64 t184)) (fun _ hk => hk.2) (.int .i64 t185)) (fun _ hk => trivial)), (by (with_reducible repeat (first | refine blk_drewN ?_ _ | refine blk_drew ?_ | refine blk_alloc ?_ _)); refine blk_far ?_ NB167_188.out _; (with_reducible repeat (first | refine blk_drewN ?_ _ | refine blk_drew ?_ | refine blk_alloc ?_ _)); refine blk_far ?_ NB167_188.out _; (with_reducible repeat (first | refine blk_drewN ?_ _ | refine blk_drew ?_ | refine blk_alloc ?_ _)); refine blk_far ?_ NB167_188.out _; (with_reducible repeat (first | refine blk_drewN ?_ _ | refine blk_drew ?_ | refine blk_alloc ?_ _)); exact BK167.out), (by (with_reducible repeat (first | refine blk_drewN ?_ _ | refine blk_drew ?_ | refine blk_alloc ?_ _)); refine blk_far ?_ NB172_188.out _; (with_reducible repeat (first | refine blk_drewN ?_ _ | refine blk_drew ?_ | refine blk_alloc ?_ _)); refine blk_far ?_ NB172_188.out _; (with_reducible repeat (first | refine blk_drewN ?_ _ | refine blk_drew ?_ | refine blk_alloc ?_ _)); refine blk_far ?_ NB172_188.out _; (with_reducible repeat (first | refine blk_drewN ?_ _ | refine blk_drew ?_ | refine blk_alloc ?_ _)); exact BK172.out), (by repeat (first | (with_reducible first | exact HB.out | apply below_alloc | apply pw_below_drewN | apply below_drew1 | refine below_set ?_ GE167.out | refine below_set ?_ GE172.out | refine below_set ?_ GE186.out | refine below_set ?_ GE187.out | refine below_set ?_ GE188.out) | exact HB.out)), fun _ _ => NB187_186.out, fun _ _ => NB186_187.out, fun _ _ => NB188_186.out, fun _ _ => NB186_188.out, fun _ _ => NB188_187.out, fun _ _ => NB187_188.out, fun _ h1_ => absurd ((hon 9 (by kernel_rfl)).symm.trans h1_) (by decide), fun _ => GW186.out, fun _ => GE186.out, fun _ => NB167_186.out, fun _ => NB186_167.out, fun _ => NB172_186.out, fun _ => NB186_172.out, fun _ h1_ => absurd ((hon 10 (by kernel_rfl)).symm.trans h1_) (by decide), fun _ => GW187.out, fun _ => GE187.out, fun _ => NB167_187.out, fun _ => NB187_167.out, fun _ => NB172_187.out, fun _ => NB187_172.out, fun _ h1_ => absurd ((up_self b 11).symm.trans h1_) (by decide), fun _ => GW188.out, fun _ => GE188.out, fun _ => NB167_188.out, fun _ => NB188_167.out, fun _ => NB172_188.out, fun _ => NB188_172.out, fun _ => (by (with_reducible repeat (first | refine blk_drewN ?_ _ | refine blk_drew ?_ | refine blk_alloc ?_ _)); refine blk_far ?_ NB186_188.out _; (with_reducible repeat (first | refine blk_drewN ?_ _ | refine blk_drew ?_ | refine blk_alloc ?_ _)); refine blk_far ?_ NB186_188.out _; (with_reducible repeat (first | refine blk_drewN ?_ _ | refine blk_drew ?_ | refine blk_alloc ?_ _)); refine blk_far ?_ NB186_188.out _; (with_reducible repeat (first | refine blk_drewN ?_ _ | refine blk_drew ?_ | refine blk_alloc ?_ _)); exact BK186.out), fun _ => (by (with_reducible repeat (first | refine blk_drewN ?_ _ | refine blk_drew ?_ | refine blk_alloc ?_ _)); refine blk_far ?_ NB187_188.out _; (with_reducible repeat (first | refine blk_drewN ?_ _ | refine blk_drew ?_ | refine blk_alloc ?_ _)); refine blk_far ?_ NB187_188.out _; (with_reducible repeat (first | refine blk_drewN ?_ _ | refine blk_drew ?_ | refine blk_alloc ?_ _)); refine blk_far ?_ NB187_188.out _; (with_reducible repeat (first | refine blk_drewN ?_ _ | refine blk_drew ?_ | refine blk_alloc ?_ _)); exact BK187.out), fun _ => (by (with_reducible repeat (first | refine blk_drewN ?_ _ | refine blk_drew ?_ | refine blk_alloc ?_ _)); refine blk_put (cs := #[.int .i64 t183, .int .i64 t184, .int .i64 0]) ?_ 2 _ rfl; (with_reducible repeat (first | refine blk_drewN ?_ _ | refine blk_drew ?_ | refine blk_alloc ?_ _)); refine blk_put (cs := #[.int .i64 t183, .int .i64 0, .int .i64 0]) ?_ 1 _ rfl; (with_reducible repeat (first | refine blk_drewN ?_ _ | refine blk_drew ?_ | refine blk_alloc ?_ _)); refine blk_put (cs := #[.int .i64 0, .int .i64 0, .int .i64 0]) ?_ 0 _ rfl; (with_reducible repeat (first | refine blk_drewN ?_ _ | refine blk_drew ?_ | refine blk_alloc ?_ _)); exact BK188.out), Q_X6_, Q_X7_, Q_X8_⟩
      exact steps_nil
    rintro b a w56 hall ⟨gb186, gb187, gb188, m6_, m7_, m8_, ha, Q_HO171, Q_BK167, Q_BK172, Q_HB, Q_NB187_186, Q_NB186_187, Q_NB188_186, Q_NB186_188, Q_NB188_187, Q_NB187_188, Q_BK186, Q_GW186, Q_GE186, Q_NB167_186, Q_NB186_167, Q_NB172_186, Q_NB186_172, Q_BK187, Q_GW187, Q_GE187, Q_NB167_187, Q_NB187_167, Q_NB172_187, Q_NB187_172, Q_BK188, Q_GW188, Q_GE188, Q_NB167_188, Q_NB188_167, Q_NB172_188, Q_NB188_172, Q_BK186_e9, Q_BK187_e10, Q_BK188_e11, Q_X6_, Q_X7_, Q_X8_⟩
    clear BK167 BK172 HB HO171
    have hb0_ := hall 0 (by kernel_rfl)
    have hb1_ := hall 1 (by kernel_rfl)
    have hb2_ := hall 2 (by kernel_rfl)
    have hb3_ := hall 3 (by kernel_rfl)
    have hb4_ := hall 4 (by kernel_rfl)
    have hb5_ := hall 5 (by kernel_rfl)
    have hb6_ := hall 6 (by kernel_rfl)
    have hb7_ := hall 7 (by kernel_rfl)
    have hb8_ := hall 8 (by kernel_rfl)
    have hb9_ := hall 9 (by kernel_rfl)
    have hb10_ := hall 10 (by kernel_rfl)
    have hb11_ := hall 11 (by kernel_rfl)
    subst ha
    obtain rfl := Q_X6_ hb6_
    obtain rfl := Q_X7_ hb7_
    obtain rfl := Q_X8_ hb8_
    simp only [putSel, hb0_, hb1_, hb2_, hb3_, hb4_, hb5_, hb6_, hb7_, hb8_, hb9_, hb10_, hb11_, if_true, Act.put, List.setIfInBounds_toArray, List.set_cons_zero, List.set_cons_succ]
    have HO171 := Aside0.mk Q_HO171
    clear Q_HO171
    have BK167 := Aside0.mk Q_BK167
    clear Q_BK167
    have BK172 := Aside0.mk Q_BK172
    clear Q_BK172
    have HB := Aside0.mk Q_HB
    clear Q_HB
    have NB187_186 := Aside0.mk (Q_NB187_186 hb6_ hb7_)
    clear Q_NB187_186
    have NB186_187 := Aside0.mk (Q_NB186_187 hb6_ hb7_)
    clear Q_NB186_187
    have NB188_186 := Aside0.mk (Q_NB188_186 hb6_ hb8_)
    clear Q_NB188_186
    have NB186_188 := Aside0.mk (Q_NB186_188 hb6_ hb8_)
    clear Q_NB186_188
    have NB188_187 := Aside0.mk (Q_NB188_187 hb7_ hb8_)
    clear Q_NB188_187
    have NB187_188 := Aside0.mk (Q_NB187_188 hb7_ hb8_)
    clear Q_NB187_188
    clear Q_BK186
    have GW186 := Aside0.mk (Q_GW186 hb6_)
    clear Q_GW186
    have GE186 := Aside0.mk (Q_GE186 hb6_)
    clear Q_GE186
    have NB167_186 := Aside0.mk (Q_NB167_186 hb6_)
    clear Q_NB167_186
    have NB186_167 := Aside0.mk (Q_NB186_167 hb6_)
    clear Q_NB186_167
    have NB172_186 := Aside0.mk (Q_NB172_186 hb6_)
    clear Q_NB172_186
    have NB186_172 := Aside0.mk (Q_NB186_172 hb6_)
    clear Q_NB186_172
    clear Q_BK187
    have GW187 := Aside0.mk (Q_GW187 hb7_)
    clear Q_GW187
    have GE187 := Aside0.mk (Q_GE187 hb7_)
    clear Q_GE187
    have NB167_187 := Aside0.mk (Q_NB167_187 hb7_)
    clear Q_NB167_187
    have NB187_167 := Aside0.mk (Q_NB187_167 hb7_)
    clear Q_NB187_167
    have NB172_187 := Aside0.mk (Q_NB172_187 hb7_)
    clear Q_NB172_187
    have NB187_172 := Aside0.mk (Q_NB187_172 hb7_)
    clear Q_NB187_172
    clear Q_BK188
    have GW188 := Aside0.mk (Q_GW188 hb8_)
    clear Q_GW188
    have GE188 := Aside0.mk (Q_GE188 hb8_)
    clear Q_GE188
    have NB167_188 := Aside0.mk (Q_NB167_188 hb8_)
    clear Q_NB167_188
    have NB188_167 := Aside0.mk (Q_NB188_167 hb8_)
    clear Q_NB188_167
    have NB172_188 := Aside0.mk (Q_NB172_188 hb8_)
    clear Q_NB172_188
    have NB188_172 := Aside0.mk (Q_NB188_172 hb8_)
    clear Q_NB188_172
    have BK186 := Aside0.mk (Q_BK186_e9 hb9_)
    clear Q_BK186_e9
    have BK187 := Aside0.mk (Q_BK187_e10 hb10_)
    clear Q_BK187_e10
    have BK188 := Aside0.mk (Q_BK188_e11 hb11_)
    clear Q_BK188_e11
    clear hall hb0_ hb1_ hb2_ hb3_ hb4_ hb5_ hb6_ hb7_ hb8_ hb9_ hb10_ hb11_
    have hnb57 := NB172_186.out
    have hnc57 := NB186_172.out
    have hnb58 := NB172_187.out
    have hnc58 := NB187_172.out
    have hnb59 := NB172_188.out
    have hnc59 := NB188_172.out
    have hcz60_0 : w56.cell? ⟨gb172, 0, none⟩ = some (.int .i64 t168) := (blk_cell BK172.out 0).trans rfl
    have hcz60_1 : w56.cell? ⟨gb172, 1, none⟩ = some (.slice Ao34 t169.length co34) := (blk_cell BK172.out 1).trans rfl
    have hfz60_0 := blk_frozen BK172.out 0
    have hfz60_1 := blk_frozen BK172.out 1
    have hnb61 := NB167_186.out
    have hnc61 := NB186_167.out
    have hnb62 := NB167_187.out
    have hnc62 := NB187_167.out
    have hnb63 := NB167_188.out
    have hnc63 := NB188_167.out
    have hcz64_0 : w56.cell? ⟨gb167, 0, none⟩ = some (.int .i64 2) := (blk_cell BK167.out 0).trans rfl
    have hcz64_1 : w56.cell? ⟨gb167, 1, none⟩ = some (.int .i64 7) := (blk_cell BK167.out 1).trans rfl
    have hcz64_2 : w56.cell? ⟨gb167, 2, none⟩ = some (.int .i64 3) := (blk_cell BK167.out 2).trans rfl
    have hcz64_3 : w56.cell? ⟨gb167, 3, none⟩ = some (.int .i64 1) := (blk_cell BK167.out 3).trans rfl
    have hfz64_0 := blk_frozen BK167.out 0
    have hfz64_1 := blk_frozen BK167.out 1
    have hfz64_2 := blk_frozen BK167.out 2
    have hfz64_3 := blk_frozen BK167.out 3
    try go_wp2_with (first | ((with_reducible refine gate_callee (f := 12) rfl ?_); refine goesL_ (some 19) rfl rfl Tryd.func12 (by kernel_rfl) rfl #[.agg #[.int .i64 t168, .slice Ao34 t169.length co34], .agg #[.int .i64 2, .int .i64 7, .int .i64 3, .int .i64 1]] rfl (by (try simp only [List.map_toArray, List.map_cons, List.map_nil]); first | done | rfl | (simp only [List.length_drop, List.length_take]; rfl)) ?_; (with_reducible refine (design_Check.calls t168 _ _ t169 2 7 3 1 t189 _ ?side1 ?side2 A5.out).mono ?_); (case side1 => repeat (first | exact (Kd.R_reads' HO171.out).2.2 | (with_reducible refine Kd.C_alloc ?_ _) | (with_reducible refine Kd.C_drewN ?_ _) | (with_reducible refine Kd.C_drew ?_))); (case side2 => exact (Kd.R_reads' HO171.out).2.1); rintro e w65 ⟨rfl, hb⟩; refine ⟨_, rfl, ?_⟩; have n0_ := Aside0.mk (Kd.R_below (by (with_reducible repeat (first | apply Kd.R_alloc | apply Kd.R_drewN | apply Kd.R_drew)); exact HO171.out) hb); have n1_ := Aside0.mk (blk_below (g := gb167) (o := .cells #[.int .i64 2, .int .i64 7, .int .i64 3, .int .i64 1] 26 (0, 0)) (by (with_reducible repeat (first | refine blk_drewN ?_ _ | refine blk_drew ?_ | refine blk_alloc ?_ _)); exact BK167.out) hb); have n2_ := Aside0.mk (blk_below (g := gb172) (o := .cells #[.int .i64 t168, .slice Ao34 t169.length co34] 31 (0, 0)) (by (with_reducible repeat (first | refine blk_drewN ?_ _ | refine blk_drew ?_ | refine blk_alloc ?_ _)); exact BK172.out) hb); have n3_ := Aside0.mk (blk_below (g := gb186) (o := .cells #[.int .i64 t173, .int .i64 t174, .int .i64 t175, .int .i64 t176, .int .i64 t177] 35 (0, 0)) (by (with_reducible repeat (first | refine blk_drewN ?_ _ | refine blk_drew ?_ | refine blk_alloc ?_ _)); exact BK186.out) hb); have n4_ := Aside0.mk (blk_below (g := gb187) (o := .cells #[.int .i64 t178, .int .i64 t179, .int .i64 t180, .int .i64 t181, .int .i64 t182] 35 (0, 0)) (by (with_reducible repeat (first | refine blk_drewN ?_ _ | refine blk_drew ?_ | refine blk_alloc ?_ _)); exact BK187.out) hb); have n5_ := Aside0.mk (blk_below (g := gb188) (o := .cells #[.int .i64 t183, .int .i64 t184, .int .i64 t185] 43 (0, 0)) (by (with_reducible repeat (first | refine blk_drewN ?_ _ | refine blk_drew ?_ | refine blk_alloc ?_ _)); exact BK188.out) hb); have n6_ := Aside0.mk (below_step (by repeat (first | (with_reducible first | exact HB.out | apply below_alloc | apply pw_below_drewN | apply below_drew1 | refine below_set ?_ GE167.out | refine below_set ?_ GE172.out | refine below_set ?_ GE186.out | refine below_set ?_ GE187.out | refine below_set ?_ GE188.out) | exact HB.out)) hb); clear HO171; clear BK167; clear BK172; clear BK186; clear BK187; clear BK188; clear HB; have HO171 := n0_; have BK167 := n1_; have BK172 := n2_; have BK186 := n3_; have BK187 := n4_; have BK188 := n5_; have HB := n6_; clear n0_ n1_ n2_ n3_ n4_ n5_ n6_; (try clear hb); (try clear hb2); (try clear hk); (try clear hi); have hnb66 := NB186_187.out; have hnc66 := NB187_186.out; have hnb67 := NB186_188.out; have hnc67 := NB188_186.out; have hcz68_0 : w65.cell? ⟨gb186, 0, none⟩ = some (.int .i64 t173) := (blk_cell BK186.out 0).trans rfl; have hcz68_1 : w65.cell? ⟨gb186, 1, none⟩ = some (.int .i64 t174) := (blk_cell BK186.out 1).trans rfl; have hcz68_2 : w65.cell? ⟨gb186, 2, none⟩ = some (.int .i64 t175) := (blk_cell BK186.out 2).trans rfl; have hcz68_3 : w65.cell? ⟨gb186, 3, none⟩ = some (.int .i64 t176) := (blk_cell BK186.out 3).trans rfl; have hcz68_4 : w65.cell? ⟨gb186, 4, none⟩ = some (.int .i64 t177) := (blk_cell BK186.out 4).trans rfl; have hfz68_0 := blk_frozen BK186.out 0; have hfz68_1 := blk_frozen BK186.out 1; have hfz68_2 := blk_frozen BK186.out 2; have hfz68_3 := blk_frozen BK186.out 3; have hfz68_4 := blk_frozen BK186.out 4; have hcz69_0 : w65.cell? ⟨gb167, 0, none⟩ = some (.int .i64 2) := (blk_cell BK167.out 0).trans rfl; have hcz69_1 : w65.cell? ⟨gb167, 1, none⟩ = some (.int .i64 7) := (blk_cell BK167.out 1).trans rfl; have hcz69_2 : w65.cell? ⟨gb167, 2, none⟩ = some (.int .i64 3) := (blk_cell BK167.out 2).trans rfl; have hcz69_3 : w65.cell? ⟨gb167, 3, none⟩ = some (.int .i64 1) := (blk_cell BK167.out 3).trans rfl; have hfz69_0 := blk_frozen BK167.out 0; have hfz69_1 := blk_frozen BK167.out 1; have hfz69_2 := blk_frozen BK167.out 2; have hfz69_3 := blk_frozen BK167.out 3; have hnb70 := NB187_188.out; have hnc70 := NB188_187.out; have hcz71_0 : w65.cell? ⟨gb187, 0, none⟩ = some (.int .i64 t178) := (blk_cell BK187.out 0).trans rfl; have hcz71_1 : w65.cell? ⟨gb187, 1, none⟩ = some (.int .i64 t179) := (blk_cell BK187.out 1).trans rfl; have hcz71_2 : w65.cell? ⟨gb187, 2, none⟩ = some (.int .i64 t180) := (blk_cell BK187.out 2).trans rfl; have hcz71_3 : w65.cell? ⟨gb187, 3, none⟩ = some (.int .i64 t181) := (blk_cell BK187.out 3).trans rfl; have hcz71_4 : w65.cell? ⟨gb187, 4, none⟩ = some (.int .i64 t182) := (blk_cell BK187.out 4).trans rfl; have hfz71_0 := blk_frozen BK187.out 0; have hfz71_1 := blk_frozen BK187.out 1; have hfz71_2 := blk_frozen BK187.out 2; have hfz71_3 := blk_frozen BK187.out 3; have hfz71_4 := blk_frozen BK187.out 4; have hcz72_0 : w65.cell? ⟨gb188, 0, none⟩ = some (.int .i64 t183) := (blk_cell BK188.out 0).trans rfl; have hcz72_1 : w65.cell? ⟨gb188, 1, none⟩ = some (.int .i64 t184) := (blk_cell BK188.out 1).trans rfl; have hcz72_2 : w65.cell? ⟨gb188, 2, none⟩ = some (.int .i64 t185) := (blk_cell BK188.out 2).trans rfl; have hfz72_0 := blk_frozen BK188.out 0; have hfz72_1 := blk_frozen BK188.out 1; have hfz72_2 := blk_frozen BK188.out 2) | (go_at_call 16; (with_reducible refine (plexuslaw09_lambda.calls 2 7 3 1 1 t190 t191 t192 _ A12.out).mono ?_); rintro e w73 ⟨rfl, hb⟩; have n0_ := Aside0.mk (Kd.R_below (by (with_reducible repeat (first | apply Kd.R_alloc | apply Kd.R_drewN | apply Kd.R_drew)); exact HO171.out) hb); have n1_ := Aside0.mk (blk_below (g := gb167) (o := .cells #[.int .i64 2, .int .i64 7, .int .i64 3, .int .i64 1] 26 (0, 0)) (by (with_reducible repeat (first | refine blk_drewN ?_ _ | refine blk_drew ?_ | refine blk_alloc ?_ _)); exact BK167.out) hb); have n2_ := Aside0.mk (blk_below (g := gb172) (o := .cells #[.int .i64 t168, .slice Ao34 t169.length co34] 31 (0, 0)) (by (with_reducible repeat (first | refine blk_drewN ?_ _ | refine blk_drew ?_ | refine blk_alloc ?_ _)); exact BK172.out) hb); have n3_ := Aside0.mk (blk_below (g := gb186) (o := .cells #[.int .i64 t173, .int .i64 t174, .int .i64 t175, .int .i64 t176, .int .i64 t177] 35 (0, 0)) (by (with_reducible repeat (first | refine blk_drewN ?_ _ | refine blk_drew ?_ | refine blk_alloc ?_ _)); exact BK186.out) hb); have n4_ := Aside0.mk (blk_below (g := gb187) (o := .cells #[.int .i64 t178, .int .i64 t179, .int .i64 t180, .int .i64 t181, .int .i64 t182] 35 (0, 0)) (by (with_reducible repeat (first | refine blk_drewN ?_ _ | refine blk_drew ?_ | refine blk_alloc ?_ _)); exact BK187.out) hb); have n5_ := Aside0.mk (blk_below (g := gb188) (o := .cells #[.int .i64 t183, .int .i64 t184, .int .i64 t185] 43 (0, 0)) (by (with_reducible repeat (first | refine blk_drewN ?_ _ | refine blk_drew ?_ | refine blk_alloc ?_ _)); exact BK188.out) hb); have n6_ := Aside0.mk (below_step (by repeat (first | (with_reducible first | exact HB.out | apply below_alloc | apply pw_below_drewN | apply below_drew1 | refine below_set ?_ GE167.out | refine below_set ?_ GE172.out | refine below_set ?_ GE186.out | refine below_set ?_ GE187.out | refine below_set ?_ GE188.out) | exact HB.out)) hb); clear HO171; clear BK167; clear BK172; clear BK186; clear BK187; clear BK188; clear HB; have HO171 := n0_; have BK167 := n1_; have BK172 := n2_; have BK186 := n3_; have BK187 := n4_; have BK188 := n5_; have HB := n6_; clear n0_ n1_ n2_ n3_ n4_ n5_ n6_; (try clear hb); (try clear hb2); (try clear hk); (try clear hi)) | ((with_reducible refine gate_dst (N := 56) rfl ?_); (try (refine gate_guard (by rfl) ?_; dsimp only)); refine Kd.R_lit (Kd.int .u64) _ 60 ?hg (N := 56) ?hd (xs := ([3, 5, 6, 9, 10, 12] : List Int)) (inner := [.int .u64 3, .int .u64 5, .int .u64 6, .int .u64 9, .int .u64 10, .int .u64 12]) (ok := fun _ => True) (okp := fun _ => True) ?hr ?hp (fun _ hk => hk) trivial (Below.refl _ _) (Nat.le_refl _) (by simp) ?_; (case hd => rfl); (case hg => rfl); (case hr => first | (go_simp; done) | (go_simp; rfl)); (case hp => exact (Reps.one (show Kd.M (Kd.int .u64) _ _ _ 3 [.int .u64 3] from rfl) (Reps.one (show Kd.M (Kd.int .u64) _ _ _ 5 [.int .u64 5] from rfl) (Reps.one (show Kd.M (Kd.int .u64) _ _ _ 6 [.int .u64 6] from rfl) (Reps.one (show Kd.M (Kd.int .u64) _ _ _ 9 [.int .u64 9] from rfl) (Reps.one (show Kd.M (Kd.int .u64) _ _ _ 10 [.int .u64 10] from rfl) (Reps.one (show Kd.M (Kd.int .u64) _ _ _ 12 [.int .u64 12] from rfl) (Reps.none _ _)))))))); intro v194 w74 ho75 hb hg_ hnew_; clear hg_ hnew_; (first | rw [← Ny193.out] at ho75 | (simp only [Int.reduceToNat] at ho75; rw [← Ny193.out] at ho75)); have n0_ := Aside0.mk (Kd.R_elder' (by (with_reducible repeat (first | apply Kd.R_alloc | apply Kd.R_drewN | apply Kd.R_drew)); exact HO171.out) (Kd.R_base ho75) hb); have n1_ := Aside0.mk (Kd.R_lower (Kd.R_new' ho75 (Kd.R_lt (by (with_reducible repeat (first | apply Kd.R_alloc | apply Kd.R_drewN | apply Kd.R_drew)); exact HO171.out))) (below_size (by repeat (first | (with_reducible first | exact HB.out | apply below_alloc | apply pw_below_drewN | apply below_drew1 | refine below_set ?_ GE167.out | refine below_set ?_ GE172.out | refine below_set ?_ GE186.out | refine below_set ?_ GE187.out | refine below_set ?_ GE188.out) | exact HB.out)))); have n2_ := Aside0.mk (blk_below (g := gb167) (o := .cells #[.int .i64 2, .int .i64 7, .int .i64 3, .int .i64 1] 26 (0, 0)) (by (with_reducible repeat (first | refine blk_drewN ?_ _ | refine blk_drew ?_ | refine blk_alloc ?_ _)); exact BK167.out) hb); have n3_ := Aside0.mk (blk_below (g := gb172) (o := .cells #[.int .i64 t168, .slice Ao34 t169.length co34] 31 (0, 0)) (by (with_reducible repeat (first | refine blk_drewN ?_ _ | refine blk_drew ?_ | refine blk_alloc ?_ _)); exact BK172.out) hb); have n4_ := Aside0.mk (blk_below (g := gb186) (o := .cells #[.int .i64 t173, .int .i64 t174, .int .i64 t175, .int .i64 t176, .int .i64 t177] 35 (0, 0)) (by (with_reducible repeat (first | refine blk_drewN ?_ _ | refine blk_drew ?_ | refine blk_alloc ?_ _)); exact BK186.out) hb); have n5_ := Aside0.mk (blk_below (g := gb187) (o := .cells #[.int .i64 t178, .int .i64 t179, .int .i64 t180, .int .i64 t181, .int .i64 t182] 35 (0, 0)) (by (with_reducible repeat (first | refine blk_drewN ?_ _ | refine blk_drew ?_ | refine blk_alloc ?_ _)); exact BK187.out) hb); have n6_ := Aside0.mk (blk_below (g := gb188) (o := .cells #[.int .i64 t183, .int .i64 t184, .int .i64 t185] 43 (0, 0)) (by (with_reducible repeat (first | refine blk_drewN ?_ _ | refine blk_drew ?_ | refine blk_alloc ?_ _)); exact BK188.out) hb); have n7_ := Aside0.mk (below_step (by repeat (first | (with_reducible first | exact HB.out | apply below_alloc | apply pw_below_drewN | apply below_drew1 | refine below_set ?_ GE167.out | refine below_set ?_ GE172.out | refine below_set ?_ GE186.out | refine below_set ?_ GE187.out | refine below_set ?_ GE188.out) | exact HB.out)) hb); clear HO171; clear BK167; clear BK172; clear BK186; clear BK187; clear BK188; clear HB; have HO171 := n0_; have HO195 := n1_; have BK167 := n2_; have BK172 := n3_; have BK186 := n4_; have BK187 := n5_; have BK188 := n6_; have HB := n7_; clear n0_ n1_ n2_ n3_ n4_ n5_ n6_ n7_; clear hb ho75; obtain ⟨Ao76, co76, eo76⟩ := Kd.R_slice HO195.out; subst eo76) | ((with_reducible refine gate_dst (N := 6) rfl ?_); (try (refine gate_guard (by rfl) ?_; dsimp only)); refine box_event ?hg (N := 6) ?hd (cs := #[.int .i64 0, .slice none 0 0]) (t := 31) ?hr ?_; (case hd => rfl); (case hg => rfl); (case hr => first | (go_simp; done) | (go_simp; rfl)); intro gb196 hg w77 hbox hb; have n0_ := Aside0.mk (Kd.R_below (by (with_reducible repeat (first | apply Kd.R_alloc | apply Kd.R_drewN | apply Kd.R_drew)); exact HO171.out) hb); have n1_ := Aside0.mk (Kd.R_below (by (with_reducible repeat (first | apply Kd.R_alloc | apply Kd.R_drewN | apply Kd.R_drew)); exact HO195.out) hb); have n2_ := Aside0.mk (blk_below (g := gb167) (o := .cells #[.int .i64 2, .int .i64 7, .int .i64 3, .int .i64 1] 26 (0, 0)) (by (with_reducible repeat (first | refine blk_drewN ?_ _ | refine blk_drew ?_ | refine blk_alloc ?_ _)); exact BK167.out) hb); have n3_ := Aside0.mk (blk_below (g := gb172) (o := .cells #[.int .i64 t168, .slice Ao34 t169.length co34] 31 (0, 0)) (by (with_reducible repeat (first | refine blk_drewN ?_ _ | refine blk_drew ?_ | refine blk_alloc ?_ _)); exact BK172.out) hb); have n4_ := Aside0.mk (blk_below (g := gb186) (o := .cells #[.int .i64 t173, .int .i64 t174, .int .i64 t175, .int .i64 t176, .int .i64 t177] 35 (0, 0)) (by (with_reducible repeat (first | refine blk_drewN ?_ _ | refine blk_drew ?_ | refine blk_alloc ?_ _)); exact BK186.out) hb); have n5_ := Aside0.mk (blk_below (g := gb187) (o := .cells #[.int .i64 t178, .int .i64 t179, .int .i64 t180, .int .i64 t181, .int .i64 t182] 35 (0, 0)) (by (with_reducible repeat (first | refine blk_drewN ?_ _ | refine blk_drew ?_ | refine blk_alloc ?_ _)); exact BK187.out) hb); have n6_ := Aside0.mk (blk_below (g := gb188) (o := .cells #[.int .i64 t183, .int .i64 t184, .int .i64 t185] 43 (0, 0)) (by (with_reducible repeat (first | refine blk_drewN ?_ _ | refine blk_drew ?_ | refine blk_alloc ?_ _)); exact BK188.out) hb); have n7_ := Aside0.mk (below_step (by repeat (first | (with_reducible first | exact HB.out | apply below_alloc | apply pw_below_drewN | apply below_drew1 | refine below_set ?_ GE167.out | refine below_set ?_ GE172.out | refine below_set ?_ GE186.out | refine below_set ?_ GE187.out | refine below_set ?_ GE188.out) | exact HB.out)) hb); have n8_ := Aside0.mk (hbox); have n9_ := Aside0.mk ((by rw [hg]; exact (below_size (by repeat (first | (with_reducible first | exact HB.out | apply below_alloc | apply pw_below_drewN | apply below_drew1 | refine below_set ?_ GE167.out | refine below_set ?_ GE172.out | refine below_set ?_ GE186.out | refine below_set ?_ GE187.out | refine below_set ?_ GE188.out) | exact HB.out))) : w.heap.size ≤ gb196)); have n10_ := Aside0.mk ((by rw [hg]; exact (below_size (by repeat (first | (with_reducible first | exact HB.out | apply below_alloc | apply pw_below_drewN | apply below_drew1 | refine below_set ?_ GE167.out | refine below_set ?_ GE172.out | refine below_set ?_ GE186.out | refine below_set ?_ GE187.out | refine below_set ?_ GE188.out) | exact HB.out))) : w.heap.size ≤ gb196)); have n11_ := Aside0.mk ((by rw [hg]; exact Nat.ne_of_lt (blk_lt (g := gb167) (o := .cells #[.int .i64 2, .int .i64 7, .int .i64 3, .int .i64 1] 26 (0, 0)) (by (with_reducible repeat (first | refine blk_drewN ?_ _ | refine blk_drew ?_ | refine blk_alloc ?_ _)); exact BK167.out)) : gb167 ≠ gb196)); have n12_ := Aside0.mk ((by rw [hg]; exact Nat.ne_of_gt (blk_lt (g := gb167) (o := .cells #[.int .i64 2, .int .i64 7, .int .i64 3, .int .i64 1] 26 (0, 0)) (by (with_reducible repeat (first | refine blk_drewN ?_ _ | refine blk_drew ?_ | refine blk_alloc ?_ _)); exact BK167.out)) : gb196 ≠ gb167)); have n13_ := Aside0.mk ((by rw [hg]; exact Nat.ne_of_lt (blk_lt (g := gb172) (o := .cells #[.int .i64 t168, .slice Ao34 t169.length co34] 31 (0, 0)) (by (with_reducible repeat (first | refine blk_drewN ?_ _ | refine blk_drew ?_ | refine blk_alloc ?_ _)); exact BK172.out)) : gb172 ≠ gb196)); have n14_ := Aside0.mk ((by rw [hg]; exact Nat.ne_of_gt (blk_lt (g := gb172) (o := .cells #[.int .i64 t168, .slice Ao34 t169.length co34] 31 (0, 0)) (by (with_reducible repeat (first | refine blk_drewN ?_ _ | refine blk_drew ?_ | refine blk_alloc ?_ _)); exact BK172.out)) : gb196 ≠ gb172)); have n15_ := Aside0.mk ((by rw [hg]; exact Nat.ne_of_lt (blk_lt (g := gb186) (o := .cells #[.int .i64 t173, .int .i64 t174, .int .i64 t175, .int .i64 t176, .int .i64 t177] 35 (0, 0)) (by (with_reducible repeat (first | refine blk_drewN ?_ _ | refine blk_drew ?_ | refine blk_alloc ?_ _)); exact BK186.out)) : gb186 ≠ gb196)); have n16_ := Aside0.mk ((by rw [hg]; exact Nat.ne_of_gt (blk_lt (g := gb186) (o := .cells #[.int .i64 t173, .int .i64 t174, .int .i64 t175, .int .i64 t176, .int .i64 t177] 35 (0, 0)) (by (with_reducible repeat (first | refine blk_drewN ?_ _ | refine blk_drew ?_ | refine blk_alloc ?_ _)); exact BK186.out)) : gb196 ≠ gb186)); have n17_ := Aside0.mk ((by rw [hg]; exact Nat.ne_of_lt (blk_lt (g := gb187) (o := .cells #[.int .i64 t178, .int .i64 t179, .int .i64 t180, .int .i64 t181, .int .i64 t182] 35 (0, 0)) (by (with_reducible repeat (first | refine blk_drewN ?_ _ | refine blk_drew ?_ | refine blk_alloc ?_ _)); exact BK187.out)) : gb187 ≠ gb196)); have n18_ := Aside0.mk ((by rw [hg]; exact Nat.ne_of_gt (blk_lt (g := gb187) (o := .cells #[.int .i64 t178, .int .i64 t179, .int .i64 t180, .int .i64 t181, .int .i64 t182] 35 (0, 0)) (by (with_reducible repeat (first | refine blk_drewN ?_ _ | refine blk_drew ?_ | refine blk_alloc ?_ _)); exact BK187.out)) : gb196 ≠ gb187)); have n19_ := Aside0.mk ((by rw [hg]; exact Nat.ne_of_lt (blk_lt (g := gb188) (o := .cells #[.int .i64 t183, .int .i64 t184, .int .i64 t185] 43 (0, 0)) (by (with_reducible repeat (first | refine blk_drewN ?_ _ | refine blk_drew ?_ | refine blk_alloc ?_ _)); exact BK188.out)) : gb188 ≠ gb196)); have n20_ := Aside0.mk ((by rw [hg]; exact Nat.ne_of_gt (blk_lt (g := gb188) (o := .cells #[.int .i64 t183, .int .i64 t184, .int .i64 t185] 43 (0, 0)) (by (with_reducible repeat (first | refine blk_drewN ?_ _ | refine blk_drew ?_ | refine blk_alloc ?_ _)); exact BK188.out)) : gb196 ≠ gb188)); clear HO171; clear HO195; clear BK167; clear BK172; clear BK186; clear BK187; clear BK188; clear HB; have HO171 := n0_; have HO195 := n1_; have BK167 := n2_; have BK172 := n3_; have BK186 := n4_; have BK187 := n5_; have BK188 := n6_; have HB := n7_; have BK196 := n8_; have GW196 := n9_; have GE196 := n10_; have NB167_196 := n11_; have NB196_167 := n12_; have NB172_196 := n13_; have NB196_172 := n14_; have NB186_196 := n15_; have NB196_186 := n16_; have NB187_196 := n17_; have NB196_187 := n18_; have NB188_196 := n19_; have NB196_188 := n20_; clear n0_ n1_ n2_ n3_ n4_ n5_ n6_ n7_ n8_ n9_ n10_ n11_ n12_ n13_ n14_ n15_ n16_ n17_ n18_ n19_ n20_; clear hb hbox hg; have hnb78 := NB196_167.out; have hnc78 := NB167_196.out; have hnb79 := NB196_172.out; have hnc79 := NB172_196.out; have hnb80 := NB196_186.out; have hnc80 := NB186_196.out; have hnb81 := NB196_187.out; have hnc81 := NB187_196.out; have hnb82 := NB196_188.out; have hnc82 := NB188_196.out; have hcz83_0 : w77.cell? ⟨gb196, 0, none⟩ = some (.int .i64 0) := (blk_cell BK196.out 0).trans rfl; have hcz83_1 : w77.cell? ⟨gb196, 1, none⟩ = some (.slice none 0 0) := (blk_cell BK196.out 1).trans rfl; have hfz83_0 := blk_frozen BK196.out 0; have hfz83_1 := blk_frozen BK196.out 1))
    have n0_ : Aside0 (Kd.R (Kd.int .u64) 60 ((w77.setCell ⟨gb196, 0, none⟩ (.int .i64 4)).setCell ⟨gb196, 1, none⟩ (.slice Ao76 y193.length co76)) w.heap.size (fun k_ => some k_ ≠ (.slice Ao76 y193.length co76 : Value).ownBlock) (.slice Ao34 t169.length co34) t169) := ⟨by (with_reducible repeat (first | apply Kd.R_alloc | apply Kd.R_drewN | apply Kd.R_drew)); exact Kd.R_mono (Kd.R_far (p := ⟨gb196, 1, none⟩) (Kd.R_far (p := ⟨gb196, 0, none⟩) (Kd.R_types HO171.out BK196.out (by decide)) (fun _ hk => hk.2) (.int .i64 4)) (fun _ hk => hk.2) (.slice Ao76 y193.length co76)) (fun _ hk => hk.1.2)⟩
    have n1_ : Aside0 (Kd.R (Kd.int .u64) 60 ((w77.setCell ⟨gb196, 0, none⟩ (.int .i64 4)).setCell ⟨gb196, 1, none⟩ (.slice Ao76 y193.length co76)) w.heap.size (fun k_ => some k_ ≠ (.slice Ao34 t169.length co34 : Value).ownBlock) (.slice Ao76 y193.length co76) y193) := ⟨by (with_reducible repeat (first | apply Kd.R_alloc | apply Kd.R_drewN | apply Kd.R_drew)); exact Kd.R_mono (Kd.R_far (p := ⟨gb196, 1, none⟩) (Kd.R_far (p := ⟨gb196, 0, none⟩) (Kd.R_types HO195.out BK196.out (by decide)) (fun _ hk => hk.2) (.int .i64 4)) (fun _ hk => hk.2) (.slice Ao76 y193.length co76)) (fun _ hk => hk.1.2)⟩
    have n2_ : Aside0 (((w77.setCell ⟨gb196, 0, none⟩ (.int .i64 4)).setCell ⟨gb196, 1, none⟩ (.slice Ao76 y193.length co76)).heap[gb167]? = some (.cells #[.int .i64 2, .int .i64 7, .int .i64 3, .int .i64 1] 26 (0, 0))) := ⟨by (with_reducible repeat (first | refine blk_drewN ?_ _ | refine blk_drew ?_ | refine blk_alloc ?_ _)); refine blk_far ?_ NB167_196.out _; (with_reducible repeat (first | refine blk_drewN ?_ _ | refine blk_drew ?_ | refine blk_alloc ?_ _)); refine blk_far ?_ NB167_196.out _; (with_reducible repeat (first | refine blk_drewN ?_ _ | refine blk_drew ?_ | refine blk_alloc ?_ _)); exact BK167.out⟩
    have n3_ : Aside0 (((w77.setCell ⟨gb196, 0, none⟩ (.int .i64 4)).setCell ⟨gb196, 1, none⟩ (.slice Ao76 y193.length co76)).heap[gb172]? = some (.cells #[.int .i64 t168, .slice Ao34 t169.length co34] 31 (0, 0))) := ⟨by (with_reducible repeat (first | refine blk_drewN ?_ _ | refine blk_drew ?_ | refine blk_alloc ?_ _)); refine blk_far ?_ NB172_196.out _; (with_reducible repeat (first | refine blk_drewN ?_ _ | refine blk_drew ?_ | refine blk_alloc ?_ _)); refine blk_far ?_ NB172_196.out _; (with_reducible repeat (first | refine blk_drewN ?_ _ | refine blk_drew ?_ | refine blk_alloc ?_ _)); exact BK172.out⟩
    have n4_ : Aside0 (((w77.setCell ⟨gb196, 0, none⟩ (.int .i64 4)).setCell ⟨gb196, 1, none⟩ (.slice Ao76 y193.length co76)).heap[gb196]? = some (.cells #[.int .i64 4, .slice Ao76 y193.length co76] 31 (0, 0))) := ⟨by (with_reducible repeat (first | refine blk_drewN ?_ _ | refine blk_drew ?_ | refine blk_alloc ?_ _)); refine blk_put (cs := #[.int .i64 4, .slice none 0 0]) ?_ 1 _ rfl; (with_reducible repeat (first | refine blk_drewN ?_ _ | refine blk_drew ?_ | refine blk_alloc ?_ _)); refine blk_put (cs := #[.int .i64 0, .slice none 0 0]) ?_ 0 _ rfl; (with_reducible repeat (first | refine blk_drewN ?_ _ | refine blk_drew ?_ | refine blk_alloc ?_ _)); exact BK196.out⟩
    have n5_ : Aside0 (Below w.heap.size w ((w77.setCell ⟨gb196, 0, none⟩ (.int .i64 4)).setCell ⟨gb196, 1, none⟩ (.slice Ao76 y193.length co76))) := ⟨by repeat (first | (with_reducible first | exact HB.out | apply below_alloc | apply pw_below_drewN | apply below_drew1 | refine below_set ?_ GE167.out | refine below_set ?_ GE172.out | refine below_set ?_ GE196.out) | exact HB.out)⟩
    (try clear HO171)
    (try clear HO195)
    (try clear BK167)
    (try clear BK172)
    (try clear BK196)
    (try clear HB)
    generalize ((w77.setCell ⟨gb196, 0, none⟩ (.int .i64 4)).setCell ⟨gb196, 1, none⟩ (.slice Ao76 y193.length co76)) = w84 at n0_ n1_ n2_ n3_ n4_ n5_ ⊢
    have HO171 := n0_
    have HO195 := n1_
    have BK167 := n2_
    have BK172 := n3_
    have BK196 := n4_
    have HB := n5_
    clear n0_ n1_ n2_ n3_ n4_ n5_
    have n0_ := Aside0.mk (Kd.R_drew HO171.out)
    have n1_ := Aside0.mk (Kd.R_drew HO195.out)
    have n2_ := Aside0.mk (blk_drew BK167.out)
    have n3_ := Aside0.mk (blk_drew BK172.out)
    have n4_ := Aside0.mk (blk_drew BK196.out)
    have n5_ := Aside0.mk (below_drew1 HB.out)
    clear HO171
    clear HO195
    clear BK167
    clear BK172
    clear BK196
    clear HB
    have HO171 := n0_
    have HO195 := n1_
    have BK167 := n2_
    have BK172 := n3_
    have BK196 := n4_
    have HB := n5_
    clear n0_ n1_ n2_ n3_ n4_ n5_
    refine start_ (n := 8) (S := fun w' => True) (ds := []) #[false, false, false, false, false, false, false, false] (by kernel_rfl) rfl rfl trivial (fun hHeld => ?_); refine with_tabW exs.tab7 exs.bits7 (fun HT_ HW_ => ?_)
    generalize w84.drew = w85 at HO171 HO195 BK167 BK172 BK196 HB hHeld ⊢
    refine inv_at [0, 1, 2, 3, 4, 5, 6, 7] (fun a0_ b a w' => ∃ (v198 : Value) (v202 : Value) (gb205 : Nat) (gb206 : Nat) (m1_ : Value) (m3_ : Value) (m4_ : Value) (m5_ : Value), a = putSel a0_ b [(0, 58, .agg #[.int .i64 4, .slice Ao76 y193.length co76]), (1, 59, m1_), (2, 60, .agg #[.int .i64 t168, .slice Ao34 t169.length co34]), (3, 61, m3_), (4, 7, m4_), (5, 8, m5_)] ∧ (Kd.R (Kd.int .u64) 60 w' w.heap.size (fun k_ => some k_ ≠ (.slice Ao76 y193.length co76 : Value).ownBlock) (.slice Ao34 t169.length co34) t169) ∧ (Kd.R (Kd.int .u64) 60 w' w.heap.size (fun k_ => some k_ ≠ (.slice Ao34 t169.length co34 : Value).ownBlock) (.slice Ao76 y193.length co76) y193) ∧ (w'.heap[gb167]? = some (.cells #[.int .i64 2, .int .i64 7, .int .i64 3, .int .i64 1] 26 (0, 0))) ∧ (w'.heap[gb172]? = some (.cells #[.int .i64 t168, .slice Ao34 t169.length co34] 31 (0, 0))) ∧ (w'.heap[gb196]? = some (.cells #[.int .i64 4, .slice Ao76 y193.length co76] 31 (0, 0))) ∧ (Below w.heap.size w w') ∧ (b 4 = true → b 5 = true → gb206 ≠ gb205) ∧ (b 4 = true → b 5 = true → gb205 ≠ gb206) ∧ (b 1 = true → Kd.S (Kd.slice 3 (Kd.int .i64)) 50 w' w.heap.size (fun _ => True) v198 t197) ∧ (b 3 = true → Kd.S (Kd.slice 3 (Kd.int .i64)) 50 w' w.heap.size (fun _ => True) v202 t201) ∧ (b 4 = true → b 6 = false → w'.heap[gb205]? = some (.cells #[.slice none 0 0, .int .i64 0] 46 (0, 0))) ∧ (b 4 = true → w.heap.size ≤ gb205) ∧ (b 4 = true → w.heap.size ≤ gb205) ∧ (b 4 = true → gb167 ≠ gb205) ∧ (b 4 = true → gb205 ≠ gb167) ∧ (b 4 = true → gb172 ≠ gb205) ∧ (b 4 = true → gb205 ≠ gb172) ∧ (b 4 = true → gb196 ≠ gb205) ∧ (b 4 = true → gb205 ≠ gb196) ∧ (b 5 = true → b 7 = false → w'.heap[gb206]? = some (.cells #[.slice none 0 0, .int .i64 0] 46 (0, 0))) ∧ (b 5 = true → w.heap.size ≤ gb206) ∧ (b 5 = true → w.heap.size ≤ gb206) ∧ (b 5 = true → gb167 ≠ gb206) ∧ (b 5 = true → gb206 ≠ gb167) ∧ (b 5 = true → gb172 ≠ gb206) ∧ (b 5 = true → gb206 ≠ gb172) ∧ (b 5 = true → gb196 ≠ gb206) ∧ (b 5 = true → gb206 ≠ gb196) ∧ (b 6 = true → w'.heap[gb205]? = some (.cells #[v198, .int .i64 t200] 46 (0, 0))) ∧ (b 7 = true → w'.heap[gb206]? = some (.cells #[v202, .int .i64 t204] 46 (0, 0))) ∧ (b 1 = true → (m1_ : Value) = .agg #[v198, .int .i64 t200]) ∧ (b 3 = true → (m3_ : Value) = .agg #[v202, .int .i64 t204]) ∧ (b 4 = true → (m4_ : Value) = .pointer (some ⟨gb205, 0, none⟩)) ∧ (b 5 = true → (m5_ : Value) = .pointer (some ⟨gb206, 0, none⟩))) HT_.out HW_.out (by kernel_rfl) (by kernel_rfl) ?_ ?_ ?_
    · exact ⟨.bool false, .bool false, 0, 0, .bool false, .bool false, .bool false, .bool false, by simp only [putSel, Bool.false_eq_true, if_false], HO171.out, HO195.out, BK167.out, BK172.out, BK196.out, HB.out, fun h_ => absurd h_ (by decide), fun h_ => absurd h_ (by decide), fun h_ => absurd h_ (by decide), fun h_ => absurd h_ (by decide), fun h_ => absurd h_ (by decide), fun h_ => absurd h_ (by decide), fun h_ => absurd h_ (by decide), fun h_ => absurd h_ (by decide), fun h_ => absurd h_ (by decide), fun h_ => absurd h_ (by decide), fun h_ => absurd h_ (by decide), fun h_ => absurd h_ (by decide), fun h_ => absurd h_ (by decide), fun h_ => absurd h_ (by decide), fun h_ => absurd h_ (by decide), fun h_ => absurd h_ (by decide), fun h_ => absurd h_ (by decide), fun h_ => absurd h_ (by decide), fun h_ => absurd h_ (by decide), fun h_ => absurd h_ (by decide), fun h_ => absurd h_ (by decide), fun h_ => absurd h_ (by decide), fun h_ => absurd h_ (by decide), fun h_ => absurd h_ (by decide), fun h_ => absurd h_ (by decide), fun h_ => absurd h_ (by decide), fun h_ => absurd h_ (by decide), fun h_ => absurd h_ (by decide)⟩
    · skip
      clear BK167 BK172 BK196 HB HO171 HO195
      refine steps_cons ?_ ?_
      · rintro b a w' ⟨v198, v202, gb205, gb206, m1_, m3_, m4_, m5_, ha, Q_HO171, Q_HO195, Q_BK167, Q_BK172, Q_BK196, Q_HB, Q_NB206_205, Q_NB205_206, Q_HO199, Q_HO203, Q_BK205, Q_GW205, Q_GE205, Q_NB167_205, Q_NB205_167, Q_NB172_205, Q_NB205_172, Q_NB196_205, Q_NB205_196, Q_BK206, Q_GW206, Q_GE206, Q_NB167_206, Q_NB206_167, Q_NB172_206, Q_NB206_172, Q_NB196_206, Q_NB206_196, Q_BK205_e6, Q_BK206_e7, Q_X1_, Q_X3_, Q_X4_, Q_X5_⟩ hb_ hon hoff
        refine ⟨_, rfl, fun K hK => ?_⟩
        have e6 : a.tmps[6]? = some (.pointer (some ⟨gb196, 0, none⟩)) := by rw [ha]; exact (putSel_off rfl).trans rfl
        replace ha := Aside0.mk ha
        have BK196 := Aside0.mk Q_BK196
        have hc0_ : w'.cell? ⟨gb196, 0, none⟩ = some (.int .i64 4) := (blk_cell BK196.out 0).trans rfl
        have hc1_ : w'.cell? ⟨gb196, 1, none⟩ = some (.slice Ao76 y193.length co76) := (blk_cell BK196.out 1).trans rfl
        refine value_ (w1 := w') (v := .agg #[.int .i64 4, .slice Ao76 y193.length co76]) (by rfl) rfl ?_ ?_
        · go_simp
          (try simp only [i64_w])
          try rfl
        refine hK.out _ _ ⟨v198, v202, gb205, gb206, m1_, m3_, m4_, m5_, (by rw [ha.out]; exact putSel_upk 0 hb_ rfl rfl rfl), Q_HO171, Q_HO195, Q_BK167, Q_BK172, Q_BK196, Q_HB, Q_NB206_205, Q_NB205_206, fun h0_ => absurd ((hoff 1 (by kernel_rfl)).symm.trans h0_) (by decide), fun h0_ => absurd ((hoff 3 (by kernel_rfl)).symm.trans h0_) (by decide), Q_BK205, Q_GW205, Q_GE205, Q_NB167_205, Q_NB205_167, Q_NB172_205, Q_NB205_172, Q_NB196_205, Q_NB205_196, Q_BK206, Q_GW206, Q_GE206, Q_NB167_206, Q_NB206_167, Q_NB172_206, Q_NB206_172, Q_NB196_206, Q_NB206_196, fun h0_ => absurd ((hoff 6 (by kernel_rfl)).symm.trans h0_) (by decide), fun h0_ => absurd ((hoff 7 (by kernel_rfl)).symm.trans h0_) (by decide), fun h0_ => absurd ((hoff 1 (by kernel_rfl)).symm.trans h0_) (by decide), fun h0_ => absurd ((hoff 3 (by kernel_rfl)).symm.trans h0_) (by decide), Q_X4_, Q_X5_⟩
      refine steps_cons ?_ ?_
      · rintro b a w' ⟨v198, v202, gb205, gb206, m1_, m3_, m4_, m5_, ha, Q_HO171, Q_HO195, Q_BK167, Q_BK172, Q_BK196, Q_HB, Q_NB206_205, Q_NB205_206, Q_HO199, Q_HO203, Q_BK205, Q_GW205, Q_GE205, Q_NB167_205, Q_NB205_167, Q_NB172_205, Q_NB205_172, Q_NB196_205, Q_NB205_196, Q_BK206, Q_GW206, Q_GE206, Q_NB167_206, Q_NB206_167, Q_NB172_206, Q_NB206_172, Q_NB196_206, Q_NB206_196, Q_BK205_e6, Q_BK206_e7, Q_X1_, Q_X3_, Q_X4_, Q_X5_⟩ hb_ hon hoff
        refine ⟨_, rfl, fun K hK => ?_⟩
        have e58 : a.tmps[58]? = some (.agg #[.int .i64 4, .slice Ao76 y193.length co76]) := by rw [ha]; exact putSel_on (e := (0, 58, .agg #[.int .i64 4, .slice Ao76 y193.length co76])) 0 rfl rfl (hon 0 (by kernel_rfl)) rfl
        replace ha := Aside0.mk ha
        have HO171 := Aside0.mk Q_HO171
        have HO195 := Aside0.mk Q_HO195
        have BK167 := Aside0.mk Q_BK167
        have BK172 := Aside0.mk Q_BK172
        have BK196 := Aside0.mk Q_BK196
        have HB := Aside0.mk Q_HB
        refine goes_ Tryd.func18 (by kernel_rfl) rfl #[.agg #[.int .i64 4, .slice Ao76 y193.length co76]] (by rfl) rfl rfl (by first | (simp only [List.map_toArray, List.map_cons, List.map_nil, Act.eval, Array.getD_eq_getD_getElem?, Option.getD_some, e58]; done) | (simp only [List.map_toArray, List.map_cons, List.map_nil, Act.eval, Array.getD_eq_getD_getElem?, Option.getD_some, e58]; rfl)) ?_
        with_reducible refine (plexuslaw09_resolved.calls 4 _ _ y193 t197 t200 _ ?side1 ?side2 ?side3 A14.out).mono ?_
        (case side1 => repeat (first | exact (Kd.R_reads' HO195.out).2.2 | (with_reducible refine Kd.C_alloc ?_ _) | (with_reducible refine Kd.C_drewN ?_ _) | (with_reducible refine Kd.C_drew ?_)))
        (case side2 => exact (Kd.R_reads' HO195.out).2.1)
        (case side3 => exact TabOk.below HT.out HB.out)
        rintro e w86 ⟨v198, rfl, ho0, hb⟩
        refine ⟨_, rfl, ?_⟩
        have n0_ := Aside0.mk (Kd.R_below HO171.out hb)
        have n1_ := Aside0.mk (Kd.R_below HO195.out hb)
        have n2_ := Aside0.mk (Kd.S_lower ho0 (below_size HB.out))
        have n3_ := Aside0.mk (blk_below BK167.out hb)
        have n4_ := Aside0.mk (blk_below BK172.out hb)
        have n5_ := Aside0.mk (blk_below BK196.out hb)
        have n6_ := Aside0.mk (below_step HB.out hb)
        have z_BK205 := fun (h0_ : b 4 = true) (h1_ : b 6 = false) => (show w86.heap[gb205]? = some (.cells #[.slice none 0 0, .int .i64 0] 46 (0, 0)) from by first | exact (blk_below (Q_BK205 h0_ h1_) hb))
        have z_BK206 := fun (h0_ : b 5 = true) (h1_ : b 7 = false) => (show w86.heap[gb206]? = some (.cells #[.slice none 0 0, .int .i64 0] 46 (0, 0)) from by first | exact (blk_below (Q_BK206 h0_ h1_) hb))
        clear HO171
        clear HO195
        clear BK167
        clear BK172
        clear BK196
        clear HB
        have HO171 := n0_
        have HO195 := n1_
        have HO199 := n2_
        have BK167 := n3_
        have BK172 := n4_
        have BK196 := n5_
        have HB := n6_
        clear n0_ n1_ n2_ n3_ n4_ n5_ n6_
        (try clear hb)
        (try clear hb2)
        (try clear hk)
        (try clear hi)
        (try clear ho0)
        refine hK.out _ _ ⟨v198, v202, gb205, gb206, (.agg #[v198, .int .i64 t200]), m3_, m4_, m5_, (by rw [ha.out]; exact putSel_upk 1 hb_ rfl rfl rfl), HO171.out, HO195.out, BK167.out, BK172.out, BK196.out, HB.out, Q_NB206_205, Q_NB205_206, fun _ => HO199.out, fun h0_ => absurd ((hoff 3 (by kernel_rfl)).symm.trans h0_) (by decide), z_BK205, Q_GW205, Q_GE205, Q_NB167_205, Q_NB205_167, Q_NB172_205, Q_NB205_172, Q_NB196_205, Q_NB205_196, z_BK206, Q_GW206, Q_GE206, Q_NB167_206, Q_NB206_167, Q_NB172_206, Q_NB206_172, Q_NB196_206, Q_NB206_196, fun h0_ => absurd ((hoff 6 (by kernel_rfl)).symm.trans h0_) (by decide), fun h0_ => absurd ((hoff 7 (by kernel_rfl)).symm.trans h0_) (by decide), fun _ => rfl, fun h0_ => absurd ((hoff 3 (by kernel_rfl)).symm.trans h0_) (by decide), Q_X4_, Q_X5_⟩
      refine steps_cons ?_ ?_
      · rintro b a w' ⟨v198, v202, gb205, gb206, m1_, m3_, m4_, m5_, ha, Q_HO171, Q_HO195, Q_BK167, Q_BK172, Q_BK196, Q_HB, Q_NB206_205, Q_NB205_206, Q_HO199, Q_HO203, Q_BK205, Q_GW205, Q_GE205, Q_NB167_205, Q_NB205_167, Q_NB172_205, Q_NB205_172, Q_NB196_205, Q_NB205_196, Q_BK206, Q_GW206, Q_GE206, Q_NB167_206, Q_NB206_167, Q_NB172_206, Q_NB206_172, Q_NB196_206, Q_NB206_196, Q_BK205_e6, Q_BK206_e7, Q_X1_, Q_X3_, Q_X4_, Q_X5_⟩ hb_ hon hoff
        refine ⟨_, rfl, fun K hK => ?_⟩
        have e2 : a.tmps[2]? = some (.pointer (some ⟨gb172, 0, none⟩)) := by rw [ha]; exact (putSel_off rfl).trans rfl
        replace ha := Aside0.mk ha
        have BK172 := Aside0.mk Q_BK172
        have hc0_ : w'.cell? ⟨gb172, 0, none⟩ = some (.int .i64 t168) := (blk_cell BK172.out 0).trans rfl
        have hc1_ : w'.cell? ⟨gb172, 1, none⟩ = some (.slice Ao34 t169.length co34) := (blk_cell BK172.out 1).trans rfl
        refine value_ (w1 := w') (v := .agg #[.int .i64 t168, .slice Ao34 t169.length co34]) (by rfl) rfl ?_ ?_
        · go_simp
          (try simp only [i64_w])
          try rfl
        refine hK.out _ _ ⟨v198, v202, gb205, gb206, m1_, m3_, m4_, m5_, (by rw [ha.out]; exact putSel_upk 2 hb_ rfl rfl rfl), Q_HO171, Q_HO195, Q_BK167, Q_BK172, Q_BK196, Q_HB, Q_NB206_205, Q_NB205_206, Q_HO199, fun h0_ => absurd ((hoff 3 (by kernel_rfl)).symm.trans h0_) (by decide), Q_BK205, Q_GW205, Q_GE205, Q_NB167_205, Q_NB205_167, Q_NB172_205, Q_NB205_172, Q_NB196_205, Q_NB205_196, Q_BK206, Q_GW206, Q_GE206, Q_NB167_206, Q_NB206_167, Q_NB172_206, Q_NB206_172, Q_NB196_206, Q_NB206_196, fun h0_ => absurd ((hoff 6 (by kernel_rfl)).symm.trans h0_) (by decide), fun h0_ => absurd ((hoff 7 (by kernel_rfl)).symm.trans h0_) (by decide), Q_X1_, fun h0_ => absurd ((hoff 3 (by kernel_rfl)).symm.trans h0_) (by decide), Q_X4_, Q_X5_⟩
      refine steps_cons ?_ ?_
      · rintro b a w' ⟨v198, v202, gb205, gb206, m1_, m3_, m4_, m5_, ha, Q_HO171, Q_HO195, Q_BK167, Q_BK172, Q_BK196, Q_HB, Q_NB206_205, Q_NB205_206, Q_HO199, Q_HO203, Q_BK205, Q_GW205, Q_GE205, Q_NB167_205, Q_NB205_167, Q_NB172_205, Q_NB205_172, Q_NB196_205, Q_NB205_196, Q_BK206, Q_GW206, Q_GE206, Q_NB167_206, Q_NB206_167, Q_NB172_206, Q_NB206_172, Q_NB196_206, Q_NB206_196, Q_BK205_e6, Q_BK206_e7, Q_X1_, Q_X3_, Q_X4_, Q_X5_⟩ hb_ hon hoff
        refine ⟨_, rfl, fun K hK => ?_⟩
        have e60 : a.tmps[60]? = some (.agg #[.int .i64 t168, .slice Ao34 t169.length co34]) := by rw [ha]; exact putSel_on (e := (2, 60, .agg #[.int .i64 t168, .slice Ao34 t169.length co34])) 2 rfl rfl (hon 2 (by kernel_rfl)) rfl
        replace ha := Aside0.mk ha
        have HO171 := Aside0.mk Q_HO171
        have HO195 := Aside0.mk Q_HO195
        have BK167 := Aside0.mk Q_BK167
        have BK172 := Aside0.mk Q_BK172
        have BK196 := Aside0.mk Q_BK196
        have HB := Aside0.mk Q_HB
        have HO199 := Aside0.mk (Q_HO199 (hon 1 (by kernel_rfl)))
        refine goes_ Tryd.func18 (by kernel_rfl) rfl #[.agg #[.int .i64 t168, .slice Ao34 t169.length co34]] (by rfl) rfl rfl (by first | (simp only [List.map_toArray, List.map_cons, List.map_nil, Act.eval, Array.getD_eq_getD_getElem?, Option.getD_some, e60]; done) | (simp only [List.map_toArray, List.map_cons, List.map_nil, Act.eval, Array.getD_eq_getD_getElem?, Option.getD_some, e60]; rfl)) ?_
        with_reducible refine (plexuslaw09_resolved.calls t168 _ _ t169 t201 t204 _ ?side1 ?side2 ?side3 A15.out).mono ?_
        (case side1 => repeat (first | exact (Kd.R_reads' HO171.out).2.2 | (with_reducible refine Kd.C_alloc ?_ _) | (with_reducible refine Kd.C_drewN ?_ _) | (with_reducible refine Kd.C_drew ?_)))
        (case side2 => exact (Kd.R_reads' HO171.out).2.1)
        (case side3 => exact TabOk.below HT.out HB.out)
        rintro e w88 ⟨v202, rfl, ho0, hb⟩
        refine ⟨_, rfl, ?_⟩
        have n0_ := Aside0.mk (Kd.R_below HO171.out hb)
        have n1_ := Aside0.mk (Kd.R_below HO195.out hb)
        have n2_ := Aside0.mk (Kd.S_elder' HO199.out (Kd.S_base ho0) hb)
        have n3_ := Aside0.mk (Kd.S_lower (Kd.S_new' ho0 (Kd.S_lt HO199.out)) (below_size HB.out))
        have n4_ := Aside0.mk (blk_below BK167.out hb)
        have n5_ := Aside0.mk (blk_below BK172.out hb)
        have n6_ := Aside0.mk (blk_below BK196.out hb)
        have n7_ := Aside0.mk (below_step HB.out hb)
        have z_BK205 := fun (h0_ : b 4 = true) (h1_ : b 6 = false) => (show w88.heap[gb205]? = some (.cells #[.slice none 0 0, .int .i64 0] 46 (0, 0)) from by first | exact (blk_below (Q_BK205 h0_ h1_) hb))
        have z_BK206 := fun (h0_ : b 5 = true) (h1_ : b 7 = false) => (show w88.heap[gb206]? = some (.cells #[.slice none 0 0, .int .i64 0] 46 (0, 0)) from by first | exact (blk_below (Q_BK206 h0_ h1_) hb))
        clear HO171
        clear HO195
        clear HO199
        clear BK167
        clear BK172
        clear BK196
        clear HB
        have HO171 := n0_
        have HO195 := n1_
        have HO199 := n2_
        have HO203 := n3_
        have BK167 := n4_
        have BK172 := n5_
        have BK196 := n6_
        have HB := n7_
        clear n0_ n1_ n2_ n3_ n4_ n5_ n6_ n7_
        (try clear hb)
        (try clear hb2)
        (try clear hk)
        (try clear hi)
        (try clear ho0)
        refine hK.out _ _ ⟨v198, v202, gb205, gb206, m1_, (.agg #[v202, .int .i64 t204]), m4_, m5_, (by rw [ha.out]; exact putSel_upk 3 hb_ rfl rfl rfl), HO171.out, HO195.out, BK167.out, BK172.out, BK196.out, HB.out, Q_NB206_205, Q_NB205_206, fun _ => (by (with_reducible repeat (first | apply Kd.S_alloc | apply Kd.S_drewN | apply Kd.S_drew)); exact Kd.S_mono HO199.out (fun _ hk => by first | exact hk.2 | trivial)), fun _ => (by (with_reducible repeat (first | apply Kd.S_alloc | apply Kd.S_drewN | apply Kd.S_drew)); exact Kd.S_mono HO203.out (fun _ hk => by first | exact hk.2 | trivial)), z_BK205, Q_GW205, Q_GE205, Q_NB167_205, Q_NB205_167, Q_NB172_205, Q_NB205_172, Q_NB196_205, Q_NB205_196, z_BK206, Q_GW206, Q_GE206, Q_NB167_206, Q_NB206_167, Q_NB172_206, Q_NB206_172, Q_NB196_206, Q_NB206_196, fun h0_ => absurd ((hoff 6 (by kernel_rfl)).symm.trans h0_) (by decide), fun h0_ => absurd ((hoff 7 (by kernel_rfl)).symm.trans h0_) (by decide), Q_X1_, fun _ => rfl, Q_X4_, Q_X5_⟩
      refine steps_cons ?_ ?_
      · rintro b a w' ⟨v198, v202, gb205, gb206, m1_, m3_, m4_, m5_, ha, Q_HO171, Q_HO195, Q_BK167, Q_BK172, Q_BK196, Q_HB, Q_NB206_205, Q_NB205_206, Q_HO199, Q_HO203, Q_BK205, Q_GW205, Q_GE205, Q_NB167_205, Q_NB205_167, Q_NB172_205, Q_NB205_172, Q_NB196_205, Q_NB205_196, Q_BK206, Q_GW206, Q_GE206, Q_NB167_206, Q_NB206_167, Q_NB172_206, Q_NB206_172, Q_NB196_206, Q_NB206_196, Q_BK205_e6, Q_BK206_e7, Q_X1_, Q_X3_, Q_X4_, Q_X5_⟩ hb_ hon hoff
        refine ⟨_, rfl, fun K hK => ?_⟩
        replace ha := Aside0.mk ha
        have HO171 := Aside0.mk Q_HO171
        have HO195 := Aside0.mk Q_HO195
        have BK167 := Aside0.mk Q_BK167
        have BK172 := Aside0.mk Q_BK172
        have BK196 := Aside0.mk Q_BK196
        have HB := Aside0.mk Q_HB
        refine box_step ?hg (N := 7) ?hd (cs := #[.slice none 0 0, .int .i64 0]) (t := 46) ?hr ?_; (case hd => rfl); (case hg => rfl); (case hr => first | (go_simp; done) | (go_simp; rfl))
        intro gb205 hg w86 hbox hb
        have n0_ := Aside0.mk (Kd.R_below HO171.out hb)
        have n1_ := Aside0.mk (Kd.R_below HO195.out hb)
        have n2_ := Aside0.mk (blk_below BK167.out hb)
        have n3_ := Aside0.mk (blk_below BK172.out hb)
        have n4_ := Aside0.mk (blk_below BK196.out hb)
        have n5_ := Aside0.mk (below_step HB.out hb)
        have n6_ := Aside0.mk (hbox)
        have n7_ := Aside0.mk ((by rw [hg]; exact (below_size HB.out) : w.heap.size ≤ gb205))
        have n8_ := Aside0.mk ((by rw [hg]; exact (below_size HB.out) : w.heap.size ≤ gb205))
        have n9_ := Aside0.mk ((by rw [hg]; exact Nat.ne_of_lt (blk_lt (g := gb167) (o := .cells #[.int .i64 2, .int .i64 7, .int .i64 3, .int .i64 1] 26 (0, 0)) BK167.out) : gb167 ≠ gb205))
        have n10_ := Aside0.mk ((by rw [hg]; exact Nat.ne_of_gt (blk_lt (g := gb167) (o := .cells #[.int .i64 2, .int .i64 7, .int .i64 3, .int .i64 1] 26 (0, 0)) BK167.out) : gb205 ≠ gb167))
        have n11_ := Aside0.mk ((by rw [hg]; exact Nat.ne_of_lt (blk_lt (g := gb172) (o := .cells #[.int .i64 t168, .slice Ao34 t169.length co34] 31 (0, 0)) BK172.out) : gb172 ≠ gb205))
        have n12_ := Aside0.mk ((by rw [hg]; exact Nat.ne_of_gt (blk_lt (g := gb172) (o := .cells #[.int .i64 t168, .slice Ao34 t169.length co34] 31 (0, 0)) BK172.out) : gb205 ≠ gb172))
        have n13_ := Aside0.mk ((by rw [hg]; exact Nat.ne_of_lt (blk_lt (g := gb196) (o := .cells #[.int .i64 4, .slice Ao76 y193.length co76] 31 (0, 0)) BK196.out) : gb196 ≠ gb205))
        have n14_ := Aside0.mk ((by rw [hg]; exact Nat.ne_of_gt (blk_lt (g := gb196) (o := .cells #[.int .i64 4, .slice Ao76 y193.length co76] 31 (0, 0)) BK196.out) : gb205 ≠ gb196))
        have z_NB206_205 := fun (h0_ : up b 4 4 = true) (h1_ : up b 4 5 = true) => (show gb206 ≠ gb205 from ((by rw [hg]; exact Nat.ne_of_lt (blk_lt (g := gb206) (o := .cells #[.slice none 0 0, .int .i64 0] 46 (0, 0)) (by (with_reducible repeat (first | refine blk_drewN ?_ _ | refine blk_drew ?_ | refine blk_alloc ?_ _)); exact (Q_BK206 h1_ (hoff 7 (by kernel_rfl))))) : gb206 ≠ gb205)))
        have z_NB205_206 := fun (h0_ : up b 4 4 = true) (h1_ : up b 4 5 = true) => (show gb205 ≠ gb206 from ((by rw [hg]; exact Nat.ne_of_gt (blk_lt (g := gb206) (o := .cells #[.slice none 0 0, .int .i64 0] 46 (0, 0)) (by (with_reducible repeat (first | refine blk_drewN ?_ _ | refine blk_drew ?_ | refine blk_alloc ?_ _)); exact (Q_BK206 h1_ (hoff 7 (by kernel_rfl))))) : gb205 ≠ gb206)))
        have z_HO199 := fun (h0_ : b 1 = true) => (show Kd.S (Kd.slice 3 (Kd.int .i64)) 50 w86 w.heap.size (fun _ => True) v198 t197 from by first | exact (Kd.S_below (by (with_reducible repeat (first | apply Kd.S_alloc | apply Kd.S_drewN | apply Kd.S_drew)); exact (Q_HO199 h0_)) hb) | exact Kd.S_mono (Kd.S_below (by (with_reducible repeat (first | apply Kd.S_alloc | apply Kd.S_drewN | apply Kd.S_drew)); exact (Q_HO199 h0_)) hb) (fun _ h_ => by first | trivial | exact h_ | exact h_.1))
        have z_HO203 := fun (h0_ : b 3 = true) => (show Kd.S (Kd.slice 3 (Kd.int .i64)) 50 w86 w.heap.size (fun _ => True) v202 t201 from by first | exact (Kd.S_below (by (with_reducible repeat (first | apply Kd.S_alloc | apply Kd.S_drewN | apply Kd.S_drew)); exact (Q_HO203 h0_)) hb) | exact Kd.S_mono (Kd.S_below (by (with_reducible repeat (first | apply Kd.S_alloc | apply Kd.S_drewN | apply Kd.S_drew)); exact (Q_HO203 h0_)) hb) (fun _ h_ => by first | trivial | exact h_ | exact h_.1))
        have z_BK206 := fun (h0_ : b 5 = true) (h1_ : b 7 = false) => (show w86.heap[gb206]? = some (.cells #[.slice none 0 0, .int .i64 0] 46 (0, 0)) from by first | exact (blk_below (Q_BK206 h0_ h1_) hb))
        clear HO171
        clear HO195
        clear BK167
        clear BK172
        clear BK196
        clear HB
        have HO171 := n0_
        have HO195 := n1_
        have BK167 := n2_
        have BK172 := n3_
        have BK196 := n4_
        have HB := n5_
        have BK205 := n6_
        have GW205 := n7_
        have GE205 := n8_
        have NB167_205 := n9_
        have NB205_167 := n10_
        have NB172_205 := n11_
        have NB205_172 := n12_
        have NB196_205 := n13_
        have NB205_196 := n14_
        clear n0_ n1_ n2_ n3_ n4_ n5_ n6_ n7_ n8_ n9_ n10_ n11_ n12_ n13_ n14_
        clear hb hbox hg
        refine hK.out _ _ ⟨v198, v202, gb205, gb206, m1_, m3_, (.pointer (some ⟨gb205, 0, none⟩)), m5_, (by rw [ha.out]; exact putSel_upk 4 hb_ rfl rfl rfl), HO171.out, HO195.out, BK167.out, BK172.out, BK196.out, HB.out, z_NB206_205, z_NB205_206, z_HO199, z_HO203, fun _ _ => BK205.out, fun _ => GW205.out, fun _ => GE205.out, fun _ => NB167_205.out, fun _ => NB205_167.out, fun _ => NB172_205.out, fun _ => NB205_172.out, fun _ => NB196_205.out, fun _ => NB205_196.out, z_BK206, Q_GW206, Q_GE206, Q_NB167_206, Q_NB206_167, Q_NB172_206, Q_NB206_172, Q_NB196_206, Q_NB206_196, fun h0_ => absurd ((hoff 6 (by kernel_rfl)).symm.trans h0_) (by decide), fun h0_ => absurd ((hoff 7 (by kernel_rfl)).symm.trans h0_) (by decide), Q_X1_, Q_X3_, fun _ => rfl, Q_X5_⟩
      refine steps_cons ?_ ?_
      · rintro b a w' ⟨v198, v202, gb205, gb206, m1_, m3_, m4_, m5_, ha, Q_HO171, Q_HO195, Q_BK167, Q_BK172, Q_BK196, Q_HB, Q_NB206_205, Q_NB205_206, Q_HO199, Q_HO203, Q_BK205, Q_GW205, Q_GE205, Q_NB167_205, Q_NB205_167, Q_NB172_205, Q_NB205_172, Q_NB196_205, Q_NB205_196, Q_BK206, Q_GW206, Q_GE206, Q_NB167_206, Q_NB206_167, Q_NB172_206, Q_NB206_172, Q_NB196_206, Q_NB206_196, Q_BK205_e6, Q_BK206_e7, Q_X1_, Q_X3_, Q_X4_, Q_X5_⟩ hb_ hon hoff
        refine ⟨_, rfl, fun K hK => ?_⟩
        replace ha := Aside0.mk ha
        have HO171 := Aside0.mk Q_HO171
        have HO195 := Aside0.mk Q_HO195
        have BK167 := Aside0.mk Q_BK167
        have BK172 := Aside0.mk Q_BK172
        have BK196 := Aside0.mk Q_BK196
        have HB := Aside0.mk Q_HB
        refine box_step ?hg (N := 8) ?hd (cs := #[.slice none 0 0, .int .i64 0]) (t := 46) ?hr ?_; (case hd => rfl); (case hg => rfl); (case hr => first | (go_simp; done) | (go_simp; rfl))
        intro gb206 hg w86 hbox hb
        have n0_ := Aside0.mk (Kd.R_below HO171.out hb)
        have n1_ := Aside0.mk (Kd.R_below HO195.out hb)
        have n2_ := Aside0.mk (blk_below BK167.out hb)
        have n3_ := Aside0.mk (blk_below BK172.out hb)
        have n4_ := Aside0.mk (blk_below BK196.out hb)
        have n5_ := Aside0.mk (below_step HB.out hb)
        have n6_ := Aside0.mk (hbox)
        have n7_ := Aside0.mk ((by rw [hg]; exact (below_size HB.out) : w.heap.size ≤ gb206))
        have n8_ := Aside0.mk ((by rw [hg]; exact (below_size HB.out) : w.heap.size ≤ gb206))
        have n9_ := Aside0.mk ((by rw [hg]; exact Nat.ne_of_lt (blk_lt (g := gb167) (o := .cells #[.int .i64 2, .int .i64 7, .int .i64 3, .int .i64 1] 26 (0, 0)) BK167.out) : gb167 ≠ gb206))
        have n10_ := Aside0.mk ((by rw [hg]; exact Nat.ne_of_gt (blk_lt (g := gb167) (o := .cells #[.int .i64 2, .int .i64 7, .int .i64 3, .int .i64 1] 26 (0, 0)) BK167.out) : gb206 ≠ gb167))
        have n11_ := Aside0.mk ((by rw [hg]; exact Nat.ne_of_lt (blk_lt (g := gb172) (o := .cells #[.int .i64 t168, .slice Ao34 t169.length co34] 31 (0, 0)) BK172.out) : gb172 ≠ gb206))
        have n12_ := Aside0.mk ((by rw [hg]; exact Nat.ne_of_gt (blk_lt (g := gb172) (o := .cells #[.int .i64 t168, .slice Ao34 t169.length co34] 31 (0, 0)) BK172.out) : gb206 ≠ gb172))
        have n13_ := Aside0.mk ((by rw [hg]; exact Nat.ne_of_lt (blk_lt (g := gb196) (o := .cells #[.int .i64 4, .slice Ao76 y193.length co76] 31 (0, 0)) BK196.out) : gb196 ≠ gb206))
        have n14_ := Aside0.mk ((by rw [hg]; exact Nat.ne_of_gt (blk_lt (g := gb196) (o := .cells #[.int .i64 4, .slice Ao76 y193.length co76] 31 (0, 0)) BK196.out) : gb206 ≠ gb196))
        have z_NB206_205 := fun (h0_ : up b 5 4 = true) (h1_ : up b 5 5 = true) => (show gb206 ≠ gb205 from ((by rw [hg]; exact Nat.ne_of_gt (blk_lt (g := gb205) (o := .cells #[.slice none 0 0, .int .i64 0] 46 (0, 0)) (by (with_reducible repeat (first | refine blk_drewN ?_ _ | refine blk_drew ?_ | refine blk_alloc ?_ _)); exact (Q_BK205 h0_ (hoff 6 (by kernel_rfl))))) : gb206 ≠ gb205)))
        have z_NB205_206 := fun (h0_ : up b 5 4 = true) (h1_ : up b 5 5 = true) => (show gb205 ≠ gb206 from ((by rw [hg]; exact Nat.ne_of_lt (blk_lt (g := gb205) (o := .cells #[.slice none 0 0, .int .i64 0] 46 (0, 0)) (by (with_reducible repeat (first | refine blk_drewN ?_ _ | refine blk_drew ?_ | refine blk_alloc ?_ _)); exact (Q_BK205 h0_ (hoff 6 (by kernel_rfl))))) : gb205 ≠ gb206)))
        have z_HO199 := fun (h0_ : b 1 = true) => (show Kd.S (Kd.slice 3 (Kd.int .i64)) 50 w86 w.heap.size (fun _ => True) v198 t197 from by first | exact (Kd.S_below (by (with_reducible repeat (first | apply Kd.S_alloc | apply Kd.S_drewN | apply Kd.S_drew)); exact (Q_HO199 h0_)) hb) | exact Kd.S_mono (Kd.S_below (by (with_reducible repeat (first | apply Kd.S_alloc | apply Kd.S_drewN | apply Kd.S_drew)); exact (Q_HO199 h0_)) hb) (fun _ h_ => by first | trivial | exact h_ | exact h_.1))
        have z_HO203 := fun (h0_ : b 3 = true) => (show Kd.S (Kd.slice 3 (Kd.int .i64)) 50 w86 w.heap.size (fun _ => True) v202 t201 from by first | exact (Kd.S_below (by (with_reducible repeat (first | apply Kd.S_alloc | apply Kd.S_drewN | apply Kd.S_drew)); exact (Q_HO203 h0_)) hb) | exact Kd.S_mono (Kd.S_below (by (with_reducible repeat (first | apply Kd.S_alloc | apply Kd.S_drewN | apply Kd.S_drew)); exact (Q_HO203 h0_)) hb) (fun _ h_ => by first | trivial | exact h_ | exact h_.1))
        have z_BK205 := fun (h0_ : b 4 = true) (h1_ : b 6 = false) => (show w86.heap[gb205]? = some (.cells #[.slice none 0 0, .int .i64 0] 46 (0, 0)) from by first | exact (blk_below (Q_BK205 h0_ h1_) hb))
        clear HO171
        clear HO195
        clear BK167
        clear BK172
        clear BK196
        clear HB
        have HO171 := n0_
        have HO195 := n1_
        have BK167 := n2_
        have BK172 := n3_
        have BK196 := n4_
        have HB := n5_
        have BK206 := n6_
        have GW206 := n7_
        have GE206 := n8_
        have NB167_206 := n9_
        have NB206_167 := n10_
        have NB172_206 := n11_
        have NB206_172 := n12_
        have NB196_206 := n13_
        have NB206_196 := n14_
        clear n0_ n1_ n2_ n3_ n4_ n5_ n6_ n7_ n8_ n9_ n10_ n11_ n12_ n13_ n14_
        clear hb hbox hg
        refine hK.out _ _ ⟨v198, v202, gb205, gb206, m1_, m3_, m4_, (.pointer (some ⟨gb206, 0, none⟩)), (by rw [ha.out]; exact putSel_upk 5 hb_ rfl rfl rfl), HO171.out, HO195.out, BK167.out, BK172.out, BK196.out, HB.out, z_NB206_205, z_NB205_206, z_HO199, z_HO203, z_BK205, Q_GW205, Q_GE205, Q_NB167_205, Q_NB205_167, Q_NB172_205, Q_NB205_172, Q_NB196_205, Q_NB205_196, fun _ _ => BK206.out, fun _ => GW206.out, fun _ => GE206.out, fun _ => NB167_206.out, fun _ => NB206_167.out, fun _ => NB172_206.out, fun _ => NB206_172.out, fun _ => NB196_206.out, fun _ => NB206_196.out, fun h0_ => absurd ((hoff 6 (by kernel_rfl)).symm.trans h0_) (by decide), fun h0_ => absurd ((hoff 7 (by kernel_rfl)).symm.trans h0_) (by decide), Q_X1_, Q_X3_, Q_X4_, fun _ => rfl⟩
      refine steps_cons ?_ ?_
      · rintro b a w' ⟨v198, v202, gb205, gb206, m1_, m3_, m4_, m5_, ha, Q_HO171, Q_HO195, Q_BK167, Q_BK172, Q_BK196, Q_HB, Q_NB206_205, Q_NB205_206, Q_HO199, Q_HO203, Q_BK205, Q_GW205, Q_GE205, Q_NB167_205, Q_NB205_167, Q_NB172_205, Q_NB205_172, Q_NB196_205, Q_NB205_196, Q_BK206, Q_GW206, Q_GE206, Q_NB167_206, Q_NB206_167, Q_NB172_206, Q_NB206_172, Q_NB196_206, Q_NB206_196, Q_BK205_e6, Q_BK206_e7, Q_X1_, Q_X3_, Q_X4_, Q_X5_⟩ hb_ hon hoff
        refine ⟨_, rfl, fun K hK => ?_⟩
        have e7 : a.tmps[7]? = some (m4_) := by rw [ha]; exact putSel_on (e := (4, 7, m4_)) 4 rfl rfl (hon 4 (by kernel_rfl)) rfl
        rw [Q_X4_ (hon 4 (by kernel_rfl))] at e7
        have e59 : a.tmps[59]? = some (m1_) := by rw [ha]; exact putSel_on (e := (1, 59, m1_)) 1 rfl rfl (hon 1 (by kernel_rfl)) rfl
        rw [Q_X1_ (hon 1 (by kernel_rfl))] at e59
        replace ha := Aside0.mk ha
        have HO171 := Aside0.mk Q_HO171
        have HO195 := Aside0.mk Q_HO195
        have BK167 := Aside0.mk Q_BK167
        have BK172 := Aside0.mk Q_BK172
        have BK196 := Aside0.mk Q_BK196
        have HB := Aside0.mk Q_HB
        have NB206_205 := Aside0.mk (Q_NB206_205 (hon 4 (by kernel_rfl)) (hon 5 (by kernel_rfl)))
        have NB205_206 := Aside0.mk (Q_NB205_206 (hon 4 (by kernel_rfl)) (hon 5 (by kernel_rfl)))
        have HO199 := Aside0.mk (Q_HO199 (hon 1 (by kernel_rfl)))
        have HO203 := Aside0.mk (Q_HO203 (hon 3 (by kernel_rfl)))
        have BK205 := Aside0.mk (Q_BK205 (hon 4 (by kernel_rfl)) hb_)
        have GW205 := Aside0.mk (Q_GW205 (hon 4 (by kernel_rfl)))
        have GE205 := Aside0.mk (Q_GE205 (hon 4 (by kernel_rfl)))
        have NB167_205 := Aside0.mk (Q_NB167_205 (hon 4 (by kernel_rfl)))
        have NB205_167 := Aside0.mk (Q_NB205_167 (hon 4 (by kernel_rfl)))
        have NB172_205 := Aside0.mk (Q_NB172_205 (hon 4 (by kernel_rfl)))
        have NB205_172 := Aside0.mk (Q_NB205_172 (hon 4 (by kernel_rfl)))
        have NB196_205 := Aside0.mk (Q_NB196_205 (hon 4 (by kernel_rfl)))
        have NB205_196 := Aside0.mk (Q_NB205_196 (hon 4 (by kernel_rfl)))
        have BK206 := Aside0.mk (Q_BK206 (hon 5 (by kernel_rfl)) (hoff 7 (by kernel_rfl)))
        have GW206 := Aside0.mk (Q_GW206 (hon 5 (by kernel_rfl)))
        have GE206 := Aside0.mk (Q_GE206 (hon 5 (by kernel_rfl)))
        have NB167_206 := Aside0.mk (Q_NB167_206 (hon 5 (by kernel_rfl)))
        have NB206_167 := Aside0.mk (Q_NB206_167 (hon 5 (by kernel_rfl)))
        have NB172_206 := Aside0.mk (Q_NB172_206 (hon 5 (by kernel_rfl)))
        have NB206_172 := Aside0.mk (Q_NB206_172 (hon 5 (by kernel_rfl)))
        have NB196_206 := Aside0.mk (Q_NB196_206 (hon 5 (by kernel_rfl)))
        have NB206_196 := Aside0.mk (Q_NB206_196 (hon 5 (by kernel_rfl)))
        obtain ⟨Ao91, co91, eo91⟩ := Kd.S_slice HO199.out
        (first | subst eo91 | (injection eo91 with f1_ f2_ f3_; have f4_ := f1_.symm; have f5_ := f3_.symm; clear f1_ f2_ f3_; subst f4_; subst f5_))
        have hs92 : w'.cell? ⟨gb205, 0, none⟩ = some (.slice none 0 0) := (blk_cell BK205.out 0).trans rfl
        have hfs92 := blk_frozen BK205.out 0
        have hns92_0 := NB167_205.out
        have hns92_1 := NB172_205.out
        have hns92_2 := NB196_205.out
        have hns92_4 := NB206_205.out
        have hms92_0 := NB205_167.out
        have hms92_1 := NB205_172.out
        have hms92_2 := NB205_196.out
        have hms92_4 := NB205_206.out
        have hs93 : w'.cell? ⟨gb205, 1, none⟩ = some (.int .i64 0) := (blk_cell BK205.out 1).trans rfl
        have hfs93 := blk_frozen BK205.out 1
        have hns93_0 := NB167_205.out
        have hns93_1 := NB172_205.out
        have hns93_2 := NB196_205.out
        have hns93_4 := NB206_205.out
        have hms93_0 := NB205_167.out
        have hms93_1 := NB205_172.out
        have hms93_2 := NB205_196.out
        have hms93_4 := NB205_206.out
        refine skip_ (w1 := ?_) (by rfl) rfl ?_ ?_
        rotate_left
        · go_simp
          rfl
        refine hK.out _ _ ⟨.slice Ao91 t197.length co91, v202, gb205, gb206, m1_, m3_, m4_, m5_, (by rw [ha.out]; exact putSel_none (v := undef) rfl), (by (with_reducible repeat (first | apply Kd.R_alloc | apply Kd.R_drewN | apply Kd.R_drew)); exact Kd.R_mono (Kd.R_far (p := ⟨gb205, 1, none⟩) (Kd.R_far (p := ⟨gb205, 0, none⟩) (Kd.R_types HO171.out BK205.out (by decide)) (fun _ hk => hk.2) (.slice Ao91 t197.length co91)) (fun _ hk => hk.2) (.int .i64 t200)) (fun _ hk => hk.1)), (by (with_reducible repeat (first | apply Kd.R_alloc | apply Kd.R_drewN | apply Kd.R_drew)); exact Kd.R_mono (Kd.R_far (p := ⟨gb205, 1, none⟩) (Kd.R_far (p := ⟨gb205, 0, none⟩) (Kd.R_types HO195.out BK205.out (by decide)) (fun _ hk => hk.2) (.slice Ao91 t197.length co91)) (fun _ hk => hk.2) (.int .i64 t200)) (fun _ hk => hk.1)), (by (with_reducible repeat (first | refine blk_drewN ?_ _ | refine blk_drew ?_ | refine blk_alloc ?_ _)); refine blk_far ?_ NB167_205.out _; (with_reducible repeat (first | refine blk_drewN ?_ _ | refine blk_drew ?_ | refine blk_alloc ?_ _)); refine blk_far ?_ NB167_205.out _; (with_reducible repeat (first | refine blk_drewN ?_ _ | refine blk_drew ?_ | refine blk_alloc ?_ _)); exact BK167.out), (by (with_reducible repeat (first | refine blk_drewN ?_ _ | refine blk_drew ?_ | refine blk_alloc ?_ _)); refine blk_far ?_ NB172_205.out _; (with_reducible repeat (first | refine blk_drewN ?_ _ | refine blk_drew ?_ | refine blk_alloc ?_ _)); refine blk_far ?_ NB172_205.out _; (with_reducible repeat (first | refine blk_drewN ?_ _ | refine blk_drew ?_ | refine blk_alloc ?_ _)); exact BK172.out), (by (with_reducible repeat (first | refine blk_drewN ?_ _ | refine blk_drew ?_ | refine blk_alloc ?_ _)); refine blk_far ?_ NB196_205.out _; (with_reducible repeat (first | refine blk_drewN ?_ _ | refine blk_drew ?_ | refine blk_alloc ?_ _)); refine blk_far ?_ NB196_205.out _; (with_reducible repeat (first | refine blk_drewN ?_ _ | refine blk_drew ?_ | refine blk_alloc ?_ _)); exact BK196.out), (by repeat (first | (with_reducible first | exact HB.out | apply below_alloc | apply pw_below_drewN | apply below_drew1 | refine below_set ?_ GE167.out | refine below_set ?_ GE172.out | refine below_set ?_ GE196.out | refine below_set ?_ GE205.out | refine below_set ?_ GE206.out) | exact HB.out)), fun _ _ => NB206_205.out, fun _ _ => NB205_206.out, fun _ => (by (with_reducible repeat (first | apply Kd.S_alloc | apply Kd.S_drewN | apply Kd.S_drew)); exact Kd.S_mono (Kd.S_far (p := ⟨gb205, 1, none⟩) (Kd.S_far (p := ⟨gb205, 0, none⟩) (Kd.S_types HO199.out BK205.out (by decide)) (fun _ hk => hk.2) (.slice Ao91 t197.length co91)) (fun _ hk => hk.2) (.int .i64 t200)) (fun _ hk => hk.1)), fun _ => (by (with_reducible repeat (first | apply Kd.S_alloc | apply Kd.S_drewN | apply Kd.S_drew)); exact Kd.S_mono (Kd.S_far (p := ⟨gb205, 1, none⟩) (Kd.S_far (p := ⟨gb205, 0, none⟩) (Kd.S_types HO203.out BK205.out (by decide)) (fun _ hk => hk.2) (.slice Ao91 t197.length co91)) (fun _ hk => hk.2) (.int .i64 t200)) (fun _ hk => hk.1)), fun _ h1_ => absurd ((up_self b 6).symm.trans h1_) (by decide), fun _ => GW205.out, fun _ => GE205.out, fun _ => NB167_205.out, fun _ => NB205_167.out, fun _ => NB172_205.out, fun _ => NB205_172.out, fun _ => NB196_205.out, fun _ => NB205_196.out, fun _ _ => (by (with_reducible repeat (first | refine blk_drewN ?_ _ | refine blk_drew ?_ | refine blk_alloc ?_ _)); refine blk_far ?_ NB206_205.out _; (with_reducible repeat (first | refine blk_drewN ?_ _ | refine blk_drew ?_ | refine blk_alloc ?_ _)); refine blk_far ?_ NB206_205.out _; (with_reducible repeat (first | refine blk_drewN ?_ _ | refine blk_drew ?_ | refine blk_alloc ?_ _)); exact BK206.out), fun _ => GW206.out, fun _ => GE206.out, fun _ => NB167_206.out, fun _ => NB206_167.out, fun _ => NB172_206.out, fun _ => NB206_172.out, fun _ => NB196_206.out, fun _ => NB206_196.out, fun _ => (by (with_reducible repeat (first | refine blk_drewN ?_ _ | refine blk_drew ?_ | refine blk_alloc ?_ _)); refine blk_put (cs := #[.slice Ao91 t197.length co91, .int .i64 0]) ?_ 1 _ rfl; (with_reducible repeat (first | refine blk_drewN ?_ _ | refine blk_drew ?_ | refine blk_alloc ?_ _)); refine blk_put (cs := #[.slice none 0 0, .int .i64 0]) ?_ 0 _ rfl; (with_reducible repeat (first | refine blk_drewN ?_ _ | refine blk_drew ?_ | refine blk_alloc ?_ _)); exact BK205.out), fun h0_ => absurd ((hoff 7 (by kernel_rfl)).symm.trans h0_) (by decide), Q_X1_, Q_X3_, Q_X4_, Q_X5_⟩
      refine steps_cons ?_ ?_
      · rintro b a w' ⟨v198, v202, gb205, gb206, m1_, m3_, m4_, m5_, ha, Q_HO171, Q_HO195, Q_BK167, Q_BK172, Q_BK196, Q_HB, Q_NB206_205, Q_NB205_206, Q_HO199, Q_HO203, Q_BK205, Q_GW205, Q_GE205, Q_NB167_205, Q_NB205_167, Q_NB172_205, Q_NB205_172, Q_NB196_205, Q_NB205_196, Q_BK206, Q_GW206, Q_GE206, Q_NB167_206, Q_NB206_167, Q_NB172_206, Q_NB206_172, Q_NB196_206, Q_NB206_196, Q_BK205_e6, Q_BK206_e7, Q_X1_, Q_X3_, Q_X4_, Q_X5_⟩ hb_ hon hoff
        refine ⟨_, rfl, fun K hK => ?_⟩
        have e8 : a.tmps[8]? = some (m5_) := by rw [ha]; exact putSel_on (e := (5, 8, m5_)) 5 rfl rfl (hon 5 (by kernel_rfl)) rfl
        rw [Q_X5_ (hon 5 (by kernel_rfl))] at e8
        have e61 : a.tmps[61]? = some (m3_) := by rw [ha]; exact putSel_on (e := (3, 61, m3_)) 3 rfl rfl (hon 3 (by kernel_rfl)) rfl
        rw [Q_X3_ (hon 3 (by kernel_rfl))] at e61
        replace ha := Aside0.mk ha
        have HO171 := Aside0.mk Q_HO171
        have HO195 := Aside0.mk Q_HO195
        have BK167 := Aside0.mk Q_BK167
        have BK172 := Aside0.mk Q_BK172
        have BK196 := Aside0.mk Q_BK196
        have HB := Aside0.mk Q_HB
        have NB206_205 := Aside0.mk (Q_NB206_205 (hon 4 (by kernel_rfl)) (hon 5 (by kernel_rfl)))
        have NB205_206 := Aside0.mk (Q_NB205_206 (hon 4 (by kernel_rfl)) (hon 5 (by kernel_rfl)))
        have HO199 := Aside0.mk (Q_HO199 (hon 1 (by kernel_rfl)))
        have HO203 := Aside0.mk (Q_HO203 (hon 3 (by kernel_rfl)))
        have GW205 := Aside0.mk (Q_GW205 (hon 4 (by kernel_rfl)))
        have GE205 := Aside0.mk (Q_GE205 (hon 4 (by kernel_rfl)))
        have NB167_205 := Aside0.mk (Q_NB167_205 (hon 4 (by kernel_rfl)))
        have NB205_167 := Aside0.mk (Q_NB205_167 (hon 4 (by kernel_rfl)))
        have NB172_205 := Aside0.mk (Q_NB172_205 (hon 4 (by kernel_rfl)))
        have NB205_172 := Aside0.mk (Q_NB205_172 (hon 4 (by kernel_rfl)))
        have NB196_205 := Aside0.mk (Q_NB196_205 (hon 4 (by kernel_rfl)))
        have NB205_196 := Aside0.mk (Q_NB205_196 (hon 4 (by kernel_rfl)))
        have BK206 := Aside0.mk (Q_BK206 (hon 5 (by kernel_rfl)) hb_)
        have GW206 := Aside0.mk (Q_GW206 (hon 5 (by kernel_rfl)))
        have GE206 := Aside0.mk (Q_GE206 (hon 5 (by kernel_rfl)))
        have NB167_206 := Aside0.mk (Q_NB167_206 (hon 5 (by kernel_rfl)))
        have NB206_167 := Aside0.mk (Q_NB206_167 (hon 5 (by kernel_rfl)))
        have NB172_206 := Aside0.mk (Q_NB172_206 (hon 5 (by kernel_rfl)))
        have NB206_172 := Aside0.mk (Q_NB206_172 (hon 5 (by kernel_rfl)))
        have NB196_206 := Aside0.mk (Q_NB196_206 (hon 5 (by kernel_rfl)))
        have NB206_196 := Aside0.mk (Q_NB206_196 (hon 5 (by kernel_rfl)))
        have BK205 := Aside0.mk (Q_BK205_e6 (hon 6 (by kernel_rfl)))
        obtain ⟨Ao94, co94, eo94⟩ := Kd.S_slice HO203.out
        (first | subst eo94 | (injection eo94 with f1_ f2_ f3_; have f4_ := f1_.symm; have f5_ := f3_.symm; clear f1_ f2_ f3_; subst f4_; subst f5_))
        have hs95 : w'.cell? ⟨gb206, 0, none⟩ = some (.slice none 0 0) := (blk_cell BK206.out 0).trans rfl
        have hfs95 := blk_frozen BK206.out 0
        have hns95_0 := NB167_206.out
        have hns95_1 := NB172_206.out
        have hns95_2 := NB196_206.out
        have hns95_3 := NB205_206.out
        have hms95_0 := NB206_167.out
        have hms95_1 := NB206_172.out
        have hms95_2 := NB206_196.out
        have hms95_3 := NB206_205.out
        have hs96 : w'.cell? ⟨gb206, 1, none⟩ = some (.int .i64 0) := (blk_cell BK206.out 1).trans rfl
        have hfs96 := blk_frozen BK206.out 1
        have hns96_0 := NB167_206.out
        have hns96_1 := NB172_206.out
        have hns96_2 := NB196_206.out
        have hns96_3 := NB205_206.out
        have hms96_0 := NB206_167.out
        have hms96_1 := NB206_172.out
        have hms96_2 := NB206_196.out
        have hms96_3 := NB206_205.out
        refine skip_ (w1 := ?_) (by rfl) rfl ?_ ?_
        rotate_left
        · go_simp
          rfl
        refine hK.out _ _ ⟨v198, .slice Ao94 t201.length co94, gb205, gb206, m1_, m3_, m4_, m5_, (by rw [ha.out]; exact putSel_none (v := undef) rfl), (by (with_reducible repeat (first | apply Kd.R_alloc | apply Kd.R_drewN | apply Kd.R_drew)); exact Kd.R_mono (Kd.R_far (p := ⟨gb206, 1, none⟩) (Kd.R_far (p := ⟨gb206, 0, none⟩) (Kd.R_types HO171.out BK206.out (by decide)) (fun _ hk => hk.2) (.slice Ao94 t201.length co94)) (fun _ hk => hk.2) (.int .i64 t204)) (fun _ hk => hk.1)), (by (with_reducible repeat (first | apply Kd.R_alloc | apply Kd.R_drewN | apply Kd.R_drew)); exact Kd.R_mono (Kd.R_far (p := ⟨gb206, 1, none⟩) (Kd.R_far (p := ⟨gb206, 0, none⟩) (Kd.R_types HO195.out BK206.out (by decide)) (fun _ hk => hk.2) (.slice Ao94 t201.length co94)) (fun _ hk => hk.2) (.int .i64 t204)) (fun _ hk => hk.1)), (by (with_reducible repeat (first | refine blk_drewN ?_ _ | refine blk_drew ?_ | refine blk_alloc ?_ _)); refine blk_far ?_ NB167_206.out _; (with_reducible repeat (first | refine blk_drewN ?_ _ | refine blk_drew ?_ | refine blk_alloc ?_ _)); refine blk_far ?_ NB167_206.out _; (with_reducible repeat (first | refine blk_drewN ?_ _ | refine blk_drew ?_ | refine blk_alloc ?_ _)); exact BK167.out), (by (with_reducible repeat (first | refine blk_drewN ?_ _ | refine blk_drew ?_ | refine blk_alloc ?_ _)); refine blk_far ?_ NB172_206.out _; (with_reducible repeat (first | refine blk_drewN ?_ _ | refine blk_drew ?_ | refine blk_alloc ?_ _)); refine blk_far ?_ NB172_206.out _; (with_reducible repeat (first | refine blk_drewN ?_ _ | refine blk_drew ?_ | refine blk_alloc ?_ _)); exact BK172.out), (by (with_reducible repeat (first | refine blk_drewN ?_ _ | refine blk_drew ?_ | refine blk_alloc ?_ _)); refine blk_far ?_ NB196_206.out _; (with_reducible repeat (first | refine blk_drewN ?_ _ | refine blk_drew ?_ | refine blk_alloc ?_ _)); refine blk_far ?_ NB196_206.out _; (with_reducible repeat (first | refine blk_drewN ?_ _ | refine blk_drew ?_ | refine blk_alloc ?_ _)); exact BK196.out), (by repeat (first | (with_reducible first | exact HB.out | apply below_alloc | apply pw_below_drewN | apply below_drew1 | refine below_set ?_ GE167.out | refine below_set ?_ GE172.out | refine below_set ?_ GE196.out | refine below_set ?_ GE205.out | refine below_set ?_ GE206.out) | exact HB.out)), fun _ _ => NB206_205.out, fun _ _ => NB205_206.out, fun _ => (by (with_reducible repeat (first | apply Kd.S_alloc | apply Kd.S_drewN | apply Kd.S_drew)); exact Kd.S_mono (Kd.S_far (p := ⟨gb206, 1, none⟩) (Kd.S_far (p := ⟨gb206, 0, none⟩) (Kd.S_types HO199.out BK206.out (by decide)) (fun _ hk => hk.2) (.slice Ao94 t201.length co94)) (fun _ hk => hk.2) (.int .i64 t204)) (fun _ hk => hk.1)), fun _ => (by (with_reducible repeat (first | apply Kd.S_alloc | apply Kd.S_drewN | apply Kd.S_drew)); exact Kd.S_mono (Kd.S_far (p := ⟨gb206, 1, none⟩) (Kd.S_far (p := ⟨gb206, 0, none⟩) (Kd.S_types HO203.out BK206.out (by decide)) (fun _ hk => hk.2) (.slice Ao94 t201.length co94)) (fun _ hk => hk.2) (.int .i64 t204)) (fun _ hk => hk.1)), fun _ h1_ => absurd ((hon 6 (by kernel_rfl)).symm.trans h1_) (by decide), fun _ => GW205.out, fun _ => GE205.out, fun _ => NB167_205.out, fun _ => NB205_167.out, fun _ => NB172_205.out, fun _ => NB205_172.out, fun _ => NB196_205.out, fun _ => NB205_196.out, fun _ h1_ => absurd ((up_self b 7).symm.trans h1_) (by decide), fun _ => GW206.out, fun _ => GE206.out, fun _ => NB167_206.out, fun _ => NB206_167.out, fun _ => NB172_206.out, fun _ => NB206_172.out, fun _ => NB196_206.out, fun _ => NB206_196.out, fun _ => (by (with_reducible repeat (first | refine blk_drewN ?_ _ | refine blk_drew ?_ | refine blk_alloc ?_ _)); refine blk_far ?_ NB205_206.out _; (with_reducible repeat (first | refine blk_drewN ?_ _ | refine blk_drew ?_ | refine blk_alloc ?_ _)); refine blk_far ?_ NB205_206.out _; (with_reducible repeat (first | refine blk_drewN ?_ _ | refine blk_drew ?_ | refine blk_alloc ?_ _)); exact BK205.out), fun _ => (by (with_reducible repeat (first | refine blk_drewN ?_ _ | refine blk_drew ?_ | refine blk_alloc ?_ _)); refine blk_put (cs := #[.slice Ao94 t201.length co94, .int .i64 0]) ?_ 1 _ rfl; (with_reducible repeat (first | refine blk_drewN ?_ _ | refine blk_drew ?_ | refine blk_alloc ?_ _)); refine blk_put (cs := #[.slice none 0 0, .int .i64 0]) ?_ 0 _ rfl; (with_reducible repeat (first | refine blk_drewN ?_ _ | refine blk_drew ?_ | refine blk_alloc ?_ _)); exact BK206.out), Q_X1_, Q_X3_, Q_X4_, Q_X5_⟩
      exact steps_nil
    rintro b a w96 hall ⟨v198, v202, gb205, gb206, m1_, m3_, m4_, m5_, ha, Q_HO171, Q_HO195, Q_BK167, Q_BK172, Q_BK196, Q_HB, Q_NB206_205, Q_NB205_206, Q_HO199, Q_HO203, Q_BK205, Q_GW205, Q_GE205, Q_NB167_205, Q_NB205_167, Q_NB172_205, Q_NB205_172, Q_NB196_205, Q_NB205_196, Q_BK206, Q_GW206, Q_GE206, Q_NB167_206, Q_NB206_167, Q_NB172_206, Q_NB206_172, Q_NB196_206, Q_NB206_196, Q_BK205_e6, Q_BK206_e7, Q_X1_, Q_X3_, Q_X4_, Q_X5_⟩
    clear BK167 BK172 BK196 HB HO171 HO195
    have hb0_ := hall 0 (by kernel_rfl)
    have hb1_ := hall 1 (by kernel_rfl)
    have hb2_ := hall 2 (by kernel_rfl)
    have hb3_ := hall 3 (by kernel_rfl)
    have hb4_ := hall 4 (by kernel_rfl)
    have hb5_ := hall 5 (by kernel_rfl)
    have hb6_ := hall 6 (by kernel_rfl)
    have hb7_ := hall 7 (by kernel_rfl)
    subst ha
    obtain rfl := Q_X1_ hb1_
    obtain rfl := Q_X3_ hb3_
    obtain rfl := Q_X4_ hb4_
    obtain rfl := Q_X5_ hb5_
    simp only [putSel, hb0_, hb1_, hb2_, hb3_, hb4_, hb5_, hb6_, hb7_, if_true, Act.put, List.setIfInBounds_toArray, List.set_cons_zero, List.set_cons_succ]
    have HO171 := Aside0.mk Q_HO171
    clear Q_HO171
    have HO195 := Aside0.mk Q_HO195
    clear Q_HO195
    have BK167 := Aside0.mk Q_BK167
    clear Q_BK167
    have BK172 := Aside0.mk Q_BK172
    clear Q_BK172
    have BK196 := Aside0.mk Q_BK196
    clear Q_BK196
    have HB := Aside0.mk Q_HB
    clear Q_HB
    have NB206_205 := Aside0.mk (Q_NB206_205 hb4_ hb5_)
    clear Q_NB206_205
    have NB205_206 := Aside0.mk (Q_NB205_206 hb4_ hb5_)
    clear Q_NB205_206
    have HO199 := Aside0.mk (Q_HO199 hb1_)
    clear Q_HO199
    have HO203 := Aside0.mk (Q_HO203 hb3_)
    clear Q_HO203
    clear Q_BK205
    have GW205 := Aside0.mk (Q_GW205 hb4_)
    clear Q_GW205
    have GE205 := Aside0.mk (Q_GE205 hb4_)
    clear Q_GE205
    have NB167_205 := Aside0.mk (Q_NB167_205 hb4_)
    clear Q_NB167_205
    have NB205_167 := Aside0.mk (Q_NB205_167 hb4_)
    clear Q_NB205_167
    have NB172_205 := Aside0.mk (Q_NB172_205 hb4_)
    clear Q_NB172_205
    have NB205_172 := Aside0.mk (Q_NB205_172 hb4_)
    clear Q_NB205_172
    have NB196_205 := Aside0.mk (Q_NB196_205 hb4_)
    clear Q_NB196_205
    have NB205_196 := Aside0.mk (Q_NB205_196 hb4_)
    clear Q_NB205_196
    clear Q_BK206
    have GW206 := Aside0.mk (Q_GW206 hb5_)
    clear Q_GW206
    have GE206 := Aside0.mk (Q_GE206 hb5_)
    clear Q_GE206
    have NB167_206 := Aside0.mk (Q_NB167_206 hb5_)
    clear Q_NB167_206
    have NB206_167 := Aside0.mk (Q_NB206_167 hb5_)
    clear Q_NB206_167
    have NB172_206 := Aside0.mk (Q_NB172_206 hb5_)
    clear Q_NB172_206
    have NB206_172 := Aside0.mk (Q_NB206_172 hb5_)
    clear Q_NB206_172
    have NB196_206 := Aside0.mk (Q_NB196_206 hb5_)
    clear Q_NB196_206
    have NB206_196 := Aside0.mk (Q_NB206_196 hb5_)
    clear Q_NB206_196
    have BK205 := Aside0.mk (Q_BK205_e6 hb6_)
    clear Q_BK205_e6
    have BK206 := Aside0.mk (Q_BK206_e7 hb7_)
    clear Q_BK206_e7
    clear hall hb0_ hb1_ hb2_ hb3_ hb4_ hb5_ hb6_ hb7_
    obtain ⟨Ao97, co97, eo97⟩ := Kd.S_slice HO199.out
    subst eo97
    try go_wp2
    have n0_ := Aside0.mk (Kd.R_drew HO171.out)
    have n1_ := Aside0.mk (Kd.R_drew HO195.out)
    have n2_ := Aside0.mk (Kd.S_drew HO199.out)
    have n3_ := Aside0.mk (Kd.S_drew HO203.out)
    have n4_ := Aside0.mk (blk_drew BK167.out)
    have n5_ := Aside0.mk (blk_drew BK172.out)
    have n6_ := Aside0.mk (blk_drew BK196.out)
    have n7_ := Aside0.mk (blk_drew BK205.out)
    have n8_ := Aside0.mk (blk_drew BK206.out)
    have n9_ := Aside0.mk (below_drew1 HB.out)
    clear HO171
    clear HO195
    clear HO199
    clear HO203
    clear BK167
    clear BK172
    clear BK196
    clear BK205
    clear BK206
    clear HB
    have HO171 := n0_
    have HO195 := n1_
    have HO199 := n2_
    have HO203 := n3_
    have BK167 := n4_
    have BK172 := n5_
    have BK196 := n6_
    have BK205 := n7_
    have BK206 := n8_
    have HB := n9_
    clear n0_ n1_ n2_ n3_ n4_ n5_ n6_ n7_ n8_ n9_
    have q117 : (1 : Int) ≤ ((t197.length : Int) : Int) := of_decide_eq_true (by first | (with_reducible assumption) | assumption)
    obtain ⟨i0117, hi0117, _, hsz117, _⟩ := info_parts info50
    have hcut117 := cut_from (P := Tryd.prog) 27 50 .i64 Tryd.underlying27 hi0117 1 hsz117 Ao97 t197.length co97 1 (by omega) q117
    obtain ⟨A117, hA117⟩ : ∃ A1, A1 = (if co97 = (1 : Int).toNat then Ao97 else (Ao97 : Option Addr).map (·.add ((1 : Int).toNat * 1))) := ⟨_, rfl⟩
    obtain ⟨c117, hc117⟩ : ∃ c1, c1 = co97 - (1 : Int).toNat := ⟨_, rfl⟩
    have hy117 : y221.length = t197.length - (1 : Int).toNat := (by rw [Ny221.out, List.length_drop] <;> omega)
    rw [← hy117, ← hA117, ← hc117] at hcut117
    have KY117 := Aside0.mk hy117
    have KA117 := Aside0.mk hA117
    have KC117 := Aside0.mk hc117
    clear hy117 hA117 hc117 hi0117 hsz117
    refine start_ (n := 45) (S := fun w' => True) (ds := []) #[false, false, false, false, false, false, false, false, false, false, false, false, false, false, false, false, false, false, false, false, false, false, false, false, false, false, false, false, false, false, false, false, false, false, false, false, false, false, false, false, false, false, false, false, false] (by kernel_rfl) rfl rfl trivial (fun hHeld => ?_); refine with_tabW exs.tab8 exs.bits8 (fun HT_ HW_ => ?_)
    generalize w96.drew = w98 at HO171 HO195 HO199 HO203 BK167 BK172 BK196 BK205 BK206 HB hHeld ⊢
    refine pure_ (i := 0) (N := some 62) (v := ?_) (a' := ?_) #[true, false, false, false, false, false, false, false, false, false, false, false, false, false, false, false, false, false, false, false, false, false, false, false, false, false, false, false, false, false, false, false, false, false, false, false, false, false, false, false, false, false, false, false, false] rfl rfl (any_of HT_.out (by kernel_rfl)) (fun _ _ _ h => h) (Or.inl ⟨by rfl, ?_⟩) ?_ ?_
    rotate_left
    · intro w'
      go_simp
      with_reducible rfl
    rotate_left
    · simp only [Act.put, List.setIfInBounds_toArray, List.set_cons_zero, List.set_cons_succ, i64_w, i32_w]
      rfl
    refine inv_at [1, 2, 3, 4, 5, 6, 7, 8, 9, 10, 11, 12, 13, 14, 15, 16, 17, 18, 19, 20, 21, 22, 23, 24, 25, 26, 27, 28, 29, 30, 31, 32, 33, 34, 35, 36, 37, 38, 39, 40, 41, 42, 43, 44] (fun a0_ b a w' => ∃ (v208 : Value) (v211 : Value) (v214 : Value) (v217 : Value), a = putSel a0_ b [(1, 63, .int .i64 t200), (2, 64, .bool (t200 == 0)), (3, 65, .bool (t200 == 0)), (4, 66, .pointer (some ⟨gb205, 0, none⟩)), (5, 67, .slice Ao97 t197.length co97), (6, 68, v208), (7, 69, v211), (8, 70, v214), (9, 71, v217), (10, 72, .bool true), (11, 73, .bool true), (12, 74, .bool true), (13, 75, .pointer (some ⟨gb206, 1, none⟩)), (14, 76, .int .i64 t204), (15, 77, .bool (t204 == 4)), (16, 78, .bool (t204 == 4)), (17, 79, .bool (t204 == 4)), (18, 80, .agg #[.int .i64 4, .slice Ao76 y193.length co76]), (19, 81, .pointer (some ⟨gb205, 0, none⟩)), (20, 82, .slice Ao97 t197.length co97), (21, 83, .int .i64 t220), (22, 84, .bool (t220 == 0)), (23, 85, .bool (t220 == 0)), (24, 86, .bool (t220 == 0)), (25, 87, .agg #[.int .i64 4, .slice Ao76 y193.length co76]), (26, 88, .pointer (some ⟨gb205, 0, none⟩)), (27, 89, .slice Ao97 t197.length co97), (28, 90, .slice A117 y221.length c117), (29, 91, .int .i64 t226), (30, 92, .bool (t226 == 90)), (31, 93, .bool (t226 == 90)), (32, 94, .bool (t226 == 90)), (33, 95, .agg #[.int .i64 4, .slice Ao76 y193.length co76]), (34, 96, .agg #[.int .i64 2, .int .i64 7, .int .i64 3, .int .i64 1]), (35, 97, .int .i64 t227), (36, 98, .bool (t227 == 90)), (37, 99, .bool (t227 == 90)), (38, 100, .bool (t227 == 90)), (39, 101, .agg #[.int .i64 t168, .slice Ao34 t169.length co34]), (40, 102, .agg #[.int .i64 0, .int .i64 0, .int .i64 0, .int .i64 0]), (41, 103, .int .i64 t228), (42, 104, .bool (t228 == 1)), (43, 105, .bool (t228 == 1)), (44, 0, .bool (t228 == 1))] ∧ (Kd.R (Kd.int .u64) 60 w' w.heap.size (fun k_ => some k_ ≠ (.slice Ao76 y193.length co76 : Value).ownBlock) (.slice Ao34 t169.length co34) t169) ∧ (Kd.R (Kd.int .u64) 60 w' w.heap.size (fun k_ => some k_ ≠ (.slice Ao34 t169.length co34 : Value).ownBlock) (.slice Ao76 y193.length co76) y193) ∧ (Kd.S (Kd.slice 3 (Kd.int .i64)) 50 w' w.heap.size (fun _ => True) (.slice Ao97 t197.length co97) t197) ∧ (Kd.S (Kd.slice 3 (Kd.int .i64)) 50 w' w.heap.size (fun _ => True) v202 t201) ∧ (w'.heap[gb167]? = some (.cells #[.int .i64 2, .int .i64 7, .int .i64 3, .int .i64 1] 26 (0, 0))) ∧ (w'.heap[gb172]? = some (.cells #[.int .i64 t168, .slice Ao34 t169.length co34] 31 (0, 0))) ∧ (w'.heap[gb196]? = some (.cells #[.int .i64 4, .slice Ao76 y193.length co76] 31 (0, 0))) ∧ (w'.heap[gb205]? = some (.cells #[.slice Ao97 t197.length co97, .int .i64 t200] 46 (0, 0))) ∧ (w'.heap[gb206]? = some (.cells #[v202, .int .i64 t204] 46 (0, 0))) ∧ (Below w.heap.size w w') ∧ (b 6 = true → b 9 = false → Kd.R (Kd.int .i64) 3 w' w.heap.size (fun _ => True) v208 y207) ∧ (b 7 = true → b 9 = false → Kd.R (Kd.int .i64) 3 w' w.heap.size (fun _ => True) v211 y210) ∧ (b 8 = true → b 9 = false → Kd.R (Kd.int .i64) 3 w' w.heap.size (fun _ => True) v214 y213) ∧ (b 9 = true → Kd.N (Kd.slice 3 (Kd.int .i64)) 50 w' w.heap.size (fun k_ => some k_ ≠ (.slice Ao34 t169.length co34 : Value).ownBlock ∧ some k_ ≠ (.slice Ao76 y193.length co76 : Value).ownBlock ∧ some k_ ≠ (.slice Ao97 t197.length co97 : Value).ownBlock ∧ some k_ ≠ (v202 : Value).ownBlock ∧ k_ ≠ gb167 ∧ k_ ≠ gb172 ∧ k_ ≠ gb196 ∧ k_ ≠ gb205 ∧ k_ ≠ gb206) v217 y216)) HT_.out HW_.out (by kernel_rfl) (by kernel_rfl) ?_ ?_ ?_
    · exact ⟨.bool false, .bool false, .bool false, .bool false, by simp only [putSel, Bool.false_eq_true, if_false], HO171.out, HO195.out, HO199.out, HO203.out, BK167.out, BK172.out, BK196.out, BK205.out, BK206.out, HB.out, fun h_ => absurd h_ (by decide), fun h_ => absurd h_ (by decide), fun h_ => absurd h_ (by decide), fun h_ => absurd h_ (by decide)⟩
    · skip
      clear BK167 BK172 BK196 BK205 BK206 HB HO171 HO195 HO199 HO203
      refine steps_cons ?_ ?_
      · rintro b a w' ⟨v208, v211, v214, v217, ha, Q_HO171, Q_HO195, Q_HO199, Q_HO203, Q_BK167, Q_BK172, Q_BK196, Q_BK205, Q_BK206, Q_HB, Q_HO209, Q_HO212, Q_HO215, Q_HO218⟩ hb_ hon hoff
        refine ⟨_, rfl, fun K hK => ?_⟩
        have e62 : a.tmps[62]? = some (.pointer (some ⟨gb205, 1, none⟩)) := by rw [ha]; exact (putSel_off rfl).trans rfl
        replace ha := Aside0.mk ha
        have BK205 := Aside0.mk Q_BK205
        have hc0_ : w'.cell? ⟨gb205, 0, none⟩ = some (.slice Ao97 t197.length co97) := (blk_cell BK205.out 0).trans rfl
        have hc1_ : w'.cell? ⟨gb205, 1, none⟩ = some (.int .i64 t200) := (blk_cell BK205.out 1).trans rfl
        refine value_ (w1 := w') (v := .int .i64 t200) (by rfl) rfl ?_ ?_
        · go_simp
          (try simp only [i64_w])
          try rfl
        refine hK.out _ _ ⟨v208, v211, v214, v217, (by rw [ha.out]; exact putSel_upk 0 hb_ rfl rfl rfl), Q_HO171, Q_HO195, Q_HO199, Q_HO203, Q_BK167, Q_BK172, Q_BK196, Q_BK205, Q_BK206, Q_HB, fun h0_ _ => absurd ((hoff 6 (by kernel_rfl)).symm.trans h0_) (by decide), fun h0_ _ => absurd ((hoff 7 (by kernel_rfl)).symm.trans h0_) (by decide), fun h0_ _ => absurd ((hoff 8 (by kernel_rfl)).symm.trans h0_) (by decide), fun h0_ => absurd ((hoff 9 (by kernel_rfl)).symm.trans h0_) (by decide)⟩
      refine steps_cons ?_ ?_
      · rintro b a w' ⟨v208, v211, v214, v217, ha, Q_HO171, Q_HO195, Q_HO199, Q_HO203, Q_BK167, Q_BK172, Q_BK196, Q_BK205, Q_BK206, Q_HB, Q_HO209, Q_HO212, Q_HO215, Q_HO218⟩ hb_ hon hoff
        refine ⟨_, rfl, fun K hK => ?_⟩
        have e63 : a.tmps[63]? = some (.int .i64 t200) := by rw [ha]; exact putSel_on (e := (1, 63, .int .i64 t200)) 0 rfl rfl (hon 1 (by kernel_rfl)) rfl
        replace ha := Aside0.mk ha
        refine value_ (w1 := w') (v := .bool (t200 == 0)) (by rfl) rfl ?_ ?_
        · go_simp
          (try simp only [i64_w])
          try rfl
        refine hK.out _ _ ⟨v208, v211, v214, v217, (by rw [ha.out]; exact putSel_upk 1 hb_ rfl rfl rfl), Q_HO171, Q_HO195, Q_HO199, Q_HO203, Q_BK167, Q_BK172, Q_BK196, Q_BK205, Q_BK206, Q_HB, fun h0_ _ => absurd ((hoff 6 (by kernel_rfl)).symm.trans h0_) (by decide), fun h0_ _ => absurd ((hoff 7 (by kernel_rfl)).symm.trans h0_) (by decide), fun h0_ _ => absurd ((hoff 8 (by kernel_rfl)).symm.trans h0_) (by decide), fun h0_ => absurd ((hoff 9 (by kernel_rfl)).symm.trans h0_) (by decide)⟩
      refine steps_cons ?_ ?_
      · rintro b a w' ⟨v208, v211, v214, v217, ha, Q_HO171, Q_HO195, Q_HO199, Q_HO203, Q_BK167, Q_BK172, Q_BK196, Q_BK205, Q_BK206, Q_HB, Q_HO209, Q_HO212, Q_HO215, Q_HO218⟩ hb_ hon hoff
        refine ⟨_, rfl, fun K hK => ?_⟩
        have e64 : a.tmps[64]? = some (.bool (t200 == 0)) := by rw [ha]; exact putSel_on (e := (2, 64, .bool (t200 == 0))) 1 rfl rfl (hon 2 (by kernel_rfl)) rfl
        replace ha := Aside0.mk ha
        refine value_ (w1 := w') (v := .bool (t200 == 0)) (by rfl) rfl ?_ ?_
        · go_simp
          (try simp only [i64_w])
          try rfl
        refine hK.out _ _ ⟨v208, v211, v214, v217, (by rw [ha.out]; exact putSel_upk 2 hb_ rfl rfl rfl), Q_HO171, Q_HO195, Q_HO199, Q_HO203, Q_BK167, Q_BK172, Q_BK196, Q_BK205, Q_BK206, Q_HB, fun h0_ _ => absurd ((hoff 6 (by kernel_rfl)).symm.trans h0_) (by decide), fun h0_ _ => absurd ((hoff 7 (by kernel_rfl)).symm.trans h0_) (by decide), fun h0_ _ => absurd ((hoff 8 (by kernel_rfl)).symm.trans h0_) (by decide), fun h0_ => absurd ((hoff 9 (by kernel_rfl)).symm.trans h0_) (by decide)⟩
      refine steps_cons ?_ ?_
      · rintro b a w' ⟨v208, v211, v214, v217, ha, Q_HO171, Q_HO195, Q_HO199, Q_HO203, Q_BK167, Q_BK172, Q_BK196, Q_BK205, Q_BK206, Q_HB, Q_HO209, Q_HO212, Q_HO215, Q_HO218⟩ hb_ hon hoff
        refine ⟨_, rfl, fun K hK => ?_⟩
        have e7 : a.tmps[7]? = some (.pointer (some ⟨gb205, 0, none⟩)) := by rw [ha]; exact (putSel_off rfl).trans rfl
        have e65 : a.tmps[65]? = some (.bool (t200 == 0)) := by rw [ha]; exact putSel_on (e := (3, 65, .bool (t200 == 0))) 2 rfl rfl (hon 3 (by kernel_rfl)) rfl
        replace ha := Aside0.mk ha
        refine value_ (w1 := w') (v := .pointer (some ⟨gb205, 0, none⟩)) (wanted_on rfl rfl rfl (e65.trans (by first | rfl | (simp [*]; done)))) rfl ?_ ?_
        · go_simp
          (try simp only [i64_w])
          try rfl
        refine hK.out _ _ ⟨v208, v211, v214, v217, (by rw [ha.out]; exact putSel_upk 3 hb_ rfl rfl rfl), Q_HO171, Q_HO195, Q_HO199, Q_HO203, Q_BK167, Q_BK172, Q_BK196, Q_BK205, Q_BK206, Q_HB, Q_HO209, Q_HO212, Q_HO215, Q_HO218⟩
      refine steps_cons ?_ ?_
      · rintro b a w' ⟨v208, v211, v214, v217, ha, Q_HO171, Q_HO195, Q_HO199, Q_HO203, Q_BK167, Q_BK172, Q_BK196, Q_BK205, Q_BK206, Q_HB, Q_HO209, Q_HO212, Q_HO215, Q_HO218⟩ hb_ hon hoff
        refine ⟨_, rfl, fun K hK => ?_⟩
        have e66 : a.tmps[66]? = some (.pointer (some ⟨gb205, 0, none⟩)) := by rw [ha]; exact putSel_on (e := (4, 66, .pointer (some ⟨gb205, 0, none⟩))) 3 rfl rfl (hon 4 (by kernel_rfl)) rfl
        have e65 : a.tmps[65]? = some (.bool (t200 == 0)) := by rw [ha]; exact putSel_on (e := (3, 65, .bool (t200 == 0))) 2 rfl rfl (hon 3 (by kernel_rfl)) rfl
        replace ha := Aside0.mk ha
        have BK205 := Aside0.mk Q_BK205
        have hc0_ : w'.cell? ⟨gb205, 0, none⟩ = some (.slice Ao97 t197.length co97) := (blk_cell BK205.out 0).trans rfl
        have hc1_ : w'.cell? ⟨gb205, 1, none⟩ = some (.int .i64 t200) := (blk_cell BK205.out 1).trans rfl
        refine value_ (w1 := w') (v := .slice Ao97 t197.length co97) (wanted_on rfl rfl rfl (e65.trans (by first | rfl | (simp [*]; done)))) rfl ?_ ?_
        · go_simp
          (try simp only [i64_w])
          try rfl
        refine hK.out _ _ ⟨v208, v211, v214, v217, (by rw [ha.out]; exact putSel_upk 4 hb_ rfl rfl rfl), Q_HO171, Q_HO195, Q_HO199, Q_HO203, Q_BK167, Q_BK172, Q_BK196, Q_BK205, Q_BK206, Q_HB, Q_HO209, Q_HO212, Q_HO215, Q_HO218⟩
      refine steps_cons ?_ ?_
      · rintro b a w' ⟨v208, v211, v214, v217, ha, Q_HO171, Q_HO195, Q_HO199, Q_HO203, Q_BK167, Q_BK172, Q_BK196, Q_BK205, Q_BK206, Q_HB, Q_HO209, Q_HO212, Q_HO215, Q_HO218⟩ hb_ hon hoff
        refine ⟨_, rfl, fun K hK => ?_⟩
        have e65 : a.tmps[65]? = some (.bool (t200 == 0)) := by rw [ha]; exact putSel_on (e := (3, 65, .bool (t200 == 0))) 2 rfl rfl (hon 3 (by kernel_rfl)) rfl
        replace ha := Aside0.mk ha
        have HO171 := Aside0.mk Q_HO171
        have HO195 := Aside0.mk Q_HO195
        have HO199 := Aside0.mk Q_HO199
        have HO203 := Aside0.mk Q_HO203
        have BK167 := Aside0.mk Q_BK167
        have BK172 := Aside0.mk Q_BK172
        have BK196 := Aside0.mk Q_BK196
        have BK205 := Aside0.mk Q_BK205
        have BK206 := Aside0.mk Q_BK206
        have HB := Aside0.mk Q_HB
        refine Kd.R_lit_step (Kd.int .i64) _ 3 ?hg (N := 68) ?hd (xs := ([0, 5] : List Int)) (inner := [.int .i64 0, .int .i64 5]) (ok := fun _ => True) (okp := fun _ => True) ?hr ?hp (fun _ hk => hk) trivial (Below.refl _ _) (Nat.le_refl _) (by simp) ?_; (case hd => rfl); (case hg => exact (wanted_on rfl rfl rfl (e65.trans (by first | rfl | (simp [*]; done))))); (case hr => first | (go_simp; done) | (go_simp; rfl)); (case hp => exact (Reps.one (show Kd.M (Kd.int .i64) _ _ _ 0 [.int .i64 0] from rfl) (Reps.one (show Kd.M (Kd.int .i64) _ _ _ 5 [.int .i64 5] from rfl) (Reps.none _ _))))
        intro v208 w99 ho100 hb hg_ hnew_
        clear hg_ hnew_
        (first | rw [← Ny207.out] at ho100 | (simp only [Int.reduceToNat] at ho100; rw [← Ny207.out] at ho100))
        have n0_ := Aside0.mk (Kd.R_below HO171.out hb)
        have n1_ := Aside0.mk (Kd.R_below HO195.out hb)
        have n2_ := Aside0.mk (Kd.S_elder' HO199.out (Kd.R_base ho100) hb)
        have n3_ := Aside0.mk (Kd.S_elder' HO203.out (Kd.R_base ho100) hb)
        have n4_ := Aside0.mk (Kd.R_lower ho100 (below_size HB.out))
        have n5_ := Aside0.mk (blk_below BK167.out hb)
        have n6_ := Aside0.mk (blk_below BK172.out hb)
        have n7_ := Aside0.mk (blk_below BK196.out hb)
        have n8_ := Aside0.mk (blk_below BK205.out hb)
        have n9_ := Aside0.mk (blk_below BK206.out hb)
        have n10_ := Aside0.mk (below_step HB.out hb)
        have z_HO212 := fun (h0_ : b 7 = true) (h1_ : b 9 = false) => (show Kd.R (Kd.int .i64) 3 w99 w.heap.size (fun _ => True) v211 y210 from by first | exact (Kd.R_elder' (by (with_reducible repeat (first | apply Kd.R_alloc | apply Kd.R_drewN | apply Kd.R_drew)); exact (Q_HO212 h0_ h1_)) (Kd.R_base ho100) hb) | exact Kd.R_mono (Kd.R_elder' (by (with_reducible repeat (first | apply Kd.R_alloc | apply Kd.R_drewN | apply Kd.R_drew)); exact (Q_HO212 h0_ h1_)) (Kd.R_base ho100) hb) (fun _ h_ => by first | trivial | exact h_ | exact h_.1))
        have z_HO215 := fun (h0_ : b 8 = true) (h1_ : b 9 = false) => (show Kd.R (Kd.int .i64) 3 w99 w.heap.size (fun _ => True) v214 y213 from by first | exact (Kd.R_elder' (by (with_reducible repeat (first | apply Kd.R_alloc | apply Kd.R_drewN | apply Kd.R_drew)); exact (Q_HO215 h0_ h1_)) (Kd.R_base ho100) hb) | exact Kd.R_mono (Kd.R_elder' (by (with_reducible repeat (first | apply Kd.R_alloc | apply Kd.R_drewN | apply Kd.R_drew)); exact (Q_HO215 h0_ h1_)) (Kd.R_base ho100) hb) (fun _ h_ => by first | trivial | exact h_ | exact h_.1))
        clear HO171
        clear HO195
        clear HO199
        clear HO203
        clear BK167
        clear BK172
        clear BK196
        clear BK205
        clear BK206
        clear HB
        have HO171 := n0_
        have HO195 := n1_
        have HO199 := n2_
        have HO203 := n3_
        have HO209 := n4_
        have BK167 := n5_
        have BK172 := n6_
        have BK196 := n7_
        have BK205 := n8_
        have BK206 := n9_
        have HB := n10_
        clear n0_ n1_ n2_ n3_ n4_ n5_ n6_ n7_ n8_ n9_ n10_
        clear hb ho100
        refine hK.out _ _ ⟨v208, v211, v214, v217, (by rw [ha.out]; exact putSel_upk 5 hb_ rfl rfl rfl), HO171.out, HO195.out, (by (with_reducible repeat (first | apply Kd.S_alloc | apply Kd.S_drewN | apply Kd.S_drew)); exact Kd.S_mono HO199.out (fun _ hk => by first | exact hk.2 | trivial)), (by (with_reducible repeat (first | apply Kd.S_alloc | apply Kd.S_drewN | apply Kd.S_drew)); exact Kd.S_mono HO203.out (fun _ hk => by first | exact hk.2 | trivial)), BK167.out, BK172.out, BK196.out, BK205.out, BK206.out, HB.out, fun _ _ => HO209.out, z_HO212, z_HO215, fun h0_ => absurd ((hoff 9 (by kernel_rfl)).symm.trans h0_) (by decide)⟩
      refine steps_cons ?_ ?_
      · rintro b a w' ⟨v208, v211, v214, v217, ha, Q_HO171, Q_HO195, Q_HO199, Q_HO203, Q_BK167, Q_BK172, Q_BK196, Q_BK205, Q_BK206, Q_HB, Q_HO209, Q_HO212, Q_HO215, Q_HO218⟩ hb_ hon hoff
        refine ⟨_, rfl, fun K hK => ?_⟩
        have e65 : a.tmps[65]? = some (.bool (t200 == 0)) := by rw [ha]; exact putSel_on (e := (3, 65, .bool (t200 == 0))) 2 rfl rfl (hon 3 (by kernel_rfl)) rfl
        replace ha := Aside0.mk ha
        have HO171 := Aside0.mk Q_HO171
        have HO195 := Aside0.mk Q_HO195
        have HO199 := Aside0.mk Q_HO199
        have HO203 := Aside0.mk Q_HO203
        have BK167 := Aside0.mk Q_BK167
        have BK172 := Aside0.mk Q_BK172
        have BK196 := Aside0.mk Q_BK196
        have BK205 := Aside0.mk Q_BK205
        have BK206 := Aside0.mk Q_BK206
        have HB := Aside0.mk Q_HB
        refine Kd.R_lit_step (Kd.int .i64) _ 3 ?hg (N := 69) ?hd (xs := ([1, 4] : List Int)) (inner := [.int .i64 1, .int .i64 4]) (ok := fun _ => True) (okp := fun _ => True) ?hr ?hp (fun _ hk => hk) trivial (Below.refl _ _) (Nat.le_refl _) (by simp) ?_; (case hd => rfl); (case hg => exact (wanted_on rfl rfl rfl (e65.trans (by first | rfl | (simp [*]; done))))); (case hr => first | (go_simp; done) | (go_simp; rfl)); (case hp => exact (Reps.one (show Kd.M (Kd.int .i64) _ _ _ 1 [.int .i64 1] from rfl) (Reps.one (show Kd.M (Kd.int .i64) _ _ _ 4 [.int .i64 4] from rfl) (Reps.none _ _))))
        intro v211 w99 ho100 hb hg_ hnew_
        clear hg_ hnew_
        (first | rw [← Ny210.out] at ho100 | (simp only [Int.reduceToNat] at ho100; rw [← Ny210.out] at ho100))
        have n0_ := Aside0.mk (Kd.R_below HO171.out hb)
        have n1_ := Aside0.mk (Kd.R_below HO195.out hb)
        have n2_ := Aside0.mk (Kd.S_elder' HO199.out (Kd.R_base ho100) hb)
        have n3_ := Aside0.mk (Kd.S_elder' HO203.out (Kd.R_base ho100) hb)
        have n4_ := Aside0.mk (Kd.R_lower ho100 (below_size HB.out))
        have n5_ := Aside0.mk (blk_below BK167.out hb)
        have n6_ := Aside0.mk (blk_below BK172.out hb)
        have n7_ := Aside0.mk (blk_below BK196.out hb)
        have n8_ := Aside0.mk (blk_below BK205.out hb)
        have n9_ := Aside0.mk (blk_below BK206.out hb)
        have n10_ := Aside0.mk (below_step HB.out hb)
        have z_HO209 := fun (h0_ : b 6 = true) (h1_ : b 9 = false) => (show Kd.R (Kd.int .i64) 3 w99 w.heap.size (fun _ => True) v208 y207 from by first | exact (Kd.R_elder' (by (with_reducible repeat (first | apply Kd.R_alloc | apply Kd.R_drewN | apply Kd.R_drew)); exact (Q_HO209 h0_ h1_)) (Kd.R_base ho100) hb) | exact Kd.R_mono (Kd.R_elder' (by (with_reducible repeat (first | apply Kd.R_alloc | apply Kd.R_drewN | apply Kd.R_drew)); exact (Q_HO209 h0_ h1_)) (Kd.R_base ho100) hb) (fun _ h_ => by first | trivial | exact h_ | exact h_.1))
        have z_HO215 := fun (h0_ : b 8 = true) (h1_ : b 9 = false) => (show Kd.R (Kd.int .i64) 3 w99 w.heap.size (fun _ => True) v214 y213 from by first | exact (Kd.R_elder' (by (with_reducible repeat (first | apply Kd.R_alloc | apply Kd.R_drewN | apply Kd.R_drew)); exact (Q_HO215 h0_ h1_)) (Kd.R_base ho100) hb) | exact Kd.R_mono (Kd.R_elder' (by (with_reducible repeat (first | apply Kd.R_alloc | apply Kd.R_drewN | apply Kd.R_drew)); exact (Q_HO215 h0_ h1_)) (Kd.R_base ho100) hb) (fun _ h_ => by first | trivial | exact h_ | exact h_.1))
        clear HO171
        clear HO195
        clear HO199
        clear HO203
        clear BK167
        clear BK172
        clear BK196
        clear BK205
        clear BK206
        clear HB
        have HO171 := n0_
        have HO195 := n1_
        have HO199 := n2_
        have HO203 := n3_
        have HO212 := n4_
        have BK167 := n5_
        have BK172 := n6_
        have BK196 := n7_
        have BK205 := n8_
        have BK206 := n9_
        have HB := n10_
        clear n0_ n1_ n2_ n3_ n4_ n5_ n6_ n7_ n8_ n9_ n10_
        clear hb ho100
        refine hK.out _ _ ⟨v208, v211, v214, v217, (by rw [ha.out]; exact putSel_upk 6 hb_ rfl rfl rfl), HO171.out, HO195.out, (by (with_reducible repeat (first | apply Kd.S_alloc | apply Kd.S_drewN | apply Kd.S_drew)); exact Kd.S_mono HO199.out (fun _ hk => by first | exact hk.2 | trivial)), (by (with_reducible repeat (first | apply Kd.S_alloc | apply Kd.S_drewN | apply Kd.S_drew)); exact Kd.S_mono HO203.out (fun _ hk => by first | exact hk.2 | trivial)), BK167.out, BK172.out, BK196.out, BK205.out, BK206.out, HB.out, z_HO209, fun _ _ => HO212.out, z_HO215, fun h0_ => absurd ((hoff 9 (by kernel_rfl)).symm.trans h0_) (by decide)⟩
      refine steps_cons ?_ ?_
      · rintro b a w' ⟨v208, v211, v214, v217, ha, Q_HO171, Q_HO195, Q_HO199, Q_HO203, Q_BK167, Q_BK172, Q_BK196, Q_BK205, Q_BK206, Q_HB, Q_HO209, Q_HO212, Q_HO215, Q_HO218⟩ hb_ hon hoff
        refine ⟨_, rfl, fun K hK => ?_⟩
        have e65 : a.tmps[65]? = some (.bool (t200 == 0)) := by rw [ha]; exact putSel_on (e := (3, 65, .bool (t200 == 0))) 2 rfl rfl (hon 3 (by kernel_rfl)) rfl
        replace ha := Aside0.mk ha
        have HO171 := Aside0.mk Q_HO171
        have HO195 := Aside0.mk Q_HO195
        have HO199 := Aside0.mk Q_HO199
        have HO203 := Aside0.mk Q_HO203
        have BK167 := Aside0.mk Q_BK167
        have BK172 := Aside0.mk Q_BK172
        have BK196 := Aside0.mk Q_BK196
        have BK205 := Aside0.mk Q_BK205
        have BK206 := Aside0.mk Q_BK206
        have HB := Aside0.mk Q_HB
        refine Kd.R_lit_step (Kd.int .i64) _ 3 ?hg (N := 70) ?hd (xs := ([2, 3] : List Int)) (inner := [.int .i64 2, .int .i64 3]) (ok := fun _ => True) (okp := fun _ => True) ?hr ?hp (fun _ hk => hk) trivial (Below.refl _ _) (Nat.le_refl _) (by simp) ?_; (case hd => rfl); (case hg => exact (wanted_on rfl rfl rfl (e65.trans (by first | rfl | (simp [*]; done))))); (case hr => first | (go_simp; done) | (go_simp; rfl)); (case hp => exact (Reps.one (show Kd.M (Kd.int .i64) _ _ _ 2 [.int .i64 2] from rfl) (Reps.one (show Kd.M (Kd.int .i64) _ _ _ 3 [.int .i64 3] from rfl) (Reps.none _ _))))
        intro v214 w99 ho100 hb hg_ hnew_
        clear hg_ hnew_
        (first | rw [← Ny213.out] at ho100 | (simp only [Int.reduceToNat] at ho100; rw [← Ny213.out] at ho100))
        have n0_ := Aside0.mk (Kd.R_below HO171.out hb)
        have n1_ := Aside0.mk (Kd.R_below HO195.out hb)
        have n2_ := Aside0.mk (Kd.S_elder' HO199.out (Kd.R_base ho100) hb)
        have n3_ := Aside0.mk (Kd.S_elder' HO203.out (Kd.R_base ho100) hb)
        have n4_ := Aside0.mk (Kd.R_lower ho100 (below_size HB.out))
        have n5_ := Aside0.mk (blk_below BK167.out hb)
        have n6_ := Aside0.mk (blk_below BK172.out hb)
        have n7_ := Aside0.mk (blk_below BK196.out hb)
        have n8_ := Aside0.mk (blk_below BK205.out hb)
        have n9_ := Aside0.mk (blk_below BK206.out hb)
        have n10_ := Aside0.mk (below_step HB.out hb)
        have z_HO209 := fun (h0_ : b 6 = true) (h1_ : b 9 = false) => (show Kd.R (Kd.int .i64) 3 w99 w.heap.size (fun _ => True) v208 y207 from by first | exact (Kd.R_elder' (by (with_reducible repeat (first | apply Kd.R_alloc | apply Kd.R_drewN | apply Kd.R_drew)); exact (Q_HO209 h0_ h1_)) (Kd.R_base ho100) hb) | exact Kd.R_mono (Kd.R_elder' (by (with_reducible repeat (first | apply Kd.R_alloc | apply Kd.R_drewN | apply Kd.R_drew)); exact (Q_HO209 h0_ h1_)) (Kd.R_base ho100) hb) (fun _ h_ => by first | trivial | exact h_ | exact h_.1))
        have z_HO212 := fun (h0_ : b 7 = true) (h1_ : b 9 = false) => (show Kd.R (Kd.int .i64) 3 w99 w.heap.size (fun _ => True) v211 y210 from by first | exact (Kd.R_elder' (by (with_reducible repeat (first | apply Kd.R_alloc | apply Kd.R_drewN | apply Kd.R_drew)); exact (Q_HO212 h0_ h1_)) (Kd.R_base ho100) hb) | exact Kd.R_mono (Kd.R_elder' (by (with_reducible repeat (first | apply Kd.R_alloc | apply Kd.R_drewN | apply Kd.R_drew)); exact (Q_HO212 h0_ h1_)) (Kd.R_base ho100) hb) (fun _ h_ => by first | trivial | exact h_ | exact h_.1))
        clear HO171
        clear HO195
        clear HO199
        clear HO203
        clear BK167
        clear BK172
        clear BK196
        clear BK205
        clear BK206
        clear HB
        have HO171 := n0_
        have HO195 := n1_
        have HO199 := n2_
        have HO203 := n3_
        have HO215 := n4_
        have BK167 := n5_
        have BK172 := n6_
        have BK196 := n7_
        have BK205 := n8_
        have BK206 := n9_
        have HB := n10_
        clear n0_ n1_ n2_ n3_ n4_ n5_ n6_ n7_ n8_ n9_ n10_
        clear hb ho100
        refine hK.out _ _ ⟨v208, v211, v214, v217, (by rw [ha.out]; exact putSel_upk 7 hb_ rfl rfl rfl), HO171.out, HO195.out, (by (with_reducible repeat (first | apply Kd.S_alloc | apply Kd.S_drewN | apply Kd.S_drew)); exact Kd.S_mono HO199.out (fun _ hk => by first | exact hk.2 | trivial)), (by (with_reducible repeat (first | apply Kd.S_alloc | apply Kd.S_drewN | apply Kd.S_drew)); exact Kd.S_mono HO203.out (fun _ hk => by first | exact hk.2 | trivial)), BK167.out, BK172.out, BK196.out, BK205.out, BK206.out, HB.out, z_HO209, z_HO212, fun _ _ => HO215.out, fun h0_ => absurd ((hoff 9 (by kernel_rfl)).symm.trans h0_) (by decide)⟩
      refine steps_cons ?_ ?_
      · rintro b a w' ⟨v208, v211, v214, v217, ha, Q_HO171, Q_HO195, Q_HO199, Q_HO203, Q_BK167, Q_BK172, Q_BK196, Q_BK205, Q_BK206, Q_HB, Q_HO209, Q_HO212, Q_HO215, Q_HO218⟩ hb_ hon hoff
        refine ⟨_, rfl, fun K hK => ?_⟩
        have e68 : a.tmps[68]? = some (v208) := by rw [ha]; exact putSel_on (e := (6, 68, v208)) 5 rfl rfl (hon 6 (by kernel_rfl)) rfl
        have e69 : a.tmps[69]? = some (v211) := by rw [ha]; exact putSel_on (e := (7, 69, v211)) 6 rfl rfl (hon 7 (by kernel_rfl)) rfl
        have e70 : a.tmps[70]? = some (v214) := by rw [ha]; exact putSel_on (e := (8, 70, v214)) 7 rfl rfl (hon 8 (by kernel_rfl)) rfl
        have e65 : a.tmps[65]? = some (.bool (t200 == 0)) := by rw [ha]; exact putSel_on (e := (3, 65, .bool (t200 == 0))) 2 rfl rfl (hon 3 (by kernel_rfl)) rfl
        replace ha := Aside0.mk ha
        have HO171 := Aside0.mk Q_HO171
        have HO195 := Aside0.mk Q_HO195
        have HO199 := Aside0.mk Q_HO199
        have HO203 := Aside0.mk Q_HO203
        have BK167 := Aside0.mk Q_BK167
        have BK172 := Aside0.mk Q_BK172
        have BK196 := Aside0.mk Q_BK196
        have BK205 := Aside0.mk Q_BK205
        have BK206 := Aside0.mk Q_BK206
        have HB := Aside0.mk Q_HB
        have HO209 := Aside0.mk (Q_HO209 (hon 6 (by kernel_rfl)) hb_)
        have HO212 := Aside0.mk (Q_HO212 (hon 7 (by kernel_rfl)) hb_)
        have HO215 := Aside0.mk (Q_HO215 (hon 8 (by kernel_rfl)) hb_)
        obtain ⟨Ao106, co106, eo106⟩ := Kd.R_slice HO209.out
        (first | subst eo106 | (injection eo106 with f1_ f2_ f3_; have f4_ := f1_.symm; have f5_ := f3_.symm; clear f1_ f2_ f3_; subst f4_; subst f5_))
        obtain ⟨Ao107, co107, eo107⟩ := Kd.R_slice HO212.out
        (first | subst eo107 | (injection eo107 with f1_ f2_ f3_; have f4_ := f1_.symm; have f5_ := f3_.symm; clear f1_ f2_ f3_; subst f4_; subst f5_))
        obtain ⟨Ao108, co108, eo108⟩ := Kd.R_slice HO215.out
        (first | subst eo108 | (injection eo108 with f1_ f2_ f3_; have f4_ := f1_.symm; have f5_ := f3_.symm; clear f1_ f2_ f3_; subst f4_; subst f5_))
        refine Kd.N_lit_step (Kd.slice 3 (Kd.int .i64)) _ 50 ?hg (N' := 71) ?hd (xs := ([y207, y210, y213] : List (List Int))) (inner := [.slice Ao106 y207.length co106, .slice Ao107 y210.length co107, .slice Ao108 y213.length co108]) (ok := (fun k_ => some k_ ≠ (.slice Ao34 t169.length co34 : Value).ownBlock ∧ some k_ ≠ (.slice Ao76 y193.length co76 : Value).ownBlock ∧ some k_ ≠ (.slice Ao97 t197.length co97 : Value).ownBlock ∧ some k_ ≠ (v202 : Value).ownBlock ∧ k_ ≠ gb167 ∧ k_ ≠ gb172 ∧ k_ ≠ gb196 ∧ k_ ≠ gb205 ∧ k_ ≠ gb206)) (okp := (fun k_ => some k_ ≠ (.slice Ao34 t169.length co34 : Value).ownBlock ∧ some k_ ≠ (.slice Ao76 y193.length co76 : Value).ownBlock ∧ some k_ ≠ (.slice Ao97 t197.length co97 : Value).ownBlock ∧ some k_ ≠ (v202 : Value).ownBlock ∧ k_ ≠ gb167 ∧ k_ ≠ gb172 ∧ k_ ≠ gb196 ∧ k_ ≠ gb205 ∧ k_ ≠ gb206)) ?hr ?hp (fun _ hk => hk) ((show ∀ k_, w'.heap.size ≤ k_ → (fun k_ => some k_ ≠ (.slice Ao34 t169.length co34 : Value).ownBlock ∧ some k_ ≠ (.slice Ao76 y193.length co76 : Value).ownBlock ∧ some k_ ≠ (.slice Ao97 t197.length co97 : Value).ownBlock ∧ some k_ ≠ (v202 : Value).ownBlock ∧ k_ ≠ gb167 ∧ k_ ≠ gb172 ∧ k_ ≠ gb196 ∧ k_ ≠ gb205 ∧ k_ ≠ gb206) k_ from fun k_ hk => ⟨Kd.fresh' (Kd.R_lt HO171.out) k_ hk, Kd.fresh' (Kd.R_lt HO195.out) k_ hk, Kd.fresh' (Kd.S_lt HO199.out) k_ hk, Kd.fresh' (Kd.S_lt HO203.out) k_ hk, Kd.freshB (g := gb167) (o := .cells #[.int .i64 2, .int .i64 7, .int .i64 3, .int .i64 1] 26 (0, 0)) BK167.out k_ hk, Kd.freshB (g := gb172) (o := .cells #[.int .i64 t168, .slice Ao34 t169.length co34] 31 (0, 0)) BK172.out k_ hk, Kd.freshB (g := gb196) (o := .cells #[.int .i64 4, .slice Ao76 y193.length co76] 31 (0, 0)) BK196.out k_ hk, Kd.freshB (g := gb205) (o := .cells #[.slice Ao97 t197.length co97, .int .i64 t200] 46 (0, 0)) BK205.out k_ hk, Kd.freshB (g := gb206) (o := .cells #[v202, .int .i64 t204] 46 (0, 0)) BK206.out k_ hk⟩) _ (Nat.le_refl _)) (Below.refl _ _) (Nat.le_refl _) (by simp) ?_; (case hd => rfl); (case hg => exact (wanted_on rfl rfl rfl (e65.trans (by first | rfl | (simp [*]; done))))); (case hr => first | (go_simp; done) | (go_simp; rfl)); (case hp => exact (Reps.one (show Kd.FK (Kd.slice 3 (Kd.int .i64)) _ _ y207 [.slice Ao106 y207.length co106] from (Kd.FK_slice_mk (Kd.R_reads' (Kd.R_mono (ok' := (fun k_ => some k_ ≠ (.slice Ao34 t169.length co34 : Value).ownBlock ∧ some k_ ≠ (.slice Ao76 y193.length co76 : Value).ownBlock ∧ some k_ ≠ (.slice Ao97 t197.length co97 : Value).ownBlock ∧ some k_ ≠ (v202 : Value).ownBlock ∧ k_ ≠ gb167 ∧ k_ ≠ gb172 ∧ k_ ≠ gb196 ∧ k_ ≠ gb205 ∧ k_ ≠ gb206)) (Kd.R_types (Kd.R_types (Kd.R_types (Kd.R_types (Kd.R_types (Kd.R_apart' (Kd.R_apart' (Kd.R_apart' (Kd.R_apart' (HO209.out) (Kd.R_typed HO171.out) (by decide)) (Kd.R_typed HO195.out) (by decide)) (Kd.S_typed HO199.out) (by decide)) (Kd.S_typed HO203.out) (by decide)) BK167.out (by decide)) BK172.out (by decide)) BK196.out (by decide)) BK205.out (by decide)) BK206.out (by decide)) (fun k_ hk => ⟨hk.1.1.1.1.1.1.1.1.2, ⟨hk.1.1.1.1.1.1.1.2, ⟨hk.1.1.1.1.1.1.2, ⟨hk.1.1.1.1.1.2, ⟨hk.1.1.1.1.2, ⟨hk.1.1.1.2, ⟨hk.1.1.2, ⟨hk.1.2, hk.2⟩⟩⟩⟩⟩⟩⟩⟩))).2.1 (Kd.R_F (Kd.R_mono (ok' := (fun k_ => some k_ ≠ (.slice Ao34 t169.length co34 : Value).ownBlock ∧ some k_ ≠ (.slice Ao76 y193.length co76 : Value).ownBlock ∧ some k_ ≠ (.slice Ao97 t197.length co97 : Value).ownBlock ∧ some k_ ≠ (v202 : Value).ownBlock ∧ k_ ≠ gb167 ∧ k_ ≠ gb172 ∧ k_ ≠ gb196 ∧ k_ ≠ gb205 ∧ k_ ≠ gb206)) (Kd.R_types (Kd.R_types (Kd.R_types (Kd.R_types (Kd.R_types (Kd.R_apart' (Kd.R_apart' (Kd.R_apart' (Kd.R_apart' (HO209.out) (Kd.R_typed HO171.out) (by decide)) (Kd.R_typed HO195.out) (by decide)) (Kd.S_typed HO199.out) (by decide)) (Kd.S_typed HO203.out) (by decide)) BK167.out (by decide)) BK172.out (by decide)) BK196.out (by decide)) BK205.out (by decide)) BK206.out (by decide)) (fun k_ hk => ⟨hk.1.1.1.1.1.1.1.1.2, ⟨hk.1.1.1.1.1.1.1.2, ⟨hk.1.1.1.1.1.1.2, ⟨hk.1.1.1.1.1.2, ⟨hk.1.1.1.1.2, ⟨hk.1.1.1.2, ⟨hk.1.1.2, ⟨hk.1.2, hk.2⟩⟩⟩⟩⟩⟩⟩⟩))))) (Reps.one (show Kd.FK (Kd.slice 3 (Kd.int .i64)) _ _ y210 [.slice Ao107 y210.length co107] from (Kd.FK_slice_mk (Kd.R_reads' (Kd.R_mono (ok' := (fun k_ => some k_ ≠ (.slice Ao34 t169.length co34 : Value).ownBlock ∧ some k_ ≠ (.slice Ao76 y193.length co76 : Value).ownBlock ∧ some k_ ≠ (.slice Ao97 t197.length co97 : Value).ownBlock ∧ some k_ ≠ (v202 : Value).ownBlock ∧ k_ ≠ gb167 ∧ k_ ≠ gb172 ∧ k_ ≠ gb196 ∧ k_ ≠ gb205 ∧ k_ ≠ gb206)) (Kd.R_types (Kd.R_types (Kd.R_types (Kd.R_types (Kd.R_types (Kd.R_apart' (Kd.R_apart' (Kd.R_apart' (Kd.R_apart' (HO212.out) (Kd.R_typed HO171.out) (by decide)) (Kd.R_typed HO195.out) (by decide)) (Kd.S_typed HO199.out) (by decide)) (Kd.S_typed HO203.out) (by decide)) BK167.out (by decide)) BK172.out (by decide)) BK196.out (by decide)) BK205.out (by decide)) BK206.out (by decide)) (fun k_ hk => ⟨hk.1.1.1.1.1.1.1.1.2, ⟨hk.1.1.1.1.1.1.1.2, ⟨hk.1.1.1.1.1.1.2, ⟨hk.1.1.1.1.1.2, ⟨hk.1.1.1.1.2, ⟨hk.1.1.1.2, ⟨hk.1.1.2, ⟨hk.1.2, hk.2⟩⟩⟩⟩⟩⟩⟩⟩))).2.1 (Kd.R_F (Kd.R_mono (ok' := (fun k_ => some k_ ≠ (.slice Ao34 t169.length co34 : Value).ownBlock ∧ some k_ ≠ (.slice Ao76 y193.length co76 : Value).ownBlock ∧ some k_ ≠ (.slice Ao97 t197.length co97 : Value).ownBlock ∧ some k_ ≠ (v202 : Value).ownBlock ∧ k_ ≠ gb167 ∧ k_ ≠ gb172 ∧ k_ ≠ gb196 ∧ k_ ≠ gb205 ∧ k_ ≠ gb206)) (Kd.R_types (Kd.R_types (Kd.R_types (Kd.R_types (Kd.R_types (Kd.R_apart' (Kd.R_apart' (Kd.R_apart' (Kd.R_apart' (HO212.out) (Kd.R_typed HO171.out) (by decide)) (Kd.R_typed HO195.out) (by decide)) (Kd.S_typed HO199.out) (by decide)) (Kd.S_typed HO203.out) (by decide)) BK167.out (by decide)) BK172.out (by decide)) BK196.out (by decide)) BK205.out (by decide)) BK206.out (by decide)) (fun k_ hk => ⟨hk.1.1.1.1.1.1.1.1.2, ⟨hk.1.1.1.1.1.1.1.2, ⟨hk.1.1.1.1.1.1.2, ⟨hk.1.1.1.1.1.2, ⟨hk.1.1.1.1.2, ⟨hk.1.1.1.2, ⟨hk.1.1.2, ⟨hk.1.2, hk.2⟩⟩⟩⟩⟩⟩⟩⟩))))) (Reps.one (show Kd.FK (Kd.slice 3 (Kd.int .i64)) _ _ y213 [.slice Ao108 y213.length co108] from (Kd.FK_slice_mk (Kd.R_reads' (Kd.R_mono (ok' := (fun k_ => some k_ ≠ (.slice Ao34 t169.length co34 : Value).ownBlock ∧ some k_ ≠ (.slice Ao76 y193.length co76 : Value).ownBlock ∧ some k_ ≠ (.slice Ao97 t197.length co97 : Value).ownBlock ∧ some k_ ≠ (v202 : Value).ownBlock ∧ k_ ≠ gb167 ∧ k_ ≠ gb172 ∧ k_ ≠ gb196 ∧ k_ ≠ gb205 ∧ k_ ≠ gb206)) (Kd.R_types (Kd.R_types (Kd.R_types (Kd.R_types (Kd.R_types (Kd.R_apart' (Kd.R_apart' (Kd.R_apart' (Kd.R_apart' (HO215.out) (Kd.R_typed HO171.out) (by decide)) (Kd.R_typed HO195.out) (by decide)) (Kd.S_typed HO199.out) (by decide)) (Kd.S_typed HO203.out) (by decide)) BK167.out (by decide)) BK172.out (by decide)) BK196.out (by decide)) BK205.out (by decide)) BK206.out (by decide)) (fun k_ hk => ⟨hk.1.1.1.1.1.1.1.1.2, ⟨hk.1.1.1.1.1.1.1.2, ⟨hk.1.1.1.1.1.1.2, ⟨hk.1.1.1.1.1.2, ⟨hk.1.1.1.1.2, ⟨hk.1.1.1.2, ⟨hk.1.1.2, ⟨hk.1.2, hk.2⟩⟩⟩⟩⟩⟩⟩⟩))).2.1 (Kd.R_F (Kd.R_mono (ok' := (fun k_ => some k_ ≠ (.slice Ao34 t169.length co34 : Value).ownBlock ∧ some k_ ≠ (.slice Ao76 y193.length co76 : Value).ownBlock ∧ some k_ ≠ (.slice Ao97 t197.length co97 : Value).ownBlock ∧ some k_ ≠ (v202 : Value).ownBlock ∧ k_ ≠ gb167 ∧ k_ ≠ gb172 ∧ k_ ≠ gb196 ∧ k_ ≠ gb205 ∧ k_ ≠ gb206)) (Kd.R_types (Kd.R_types (Kd.R_types (Kd.R_types (Kd.R_types (Kd.R_apart' (Kd.R_apart' (Kd.R_apart' (Kd.R_apart' (HO215.out) (Kd.R_typed HO171.out) (by decide)) (Kd.R_typed HO195.out) (by decide)) (Kd.S_typed HO199.out) (by decide)) (Kd.S_typed HO203.out) (by decide)) BK167.out (by decide)) BK172.out (by decide)) BK196.out (by decide)) BK205.out (by decide)) BK206.out (by decide)) (fun k_ hk => ⟨hk.1.1.1.1.1.1.1.1.2, ⟨hk.1.1.1.1.1.1.1.2, ⟨hk.1.1.1.1.1.1.2, ⟨hk.1.1.1.1.1.2, ⟨hk.1.1.1.1.2, ⟨hk.1.1.1.2, ⟨hk.1.1.2, ⟨hk.1.2, hk.2⟩⟩⟩⟩⟩⟩⟩⟩))))) (Reps.none _ _)))))
        intro v217 w109 ho110 hb hg_ hnew_
        clear hg_ hnew_
        (first | rw [← Ny216.out] at ho110 | (simp only [Int.reduceToNat] at ho110; rw [← Ny216.out] at ho110))
        have n0_ := Aside0.mk (Kd.R_below HO171.out hb)
        have n1_ := Aside0.mk (Kd.R_below HO195.out hb)
        have n2_ := Aside0.mk (Kd.S_elder' HO199.out (Kd.N_base ho110) hb)
        have n3_ := Aside0.mk (Kd.S_elder' HO203.out (Kd.N_base ho110) hb)
        have n4_ := Aside0.mk (Kd.N_lower ho110 (below_size HB.out))
        have n5_ := Aside0.mk (blk_below BK167.out hb)
        have n6_ := Aside0.mk (blk_below BK172.out hb)
        have n7_ := Aside0.mk (blk_below BK196.out hb)
        have n8_ := Aside0.mk (blk_below BK205.out hb)
        have n9_ := Aside0.mk (blk_below BK206.out hb)
        have n10_ := Aside0.mk (below_step HB.out hb)
        clear HO171
        clear HO195
        clear HO199
        clear HO203
        clear BK167
        clear BK172
        clear BK196
        clear BK205
        clear BK206
        clear HB
        clear HO209
        clear HO212
        clear HO215
        have HO171 := n0_
        have HO195 := n1_
        have HO199 := n2_
        have HO203 := n3_
        have HO218 := n4_
        have BK167 := n5_
        have BK172 := n6_
        have BK196 := n7_
        have BK205 := n8_
        have BK206 := n9_
        have HB := n10_
        clear n0_ n1_ n2_ n3_ n4_ n5_ n6_ n7_ n8_ n9_ n10_
        clear hb ho110
        refine hK.out _ _ ⟨.slice Ao106 y207.length co106, .slice Ao107 y210.length co107, .slice Ao108 y213.length co108, v217, (by rw [ha.out]; exact putSel_upk 8 hb_ rfl rfl rfl), HO171.out, HO195.out, (by (with_reducible repeat (first | apply Kd.S_alloc | apply Kd.S_drewN | apply Kd.S_drew)); exact Kd.S_mono HO199.out (fun _ hk => by first | exact hk.2 | trivial)), (by (with_reducible repeat (first | apply Kd.S_alloc | apply Kd.S_drewN | apply Kd.S_drew)); exact Kd.S_mono HO203.out (fun _ hk => by first | exact hk.2 | trivial)), BK167.out, BK172.out, BK196.out, BK205.out, BK206.out, HB.out, fun _ h1_ => absurd ((up_self b 9).symm.trans h1_) (by decide), fun _ h1_ => absurd ((up_self b 9).symm.trans h1_) (by decide), fun _ h1_ => absurd ((up_self b 9).symm.trans h1_) (by decide), fun _ => HO218.out⟩
      refine steps_cons ?_ ?_
      · rintro b a w' ⟨v208, v211, v214, v217, ha, Q_HO171, Q_HO195, Q_HO199, Q_HO203, Q_BK167, Q_BK172, Q_BK196, Q_BK205, Q_BK206, Q_HB, Q_HO209, Q_HO212, Q_HO215, Q_HO218⟩ hb_ hon hoff
        refine ⟨_, rfl, fun K hK => ?_⟩
        have e67 : a.tmps[67]? = some (.slice Ao97 t197.length co97) := by rw [ha]; exact putSel_on (e := (5, 67, .slice Ao97 t197.length co97)) 4 rfl rfl (hon 5 (by kernel_rfl)) rfl
        have e71 : a.tmps[71]? = some (v217) := by rw [ha]; exact putSel_on (e := (9, 71, v217)) 8 rfl rfl (hon 9 (by kernel_rfl)) rfl
        have e65 : a.tmps[65]? = some (.bool (t200 == 0)) := by rw [ha]; exact putSel_on (e := (3, 65, .bool (t200 == 0))) 2 rfl rfl (hon 3 (by kernel_rfl)) rfl
        replace ha := Aside0.mk ha
        have HO171 := Aside0.mk Q_HO171
        have HO195 := Aside0.mk Q_HO195
        have HO199 := Aside0.mk Q_HO199
        have HO203 := Aside0.mk Q_HO203
        have BK167 := Aside0.mk Q_BK167
        have BK172 := Aside0.mk Q_BK172
        have BK196 := Aside0.mk Q_BK196
        have BK205 := Aside0.mk Q_BK205
        have BK206 := Aside0.mk Q_BK206
        have HB := Aside0.mk Q_HB
        have HO218 := Aside0.mk (Q_HO218 (hon 9 (by kernel_rfl)))
        obtain ⟨Ao111, co111, eo111⟩ := Kd.N_slice HO218.out
        (first | subst eo111 | (injection eo111 with f1_ f2_ f3_; have f4_ := f1_.symm; have f5_ := f3_.symm; clear f1_ f2_ f3_; subst f4_; subst f5_))
        refine goes_ Tryd.func21 (by kernel_rfl) rfl #[.slice Ao97 t197.length co97, .slice Ao111 y216.length co111] (wanted_on rfl rfl rfl (e65.trans (by first | rfl | (simp [*]; done)))) rfl rfl (by first | (simp only [List.map_toArray, List.map_cons, List.map_nil, Act.eval, Array.getD_eq_getD_getElem?, Option.getD_some, e67, e71, e65]; done) | (simp only [List.map_toArray, List.map_cons, List.map_nil, Act.eval, Array.getD_eq_getD_getElem?, Option.getD_some, e67, e71, e65]; rfl)) ?_
        with_reducible refine (plexusref06_SameRows.calls k _ _ t197 _ _ y216 true _ ?side1 ?side2 ?side3 ?side4 A17.out).mono ?_
        (case side1 => repeat (first | exact (Kd.S_reads' HO199.out).2.2 | (with_reducible refine Kd.C_alloc ?_ _) | (with_reducible refine Kd.C_drewN ?_ _) | (with_reducible refine Kd.C_drew ?_)))
        (case side2 => exact (Kd.S_reads' HO199.out).2.1)
        (case side3 => repeat (first | exact (Kd.N_reads' HO218.out).2.2 | (with_reducible refine Kd.C_alloc ?_ _) | (with_reducible refine Kd.C_drewN ?_ _) | (with_reducible refine Kd.C_drew ?_)))
        (case side4 => exact (Kd.N_reads' HO218.out).2.1)
        rintro e w112 ⟨rfl, hb⟩
        refine ⟨_, rfl, ?_⟩
        have n0_ := Aside0.mk (Kd.R_below HO171.out hb)
        have n1_ := Aside0.mk (Kd.R_below HO195.out hb)
        have n2_ := Aside0.mk (Kd.S_below HO199.out hb)
        have n3_ := Aside0.mk (Kd.S_below HO203.out hb)
        have n4_ := Aside0.mk (Kd.N_below HO218.out hb)
        have n5_ := Aside0.mk (blk_below BK167.out hb)
        have n6_ := Aside0.mk (blk_below BK172.out hb)
        have n7_ := Aside0.mk (blk_below BK196.out hb)
        have n8_ := Aside0.mk (blk_below BK205.out hb)
        have n9_ := Aside0.mk (blk_below BK206.out hb)
        have n10_ := Aside0.mk (below_step HB.out hb)
        clear HO171
        clear HO195
        clear HO199
        clear HO203
        clear HO218
        clear BK167
        clear BK172
        clear BK196
        clear BK205
        clear BK206
        clear HB
        have HO171 := n0_
        have HO195 := n1_
        have HO199 := n2_
        have HO203 := n3_
        have HO218 := n4_
        have BK167 := n5_
        have BK172 := n6_
        have BK196 := n7_
        have BK205 := n8_
        have BK206 := n9_
        have HB := n10_
        clear n0_ n1_ n2_ n3_ n4_ n5_ n6_ n7_ n8_ n9_ n10_
        (try clear hb)
        (try clear hb2)
        (try clear hk)
        (try clear hi)
        refine hK.out _ _ ⟨v208, v211, v214, .slice Ao111 y216.length co111, (by rw [ha.out]; exact putSel_upk 9 hb_ rfl rfl rfl), HO171.out, HO195.out, HO199.out, HO203.out, BK167.out, BK172.out, BK196.out, BK205.out, BK206.out, HB.out, fun _ h1_ => absurd ((hon 9 (by kernel_rfl)).symm.trans h1_) (by decide), fun _ h1_ => absurd ((hon 9 (by kernel_rfl)).symm.trans h1_) (by decide), fun _ h1_ => absurd ((hon 9 (by kernel_rfl)).symm.trans h1_) (by decide), fun _ => HO218.out⟩
      refine steps_cons ?_ ?_
      · rintro b a w' ⟨v208, v211, v214, v217, ha, Q_HO171, Q_HO195, Q_HO199, Q_HO203, Q_BK167, Q_BK172, Q_BK196, Q_BK205, Q_BK206, Q_HB, Q_HO209, Q_HO212, Q_HO215, Q_HO218⟩ hb_ hon hoff
        refine ⟨_, rfl, fun K hK => ?_⟩
        have e65 : a.tmps[65]? = some (.bool (t200 == 0)) := by rw [ha]; exact putSel_on (e := (3, 65, .bool (t200 == 0))) 2 rfl rfl (hon 3 (by kernel_rfl)) rfl
        have e72 : a.tmps[72]? = some (.bool true) := by rw [ha]; exact putSel_on (e := (10, 72, .bool true)) 9 rfl rfl (hon 10 (by kernel_rfl)) rfl
        replace ha := Aside0.mk ha
        refine value_ (w1 := w') (v := .bool true) (by rfl) rfl ?_ ?_
        · go_simp
          (try simp only [i64_w])
          try rfl
        refine hK.out _ _ ⟨v208, v211, v214, v217, (by rw [ha.out]; exact putSel_upk 10 hb_ rfl rfl rfl), Q_HO171, Q_HO195, Q_HO199, Q_HO203, Q_BK167, Q_BK172, Q_BK196, Q_BK205, Q_BK206, Q_HB, fun _ h1_ => absurd ((hon 9 (by kernel_rfl)).symm.trans h1_) (by decide), fun _ h1_ => absurd ((hon 9 (by kernel_rfl)).symm.trans h1_) (by decide), fun _ h1_ => absurd ((hon 9 (by kernel_rfl)).symm.trans h1_) (by decide), Q_HO218⟩
      refine steps_cons ?_ ?_
      · rintro b a w' ⟨v208, v211, v214, v217, ha, Q_HO171, Q_HO195, Q_HO199, Q_HO203, Q_BK167, Q_BK172, Q_BK196, Q_BK205, Q_BK206, Q_HB, Q_HO209, Q_HO212, Q_HO215, Q_HO218⟩ hb_ hon hoff
        refine ⟨_, rfl, fun K hK => ?_⟩
        have e73 : a.tmps[73]? = some (.bool true) := by rw [ha]; exact putSel_on (e := (11, 73, .bool true)) 10 rfl rfl (hon 11 (by kernel_rfl)) rfl
        replace ha := Aside0.mk ha
        refine value_ (w1 := w') (v := .bool true) (by rfl) rfl ?_ ?_
        · go_simp
          (try simp only [i64_w])
          try rfl
        refine hK.out _ _ ⟨v208, v211, v214, v217, (by rw [ha.out]; exact putSel_upk 11 hb_ rfl rfl rfl), Q_HO171, Q_HO195, Q_HO199, Q_HO203, Q_BK167, Q_BK172, Q_BK196, Q_BK205, Q_BK206, Q_HB, fun _ h1_ => absurd ((hon 9 (by kernel_rfl)).symm.trans h1_) (by decide), fun _ h1_ => absurd ((hon 9 (by kernel_rfl)).symm.trans h1_) (by decide), fun _ h1_ => absurd ((hon 9 (by kernel_rfl)).symm.trans h1_) (by decide), Q_HO218⟩
      refine steps_cons ?_ ?_
      · rintro b a w' ⟨v208, v211, v214, v217, ha, Q_HO171, Q_HO195, Q_HO199, Q_HO203, Q_BK167, Q_BK172, Q_BK196, Q_BK205, Q_BK206, Q_HB, Q_HO209, Q_HO212, Q_HO215, Q_HO218⟩ hb_ hon hoff
        refine ⟨_, rfl, fun K hK => ?_⟩
        have e8 : a.tmps[8]? = some (.pointer (some ⟨gb206, 0, none⟩)) := by rw [ha]; exact (putSel_off rfl).trans rfl
        have e74 : a.tmps[74]? = some (.bool true) := by rw [ha]; exact putSel_on (e := (12, 74, .bool true)) 11 rfl rfl (hon 12 (by kernel_rfl)) rfl
        replace ha := Aside0.mk ha
        refine value_ (w1 := w') (v := .pointer (some ⟨gb206, 1, none⟩)) (wanted_on rfl rfl rfl (e74.trans (by first | rfl | (simp [*]; done)))) rfl ?_ ?_
        · go_simp
          (try simp only [i64_w])
          try rfl
        refine hK.out _ _ ⟨v208, v211, v214, v217, (by rw [ha.out]; exact putSel_upk 12 hb_ rfl rfl rfl), Q_HO171, Q_HO195, Q_HO199, Q_HO203, Q_BK167, Q_BK172, Q_BK196, Q_BK205, Q_BK206, Q_HB, fun _ h1_ => absurd ((hon 9 (by kernel_rfl)).symm.trans h1_) (by decide), fun _ h1_ => absurd ((hon 9 (by kernel_rfl)).symm.trans h1_) (by decide), fun _ h1_ => absurd ((hon 9 (by kernel_rfl)).symm.trans h1_) (by decide), Q_HO218⟩
      refine steps_cons ?_ ?_
      · rintro b a w' ⟨v208, v211, v214, v217, ha, Q_HO171, Q_HO195, Q_HO199, Q_HO203, Q_BK167, Q_BK172, Q_BK196, Q_BK205, Q_BK206, Q_HB, Q_HO209, Q_HO212, Q_HO215, Q_HO218⟩ hb_ hon hoff
        refine ⟨_, rfl, fun K hK => ?_⟩
        have e75 : a.tmps[75]? = some (.pointer (some ⟨gb206, 1, none⟩)) := by rw [ha]; exact putSel_on (e := (13, 75, .pointer (some ⟨gb206, 1, none⟩))) 12 rfl rfl (hon 13 (by kernel_rfl)) rfl
        have e74 : a.tmps[74]? = some (.bool true) := by rw [ha]; exact putSel_on (e := (12, 74, .bool true)) 11 rfl rfl (hon 12 (by kernel_rfl)) rfl
        replace ha := Aside0.mk ha
        have BK206 := Aside0.mk Q_BK206
        have hc0_ : w'.cell? ⟨gb206, 0, none⟩ = some (v202) := (blk_cell BK206.out 0).trans rfl
        have hc1_ : w'.cell? ⟨gb206, 1, none⟩ = some (.int .i64 t204) := (blk_cell BK206.out 1).trans rfl
        refine value_ (w1 := w') (v := .int .i64 t204) (wanted_on rfl rfl rfl (e74.trans (by first | rfl | (simp [*]; done)))) rfl ?_ ?_
        · go_simp
          (try simp only [i64_w])
          try rfl
        refine hK.out _ _ ⟨v208, v211, v214, v217, (by rw [ha.out]; exact putSel_upk 13 hb_ rfl rfl rfl), Q_HO171, Q_HO195, Q_HO199, Q_HO203, Q_BK167, Q_BK172, Q_BK196, Q_BK205, Q_BK206, Q_HB, fun _ h1_ => absurd ((hon 9 (by kernel_rfl)).symm.trans h1_) (by decide), fun _ h1_ => absurd ((hon 9 (by kernel_rfl)).symm.trans h1_) (by decide), fun _ h1_ => absurd ((hon 9 (by kernel_rfl)).symm.trans h1_) (by decide), Q_HO218⟩
      refine steps_cons ?_ ?_
      · rintro b a w' ⟨v208, v211, v214, v217, ha, Q_HO171, Q_HO195, Q_HO199, Q_HO203, Q_BK167, Q_BK172, Q_BK196, Q_BK205, Q_BK206, Q_HB, Q_HO209, Q_HO212, Q_HO215, Q_HO218⟩ hb_ hon hoff
        refine ⟨_, rfl, fun K hK => ?_⟩
        have e76 : a.tmps[76]? = some (.int .i64 t204) := by rw [ha]; exact putSel_on (e := (14, 76, .int .i64 t204)) 13 rfl rfl (hon 14 (by kernel_rfl)) rfl
        have e74 : a.tmps[74]? = some (.bool true) := by rw [ha]; exact putSel_on (e := (12, 74, .bool true)) 11 rfl rfl (hon 12 (by kernel_rfl)) rfl
        replace ha := Aside0.mk ha
        refine value_ (w1 := w') (v := .bool (t204 == 4)) (wanted_on rfl rfl rfl (e74.trans (by first | rfl | (simp [*]; done)))) rfl ?_ ?_
        · go_simp
          (try simp only [i64_w])
          try rfl
        refine hK.out _ _ ⟨v208, v211, v214, v217, (by rw [ha.out]; exact putSel_upk 14 hb_ rfl rfl rfl), Q_HO171, Q_HO195, Q_HO199, Q_HO203, Q_BK167, Q_BK172, Q_BK196, Q_BK205, Q_BK206, Q_HB, fun _ h1_ => absurd ((hon 9 (by kernel_rfl)).symm.trans h1_) (by decide), fun _ h1_ => absurd ((hon 9 (by kernel_rfl)).symm.trans h1_) (by decide), fun _ h1_ => absurd ((hon 9 (by kernel_rfl)).symm.trans h1_) (by decide), Q_HO218⟩
      refine steps_cons ?_ ?_
      · rintro b a w' ⟨v208, v211, v214, v217, ha, Q_HO171, Q_HO195, Q_HO199, Q_HO203, Q_BK167, Q_BK172, Q_BK196, Q_BK205, Q_BK206, Q_HB, Q_HO209, Q_HO212, Q_HO215, Q_HO218⟩ hb_ hon hoff
        refine ⟨_, rfl, fun K hK => ?_⟩
        have e74 : a.tmps[74]? = some (.bool true) := by rw [ha]; exact putSel_on (e := (12, 74, .bool true)) 11 rfl rfl (hon 12 (by kernel_rfl)) rfl
        have e77 : a.tmps[77]? = some (.bool (t204 == 4)) := by rw [ha]; exact putSel_on (e := (15, 77, .bool (t204 == 4))) 14 rfl rfl (hon 15 (by kernel_rfl)) rfl
        replace ha := Aside0.mk ha
        refine value_ (w1 := w') (v := .bool (t204 == 4)) (by rfl) rfl ?_ ?_
        · go_simp
          (try simp only [i64_w])
          try rfl
        refine hK.out _ _ ⟨v208, v211, v214, v217, (by rw [ha.out]; exact putSel_upk 15 hb_ rfl rfl rfl), Q_HO171, Q_HO195, Q_HO199, Q_HO203, Q_BK167, Q_BK172, Q_BK196, Q_BK205, Q_BK206, Q_HB, fun _ h1_ => absurd ((hon 9 (by kernel_rfl)).symm.trans h1_) (by decide), fun _ h1_ => absurd ((hon 9 (by kernel_rfl)).symm.trans h1_) (by decide), fun _ h1_ => absurd ((hon 9 (by kernel_rfl)).symm.trans h1_) (by decide), Q_HO218⟩
      refine steps_cons ?_ ?_
      · rintro b a w' ⟨v208, v211, v214, v217, ha, Q_HO171, Q_HO195, Q_HO199, Q_HO203, Q_BK167, Q_BK172, Q_BK196, Q_BK205, Q_BK206, Q_HB, Q_HO209, Q_HO212, Q_HO215, Q_HO218⟩ hb_ hon hoff
        refine ⟨_, rfl, fun K hK => ?_⟩
        have e78 : a.tmps[78]? = some (.bool (t204 == 4)) := by rw [ha]; exact putSel_on (e := (16, 78, .bool (t204 == 4))) 15 rfl rfl (hon 16 (by kernel_rfl)) rfl
        replace ha := Aside0.mk ha
        refine value_ (w1 := w') (v := .bool (t204 == 4)) (by rfl) rfl ?_ ?_
        · go_simp
          (try simp only [i64_w])
          try rfl
        refine hK.out _ _ ⟨v208, v211, v214, v217, (by rw [ha.out]; exact putSel_upk 16 hb_ rfl rfl rfl), Q_HO171, Q_HO195, Q_HO199, Q_HO203, Q_BK167, Q_BK172, Q_BK196, Q_BK205, Q_BK206, Q_HB, fun _ h1_ => absurd ((hon 9 (by kernel_rfl)).symm.trans h1_) (by decide), fun _ h1_ => absurd ((hon 9 (by kernel_rfl)).symm.trans h1_) (by decide), fun _ h1_ => absurd ((hon 9 (by kernel_rfl)).symm.trans h1_) (by decide), Q_HO218⟩
      refine steps_cons ?_ ?_
      · rintro b a w' ⟨v208, v211, v214, v217, ha, Q_HO171, Q_HO195, Q_HO199, Q_HO203, Q_BK167, Q_BK172, Q_BK196, Q_BK205, Q_BK206, Q_HB, Q_HO209, Q_HO212, Q_HO215, Q_HO218⟩ hb_ hon hoff
        refine ⟨_, rfl, fun K hK => ?_⟩
        have e6 : a.tmps[6]? = some (.pointer (some ⟨gb196, 0, none⟩)) := by rw [ha]; exact (putSel_off rfl).trans rfl
        have e79 : a.tmps[79]? = some (.bool (t204 == 4)) := by rw [ha]; exact putSel_on (e := (17, 79, .bool (t204 == 4))) 16 rfl rfl (hon 17 (by kernel_rfl)) rfl
        replace ha := Aside0.mk ha
        have BK196 := Aside0.mk Q_BK196
        have hc0_ : w'.cell? ⟨gb196, 0, none⟩ = some (.int .i64 4) := (blk_cell BK196.out 0).trans rfl
        have hc1_ : w'.cell? ⟨gb196, 1, none⟩ = some (.slice Ao76 y193.length co76) := (blk_cell BK196.out 1).trans rfl
        refine value_ (w1 := w') (v := .agg #[.int .i64 4, .slice Ao76 y193.length co76]) (wanted_on rfl rfl rfl (e79.trans (by first | rfl | (simp [*]; done)))) rfl ?_ ?_
        · go_simp
          (try simp only [i64_w])
          try rfl
        refine hK.out _ _ ⟨v208, v211, v214, v217, (by rw [ha.out]; exact putSel_upk 17 hb_ rfl rfl rfl), Q_HO171, Q_HO195, Q_HO199, Q_HO203, Q_BK167, Q_BK172, Q_BK196, Q_BK205, Q_BK206, Q_HB, fun _ h1_ => absurd ((hon 9 (by kernel_rfl)).symm.trans h1_) (by decide), fun _ h1_ => absurd ((hon 9 (by kernel_rfl)).symm.trans h1_) (by decide), fun _ h1_ => absurd ((hon 9 (by kernel_rfl)).symm.trans h1_) (by decide), Q_HO218⟩
      refine steps_cons ?_ ?_
      · rintro b a w' ⟨v208, v211, v214, v217, ha, Q_HO171, Q_HO195, Q_HO199, Q_HO203, Q_BK167, Q_BK172, Q_BK196, Q_BK205, Q_BK206, Q_HB, Q_HO209, Q_HO212, Q_HO215, Q_HO218⟩ hb_ hon hoff
        refine ⟨_, rfl, fun K hK => ?_⟩
        have e7 : a.tmps[7]? = some (.pointer (some ⟨gb205, 0, none⟩)) := by rw [ha]; exact (putSel_off rfl).trans rfl
        have e79 : a.tmps[79]? = some (.bool (t204 == 4)) := by rw [ha]; exact putSel_on (e := (17, 79, .bool (t204 == 4))) 16 rfl rfl (hon 17 (by kernel_rfl)) rfl
        replace ha := Aside0.mk ha
        refine value_ (w1 := w') (v := .pointer (some ⟨gb205, 0, none⟩)) (wanted_on rfl rfl rfl (e79.trans (by first | rfl | (simp [*]; done)))) rfl ?_ ?_
        · go_simp
          (try simp only [i64_w])
          try rfl
        refine hK.out _ _ ⟨v208, v211, v214, v217, (by rw [ha.out]; exact putSel_upk 18 hb_ rfl rfl rfl), Q_HO171, Q_HO195, Q_HO199, Q_HO203, Q_BK167, Q_BK172, Q_BK196, Q_BK205, Q_BK206, Q_HB, fun _ h1_ => absurd ((hon 9 (by kernel_rfl)).symm.trans h1_) (by decide), fun _ h1_ => absurd ((hon 9 (by kernel_rfl)).symm.trans h1_) (by decide), fun _ h1_ => absurd ((hon 9 (by kernel_rfl)).symm.trans h1_) (by decide), Q_HO218⟩
      refine steps_cons ?_ ?_
      · rintro b a w' ⟨v208, v211, v214, v217, ha, Q_HO171, Q_HO195, Q_HO199, Q_HO203, Q_BK167, Q_BK172, Q_BK196, Q_BK205, Q_BK206, Q_HB, Q_HO209, Q_HO212, Q_HO215, Q_HO218⟩ hb_ hon hoff
        refine ⟨_, rfl, fun K hK => ?_⟩
        have e81 : a.tmps[81]? = some (.pointer (some ⟨gb205, 0, none⟩)) := by rw [ha]; exact putSel_on (e := (19, 81, .pointer (some ⟨gb205, 0, none⟩))) 18 rfl rfl (hon 19 (by kernel_rfl)) rfl
        have e79 : a.tmps[79]? = some (.bool (t204 == 4)) := by rw [ha]; exact putSel_on (e := (17, 79, .bool (t204 == 4))) 16 rfl rfl (hon 17 (by kernel_rfl)) rfl
        replace ha := Aside0.mk ha
        have BK205 := Aside0.mk Q_BK205
        have hc0_ : w'.cell? ⟨gb205, 0, none⟩ = some (.slice Ao97 t197.length co97) := (blk_cell BK205.out 0).trans rfl
        have hc1_ : w'.cell? ⟨gb205, 1, none⟩ = some (.int .i64 t200) := (blk_cell BK205.out 1).trans rfl
        refine value_ (w1 := w') (v := .slice Ao97 t197.length co97) (wanted_on rfl rfl rfl (e79.trans (by first | rfl | (simp [*]; done)))) rfl ?_ ?_
        · go_simp
          (try simp only [i64_w])
          try rfl
        refine hK.out _ _ ⟨v208, v211, v214, v217, (by rw [ha.out]; exact putSel_upk 19 hb_ rfl rfl rfl), Q_HO171, Q_HO195, Q_HO199, Q_HO203, Q_BK167, Q_BK172, Q_BK196, Q_BK205, Q_BK206, Q_HB, fun _ h1_ => absurd ((hon 9 (by kernel_rfl)).symm.trans h1_) (by decide), fun _ h1_ => absurd ((hon 9 (by kernel_rfl)).symm.trans h1_) (by decide), fun _ h1_ => absurd ((hon 9 (by kernel_rfl)).symm.trans h1_) (by decide), Q_HO218⟩
      refine steps_cons ?_ ?_
      · rintro b a w' ⟨v208, v211, v214, v217, ha, Q_HO171, Q_HO195, Q_HO199, Q_HO203, Q_BK167, Q_BK172, Q_BK196, Q_BK205, Q_BK206, Q_HB, Q_HO209, Q_HO212, Q_HO215, Q_HO218⟩ hb_ hon hoff
        refine ⟨_, rfl, fun K hK => ?_⟩
        have e80 : a.tmps[80]? = some (.agg #[.int .i64 4, .slice Ao76 y193.length co76]) := by rw [ha]; exact putSel_on (e := (18, 80, .agg #[.int .i64 4, .slice Ao76 y193.length co76])) 17 rfl rfl (hon 18 (by kernel_rfl)) rfl
        have e82 : a.tmps[82]? = some (.slice Ao97 t197.length co97) := by rw [ha]; exact putSel_on (e := (20, 82, .slice Ao97 t197.length co97)) 19 rfl rfl (hon 20 (by kernel_rfl)) rfl
        have e79 : a.tmps[79]? = some (.bool (t204 == 4)) := by rw [ha]; exact putSel_on (e := (17, 79, .bool (t204 == 4))) 16 rfl rfl (hon 17 (by kernel_rfl)) rfl
        replace ha := Aside0.mk ha
        have HO171 := Aside0.mk Q_HO171
        have HO195 := Aside0.mk Q_HO195
        have HO199 := Aside0.mk Q_HO199
        have HO203 := Aside0.mk Q_HO203
        have BK167 := Aside0.mk Q_BK167
        have BK172 := Aside0.mk Q_BK172
        have BK196 := Aside0.mk Q_BK196
        have BK205 := Aside0.mk Q_BK205
        have BK206 := Aside0.mk Q_BK206
        have HB := Aside0.mk Q_HB
        have HO218 := Aside0.mk (Q_HO218 (hon 9 (by kernel_rfl)))
        refine goes_ Tryd.func22 (by kernel_rfl) rfl #[.agg #[.int .i64 4, .slice Ao76 y193.length co76], .slice Ao97 t197.length co97] (wanted_on rfl rfl rfl (e79.trans (by first | rfl | (simp [*]; done)))) rfl rfl (by first | (simp only [List.map_toArray, List.map_cons, List.map_nil, Act.eval, Array.getD_eq_getD_getElem?, Option.getD_some, e80, e82, e79]; done) | (simp only [List.map_toArray, List.map_cons, List.map_nil, Act.eval, Array.getD_eq_getD_getElem?, Option.getD_some, e80, e82, e79]; rfl)) ?_
        with_reducible refine (design_Classes.calls k 4 _ _ y193 _ _ t197 t220 _ ?side1 ?side2 ?side3 ?side4 A20.out).mono ?_
        (case side1 => repeat (first | exact (Kd.R_reads' HO195.out).2.2 | (with_reducible refine Kd.C_alloc ?_ _) | (with_reducible refine Kd.C_drewN ?_ _) | (with_reducible refine Kd.C_drew ?_)))
        (case side2 => exact (Kd.R_reads' HO195.out).2.1)
        (case side3 => repeat (first | exact (Kd.S_reads' HO199.out).2.2 | (with_reducible refine Kd.C_alloc ?_ _) | (with_reducible refine Kd.C_drewN ?_ _) | (with_reducible refine Kd.C_drew ?_)))
        (case side4 => exact (Kd.S_reads' HO199.out).2.1)
        rintro e w113 ⟨rfl, hb⟩
        refine ⟨_, rfl, ?_⟩
        have n0_ := Aside0.mk (Kd.R_below HO171.out hb)
        have n1_ := Aside0.mk (Kd.R_below HO195.out hb)
        have n2_ := Aside0.mk (Kd.S_below HO199.out hb)
        have n3_ := Aside0.mk (Kd.S_below HO203.out hb)
        have n4_ := Aside0.mk (Kd.N_below HO218.out hb)
        have n5_ := Aside0.mk (blk_below BK167.out hb)
        have n6_ := Aside0.mk (blk_below BK172.out hb)
        have n7_ := Aside0.mk (blk_below BK196.out hb)
        have n8_ := Aside0.mk (blk_below BK205.out hb)
        have n9_ := Aside0.mk (blk_below BK206.out hb)
        have n10_ := Aside0.mk (below_step HB.out hb)
        clear HO171
        clear HO195
        clear HO199
        clear HO203
        clear HO218
        clear BK167
        clear BK172
        clear BK196
        clear BK205
        clear BK206
        clear HB
        have HO171 := n0_
        have HO195 := n1_
        have HO199 := n2_
        have HO203 := n3_
        have HO218 := n4_
        have BK167 := n5_
        have BK172 := n6_
        have BK196 := n7_
        have BK205 := n8_
        have BK206 := n9_
        have HB := n10_
        clear n0_ n1_ n2_ n3_ n4_ n5_ n6_ n7_ n8_ n9_ n10_
        (try clear hb)
        (try clear hb2)
        (try clear hk)
        (try clear hi)
        refine hK.out _ _ ⟨v208, v211, v214, v217, (by rw [ha.out]; exact putSel_upk 20 hb_ rfl rfl rfl), HO171.out, HO195.out, HO199.out, HO203.out, BK167.out, BK172.out, BK196.out, BK205.out, BK206.out, HB.out, fun _ h1_ => absurd ((hon 9 (by kernel_rfl)).symm.trans h1_) (by decide), fun _ h1_ => absurd ((hon 9 (by kernel_rfl)).symm.trans h1_) (by decide), fun _ h1_ => absurd ((hon 9 (by kernel_rfl)).symm.trans h1_) (by decide), fun _ => HO218.out⟩
      refine steps_cons ?_ ?_
      · rintro b a w' ⟨v208, v211, v214, v217, ha, Q_HO171, Q_HO195, Q_HO199, Q_HO203, Q_BK167, Q_BK172, Q_BK196, Q_BK205, Q_BK206, Q_HB, Q_HO209, Q_HO212, Q_HO215, Q_HO218⟩ hb_ hon hoff
        refine ⟨_, rfl, fun K hK => ?_⟩
        have e83 : a.tmps[83]? = some (.int .i64 t220) := by rw [ha]; exact putSel_on (e := (21, 83, .int .i64 t220)) 20 rfl rfl (hon 21 (by kernel_rfl)) rfl
        have e79 : a.tmps[79]? = some (.bool (t204 == 4)) := by rw [ha]; exact putSel_on (e := (17, 79, .bool (t204 == 4))) 16 rfl rfl (hon 17 (by kernel_rfl)) rfl
        replace ha := Aside0.mk ha
        refine value_ (w1 := w') (v := .bool (t220 == 0)) (wanted_on rfl rfl rfl (e79.trans (by first | rfl | (simp [*]; done)))) rfl ?_ ?_
        · go_simp
          (try simp only [i64_w])
          try rfl
        refine hK.out _ _ ⟨v208, v211, v214, v217, (by rw [ha.out]; exact putSel_upk 21 hb_ rfl rfl rfl), Q_HO171, Q_HO195, Q_HO199, Q_HO203, Q_BK167, Q_BK172, Q_BK196, Q_BK205, Q_BK206, Q_HB, fun _ h1_ => absurd ((hon 9 (by kernel_rfl)).symm.trans h1_) (by decide), fun _ h1_ => absurd ((hon 9 (by kernel_rfl)).symm.trans h1_) (by decide), fun _ h1_ => absurd ((hon 9 (by kernel_rfl)).symm.trans h1_) (by decide), Q_HO218⟩
      refine steps_cons ?_ ?_
      · rintro b a w' ⟨v208, v211, v214, v217, ha, Q_HO171, Q_HO195, Q_HO199, Q_HO203, Q_BK167, Q_BK172, Q_BK196, Q_BK205, Q_BK206, Q_HB, Q_HO209, Q_HO212, Q_HO215, Q_HO218⟩ hb_ hon hoff
        refine ⟨_, rfl, fun K hK => ?_⟩
        have e79 : a.tmps[79]? = some (.bool (t204 == 4)) := by rw [ha]; exact putSel_on (e := (17, 79, .bool (t204 == 4))) 16 rfl rfl (hon 17 (by kernel_rfl)) rfl
        have e84 : a.tmps[84]? = some (.bool (t220 == 0)) := by rw [ha]; exact putSel_on (e := (22, 84, .bool (t220 == 0))) 21 rfl rfl (hon 22 (by kernel_rfl)) rfl
        replace ha := Aside0.mk ha
        refine value_ (w1 := w') (v := .bool (t220 == 0)) (by rfl) rfl ?_ ?_
        · go_simp
          (try simp only [i64_w])
          try rfl
        refine hK.out _ _ ⟨v208, v211, v214, v217, (by rw [ha.out]; exact putSel_upk 22 hb_ rfl rfl rfl), Q_HO171, Q_HO195, Q_HO199, Q_HO203, Q_BK167, Q_BK172, Q_BK196, Q_BK205, Q_BK206, Q_HB, fun _ h1_ => absurd ((hon 9 (by kernel_rfl)).symm.trans h1_) (by decide), fun _ h1_ => absurd ((hon 9 (by kernel_rfl)).symm.trans h1_) (by decide), fun _ h1_ => absurd ((hon 9 (by kernel_rfl)).symm.trans h1_) (by decide), Q_HO218⟩
      refine steps_cons ?_ ?_
      · rintro b a w' ⟨v208, v211, v214, v217, ha, Q_HO171, Q_HO195, Q_HO199, Q_HO203, Q_BK167, Q_BK172, Q_BK196, Q_BK205, Q_BK206, Q_HB, Q_HO209, Q_HO212, Q_HO215, Q_HO218⟩ hb_ hon hoff
        refine ⟨_, rfl, fun K hK => ?_⟩
        have e85 : a.tmps[85]? = some (.bool (t220 == 0)) := by rw [ha]; exact putSel_on (e := (23, 85, .bool (t220 == 0))) 22 rfl rfl (hon 23 (by kernel_rfl)) rfl
        replace ha := Aside0.mk ha
        refine value_ (w1 := w') (v := .bool (t220 == 0)) (by rfl) rfl ?_ ?_
        · go_simp
          (try simp only [i64_w])
          try rfl
        refine hK.out _ _ ⟨v208, v211, v214, v217, (by rw [ha.out]; exact putSel_upk 23 hb_ rfl rfl rfl), Q_HO171, Q_HO195, Q_HO199, Q_HO203, Q_BK167, Q_BK172, Q_BK196, Q_BK205, Q_BK206, Q_HB, fun _ h1_ => absurd ((hon 9 (by kernel_rfl)).symm.trans h1_) (by decide), fun _ h1_ => absurd ((hon 9 (by kernel_rfl)).symm.trans h1_) (by decide), fun _ h1_ => absurd ((hon 9 (by kernel_rfl)).symm.trans h1_) (by decide), Q_HO218⟩
      refine steps_cons ?_ ?_
      · rintro b a w' ⟨v208, v211, v214, v217, ha, Q_HO171, Q_HO195, Q_HO199, Q_HO203, Q_BK167, Q_BK172, Q_BK196, Q_BK205, Q_BK206, Q_HB, Q_HO209, Q_HO212, Q_HO215, Q_HO218⟩ hb_ hon hoff
        refine ⟨_, rfl, fun K hK => ?_⟩
        have e6 : a.tmps[6]? = some (.pointer (some ⟨gb196, 0, none⟩)) := by rw [ha]; exact (putSel_off rfl).trans rfl
        have e86 : a.tmps[86]? = some (.bool (t220 == 0)) := by rw [ha]; exact putSel_on (e := (24, 86, .bool (t220 == 0))) 23 rfl rfl (hon 24 (by kernel_rfl)) rfl
        replace ha := Aside0.mk ha
        have BK196 := Aside0.mk Q_BK196
        have hc0_ : w'.cell? ⟨gb196, 0, none⟩ = some (.int .i64 4) := (blk_cell BK196.out 0).trans rfl
        have hc1_ : w'.cell? ⟨gb196, 1, none⟩ = some (.slice Ao76 y193.length co76) := (blk_cell BK196.out 1).trans rfl
        refine value_ (w1 := w') (v := .agg #[.int .i64 4, .slice Ao76 y193.length co76]) (wanted_on rfl rfl rfl (e86.trans (by first | rfl | (simp [*]; done)))) rfl ?_ ?_
        · go_simp
          (try simp only [i64_w])
          try rfl
        refine hK.out _ _ ⟨v208, v211, v214, v217, (by rw [ha.out]; exact putSel_upk 24 hb_ rfl rfl rfl), Q_HO171, Q_HO195, Q_HO199, Q_HO203, Q_BK167, Q_BK172, Q_BK196, Q_BK205, Q_BK206, Q_HB, fun _ h1_ => absurd ((hon 9 (by kernel_rfl)).symm.trans h1_) (by decide), fun _ h1_ => absurd ((hon 9 (by kernel_rfl)).symm.trans h1_) (by decide), fun _ h1_ => absurd ((hon 9 (by kernel_rfl)).symm.trans h1_) (by decide), Q_HO218⟩
      refine steps_cons ?_ ?_
      · rintro b a w' ⟨v208, v211, v214, v217, ha, Q_HO171, Q_HO195, Q_HO199, Q_HO203, Q_BK167, Q_BK172, Q_BK196, Q_BK205, Q_BK206, Q_HB, Q_HO209, Q_HO212, Q_HO215, Q_HO218⟩ hb_ hon hoff
        refine ⟨_, rfl, fun K hK => ?_⟩
        have e7 : a.tmps[7]? = some (.pointer (some ⟨gb205, 0, none⟩)) := by rw [ha]; exact (putSel_off rfl).trans rfl
        have e86 : a.tmps[86]? = some (.bool (t220 == 0)) := by rw [ha]; exact putSel_on (e := (24, 86, .bool (t220 == 0))) 23 rfl rfl (hon 24 (by kernel_rfl)) rfl
        replace ha := Aside0.mk ha
        refine value_ (w1 := w') (v := .pointer (some ⟨gb205, 0, none⟩)) (wanted_on rfl rfl rfl (e86.trans (by first | rfl | (simp [*]; done)))) rfl ?_ ?_
        · go_simp
          (try simp only [i64_w])
          try rfl
        refine hK.out _ _ ⟨v208, v211, v214, v217, (by rw [ha.out]; exact putSel_upk 25 hb_ rfl rfl rfl), Q_HO171, Q_HO195, Q_HO199, Q_HO203, Q_BK167, Q_BK172, Q_BK196, Q_BK205, Q_BK206, Q_HB, fun _ h1_ => absurd ((hon 9 (by kernel_rfl)).symm.trans h1_) (by decide), fun _ h1_ => absurd ((hon 9 (by kernel_rfl)).symm.trans h1_) (by decide), fun _ h1_ => absurd ((hon 9 (by kernel_rfl)).symm.trans h1_) (by decide), Q_HO218⟩
      refine steps_cons ?_ ?_
      · rintro b a w' ⟨v208, v211, v214, v217, ha, Q_HO171, Q_HO195, Q_HO199, Q_HO203, Q_BK167, Q_BK172, Q_BK196, Q_BK205, Q_BK206, Q_HB, Q_HO209, Q_HO212, Q_HO215, Q_HO218⟩ hb_ hon hoff
        refine ⟨_, rfl, fun K hK => ?_⟩
        have e88 : a.tmps[88]? = some (.pointer (some ⟨gb205, 0, none⟩)) := by rw [ha]; exact putSel_on (e := (26, 88, .pointer (some ⟨gb205, 0, none⟩))) 25 rfl rfl (hon 26 (by kernel_rfl)) rfl
        have e86 : a.tmps[86]? = some (.bool (t220 == 0)) := by rw [ha]; exact putSel_on (e := (24, 86, .bool (t220 == 0))) 23 rfl rfl (hon 24 (by kernel_rfl)) rfl
        replace ha := Aside0.mk ha
        have BK205 := Aside0.mk Q_BK205
        have hc0_ : w'.cell? ⟨gb205, 0, none⟩ = some (.slice Ao97 t197.length co97) := (blk_cell BK205.out 0).trans rfl
        have hc1_ : w'.cell? ⟨gb205, 1, none⟩ = some (.int .i64 t200) := (blk_cell BK205.out 1).trans rfl
        refine value_ (w1 := w') (v := .slice Ao97 t197.length co97) (wanted_on rfl rfl rfl (e86.trans (by first | rfl | (simp [*]; done)))) rfl ?_ ?_
        · go_simp
          (try simp only [i64_w])
          try rfl
        refine hK.out _ _ ⟨v208, v211, v214, v217, (by rw [ha.out]; exact putSel_upk 26 hb_ rfl rfl rfl), Q_HO171, Q_HO195, Q_HO199, Q_HO203, Q_BK167, Q_BK172, Q_BK196, Q_BK205, Q_BK206, Q_HB, fun _ h1_ => absurd ((hon 9 (by kernel_rfl)).symm.trans h1_) (by decide), fun _ h1_ => absurd ((hon 9 (by kernel_rfl)).symm.trans h1_) (by decide), fun _ h1_ => absurd ((hon 9 (by kernel_rfl)).symm.trans h1_) (by decide), Q_HO218⟩
      refine steps_cons ?_ ?_
      · rintro b a w' ⟨v208, v211, v214, v217, ha, Q_HO171, Q_HO195, Q_HO199, Q_HO203, Q_BK167, Q_BK172, Q_BK196, Q_BK205, Q_BK206, Q_HB, Q_HO209, Q_HO212, Q_HO215, Q_HO218⟩ hb_ hon hoff
        refine ⟨_, rfl, fun K hK => ?_⟩
        have e89 : a.tmps[89]? = some (.slice Ao97 t197.length co97) := by rw [ha]; exact putSel_on (e := (27, 89, .slice Ao97 t197.length co97)) 26 rfl rfl (hon 27 (by kernel_rfl)) rfl
        have e86 : a.tmps[86]? = some (.bool (t220 == 0)) := by rw [ha]; exact putSel_on (e := (24, 86, .bool (t220 == 0))) 23 rfl rfl (hon 24 (by kernel_rfl)) rfl
        replace ha := Aside0.mk ha
        refine value_ (w1 := w') (v := .slice A117 y221.length c117) (wanted_on rfl rfl rfl (e86.trans (by first | rfl | (simp [*]; done)))) rfl ?_ ?_
        · go_simp
          (try simp only [i64_w])
          try rfl
        refine hK.out _ _ ⟨v208, v211, v214, v217, (by rw [ha.out]; exact putSel_upk 27 hb_ rfl rfl rfl), Q_HO171, Q_HO195, Q_HO199, Q_HO203, Q_BK167, Q_BK172, Q_BK196, Q_BK205, Q_BK206, Q_HB, fun _ h1_ => absurd ((hon 9 (by kernel_rfl)).symm.trans h1_) (by decide), fun _ h1_ => absurd ((hon 9 (by kernel_rfl)).symm.trans h1_) (by decide), fun _ h1_ => absurd ((hon 9 (by kernel_rfl)).symm.trans h1_) (by decide), Q_HO218⟩
      refine steps_cons ?_ ?_
      · rintro b a w' ⟨v208, v211, v214, v217, ha, Q_HO171, Q_HO195, Q_HO199, Q_HO203, Q_BK167, Q_BK172, Q_BK196, Q_BK205, Q_BK206, Q_HB, Q_HO209, Q_HO212, Q_HO215, Q_HO218⟩ hb_ hon hoff
        refine ⟨_, rfl, fun K hK => ?_⟩
        have e87 : a.tmps[87]? = some (.agg #[.int .i64 4, .slice Ao76 y193.length co76]) := by rw [ha]; exact putSel_on (e := (25, 87, .agg #[.int .i64 4, .slice Ao76 y193.length co76])) 24 rfl rfl (hon 25 (by kernel_rfl)) rfl
        have e90 : a.tmps[90]? = some (.slice A117 y221.length c117) := by rw [ha]; exact putSel_on (e := (28, 90, .slice A117 y221.length c117)) 27 rfl rfl (hon 28 (by kernel_rfl)) rfl
        have e86 : a.tmps[86]? = some (.bool (t220 == 0)) := by rw [ha]; exact putSel_on (e := (24, 86, .bool (t220 == 0))) 23 rfl rfl (hon 24 (by kernel_rfl)) rfl
        replace ha := Aside0.mk ha
        have HO171 := Aside0.mk Q_HO171
        have HO195 := Aside0.mk Q_HO195
        have HO199 := Aside0.mk Q_HO199
        have HO203 := Aside0.mk Q_HO203
        have BK167 := Aside0.mk Q_BK167
        have BK172 := Aside0.mk Q_BK172
        have BK196 := Aside0.mk Q_BK196
        have BK205 := Aside0.mk Q_BK205
        have BK206 := Aside0.mk Q_BK206
        have HB := Aside0.mk Q_HB
        have HO218 := Aside0.mk (Q_HO218 (hon 9 (by kernel_rfl)))
        have hroom117 : t197.length ≤ co97 := (Kd.S_reads' HO199.out).2.1
        have hC117 : Kd.F (Kd.slice 3 (Kd.int .i64)) _ _ Ao97 t197.length t197 := (Kd.V_at (base := w.heap.size) (Kd.S_V HO199.out)).2.2
        have hr117 := Kd.F_cut (m := (1 : Int).toNat) (c := co97) hC117 (by omega) hroom117
        rw [show (t197).drop (1 : Int).toNat = y221 from Ny221.out.symm] at hr117
        replace hr117 : Kd.F (Kd.slice 3 (Kd.int .i64)) _ _ A117 y221.length y221 := (by rw [KA117.out]; exact hr117)
        have HO225 := Aside0.mk (show Kd.V (Kd.slice 3 (Kd.int .i64)) 50 _ w.heap.size _ (.slice A117 y221.length c117) y221 from Kd.V_mk (by rw [KY117.out, KC117.out]; exact Nat.sub_le_sub_right hroom117 _) hr117)
        clear hr117 hC117 hroom117
        refine goes_ Tryd.func22 (by kernel_rfl) rfl #[.agg #[.int .i64 4, .slice Ao76 y193.length co76], .slice A117 y221.length c117] (wanted_on rfl rfl rfl (e86.trans (by first | rfl | (simp [*]; done)))) rfl rfl (by first | (simp only [List.map_toArray, List.map_cons, List.map_nil, Act.eval, Array.getD_eq_getD_getElem?, Option.getD_some, e87, e90, e86]; done) | (simp only [List.map_toArray, List.map_cons, List.map_nil, Act.eval, Array.getD_eq_getD_getElem?, Option.getD_some, e87, e90, e86]; rfl)) ?_
        with_reducible refine (design_Classes.calls k 4 _ _ y193 _ _ y221 t226 _ ?side1 ?side2 ?side3 ?side4 A23.out).mono ?_
        (case side1 => repeat (first | exact (Kd.R_reads' HO195.out).2.2 | (with_reducible refine Kd.C_alloc ?_ _) | (with_reducible refine Kd.C_drewN ?_ _) | (with_reducible refine Kd.C_drew ?_)))
        (case side2 => exact (Kd.R_reads' HO195.out).2.1)
        (case side3 => repeat (first | exact (Kd.V_reads' HO225.out).2.2 | (with_reducible refine Kd.C_alloc ?_ _) | (with_reducible refine Kd.C_drewN ?_ _) | (with_reducible refine Kd.C_drew ?_)))
        (case side4 => exact (Kd.V_reads' HO225.out).2.1)
        rintro e w114 ⟨rfl, hb⟩
        refine ⟨_, rfl, ?_⟩
        have n0_ := Aside0.mk (Kd.R_below HO171.out hb)
        have n1_ := Aside0.mk (Kd.R_below HO195.out hb)
        have n2_ := Aside0.mk (Kd.S_below HO199.out hb)
        have n3_ := Aside0.mk (Kd.S_below HO203.out hb)
        have n4_ := Aside0.mk (Kd.N_below HO218.out hb)
        have n5_ := Aside0.mk (blk_below BK167.out hb)
        have n6_ := Aside0.mk (blk_below BK172.out hb)
        have n7_ := Aside0.mk (blk_below BK196.out hb)
        have n8_ := Aside0.mk (blk_below BK205.out hb)
        have n9_ := Aside0.mk (blk_below BK206.out hb)
        have n10_ := Aside0.mk (below_step HB.out hb)
        clear HO171
        clear HO195
        clear HO199
        clear HO203
        clear HO218
        clear BK167
        clear BK172
        clear BK196
        clear BK205
        clear BK206
        clear HB
        have HO171 := n0_
        have HO195 := n1_
        have HO199 := n2_
        have HO203 := n3_
        have HO218 := n4_
        have BK167 := n5_
        have BK172 := n6_
        have BK196 := n7_
        have BK205 := n8_
        have BK206 := n9_
        have HB := n10_
        clear n0_ n1_ n2_ n3_ n4_ n5_ n6_ n7_ n8_ n9_ n10_
        (try clear hb)
        (try clear hb2)
        (try clear hk)
        (try clear hi)
        refine hK.out _ _ ⟨v208, v211, v214, v217, (by rw [ha.out]; exact putSel_upk 28 hb_ rfl rfl rfl), HO171.out, HO195.out, HO199.out, HO203.out, BK167.out, BK172.out, BK196.out, BK205.out, BK206.out, HB.out, fun _ h1_ => absurd ((hon 9 (by kernel_rfl)).symm.trans h1_) (by decide), fun _ h1_ => absurd ((hon 9 (by kernel_rfl)).symm.trans h1_) (by decide), fun _ h1_ => absurd ((hon 9 (by kernel_rfl)).symm.trans h1_) (by decide), fun _ => HO218.out⟩
      refine steps_cons ?_ ?_
      · rintro b a w' ⟨v208, v211, v214, v217, ha, Q_HO171, Q_HO195, Q_HO199, Q_HO203, Q_BK167, Q_BK172, Q_BK196, Q_BK205, Q_BK206, Q_HB, Q_HO209, Q_HO212, Q_HO215, Q_HO218⟩ hb_ hon hoff
        refine ⟨_, rfl, fun K hK => ?_⟩
        have e91 : a.tmps[91]? = some (.int .i64 t226) := by rw [ha]; exact putSel_on (e := (29, 91, .int .i64 t226)) 28 rfl rfl (hon 29 (by kernel_rfl)) rfl
        have e86 : a.tmps[86]? = some (.bool (t220 == 0)) := by rw [ha]; exact putSel_on (e := (24, 86, .bool (t220 == 0))) 23 rfl rfl (hon 24 (by kernel_rfl)) rfl
        replace ha := Aside0.mk ha
        refine value_ (w1 := w') (v := .bool (t226 == 90)) (wanted_on rfl rfl rfl (e86.trans (by first | rfl | (simp [*]; done)))) rfl ?_ ?_
        · go_simp
          (try simp only [i64_w])
          try rfl
        refine hK.out _ _ ⟨v208, v211, v214, v217, (by rw [ha.out]; exact putSel_upk 29 hb_ rfl rfl rfl), Q_HO171, Q_HO195, Q_HO199, Q_HO203, Q_BK167, Q_BK172, Q_BK196, Q_BK205, Q_BK206, Q_HB, fun _ h1_ => absurd ((hon 9 (by kernel_rfl)).symm.trans h1_) (by decide), fun _ h1_ => absurd ((hon 9 (by kernel_rfl)).symm.trans h1_) (by decide), fun _ h1_ => absurd ((hon 9 (by kernel_rfl)).symm.trans h1_) (by decide), Q_HO218⟩
      refine steps_cons ?_ ?_
      · rintro b a w' ⟨v208, v211, v214, v217, ha, Q_HO171, Q_HO195, Q_HO199, Q_HO203, Q_BK167, Q_BK172, Q_BK196, Q_BK205, Q_BK206, Q_HB, Q_HO209, Q_HO212, Q_HO215, Q_HO218⟩ hb_ hon hoff
        refine ⟨_, rfl, fun K hK => ?_⟩
        have e86 : a.tmps[86]? = some (.bool (t220 == 0)) := by rw [ha]; exact putSel_on (e := (24, 86, .bool (t220 == 0))) 23 rfl rfl (hon 24 (by kernel_rfl)) rfl
        have e92 : a.tmps[92]? = some (.bool (t226 == 90)) := by rw [ha]; exact putSel_on (e := (30, 92, .bool (t226 == 90))) 29 rfl rfl (hon 30 (by kernel_rfl)) rfl
        replace ha := Aside0.mk ha
        refine value_ (w1 := w') (v := .bool (t226 == 90)) (by rfl) rfl ?_ ?_
        · go_simp
          (try simp only [i64_w])
          try rfl
        refine hK.out _ _ ⟨v208, v211, v214, v217, (by rw [ha.out]; exact putSel_upk 30 hb_ rfl rfl rfl), Q_HO171, Q_HO195, Q_HO199, Q_HO203, Q_BK167, Q_BK172, Q_BK196, Q_BK205, Q_BK206, Q_HB, fun _ h1_ => absurd ((hon 9 (by kernel_rfl)).symm.trans h1_) (by decide), fun _ h1_ => absurd ((hon 9 (by kernel_rfl)).symm.trans h1_) (by decide), fun _ h1_ => absurd ((hon 9 (by kernel_rfl)).symm.trans h1_) (by decide), Q_HO218⟩
      refine steps_cons ?_ ?_
      · rintro b a w' ⟨v208, v211, v214, v217, ha, Q_HO171, Q_HO195, Q_HO199, Q_HO203, Q_BK167, Q_BK172, Q_BK196, Q_BK205, Q_BK206, Q_HB, Q_HO209, Q_HO212, Q_HO215, Q_HO218⟩ hb_ hon hoff
        refine ⟨_, rfl, fun K hK => ?_⟩
        have e93 : a.tmps[93]? = some (.bool (t226 == 90)) := by rw [ha]; exact putSel_on (e := (31, 93, .bool (t226 == 90))) 30 rfl rfl (hon 31 (by kernel_rfl)) rfl
        replace ha := Aside0.mk ha
        refine value_ (w1 := w') (v := .bool (t226 == 90)) (by rfl) rfl ?_ ?_
        · go_simp
          (try simp only [i64_w])
          try rfl
        refine hK.out _ _ ⟨v208, v211, v214, v217, (by rw [ha.out]; exact putSel_upk 31 hb_ rfl rfl rfl), Q_HO171, Q_HO195, Q_HO199, Q_HO203, Q_BK167, Q_BK172, Q_BK196, Q_BK205, Q_BK206, Q_HB, fun _ h1_ => absurd ((hon 9 (by kernel_rfl)).symm.trans h1_) (by decide), fun _ h1_ => absurd ((hon 9 (by kernel_rfl)).symm.trans h1_) (by decide), fun _ h1_ => absurd ((hon 9 (by kernel_rfl)).symm.trans h1_) (by decide), Q_HO218⟩
      refine steps_cons ?_ ?_
      · rintro b a w' ⟨v208, v211, v214, v217, ha, Q_HO171, Q_HO195, Q_HO199, Q_HO203, Q_BK167, Q_BK172, Q_BK196, Q_BK205, Q_BK206, Q_HB, Q_HO209, Q_HO212, Q_HO215, Q_HO218⟩ hb_ hon hoff
        refine ⟨_, rfl, fun K hK => ?_⟩
        have e6 : a.tmps[6]? = some (.pointer (some ⟨gb196, 0, none⟩)) := by rw [ha]; exact (putSel_off rfl).trans rfl
        have e94 : a.tmps[94]? = some (.bool (t226 == 90)) := by rw [ha]; exact putSel_on (e := (32, 94, .bool (t226 == 90))) 31 rfl rfl (hon 32 (by kernel_rfl)) rfl
        replace ha := Aside0.mk ha
        have BK196 := Aside0.mk Q_BK196
        have hc0_ : w'.cell? ⟨gb196, 0, none⟩ = some (.int .i64 4) := (blk_cell BK196.out 0).trans rfl
        have hc1_ : w'.cell? ⟨gb196, 1, none⟩ = some (.slice Ao76 y193.length co76) := (blk_cell BK196.out 1).trans rfl
        refine value_ (w1 := w') (v := .agg #[.int .i64 4, .slice Ao76 y193.length co76]) (wanted_on rfl rfl rfl (e94.trans (by first | rfl | (simp [*]; done)))) rfl ?_ ?_
        · go_simp
          (try simp only [i64_w])
          try rfl
        refine hK.out _ _ ⟨v208, v211, v214, v217, (by rw [ha.out]; exact putSel_upk 32 hb_ rfl rfl rfl), Q_HO171, Q_HO195, Q_HO199, Q_HO203, Q_BK167, Q_BK172, Q_BK196, Q_BK205, Q_BK206, Q_HB, fun _ h1_ => absurd ((hon 9 (by kernel_rfl)).symm.trans h1_) (by decide), fun _ h1_ => absurd ((hon 9 (by kernel_rfl)).symm.trans h1_) (by decide), fun _ h1_ => absurd ((hon 9 (by kernel_rfl)).symm.trans h1_) (by decide), Q_HO218⟩
      refine steps_cons ?_ ?_
      · rintro b a w' ⟨v208, v211, v214, v217, ha, Q_HO171, Q_HO195, Q_HO199, Q_HO203, Q_BK167, Q_BK172, Q_BK196, Q_BK205, Q_BK206, Q_HB, Q_HO209, Q_HO212, Q_HO215, Q_HO218⟩ hb_ hon hoff
        refine ⟨_, rfl, fun K hK => ?_⟩
        have e1 : a.tmps[1]? = some (.pointer (some ⟨gb167, 0, none⟩)) := by rw [ha]; exact (putSel_off rfl).trans rfl
        have e94 : a.tmps[94]? = some (.bool (t226 == 90)) := by rw [ha]; exact putSel_on (e := (32, 94, .bool (t226 == 90))) 31 rfl rfl (hon 32 (by kernel_rfl)) rfl
        replace ha := Aside0.mk ha
        have BK167 := Aside0.mk Q_BK167
        have hc0_ : w'.cell? ⟨gb167, 0, none⟩ = some (.int .i64 2) := (blk_cell BK167.out 0).trans rfl
        have hc1_ : w'.cell? ⟨gb167, 1, none⟩ = some (.int .i64 7) := (blk_cell BK167.out 1).trans rfl
        have hc2_ : w'.cell? ⟨gb167, 2, none⟩ = some (.int .i64 3) := (blk_cell BK167.out 2).trans rfl
        have hc3_ : w'.cell? ⟨gb167, 3, none⟩ = some (.int .i64 1) := (blk_cell BK167.out 3).trans rfl
        refine value_ (w1 := w') (v := .agg #[.int .i64 2, .int .i64 7, .int .i64 3, .int .i64 1]) (wanted_on rfl rfl rfl (e94.trans (by first | rfl | (simp [*]; done)))) rfl ?_ ?_
        · go_simp
          (try simp only [i64_w])
          try rfl
        refine hK.out _ _ ⟨v208, v211, v214, v217, (by rw [ha.out]; exact putSel_upk 33 hb_ rfl rfl rfl), Q_HO171, Q_HO195, Q_HO199, Q_HO203, Q_BK167, Q_BK172, Q_BK196, Q_BK205, Q_BK206, Q_HB, fun _ h1_ => absurd ((hon 9 (by kernel_rfl)).symm.trans h1_) (by decide), fun _ h1_ => absurd ((hon 9 (by kernel_rfl)).symm.trans h1_) (by decide), fun _ h1_ => absurd ((hon 9 (by kernel_rfl)).symm.trans h1_) (by decide), Q_HO218⟩
      refine steps_cons ?_ ?_
      · rintro b a w' ⟨v208, v211, v214, v217, ha, Q_HO171, Q_HO195, Q_HO199, Q_HO203, Q_BK167, Q_BK172, Q_BK196, Q_BK205, Q_BK206, Q_HB, Q_HO209, Q_HO212, Q_HO215, Q_HO218⟩ hb_ hon hoff
        refine ⟨_, rfl, fun K hK => ?_⟩
        have e95 : a.tmps[95]? = some (.agg #[.int .i64 4, .slice Ao76 y193.length co76]) := by rw [ha]; exact putSel_on (e := (33, 95, .agg #[.int .i64 4, .slice Ao76 y193.length co76])) 32 rfl rfl (hon 33 (by kernel_rfl)) rfl
        have e96 : a.tmps[96]? = some (.agg #[.int .i64 2, .int .i64 7, .int .i64 3, .int .i64 1]) := by rw [ha]; exact putSel_on (e := (34, 96, .agg #[.int .i64 2, .int .i64 7, .int .i64 3, .int .i64 1])) 33 rfl rfl (hon 34 (by kernel_rfl)) rfl
        have e94 : a.tmps[94]? = some (.bool (t226 == 90)) := by rw [ha]; exact putSel_on (e := (32, 94, .bool (t226 == 90))) 31 rfl rfl (hon 32 (by kernel_rfl)) rfl
        replace ha := Aside0.mk ha
        have HO171 := Aside0.mk Q_HO171
        have HO195 := Aside0.mk Q_HO195
        have HO199 := Aside0.mk Q_HO199
        have HO203 := Aside0.mk Q_HO203
        have BK167 := Aside0.mk Q_BK167
        have BK172 := Aside0.mk Q_BK172
        have BK196 := Aside0.mk Q_BK196
        have BK205 := Aside0.mk Q_BK205
        have BK206 := Aside0.mk Q_BK206
        have HB := Aside0.mk Q_HB
        have HO218 := Aside0.mk (Q_HO218 (hon 9 (by kernel_rfl)))
        refine goes_ Tryd.func12 (by kernel_rfl) rfl #[.agg #[.int .i64 4, .slice Ao76 y193.length co76], .agg #[.int .i64 2, .int .i64 7, .int .i64 3, .int .i64 1]] (wanted_on rfl rfl rfl (e94.trans (by first | rfl | (simp [*]; done)))) rfl rfl (by first | (simp only [List.map_toArray, List.map_cons, List.map_nil, Act.eval, Array.getD_eq_getD_getElem?, Option.getD_some, e95, e96, e94]; done) | (simp only [List.map_toArray, List.map_cons, List.map_nil, Act.eval, Array.getD_eq_getD_getElem?, Option.getD_some, e95, e96, e94]; rfl)) ?_
        with_reducible refine (design_Check.calls 4 _ _ y193 2 7 3 1 t227 _ ?side1 ?side2 A25.out).mono ?_
        (case side1 => repeat (first | exact (Kd.R_reads' HO195.out).2.2 | (with_reducible refine Kd.C_alloc ?_ _) | (with_reducible refine Kd.C_drewN ?_ _) | (with_reducible refine Kd.C_drew ?_)))
        (case side2 => exact (Kd.R_reads' HO195.out).2.1)
        rintro e w115 ⟨rfl, hb⟩
        refine ⟨_, rfl, ?_⟩
        have n0_ := Aside0.mk (Kd.R_below HO171.out hb)
        have n1_ := Aside0.mk (Kd.R_below HO195.out hb)
        have n2_ := Aside0.mk (Kd.S_below HO199.out hb)
        have n3_ := Aside0.mk (Kd.S_below HO203.out hb)
        have n4_ := Aside0.mk (Kd.N_below HO218.out hb)
        have n5_ := Aside0.mk (blk_below BK167.out hb)
        have n6_ := Aside0.mk (blk_below BK172.out hb)
        have n7_ := Aside0.mk (blk_below BK196.out hb)
        have n8_ := Aside0.mk (blk_below BK205.out hb)
        have n9_ := Aside0.mk (blk_below BK206.out hb)
        have n10_ := Aside0.mk (below_step HB.out hb)
        clear HO171
        clear HO195
        clear HO199
        clear HO203
        clear HO218
        clear BK167
        clear BK172
        clear BK196
        clear BK205
        clear BK206
        clear HB
        have HO171 := n0_
        have HO195 := n1_
        have HO199 := n2_
        have HO203 := n3_
        have HO218 := n4_
        have BK167 := n5_
        have BK172 := n6_
        have BK196 := n7_
        have BK205 := n8_
        have BK206 := n9_
        have HB := n10_
        clear n0_ n1_ n2_ n3_ n4_ n5_ n6_ n7_ n8_ n9_ n10_
        (try clear hb)
        (try clear hb2)
        (try clear hk)
        (try clear hi)
        refine hK.out _ _ ⟨v208, v211, v214, v217, (by rw [ha.out]; exact putSel_upk 34 hb_ rfl rfl rfl), HO171.out, HO195.out, HO199.out, HO203.out, BK167.out, BK172.out, BK196.out, BK205.out, BK206.out, HB.out, fun _ h1_ => absurd ((hon 9 (by kernel_rfl)).symm.trans h1_) (by decide), fun _ h1_ => absurd ((hon 9 (by kernel_rfl)).symm.trans h1_) (by decide), fun _ h1_ => absurd ((hon 9 (by kernel_rfl)).symm.trans h1_) (by decide), fun _ => HO218.out⟩
      refine steps_cons ?_ ?_
      · rintro b a w' ⟨v208, v211, v214, v217, ha, Q_HO171, Q_HO195, Q_HO199, Q_HO203, Q_BK167, Q_BK172, Q_BK196, Q_BK205, Q_BK206, Q_HB, Q_HO209, Q_HO212, Q_HO215, Q_HO218⟩ hb_ hon hoff
        refine ⟨_, rfl, fun K hK => ?_⟩
        have e97 : a.tmps[97]? = some (.int .i64 t227) := by rw [ha]; exact putSel_on (e := (35, 97, .int .i64 t227)) 34 rfl rfl (hon 35 (by kernel_rfl)) rfl
        have e94 : a.tmps[94]? = some (.bool (t226 == 90)) := by rw [ha]; exact putSel_on (e := (32, 94, .bool (t226 == 90))) 31 rfl rfl (hon 32 (by kernel_rfl)) rfl
        replace ha := Aside0.mk ha
        refine value_ (w1 := w') (v := .bool (t227 == 90)) (wanted_on rfl rfl rfl (e94.trans (by first | rfl | (simp [*]; done)))) rfl ?_ ?_
        · go_simp
          (try simp only [i64_w])
          try rfl
        refine hK.out _ _ ⟨v208, v211, v214, v217, (by rw [ha.out]; exact putSel_upk 35 hb_ rfl rfl rfl), Q_HO171, Q_HO195, Q_HO199, Q_HO203, Q_BK167, Q_BK172, Q_BK196, Q_BK205, Q_BK206, Q_HB, fun _ h1_ => absurd ((hon 9 (by kernel_rfl)).symm.trans h1_) (by decide), fun _ h1_ => absurd ((hon 9 (by kernel_rfl)).symm.trans h1_) (by decide), fun _ h1_ => absurd ((hon 9 (by kernel_rfl)).symm.trans h1_) (by decide), Q_HO218⟩
      refine steps_cons ?_ ?_
      · rintro b a w' ⟨v208, v211, v214, v217, ha, Q_HO171, Q_HO195, Q_HO199, Q_HO203, Q_BK167, Q_BK172, Q_BK196, Q_BK205, Q_BK206, Q_HB, Q_HO209, Q_HO212, Q_HO215, Q_HO218⟩ hb_ hon hoff
        refine ⟨_, rfl, fun K hK => ?_⟩
        have e94 : a.tmps[94]? = some (.bool (t226 == 90)) := by rw [ha]; exact putSel_on (e := (32, 94, .bool (t226 == 90))) 31 rfl rfl (hon 32 (by kernel_rfl)) rfl
        have e98 : a.tmps[98]? = some (.bool (t227 == 90)) := by rw [ha]; exact putSel_on (e := (36, 98, .bool (t227 == 90))) 35 rfl rfl (hon 36 (by kernel_rfl)) rfl
        replace ha := Aside0.mk ha
        refine value_ (w1 := w') (v := .bool (t227 == 90)) (by rfl) rfl ?_ ?_
        · go_simp
          (try simp only [i64_w])
          try rfl
        refine hK.out _ _ ⟨v208, v211, v214, v217, (by rw [ha.out]; exact putSel_upk 36 hb_ rfl rfl rfl), Q_HO171, Q_HO195, Q_HO199, Q_HO203, Q_BK167, Q_BK172, Q_BK196, Q_BK205, Q_BK206, Q_HB, fun _ h1_ => absurd ((hon 9 (by kernel_rfl)).symm.trans h1_) (by decide), fun _ h1_ => absurd ((hon 9 (by kernel_rfl)).symm.trans h1_) (by decide), fun _ h1_ => absurd ((hon 9 (by kernel_rfl)).symm.trans h1_) (by decide), Q_HO218⟩
      refine steps_cons ?_ ?_
      · rintro b a w' ⟨v208, v211, v214, v217, ha, Q_HO171, Q_HO195, Q_HO199, Q_HO203, Q_BK167, Q_BK172, Q_BK196, Q_BK205, Q_BK206, Q_HB, Q_HO209, Q_HO212, Q_HO215, Q_HO218⟩ hb_ hon hoff
        refine ⟨_, rfl, fun K hK => ?_⟩
        have e99 : a.tmps[99]? = some (.bool (t227 == 90)) := by rw [ha]; exact putSel_on (e := (37, 99, .bool (t227 == 90))) 36 rfl rfl (hon 37 (by kernel_rfl)) rfl
        replace ha := Aside0.mk ha
        refine value_ (w1 := w') (v := .bool (t227 == 90)) (by rfl) rfl ?_ ?_
        · go_simp
          (try simp only [i64_w])
          try rfl
        refine hK.out _ _ ⟨v208, v211, v214, v217, (by rw [ha.out]; exact putSel_upk 37 hb_ rfl rfl rfl), Q_HO171, Q_HO195, Q_HO199, Q_HO203, Q_BK167, Q_BK172, Q_BK196, Q_BK205, Q_BK206, Q_HB, fun _ h1_ => absurd ((hon 9 (by kernel_rfl)).symm.trans h1_) (by decide), fun _ h1_ => absurd ((hon 9 (by kernel_rfl)).symm.trans h1_) (by decide), fun _ h1_ => absurd ((hon 9 (by kernel_rfl)).symm.trans h1_) (by decide), Q_HO218⟩
      refine steps_cons ?_ ?_
      · rintro b a w' ⟨v208, v211, v214, v217, ha, Q_HO171, Q_HO195, Q_HO199, Q_HO203, Q_BK167, Q_BK172, Q_BK196, Q_BK205, Q_BK206, Q_HB, Q_HO209, Q_HO212, Q_HO215, Q_HO218⟩ hb_ hon hoff
        refine ⟨_, rfl, fun K hK => ?_⟩
        have e2 : a.tmps[2]? = some (.pointer (some ⟨gb172, 0, none⟩)) := by rw [ha]; exact (putSel_off rfl).trans rfl
        have e100 : a.tmps[100]? = some (.bool (t227 == 90)) := by rw [ha]; exact putSel_on (e := (38, 100, .bool (t227 == 90))) 37 rfl rfl (hon 38 (by kernel_rfl)) rfl
        replace ha := Aside0.mk ha
        have BK172 := Aside0.mk Q_BK172
        have hc0_ : w'.cell? ⟨gb172, 0, none⟩ = some (.int .i64 t168) := (blk_cell BK172.out 0).trans rfl
        have hc1_ : w'.cell? ⟨gb172, 1, none⟩ = some (.slice Ao34 t169.length co34) := (blk_cell BK172.out 1).trans rfl
        refine value_ (w1 := w') (v := .agg #[.int .i64 t168, .slice Ao34 t169.length co34]) (wanted_on rfl rfl rfl (e100.trans (by first | rfl | (simp [*]; done)))) rfl ?_ ?_
        · go_simp
          (try simp only [i64_w])
          try rfl
        refine hK.out _ _ ⟨v208, v211, v214, v217, (by rw [ha.out]; exact putSel_upk 38 hb_ rfl rfl rfl), Q_HO171, Q_HO195, Q_HO199, Q_HO203, Q_BK167, Q_BK172, Q_BK196, Q_BK205, Q_BK206, Q_HB, fun _ h1_ => absurd ((hon 9 (by kernel_rfl)).symm.trans h1_) (by decide), fun _ h1_ => absurd ((hon 9 (by kernel_rfl)).symm.trans h1_) (by decide), fun _ h1_ => absurd ((hon 9 (by kernel_rfl)).symm.trans h1_) (by decide), Q_HO218⟩
      refine steps_cons ?_ ?_
      · rintro b a w' ⟨v208, v211, v214, v217, ha, Q_HO171, Q_HO195, Q_HO199, Q_HO203, Q_BK167, Q_BK172, Q_BK196, Q_BK205, Q_BK206, Q_HB, Q_HO209, Q_HO212, Q_HO215, Q_HO218⟩ hb_ hon hoff
        refine ⟨_, rfl, fun K hK => ?_⟩
        have e100 : a.tmps[100]? = some (.bool (t227 == 90)) := by rw [ha]; exact putSel_on (e := (38, 100, .bool (t227 == 90))) 37 rfl rfl (hon 38 (by kernel_rfl)) rfl
        replace ha := Aside0.mk ha
        refine value_ (w1 := w') (v := .agg #[.int .i64 0, .int .i64 0, .int .i64 0, .int .i64 0]) (wanted_on rfl rfl rfl (e100.trans (by first | rfl | (simp [*]; done)))) rfl ?_ ?_
        · go_simp
          (try simp only [i64_w])
          try rfl
        refine hK.out _ _ ⟨v208, v211, v214, v217, (by rw [ha.out]; exact putSel_upk 39 hb_ rfl rfl rfl), Q_HO171, Q_HO195, Q_HO199, Q_HO203, Q_BK167, Q_BK172, Q_BK196, Q_BK205, Q_BK206, Q_HB, fun _ h1_ => absurd ((hon 9 (by kernel_rfl)).symm.trans h1_) (by decide), fun _ h1_ => absurd ((hon 9 (by kernel_rfl)).symm.trans h1_) (by decide), fun _ h1_ => absurd ((hon 9 (by kernel_rfl)).symm.trans h1_) (by decide), Q_HO218⟩
      refine steps_cons ?_ ?_
      · rintro b a w' ⟨v208, v211, v214, v217, ha, Q_HO171, Q_HO195, Q_HO199, Q_HO203, Q_BK167, Q_BK172, Q_BK196, Q_BK205, Q_BK206, Q_HB, Q_HO209, Q_HO212, Q_HO215, Q_HO218⟩ hb_ hon hoff
        refine ⟨_, rfl, fun K hK => ?_⟩
        have e101 : a.tmps[101]? = some (.agg #[.int .i64 t168, .slice Ao34 t169.length co34]) := by rw [ha]; exact putSel_on (e := (39, 101, .agg #[.int .i64 t168, .slice Ao34 t169.length co34])) 38 rfl rfl (hon 39 (by kernel_rfl)) rfl
        have e102 : a.tmps[102]? = some (.agg #[.int .i64 0, .int .i64 0, .int .i64 0, .int .i64 0]) := by rw [ha]; exact putSel_on (e := (40, 102, .agg #[.int .i64 0, .int .i64 0, .int .i64 0, .int .i64 0])) 39 rfl rfl (hon 40 (by kernel_rfl)) rfl
        have e100 : a.tmps[100]? = some (.bool (t227 == 90)) := by rw [ha]; exact putSel_on (e := (38, 100, .bool (t227 == 90))) 37 rfl rfl (hon 38 (by kernel_rfl)) rfl
        replace ha := Aside0.mk ha
        have HO171 := Aside0.mk Q_HO171
        have HO195 := Aside0.mk Q_HO195
        have HO199 := Aside0.mk Q_HO199
        have HO203 := Aside0.mk Q_HO203
        have BK167 := Aside0.mk Q_BK167
        have BK172 := Aside0.mk Q_BK172
        have BK196 := Aside0.mk Q_BK196
        have BK205 := Aside0.mk Q_BK205
        have BK206 := Aside0.mk Q_BK206
        have HB := Aside0.mk Q_HB
        have HO218 := Aside0.mk (Q_HO218 (hon 9 (by kernel_rfl)))
        refine goes_ Tryd.func12 (by kernel_rfl) rfl #[.agg #[.int .i64 t168, .slice Ao34 t169.length co34], .agg #[.int .i64 0, .int .i64 0, .int .i64 0, .int .i64 0]] (wanted_on rfl rfl rfl (e100.trans (by first | rfl | (simp [*]; done)))) rfl rfl (by first | (simp only [List.map_toArray, List.map_cons, List.map_nil, Act.eval, Array.getD_eq_getD_getElem?, Option.getD_some, e101, e102, e100]; done) | (simp only [List.map_toArray, List.map_cons, List.map_nil, Act.eval, Array.getD_eq_getD_getElem?, Option.getD_some, e101, e102, e100]; rfl)) ?_
        with_reducible refine (design_Check.calls t168 _ _ t169 0 0 0 0 t228 _ ?side1 ?side2 A27.out).mono ?_
        (case side1 => repeat (first | exact (Kd.R_reads' HO171.out).2.2 | (with_reducible refine Kd.C_alloc ?_ _) | (with_reducible refine Kd.C_drewN ?_ _) | (with_reducible refine Kd.C_drew ?_)))
        (case side2 => exact (Kd.R_reads' HO171.out).2.1)
        rintro e w116 ⟨rfl, hb⟩
        refine ⟨_, rfl, ?_⟩
        have n0_ := Aside0.mk (Kd.R_below HO171.out hb)
        have n1_ := Aside0.mk (Kd.R_below HO195.out hb)
        have n2_ := Aside0.mk (Kd.S_below HO199.out hb)
        have n3_ := Aside0.mk (Kd.S_below HO203.out hb)
        have n4_ := Aside0.mk (Kd.N_below HO218.out hb)
        have n5_ := Aside0.mk (blk_below BK167.out hb)
        have n6_ := Aside0.mk (blk_below BK172.out hb)
        have n7_ := Aside0.mk (blk_below BK196.out hb)
        have n8_ := Aside0.mk (blk_below BK205.out hb)
        have n9_ := Aside0.mk (blk_below BK206.out hb)
        have n10_ := Aside0.mk (below_step HB.out hb)
        clear HO171
        clear HO195
        clear HO199
        clear HO203
        clear HO218
        clear BK167
        clear BK172
        clear BK196
        clear BK205
        clear BK206
        clear HB
        have HO171 := n0_
        have HO195 := n1_
        have HO199 := n2_
        have HO203 := n3_
        have HO218 := n4_
        have BK167 := n5_
        have BK172 := n6_
        have BK196 := n7_
        have BK205 := n8_
        have BK206 := n9_
        have HB := n10_
        clear n0_ n1_ n2_ n3_ n4_ n5_ n6_ n7_ n8_ n9_ n10_
        (try clear hb)
        (try clear hb2)
        (try clear hk)
        (try clear hi)
        refine hK.out _ _ ⟨v208, v211, v214, v217, (by rw [ha.out]; exact putSel_upk 40 hb_ rfl rfl rfl), HO171.out, HO195.out, HO199.out, HO203.out, BK167.out, BK172.out, BK196.out, BK205.out, BK206.out, HB.out, fun _ h1_ => absurd ((hon 9 (by kernel_rfl)).symm.trans h1_) (by decide), fun _ h1_ => absurd ((hon 9 (by kernel_rfl)).symm.trans h1_) (by decide), fun _ h1_ => absurd ((hon 9 (by kernel_rfl)).symm.trans h1_) (by decide), fun _ => HO218.out⟩
      refine steps_cons ?_ ?_
      · rintro b a w' ⟨v208, v211, v214, v217, ha, Q_HO171, Q_HO195, Q_HO199, Q_HO203, Q_BK167, Q_BK172, Q_BK196, Q_BK205, Q_BK206, Q_HB, Q_HO209, Q_HO212, Q_HO215, Q_HO218⟩ hb_ hon hoff
        refine ⟨_, rfl, fun K hK => ?_⟩
        have e103 : a.tmps[103]? = some (.int .i64 t228) := by rw [ha]; exact putSel_on (e := (41, 103, .int .i64 t228)) 40 rfl rfl (hon 41 (by kernel_rfl)) rfl
        have e100 : a.tmps[100]? = some (.bool (t227 == 90)) := by rw [ha]; exact putSel_on (e := (38, 100, .bool (t227 == 90))) 37 rfl rfl (hon 38 (by kernel_rfl)) rfl
        replace ha := Aside0.mk ha
        refine value_ (w1 := w') (v := .bool (t228 == 1)) (wanted_on rfl rfl rfl (e100.trans (by first | rfl | (simp [*]; done)))) rfl ?_ ?_
        · go_simp
          (try simp only [i64_w])
          try rfl
        refine hK.out _ _ ⟨v208, v211, v214, v217, (by rw [ha.out]; exact putSel_upk 41 hb_ rfl rfl rfl), Q_HO171, Q_HO195, Q_HO199, Q_HO203, Q_BK167, Q_BK172, Q_BK196, Q_BK205, Q_BK206, Q_HB, fun _ h1_ => absurd ((hon 9 (by kernel_rfl)).symm.trans h1_) (by decide), fun _ h1_ => absurd ((hon 9 (by kernel_rfl)).symm.trans h1_) (by decide), fun _ h1_ => absurd ((hon 9 (by kernel_rfl)).symm.trans h1_) (by decide), Q_HO218⟩
      refine steps_cons ?_ ?_
      · rintro b a w' ⟨v208, v211, v214, v217, ha, Q_HO171, Q_HO195, Q_HO199, Q_HO203, Q_BK167, Q_BK172, Q_BK196, Q_BK205, Q_BK206, Q_HB, Q_HO209, Q_HO212, Q_HO215, Q_HO218⟩ hb_ hon hoff
        refine ⟨_, rfl, fun K hK => ?_⟩
        have e100 : a.tmps[100]? = some (.bool (t227 == 90)) := by rw [ha]; exact putSel_on (e := (38, 100, .bool (t227 == 90))) 37 rfl rfl (hon 38 (by kernel_rfl)) rfl
        have e104 : a.tmps[104]? = some (.bool (t228 == 1)) := by rw [ha]; exact putSel_on (e := (42, 104, .bool (t228 == 1))) 41 rfl rfl (hon 42 (by kernel_rfl)) rfl
        replace ha := Aside0.mk ha
        refine value_ (w1 := w') (v := .bool (t228 == 1)) (by rfl) rfl ?_ ?_
        · go_simp
          (try simp only [i64_w])
          try rfl
        refine hK.out _ _ ⟨v208, v211, v214, v217, (by rw [ha.out]; exact putSel_upk 42 hb_ rfl rfl rfl), Q_HO171, Q_HO195, Q_HO199, Q_HO203, Q_BK167, Q_BK172, Q_BK196, Q_BK205, Q_BK206, Q_HB, fun _ h1_ => absurd ((hon 9 (by kernel_rfl)).symm.trans h1_) (by decide), fun _ h1_ => absurd ((hon 9 (by kernel_rfl)).symm.trans h1_) (by decide), fun _ h1_ => absurd ((hon 9 (by kernel_rfl)).symm.trans h1_) (by decide), Q_HO218⟩
      refine steps_cons ?_ ?_
      · rintro b a w' ⟨v208, v211, v214, v217, ha, Q_HO171, Q_HO195, Q_HO199, Q_HO203, Q_BK167, Q_BK172, Q_BK196, Q_BK205, Q_BK206, Q_HB, Q_HO209, Q_HO212, Q_HO215, Q_HO218⟩ hb_ hon hoff
        refine ⟨_, rfl, fun K hK => ?_⟩
        have e105 : a.tmps[105]? = some (.bool (t228 == 1)) := by rw [ha]; exact putSel_on (e := (43, 105, .bool (t228 == 1))) 42 rfl rfl (hon 43 (by kernel_rfl)) rfl
        replace ha := Aside0.mk ha
        refine value_ (w1 := w') (v := .bool (t228 == 1)) (by rfl) rfl ?_ ?_
        · go_simp
          (try simp only [i64_w])
          try rfl
        refine hK.out _ _ ⟨v208, v211, v214, v217, (by rw [ha.out]; exact putSel_upk 43 hb_ rfl rfl rfl), Q_HO171, Q_HO195, Q_HO199, Q_HO203, Q_BK167, Q_BK172, Q_BK196, Q_BK205, Q_BK206, Q_HB, fun _ h1_ => absurd ((hon 9 (by kernel_rfl)).symm.trans h1_) (by decide), fun _ h1_ => absurd ((hon 9 (by kernel_rfl)).symm.trans h1_) (by decide), fun _ h1_ => absurd ((hon 9 (by kernel_rfl)).symm.trans h1_) (by decide), Q_HO218⟩
      exact steps_nil
    rintro b a w116 hall ⟨v208, v211, v214, v217, ha, Q_HO171, Q_HO195, Q_HO199, Q_HO203, Q_BK167, Q_BK172, Q_BK196, Q_BK205, Q_BK206, Q_HB, Q_HO209, Q_HO212, Q_HO215, Q_HO218⟩
    clear BK167 BK172 BK196 BK205 BK206 HB HO171 HO195 HO199 HO203
    have hb1_ := hall 1 (by kernel_rfl)
    have hb2_ := hall 2 (by kernel_rfl)
    have hb3_ := hall 3 (by kernel_rfl)
    have hb4_ := hall 4 (by kernel_rfl)
    have hb5_ := hall 5 (by kernel_rfl)
    have hb6_ := hall 6 (by kernel_rfl)
    have hb7_ := hall 7 (by kernel_rfl)
    have hb8_ := hall 8 (by kernel_rfl)
    have hb9_ := hall 9 (by kernel_rfl)
    have hb10_ := hall 10 (by kernel_rfl)
    have hb11_ := hall 11 (by kernel_rfl)
    have hb12_ := hall 12 (by kernel_rfl)
    have hb13_ := hall 13 (by kernel_rfl)
    have hb14_ := hall 14 (by kernel_rfl)
    have hb15_ := hall 15 (by kernel_rfl)
    have hb16_ := hall 16 (by kernel_rfl)
    have hb17_ := hall 17 (by kernel_rfl)
    have hb18_ := hall 18 (by kernel_rfl)
    have hb19_ := hall 19 (by kernel_rfl)
    have hb20_ := hall 20 (by kernel_rfl)
    have hb21_ := hall 21 (by kernel_rfl)
    have hb22_ := hall 22 (by kernel_rfl)
    have hb23_ := hall 23 (by kernel_rfl)
    have hb24_ := hall 24 (by kernel_rfl)
    have hb25_ := hall 25 (by kernel_rfl)
    have hb26_ := hall 26 (by kernel_rfl)
    have hb27_ := hall 27 (by kernel_rfl)
    have hb28_ := hall 28 (by kernel_rfl)
    have hb29_ := hall 29 (by kernel_rfl)
    have hb30_ := hall 30 (by kernel_rfl)
    have hb31_ := hall 31 (by kernel_rfl)
    have hb32_ := hall 32 (by kernel_rfl)
    have hb33_ := hall 33 (by kernel_rfl)
    have hb34_ := hall 34 (by kernel_rfl)
    have hb35_ := hall 35 (by kernel_rfl)
    have hb36_ := hall 36 (by kernel_rfl)
    have hb37_ := hall 37 (by kernel_rfl)
    have hb38_ := hall 38 (by kernel_rfl)
    have hb39_ := hall 39 (by kernel_rfl)
    have hb40_ := hall 40 (by kernel_rfl)
    have hb41_ := hall 41 (by kernel_rfl)
    have hb42_ := hall 42 (by kernel_rfl)
    have hb43_ := hall 43 (by kernel_rfl)
    have hb44_ := hall 44 (by kernel_rfl)
    subst ha
    simp only [putSel, hb1_, hb2_, hb3_, hb4_, hb5_, hb6_, hb7_, hb8_, hb9_, hb10_, hb11_, hb12_, hb13_, hb14_, hb15_, hb16_, hb17_, hb18_, hb19_, hb20_, hb21_, hb22_, hb23_, hb24_, hb25_, hb26_, hb27_, hb28_, hb29_, hb30_, hb31_, hb32_, hb33_, hb34_, hb35_, hb36_, hb37_, hb38_, hb39_, hb40_, hb41_, hb42_, hb43_, hb44_, if_true, Act.put, List.setIfInBounds_toArray, List.set_cons_zero, List.set_cons_succ]
    have HO171 := Aside0.mk Q_HO171
    clear Q_HO171
    have HO195 := Aside0.mk Q_HO195
    clear Q_HO195
    have HO199 := Aside0.mk Q_HO199
    clear Q_HO199
    have HO203 := Aside0.mk Q_HO203
    clear Q_HO203
    have BK167 := Aside0.mk Q_BK167
    clear Q_BK167
    have BK172 := Aside0.mk Q_BK172
    clear Q_BK172
    have BK196 := Aside0.mk Q_BK196
    clear Q_BK196
    have BK205 := Aside0.mk Q_BK205
    clear Q_BK205
    have BK206 := Aside0.mk Q_BK206
    clear Q_BK206
    have HB := Aside0.mk Q_HB
    clear Q_HB
    clear Q_HO209
    clear Q_HO212
    clear Q_HO215
    have HO218 := Aside0.mk (Q_HO218 hb9_)
    clear Q_HO218
    clear hall hb1_ hb2_ hb3_ hb4_ hb5_ hb6_ hb7_ hb8_ hb9_ hb10_ hb11_ hb12_ hb13_ hb14_ hb15_ hb16_ hb17_ hb18_ hb19_ hb20_ hb21_ hb22_ hb23_ hb24_ hb25_ hb26_ hb27_ hb28_ hb29_ hb30_ hb31_ hb32_ hb33_ hb34_ hb35_ hb36_ hb37_ hb38_ hb39_ hb40_ hb41_ hb42_ hb43_ hb44_
    try go_wp2
    go_ret
    exact ⟨by first | rfl | (simp [errW_none, errW_some] <;> rfl) | (simp [*, errW_none, errW_some] <;> rfl), by repeat (first | (with_reducible first | exact HB.out | apply below_alloc | apply pw_below_drewN | apply below_drew1 | refine below_set ?_ GE167.out | refine below_set ?_ GE172.out | refine below_set ?_ GE196.out | refine below_set ?_ GE205.out | refine below_set ?_ GE206.out) | exact HB.out)⟩
  · replace c18 := Bool.eq_false_iff.mpr c18
    subst c18
    have H1 : (some false) = some true := by rw [if_neg (show ¬ (false = true) by decide)] at H; exact H
    clear H
    have H := H1
    clear H1
    exact absurd H (by simp)

end Go.Proofs.YtoiahjncpngkeaaDoor.Pd
