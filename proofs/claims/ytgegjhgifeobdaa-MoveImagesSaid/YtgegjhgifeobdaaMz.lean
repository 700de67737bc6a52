-- Written by this session's program xprint.py: it drives the kit's print with contracts of this session's own.
/- Where the printed contract of plexuslaw43_MoveImages lies. -/
/- MoveImages: what the printed functions of package move compute at right structures; in plain Lean. -/
import Derived.Test.YtgegjhgifeobdaaIi
import Derived.Test.YtgegjhgifeobdaaPk
import Derived.Test.YtgegjhgifeobdaaPdx8
import Derived.Test.YtgegjhgifeobdaaEd
import Derived.Test.YtgegjhgifeobdaaPdDif
import Derived.Test.YtgegjhgifeobdaaPdx11
import Derived.Test.YtgegjhgifeobdaaPdx16
import Derived.Test.YtgegjhgifeobdaaPdVal
namespace Go.Proofs.Ytgegjhgifeobdaa.Pd
open Go.Proofs.Ytgegjhgifeobdaa.Pk Go.RowKit Go.Proofs.YtgegjhgifeobdaaW.PrintWords Go.Proofs.YtgegjhgifeobdaaW.PrintLast Go.Proofs.YtgegjhgifeobdaaW.PrintMore
attribute [local go_sem] max2_int min2_int max_two min_two max_three min_three max_four min_four   -- for this text's walks alone
set_option linter.unusedVariables false
set_option linter.unusedSimpArgs false

/-! ### plexuslaw43_MoveImages: function 3 -/
def plexuslaw43_MoveImages.f (k : Nat) (l0_0 : List Int) (a1 : Int) (l2 : List Int) : Option (Bool) := (plexuslaw43_examples.f).bind fun t418 => (if t418 = true then ((plexusref06_Pick.f l0_0).bind fun bt419 => ((plexusref06_Shuffled.f bt419.1 l2).bind fun t424 => ((plexusref06_Image.f bt419.1 bt419.2 t424).bind fun bt427 => ((plexusref42_Done.f k bt419.1 bt419.2 a1).bind fun t431 => ((plexuslaw43_planned.f k bt419.1 bt419.2 bt427.1 bt427.2 t431).bind fun bt435 => ((plexusref06_SameInts.f k bt435.2.2.1 t431).bind fun t448 => (if t448 = true then (if (bt435.2.2.2.length : Int) = (wrap64 ((bt419.2.length : Int) - (t431.length : Int))) then ((plexuslaw43_check.f k bt419.1 bt419.2 bt427.1 bt427.2 t431 bt435.1 bt435.2.1 bt435.2.2.1 bt435.2.2.2).bind fun t449 => (if t449 = 0 then (some t418) else (some false))) else (some false)) else (some false)))))))) else (some false))
theorem plexuslaw43_MoveImages.mono : ∀ a0 a1 a2 k, LeO (plexuslaw43_MoveImages.f k a0 a1 a2) (plexuslaw43_MoveImages.f (k + 1) a0 a1 a2) := by
  intro a0 a1 a2 k
  unfold plexuslaw43_MoveImages.f
  repeat' first
    | (with_reducible exact plexuslaw43_check.mono _ _ _ _ _ _ _ _ _ _)
    | (with_reducible exact plexuslaw43_planned.mono _ _ _ _ _ _)
    | (with_reducible exact plexusref06_SameInts.mono _ _ _)
    | (with_reducible exact plexusref42_Done.mono _ _ _ _)
    | (with_reducible exact LeO.refl _)
    | (with_reducible exact LeO.none _)
    | (with_reducible refine LeO.ite ?_ ?_)
    | (with_reducible refine LeO.bind ?_ (fun _ => ?_))
    | exact plexuslaw43_check.mono _ _ _ _ _ _ _ _ _ _
    | exact plexuslaw43_planned.mono _ _ _ _ _ _
    | exact plexusref06_SameInts.mono _ _ _
    | exact plexusref42_Done.mono _ _ _ _
    | exact LeO.none _
    | refine LeO.ite ?_ ?_
    | refine LeO.bind ?_ (fun _ => ?_)
def plexuslaw43_MoveImages.T5 : Bool × List (List Nat × List Nat) := (true, [([], []), ([], []), ([], []), ([2], [2]), ([], []), ([3, 4], [3, 4]), ([1, 5, 5], [1, 5]), ([], []), ([], []), ([7, 8, 6], [7, 8]), ([0, 6, 9], [0, 6, 9]), ([], []), ([11, 10, 9, 0, 1, 2, 3, 4, 5, 6, 7, 8, 9, 10, 11], [10, 11])])
def plexuslaw43_MoveImages.B5 : List Nat := [0, 0, 0, 4, 0, 28, 62, 0, 0, 510, 1023, 0, 4095]
theorem plexuslaw43_MoveImages.tab5 : rtab .any (opsOf Try.f3 5) = plexuslaw43_MoveImages.T5 := by kernel_rfl
theorem plexuslaw43_MoveImages.bits5 : waitsOk plexuslaw43_MoveImages.T5.2 plexuslaw43_MoveImages.B5 = true := by kernel_rfl
set_option maxHeartbeats 8000000 in
set_option maxRecDepth 100000 in
theorem plexuslaw43_MoveImages.calls (k : Nat) (A0_0 : Option Addr) (c0_0 : Nat) (l0_0 : List Int) (a1 : Int) (A2 : Option Addr) (c2 : Nat) (l2 : List Int) (w : World) (hr0_0 : Kd.C (Kd.int .u8) w A0_0 l0_0.length l0_0) (hc0_0 : l0_0.length ≤ c0_0) (hr2 : Kd.C (Kd.int .u8) w A2 l2.length l2) (hc2 : l2.length ≤ c2) (h : plexuslaw43_MoveImages.f k l0_0 a1 l2 = some true) :
  Calls Try.prog 3 #[.agg #[.slice A0_0 l0_0.length c0_0], .int .u16 a1, .slice A2 l2.length c2] w fun e w' => e = .returned (.bool true) ∧ Below w.heap.size w w' := by
  have hu24 := Try.underlying24
  have hu29 := Try.underlying29
  have hu36 := Try.underlying36
  have hu40 := Try.underlying40
  have HR0_0 := Aside0.mk hr0_0
  have HC0_0 := Aside0.mk hc0_0
  clear hr0_0 hc0_0
  have HR2 := Aside0.mk hr2
  have HC2 := Aside0.mk hc2
  clear hr2 hc2
  have HB := Aside0.mk (Below.refl w.heap.size w)
  have H : ((plexuslaw43_examples.f).bind fun t418 => (if t418 = true then ((plexusref06_Pick.f l0_0).bind fun bt419 => ((plexusref06_Shuffled.f bt419.1 l2).bind fun t424 => ((plexusref06_Image.f bt419.1 bt419.2 t424).bind fun bt427 => ((plexusref42_Done.f k bt419.1 bt419.2 a1).bind fun t431 => ((plexuslaw43_planned.f k bt419.1 bt419.2 bt427.1 bt427.2 t431).bind fun bt435 => ((plexusref06_SameInts.f k bt435.2.2.1 t431).bind fun t448 => (if t448 = true then (if (bt435.2.2.2.length : Int) = (wrap64 ((bt419.2.length : Int) - (t431.length : Int))) then ((plexuslaw43_check.f k bt419.1 bt419.2 bt427.1 bt427.2 t431 bt435.1 bt435.2.1 bt435.2.2.1 bt435.2.2.2).bind fun t449 => (if t449 = 0 then (some t418) else (some false))) else (some false)) else (some false)))))))) else (some false))) = some true := h
  clear h
  replace H := Option.bind_eq_some_iff.mp H
  obtain ⟨t418, A40, H⟩ := H
  replace H : (if t418 = true then ((plexusref06_Pick.f l0_0).bind fun bt419 => ((plexusref06_Shuffled.f bt419.1 l2).bind fun t424 => ((plexusref06_Image.f bt419.1 bt419.2 t424).bind fun bt427 => ((plexusref42_Done.f k bt419.1 bt419.2 a1).bind fun t431 => ((plexuslaw43_planned.f k bt419.1 bt419.2 bt427.1 bt427.2 t431).bind fun bt435 => ((plexusref06_SameInts.f k bt435.2.2.1 t431).bind fun t448 => (if t448 = true then (if (bt435.2.2.2.length : Int) = (wrap64 ((bt419.2.length : Int) - (t431.length : Int))) then ((plexuslaw43_check.f k bt419.1 bt419.2 bt427.1 bt427.2 t431 bt435.1 bt435.2.1 bt435.2.2.1 bt435.2.2.2).bind fun t449 => (if t449 = 0 then (some t418) else (some false))) else (some false)) else (some false)))))))) else (some false)) = some true := H
  have A4 := Aside0.mk A40
  clear A40
  by_cases c5 : t418 = true
  · subst c5
    have H1 : ((plexusref06_Pick.f l0_0).bind fun bt419 => ((plexusref06_Shuffled.f bt419.1 l2).bind fun t424 => ((plexusref06_Image.f bt419.1 bt419.2 t424).bind fun bt427 => ((plexusref42_Done.f k bt419.1 bt419.2 a1).bind fun t431 => ((plexuslaw43_planned.f k bt419.1 bt419.2 bt427.1 bt427.2 t431).bind fun bt435 => ((plexusref06_SameInts.f k bt435.2.2.1 t431).bind fun t448 => (if t448 = true then (if (bt435.2.2.2.length : Int) = (wrap64 ((bt419.2.length : Int) - (t431.length : Int))) then ((plexuslaw43_check.f k bt419.1 bt419.2 bt427.1 bt427.2 t431 bt435.1 bt435.2.1 bt435.2.2.1 bt435.2.2.2).bind fun t449 => (if t449 = 0 then (some true) else (some false))) else (some false)) else (some false)))))))) = some true := by first | rfl | (rw [if_pos rfl] at H; exact H)
    clear H
    have H := H1
    clear H1
    replace H := Option.bind_eq_some_iff.mp H
    obtain ⟨⟨t419, t420⟩, A60, H⟩ := H
    try dsimp only at H
    have A6 := Aside0.mk A60
    clear A60
    replace H := Option.bind_eq_some_iff.mp H
    obtain ⟨t424, A70, H⟩ := H
    try dsimp only at H
    have A7 := Aside0.mk A70
    clear A70
    replace H := Option.bind_eq_some_iff.mp H
    obtain ⟨⟨t427, t428⟩, A80, H⟩ := H
    try dsimp only at H
    have A8 := Aside0.mk A80
    clear A80
    replace H := Option.bind_eq_some_iff.mp H
    obtain ⟨t431, A90, H⟩ := H
    try dsimp only at H
    have A9 := Aside0.mk A90
    clear A90
    replace H := Option.bind_eq_some_iff.mp H
    obtain ⟨⟨t435, t438, t441, t444⟩, A100, H⟩ := H
    try dsimp only at H
    have A10 := Aside0.mk A100
    clear A100
    replace H := Option.bind_eq_some_iff.mp H
    obtain ⟨t448, A110, H⟩ := H
    replace H : (if t448 = true then (if (t444.length : Int) = (wrap64 ((t420.length : Int) - (t431.length : Int))) then ((plexuslaw43_check.f k t419 t420 t427 t428 t431 t435 t438 t441 t444).bind fun t449 => (if t449 = 0 then (some true) else (some false))) else (some false)) else (some false)) = some true := H
    have A11 := Aside0.mk A110
    clear A110
    by_cases c12 : t448 = true
    · subst c12
      have H1 : (if (t444.length : Int) = (wrap64 ((t420.length : Int) - (t431.length : Int))) then ((plexuslaw43_check.f k t419 t420 t427 t428 t431 t435 t438 t441 t444).bind fun t449 => (if t449 = 0 then (some true) else (some false))) else (some false)) = some true := by first | rfl | (rw [if_pos rfl] at H; exact H)
      clear H
      have H := H1
      clear H1
      by_cases c13 : (t444.length : Int) = (wrap64 ((t420.length : Int) - (t431.length : Int)))
      rotate_left
      · rw [if_neg c13] at H
        have c13b0 : ((t444.length : Int) == (wrap64 ((t420.length : Int) - (t431.length : Int)))) = false := beq_eq_false_iff_ne.mpr c13
        have c13b1 : ((t444.length : Int) != (wrap64 ((t420.length : Int) - (t431.length : Int)))) = true := bne_iff_ne.mpr c13
        exact absurd H (by simp)
      rw [if_pos c13] at H
      have c13b0 : ((t444.length : Int) == (wrap64 ((t420.length : Int) - (t431.length : Int)))) = true := beq_iff_eq.mpr c13
      have c13b1 : ((t444.length : Int) != (wrap64 ((t420.length : Int) - (t431.length : Int)))) = false := bne_eq_false_iff_eq.mpr c13
      clear c13
      replace H := Option.bind_eq_some_iff.mp H
      obtain ⟨t449, A140, H⟩ := H
      replace H : (if t449 = 0 then (some true) else (some false)) = some true := H
      have A14 := Aside0.mk A140
      clear A140
      by_cases c15 : t449 = 0
      rotate_left
      · rw [if_neg c15] at H
        have c15b0 : (t449 == 0) = false := beq_eq_false_iff_ne.mpr c15
        have c15b1 : (t449 != 0) = true := bne_iff_ne.mpr c15
        exact absurd H (by simp)
      rw [if_pos c15] at H
      have c15b0 : (t449 == 0) = true := beq_iff_eq.mpr c15
      have c15b1 : (t449 != 0) = false := bne_eq_false_iff_eq.mpr c15
      clear c15
      have Hr_ := Option.some.inj H
      go_enter Try.func3, Try.ntmps3
      try go_wp2_with (first | ((with_reducible refine gate_dst (N := 3) rfl ?_); (try (refine gate_guard (by rfl) ?_; dsimp only)); refine box_event ?hg (N := 3) ?hd (cs := #[.slice A0_0 l0_0.length c0_0]) (t := 24) ?hr ?_; (case hd => rfl); (case hg => rfl); (case hr => first | (go_simp; done) | (go_simp; rfl)); intro gb417 hg w16 hbox hb; have n0_ := pkS HB hb; have n1_ := Aside0.mk (hbox); have n2_ := pkG hg HB; have n3_ := pkG hg HB; clear HB; have HB := n0_; have BK417 := n1_; have GW417 := n2_; have GE417 := n3_; clear n0_ n1_ n2_ n3_; clear hb hbox hg) | ((with_reducible refine gate_callee (f := 5) rfl ?_); refine goesL_ (some 11) rfl rfl Try.func5 (by kernel_rfl) rfl #[] rfl (by (try simp only [List.map_toArray, List.map_cons, List.map_nil]); first | done | rfl | (simp only [List.length_drop, List.length_take]; rfl)) ?_; (with_reducible refine (plexuslaw43_examples.calls  true _ A4.out).mono ?_); rintro e w17 ⟨rfl, hb⟩; refine ⟨_, rfl, ?_⟩; have n0_ := pkBb BK417 hb; have n1_ := pkS HB hb; clear BK417; clear HB; have BK417 := n0_; have HB := n1_; clear n0_ n1_; (try clear hb); (try clear hb2); (try clear hk); (try clear hi); have hcz18_0 : w17.cell? ⟨gb417, 0, none⟩ = some (.slice A0_0 l0_0.length c0_0) := (blk_cell BK417.out 0).trans rfl; have hfz18_0 := blk_frozen BK417.out 0) | ((with_reducible refine gate_callee (f := 6) rfl ?_); refine goesL_ (some 15) rfl rfl Try.func6 (by kernel_rfl) rfl #[.agg #[.slice A0_0 l0_0.length c0_0]] rfl (by (try simp only [List.map_toArray, List.map_cons, List.map_nil]); first | done | rfl | (simp only [List.length_drop, List.length_take]; rfl)) ?_; (with_reducible refine (plexusref06_Pick.calls _ _ l0_0 t419 t420 _ ?side1 ?side2 A6.out).mono ?_); (case side1 => exact pkC (Kd.C_below HR0_0.out HB.out)); (case side2 => exact HC0_0.out); rintro e w19 ⟨v421, rfl, ho0, hb⟩; refine ⟨_, rfl, ?_⟩; have n0_ := Aside0.mk (Kd.R_lower ho0 (pkZ HB)); have n1_ := pkBb BK417 hb; have n2_ := pkS HB hb; clear BK417; clear HB; have HO422 := n0_; have BK417 := n1_; have HB := n2_; clear n0_ n1_ n2_; (try clear hb); (try clear hb2); (try clear hk); (try clear hi); (try clear ho0)) | ((with_reducible refine gate_dst (N := 8) rfl ?_); (try (refine gate_guard (by rfl) ?_; dsimp only)); refine box_event ?hg (N := 8) ?hd (cs := #[.int .i64 0, .slice none 0 0]) (t := 29) ?hr ?_; (case hd => rfl); (case hg => rfl); (case hr => first | (go_simp; done) | (go_simp; rfl)); intro gb423 hg w20 hbox hb; have n0_ := pkRb HO422 hb; have n1_ := pkBb BK417 hb; have n2_ := pkS HB hb; have n3_ := Aside0.mk (hbox); have n4_ := pkG hg HB; have n5_ := pkG hg HB; have n6_ := pkN hg BK417; have n7_ := pkM hg BK417; clear HO422; clear BK417; clear HB; have HO422 := n0_; have BK417 := n1_; have HB := n2_; have BK423 := n3_; have GW423 := n4_; have GE423 := n5_; have NB417_423 := n6_; have NB423_417 := n7_; clear n0_ n1_ n2_ n3_ n4_ n5_ n6_ n7_; clear hb hbox hg; have hnb21 := NB423_417.out; have hnc21 := NB417_423.out; have hcz22_0 : w20.cell? ⟨gb423, 0, none⟩ = some (.int .i64 0) := (blk_cell BK423.out 0).trans rfl; have hcz22_1 : w20.cell? ⟨gb423, 1, none⟩ = some (.slice none 0 0) := (blk_cell BK423.out 1).trans rfl; have hfz22_0 := blk_frozen BK423.out 0; have hfz22_1 := blk_frozen BK423.out 1; obtain ⟨Ao23, co23, eo23⟩ := Kd.R_slice HO422.out; subst eo23))
      obtain ⟨w24, hW_⟩ : ∃ x_, x_ = ((w20.setCell ⟨gb423, 0, none⟩ (.int .i64 t419)).setCell ⟨gb423, 1, none⟩ (.slice Ao23 t420.length co23)) := ⟨_, rfl⟩
      have n0_ : Aside0 (Kd.R (Kd.int .u64) 57 w24 w.heap.size (fun _ => True) (.slice Ao23 t420.length co23) t420) := ⟨by subst hW_; (with_reducible repeat (first | apply Kd.R_alloc | apply Kd.R_drewN | apply Kd.R_drew)); exact Kd.R_mono (Kd.R_far (p := ⟨gb423, 1, none⟩) (Kd.R_far (p := ⟨gb423, 0, none⟩) (Kd.R_types HO422.out BK423.out (by decide)) (fun _ hk => hk.2) (.int .i64 t419)) (fun _ hk => hk.2) (.slice Ao23 t420.length co23)) (fun _ hk => trivial)⟩
      have n1_ : Aside0 (w24.heap[gb417]? = some (.cells #[.slice A0_0 l0_0.length c0_0] 24 (0, 0))) := ⟨by subst hW_; (with_reducible repeat (first | refine blk_drewN ?_ _ | refine blk_drew ?_ | refine blk_alloc ?_ _)); refine blk_far ?_ NB417_423.out _; (with_reducible repeat (first | refine blk_drewN ?_ _ | refine blk_drew ?_ | refine blk_alloc ?_ _)); refine blk_far ?_ NB417_423.out _; (with_reducible repeat (first | refine blk_drewN ?_ _ | refine blk_drew ?_ | refine blk_alloc ?_ _)); exact BK417.out⟩
      have n2_ : Aside0 (w24.heap[gb423]? = some (.cells #[.int .i64 t419, .slice Ao23 t420.length co23] 29 (0, 0))) := ⟨by subst hW_; (with_reducible repeat (first | refine blk_drewN ?_ _ | refine blk_drew ?_ | refine blk_alloc ?_ _)); refine blk_put (cs := #[.int .i64 t419, .slice none 0 0]) ?_ 1 _ rfl; (with_reducible repeat (first | refine blk_drewN ?_ _ | refine blk_drew ?_ | refine blk_alloc ?_ _)); refine blk_put (cs := #[.int .i64 0, .slice none 0 0]) ?_ 0 _ rfl; (with_reducible repeat (first | refine blk_drewN ?_ _ | refine blk_drew ?_ | refine blk_alloc ?_ _)); exact BK423.out⟩
      have n3_ : Aside0 (Below w.heap.size w w24) := ⟨by subst hW_; exact pkW HB.out⟩
      rw [← hW_]
      clear hW_ HO422 BK417 BK423 HB
      have HO422 := n0_
      have BK417 := n1_
      have BK423 := n2_
      have HB := n3_
      clear n0_ n1_ n2_ n3_
      replace HO422 := Aside0.mk (Kd.R_drew HO422.out)
      replace BK417 := Aside0.mk (blk_drew BK417.out)
      replace BK423 := Aside0.mk (blk_drew BK423.out)
      replace HB := Aside0.mk (below_drew1 HB.out)
      refine start_ (n := 13) (S := fun w' => w'.cell? ⟨gb423, 0, none⟩ = some (.int .i64 t419) ∧ w'.cell? ⟨gb423, 1, none⟩ = some (.slice Ao23 t420.length co23)) (ds := []) #[false, false, false, false, false, false, false, false, false, false, false, false, false] (by kernel_rfl) rfl rfl ⟨(blk_cell BK423.out 0).trans rfl, (blk_cell BK423.out 1).trans rfl⟩ (fun hHeld => ?_); refine with_tabW plexuslaw43_MoveImages.tab5 plexuslaw43_MoveImages.bits5 (fun HT_ HW_ => ?_)
      generalize w24.drew = w25 at HO422 BK417 BK423 HB hHeld ⊢
      refine pkP 2 18 #[false, false, true, false, false, false, false, false, false, false, false, false, false] HT_ ?_
      refine pkP 4 20 #[false, false, true, false, true, false, false, false, false, false, false, false, false] HT_ ?_
      refine pkP 8 24 #[false, false, true, false, true, false, false, false, true, false, false, false, false] HT_ ?_
      refine take_ (i := 0) (N := some 16) (v := ?_) (a' := ?_) #[true, false, true, false, true, false, false, false, true, false, false, false, false] rfl rfl (take_ofW HT_.out HW_.out (by kernel_rfl)) (fun _ _ _ h => h) (Or.inl ⟨by rfl, ?_⟩) hHeld ?_ ?_
      rotate_left
      · rintro w' ⟨s0, s1⟩
        go_simp
        with_reducible rfl
      rotate_left
      · simp only [Act.put, List.setIfInBounds_toArray, List.set_cons_zero, List.set_cons_succ, i64_w, i32_w]
        rfl
      refine take_ (i := 1) (N := some 17) (v := ?_) (a' := ?_) #[true, true, true, false, true, false, false, false, true, false, false, false, false] rfl rfl (take_ofW HT_.out HW_.out (by kernel_rfl)) (fun _ _ _ h => h) (Or.inl ⟨by rfl, ?_⟩) hHeld ?_ ?_
      rotate_left
      · rintro w' ⟨s0, s1⟩
        go_simp
        with_reducible rfl
      rotate_left
      · simp only [Act.put, List.setIfInBounds_toArray, List.set_cons_zero, List.set_cons_succ, i64_w, i32_w]
        rfl
      refine take_ (i := 3) (N := some 19) (v := ?_) (a' := ?_) #[true, true, true, true, true, false, false, false, true, false, false, false, false] rfl rfl (take_ofW HT_.out HW_.out (by kernel_rfl)) (fun _ _ _ h => h) (Or.inl ⟨by rfl, ?_⟩) hHeld ?_ ?_
      rotate_left
      · rintro w' ⟨s0, s1⟩
        go_simp
        with_reducible rfl
      rotate_left
      · simp only [Act.put, List.setIfInBounds_toArray, List.set_cons_zero, List.set_cons_succ, i64_w, i32_w]
        rfl
      refine take_ (i := 7) (N := some 23) (v := ?_) (a' := ?_) #[true, true, true, true, true, false, false, true, true, false, false, false, false] rfl rfl (take_ofW HT_.out HW_.out (by kernel_rfl)) (fun _ _ _ h => h) (Or.inl ⟨by rfl, ?_⟩) hHeld ?_ ?_
      rotate_left
      · rintro w' ⟨s0, s1⟩
        go_simp
        with_reducible rfl
      rotate_left
      · simp only [Act.put, List.setIfInBounds_toArray, List.set_cons_zero, List.set_cons_succ, i64_w, i32_w]
        rfl
      refine join_ (σ := Value × Value × Value × Nat) 1 #[true, true, true, true, true, true, true, true, true, true, true, true, false] (fun s_ => [(21, s_.1), (22, .agg #[.int .i64 t427, s_.2.1]), (25, s_.2.2.1), (9, .pointer (some ⟨s_.2.2.2, 0, none⟩)), (26, .agg #[.int .i64 t419, .slice Ao23 t420.length co23, .int .i64 t427, s_.2.1, s_.2.2.1])]) (fun s_ w' => (w'.cell? ⟨gb423, 0, none⟩ = some (.int .i64 t419) ∧ w'.cell? ⟨gb423, 1, none⟩ = some (.slice Ao23 t420.length co23)) ∧ (Kd.R (Kd.int .u64) 57 w' w.heap.size (fun k_ => some k_ ≠ (s_.2.1 : Value).ownBlock) (.slice Ao23 t420.length co23) t420) ∧ (Kd.R (Kd.int .i64) 3 w' w.heap.size (fun k_ => some k_ ≠ (s_.2.2.1 : Value).ownBlock) s_.1 t424) ∧ (Kd.R (Kd.int .u64) 57 w' w.heap.size (fun k_ => some k_ ≠ (.slice Ao23 t420.length co23 : Value).ownBlock) s_.2.1 t428) ∧ (Kd.R (Kd.int .i64) 3 w' w.heap.size (fun k_ => some k_ ≠ (s_.1 : Value).ownBlock) s_.2.2.1 t431) ∧ (w'.heap[gb417]? = some (.cells #[.slice A0_0 l0_0.length c0_0] 24 (0, 0))) ∧ (w'.heap[gb423]? = some (.cells #[.int .i64 t419, .slice Ao23 t420.length co23] 29 (0, 0))) ∧ (w'.heap[s_.2.2.2]? = some (.cells #[.int .i64 0, .slice none 0 0, .int .i64 0, .slice none 0 0, .slice none 0 0] 36 (0, 0))) ∧ (w.heap.size ≤ s_.2.2.2) ∧ (w.heap.size ≤ s_.2.2.2) ∧ (gb417 ≠ s_.2.2.2) ∧ (s_.2.2.2 ≠ gb417) ∧ (gb423 ≠ s_.2.2.2) ∧ (s_.2.2.2 ≠ gb423) ∧ (Below w.heap.size w w')) ?_ ?_
      rotate_left
      · intro hCont
        refine two_ (i := 5) (j := 11) (Ni := some 21) (Nj := some 9) #[true, true, true, true, true, true, false, true, true, false, false, false, false] #[true, true, true, true, true, false, false, true, true, false, false, true, false] rfl rfl rfl rfl (two_of HT_.out (by kernel_rfl)) (by decide) (by decide) (fun K hK => ?_) (fun K hK => ?_)
        · skip
          refine goes_ Try.func8 (by kernel_rfl) rfl #[.int .i64 t419, .slice A2 l2.length c2] (by rfl) rfl rfl (by (try simp only [List.map_toArray, List.map_cons, List.map_nil]); first | done | rfl | (simp only [List.length_drop, List.length_take]; rfl)) ?_
          with_reducible refine (plexusref06_Shuffled.calls t419 _ _ l2 t424 _ ?side1 ?side2 A7.out).mono ?_
          case side1 => exact pkC (Kd.C_below HR2.out HB.out)
          case side2 => exact HC2.out
          rintro e w26 ⟨v425, rfl, ho0, hb⟩
          refine ⟨_, rfl, ?_⟩
          replace HO422 := pkRb HO422 hb
          have HO426 := Aside0.mk (Kd.R_lower ho0 (pkZ HB))
          replace BK417 := pkBb BK417 hb
          replace BK423 := pkBb BK423 hb
          replace HB := pkS HB hb
          (try clear hb)
          (try clear hb2)
          (try clear hk)
          (try clear hi)
          (try clear ho0)
          obtain ⟨Ao27, co27, eo27⟩ := Kd.R_slice HO426.out
          (first | subst eo27 | (injection eo27 with f1_ f2_ f3_; have f4_ := f1_.symm; have f5_ := f3_.symm; clear f1_ f2_ f3_; subst f4_; subst f5_))
          refine hK.out _ _ ⟨(blk_cell BK423.out 0).trans rfl, (blk_cell BK423.out 1).trans rfl⟩ (fun hHeld => ?_)
          clear hK K
          refine pkA 21 ?_
          refine two_ (i := 6) (j := 11) (Ni := some 22) (Nj := some 9) #[true, true, true, true, true, true, true, true, true, false, false, false, false] #[true, true, true, true, true, true, false, true, true, false, false, true, false] rfl rfl rfl rfl (two_of HT_.out (by kernel_rfl)) (by decide) (by decide) (fun K hK => ?_) (fun K hK => ?_)
          · skip
            refine goes_ Try.func7 (by kernel_rfl) rfl #[.agg #[.int .i64 t419, .slice Ao23 t420.length co23], .slice Ao27 t424.length co27] (by rfl) rfl rfl (by (try simp only [List.map_toArray, List.map_cons, List.map_nil]); first | done | rfl | (simp only [List.length_drop, List.length_take]; rfl)) ?_
            with_reducible refine (plexusref06_Image.calls t419 _ _ t420 _ _ t424 t427 t428 _ ?side1 ?side2 ?side3 ?side4 A8.out).mono ?_
            case side1 => exact pkC (Kd.R_reads' HO422.out).2.2
            case side2 => exact (Kd.R_reads' HO422.out).2.1
            case side3 => exact pkC (Kd.R_reads' HO426.out).2.2
            case side4 => exact (Kd.R_reads' HO426.out).2.1
            rintro e w28 ⟨v429, rfl, ho0, hb⟩
            refine ⟨_, rfl, ?_⟩
            replace HO426 := pkRb HO426 hb
            have HO430 := Aside0.mk (Kd.R_lower (Kd.R_new' ho0 (Kd.R_lt (pkR HO422.out))) (pkZ HB))
            replace HO422 := Aside0.mk (Kd.R_elder' (pkR HO422.out) (Kd.R_base ho0) hb)
            replace BK417 := pkBb BK417 hb
            replace BK423 := pkBb BK423 hb
            replace HB := pkS HB hb
            (try clear hb)
            (try clear hb2)
            (try clear hk)
            (try clear hi)
            (try clear ho0)
            refine hK.out _ _ ⟨(blk_cell BK423.out 0).trans rfl, (blk_cell BK423.out 1).trans rfl⟩ (fun hHeld => ?_)
            clear hK K
            refine pkA 22 ?_
            refine two_ (i := 9) (j := 11) (Ni := some 25) (Nj := some 9) #[true, true, true, true, true, true, true, true, true, true, false, false, false] #[true, true, true, true, true, true, true, true, true, false, false, true, false] rfl rfl rfl rfl (two_of HT_.out (by kernel_rfl)) (by decide) (by decide) (fun K hK => ?_) (fun K hK => ?_)
            · skip
              refine goes_ Try.func9 (by kernel_rfl) rfl #[.agg #[.int .i64 t419, .slice Ao23 t420.length co23], .int .u16 a1] (by rfl) rfl rfl (by (try simp only [List.map_toArray, List.map_cons, List.map_nil]); first | done | rfl | (simp only [List.length_drop, List.length_take]; rfl)) ?_
              with_reducible refine (plexusref42_Done.calls k t419 _ _ t420 a1 t431 _ ?side1 ?side2 A9.out).mono ?_
              case side1 => exact pkC (Kd.R_reads' HO422.out).2.2
              case side2 => exact (Kd.R_reads' HO422.out).2.1
              rintro e w29 ⟨v432, rfl, ho0, hb⟩
              refine ⟨_, rfl, ?_⟩
              replace HO422 := pkRb HO422 hb
              replace HO430 := pkRb HO430 hb
              have HO433 := Aside0.mk (Kd.R_lower (Kd.R_new' ho0 (Kd.R_lt (pkR HO426.out))) (pkZ HB))
              replace HO426 := Aside0.mk (Kd.R_elder' (pkR HO426.out) (Kd.R_base ho0) hb)
              replace BK417 := pkBb BK417 hb
              replace BK423 := pkBb BK423 hb
              replace HB := pkS HB hb
              (try clear hb)
              (try clear hb2)
              (try clear hk)
              (try clear hi)
              (try clear ho0)
              obtain ⟨Ao30, co30, eo30⟩ := Kd.R_slice HO433.out
              (first | subst eo30 | (injection eo30 with f1_ f2_ f3_; have f4_ := f1_.symm; have f5_ := f3_.symm; clear f1_ f2_ f3_; subst f4_; subst f5_))
              obtain ⟨Ao31, co31, eo31⟩ := Kd.R_slice HO430.out
              (first | subst eo31 | (injection eo31 with f1_ f2_ f3_; have f4_ := f1_.symm; have f5_ := f3_.symm; clear f1_ f2_ f3_; subst f4_; subst f5_))
              refine hK.out _ _ ⟨(blk_cell BK423.out 0).trans rfl, (blk_cell BK423.out 1).trans rfl⟩ (fun hHeld => ?_)
              clear hK K
              refine pkA 25 ?_
              refine pkP 10 26 #[true, true, true, true, true, true, true, true, true, true, true, false, false] HT_ ?_
              refine one_ (i := 11) (N := some 9) #[true, true, true, true, true, true, true, true, true, true, true, true, false] rfl rfl (one_of HT_.out (by kernel_rfl)) (by decide) (fun K hK => ?_)
              refine box_step ?hg (N := 9) ?hd (cs := #[.int .i64 0, .slice none 0 0, .int .i64 0, .slice none 0 0, .slice none 0 0]) (t := 36) ?hr ?_; (case hd => rfl); (case hg => rfl); (case hr => first | (go_simp; done) | (go_simp; rfl))
              intro gb434 hg w32 hbox hb
              replace HO422 := pkRb HO422 hb
              replace HO426 := pkRb HO426 hb
              replace HO430 := pkRb HO430 hb
              replace HO433 := pkRb HO433 hb
              have BK434 := Aside0.mk (hbox)
              have GW434 := pkG hg HB
              have GE434 := pkG hg HB
              replace HB := pkS HB hb
              have NB417_434 := pkN hg BK417
              have NB434_417 := pkM hg BK417
              replace BK417 := pkBb BK417 hb
              have NB423_434 := pkN hg BK423
              have NB434_423 := pkM hg BK423
              replace BK423 := pkBb BK423 hb
              clear hb hbox hg
              refine hK.out _ _ ⟨(blk_cell BK423.out 0).trans rfl, (blk_cell BK423.out 1).trans rfl⟩ (fun hHeld => ?_)
              clear hK K
              refine pkA 9 ?_
              exact norm_ (by simp only [YtgegjhgifeobdaaW.PrintLast.putAll, Act.put, List.setIfInBounds_toArray, List.set_cons_zero, List.set_cons_succ]) (hCont (.slice Ao27 t424.length co27, .slice Ao31 t428.length co31, .slice Ao30 t431.length co30, gb434) _ ⟨hHeld, (pkR (Kd.R_mono HO422.out (fun _ hk => hk.2))), (pkR (Kd.R_mono HO426.out (fun _ hk => hk.2))), (pkR (Kd.R_mono HO430.out (fun _ hk => hk.2))), (pkR (Kd.R_mono HO433.out (fun _ hk => hk.2))), (pkB BK417.out), (pkB BK423.out), (pkB BK434.out), GW434.out, GE434.out, NB417_434.out, NB434_417.out, NB423_434.out, NB434_423.out, (pkW HB.out)⟩)
            · skip
              refine box_step ?hg (N := 9) ?hd (cs := #[.int .i64 0, .slice none 0 0, .int .i64 0, .slice none 0 0, .slice none 0 0]) (t := 36) ?hr ?_; (case hd => rfl); (case hg => rfl); (case hr => first | (go_simp; done) | (go_simp; rfl))
              intro gb434 hg w29 hbox hb
              replace HO422 := pkRb HO422 hb
              replace HO426 := pkRb HO426 hb
              replace HO430 := pkRb HO430 hb
              have BK434 := Aside0.mk (hbox)
              have GW434 := pkG hg HB
              have GE434 := pkG hg HB
              replace HB := pkS HB hb
              have NB417_434 := pkN hg BK417
              have NB434_417 := pkM hg BK417
              replace BK417 := pkBb BK417 hb
              have NB423_434 := pkN hg BK423
              have NB434_423 := pkM hg BK423
              replace BK423 := pkBb BK423 hb
              clear hb hbox hg
              refine hK.out _ _ ⟨(blk_cell BK423.out 0).trans rfl, (blk_cell BK423.out 1).trans rfl⟩ (fun hHeld => ?_)
              clear hK K
              refine pkA 9 ?_
              refine one_ (i := 9) (N := some 25) #[true, true, true, true, true, true, true, true, true, true, false, true, false] rfl rfl (one_of HT_.out (by kernel_rfl)) (by decide) (fun K hK => ?_)
              refine goes_ Try.func9 (by kernel_rfl) rfl #[.agg #[.int .i64 t419, .slice Ao23 t420.length co23], .int .u16 a1] (by rfl) rfl rfl (by (try simp only [List.map_toArray, List.map_cons, List.map_nil]); first | done | rfl | (simp only [List.length_drop, List.length_take]; rfl)) ?_
              with_reducible refine (plexusref42_Done.calls k t419 _ _ t420 a1 t431 _ ?side1 ?side2 A9.out).mono ?_
              case side1 => exact pkC (Kd.R_reads' HO422.out).2.2
              case side2 => exact (Kd.R_reads' HO422.out).2.1
              rintro e w30 ⟨v432, rfl, ho0, hb⟩
              refine ⟨_, rfl, ?_⟩
              replace HO422 := pkRb HO422 hb
              replace HO430 := pkRb HO430 hb
              have HO433 := Aside0.mk (Kd.R_lower (Kd.R_new' ho0 (Kd.R_lt (pkR HO426.out))) (pkZ HB))
              replace HO426 := Aside0.mk (Kd.R_elder' (pkR HO426.out) (Kd.R_base ho0) hb)
              replace BK417 := pkBb BK417 hb
              replace BK423 := pkBb BK423 hb
              replace BK434 := pkBb BK434 hb
              replace HB := pkS HB hb
              (try clear hb)
              (try clear hb2)
              (try clear hk)
              (try clear hi)
              (try clear ho0)
              obtain ⟨Ao31, co31, eo31⟩ := Kd.R_slice HO433.out
              (first | subst eo31 | (injection eo31 with f1_ f2_ f3_; have f4_ := f1_.symm; have f5_ := f3_.symm; clear f1_ f2_ f3_; subst f4_; subst f5_))
              obtain ⟨Ao32, co32, eo32⟩ := Kd.R_slice HO430.out
              (first | subst eo32 | (injection eo32 with f1_ f2_ f3_; have f4_ := f1_.symm; have f5_ := f3_.symm; clear f1_ f2_ f3_; subst f4_; subst f5_))
              refine hK.out _ _ ⟨(blk_cell BK423.out 0).trans rfl, (blk_cell BK423.out 1).trans rfl⟩ (fun hHeld => ?_)
              clear hK K
              refine pkA 25 ?_
              refine pkP 10 26 #[true, true, true, true, true, true, true, true, true, true, true, true, false] HT_ ?_
              exact norm_ (by simp only [YtgegjhgifeobdaaW.PrintLast.putAll, Act.put, List.setIfInBounds_toArray, List.set_cons_zero, List.set_cons_succ]) (hCont (.slice Ao27 t424.length co27, .slice Ao32 t428.length co32, .slice Ao31 t431.length co31, gb434) _ ⟨hHeld, (pkR (Kd.R_mono HO422.out (fun _ hk => hk.2))), (pkR (Kd.R_mono HO426.out (fun _ hk => hk.2))), (pkR (Kd.R_mono HO430.out (fun _ hk => hk.2))), (pkR (Kd.R_mono HO433.out (fun _ hk => hk.2))), (pkB BK417.out), (pkB BK423.out), (pkB BK434.out), GW434.out, GE434.out, NB417_434.out, NB434_417.out, NB423_434.out, NB434_423.out, (pkW HB.out)⟩)
          · skip
            refine box_step ?hg (N := 9) ?hd (cs := #[.int .i64 0, .slice none 0 0, .int .i64 0, .slice none 0 0, .slice none 0 0]) (t := 36) ?hr ?_; (case hd => rfl); (case hg => rfl); (case hr => first | (go_simp; done) | (go_simp; rfl))
            intro gb434 hg w27 hbox hb
            replace HO422 := pkRb HO422 hb
            replace HO426 := pkRb HO426 hb
            have BK434 := Aside0.mk (hbox)
            have GW434 := pkG hg HB
            have GE434 := pkG hg HB
            replace HB := pkS HB hb
            have NB417_434 := pkN hg BK417
            have NB434_417 := pkM hg BK417
            replace BK417 := pkBb BK417 hb
            have NB423_434 := pkN hg BK423
            have NB434_423 := pkM hg BK423
            replace BK423 := pkBb BK423 hb
            clear hb hbox hg
            obtain ⟨Ao28, co28, eo28⟩ := Kd.R_slice HO426.out
            (first | subst eo28 | (injection eo28 with f1_ f2_ f3_; have f4_ := f1_.symm; have f5_ := f3_.symm; clear f1_ f2_ f3_; subst f4_; subst f5_))
            refine hK.out _ _ ⟨(blk_cell BK423.out 0).trans rfl, (blk_cell BK423.out 1).trans rfl⟩ (fun hHeld => ?_)
            clear hK K
            refine pkA 9 ?_
            refine one_ (i := 6) (N := some 22) #[true, true, true, true, true, true, true, true, true, false, false, true, false] rfl rfl (one_of HT_.out (by kernel_rfl)) (by decide) (fun K hK => ?_)
            refine goes_ Try.func7 (by kernel_rfl) rfl #[.agg #[.int .i64 t419, .slice Ao23 t420.length co23], .slice Ao28 t424.length co28] (by rfl) rfl rfl (by (try simp only [List.map_toArray, List.map_cons, List.map_nil]); first | done | rfl | (simp only [List.length_drop, List.length_take]; rfl)) ?_
            with_reducible refine (plexusref06_Image.calls t419 _ _ t420 _ _ t424 t427 t428 _ ?side1 ?side2 ?side3 ?side4 A8.out).mono ?_
            case side1 => exact pkC (Kd.R_reads' HO422.out).2.2
            case side2 => exact (Kd.R_reads' HO422.out).2.1
            case side3 => exact pkC (Kd.R_reads' HO426.out).2.2
            case side4 => exact (Kd.R_reads' HO426.out).2.1
            rintro e w29 ⟨v429, rfl, ho0, hb⟩
            refine ⟨_, rfl, ?_⟩
            replace HO426 := pkRb HO426 hb
            have HO430 := Aside0.mk (Kd.R_lower (Kd.R_new' ho0 (Kd.R_lt (pkR HO422.out))) (pkZ HB))
            replace HO422 := Aside0.mk (Kd.R_elder' (pkR HO422.out) (Kd.R_base ho0) hb)
            replace BK417 := pkBb BK417 hb
            replace BK423 := pkBb BK423 hb
            replace BK434 := pkBb BK434 hb
            replace HB := pkS HB hb
            (try clear hb)
            (try clear hb2)
            (try clear hk)
            (try clear hi)
            (try clear ho0)
            refine hK.out _ _ ⟨(blk_cell BK423.out 0).trans rfl, (blk_cell BK423.out 1).trans rfl⟩ (fun hHeld => ?_)
            clear hK K
            refine pkA 22 ?_
            refine one_ (i := 9) (N := some 25) #[true, true, true, true, true, true, true, true, true, true, false, true, false] rfl rfl (one_of HT_.out (by kernel_rfl)) (by decide) (fun K hK => ?_)
            refine goes_ Try.func9 (by kernel_rfl) rfl #[.agg #[.int .i64 t419, .slice Ao23 t420.length co23], .int .u16 a1] (by rfl) rfl rfl (by (try simp only [List.map_toArray, List.map_cons, List.map_nil]); first | done | rfl | (simp only [List.length_drop, List.length_take]; rfl)) ?_
            with_reducible refine (plexusref42_Done.calls k t419 _ _ t420 a1 t431 _ ?side1 ?side2 A9.out).mono ?_
            case side1 => exact pkC (Kd.R_reads' HO422.out).2.2
            case side2 => exact (Kd.R_reads' HO422.out).2.1
            rintro e w30 ⟨v432, rfl, ho0, hb⟩
            refine ⟨_, rfl, ?_⟩
            replace HO422 := pkRb HO422 hb
            replace HO430 := pkRb HO430 hb
            have HO433 := Aside0.mk (Kd.R_lower (Kd.R_new' ho0 (Kd.R_lt (pkR HO426.out))) (pkZ HB))
            replace HO426 := Aside0.mk (Kd.R_elder' (pkR HO426.out) (Kd.R_base ho0) hb)
            replace BK417 := pkBb BK417 hb
            replace BK423 := pkBb BK423 hb
            replace BK434 := pkBb BK434 hb
            replace HB := pkS HB hb
            (try clear hb)
            (try clear hb2)
            (try clear hk)
            (try clear hi)
            (try clear ho0)
            obtain ⟨Ao31, co31, eo31⟩ := Kd.R_slice HO433.out
            (first | subst eo31 | (injection eo31 with f1_ f2_ f3_; have f4_ := f1_.symm; have f5_ := f3_.symm; clear f1_ f2_ f3_; subst f4_; subst f5_))
            obtain ⟨Ao32, co32, eo32⟩ := Kd.R_slice HO430.out
            (first | subst eo32 | (injection eo32 with f1_ f2_ f3_; have f4_ := f1_.symm; have f5_ := f3_.symm; clear f1_ f2_ f3_; subst f4_; subst f5_))
            refine hK.out _ _ ⟨(blk_cell BK423.out 0).trans rfl, (blk_cell BK423.out 1).trans rfl⟩ (fun hHeld => ?_)
            clear hK K
            refine pkA 25 ?_
            refine pkP 10 26 #[true, true, true, true, true, true, true, true, true, true, true, true, false] HT_ ?_
            exact norm_ (by simp only [YtgegjhgifeobdaaW.PrintLast.putAll, Act.put, List.setIfInBounds_toArray, List.set_cons_zero, List.set_cons_succ]) (hCont (.slice Ao28 t424.length co28, .slice Ao32 t428.length co32, .slice Ao31 t431.length co31, gb434) _ ⟨hHeld, (pkR (Kd.R_mono HO422.out (fun _ hk => hk.2))), (pkR (Kd.R_mono HO426.out (fun _ hk => hk.2))), (pkR (Kd.R_mono HO430.out (fun _ hk => hk.2))), (pkR (Kd.R_mono HO433.out (fun _ hk => hk.2))), (pkB BK417.out), (pkB BK423.out), (pkB BK434.out), GW434.out, GE434.out, NB417_434.out, NB434_417.out, NB423_434.out, NB434_423.out, (pkW HB.out)⟩)
        · skip
          refine box_step ?hg (N := 9) ?hd (cs := #[.int .i64 0, .slice none 0 0, .int .i64 0, .slice none 0 0, .slice none 0 0]) (t := 36) ?hr ?_; (case hd => rfl); (case hg => rfl); (case hr => first | (go_simp; done) | (go_simp; rfl))
          intro gb434 hg w26 hbox hb
          replace HO422 := pkRb HO422 hb
          have BK434 := Aside0.mk (hbox)
          have GW434 := pkG hg HB
          have GE434 := pkG hg HB
          replace HB := pkS HB hb
          have NB417_434 := pkN hg BK417
          have NB434_417 := pkM hg BK417
          replace BK417 := pkBb BK417 hb
          have NB423_434 := pkN hg BK423
          have NB434_423 := pkM hg BK423
          replace BK423 := pkBb BK423 hb
          clear hb hbox hg
          refine hK.out _ _ ⟨(blk_cell BK423.out 0).trans rfl, (blk_cell BK423.out 1).trans rfl⟩ (fun hHeld => ?_)
          clear hK K
          refine pkA 9 ?_
          refine one_ (i := 5) (N := some 21) #[true, true, true, true, true, true, false, true, true, false, false, true, false] rfl rfl (one_of HT_.out (by kernel_rfl)) (by decide) (fun K hK => ?_)
          refine goes_ Try.func8 (by kernel_rfl) rfl #[.int .i64 t419, .slice A2 l2.length c2] (by rfl) rfl rfl (by (try simp only [List.map_toArray, List.map_cons, List.map_nil]); first | done | rfl | (simp only [List.length_drop, List.length_take]; rfl)) ?_
          with_reducible refine (plexusref06_Shuffled.calls t419 _ _ l2 t424 _ ?side1 ?side2 A7.out).mono ?_
          case side1 => exact pkC (Kd.C_below HR2.out HB.out)
          case side2 => exact HC2.out
          rintro e w27 ⟨v425, rfl, ho0, hb⟩
          refine ⟨_, rfl, ?_⟩
          replace HO422 := pkRb HO422 hb
          have HO426 := Aside0.mk (Kd.R_lower ho0 (pkZ HB))
          replace BK417 := pkBb BK417 hb
          replace BK423 := pkBb BK423 hb
          replace BK434 := pkBb BK434 hb
          replace HB := pkS HB hb
          (try clear hb)
          (try clear hb2)
          (try clear hk)
          (try clear hi)
          (try clear ho0)
          obtain ⟨Ao28, co28, eo28⟩ := Kd.R_slice HO426.out
          (first | subst eo28 | (injection eo28 with f1_ f2_ f3_; have f4_ := f1_.symm; have f5_ := f3_.symm; clear f1_ f2_ f3_; subst f4_; subst f5_))
          refine hK.out _ _ ⟨(blk_cell BK423.out 0).trans rfl, (blk_cell BK423.out 1).trans rfl⟩ (fun hHeld => ?_)
          clear hK K
          refine pkA 21 ?_
          refine one_ (i := 6) (N := some 22) #[true, true, true, true, true, true, true, true, true, false, false, true, false] rfl rfl (one_of HT_.out (by kernel_rfl)) (by decide) (fun K hK => ?_)
          refine goes_ Try.func7 (by kernel_rfl) rfl #[.agg #[.int .i64 t419, .slice Ao23 t420.length co23], .slice Ao28 t424.length co28] (by rfl) rfl rfl (by (try simp only [List.map_toArray, List.map_cons, List.map_nil]); first | done | rfl | (simp only [List.length_drop, List.length_take]; rfl)) ?_
          with_reducible refine (plexusref06_Image.calls t419 _ _ t420 _ _ t424 t427 t428 _ ?side1 ?side2 ?side3 ?side4 A8.out).mono ?_
          case side1 => exact pkC (Kd.R_reads' HO422.out).2.2
          case side2 => exact (Kd.R_reads' HO422.out).2.1
          case side3 => exact pkC (Kd.R_reads' HO426.out).2.2
          case side4 => exact (Kd.R_reads' HO426.out).2.1
          rintro e w29 ⟨v429, rfl, ho0, hb⟩
          refine ⟨_, rfl, ?_⟩
          replace HO426 := pkRb HO426 hb
          have HO430 := Aside0.mk (Kd.R_lower (Kd.R_new' ho0 (Kd.R_lt (pkR HO422.out))) (pkZ HB))
          replace HO422 := Aside0.mk (Kd.R_elder' (pkR HO422.out) (Kd.R_base ho0) hb)
          replace BK417 := pkBb BK417 hb
          replace BK423 := pkBb BK423 hb
          replace BK434 := pkBb BK434 hb
          replace HB := pkS HB hb
          (try clear hb)
          (try clear hb2)
          (try clear hk)
          (try clear hi)
          (try clear ho0)
          refine hK.out _ _ ⟨(blk_cell BK423.out 0).trans rfl, (blk_cell BK423.out 1).trans rfl⟩ (fun hHeld => ?_)
          clear hK K
          refine pkA 22 ?_
          refine one_ (i := 9) (N := some 25) #[true, true, true, true, true, true, true, true, true, true, false, true, false] rfl rfl (one_of HT_.out (by kernel_rfl)) (by decide) (fun K hK => ?_)
          refine goes_ Try.func9 (by kernel_rfl) rfl #[.agg #[.int .i64 t419, .slice Ao23 t420.length co23], .int .u16 a1] (by rfl) rfl rfl (by (try simp only [List.map_toArray, List.map_cons, List.map_nil]); first | done | rfl | (simp only [List.length_drop, List.length_take]; rfl)) ?_
          with_reducible refine (plexusref42_Done.calls k t419 _ _ t420 a1 t431 _ ?side1 ?side2 A9.out).mono ?_
          case side1 => exact pkC (Kd.R_reads' HO422.out).2.2
          case side2 => exact (Kd.R_reads' HO422.out).2.1
          rintro e w30 ⟨v432, rfl, ho0, hb⟩
          refine ⟨_, rfl, ?_⟩
          replace HO422 := pkRb HO422 hb
          replace HO430 := pkRb HO430 hb
          have HO433 := Aside0.mk (Kd.R_lower (Kd.R_new' ho0 (Kd.R_lt (pkR HO426.out))) (pkZ HB))
          replace HO426 := Aside0.mk (Kd.R_elder' (pkR HO426.out) (Kd.R_base ho0) hb)
          replace BK417 := pkBb BK417 hb
          replace BK423 := pkBb BK423 hb
          replace BK434 := pkBb BK434 hb
          replace HB := pkS HB hb
          (try clear hb)
          (try clear hb2)
          (try clear hk)
          (try clear hi)
          (try clear ho0)
          obtain ⟨Ao31, co31, eo31⟩ := Kd.R_slice HO433.out
          (first | subst eo31 | (injection eo31 with f1_ f2_ f3_; have f4_ := f1_.symm; have f5_ := f3_.symm; clear f1_ f2_ f3_; subst f4_; subst f5_))
          obtain ⟨Ao32, co32, eo32⟩ := Kd.R_slice HO430.out
          (first | subst eo32 | (injection eo32 with f1_ f2_ f3_; have f4_ := f1_.symm; have f5_ := f3_.symm; clear f1_ f2_ f3_; subst f4_; subst f5_))
          refine hK.out _ _ ⟨(blk_cell BK423.out 0).trans rfl, (blk_cell BK423.out 1).trans rfl⟩ (fun hHeld => ?_)
          clear hK K
          refine pkA 25 ?_
          refine pkP 10 26 #[true, true, true, true, true, true, true, true, true, true, true, true, false] HT_ ?_
          exact norm_ (by simp only [YtgegjhgifeobdaaW.PrintLast.putAll, Act.put, List.setIfInBounds_toArray, List.set_cons_zero, List.set_cons_succ]) (hCont (.slice Ao28 t424.length co28, .slice Ao32 t428.length co32, .slice Ao31 t431.length co31, gb434) _ ⟨hHeld, (pkR (Kd.R_mono HO422.out (fun _ hk => hk.2))), (pkR (Kd.R_mono HO426.out (fun _ hk => hk.2))), (pkR (Kd.R_mono HO430.out (fun _ hk => hk.2))), (pkR (Kd.R_mono HO433.out (fun _ hk => hk.2))), (pkB BK417.out), (pkB BK423.out), (pkB BK434.out), GW434.out, GE434.out, NB417_434.out, NB434_417.out, NB423_434.out, NB434_423.out, (pkW HB.out)⟩)
      clear HO422 BK417 BK423 HB
      rintro ⟨v425, v429, v432, gb434⟩ w33 ⟨hS_, HO422, HO426, HO430, HO433, BK417, BK423, BK434, GW434, GE434, NB417_434, NB434_417, NB423_434, NB434_423, HB⟩
      try dsimp only at HO422 HO426 HO430 HO433 BK417 BK423 BK434 GW434 GE434 NB417_434 NB434_417 NB423_434 NB434_423 HB
      replace HO422 := Aside0.mk HO422
      replace HO426 := Aside0.mk HO426
      replace HO430 := Aside0.mk HO430
      replace HO433 := Aside0.mk HO433
      replace BK417 := Aside0.mk BK417
      replace BK423 := Aside0.mk BK423
      replace BK434 := Aside0.mk BK434
      replace GW434 := Aside0.mk GW434
      replace GE434 := Aside0.mk GE434
      replace NB417_434 := Aside0.mk NB417_434
      replace NB434_417 := Aside0.mk NB434_417
      replace NB423_434 := Aside0.mk NB423_434
      replace NB434_423 := Aside0.mk NB434_423
      replace HB := Aside0.mk HB
      have hHeld : w33.cell? ⟨gb423, 0, none⟩ = some (.int .i64 t419) ∧ w33.cell? ⟨gb423, 1, none⟩ = some (.slice Ao23 t420.length co23) := hS_
      obtain ⟨Ao34, co34, eo34⟩ := Kd.R_slice HO433.out
      (first | subst eo34 | (injection eo34 with f1_ f2_ f3_; have f4_ := f1_.symm; have f5_ := f3_.symm; clear f1_ f2_ f3_; subst f4_; subst f5_))
      obtain ⟨Ao35, co35, eo35⟩ := Kd.R_slice HO430.out
      (first | subst eo35 | (injection eo35 with f1_ f2_ f3_; have f4_ := f1_.symm; have f5_ := f3_.symm; clear f1_ f2_ f3_; subst f4_; subst f5_))
      refine norm_ (a' := ?_) ?_ ?_
      rotate_left
      · simp only [YtgegjhgifeobdaaW.PrintLast.putAll, Act.put, List.setIfInBounds_toArray, List.set_cons_zero, List.set_cons_succ]
        rfl
      refine one_ (i := 12) (N := none) #[true, true, true, true, true, true, true, true, true, true, true, true, true] rfl rfl (one_of HT_.out (by kernel_rfl)) (by decide) (fun K hK => ?_)
      have hs36 : w33.cell? ⟨gb434, 0, none⟩ = some (.int .i64 0) := (blk_cell BK434.out 0).trans rfl
      have hfs36 := blk_frozen BK434.out 0
      have hns36_0 := NB417_434.out
      have hns36_1 := NB423_434.out
      have hms36_0 := NB434_417.out
      have hms36_1 := NB434_423.out
      have hs37 : w33.cell? ⟨gb434, 1, none⟩ = some (.slice none 0 0) := (blk_cell BK434.out 1).trans rfl
      have hfs37 := blk_frozen BK434.out 1
      have hns37_0 := NB417_434.out
      have hns37_1 := NB423_434.out
      have hms37_0 := NB434_417.out
      have hms37_1 := NB434_423.out
      have hs38 : w33.cell? ⟨gb434, 2, none⟩ = some (.int .i64 0) := (blk_cell BK434.out 2).trans rfl
      have hfs38 := blk_frozen BK434.out 2
      have hns38_0 := NB417_434.out
      have hns38_1 := NB423_434.out
      have hms38_0 := NB434_417.out
      have hms38_1 := NB434_423.out
      have hs39 : w33.cell? ⟨gb434, 3, none⟩ = some (.slice none 0 0) := (blk_cell BK434.out 3).trans rfl
      have hfs39 := blk_frozen BK434.out 3
      have hns39_0 := NB417_434.out
      have hns39_1 := NB423_434.out
      have hms39_0 := NB434_417.out
      have hms39_1 := NB434_423.out
      have hs40 : w33.cell? ⟨gb434, 4, none⟩ = some (.slice none 0 0) := (blk_cell BK434.out 4).trans rfl
      have hfs40 := blk_frozen BK434.out 4
      have hns40_0 := NB417_434.out
      have hns40_1 := NB423_434.out
      have hms40_0 := NB434_417.out
      have hms40_1 := NB434_423.out
      refine skip_ (w1 := ?_) (by rfl) rfl ?_ ?_
      rotate_left
      · go_simp
        rfl
      refine hK.out _ _ ⟨((cell_far (p := ⟨gb434, _, none⟩) NB423_434.out _).trans (((cell_far (p := ⟨gb434, _, none⟩) NB423_434.out _).trans (((cell_far (p := ⟨gb434, _, none⟩) NB423_434.out _).trans (((cell_far (p := ⟨gb434, _, none⟩) NB423_434.out _).trans (((cell_far (p := ⟨gb434, _, none⟩) NB423_434.out _).trans (hHeld.1)))))))))), ((cell_far (p := ⟨gb434, _, none⟩) NB423_434.out _).trans (((cell_far (p := ⟨gb434, _, none⟩) NB423_434.out _).trans (((cell_far (p := ⟨gb434, _, none⟩) NB423_434.out _).trans (((cell_far (p := ⟨gb434, _, none⟩) NB423_434.out _).trans (((cell_far (p := ⟨gb434, _, none⟩) NB423_434.out _).trans (hHeld.2))))))))))⟩ (fun hHeld => ?_)
      clear hK K
      refine done_ (done_of HT_.out (by kernel_rfl)) ?_
      have hnb41 := NB434_417.out
      have hnc41 := NB417_434.out
      have hnb42 := NB434_423.out
      have hnc42 := NB423_434.out
      have hcz43_0 : w33.cell? ⟨gb434, 0, none⟩ = some (.int .i64 0) := (blk_cell BK434.out 0).trans rfl
      have hcz43_1 : w33.cell? ⟨gb434, 1, none⟩ = some (.slice none 0 0) := (blk_cell BK434.out 1).trans rfl
      have hcz43_2 : w33.cell? ⟨gb434, 2, none⟩ = some (.int .i64 0) := (blk_cell BK434.out 2).trans rfl
      have hcz43_3 : w33.cell? ⟨gb434, 3, none⟩ = some (.slice none 0 0) := (blk_cell BK434.out 3).trans rfl
      have hcz43_4 : w33.cell? ⟨gb434, 4, none⟩ = some (.slice none 0 0) := (blk_cell BK434.out 4).trans rfl
      have hfz43_0 := blk_frozen BK434.out 0
      have hfz43_1 := blk_frozen BK434.out 1
      have hfz43_2 := blk_frozen BK434.out 2
      have hfz43_3 := blk_frozen BK434.out 3
      have hfz43_4 := blk_frozen BK434.out 4
      try go_wp2_with (first | ((with_reducible refine gate_callee (f := 10) rfl ?_); refine goesL_ (some 28) rfl rfl Try.func10 (by kernel_rfl) rfl #[.agg #[.int .i64 t419, .slice Ao23 t420.length co23, .int .i64 t427, .slice Ao35 t428.length co35, .slice Ao34 t431.length co34]] rfl (by (try simp only [List.map_toArray, List.map_cons, List.map_nil]); first | done | rfl | (simp only [List.length_drop, List.length_take]; rfl)) ?_; (with_reducible refine (plexuslaw43_planned.calls k t419 _ _ t420 t427 _ _ t428 _ _ t431 t435 t438 t441 t444 _ ?side1 ?side2 ?side3 ?side4 ?side5 ?side6 A10.out).mono ?_); (case side1 => refine (Kd.R_reads' (e := 57) (base := w.heap.size) (ok := fun k_ => some k_ ≠ (.slice Ao35 t428.length co35 : Value).ownBlock) (n := t420.length) (c := co23) ?_).2.2; exact (by (with_reducible repeat (first | apply Kd.R_alloc | apply Kd.R_drewN | apply Kd.R_drew)); exact (Kd.R_mono (Kd.R_far (p := ⟨gb434, 4, none⟩) (Kd.R_far (p := ⟨gb434, 3, none⟩) (Kd.R_far (p := ⟨gb434, 2, none⟩) (Kd.R_far (p := ⟨gb434, 1, none⟩) (Kd.R_far (p := ⟨gb434, 0, none⟩) (Kd.R_types HO422.out BK434.out (by decide)) (fun _ hk => hk.2) (.int .i64 t419)) (fun _ hk => hk.2) (.slice Ao23 t420.length co23)) (fun _ hk => hk.2) (.int .i64 t427)) (fun _ hk => hk.2) (.slice Ao35 t428.length co35)) (fun _ hk => hk.2) (.slice Ao34 t431.length co34)) (fun _ h_ => h_.1)))); (case side2 => exact (Kd.R_reads' HO422.out).2.1); (case side3 => refine (Kd.R_reads' (e := 57) (base := w.heap.size) (ok := fun k_ => some k_ ≠ (.slice Ao23 t420.length co23 : Value).ownBlock) (n := t428.length) (c := co35) ?_).2.2; exact (by (with_reducible repeat (first | apply Kd.R_alloc | apply Kd.R_drewN | apply Kd.R_drew)); exact (Kd.R_mono (Kd.R_far (p := ⟨gb434, 4, none⟩) (Kd.R_far (p := ⟨gb434, 3, none⟩) (Kd.R_far (p := ⟨gb434, 2, none⟩) (Kd.R_far (p := ⟨gb434, 1, none⟩) (Kd.R_far (p := ⟨gb434, 0, none⟩) (Kd.R_types HO430.out BK434.out (by decide)) (fun _ hk => hk.2) (.int .i64 t419)) (fun _ hk => hk.2) (.slice Ao23 t420.length co23)) (fun _ hk => hk.2) (.int .i64 t427)) (fun _ hk => hk.2) (.slice Ao35 t428.length co35)) (fun _ hk => hk.2) (.slice Ao34 t431.length co34)) (fun _ h_ => h_.1)))); (case side4 => exact (Kd.R_reads' HO430.out).2.1); (case side5 => refine (Kd.R_reads' (e := 3) (base := w.heap.size) (ok := fun k_ => some k_ ≠ (v425 : Value).ownBlock) (n := t431.length) (c := co34) ?_).2.2; exact (by (with_reducible repeat (first | apply Kd.R_alloc | apply Kd.R_drewN | apply Kd.R_drew)); exact (Kd.R_mono (Kd.R_far (p := ⟨gb434, 4, none⟩) (Kd.R_far (p := ⟨gb434, 3, none⟩) (Kd.R_far (p := ⟨gb434, 2, none⟩) (Kd.R_far (p := ⟨gb434, 1, none⟩) (Kd.R_far (p := ⟨gb434, 0, none⟩) (Kd.R_types HO433.out BK434.out (by decide)) (fun _ hk => hk.2) (.int .i64 t419)) (fun _ hk => hk.2) (.slice Ao23 t420.length co23)) (fun _ hk => hk.2) (.int .i64 t427)) (fun _ hk => hk.2) (.slice Ao35 t428.length co35)) (fun _ hk => hk.2) (.slice Ao34 t431.length co34)) (fun _ h_ => h_.1)))); (case side6 => exact (Kd.R_reads' HO433.out).2.1); rintro e w44 ⟨v436, v439, v442, v445, rfl, ho0, ho1, ho2, ho3, hb⟩; refine ⟨_, rfl, ?_⟩; have n0_ := Aside0.mk (Kd.R_below (by (with_reducible repeat (first | apply Kd.R_alloc | apply Kd.R_drewN | apply Kd.R_drew)); exact (Kd.R_mono (Kd.R_far (p := ⟨gb434, 4, none⟩) (Kd.R_far (p := ⟨gb434, 3, none⟩) (Kd.R_far (p := ⟨gb434, 2, none⟩) (Kd.R_far (p := ⟨gb434, 1, none⟩) (Kd.R_far (p := ⟨gb434, 0, none⟩) (Kd.R_types HO422.out BK434.out (by decide)) (fun _ hk => hk.2) (.int .i64 t419)) (fun _ hk => hk.2) (.slice Ao23 t420.length co23)) (fun _ hk => hk.2) (.int .i64 t427)) (fun _ hk => hk.2) (.slice Ao35 t428.length co35)) (fun _ hk => hk.2) (.slice Ao34 t431.length co34)) (fun _ h_ => h_.1))) hb); have n1_ := Aside0.mk (Kd.R_mono (Kd.R_told (Kd.R_told (Kd.R_told (Kd.R_told (Kd.R_old (by (with_reducible repeat (first | apply Kd.R_alloc | apply Kd.R_drewN | apply Kd.R_drew)); exact (Kd.R_mono (Kd.R_far (p := ⟨gb434, 4, none⟩) (Kd.R_far (p := ⟨gb434, 3, none⟩) (Kd.R_far (p := ⟨gb434, 2, none⟩) (Kd.R_far (p := ⟨gb434, 1, none⟩) (Kd.R_far (p := ⟨gb434, 0, none⟩) (Kd.R_types HO426.out BK434.out (by decide)) (fun _ hk => hk.2) (.int .i64 t419)) (fun _ hk => hk.2) (.slice Ao23 t420.length co23)) (fun _ hk => hk.2) (.int .i64 t427)) (fun _ hk => hk.2) (.slice Ao35 t428.length co35)) (fun _ hk => hk.2) (.slice Ao34 t431.length co34)) (fun _ h_ => h_.1))) hb) (Kd.R_base ho0)) (Kd.R_base ho1)) (Kd.R_base ho2)) (Kd.R_base ho3)) (fun _ h_ => h_.1)); have n2_ := Aside0.mk (Kd.R_below (by (with_reducible repeat (first | apply Kd.R_alloc | apply Kd.R_drewN | apply Kd.R_drew)); exact (Kd.R_mono (Kd.R_far (p := ⟨gb434, 4, none⟩) (Kd.R_far (p := ⟨gb434, 3, none⟩) (Kd.R_far (p := ⟨gb434, 2, none⟩) (Kd.R_far (p := ⟨gb434, 1, none⟩) (Kd.R_far (p := ⟨gb434, 0, none⟩) (Kd.R_types HO430.out BK434.out (by decide)) (fun _ hk => hk.2) (.int .i64 t419)) (fun _ hk => hk.2) (.slice Ao23 t420.length co23)) (fun _ hk => hk.2) (.int .i64 t427)) (fun _ hk => hk.2) (.slice Ao35 t428.length co35)) (fun _ hk => hk.2) (.slice Ao34 t431.length co34)) (fun _ h_ => h_.1))) hb); have n3_ := Aside0.mk (Kd.R_mono (Kd.R_told (Kd.R_told (Kd.R_told (Kd.R_told (Kd.R_old (by (with_reducible repeat (first | apply Kd.R_alloc | apply Kd.R_drewN | apply Kd.R_drew)); exact (Kd.R_mono (Kd.R_far (p := ⟨gb434, 4, none⟩) (Kd.R_far (p := ⟨gb434, 3, none⟩) (Kd.R_far (p := ⟨gb434, 2, none⟩) (Kd.R_far (p := ⟨gb434, 1, none⟩) (Kd.R_far (p := ⟨gb434, 0, none⟩) (Kd.R_types HO433.out BK434.out (by decide)) (fun _ hk => hk.2) (.int .i64 t419)) (fun _ hk => hk.2) (.slice Ao23 t420.length co23)) (fun _ hk => hk.2) (.int .i64 t427)) (fun _ hk => hk.2) (.slice Ao35 t428.length co35)) (fun _ hk => hk.2) (.slice Ao34 t431.length co34)) (fun _ h_ => h_.1))) hb) (Kd.R_base ho0)) (Kd.R_base ho1)) (Kd.R_base ho2)) (Kd.R_base ho3)) (fun _ h_ => h_.1)); have n4_ := Aside0.mk (Kd.R_lower (Kd.R_new' (Kd.R_new' ho0 (Kd.R_lt (by (with_reducible repeat (first | apply Kd.R_alloc | apply Kd.R_drewN | apply Kd.R_drew)); exact (Kd.R_mono (Kd.R_far (p := ⟨gb434, 4, none⟩) (Kd.R_far (p := ⟨gb434, 3, none⟩) (Kd.R_far (p := ⟨gb434, 2, none⟩) (Kd.R_far (p := ⟨gb434, 1, none⟩) (Kd.R_far (p := ⟨gb434, 0, none⟩) (Kd.R_types HO426.out BK434.out (by decide)) (fun _ hk => hk.2) (.int .i64 t419)) (fun _ hk => hk.2) (.slice Ao23 t420.length co23)) (fun _ hk => hk.2) (.int .i64 t427)) (fun _ hk => hk.2) (.slice Ao35 t428.length co35)) (fun _ hk => hk.2) (.slice Ao34 t431.length co34)) (fun _ h_ => h_.1))))) (Kd.R_lt (by (with_reducible repeat (first | apply Kd.R_alloc | apply Kd.R_drewN | apply Kd.R_drew)); exact (Kd.R_mono (Kd.R_far (p := ⟨gb434, 4, none⟩) (Kd.R_far (p := ⟨gb434, 3, none⟩) (Kd.R_far (p := ⟨gb434, 2, none⟩) (Kd.R_far (p := ⟨gb434, 1, none⟩) (Kd.R_far (p := ⟨gb434, 0, none⟩) (Kd.R_types HO433.out BK434.out (by decide)) (fun _ hk => hk.2) (.int .i64 t419)) (fun _ hk => hk.2) (.slice Ao23 t420.length co23)) (fun _ hk => hk.2) (.int .i64 t427)) (fun _ hk => hk.2) (.slice Ao35 t428.length co35)) (fun _ hk => hk.2) (.slice Ao34 t431.length co34)) (fun _ h_ => h_.1))))) (pkZ HB)); have n5_ := Aside0.mk (Kd.R_lower (Kd.R_new' (Kd.R_new' ho1 (Kd.R_lt (by (with_reducible repeat (first | apply Kd.R_alloc | apply Kd.R_drewN | apply Kd.R_drew)); exact (Kd.R_mono (Kd.R_far (p := ⟨gb434, 4, none⟩) (Kd.R_far (p := ⟨gb434, 3, none⟩) (Kd.R_far (p := ⟨gb434, 2, none⟩) (Kd.R_far (p := ⟨gb434, 1, none⟩) (Kd.R_far (p := ⟨gb434, 0, none⟩) (Kd.R_types HO426.out BK434.out (by decide)) (fun _ hk => hk.2) (.int .i64 t419)) (fun _ hk => hk.2) (.slice Ao23 t420.length co23)) (fun _ hk => hk.2) (.int .i64 t427)) (fun _ hk => hk.2) (.slice Ao35 t428.length co35)) (fun _ hk => hk.2) (.slice Ao34 t431.length co34)) (fun _ h_ => h_.1))))) (Kd.R_lt (by (with_reducible repeat (first | apply Kd.R_alloc | apply Kd.R_drewN | apply Kd.R_drew)); exact (Kd.R_mono (Kd.R_far (p := ⟨gb434, 4, none⟩) (Kd.R_far (p := ⟨gb434, 3, none⟩) (Kd.R_far (p := ⟨gb434, 2, none⟩) (Kd.R_far (p := ⟨gb434, 1, none⟩) (Kd.R_far (p := ⟨gb434, 0, none⟩) (Kd.R_types HO433.out BK434.out (by decide)) (fun _ hk => hk.2) (.int .i64 t419)) (fun _ hk => hk.2) (.slice Ao23 t420.length co23)) (fun _ hk => hk.2) (.int .i64 t427)) (fun _ hk => hk.2) (.slice Ao35 t428.length co35)) (fun _ hk => hk.2) (.slice Ao34 t431.length co34)) (fun _ h_ => h_.1))))) (pkZ HB)); have n6_ := Aside0.mk (Kd.R_lower (Kd.R_new' (Kd.R_new' ho2 (Kd.R_lt (by (with_reducible repeat (first | apply Kd.R_alloc | apply Kd.R_drewN | apply Kd.R_drew)); exact (Kd.R_mono (Kd.R_far (p := ⟨gb434, 4, none⟩) (Kd.R_far (p := ⟨gb434, 3, none⟩) (Kd.R_far (p := ⟨gb434, 2, none⟩) (Kd.R_far (p := ⟨gb434, 1, none⟩) (Kd.R_far (p := ⟨gb434, 0, none⟩) (Kd.R_types HO426.out BK434.out (by decide)) (fun _ hk => hk.2) (.int .i64 t419)) (fun _ hk => hk.2) (.slice Ao23 t420.length co23)) (fun _ hk => hk.2) (.int .i64 t427)) (fun _ hk => hk.2) (.slice Ao35 t428.length co35)) (fun _ hk => hk.2) (.slice Ao34 t431.length co34)) (fun _ h_ => h_.1))))) (Kd.R_lt (by (with_reducible repeat (first | apply Kd.R_alloc | apply Kd.R_drewN | apply Kd.R_drew)); exact (Kd.R_mono (Kd.R_far (p := ⟨gb434, 4, none⟩) (Kd.R_far (p := ⟨gb434, 3, none⟩) (Kd.R_far (p := ⟨gb434, 2, none⟩) (Kd.R_far (p := ⟨gb434, 1, none⟩) (Kd.R_far (p := ⟨gb434, 0, none⟩) (Kd.R_types HO433.out BK434.out (by decide)) (fun _ hk => hk.2) (.int .i64 t419)) (fun _ hk => hk.2) (.slice Ao23 t420.length co23)) (fun _ hk => hk.2) (.int .i64 t427)) (fun _ hk => hk.2) (.slice Ao35 t428.length co35)) (fun _ hk => hk.2) (.slice Ao34 t431.length co34)) (fun _ h_ => h_.1))))) (pkZ HB)); have n7_ := Aside0.mk (Kd.R_lower (Kd.R_new' (Kd.R_new' ho3 (Kd.R_lt (by (with_reducible repeat (first | apply Kd.R_alloc | apply Kd.R_drewN | apply Kd.R_drew)); exact (Kd.R_mono (Kd.R_far (p := ⟨gb434, 4, none⟩) (Kd.R_far (p := ⟨gb434, 3, none⟩) (Kd.R_far (p := ⟨gb434, 2, none⟩) (Kd.R_far (p := ⟨gb434, 1, none⟩) (Kd.R_far (p := ⟨gb434, 0, none⟩) (Kd.R_types HO426.out BK434.out (by decide)) (fun _ hk => hk.2) (.int .i64 t419)) (fun _ hk => hk.2) (.slice Ao23 t420.length co23)) (fun _ hk => hk.2) (.int .i64 t427)) (fun _ hk => hk.2) (.slice Ao35 t428.length co35)) (fun _ hk => hk.2) (.slice Ao34 t431.length co34)) (fun _ h_ => h_.1))))) (Kd.R_lt (by (with_reducible repeat (first | apply Kd.R_alloc | apply Kd.R_drewN | apply Kd.R_drew)); exact (Kd.R_mono (Kd.R_far (p := ⟨gb434, 4, none⟩) (Kd.R_far (p := ⟨gb434, 3, none⟩) (Kd.R_far (p := ⟨gb434, 2, none⟩) (Kd.R_far (p := ⟨gb434, 1, none⟩) (Kd.R_far (p := ⟨gb434, 0, none⟩) (Kd.R_types HO433.out BK434.out (by decide)) (fun _ hk => hk.2) (.int .i64 t419)) (fun _ hk => hk.2) (.slice Ao23 t420.length co23)) (fun _ hk => hk.2) (.int .i64 t427)) (fun _ hk => hk.2) (.slice Ao35 t428.length co35)) (fun _ hk => hk.2) (.slice Ao34 t431.length co34)) (fun _ h_ => h_.1))))) (pkZ HB)); have n8_ := Aside0.mk (blk_below (g := gb417) (o := .cells #[.slice A0_0 l0_0.length c0_0] 24 (0, 0)) (by (with_reducible repeat (first | refine blk_drewN ?_ _ | refine blk_drew ?_ | refine blk_alloc ?_ _)); refine blk_far ?_ NB417_434.out _; (with_reducible repeat (first | refine blk_drewN ?_ _ | refine blk_drew ?_ | refine blk_alloc ?_ _)); refine blk_far ?_ NB417_434.out _; (with_reducible repeat (first | refine blk_drewN ?_ _ | refine blk_drew ?_ | refine blk_alloc ?_ _)); refine blk_far ?_ NB417_434.out _; (with_reducible repeat (first | refine blk_drewN ?_ _ | refine blk_drew ?_ | refine blk_alloc ?_ _)); refine blk_far ?_ NB417_434.out _; (with_reducible repeat (first | refine blk_drewN ?_ _ | refine blk_drew ?_ | refine blk_alloc ?_ _)); refine blk_far ?_ NB417_434.out _; (with_reducible repeat (first | refine blk_drewN ?_ _ | refine blk_drew ?_ | refine blk_alloc ?_ _)); exact BK417.out) hb); have n9_ := Aside0.mk (blk_below (g := gb423) (o := .cells #[.int .i64 t419, .slice Ao23 t420.length co23] 29 (0, 0)) (by (with_reducible repeat (first | refine blk_drewN ?_ _ | refine blk_drew ?_ | refine blk_alloc ?_ _)); refine blk_far ?_ NB423_434.out _; (with_reducible repeat (first | refine blk_drewN ?_ _ | refine blk_drew ?_ | refine blk_alloc ?_ _)); refine blk_far ?_ NB423_434.out _; (with_reducible repeat (first | refine blk_drewN ?_ _ | refine blk_drew ?_ | refine blk_alloc ?_ _)); refine blk_far ?_ NB423_434.out _; (with_reducible repeat (first | refine blk_drewN ?_ _ | refine blk_drew ?_ | refine blk_alloc ?_ _)); refine blk_far ?_ NB423_434.out _; (with_reducible repeat (first | refine blk_drewN ?_ _ | refine blk_drew ?_ | refine blk_alloc ?_ _)); refine blk_far ?_ NB423_434.out _; (with_reducible repeat (first | refine blk_drewN ?_ _ | refine blk_drew ?_ | refine blk_alloc ?_ _)); exact BK423.out) hb); have n10_ := Aside0.mk (blk_below (g := gb434) (o := .cells #[.int .i64 t419, .slice Ao23 t420.length co23, .int .i64 t427, .slice Ao35 t428.length co35, .slice Ao34 t431.length co34] 36 (0, 0)) (by (with_reducible repeat (first | refine blk_drewN ?_ _ | refine blk_drew ?_ | refine blk_alloc ?_ _)); refine blk_put (cs := #[.int .i64 t419, .slice Ao23 t420.length co23, .int .i64 t427, .slice Ao35 t428.length co35, .slice none 0 0]) ?_ 4 _ rfl; (with_reducible repeat (first | refine blk_drewN ?_ _ | refine blk_drew ?_ | refine blk_alloc ?_ _)); refine blk_put (cs := #[.int .i64 t419, .slice Ao23 t420.length co23, .int .i64 t427, .slice none 0 0, .slice none 0 0]) ?_ 3 _ rfl; (with_reducible repeat (first | refine blk_drewN ?_ _ | refine blk_drew ?_ | refine blk_alloc ?_ _)); refine blk_put (cs := #[.int .i64 t419, .slice Ao23 t420.length co23, .int .i64 0, .slice none 0 0, .slice none 0 0]) ?_ 2 _ rfl; (with_reducible repeat (first | refine blk_drewN ?_ _ | refine blk_drew ?_ | refine blk_alloc ?_ _)); refine blk_put (cs := #[.int .i64 t419, .slice none 0 0, .int .i64 0, .slice none 0 0, .slice none 0 0]) ?_ 1 _ rfl; (with_reducible repeat (first | refine blk_drewN ?_ _ | refine blk_drew ?_ | refine blk_alloc ?_ _)); refine blk_put (cs := #[.int .i64 0, .slice none 0 0, .int .i64 0, .slice none 0 0, .slice none 0 0]) ?_ 0 _ rfl; (with_reducible repeat (first | refine blk_drewN ?_ _ | refine blk_drew ?_ | refine blk_alloc ?_ _)); exact BK434.out) hb); have n11_ := pkS HB hb; clear HO422; clear HO426; clear HO430; clear HO433; clear BK417; clear BK423; clear BK434; clear HB; have HO422 := n0_; have HO426 := n1_; have HO430 := n2_; have HO433 := n3_; have HO437 := n4_; have HO440 := n5_; have HO443 := n6_; have HO446 := n7_; have BK417 := n8_; have BK423 := n9_; have BK434 := n10_; have HB := n11_; clear n0_ n1_ n2_ n3_ n4_ n5_ n6_ n7_ n8_ n9_ n10_ n11_; (try clear hb); (try clear hb2); (try clear hk); (try clear hi); (try clear ho0); (try clear ho1); (try clear ho2); (try clear ho3)) | ((with_reducible refine gate_dst (N := 10) rfl ?_); (try (refine gate_guard (by rfl) ?_; dsimp only)); refine box_event ?hg (N := 10) ?hd (cs := #[.slice none 0 0, .slice none 0 0, .slice none 0 0, .slice none 0 0]) (t := 40) ?hr ?_; (case hd => rfl); (case hg => rfl); (case hr => first | (go_simp; done) | (go_simp; rfl)); intro gb447 hg w45 hbox hb; have n0_ := pkRb HO422 hb; have n1_ := pkRb HO426 hb; have n2_ := pkRb HO430 hb; have n3_ := pkRb HO433 hb; have n4_ := pkRb HO437 hb; have n5_ := pkRb HO440 hb; have n6_ := pkRb HO443 hb; have n7_ := pkRb HO446 hb; have n8_ := pkBb BK417 hb; have n9_ := pkBb BK423 hb; have n10_ := pkBb BK434 hb; have n11_ := pkS HB hb; have n12_ := Aside0.mk (hbox); have n13_ := pkG hg HB; have n14_ := pkG hg HB; have n15_ := pkN hg BK417; have n16_ := pkM hg BK417; have n17_ := pkN hg BK423; have n18_ := pkM hg BK423; have n19_ := pkN hg BK434; have n20_ := pkM hg BK434; clear HO422; clear HO426; clear HO430; clear HO433; clear HO437; clear HO440; clear HO443; clear HO446; clear BK417; clear BK423; clear BK434; clear HB; have HO422 := n0_; have HO426 := n1_; have HO430 := n2_; have HO433 := n3_; have HO437 := n4_; have HO440 := n5_; have HO443 := n6_; have HO446 := n7_; have BK417 := n8_; have BK423 := n9_; have BK434 := n10_; have HB := n11_; have BK447 := n12_; have GW447 := n13_; have GE447 := n14_; have NB417_447 := n15_; have NB447_417 := n16_; have NB423_447 := n17_; have NB447_423 := n18_; have NB434_447 := n19_; have NB447_434 := n20_; clear n0_ n1_ n2_ n3_ n4_ n5_ n6_ n7_ n8_ n9_ n10_ n11_ n12_ n13_ n14_ n15_ n16_ n17_ n18_ n19_ n20_; clear hb hbox hg; obtain ⟨Ao46, co46, eo46⟩ := Kd.R_slice HO437.out; subst eo46; have hnb47 := NB447_417.out; have hnc47 := NB417_447.out; have hnb48 := NB447_423.out; have hnc48 := NB423_447.out; have hnb49 := NB447_434.out; have hnc49 := NB434_447.out; have hcz50_0 : w45.cell? ⟨gb447, 0, none⟩ = some (.slice none 0 0) := (blk_cell BK447.out 0).trans rfl; have hcz50_1 : w45.cell? ⟨gb447, 1, none⟩ = some (.slice none 0 0) := (blk_cell BK447.out 1).trans rfl; have hcz50_2 : w45.cell? ⟨gb447, 2, none⟩ = some (.slice none 0 0) := (blk_cell BK447.out 2).trans rfl; have hcz50_3 : w45.cell? ⟨gb447, 3, none⟩ = some (.slice none 0 0) := (blk_cell BK447.out 3).trans rfl; have hfz50_0 := blk_frozen BK447.out 0; have hfz50_1 := blk_frozen BK447.out 1; have hfz50_2 := blk_frozen BK447.out 2; have hfz50_3 := blk_frozen BK447.out 3; obtain ⟨Ao51, co51, eo51⟩ := Kd.R_slice HO440.out; subst eo51; obtain ⟨Ao52, co52, eo52⟩ := Kd.R_slice HO443.out; subst eo52; obtain ⟨Ao53, co53, eo53⟩ := Kd.R_slice HO446.out; subst eo53; have hcz54_0 : w45.cell? ⟨gb434, 0, none⟩ = some (.int .i64 t419) := (blk_cell BK434.out 0).trans rfl; have hcz54_1 : w45.cell? ⟨gb434, 1, none⟩ = some (.slice Ao23 t420.length co23) := (blk_cell BK434.out 1).trans rfl; have hcz54_2 : w45.cell? ⟨gb434, 2, none⟩ = some (.int .i64 t427) := (blk_cell BK434.out 2).trans rfl; have hcz54_3 : w45.cell? ⟨gb434, 3, none⟩ = some (.slice Ao35 t428.length co35) := (blk_cell BK434.out 3).trans rfl; have hcz54_4 : w45.cell? ⟨gb434, 4, none⟩ = some (.slice Ao34 t431.length co34) := (blk_cell BK434.out 4).trans rfl; have hfz54_0 := blk_frozen BK434.out 0; have hfz54_1 := blk_frozen BK434.out 1; have hfz54_2 := blk_frozen BK434.out 2; have hfz54_3 := blk_frozen BK434.out 3; have hfz54_4 := blk_frozen BK434.out 4) | ((with_reducible refine gate_callee (f := 11) rfl ?_); refine goesL_ (some 33) rfl rfl Try.func11 (by kernel_rfl) rfl #[.slice Ao52 t441.length co52, .slice Ao34 t431.length co34] rfl (by (try simp only [List.map_toArray, List.map_cons, List.map_nil]); first | done | rfl | (simp only [List.length_drop, List.length_take]; rfl)) ?_; (with_reducible refine (plexusref06_SameInts.calls k _ _ t441 _ _ t431 true _ ?side1 ?side2 ?side3 ?side4 A11.out).mono ?_); (case side1 => refine (Kd.R_reads' (e := 3) (base := w.heap.size) (ok := fun k_ => (((some k_ ≠ (.slice Ao46 t435.length co46 : Value).ownBlock ∧ (some k_ ≠ (.slice Ao51 t438.length co51 : Value).ownBlock ∧ some k_ ≠ (.slice Ao53 t444.length co53 : Value).ownBlock)) ∧ some k_ ≠ (v425 : Value).ownBlock) ∧ some k_ ≠ (.slice Ao34 t431.length co34 : Value).ownBlock)) (n := t441.length) (c := co52) ?_).2.2; exact (by (with_reducible repeat (first | apply Kd.R_alloc | apply Kd.R_drewN | apply Kd.R_drew)); exact (Kd.R_mono (Kd.R_far (p := ⟨gb447, 3, none⟩) (Kd.R_far (p := ⟨gb447, 2, none⟩) (Kd.R_far (p := ⟨gb447, 1, none⟩) (Kd.R_far (p := ⟨gb447, 0, none⟩) (Kd.R_types HO443.out BK447.out (by decide)) (fun _ hk => hk.2) (.slice Ao46 t435.length co46)) (fun _ hk => hk.2) (.slice Ao51 t438.length co51)) (fun _ hk => hk.2) (.slice Ao52 t441.length co52)) (fun _ hk => hk.2) (.slice Ao53 t444.length co53)) (fun _ h_ => h_.1)))); (case side2 => exact (Kd.R_reads' HO443.out).2.1); (case side3 => refine (Kd.R_reads' (e := 3) (base := w.heap.size) (ok := fun k_ => ((((some k_ ≠ (v425 : Value).ownBlock ∧ some k_ ≠ (.slice Ao46 t435.length co46 : Value).ownBlock) ∧ some k_ ≠ (.slice Ao51 t438.length co51 : Value).ownBlock) ∧ some k_ ≠ (.slice Ao52 t441.length co52 : Value).ownBlock) ∧ some k_ ≠ (.slice Ao53 t444.length co53 : Value).ownBlock)) (n := t431.length) (c := co34) ?_).2.2; exact (by (with_reducible repeat (first | apply Kd.R_alloc | apply Kd.R_drewN | apply Kd.R_drew)); exact (Kd.R_mono (Kd.R_far (p := ⟨gb447, 3, none⟩) (Kd.R_far (p := ⟨gb447, 2, none⟩) (Kd.R_far (p := ⟨gb447, 1, none⟩) (Kd.R_far (p := ⟨gb447, 0, none⟩) (Kd.R_types HO433.out BK447.out (by decide)) (fun _ hk => hk.2) (.slice Ao46 t435.length co46)) (fun _ hk => hk.2) (.slice Ao51 t438.length co51)) (fun _ hk => hk.2) (.slice Ao52 t441.length co52)) (fun _ hk => hk.2) (.slice Ao53 t444.length co53)) (fun _ h_ => h_.1)))); (case side4 => exact (Kd.R_reads' HO433.out).2.1); rintro e w' ⟨rfl, ⟨nd, rfl⟩⟩; refine ⟨_, rfl, ?_⟩; have hcz55_0 : w45.cell? ⟨gb423, 0, none⟩ = some (.int .i64 t419) := (blk_cell BK423.out 0).trans rfl; have hcz55_1 : w45.cell? ⟨gb423, 1, none⟩ = some (.slice Ao23 t420.length co23) := (blk_cell BK423.out 1).trans rfl; have hfz55_0 := blk_frozen BK423.out 0; have hfz55_1 := blk_frozen BK423.out 1) | (go_at_call 12; (with_reducible refine (plexuslaw43_check.calls k t419 _ _ t420 t427 _ _ t428 _ _ t431 _ _ t435 _ _ t438 _ _ t441 _ _ t444 t449 _ ?side1 ?side2 ?side3 ?side4 ?side5 ?side6 ?side7 ?side8 ?side9 ?side10 ?side11 ?side12 ?side13 ?side14 A14.out).mono ?_); (case side1 => refine (Kd.R_reads' (e := 57) (base := w.heap.size) (ok := fun k_ => some k_ ≠ (.slice Ao35 t428.length co35 : Value).ownBlock) (n := t420.length) (c := co23) ?_).2.2; exact (by (with_reducible repeat (first | apply Kd.R_alloc | apply Kd.R_drewN | apply Kd.R_drew)); exact (Kd.R_mono (Kd.R_far (p := ⟨gb447, 3, none⟩) (Kd.R_far (p := ⟨gb447, 2, none⟩) (Kd.R_far (p := ⟨gb447, 1, none⟩) (Kd.R_far (p := ⟨gb447, 0, none⟩) (Kd.R_types HO422.out BK447.out (by decide)) (fun _ hk => hk.2) (.slice Ao46 t435.length co46)) (fun _ hk => hk.2) (.slice Ao51 t438.length co51)) (fun _ hk => hk.2) (.slice Ao52 t441.length co52)) (fun _ hk => hk.2) (.slice Ao53 t444.length co53)) (fun _ h_ => h_.1)))); (case side2 => exact (Kd.R_reads' HO422.out).2.1); (case side3 => refine (Kd.R_reads' (e := 57) (base := w.heap.size) (ok := fun k_ => some k_ ≠ (.slice Ao23 t420.length co23 : Value).ownBlock) (n := t428.length) (c := co35) ?_).2.2; exact (by (with_reducible repeat (first | apply Kd.R_alloc | apply Kd.R_drewN | apply Kd.R_drew)); exact (Kd.R_mono (Kd.R_far (p := ⟨gb447, 3, none⟩) (Kd.R_far (p := ⟨gb447, 2, none⟩) (Kd.R_far (p := ⟨gb447, 1, none⟩) (Kd.R_far (p := ⟨gb447, 0, none⟩) (Kd.R_types HO430.out BK447.out (by decide)) (fun _ hk => hk.2) (.slice Ao46 t435.length co46)) (fun _ hk => hk.2) (.slice Ao51 t438.length co51)) (fun _ hk => hk.2) (.slice Ao52 t441.length co52)) (fun _ hk => hk.2) (.slice Ao53 t444.length co53)) (fun _ h_ => h_.1)))); (case side4 => exact (Kd.R_reads' HO430.out).2.1); (case side5 => refine (Kd.R_reads' (e := 3) (base := w.heap.size) (ok := fun k_ => ((((some k_ ≠ (v425 : Value).ownBlock ∧ some k_ ≠ (.slice Ao46 t435.length co46 : Value).ownBlock) ∧ some k_ ≠ (.slice Ao51 t438.length co51 : Value).ownBlock) ∧ some k_ ≠ (.slice Ao52 t441.length co52 : Value).ownBlock) ∧ some k_ ≠ (.slice Ao53 t444.length co53 : Value).ownBlock)) (n := t431.length) (c := co34) ?_).2.2; exact (by (with_reducible repeat (first | apply Kd.R_alloc | apply Kd.R_drewN | apply Kd.R_drew)); exact (Kd.R_mono (Kd.R_far (p := ⟨gb447, 3, none⟩) (Kd.R_far (p := ⟨gb447, 2, none⟩) (Kd.R_far (p := ⟨gb447, 1, none⟩) (Kd.R_far (p := ⟨gb447, 0, none⟩) (Kd.R_types HO433.out BK447.out (by decide)) (fun _ hk => hk.2) (.slice Ao46 t435.length co46)) (fun _ hk => hk.2) (.slice Ao51 t438.length co51)) (fun _ hk => hk.2) (.slice Ao52 t441.length co52)) (fun _ hk => hk.2) (.slice Ao53 t444.length co53)) (fun _ h_ => h_.1)))); (case side6 => exact (Kd.R_reads' HO433.out).2.1); (case side7 => refine (Kd.R_reads' (e := 3) (base := w.heap.size) (ok := fun k_ => (((some k_ ≠ (.slice Ao51 t438.length co51 : Value).ownBlock ∧ (some k_ ≠ (.slice Ao52 t441.length co52 : Value).ownBlock ∧ some k_ ≠ (.slice Ao53 t444.length co53 : Value).ownBlock)) ∧ some k_ ≠ (v425 : Value).ownBlock) ∧ some k_ ≠ (.slice Ao34 t431.length co34 : Value).ownBlock)) (n := t435.length) (c := co46) ?_).2.2; exact (by (with_reducible repeat (first | apply Kd.R_alloc | apply Kd.R_drewN | apply Kd.R_drew)); exact (Kd.R_mono (Kd.R_far (p := ⟨gb447, 3, none⟩) (Kd.R_far (p := ⟨gb447, 2, none⟩) (Kd.R_far (p := ⟨gb447, 1, none⟩) (Kd.R_far (p := ⟨gb447, 0, none⟩) (Kd.R_types HO437.out BK447.out (by decide)) (fun _ hk => hk.2) (.slice Ao46 t435.length co46)) (fun _ hk => hk.2) (.slice Ao51 t438.length co51)) (fun _ hk => hk.2) (.slice Ao52 t441.length co52)) (fun _ hk => hk.2) (.slice Ao53 t444.length co53)) (fun _ h_ => h_.1)))); (case side8 => exact (Kd.R_reads' HO437.out).2.1); (case side9 => refine (Kd.R_reads' (e := 3) (base := w.heap.size) (ok := fun k_ => (((some k_ ≠ (.slice Ao46 t435.length co46 : Value).ownBlock ∧ (some k_ ≠ (.slice Ao52 t441.length co52 : Value).ownBlock ∧ some k_ ≠ (.slice Ao53 t444.length co53 : Value).ownBlock)) ∧ some k_ ≠ (v425 : Value).ownBlock) ∧ some k_ ≠ (.slice Ao34 t431.length co34 : Value).ownBlock)) (n := t438.length) (c := co51) ?_).2.2; exact (by (with_reducible repeat (first | apply Kd.R_alloc | apply Kd.R_drewN | apply Kd.R_drew)); exact (Kd.R_mono (Kd.R_far (p := ⟨gb447, 3, none⟩) (Kd.R_far (p := ⟨gb447, 2, none⟩) (Kd.R_far (p := ⟨gb447, 1, none⟩) (Kd.R_far (p := ⟨gb447, 0, none⟩) (Kd.R_types HO440.out BK447.out (by decide)) (fun _ hk => hk.2) (.slice Ao46 t435.length co46)) (fun _ hk => hk.2) (.slice Ao51 t438.length co51)) (fun _ hk => hk.2) (.slice Ao52 t441.length co52)) (fun _ hk => hk.2) (.slice Ao53 t444.length co53)) (fun _ h_ => h_.1)))); (case side10 => exact (Kd.R_reads' HO440.out).2.1); (case side11 => refine (Kd.R_reads' (e := 3) (base := w.heap.size) (ok := fun k_ => (((some k_ ≠ (.slice Ao46 t435.length co46 : Value).ownBlock ∧ (some k_ ≠ (.slice Ao51 t438.length co51 : Value).ownBlock ∧ some k_ ≠ (.slice Ao53 t444.length co53 : Value).ownBlock)) ∧ some k_ ≠ (v425 : Value).ownBlock) ∧ some k_ ≠ (.slice Ao34 t431.length co34 : Value).ownBlock)) (n := t441.length) (c := co52) ?_).2.2; exact (by (with_reducible repeat (first | apply Kd.R_alloc | apply Kd.R_drewN | apply Kd.R_drew)); exact (Kd.R_mono (Kd.R_far (p := ⟨gb447, 3, none⟩) (Kd.R_far (p := ⟨gb447, 2, none⟩) (Kd.R_far (p := ⟨gb447, 1, none⟩) (Kd.R_far (p := ⟨gb447, 0, none⟩) (Kd.R_types HO443.out BK447.out (by decide)) (fun _ hk => hk.2) (.slice Ao46 t435.length co46)) (fun _ hk => hk.2) (.slice Ao51 t438.length co51)) (fun _ hk => hk.2) (.slice Ao52 t441.length co52)) (fun _ hk => hk.2) (.slice Ao53 t444.length co53)) (fun _ h_ => h_.1)))); (case side12 => exact (Kd.R_reads' HO443.out).2.1); (case side13 => refine (Kd.R_reads' (e := 3) (base := w.heap.size) (ok := fun k_ => (((some k_ ≠ (.slice Ao46 t435.length co46 : Value).ownBlock ∧ (some k_ ≠ (.slice Ao51 t438.length co51 : Value).ownBlock ∧ some k_ ≠ (.slice Ao52 t441.length co52 : Value).ownBlock)) ∧ some k_ ≠ (v425 : Value).ownBlock) ∧ some k_ ≠ (.slice Ao34 t431.length co34 : Value).ownBlock)) (n := t444.length) (c := co53) ?_).2.2; exact (by (with_reducible repeat (first | apply Kd.R_alloc | apply Kd.R_drewN | apply Kd.R_drew)); exact (Kd.R_mono (Kd.R_far (p := ⟨gb447, 3, none⟩) (Kd.R_far (p := ⟨gb447, 2, none⟩) (Kd.R_far (p := ⟨gb447, 1, none⟩) (Kd.R_far (p := ⟨gb447, 0, none⟩) (Kd.R_types HO446.out BK447.out (by decide)) (fun _ hk => hk.2) (.slice Ao46 t435.length co46)) (fun _ hk => hk.2) (.slice Ao51 t438.length co51)) (fun _ hk => hk.2) (.slice Ao52 t441.length co52)) (fun _ hk => hk.2) (.slice Ao53 t444.length co53)) (fun _ h_ => h_.1)))); (case side14 => exact (Kd.R_reads' HO446.out).2.1); rintro e w56 ⟨rfl, hb⟩; have n0_ := Aside0.mk (Kd.R_below (by (with_reducible repeat (first | apply Kd.R_alloc | apply Kd.R_drewN | apply Kd.R_drew)); exact (Kd.R_mono (Kd.R_far (p := ⟨gb447, 3, none⟩) (Kd.R_far (p := ⟨gb447, 2, none⟩) (Kd.R_far (p := ⟨gb447, 1, none⟩) (Kd.R_far (p := ⟨gb447, 0, none⟩) (Kd.R_types HO422.out BK447.out (by decide)) (fun _ hk => hk.2) (.slice Ao46 t435.length co46)) (fun _ hk => hk.2) (.slice Ao51 t438.length co51)) (fun _ hk => hk.2) (.slice Ao52 t441.length co52)) (fun _ hk => hk.2) (.slice Ao53 t444.length co53)) (fun _ h_ => h_.1))) hb); have n1_ := Aside0.mk (Kd.R_below (by (with_reducible repeat (first | apply Kd.R_alloc | apply Kd.R_drewN | apply Kd.R_drew)); exact (Kd.R_mono (Kd.R_far (p := ⟨gb447, 3, none⟩) (Kd.R_far (p := ⟨gb447, 2, none⟩) (Kd.R_far (p := ⟨gb447, 1, none⟩) (Kd.R_far (p := ⟨gb447, 0, none⟩) (Kd.R_types HO426.out BK447.out (by decide)) (fun _ hk => hk.2) (.slice Ao46 t435.length co46)) (fun _ hk => hk.2) (.slice Ao51 t438.length co51)) (fun _ hk => hk.2) (.slice Ao52 t441.length co52)) (fun _ hk => hk.2) (.slice Ao53 t444.length co53)) (fun _ h_ => h_.1))) hb); have n2_ := Aside0.mk (Kd.R_below (by (with_reducible repeat (first | apply Kd.R_alloc | apply Kd.R_drewN | apply Kd.R_drew)); exact (Kd.R_mono (Kd.R_far (p := ⟨gb447, 3, none⟩) (Kd.R_far (p := ⟨gb447, 2, none⟩) (Kd.R_far (p := ⟨gb447, 1, none⟩) (Kd.R_far (p := ⟨gb447, 0, none⟩) (Kd.R_types HO430.out BK447.out (by decide)) (fun _ hk => hk.2) (.slice Ao46 t435.length co46)) (fun _ hk => hk.2) (.slice Ao51 t438.length co51)) (fun _ hk => hk.2) (.slice Ao52 t441.length co52)) (fun _ hk => hk.2) (.slice Ao53 t444.length co53)) (fun _ h_ => h_.1))) hb); have n3_ := Aside0.mk (Kd.R_below (by (with_reducible repeat (first | apply Kd.R_alloc | apply Kd.R_drewN | apply Kd.R_drew)); exact (Kd.R_mono (Kd.R_far (p := ⟨gb447, 3, none⟩) (Kd.R_far (p := ⟨gb447, 2, none⟩) (Kd.R_far (p := ⟨gb447, 1, none⟩) (Kd.R_far (p := ⟨gb447, 0, none⟩) (Kd.R_types HO433.out BK447.out (by decide)) (fun _ hk => hk.2) (.slice Ao46 t435.length co46)) (fun _ hk => hk.2) (.slice Ao51 t438.length co51)) (fun _ hk => hk.2) (.slice Ao52 t441.length co52)) (fun _ hk => hk.2) (.slice Ao53 t444.length co53)) (fun _ h_ => h_.1))) hb); have n4_ := Aside0.mk (Kd.R_below (by (with_reducible repeat (first | apply Kd.R_alloc | apply Kd.R_drewN | apply Kd.R_drew)); exact (Kd.R_mono (Kd.R_far (p := ⟨gb447, 3, none⟩) (Kd.R_far (p := ⟨gb447, 2, none⟩) (Kd.R_far (p := ⟨gb447, 1, none⟩) (Kd.R_far (p := ⟨gb447, 0, none⟩) (Kd.R_types HO437.out BK447.out (by decide)) (fun _ hk => hk.2) (.slice Ao46 t435.length co46)) (fun _ hk => hk.2) (.slice Ao51 t438.length co51)) (fun _ hk => hk.2) (.slice Ao52 t441.length co52)) (fun _ hk => hk.2) (.slice Ao53 t444.length co53)) (fun _ h_ => h_.1))) hb); have n5_ := Aside0.mk (Kd.R_below (by (with_reducible repeat (first | apply Kd.R_alloc | apply Kd.R_drewN | apply Kd.R_drew)); exact (Kd.R_mono (Kd.R_far (p := ⟨gb447, 3, none⟩) (Kd.R_far (p := ⟨gb447, 2, none⟩) (Kd.R_far (p := ⟨gb447, 1, none⟩) (Kd.R_far (p := ⟨gb447, 0, none⟩) (Kd.R_types HO440.out BK447.out (by decide)) (fun _ hk => hk.2) (.slice Ao46 t435.length co46)) (fun _ hk => hk.2) (.slice Ao51 t438.length co51)) (fun _ hk => hk.2) (.slice Ao52 t441.length co52)) (fun _ hk => hk.2) (.slice Ao53 t444.length co53)) (fun _ h_ => h_.1))) hb); have n6_ := Aside0.mk (Kd.R_below (by (with_reducible repeat (first | apply Kd.R_alloc | apply Kd.R_drewN | apply Kd.R_drew)); exact (Kd.R_mono (Kd.R_far (p := ⟨gb447, 3, none⟩) (Kd.R_far (p := ⟨gb447, 2, none⟩) (Kd.R_far (p := ⟨gb447, 1, none⟩) (Kd.R_far (p := ⟨gb447, 0, none⟩) (Kd.R_types HO443.out BK447.out (by decide)) (fun _ hk => hk.2) (.slice Ao46 t435.length co46)) (fun _ hk => hk.2) (.slice Ao51 t438.length co51)) (fun _ hk => hk.2) (.slice Ao52 t441.length co52)) (fun _ hk => hk.2) (.slice Ao53 t444.length co53)) (fun _ h_ => h_.1))) hb); have n7_ := Aside0.mk (Kd.R_below (by (with_reducible repeat (first | apply Kd.R_alloc | apply Kd.R_drewN | apply Kd.R_drew)); exact (Kd.R_mono (Kd.R_far (p := ⟨gb447, 3, none⟩) (Kd.R_far (p := ⟨gb447, 2, none⟩) (Kd.R_far (p := ⟨gb447, 1, none⟩) (Kd.R_far (p := ⟨gb447, 0, none⟩) (Kd.R_types HO446.out BK447.out (by decide)) (fun _ hk => hk.2) (.slice Ao46 t435.length co46)) (fun _ hk => hk.2) (.slice Ao51 t438.length co51)) (fun _ hk => hk.2) (.slice Ao52 t441.length co52)) (fun _ hk => hk.2) (.slice Ao53 t444.length co53)) (fun _ h_ => h_.1))) hb); have n8_ := Aside0.mk (blk_below (g := gb417) (o := .cells #[.slice A0_0 l0_0.length c0_0] 24 (0, 0)) (by (with_reducible repeat (first | refine blk_drewN ?_ _ | refine blk_drew ?_ | refine blk_alloc ?_ _)); refine blk_far ?_ NB417_447.out _; (with_reducible repeat (first | refine blk_drewN ?_ _ | refine blk_drew ?_ | refine blk_alloc ?_ _)); refine blk_far ?_ NB417_447.out _; (with_reducible repeat (first | refine blk_drewN ?_ _ | refine blk_drew ?_ | refine blk_alloc ?_ _)); refine blk_far ?_ NB417_447.out _; (with_reducible repeat (first | refine blk_drewN ?_ _ | refine blk_drew ?_ | refine blk_alloc ?_ _)); refine blk_far ?_ NB417_447.out _; (with_reducible repeat (first | refine blk_drewN ?_ _ | refine blk_drew ?_ | refine blk_alloc ?_ _)); exact BK417.out) hb); have n9_ := Aside0.mk (blk_below (g := gb423) (o := .cells #[.int .i64 t419, .slice Ao23 t420.length co23] 29 (0, 0)) (by (with_reducible repeat (first | refine blk_drewN ?_ _ | refine blk_drew ?_ | refine blk_alloc ?_ _)); refine blk_far ?_ NB423_447.out _; (with_reducible repeat (first | refine blk_drewN ?_ _ | refine blk_drew ?_ | refine blk_alloc ?_ _)); refine blk_far ?_ NB423_447.out _; (with_reducible repeat (first | refine blk_drewN ?_ _ | refine blk_drew ?_ | refine blk_alloc ?_ _)); refine blk_far ?_ NB423_447.out _; (with_reducible repeat (first | refine blk_drewN ?_ _ | refine blk_drew ?_ | refine blk_alloc ?_ _)); refine blk_far ?_ NB423_447.out _; (with_reducible repeat (first | refine blk_drewN ?_ _ | refine blk_drew ?_ | refine blk_alloc ?_ _)); exact BK423.out) hb); have n10_ := Aside0.mk (blk_below (g := gb434) (o := .cells #[.int .i64 t419, .slice Ao23 t420.length co23, .int .i64 t427, .slice Ao35 t428.length co35, .slice Ao34 t431.length co34] 36 (0, 0)) (by (with_reducible repeat (first | refine blk_drewN ?_ _ | refine blk_drew ?_ | refine blk_alloc ?_ _)); refine blk_far ?_ NB434_447.out _; (with_reducible repeat (first | refine blk_drewN ?_ _ | refine blk_drew ?_ | refine blk_alloc ?_ _)); refine blk_far ?_ NB434_447.out _; (with_reducible repeat (first | refine blk_drewN ?_ _ | refine blk_drew ?_ | refine blk_alloc ?_ _)); refine blk_far ?_ NB434_447.out _; (with_reducible repeat (first | refine blk_drewN ?_ _ | refine blk_drew ?_ | refine blk_alloc ?_ _)); refine blk_far ?_ NB434_447.out _; (with_reducible repeat (first | refine blk_drewN ?_ _ | refine blk_drew ?_ | refine blk_alloc ?_ _)); exact BK434.out) hb); have n11_ := Aside0.mk (blk_below (g := gb447) (o := .cells #[.slice Ao46 t435.length co46, .slice Ao51 t438.length co51, .slice Ao52 t441.length co52, .slice Ao53 t444.length co53] 40 (0, 0)) (by (with_reducible repeat (first | refine blk_drewN ?_ _ | refine blk_drew ?_ | refine blk_alloc ?_ _)); refine blk_put (cs := #[.slice Ao46 t435.length co46, .slice Ao51 t438.length co51, .slice Ao52 t441.length co52, .slice none 0 0]) ?_ 3 _ rfl; (with_reducible repeat (first | refine blk_drewN ?_ _ | refine blk_drew ?_ | refine blk_alloc ?_ _)); refine blk_put (cs := #[.slice Ao46 t435.length co46, .slice Ao51 t438.length co51, .slice none 0 0, .slice none 0 0]) ?_ 2 _ rfl; (with_reducible repeat (first | refine blk_drewN ?_ _ | refine blk_drew ?_ | refine blk_alloc ?_ _)); refine blk_put (cs := #[.slice Ao46 t435.length co46, .slice none 0 0, .slice none 0 0, .slice none 0 0]) ?_ 1 _ rfl; (with_reducible repeat (first | refine blk_drewN ?_ _ | refine blk_drew ?_ | refine blk_alloc ?_ _)); refine blk_put (cs := #[.slice none 0 0, .slice none 0 0, .slice none 0 0, .slice none 0 0]) ?_ 0 _ rfl; (with_reducible repeat (first | refine blk_drewN ?_ _ | refine blk_drew ?_ | refine blk_alloc ?_ _)); exact BK447.out) hb); have n12_ := pkS HB hb; clear HO422; clear HO426; clear HO430; clear HO433; clear HO437; clear HO440; clear HO443; clear HO446; clear BK417; clear BK423; clear BK434; clear BK447; clear HB; have HO422 := n0_; have HO426 := n1_; have HO430 := n2_; have HO433 := n3_; have HO437 := n4_; have HO440 := n5_; have HO443 := n6_; have HO446 := n7_; have BK417 := n8_; have BK423 := n9_; have BK434 := n10_; have BK447 := n11_; have HB := n12_; clear n0_ n1_ n2_ n3_ n4_ n5_ n6_ n7_ n8_ n9_ n10_ n11_ n12_; (try clear hb); (try clear hb2); (try clear hk); (try clear hi)))
      go_ret
      exact ⟨by first | rfl | (simp [errW_none, errW_some] <;> rfl) | (simp [*, errW_none, errW_some] <;> rfl), pkW HB.out⟩
    · replace c12 := Bool.eq_false_iff.mpr c12
      subst c12
      have H1 : (some false) = some true := by first | rfl | (rw [if_neg (show ¬ (false = true) by decide)] at H; exact H)
      clear H
      have H := H1
      clear H1
      exact absurd H (by simp)
  · replace c5 := Bool.eq_false_iff.mpr c5
    subst c5
    have H1 : (some false) = some true := by first | rfl | (rw [if_neg (show ¬ (false = true) by decide)] at H; exact H)
    clear H
    have H := H1
    clear H1
    exact absurd H (by simp)

end Go.Proofs.Ytgegjhgifeobdaa.Pd




namespace Go.Proofs.Ytgegjhgifeobdaa.Pd
set_option linter.unusedSimpArgs false
set_option linter.unusedVariables false
open Go.RowKit Go.Lib Go.Proofs.YtgegjhgifeobdaaW.PrintWords Go.Proofs.Ytgegjhgifeobdaa Go.Proofs.YtgegjhgifeobdaaW.PrintMore

theorem isSorted_loop {A : List Nat} (hl : A.length < 1000) (hs : A.Pairwise (· ≤ ·)) : ∀ i : Nat, i < A.length → slices_IsSorted_uint64_uint64.l0 (i + 1) (il A) (i : Int) = some true
  | 0, h => by unfold slices_IsSorted_uint64_uint64.l0; rw [if_neg (by decide)]
  | i + 1, h => by
    have ih := isSorted_loop hl hs i (by omega)
    have hw : wrap64 (((i + 1 : Nat) : Int) - 1) = (i : Int) := by rw [wrap_idE] <;> omega
    have h1 : ((i + 1 : Nat) : Int) < ((il A).length : Int) := by rw [il_length]; omega
    have h2 : (i : Int) < ((il A).length : Int) := by rw [il_length]; omega
    have hle : A.getD i 0 ≤ A.getD (i + 1) 0 := by
      have := (List.pairwise_iff_getElem.1 hs) i (i + 1) (by omega) h (by omega)
      simpa [List.getD_eq_getElem?_getD, h, show i < A.length by omega] using this
    have e1 : rd (il A) ((i + 1 : Nat) : Int) = ((A.getD (i + 1) 0 : Nat) : Int) := rd_il h
    have e2 : rd (il A) (i : Int) = ((A.getD i 0 : Nat) : Int) := rd_il (by omega)
    have hlt : cmp_Less_uint64.f (rd (il A) ((i + 1 : Nat) : Int)) (rd (il A) (i : Int)) = some false := by
      have h3 : decide (((A.getD (i + 1) 0 : Nat) : Int) < ((A.getD i 0 : Nat) : Int)) = false := decide_eq_false (by omega)
      rw [e1, e2]
      unfold cmp_Less_uint64.f cmp_isNaN_uint64.f
      rw [bne_self_eq_false, Option.bind_some, if_neg (by decide), h3]
    unfold slices_IsSorted_uint64_uint64.l0
    rw [if_pos (by omega), if_pos (by omega), if_pos h1, hw, if_pos (nnI i), if_pos h2, hlt, Option.bind_some, if_neg (by decide)]
    exact ih
theorem isSorted_f {A : List Nat} (hl : A.length < 1000) (hs : A.Pairwise (· ≤ ·)) : Ev (fun K => slices_IsSorted_uint64_uint64.f K (il A)) true := by
  refine Ev.of_mono (K0 := A.length + 1) (fun k => slices_IsSorted_uint64_uint64.mono _ k) ?_
  unfold slices_IsSorted_uint64_uint64.f
  rw [il_length]
  rcases Nat.eq_zero_or_pos A.length with h | h
  · have hw : wrap64 ((A.length : Int) - 1) = -1 := by rw [wrap_idE] <;> omega
    rw [hw, h]
    unfold slices_IsSorted_uint64_uint64.l0
    rw [if_neg (by decide)]
  · obtain ⟨n, hn⟩ : ∃ n, A.length = n + 1 := ⟨A.length - 1, by omega⟩
    have hw : wrap64 ((A.length : Int) - 1) = (n : Int) := by rw [wrap_idE] <;> omega
    rw [hw, hn]
    have h0 := isSorted_loop hl hs n (by omega)
    exact slices_IsSorted_uint64_uint64.mono_l (n + 1) _ _ _ h0
theorem valid_f {V : Nat} {A : List Nat} (h1 : 1 ≤ V) (hV : V ≤ 7) (hl : A.length ≤ 64) (hs : A.Pairwise (· ≤ ·)) (hb : ∀ b ∈ A, b < 2 ^ V) : Ev (fun K => incidence_Valid.f K (V : Int) (il A)) true := by
  refine Ev.eq (fun k => by unfold incidence_Valid.f; rw [if_neg (by omega), if_neg (by omega), if_neg (by rw [il_length]; omega)]) ?_
  refine Ev.bind (isSorted_f (by omega) hs) (Ev.const fun K => ?_)
  rw [if_pos rfl, il_length]
  by_cases h0 : (A.length : Int) = 0
  · rw [if_pos h0]
  · obtain ⟨n, hn⟩ : ∃ n, A.length = n + 1 := ⟨A.length - 1, by omega⟩
    have hw : wrap64 ((A.length : Int) - 1) = (n : Int) := by rw [wrap_idE] <;> omega
    have hp := small7E hV
    have hp1 := Nat.two_pow_pos V
    have hf : incidence_full.f (V : Int) = some ((2 ^ V - 1 : Nat) : Int) := by
      unfold incidence_full.f
      have hm := (mask_E hV).1
      rw [show IntKind.u64.wrap (V : Int) = (V : Int) from wrapU_nat (by omega)] at hm
      rw [if_pos (nnI V), hm]
    have hr : rd (il A) (n : Int) = ((A.getD n 0 : Nat) : Int) := rd_il (by omega)
    have hle : A.getD n 0 < 2 ^ V := hb _ (getD_mem (by omega))
    rw [if_neg h0, hw, if_pos (nnI n), if_pos (by omega), hf, Option.bind_some, hr]
    have : decide (((A.getD n 0 : Nat) : Int) ≤ ((2 ^ V - 1 : Nat) : Int)) = true := decide_eq_true (by omega)
    rw [this]
theorem mdiff_loop {D : List Nat} {n : Nat} (hn : n < 1000) (hD : ∀ i ∈ D, i < n) (hDn : D.Nodup) (hl : D.length < 1000) : ∀ (m j : Nat) (bl : List Bool), j + m = D.length → bl.length = n → (∀ i, i < n → rdOf false bl (i : Int) = decide (i ∈ D.take j)) →
    move_different.l0 (m + 1) (n : Int) bl (il D) (D.length : Int) (j : Int) = some true
  | 0, j, bl, hj, _, _ => by unfold move_different.l0; rw [if_neg (by omega)]
  | m + 1, j, bl, hj, hb, hr => by
    have hjl : j < D.length := by omega
    have e : rd (il D) (j : Int) = ((D.getD j 0 : Nat) : Int) := rd_il hjl
    have hlt : D.getD j 0 < n := hD _ (getD_mem hjl)
    have hw := wrap_succ (j := j) (by omega)
    have hg : D[j]? = some (D.getD j 0) := by rw [List.getD_eq_getElem?_getD, List.getElem?_eq_getElem hjl]; rfl
    have hne : D.getD j 0 ∉ D.take j := fun h => by
      obtain ⟨i, hi, ei⟩ := List.getElem_of_mem h
      rw [List.length_take] at hi
      rw [List.getElem_take] at ei
      have := (List.getElem?_eq_some_iff.1 hg).2
      exact (List.pairwise_iff_getElem.1 hDn) i j (by omega) hjl (by omega) (ei.trans this.symm)
    have hz : rdOf false bl ((D.getD j 0 : Nat) : Int) = false := by rw [hr _ hlt]; exact decide_eq_false hne
    have IH := mdiff_loop hn hD hDn hl m (j + 1) (bl.set (D.getD j 0) true) (by omega) (by simpa using hb) (fun i hi => by
      have h1 := hr i hi
      unfold rdOf at h1 ⊢
      rw [Int.toNat_natCast] at h1 ⊢
      rw [List.getD_eq_getElem?_getD, List.getElem?_set]
      have htk : D.take (j + 1) = D.take j ++ [D.getD j 0] := by rw [List.take_add_one, hg]; rfl
      by_cases he : D.getD j 0 = i
      · subst he
        rw [if_pos rfl, if_pos (by omega), htk]
        simp
      · rw [if_neg he, htk, ← List.getD_eq_getElem?_getD, h1]
        have h3 : ¬ i = D.getD j 0 := fun e => he e.symm
        have h2 : i ∈ D.take j ↔ i ∈ D.take j ++ [D.getD j 0] := by rw [List.mem_append, List.mem_singleton]; exact (or_iff_left h3).symm
        exact decide_eq_decide.2 h2)
    unfold move_different.l0
    rw [if_pos (by omega), if_pos (nnI j), if_pos (by rw [il_length]; omega), e, if_neg (by omega), if_neg (by omega), if_pos (nnI _), if_pos (by omega), hz, if_neg (by decide), Int.toNat_natCast, hw]
    exact IH
theorem mdiff_f {D : List Nat} {n : Nat} (hn : n < 1000) (hD : ∀ i ∈ D, i < n) (hDn : D.Nodup) (hl : D.length < 1000) : Ev (fun K => move_different.f K (il D) (n : Int)) true := by
  refine Ev.of_mono (K0 := D.length + 1) (fun k => move_different.mono _ _ k) ?_
  unfold move_different.f
  rw [if_pos (nnI n), Int.toNat_natCast, if_pos (by omega), il_length]
  have h := mdiff_loop hn hD hDn hl D.length 0 (List.replicate n false) (by omega) (by simp) (fun i hi => by
    unfold rdOf
    rw [Int.toNat_natCast, List.getD_eq_getElem?_getD]
    simp [hi])
  exact h
theorem equal_loop (l : List Int) (hl : l.length < 1000) : ∀ (n i : Nat), i + n = l.length → slices_Equal_int_int.l0 (n + 1) l l (l.length : Int) (i : Int) = some true
  | 0, i, h => by unfold slices_Equal_int_int.l0; rw [if_neg (by omega)]
  | n + 1, i, h => by
    unfold slices_Equal_int_int.l0
    rw [if_pos (by omega), if_pos (by omega), if_pos (by omega), if_pos (by omega), if_pos rfl, wrap_succ (by omega)]
    exact equal_loop l hl n (i + 1) (by omega)
theorem equal_f (l : List Int) (hl : l.length < 1000) : Ev (fun K => slices_Equal_int_int.f K l l) true := by
  refine Ev.of_mono (K0 := l.length + 1) (fun k => slices_Equal_int_int.mono _ _ k) ?_
  unfold slices_Equal_int_int.f
  rw [if_pos rfl]
  exact equal_loop l hl l.length 0 (by omega)

theorem best_f5 {V U : Nat} {A C D : List Nat} (hv : V ≤ 5) (hu : U ≤ 7) (hal : A.length ≤ 12) (hab : ∀ b ∈ A, b < 2 ^ V) (hcl : C.length ≤ 1000) (hcb : ∀ b ∈ C, b < 2 ^ U) (hD : ∀ i ∈ D, i < A.length) (hDn : D.Nodup) (hDl : D.length ≤ A.length) (hVU : V ≤ U) :
    ∃ F, embed_Best.f V (il A) U (il C) (il D) = some (il F, embM A C D F, 0) ∧ F ∈ lsL U V [] ∧ ∀ g ∈ lsL U V [], keptN A C D g ≤ keptN A C D F := by
  have h1 : (il A).length ≤ 12 := by rw [il_length]; exact hal
  have h2 : (il C).length ≤ 1000 := by rw [il_length]; exact hcl
  have h3 : (il D).length < 1099511627776 := by rw [il_length]; exact Nat.lt_of_le_of_lt (Nat.le_trans hDl hal) (by decide)
  have h4 : okL 18446744073709551616 (il A) = true := okL_il fun b hb => Nat.lt_of_lt_of_le (hab b hb) (Nat.le_trans (Nat.pow_le_pow_right (by decide) hv) (by decide))
  have h5 : okL 18446744073709551616 (il C) = true := okL_il fun b hb => Nat.lt_of_lt_of_le (hcb b hb) (Nat.le_trans (Nat.pow_le_pow_right (by decide) hu) (by decide))
  have h6 : okI (il D) = true := okI_il fun q hq => Nat.lt_trans (hD q hq) (Nat.lt_of_le_of_lt hal (by decide))
  have e1 : diffB (il D) ((il A).length : Int) = true := by rw [il_length]; exact diffB_nat hD hDn
  obtain ⟨F, hF, he, hg⟩ := foldB_mem A C D (lsL U V []) (lsL_ne (fun _ h => by cases h) List.nodup_nil (by simpa using hVU))
  refine ⟨F, ?_, hF, hg⟩
  unfold embed_Best.f
  rw [if_pos ⟨h1, h2, h3, h4, h5, h6, nnI V, nnI U⟩]
  unfold bestF
  rw [if_neg (by omega), e1, if_neg (by decide), if_neg (by omega), nl_il, nl_il, nl_il, Int.toNat_natCast, Int.toNat_natCast, he]
theorem kept_whole {A C D F : List Nat} (h : keptN A C D F = D.length) : keptL (embM A C D F) (il D) = il D := by
  rw [keptN, keptL] at h
  rw [keptL]
  exact List.filter_eq_self.2 (List.length_filter_eq_length_iff.1 (by rw [h, il_length]))
theorem compK_sorted {M : List Int} {D : List Nat} (h : keptL M (il D) = il D) (hs : D.Pairwise (· ≤ ·)) : compK M (il D) = il D := by
  rw [compK, h, nl_il, sorted_eq (sortedL_permE D) (sortedL_sorted D) hs]
theorem furL_count (n : Nat) (M K : List Int) : ∀ j, (furL n M K j).length + (List.range j).countP (fun i => hitB M K K.length i) = j
  | 0 => by simp [furL]
  | j + 1 => by
    have ih := furL_count n M K j
    rw [furL, List.length_append, List.range_succ, List.countP_append, List.countP_singleton]
    by_cases h : hitB M K K.length j = true
    · rw [if_pos h, if_pos h]; simp; omega
    · rw [if_neg h, if_neg h]; simp; omega
/-- Each kept block takes one block. -/
theorem hits_count {A C D F : List Nat} {M : List Int} (h : Fit A C F M) (hD : ∀ i ∈ D, i < A.length) (hDn : D.Nodup) (hk : ∀ i ∈ D, 0 ≤ rd M (i : Int)) : (List.range C.length).countP (fun i => hitB M (il D) (il D).length i) = D.length := by
  have himg : ∀ i ∈ D, ∃ j : Nat, rd M (i : Int) = j ∧ j < C.length := fun i hi => by
    rcases h.img i (hD i hi) with e | ⟨j, e, hj⟩
    · have := hk i hi; omega
    · exact ⟨j, e, (List.getElem?_eq_some_iff.1 hj).1⟩
  have hP : (D.map fun i : Nat => (rd M (i : Int)).toNat).Nodup := by
    rw [List.Nodup, List.pairwise_map]
    refine List.Pairwise.imp_of_mem ?_ hDn
    intro a b ha hb hab e
    have := h.inj a b (hD a ha) (hD b hb) hab (by have := hk a ha; omega)
    have h1 := hk a ha
    have h2 := hk b hb
    omega
  have hperm : ((List.range C.length).filter fun i => hitB M (il D) (il D).length i).Perm (D.map fun i : Nat => (rd M (i : Int)).toNat) := by
    refine (List.perm_ext_iff_of_nodup (List.nodup_range.sublist List.filter_sublist) hP).2 fun q => ?_
    rw [List.mem_filter, List.mem_range, hitB, List.take_length, List.any_eq_true, List.mem_map]
    constructor
    · rintro ⟨_, k, hk1, hk2⟩
      obtain ⟨i, hi, rfl⟩ := List.mem_map.1 hk1
      exact ⟨i, hi, by have := beq_iff_eq.1 hk2; omega⟩
    · rintro ⟨i, hi, rfl⟩
      obtain ⟨j, e, hj⟩ := himg i hi
      rw [e]
      exact ⟨by simpa using hj, (i : Int), List.mem_map.2 ⟨i, hi, rfl⟩, by simp [e]⟩
  rw [List.countP_eq_length_filter, hperm.length_eq, List.length_map]

/-- A right structure. -/
structure OkS (V : Nat) (A : List Nat) : Prop where
  v1 : 1 ≤ V
  v7 : V ≤ 7
  al : A.length ≤ 14
  ab : ∀ b ∈ A, b < 2 ^ V
  so : A.Pairwise (· ≤ ·)
theorem hits_ok {A C D F : List Nat} {M : List Int} (h : Fit A C F M) (hD : ∀ i ∈ D, i < A.length) : hitsOk M (il D) C.length = true := by
  rw [hitsOk, List.all_eq_true]
  intro k hk
  obtain ⟨i, hi, rfl⟩ := List.mem_map.1 (List.mem_filter.1 hk).1
  have h2 := (List.mem_filter.1 hk).2
  simp only [keepB, Bool.and_eq_true, decide_eq_true_eq] at h2
  rcases h.img i (hD i hi) with e | ⟨j, e, hj⟩
  · omega
  · have := (List.getElem?_eq_some_iff.1 hj).1
    exact decide_eq_true (by omega)
theorem completed_f {C D : List Nat} {F : List Nat} {M : List Int} {U : Nat} (hF : F.length < 1000) (hM : M.length < 1000) (hC : C.length < 1000) (hD : D.length ≤ 12) (hh : hitsOk M (il D) C.length = true) :
    move_completed.f (U : Int) (il C) (il F) M (il D) = some (il F, M, compK M (il D), furL C.length M (compK M (il D)) C.length) := by
  unfold move_completed.f
  rw [il_length, il_length, il_length, if_pos ⟨by omega, by omega, by omega, hD, hh⟩]
theorem planned_f {V U : Nat} {A C D F : List Nat} (hA : OkS V A) (hC : OkS U C) (hD : ∀ i ∈ D, i < A.length) (hD12 : D.length ≤ 12) (hFV : F.length = V)
    (hb : embed_Best.f V (il A) U (il C) (il D) = some (il F, embM A C D F, 0)) (hf : Fit A C F (embM A C D F)) :
    Ev (fun k => move_Of.f k V (il A) U (il C) (il D)) (il F, embM A C D F, compK (embM A C D F) (il D), furL C.length (embM A C D F) (compK (embM A C D F) (il D)) C.length, 0) := by
  have hv := hA.v7
  have hal := hA.al
  have hcl := hC.al
  refine Ev.eq (fun k => by unfold move_Of.f; rfl) ?_
  refine Ev.bind (valid_f hA.v1 hA.v7 (by omega) hA.so hA.ab) ?_
  refine Ev.eq (fun k => if_pos rfl) ?_
  refine Ev.bind (valid_f hC.v1 hC.v7 (by omega) hC.so hC.ab) ?_
  refine Ev.succ (g' := fun _ => some (il F, embM A C D F, compK (embM A C D F) (il D), furL C.length (embM A C D F) (compK (embM A C D F) (il D)) C.length, 0)) (fun k => ?_) (Ev.const fun _ => rfl)
  rw [move_Of.j0, if_neg (by decide), hb, Option.bind_some]
  simp only []
  rw [if_pos trivial, completed_f (by omega) (by rw [embM_len]; omega) (by omega) hD12 (hits_ok hf hD), Option.bind_some]
theorem mcheck_f {V U : Nat} {A C D F : List Nat} {M : List Int} (hA : OkS V A) (hC : OkS U C) (hD : ∀ i ∈ D, i < A.length) (hDn : D.Nodup) (hD12 : D.length ≤ 12) (hFV : F.length = V) (hFU : ∀ q ∈ F, q < U) (hFn : F.Nodup) (hf : Fit A C F M) :
    Ev (fun k => plexuslaw43_check.f k V (il A) U (il C) (il D) (il F) M (compK M (il D)) (furL C.length M (compK M (il D)) C.length)) 0 := by
  have hv := hA.v7
  have hu := hC.v7
  have hal := hA.al
  have hcl := hC.al
  have hK : (compK M (il D)).length ≤ D.length := by
    rw [compK, il_length, sortedL_length, nl_length]
    refine Nat.le_trans (List.length_filter_le _ _) (by rw [il_length]; exact Nat.le_refl _)
  have hFu := furL_len C.length M (compK M (il D)) C.length
  refine Ev.eq (fun k => by unfold plexuslaw43_check.f; rfl) ?_
  refine Ev.bind (a := 0) ?_ (Ev.const fun _ => rfl)
  refine Ev.eq (fun k => by unfold move_Check.f; rfl) ?_
  refine Ev.bind (valid_f hA.v1 hA.v7 (by omega) hA.so hA.ab) ?_
  refine Ev.eq (fun k => if_pos rfl) ?_
  refine Ev.bind (valid_f hC.v1 hC.v7 (by omega) hC.so hC.ab) ?_
  refine Ev.eq (fun k => if_pos rfl) ?_
  refine Ev.bind (a := true) ?_ ?_
  · have := mdiff_f (D := D) (n := A.length) (by omega) hD hDn (by omega)
    rw [il_length]
    exact this
  refine Ev.succ (fun k => by rw [move_Check.j0, if_neg (by decide)]) ?_
  refine Ev.bind (check_f hf hv hA.ab hFV hFU hFn (by omega) (by omega) (by omega)) ?_
  refine Ev.eq (fun k => by rw [if_pos rfl, completed_f (by omega) (by rw [hf.len]; omega) (by omega) hD12 (hits_ok hf hD), Option.bind_some]) ?_
  refine Ev.bind (equal_f _ (by omega)) ?_
  refine Ev.eq (fun k => if_pos rfl) ?_
  refine Ev.bind (equal_f _ (by omega)) ?_
  exact Ev.const fun k => if_pos rfl

theorem images_true {l0 l2 : List Int} {a1 : Int} (g0 : l0.length < 2 ^ 63) (g2 : l2.length < 2 ^ 63) (h0 : okL 256 l0 = true) (h2 : okL 256 l2 = true) (hs0 : 0 ≤ a1) (hs1 : a1 < 65536) : ∃ k, plexuslaw43_MoveImages.f k l0 a1 l2 = some true := by
  obtain ⟨hv1, hv5⟩ := limV_bd (nl l0) 5 (by decide)
  obtain ⟨V, hV⟩ : ∃ V, limV (nl l0) 5 = V := ⟨_, rfl⟩
  have hab := limB_memE (l := nl l0) (m := 5) (by decide) (by decide)
  have hal := limB_lenE (l := nl l0) (m := 5)
  have hso := limB_sorted (l := nl l0) (m := 5)
  obtain ⟨A, hA⟩ : ∃ A, limB (nl l0) 5 = A := ⟨_, rfl⟩
  rw [hV] at hv1 hv5 hab
  rw [hA] at hab hal hso
  have e0 : plexusref06_Pick.f l0 = some ((V : Int), il A) := by
    unfold plexusref06_Pick.f plexusref06_Limited.f
    rw [if_pos ⟨g0, h0, by decide, by decide⟩, Option.bind_some]
    show some (((limV (nl l0) 5 : Nat) : Int), il (limB (nl l0) 5)) = _
    rw [hV, hA]
  obtain ⟨g, hg⟩ : ∃ g, shL (nl l2) V = g := ⟨_, rfl⟩
  have e1 : plexusref06_Shuffled.f (V : Int) l2 = some (il g) := by rw [← hg]; exact shuf_fE (U := V) (by omega) g2 h2
  have hgl : g.length = V := by rw [← hg]; exact shL_len (nl l2) V
  have hq : ∀ q ∈ g, q < V := by rw [← hg]; exact shL_lt _ _
  have hn : g.Nodup := by rw [← hg]; exact shL_nodup _ _
  have h32 : 2 ^ V ≤ 2 ^ 7 := Nat.pow_le_pow_right (by decide) (by omega)
  have e2 : plexusref06_Image.f (V : Int) (il A) (il g) = some ((V : Int), il (imL A g)) := by
    unfold plexusref06_Image.f
    rw [if_pos ⟨by rw [il_length]; omega, okL_il fun b hb => by have := hab b hb; omega, by rw [il_length, hgl]; exact diffB_nat hq hn, by rw [il_length, hgl], by rw [il_length]; omega⟩, nl_il, nl_il]
  obtain ⟨C, hC⟩ : ∃ C, imL A g = C := ⟨_, rfl⟩
  have hCl : C.length = A.length := by rw [← hC, imL_len]
  have hCb : ∀ b ∈ C, b < 2 ^ V := by
    rw [← hC]
    intro b hb
    obtain ⟨x, _, rfl⟩ := List.mem_map.1 ((sortedL_permE _).mem_iff.1 hb)
    exact mvK_lt hq _ (Nat.le_refl _)
  have hCs : C.Pairwise (· ≤ ·) := by rw [← hC]; exact sortedL_sorted _
  have oA : OkS V A := ⟨hv1, by omega, by omega, hab, hso⟩
  have oC : OkS V C := ⟨hv1, by omega, by omega, hCb, hCs⟩
  obtain ⟨kd, hkd⟩ := done42 hs0 hs1 V A (by omega)
  obtain ⟨D, hDd⟩ : ∃ D, doneL a1.toNat A.length = D := ⟨_, rfl⟩
  have hD : ∀ i ∈ D, i < A.length := fun i hi => by rw [← hDd] at hi; exact List.mem_range.1 (List.mem_filter.1 hi).1
  have hDn : D.Nodup := by rw [← hDd]; exact List.nodup_range.sublist List.filter_sublist
  have hDs : D.Pairwise (· ≤ ·) := by
    rw [← hDd]
    exact (List.pairwise_lt_range.imp Nat.le_of_lt).sublist List.filter_sublist
  have hDl : D.length ≤ A.length := by
    rw [← hDd]
    have := List.length_filter_le (fun i => a1.toNat.testBit i) (List.range A.length)
    rwa [List.length_range] at this
  rw [hDd] at hkd
  obtain ⟨F, b1, k1, m1⟩ := best_f5 (U := V) (C := C) (by omega) (by omega) (by omega) hab (by omega) hCb hD hDn hDl (Nat.le_refl _)
  obtain ⟨f1, f2, f3⟩ := lsL_mem k1 (fun _ h => by cases h) List.nodup_nil
  have hFV : F.length = V := by simpa using f1
  have hgm : g ∈ lsL V V [] := lsL_all (by simpa using hn) hq hgl
  have hkept : keptN A C D F = D.length := by
    have a := m1 g hgm
    rw [← hC, kept_self hD hDn] at a
    have b : keptN A C D F ≤ D.length := by rw [keptN_eq hD hDn]; exact List.countP_le_length
    rw [hC] at a
    omega
  obtain ⟨M, hM⟩ : ∃ M, embM A C D F = M := ⟨_, rfl⟩
  have hf := embM_fit (F := F) hCs hD hDn
  have hkl := kept_whole hkept
  rw [hM] at hf hkl b1
  have hK := compK_sorted hkl hDs
  have hpos : ∀ i ∈ D, 0 ≤ rd M (i : Int) := fun i hi => by
    have h1 : (i : Int) ∈ keptL M (il D) := by rw [hkl]; exact List.mem_map.2 ⟨i, hi, rfl⟩
    have h2 := (List.mem_filter.1 h1).2
    simp only [keepB, Bool.and_eq_true, decide_eq_true_eq] at h2
    exact h2.2
  have hfl : (furL C.length M (il D) C.length).length = A.length - D.length := by
    have h1 := furL_count C.length M (il D) C.length
    have h2 := hits_count hf hD hDn hpos
    omega
  have E1 := planned_f oA oC hD (by omega) hFV (by rw [hM]; exact b1) (by rw [hM]; exact hf)
  rw [hM, hK] at E1
  have E2 : Ev (fun k => plexuslaw43_planned.f k V (il A) V (il C) (il D)) (il F, M, il D, furL C.length M (il D) C.length) := by
    refine Ev.eq (fun k => by unfold plexuslaw43_planned.f; rfl) ?_
    exact Ev.bind E1 (Ev.const fun _ => if_pos rfl)
  have E3 := mcheck_f oA oC hD hDn (by omega) hFV f2 f3 hf
  rw [hK] at E3
  have E4 := sameInts_f (il D) (by rw [il_length]; omega)
  have E0 : Ev (fun k => plexusref42_Done.f k (V : Int) (il A) a1) (il D) := ⟨kd, hkd⟩
  have hlen : ((furL C.length M (il D) C.length).length : Int) = wrap64 (((il A).length : Int) - ((il D).length : Int)) := by
    rw [il_length, il_length, wrap_idE (by omega) (by omega), hfl]
    omega
  have hfin : Ev (fun k => plexuslaw43_MoveImages.f k l0 a1 l2) true := by
    refine Ev.eq (fun k => by unfold plexuslaw43_MoveImages.f; rw [show plexuslaw43_examples.f = some true from rfl, Option.bind_some, if_pos rfl, e0, Option.bind_some]) ?_
    refine Ev.eq (fun k => by simp only []; rw [e1, Option.bind_some, e2, Option.bind_some, hC]) ?_
    refine Ev.bind E0 ?_
    refine Ev.bind E2 ?_
    refine Ev.bind E4 ?_
    refine Ev.eq (fun k => by rw [if_pos rfl, if_pos hlen]) ?_
    exact Ev.bind E3 (Ev.const fun _ => if_pos rfl)
  obtain ⟨K0, h⟩ := hfin
  exact ⟨K0, h K0 (Nat.le_refl _)⟩
end Go.Proofs.Ytgegjhgifeobdaa.Pd
