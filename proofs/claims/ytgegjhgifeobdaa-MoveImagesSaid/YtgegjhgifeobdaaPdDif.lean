-- Written by this session's program xprint.py: it drives the kit's print with contracts of this session's own.
-- Written by this session's program xprint.py: it drives the kit's print with contracts of this session's own.
/- Where the printed contract of plexuslaw43_check lies. -/
/- Where the printed contract of move_different lies. -/
import Derived.Test.YtgegjhgifeobdaaIi
import Derived.Test.YtgegjhgifeobdaaPk
import Derived.Test.YtgegjhgifeobdaaPdVal
import Derived.Test.YtgegjhgifeobdaaPdx8
import Derived.Test.YtgegjhgifeobdaaEd
namespace Go.Proofs.Ytgegjhgifeobdaa.Pd
open Go.Proofs.Ytgegjhgifeobdaa.Pk Go.RowKit Go.Proofs.YtgegjhgifeobdaaW.PrintWords Go.Proofs.YtgegjhgifeobdaaW.PrintLast Go.Proofs.YtgegjhgifeobdaaW.PrintMore
attribute [local go_sem] max2_int min2_int max_two min_two max_three min_three max_four min_four   -- for this text's walks alone
set_option linter.unusedVariables false
set_option linter.unusedSimpArgs false

/-! ### move_Check: function 24 -/
def move_Check.j0 : Nat → List Int → Bool → Int → List Int → Int → List Int → List Int → List Int → List Int → List Int → Option (Int)
  | 0, _, _, _, _, _, _, _, _, _, _ => none
  | k + 1, x2, x25, x174000, x174001, x175000, x175001, x176000, x176001, x176002, x176003 => if x25 = true then (some 1) else ((embed_Check.f k x174000 x174001 x175000 x175001 x176000 x176001).bind fun t179 => (if t179 = 0 then ((move_completed.f x175000 x175001 x176000 x176001 x2).bind fun bt180 => ((slices_Equal_int_int.f k x176002 bt180.2.2.1).bind fun t193 => (if t193 = true then ((slices_Equal_int_int.f k x176003 bt180.2.2.2).bind fun t194 => (if t194 = true then (some 0) else (some 430))) else (some 430)))) else (some 430)))
def move_Check.f (k : Nat) (a0_0 : Int) (l0_1 : List Int) (a1_0 : Int) (l1_1 : List Int) (l2 : List Int) (l3_0 : List Int) (l3_1 : List Int) (l3_2 : List Int) (l3_3 : List Int) : Option (Int) := (incidence_Valid.f k a0_0 l0_1).bind fun t176 => (if t176 = true then ((incidence_Valid.f k a1_0 l1_1).bind fun t177 => (if t177 = true then ((move_different.f k l2 (l0_1.length : Int)).bind fun t178 => (move_Check.j0 k l2 (!t178) a0_0 l0_1 a1_0 l1_1 l3_0 l3_1 l3_2 l3_3)) else (move_Check.j0 k l2 true a0_0 l0_1 a1_0 l1_1 l3_0 l3_1 l3_2 l3_3))) else (move_Check.j0 k l2 true a0_0 l0_1 a1_0 l1_1 l3_0 l3_1 l3_2 l3_3))
theorem move_Check.mono_l : ∀ k, (∀ y0 y1 y2 y3 y4 y5 y6 y7 y8 y9, LeO (move_Check.j0 k y0 y1 y2 y3 y4 y5 y6 y7 y8 y9) (move_Check.j0 (k + 1) y0 y1 y2 y3 y4 y5 y6 y7 y8 y9))
  | 0 => fun _ _ _ _ _ _ _ _ _ _ r h => by simp [move_Check.j0] at h
  | k + 1 => by
    have ih0 := move_Check.mono_l k
    · intro y0 y1 y2 y3 y4 y5 y6 y7 y8 y9
      unfold move_Check.j0
      repeat' first
      | (with_reducible exact ih0 _ _ _ _ _ _ _ _ _ _)
      | (with_reducible exact embed_Check.mono _ _ _ _ _ _ _)
      | (with_reducible exact incidence_Valid.mono _ _ _)
      | (with_reducible exact move_different.mono _ _ _)
      | (with_reducible exact slices_Equal_int_int.mono _ _ _)
      | (with_reducible exact LeO.refl _)
      | (with_reducible exact LeO.none _)
      | (with_reducible refine LeO.ite ?_ ?_)
      | (with_reducible refine LeO.bind ?_ (fun _ => ?_))
      | exact ih0 _ _ _ _ _ _ _ _ _ _
      | exact embed_Check.mono _ _ _ _ _ _ _
      | exact incidence_Valid.mono _ _ _
      | exact move_different.mono _ _ _
      | exact slices_Equal_int_int.mono _ _ _
      | exact LeO.none _
      | refine LeO.ite ?_ ?_
      | refine LeO.bind ?_ (fun _ => ?_)
theorem move_Check.mono : ∀ a0 a1 a2 a3 a4 a5 a6 a7 a8 k, LeO (move_Check.f k a0 a1 a2 a3 a4 a5 a6 a7 a8) (move_Check.f (k + 1) a0 a1 a2 a3 a4 a5 a6 a7 a8) := by
  intro a0 a1 a2 a3 a4 a5 a6 a7 a8 k
  have ih0 := move_Check.mono_l k
  unfold move_Check.f
  repeat' first
      | (with_reducible exact ih0 _ _ _ _ _ _ _ _ _ _)
      | (with_reducible exact embed_Check.mono _ _ _ _ _ _ _)
      | (with_reducible exact incidence_Valid.mono _ _ _)
      | (with_reducible exact move_different.mono _ _ _)
      | (with_reducible exact slices_Equal_int_int.mono _ _ _)
      | (with_reducible exact LeO.refl _)
      | (with_reducible exact LeO.none _)
      | (with_reducible refine LeO.ite ?_ ?_)
      | (with_reducible refine LeO.bind ?_ (fun _ => ?_))
      | exact ih0 _ _ _ _ _ _ _ _ _ _
      | exact embed_Check.mono _ _ _ _ _ _ _
      | exact incidence_Valid.mono _ _ _
      | exact move_different.mono _ _ _
      | exact slices_Equal_int_int.mono _ _ _
      | exact LeO.none _
      | refine LeO.ite ?_ ?_
      | refine LeO.bind ?_ (fun _ => ?_)
set_option maxHeartbeats 8000000 in
set_option maxRecDepth 100000 in
theorem move_Check.calls (k : Nat) (a0_0 : Int) (A0_1 : Option Addr) (c0_1 : Nat) (l0_1 : List Int) (a1_0 : Int) (A1_1 : Option Addr) (c1_1 : Nat) (l1_1 : List Int) (A2 : Option Addr) (c2 : Nat) (l2 : List Int) (A3_0 : Option Addr) (c3_0 : Nat) (l3_0 : List Int) (A3_1 : Option Addr) (c3_1 : Nat) (l3_1 : List Int) (A3_2 : Option Addr) (c3_2 : Nat) (l3_2 : List Int) (A3_3 : Option Addr) (c3_3 : Nat) (l3_3 : List Int) (r : Int) (w : World) (hr0_1 : Kd.C (Kd.int .u64) w A0_1 l0_1.length l0_1) (hc0_1 : l0_1.length ≤ c0_1) (hr1_1 : Kd.C (Kd.int .u64) w A1_1 l1_1.length l1_1) (hc1_1 : l1_1.length ≤ c1_1) (hr2 : Kd.C (Kd.int .i64) w A2 l2.length l2) (hc2 : l2.length ≤ c2) (hr3_0 : Kd.C (Kd.int .i64) w A3_0 l3_0.length l3_0) (hc3_0 : l3_0.length ≤ c3_0) (hr3_1 : Kd.C (Kd.int .i64) w A3_1 l3_1.length l3_1) (hc3_1 : l3_1.length ≤ c3_1) (hr3_2 : Kd.C (Kd.int .i64) w A3_2 l3_2.length l3_2) (hc3_2 : l3_2.length ≤ c3_2) (hr3_3 : Kd.C (Kd.int .i64) w A3_3 l3_3.length l3_3) (hc3_3 : l3_3.length ≤ c3_3) (h : move_Check.f k a0_0 l0_1 a1_0 l1_1 l2 l3_0 l3_1 l3_2 l3_3 = some r) :
    Calls Try.prog 24 #[.agg #[.int .i64 a0_0, .slice A0_1 l0_1.length c0_1], .agg #[.int .i64 a1_0, .slice A1_1 l1_1.length c1_1], .slice A2 l2.length c2, .agg #[.slice A3_0 l3_0.length c3_0, .slice A3_1 l3_1.length c3_1, .slice A3_2 l3_2.length c3_2, .slice A3_3 l3_3.length c3_3]] w fun e w' => e = .returned (.int .i64 r) ∧ Below w.heap.size w w' := by
  have hu29 := Try.underlying29
  have hu40 := Try.underlying40
  have hu38 := Try.underlying38
  have HR0_1 := Aside0.mk hr0_1
  have HC0_1 := Aside0.mk hc0_1
  clear hr0_1 hc0_1
  have HR1_1 := Aside0.mk hr1_1
  have HC1_1 := Aside0.mk hc1_1
  clear hr1_1 hc1_1
  have HR2 := Aside0.mk hr2
  have HC2 := Aside0.mk hc2
  clear hr2 hc2
  have HR3_0 := Aside0.mk hr3_0
  have HC3_0 := Aside0.mk hc3_0
  clear hr3_0 hc3_0
  have HR3_1 := Aside0.mk hr3_1
  have HC3_1 := Aside0.mk hc3_1
  clear hr3_1 hc3_1
  have HR3_2 := Aside0.mk hr3_2
  have HC3_2 := Aside0.mk hc3_2
  clear hr3_2 hc3_2
  have HR3_3 := Aside0.mk hr3_3
  have HC3_3 := Aside0.mk hc3_3
  clear hr3_3 hc3_3
  have HB := Aside0.mk (Below.refl w.heap.size w)
  have H : ((incidence_Valid.f k a0_0 l0_1).bind fun t176 => (if t176 = true then ((incidence_Valid.f k a1_0 l1_1).bind fun t177 => (if t177 = true then ((move_different.f k l2 (l0_1.length : Int)).bind fun t178 => (move_Check.j0 k l2 (!t178) a0_0 l0_1 a1_0 l1_1 l3_0 l3_1 l3_2 l3_3)) else (move_Check.j0 k l2 true a0_0 l0_1 a1_0 l1_1 l3_0 l3_1 l3_2 l3_3))) else (move_Check.j0 k l2 true a0_0 l0_1 a1_0 l1_1 l3_0 l3_1 l3_2 l3_3))) = some r := h
  clear h
  have HC5 := Aside0.mk H
  clear H
  go_enter Try.func24, Try.ntmps24
  go_upto_region 1 with (first | ((with_reducible refine gate_dst (N := 4) rfl ?_); (try (refine gate_guard (by rfl) ?_; dsimp only)); refine box_event ?hg (N := 4) ?hd (cs := #[.int .i64 a0_0, .slice A0_1 l0_1.length c0_1]) (t := 29) ?hr ?_; (case hd => rfl); (case hg => rfl); (case hr => first | (go_simp; done) | (go_simp; rfl)); intro gb173 hg w6 hbox hb; have n0_ := pkS HB hb; have n1_ := Aside0.mk (hbox); have n2_ := pkG hg HB; have n3_ := pkG hg HB; clear HB; have HB := n0_; have BK173 := n1_; have GW173 := n2_; have GE173 := n3_; clear n0_ n1_ n2_ n3_; clear hb hbox hg) | ((with_reducible refine gate_dst (N := 5) rfl ?_); (try (refine gate_guard (by rfl) ?_; dsimp only)); refine box_event ?hg (N := 5) ?hd (cs := #[.int .i64 a1_0, .slice A1_1 l1_1.length c1_1]) (t := 29) ?hr ?_; (case hd => rfl); (case hg => rfl); (case hr => first | (go_simp; done) | (go_simp; rfl)); intro gb174 hg w7 hbox hb; have n0_ := pkBb BK173 hb; have n1_ := pkS HB hb; have n2_ := Aside0.mk (hbox); have n3_ := pkG hg HB; have n4_ := pkG hg HB; have n5_ := pkN hg BK173; have n6_ := pkM hg BK173; clear BK173; clear HB; have BK173 := n0_; have HB := n1_; have BK174 := n2_; have GW174 := n3_; have GE174 := n4_; have NB173_174 := n5_; have NB174_173 := n6_; clear n0_ n1_ n2_ n3_ n4_ n5_ n6_; clear hb hbox hg) | ((with_reducible refine gate_dst (N := 7) rfl ?_); (try (refine gate_guard (by rfl) ?_; dsimp only)); refine box_event ?hg (N := 7) ?hd (cs := #[.slice A3_0 l3_0.length c3_0, .slice A3_1 l3_1.length c3_1, .slice A3_2 l3_2.length c3_2, .slice A3_3 l3_3.length c3_3]) (t := 40) ?hr ?_; (case hd => rfl); (case hg => rfl); (case hr => first | (go_simp; done) | (go_simp; rfl)); intro gb175 hg w8 hbox hb; have n0_ := pkBb BK173 hb; have n1_ := pkBb BK174 hb; have n2_ := pkS HB hb; have n3_ := Aside0.mk (hbox); have n4_ := pkG hg HB; have n5_ := pkG hg HB; have n6_ := pkN hg BK173; have n7_ := pkM hg BK173; have n8_ := pkN hg BK174; have n9_ := pkM hg BK174; clear BK173; clear BK174; clear HB; have BK173 := n0_; have BK174 := n1_; have HB := n2_; have BK175 := n3_; have GW175 := n4_; have GE175 := n5_; have NB173_175 := n6_; have NB175_173 := n7_; have NB174_175 := n8_; have NB175_174 := n9_; clear n0_ n1_ n2_ n3_ n4_ n5_ n6_ n7_ n8_ n9_; clear hb hbox hg))
  (try simp only [Act.put, List.setIfInBounds_toArray, List.set_cons_zero, List.set_cons_succ])
  go_cut [25] (fun v25 wc => ∃ (kq : Nat) (x25_4 : Bool), v25 = .bool x25_4 ∧ Aside0 (move_Check.j0 kq l2 x25_4 a0_0 l0_1 a1_0 l1_1 l3_0 l3_1 l3_2 l3_3 = some r) ∧ Aside0 (kq ≤ k) ∧ Aside0 (wc.heap[gb173]? = some (.cells #[.int .i64 a0_0, (.slice A0_1 l0_1.length c0_1)] 29 (0, 0))) ∧ Aside0 (wc.heap[gb174]? = some (.cells #[.int .i64 a1_0, (.slice A1_1 l1_1.length c1_1)] 29 (0, 0))) ∧ Aside0 (wc.heap[gb175]? = some (.cells #[(.slice A3_0 l3_0.length c3_0), (.slice A3_1 l3_1.length c3_1), (.slice A3_2 l3_2.length c3_2), (.slice A3_3 l3_3.length c3_3)] 40 (0, 0))) ∧ Aside0 (Below w.heap.size w wc))
  case first =>
    have H := HC5.out
    clear HC5
    replace H := Option.bind_eq_some_iff.mp H
    obtain ⟨t176, A90, H⟩ := H
    replace H : (if t176 = true then ((incidence_Valid.f k a1_0 l1_1).bind fun t177 => (if t177 = true then ((move_different.f k l2 (l0_1.length : Int)).bind fun t178 => (move_Check.j0 k l2 (!t178) a0_0 l0_1 a1_0 l1_1 l3_0 l3_1 l3_2 l3_3)) else (move_Check.j0 k l2 true a0_0 l0_1 a1_0 l1_1 l3_0 l3_1 l3_2 l3_3))) else (move_Check.j0 k l2 true a0_0 l0_1 a1_0 l1_1 l3_0 l3_1 l3_2 l3_3)) = some r := H
    have A9 := Aside0.mk A90
    clear A90
    by_cases c10 : t176 = true
    · subst c10
      have H1 : ((incidence_Valid.f k a1_0 l1_1).bind fun t177 => (if t177 = true then ((move_different.f k l2 (l0_1.length : Int)).bind fun t178 => (move_Check.j0 k l2 (!t178) a0_0 l0_1 a1_0 l1_1 l3_0 l3_1 l3_2 l3_3)) else (move_Check.j0 k l2 true a0_0 l0_1 a1_0 l1_1 l3_0 l3_1 l3_2 l3_3))) = some r := by first | rfl | (rw [if_pos rfl] at H; exact H)
      clear H
      have H := H1
      clear H1
      replace H := Option.bind_eq_some_iff.mp H
      obtain ⟨t177, A110, H⟩ := H
      replace H : (if t177 = true then ((move_different.f k l2 (l0_1.length : Int)).bind fun t178 => (move_Check.j0 k l2 (!t178) a0_0 l0_1 a1_0 l1_1 l3_0 l3_1 l3_2 l3_3)) else (move_Check.j0 k l2 true a0_0 l0_1 a1_0 l1_1 l3_0 l3_1 l3_2 l3_3)) = some r := H
      have A11 := Aside0.mk A110
      clear A110
      by_cases c12 : t177 = true
      · subst c12
        have H1 : ((move_different.f k l2 (l0_1.length : Int)).bind fun t178 => (move_Check.j0 k l2 (!t178) a0_0 l0_1 a1_0 l1_1 l3_0 l3_1 l3_2 l3_3)) = some r := by first | rfl | (rw [if_pos rfl] at H; exact H)
        clear H
        have H := H1
        clear H1
        replace H := Option.bind_eq_some_iff.mp H
        obtain ⟨t178, A130, H⟩ := H
        replace H : (move_Check.j0 k l2 (!t178) a0_0 l0_1 a1_0 l1_1 l3_0 l3_1 l3_2 l3_3) = some r := H
        have A13 := Aside0.mk A130
        clear A130
        have H' := Aside0.mk H
        clear H
        have hnb14 := NB173_174.out
        have hnc14 := NB174_173.out
        have hnb15 := NB173_175.out
        have hnc15 := NB175_173.out
        have hcz16_0 : w8.cell? ⟨gb173, 0, none⟩ = some (.int .i64 a0_0) := (blk_cell BK173.out 0).trans rfl
        have hcz16_1 : w8.cell? ⟨gb173, 1, none⟩ = some (.slice A0_1 l0_1.length c0_1) := (blk_cell BK173.out 1).trans rfl
        have hfz16_0 := blk_frozen BK173.out 0
        have hfz16_1 := blk_frozen BK173.out 1
        go_wp2_with (first | ((with_reducible refine gate_callee (f := 25) rfl ?_); refine goesL_ (some 11) rfl rfl Try.func25 (by kernel_rfl) rfl #[.agg #[.int .i64 a0_0, .slice A0_1 l0_1.length c0_1]] rfl (by (try simp only [List.map_toArray, List.map_cons, List.map_nil]); first | done | rfl | (simp only [List.length_drop, List.length_take]; rfl)) ?_; (with_reducible refine (incidence_Valid.calls k a0_0 _ _ l0_1 true _ ?side1 ?side2 A9.out).mono ?_); (case side1 => exact pkC (Kd.C_below HR0_1.out HB.out)); (case side2 => exact HC0_1.out); rintro e w17 ⟨rfl, hb⟩; refine ⟨_, rfl, ?_⟩; have n0_ := pkBb BK173 hb; have n1_ := pkBb BK174 hb; have n2_ := pkBb BK175 hb; have n3_ := pkS HB hb; clear BK173; clear BK174; clear BK175; clear HB; have BK173 := n0_; have BK174 := n1_; have BK175 := n2_; have HB := n3_; clear n0_ n1_ n2_ n3_; (try clear hb); (try clear hb2); (try clear hk); (try clear hi); have hnb18 := NB174_175.out; have hnc18 := NB175_174.out; have hcz19_0 : w17.cell? ⟨gb174, 0, none⟩ = some (.int .i64 a1_0) := (blk_cell BK174.out 0).trans rfl; have hcz19_1 : w17.cell? ⟨gb174, 1, none⟩ = some (.slice A1_1 l1_1.length c1_1) := (blk_cell BK174.out 1).trans rfl; have hfz19_0 := blk_frozen BK174.out 0; have hfz19_1 := blk_frozen BK174.out 1) | (go_at_call 25; (with_reducible refine (incidence_Valid.calls k a1_0 _ _ l1_1 true _ ?side1 ?side2 A11.out).mono ?_); (case side1 => exact pkC (Kd.C_below HR1_1.out HB.out)); (case side2 => exact HC1_1.out); rintro e w20 ⟨rfl, hb⟩; have n0_ := pkBb BK173 hb; have n1_ := pkBb BK174 hb; have n2_ := pkBb BK175 hb; have n3_ := pkS HB hb; clear BK173; clear BK174; clear BK175; clear HB; have BK173 := n0_; have BK174 := n1_; have BK175 := n2_; have HB := n3_; clear n0_ n1_ n2_ n3_; (try clear hb); (try clear hb2); (try clear hk); (try clear hi); have hcz21_0 : w20.cell? ⟨gb173, 0, none⟩ = some (.int .i64 a0_0) := (blk_cell BK173.out 0).trans rfl; have hcz21_1 : w20.cell? ⟨gb173, 1, none⟩ = some (.slice A0_1 l0_1.length c0_1) := (blk_cell BK173.out 1).trans rfl; have hfz21_0 := blk_frozen BK173.out 0; have hfz21_1 := blk_frozen BK173.out 1) | (go_at_call 42; (with_reducible refine (move_different.calls k _ _ l2 (l0_1.length : Int) t178 _ ?side1 ?side2 A13.out).mono ?_); (case side1 => exact pkC (Kd.C_below HR2.out HB.out)); (case side2 => exact HC2.out); rintro e w22 ⟨rfl, hb⟩; have n0_ := pkBb BK173 hb; have n1_ := pkBb BK174 hb; have n2_ := pkBb BK175 hb; have n3_ := pkS HB hb; clear BK173; clear BK174; clear BK175; clear HB; have BK173 := n0_; have BK174 := n1_; have BK175 := n2_; have HB := n3_; clear n0_ n1_ n2_ n3_; (try clear hb); (try clear hb2); (try clear hk); (try clear hi)))
        go_meet
        case rel => exact ⟨_, (!t178), (by first | rfl | (simp; done) | (simp [*]; done)), H', ⟨by first | omega | exact Nat.le_refl _⟩, ⟨pkB BK173.out⟩, ⟨pkB BK174.out⟩, ⟨pkB BK175.out⟩, ⟨pkW HB.out⟩⟩
      · replace c12 := Bool.eq_false_iff.mpr c12
        subst c12
        have H1 : (move_Check.j0 k l2 true a0_0 l0_1 a1_0 l1_1 l3_0 l3_1 l3_2 l3_3) = some r := by first | rfl | (rw [if_neg (show ¬ (false = true) by decide)] at H; exact H)
        clear H
        have H := H1
        clear H1
        have H' := Aside0.mk H
        clear H
        have hnb23 := NB173_174.out
        have hnc23 := NB174_173.out
        have hnb24 := NB173_175.out
        have hnc24 := NB175_173.out
        have hcz25_0 : w8.cell? ⟨gb173, 0, none⟩ = some (.int .i64 a0_0) := (blk_cell BK173.out 0).trans rfl
        have hcz25_1 : w8.cell? ⟨gb173, 1, none⟩ = some (.slice A0_1 l0_1.length c0_1) := (blk_cell BK173.out 1).trans rfl
        have hfz25_0 := blk_frozen BK173.out 0
        have hfz25_1 := blk_frozen BK173.out 1
        go_wp2_with (first | ((with_reducible refine gate_callee (f := 25) rfl ?_); refine goesL_ (some 11) rfl rfl Try.func25 (by kernel_rfl) rfl #[.agg #[.int .i64 a0_0, .slice A0_1 l0_1.length c0_1]] rfl (by (try simp only [List.map_toArray, List.map_cons, List.map_nil]); first | done | rfl | (simp only [List.length_drop, List.length_take]; rfl)) ?_; (with_reducible refine (incidence_Valid.calls k a0_0 _ _ l0_1 true _ ?side1 ?side2 A9.out).mono ?_); (case side1 => exact pkC (Kd.C_below HR0_1.out HB.out)); (case side2 => exact HC0_1.out); rintro e w26 ⟨rfl, hb⟩; refine ⟨_, rfl, ?_⟩; have n0_ := pkBb BK173 hb; have n1_ := pkBb BK174 hb; have n2_ := pkBb BK175 hb; have n3_ := pkS HB hb; clear BK173; clear BK174; clear BK175; clear HB; have BK173 := n0_; have BK174 := n1_; have BK175 := n2_; have HB := n3_; clear n0_ n1_ n2_ n3_; (try clear hb); (try clear hb2); (try clear hk); (try clear hi); have hnb27 := NB174_175.out; have hnc27 := NB175_174.out; have hcz28_0 : w26.cell? ⟨gb174, 0, none⟩ = some (.int .i64 a1_0) := (blk_cell BK174.out 0).trans rfl; have hcz28_1 : w26.cell? ⟨gb174, 1, none⟩ = some (.slice A1_1 l1_1.length c1_1) := (blk_cell BK174.out 1).trans rfl; have hfz28_0 := blk_frozen BK174.out 0; have hfz28_1 := blk_frozen BK174.out 1) | (go_at_call 25; (with_reducible refine (incidence_Valid.calls k a1_0 _ _ l1_1 false _ ?side1 ?side2 A11.out).mono ?_); (case side1 => exact pkC (Kd.C_below HR1_1.out HB.out)); (case side2 => exact HC1_1.out); rintro e w29 ⟨rfl, hb⟩; have n0_ := pkBb BK173 hb; have n1_ := pkBb BK174 hb; have n2_ := pkBb BK175 hb; have n3_ := pkS HB hb; clear BK173; clear BK174; clear BK175; clear HB; have BK173 := n0_; have BK174 := n1_; have BK175 := n2_; have HB := n3_; clear n0_ n1_ n2_ n3_; (try clear hb); (try clear hb2); (try clear hk); (try clear hi)))
        go_meet
        case rel => exact ⟨_, (true), (by first | rfl | (simp; done) | (simp [*]; done)), H', ⟨by first | omega | exact Nat.le_refl _⟩, ⟨pkB BK173.out⟩, ⟨pkB BK174.out⟩, ⟨pkB BK175.out⟩, ⟨pkW HB.out⟩⟩
    · replace c10 := Bool.eq_false_iff.mpr c10
      subst c10
      have H1 : (move_Check.j0 k l2 true a0_0 l0_1 a1_0 l1_1 l3_0 l3_1 l3_2 l3_3) = some r := by first | rfl | (rw [if_neg (show ¬ (false = true) by decide)] at H; exact H)
      clear H
      have H := H1
      clear H1
      have H' := Aside0.mk H
      clear H
      have hnb30 := NB173_174.out
      have hnc30 := NB174_173.out
      have hnb31 := NB173_175.out
      have hnc31 := NB175_173.out
      have hcz32_0 : w8.cell? ⟨gb173, 0, none⟩ = some (.int .i64 a0_0) := (blk_cell BK173.out 0).trans rfl
      have hcz32_1 : w8.cell? ⟨gb173, 1, none⟩ = some (.slice A0_1 l0_1.length c0_1) := (blk_cell BK173.out 1).trans rfl
      have hfz32_0 := blk_frozen BK173.out 0
      have hfz32_1 := blk_frozen BK173.out 1
      go_wp2_with (first | ((with_reducible refine gate_callee (f := 25) rfl ?_); refine goesL_ (some 11) rfl rfl Try.func25 (by kernel_rfl) rfl #[.agg #[.int .i64 a0_0, .slice A0_1 l0_1.length c0_1]] rfl (by (try simp only [List.map_toArray, List.map_cons, List.map_nil]); first | done | rfl | (simp only [List.length_drop, List.length_take]; rfl)) ?_; (with_reducible refine (incidence_Valid.calls k a0_0 _ _ l0_1 false _ ?side1 ?side2 A9.out).mono ?_); (case side1 => exact pkC (Kd.C_below HR0_1.out HB.out)); (case side2 => exact HC0_1.out); rintro e w33 ⟨rfl, hb⟩; refine ⟨_, rfl, ?_⟩; have n0_ := pkBb BK173 hb; have n1_ := pkBb BK174 hb; have n2_ := pkBb BK175 hb; have n3_ := pkS HB hb; clear BK173; clear BK174; clear BK175; clear HB; have BK173 := n0_; have BK174 := n1_; have BK175 := n2_; have HB := n3_; clear n0_ n1_ n2_ n3_; (try clear hb); (try clear hb2); (try clear hk); (try clear hi)))
      go_meet
      case rel => exact ⟨_, (true), (by first | rfl | (simp; done) | (simp [*]; done)), H', ⟨by first | omega | exact Nat.le_refl _⟩, ⟨pkB BK173.out⟩, ⟨pkB BK174.out⟩, ⟨pkB BK175.out⟩, ⟨pkW HB.out⟩⟩
  case rest =>
    clear HC5
    try clear c1
    try clear c2
    try clear p2
    try clear c3
    try clear c10
    try clear c12
    try clear c14
    try clear c15
    try clear c18
    try clear c23
    try clear c24
    try clear c25
    try clear c27
    try clear c30
    try clear c31
    try clear hcz16_0
    try clear hcz16_1
    try clear hcz19_0
    try clear hcz19_1
    try clear hcz21_0
    try clear hcz21_1
    try clear hcz25_0
    try clear hcz25_1
    try clear hcz28_0
    try clear hcz28_1
    try clear hcz32_0
    try clear hcz32_1
    try clear hfz16_0
    try clear hfz16_1
    try clear hfz19_0
    try clear hfz19_1
    try clear hfz21_0
    try clear hfz21_1
    try clear hfz25_0
    try clear hfz25_1
    try clear hfz28_0
    try clear hfz28_1
    try clear hfz32_0
    try clear hfz32_1
    obtain ⟨kq, x25_4, rfl, HA, HJ4, BK173, BK174, BK175, HB⟩ := hcut
    cases kq with
    | zero => exact absurd HA.out (by simp [move_Check.j0])
    | succ kj4 =>
      have H := HA.out
      clear HA
      simp only [move_Check.j0] at H
      by_cases c34 : x25_4 = true
      · subst c34
        have H1 : (some 1) = some r := by first | rfl | (rw [if_pos rfl] at H; exact H)
        clear H
        have H := H1
        clear H1
        obtain rfl := Option.some.inj H
        go_wp2
        go_ret
        exact ⟨by first | rfl | (simp [errW_none, errW_some] <;> rfl) | (simp [*, errW_none, errW_some] <;> rfl), pkW HB.out⟩
      · replace c34 := Bool.eq_false_iff.mpr c34
        subst c34
        have H1 : ((embed_Check.f kj4 a0_0 l0_1 a1_0 l1_1 l3_0 l3_1).bind fun t179 => (if t179 = 0 then ((move_completed.f a1_0 l1_1 l3_0 l3_1 l2).bind fun bt180 => ((slices_Equal_int_int.f kj4 l3_2 bt180.2.2.1).bind fun t193 => (if t193 = true then ((slices_Equal_int_int.f kj4 l3_3 bt180.2.2.2).bind fun t194 => (if t194 = true then (some 0) else (some 430))) else (some 430)))) else (some 430))) = some r := by first | rfl | (rw [if_neg (show ¬ (false = true) by decide)] at H; exact H)
        clear H
        have H := H1
        clear H1
        replace H := Option.bind_eq_some_iff.mp H
        obtain ⟨t179, A350, H⟩ := H
        replace H : (if t179 = 0 then ((move_completed.f a1_0 l1_1 l3_0 l3_1 l2).bind fun bt180 => ((slices_Equal_int_int.f kj4 l3_2 bt180.2.2.1).bind fun t193 => (if t193 = true then ((slices_Equal_int_int.f kj4 l3_3 bt180.2.2.2).bind fun t194 => (if t194 = true then (some 0) else (some 430))) else (some 430)))) else (some 430)) = some r := H
        have A35 := Aside0.mk A350
        clear A350
        by_cases c36 : t179 = 0
        · rw [if_pos c36] at H
          have c36b0 : (t179 == 0) = true := beq_iff_eq.mpr c36
          have c36b1 : (t179 != 0) = false := bne_eq_false_iff_eq.mpr c36
          clear c36
          replace H := Option.bind_eq_some_iff.mp H
          obtain ⟨⟨t180, t183, t186, t189⟩, A370, H⟩ := H
          replace H : ((slices_Equal_int_int.f kj4 l3_2 t186).bind fun t193 => (if t193 = true then ((slices_Equal_int_int.f kj4 l3_3 t189).bind fun t194 => (if t194 = true then (some 0) else (some 430))) else (some 430))) = some r := H
          have A37 := Aside0.mk A370
          clear A370
          replace H := Option.bind_eq_some_iff.mp H
          obtain ⟨t193, A380, H⟩ := H
          replace H : (if t193 = true then ((slices_Equal_int_int.f kj4 l3_3 t189).bind fun t194 => (if t194 = true then (some 0) else (some 430))) else (some 430)) = some r := H
          have A38 := Aside0.mk A380
          clear A380
          by_cases c39 : t193 = true
          · subst c39
            have H1 : ((slices_Equal_int_int.f kj4 l3_3 t189).bind fun t194 => (if t194 = true then (some 0) else (some 430))) = some r := by first | rfl | (rw [if_pos rfl] at H; exact H)
            clear H
            have H := H1
            clear H1
            replace H := Option.bind_eq_some_iff.mp H
            obtain ⟨t194, A400, H⟩ := H
            replace H : (if t194 = true then (some 0) else (some 430)) = some r := H
            have A40 := Aside0.mk A400
            clear A400
            by_cases c41 : t194 = true
            · subst c41
              have H1 : (some 0) = some r := by first | rfl | (rw [if_pos rfl] at H; exact H)
              clear H
              have H := H1
              clear H1
              obtain rfl := Option.some.inj H
              have hnb42 := NB173_174.out
              have hnc42 := NB174_173.out
              have hnb43 := NB173_175.out
              have hnc43 := NB175_173.out
              have hcz44_0 : wc.cell? ⟨gb173, 0, none⟩ = some (.int .i64 a0_0) := (blk_cell BK173.out 0).trans rfl
              have hcz44_1 : wc.cell? ⟨gb173, 1, none⟩ = some (.slice A0_1 l0_1.length c0_1) := (blk_cell BK173.out 1).trans rfl
              have hfz44_0 := blk_frozen BK173.out 0
              have hfz44_1 := blk_frozen BK173.out 1
              have hnb45 := NB174_175.out
              have hnc45 := NB175_174.out
              have hcz46_0 : wc.cell? ⟨gb174, 0, none⟩ = some (.int .i64 a1_0) := (blk_cell BK174.out 0).trans rfl
              have hcz46_1 : wc.cell? ⟨gb174, 1, none⟩ = some (.slice A1_1 l1_1.length c1_1) := (blk_cell BK174.out 1).trans rfl
              have hfz46_0 := blk_frozen BK174.out 0
              have hfz46_1 := blk_frozen BK174.out 1
              have hcz47_0 : wc.cell? ⟨gb175, 0, none⟩ = some (.slice A3_0 l3_0.length c3_0) := (blk_cell BK175.out 0).trans rfl
              have hcz47_1 : wc.cell? ⟨gb175, 1, none⟩ = some (.slice A3_1 l3_1.length c3_1) := (blk_cell BK175.out 1).trans rfl
              have hcz47_2 : wc.cell? ⟨gb175, 2, none⟩ = some (.slice A3_2 l3_2.length c3_2) := (blk_cell BK175.out 2).trans rfl
              have hcz47_3 : wc.cell? ⟨gb175, 3, none⟩ = some (.slice A3_3 l3_3.length c3_3) := (blk_cell BK175.out 3).trans rfl
              have hfz47_0 := blk_frozen BK175.out 0
              have hfz47_1 := blk_frozen BK175.out 1
              have hfz47_2 := blk_frozen BK175.out 2
              have hfz47_3 := blk_frozen BK175.out 3
              go_wp2_with (first | ((with_reducible refine gate_callee (f := 43) rfl ?_); refine goesL_ (some 30) rfl rfl Try.func43 (by kernel_rfl) rfl #[.agg #[.int .i64 a0_0, .slice A0_1 l0_1.length c0_1], .agg #[.int .i64 a1_0, .slice A1_1 l1_1.length c1_1], .agg #[.slice A3_0 l3_0.length c3_0, .slice A3_1 l3_1.length c3_1]] rfl (by (try simp only [List.map_toArray, List.map_cons, List.map_nil]); first | done | rfl | (simp only [List.length_drop, List.length_take]; rfl)) ?_; (with_reducible refine (embed_Check.calls kj4 a0_0 _ _ l0_1 a1_0 _ _ l1_1 _ _ l3_0 _ _ l3_1 t179 _ ?side1 ?side2 ?side3 ?side4 ?side5 ?side6 ?side7 ?side8 A35.out).mono ?_); (case side1 => exact pkC (Kd.C_below HR0_1.out HB.out)); (case side2 => exact HC0_1.out); (case side3 => exact pkC (Kd.C_below HR1_1.out HB.out)); (case side4 => exact HC1_1.out); (case side5 => exact pkC (Kd.C_below HR3_0.out HB.out)); (case side6 => exact HC3_0.out); (case side7 => exact pkC (Kd.C_below HR3_1.out HB.out)); (case side8 => exact HC3_1.out); rintro e w48 ⟨rfl, hb⟩; refine ⟨_, rfl, ?_⟩; have n0_ := pkBb BK173 hb; have n1_ := pkBb BK174 hb; have n2_ := pkBb BK175 hb; have n3_ := pkS HB hb; clear BK173; clear BK174; clear BK175; clear HB; have BK173 := n0_; have BK174 := n1_; have BK175 := n2_; have HB := n3_; clear n0_ n1_ n2_ n3_; (try clear hb); (try clear hb2); (try clear hk); (try clear hi); have hcz49_0 : w48.cell? ⟨gb174, 0, none⟩ = some (.int .i64 a1_0) := (blk_cell BK174.out 0).trans rfl; have hcz49_1 : w48.cell? ⟨gb174, 1, none⟩ = some (.slice A1_1 l1_1.length c1_1) := (blk_cell BK174.out 1).trans rfl; have hfz49_0 := blk_frozen BK174.out 0; have hfz49_1 := blk_frozen BK174.out 1; have hcz50_0 : w48.cell? ⟨gb175, 0, none⟩ = some (.slice A3_0 l3_0.length c3_0) := (blk_cell BK175.out 0).trans rfl; have hcz50_1 : w48.cell? ⟨gb175, 1, none⟩ = some (.slice A3_1 l3_1.length c3_1) := (blk_cell BK175.out 1).trans rfl; have hcz50_2 : w48.cell? ⟨gb175, 2, none⟩ = some (.slice A3_2 l3_2.length c3_2) := (blk_cell BK175.out 2).trans rfl; have hcz50_3 : w48.cell? ⟨gb175, 3, none⟩ = some (.slice A3_3 l3_3.length c3_3) := (blk_cell BK175.out 3).trans rfl; have hfz50_0 := blk_frozen BK175.out 0; have hfz50_1 := blk_frozen BK175.out 1; have hfz50_2 := blk_frozen BK175.out 2; have hfz50_3 := blk_frozen BK175.out 3) | ((with_reducible refine gate_callee (f := 27) rfl ?_); refine goesL_ (some 36) rfl rfl Try.func27 (by kernel_rfl) rfl #[.agg #[.int .i64 a1_0, .slice A1_1 l1_1.length c1_1], .agg #[.slice A3_0 l3_0.length c3_0, .slice A3_1 l3_1.length c3_1], .slice A2 l2.length c2] rfl (by (try simp only [List.map_toArray, List.map_cons, List.map_nil]); first | done | rfl | (simp only [List.length_drop, List.length_take]; rfl)) ?_; (with_reducible refine (move_completed.calls a1_0 _ _ l1_1 _ _ l3_0 _ _ l3_1 _ _ l2 t180 t183 t186 t189 _ ?side1 ?side2 ?side3 ?side4 ?side5 ?side6 ?side7 ?side8 A37.out).mono ?_); (case side1 => exact pkC (Kd.C_below HR1_1.out HB.out)); (case side2 => exact HC1_1.out); (case side3 => exact pkC (Kd.C_below HR3_0.out HB.out)); (case side4 => exact HC3_0.out); (case side5 => exact pkC (Kd.C_below HR3_1.out HB.out)); (case side6 => exact HC3_1.out); (case side7 => exact pkC (Kd.C_below HR2.out HB.out)); (case side8 => exact HC2.out); rintro e w51 ⟨v181, v184, v187, v190, rfl, ho0, ho1, ho2, ho3, hb⟩; refine ⟨_, rfl, ?_⟩; have n0_ := Aside0.mk (Kd.R_lower ho0 (pkZ HB)); have n1_ := Aside0.mk (Kd.R_lower ho1 (pkZ HB)); have n2_ := Aside0.mk (Kd.R_lower ho2 (pkZ HB)); have n3_ := Aside0.mk (Kd.R_lower ho3 (pkZ HB)); have n4_ := pkBb BK173 hb; have n5_ := pkBb BK174 hb; have n6_ := pkBb BK175 hb; have n7_ := pkS HB hb; clear BK173; clear BK174; clear BK175; clear HB; have HO182 := n0_; have HO185 := n1_; have HO188 := n2_; have HO191 := n3_; have BK173 := n4_; have BK174 := n5_; have BK175 := n6_; have HB := n7_; clear n0_ n1_ n2_ n3_ n4_ n5_ n6_ n7_; (try clear hb); (try clear hb2); (try clear hk); (try clear hi); (try clear ho0); (try clear ho1); (try clear ho2); (try clear ho3)) | ((with_reducible refine gate_dst (N := 9) rfl ?_); (try (refine gate_guard (by rfl) ?_; dsimp only)); refine box_event ?hg (N := 9) ?hd (cs := #[.slice none 0 0, .slice none 0 0, .slice none 0 0, .slice none 0 0]) (t := 40) ?hr ?_; (case hd => rfl); (case hg => rfl); (case hr => first | (go_simp; done) | (go_simp; rfl)); intro gb192 hg w52 hbox hb; have n0_ := pkRb HO182 hb; have n1_ := pkRb HO185 hb; have n2_ := pkRb HO188 hb; have n3_ := pkRb HO191 hb; have n4_ := pkBb BK173 hb; have n5_ := pkBb BK174 hb; have n6_ := pkBb BK175 hb; have n7_ := pkS HB hb; have n8_ := Aside0.mk (hbox); have n9_ := pkG hg HB; have n10_ := pkG hg HB; have n11_ := pkN hg BK173; have n12_ := pkM hg BK173; have n13_ := pkN hg BK174; have n14_ := pkM hg BK174; have n15_ := pkN hg BK175; have n16_ := pkM hg BK175; clear HO182; clear HO185; clear HO188; clear HO191; clear BK173; clear BK174; clear BK175; clear HB; have HO182 := n0_; have HO185 := n1_; have HO188 := n2_; have HO191 := n3_; have BK173 := n4_; have BK174 := n5_; have BK175 := n6_; have HB := n7_; have BK192 := n8_; have GW192 := n9_; have GE192 := n10_; have NB173_192 := n11_; have NB192_173 := n12_; have NB174_192 := n13_; have NB192_174 := n14_; have NB175_192 := n15_; have NB192_175 := n16_; clear n0_ n1_ n2_ n3_ n4_ n5_ n6_ n7_ n8_ n9_ n10_ n11_ n12_ n13_ n14_ n15_ n16_; clear hb hbox hg; obtain ⟨Ao53, co53, eo53⟩ := Kd.R_slice HO182.out; subst eo53; have hnb54 := NB192_173.out; have hnc54 := NB173_192.out; have hnb55 := NB192_174.out; have hnc55 := NB174_192.out; have hnb56 := NB192_175.out; have hnc56 := NB175_192.out; have hcz57_0 : w52.cell? ⟨gb192, 0, none⟩ = some (.slice none 0 0) := (blk_cell BK192.out 0).trans rfl; have hcz57_1 : w52.cell? ⟨gb192, 1, none⟩ = some (.slice none 0 0) := (blk_cell BK192.out 1).trans rfl; have hcz57_2 : w52.cell? ⟨gb192, 2, none⟩ = some (.slice none 0 0) := (blk_cell BK192.out 2).trans rfl; have hcz57_3 : w52.cell? ⟨gb192, 3, none⟩ = some (.slice none 0 0) := (blk_cell BK192.out 3).trans rfl; have hfz57_0 := blk_frozen BK192.out 0; have hfz57_1 := blk_frozen BK192.out 1; have hfz57_2 := blk_frozen BK192.out 2; have hfz57_3 := blk_frozen BK192.out 3; obtain ⟨Ao58, co58, eo58⟩ := Kd.R_slice HO185.out; subst eo58; obtain ⟨Ao59, co59, eo59⟩ := Kd.R_slice HO188.out; subst eo59; obtain ⟨Ao60, co60, eo60⟩ := Kd.R_slice HO191.out; subst eo60; have hcz61_0 : w52.cell? ⟨gb175, 0, none⟩ = some (.slice A3_0 l3_0.length c3_0) := (blk_cell BK175.out 0).trans rfl; have hcz61_1 : w52.cell? ⟨gb175, 1, none⟩ = some (.slice A3_1 l3_1.length c3_1) := (blk_cell BK175.out 1).trans rfl; have hcz61_2 : w52.cell? ⟨gb175, 2, none⟩ = some (.slice A3_2 l3_2.length c3_2) := (blk_cell BK175.out 2).trans rfl; have hcz61_3 : w52.cell? ⟨gb175, 3, none⟩ = some (.slice A3_3 l3_3.length c3_3) := (blk_cell BK175.out 3).trans rfl; have hfz61_0 := blk_frozen BK175.out 0; have hfz61_1 := blk_frozen BK175.out 1; have hfz61_2 := blk_frozen BK175.out 2; have hfz61_3 := blk_frozen BK175.out 3) | ((with_reducible refine gate_callee (f := 44) rfl ?_); refine goesL_ (some 41) rfl rfl Try.func44 (by kernel_rfl) rfl #[.slice A3_2 l3_2.length c3_2, .slice Ao59 t186.length co59] rfl (by (try simp only [List.map_toArray, List.map_cons, List.map_nil]); first | done | rfl | (simp only [List.length_drop, List.length_take]; rfl)) ?_; (with_reducible refine (slices_Equal_int_int.calls kj4 _ _ l3_2 _ _ t186 true _ ?side1 ?side2 ?side3 ?side4 A38.out).mono ?_); (case side1 => exact Kd.C_below HR3_2.out (pkW HB.out)); (case side2 => exact HC3_2.out); (case side3 => refine (Kd.R_reads' (e := 3) (base := w.heap.size) (ok := fun k_ => (some k_ ≠ (.slice Ao53 t180.length co53 : Value).ownBlock ∧ (some k_ ≠ (.slice Ao58 t183.length co58 : Value).ownBlock ∧ some k_ ≠ (.slice Ao60 t189.length co60 : Value).ownBlock))) (n := t186.length) (c := co59) ?_).2.2; exact (by (with_reducible repeat (first | apply Kd.R_alloc | apply Kd.R_drewN | apply Kd.R_drew)); exact (Kd.R_mono (Kd.R_far (p := ⟨gb192, 3, none⟩) (Kd.R_far (p := ⟨gb192, 2, none⟩) (Kd.R_far (p := ⟨gb192, 1, none⟩) (Kd.R_far (p := ⟨gb192, 0, none⟩) (Kd.R_types HO188.out BK192.out (by decide)) (fun _ hk => hk.2) (.slice Ao53 t180.length co53)) (fun _ hk => hk.2) (.slice Ao58 t183.length co58)) (fun _ hk => hk.2) (.slice Ao59 t186.length co59)) (fun _ hk => hk.2) (.slice Ao60 t189.length co60)) (fun _ h_ => h_.1)))); (case side4 => exact (Kd.R_reads' HO188.out).2.1); rintro e w' ⟨rfl, ⟨nd, rfl⟩⟩; refine ⟨_, rfl, ?_⟩) | (go_at_call 44; (with_reducible refine (slices_Equal_int_int.calls kj4 _ _ l3_3 _ _ t189 true _ ?side1 ?side2 ?side3 ?side4 A40.out).mono ?_); (case side1 => exact Kd.C_below HR3_3.out (pkW HB.out)); (case side2 => exact HC3_3.out); (case side3 => refine (Kd.R_reads' (e := 3) (base := w.heap.size) (ok := fun k_ => (some k_ ≠ (.slice Ao53 t180.length co53 : Value).ownBlock ∧ (some k_ ≠ (.slice Ao58 t183.length co58 : Value).ownBlock ∧ some k_ ≠ (.slice Ao59 t186.length co59 : Value).ownBlock))) (n := t189.length) (c := co60) ?_).2.2; exact (by (with_reducible repeat (first | apply Kd.R_alloc | apply Kd.R_drewN | apply Kd.R_drew)); exact (Kd.R_mono (Kd.R_far (p := ⟨gb192, 3, none⟩) (Kd.R_far (p := ⟨gb192, 2, none⟩) (Kd.R_far (p := ⟨gb192, 1, none⟩) (Kd.R_far (p := ⟨gb192, 0, none⟩) (Kd.R_types HO191.out BK192.out (by decide)) (fun _ hk => hk.2) (.slice Ao53 t180.length co53)) (fun _ hk => hk.2) (.slice Ao58 t183.length co58)) (fun _ hk => hk.2) (.slice Ao59 t186.length co59)) (fun _ hk => hk.2) (.slice Ao60 t189.length co60)) (fun _ h_ => h_.1)))); (case side4 => exact (Kd.R_reads' HO191.out).2.1); rintro e w' ⟨rfl, ⟨nd, rfl⟩⟩))
              go_ret
              exact ⟨by first | rfl | (simp [errW_none, errW_some] <;> rfl) | (simp [*, errW_none, errW_some] <;> rfl), pkW HB.out⟩
            · replace c41 := Bool.eq_false_iff.mpr c41
              subst c41
              have H1 : (some 430) = some r := by first | rfl | (rw [if_neg (show ¬ (false = true) by decide)] at H; exact H)
              clear H
              have H := H1
              clear H1
              obtain rfl := Option.some.inj H
              have hnb62 := NB173_174.out
              have hnc62 := NB174_173.out
              have hnb63 := NB173_175.out
              have hnc63 := NB175_173.out
              have hcz64_0 : wc.cell? ⟨gb173, 0, none⟩ = some (.int .i64 a0_0) := (blk_cell BK173.out 0).trans rfl
              have hcz64_1 : wc.cell? ⟨gb173, 1, none⟩ = some (.slice A0_1 l0_1.length c0_1) := (blk_cell BK173.out 1).trans rfl
              have hfz64_0 := blk_frozen BK173.out 0
              have hfz64_1 := blk_frozen BK173.out 1
              have hnb65 := NB174_175.out
              have hnc65 := NB175_174.out
              have hcz66_0 : wc.cell? ⟨gb174, 0, none⟩ = some (.int .i64 a1_0) := (blk_cell BK174.out 0).trans rfl
              have hcz66_1 : wc.cell? ⟨gb174, 1, none⟩ = some (.slice A1_1 l1_1.length c1_1) := (blk_cell BK174.out 1).trans rfl
              have hfz66_0 := blk_frozen BK174.out 0
              have hfz66_1 := blk_frozen BK174.out 1
              have hcz67_0 : wc.cell? ⟨gb175, 0, none⟩ = some (.slice A3_0 l3_0.length c3_0) := (blk_cell BK175.out 0).trans rfl
              have hcz67_1 : wc.cell? ⟨gb175, 1, none⟩ = some (.slice A3_1 l3_1.length c3_1) := (blk_cell BK175.out 1).trans rfl
              have hcz67_2 : wc.cell? ⟨gb175, 2, none⟩ = some (.slice A3_2 l3_2.length c3_2) := (blk_cell BK175.out 2).trans rfl
              have hcz67_3 : wc.cell? ⟨gb175, 3, none⟩ = some (.slice A3_3 l3_3.length c3_3) := (blk_cell BK175.out 3).trans rfl
              have hfz67_0 := blk_frozen BK175.out 0
              have hfz67_1 := blk_frozen BK175.out 1
              have hfz67_2 := blk_frozen BK175.out 2
              have hfz67_3 := blk_frozen BK175.out 3
              go_wp2_with (first | ((with_reducible refine gate_callee (f := 43) rfl ?_); refine goesL_ (some 30) rfl rfl Try.func43 (by kernel_rfl) rfl #[.agg #[.int .i64 a0_0, .slice A0_1 l0_1.length c0_1], .agg #[.int .i64 a1_0, .slice A1_1 l1_1.length c1_1], .agg #[.slice A3_0 l3_0.length c3_0, .slice A3_1 l3_1.length c3_1]] rfl (by (try simp only [List.map_toArray, List.map_cons, List.map_nil]); first | done | rfl | (simp only [List.length_drop, List.length_take]; rfl)) ?_; (with_reducible refine (embed_Check.calls kj4 a0_0 _ _ l0_1 a1_0 _ _ l1_1 _ _ l3_0 _ _ l3_1 t179 _ ?side1 ?side2 ?side3 ?side4 ?side5 ?side6 ?side7 ?side8 A35.out).mono ?_); (case side1 => exact pkC (Kd.C_below HR0_1.out HB.out)); (case side2 => exact HC0_1.out); (case side3 => exact pkC (Kd.C_below HR1_1.out HB.out)); (case side4 => exact HC1_1.out); (case side5 => exact pkC (Kd.C_below HR3_0.out HB.out)); (case side6 => exact HC3_0.out); (case side7 => exact pkC (Kd.C_below HR3_1.out HB.out)); (case side8 => exact HC3_1.out); rintro e w68 ⟨rfl, hb⟩; refine ⟨_, rfl, ?_⟩; have n0_ := pkBb BK173 hb; have n1_ := pkBb BK174 hb; have n2_ := pkBb BK175 hb; have n3_ := pkS HB hb; clear BK173; clear BK174; clear BK175; clear HB; have BK173 := n0_; have BK174 := n1_; have BK175 := n2_; have HB := n3_; clear n0_ n1_ n2_ n3_; (try clear hb); (try clear hb2); (try clear hk); (try clear hi); have hcz69_0 : w68.cell? ⟨gb174, 0, none⟩ = some (.int .i64 a1_0) := (blk_cell BK174.out 0).trans rfl; have hcz69_1 : w68.cell? ⟨gb174, 1, none⟩ = some (.slice A1_1 l1_1.length c1_1) := (blk_cell BK174.out 1).trans rfl; have hfz69_0 := blk_frozen BK174.out 0; have hfz69_1 := blk_frozen BK174.out 1; have hcz70_0 : w68.cell? ⟨gb175, 0, none⟩ = some (.slice A3_0 l3_0.length c3_0) := (blk_cell BK175.out 0).trans rfl; have hcz70_1 : w68.cell? ⟨gb175, 1, none⟩ = some (.slice A3_1 l3_1.length c3_1) := (blk_cell BK175.out 1).trans rfl; have hcz70_2 : w68.cell? ⟨gb175, 2, none⟩ = some (.slice A3_2 l3_2.length c3_2) := (blk_cell BK175.out 2).trans rfl; have hcz70_3 : w68.cell? ⟨gb175, 3, none⟩ = some (.slice A3_3 l3_3.length c3_3) := (blk_cell BK175.out 3).trans rfl; have hfz70_0 := blk_frozen BK175.out 0; have hfz70_1 := blk_frozen BK175.out 1; have hfz70_2 := blk_frozen BK175.out 2; have hfz70_3 := blk_frozen BK175.out 3) | ((with_reducible refine gate_callee (f := 27) rfl ?_); refine goesL_ (some 36) rfl rfl Try.func27 (by kernel_rfl) rfl #[.agg #[.int .i64 a1_0, .slice A1_1 l1_1.length c1_1], .agg #[.slice A3_0 l3_0.length c3_0, .slice A3_1 l3_1.length c3_1], .slice A2 l2.length c2] rfl (by (try simp only [List.map_toArray, List.map_cons, List.map_nil]); first | done | rfl | (simp only [List.length_drop, List.length_take]; rfl)) ?_; (with_reducible refine (move_completed.calls a1_0 _ _ l1_1 _ _ l3_0 _ _ l3_1 _ _ l2 t180 t183 t186 t189 _ ?side1 ?side2 ?side3 ?side4 ?side5 ?side6 ?side7 ?side8 A37.out).mono ?_); (case side1 => exact pkC (Kd.C_below HR1_1.out HB.out)); (case side2 => exact HC1_1.out); (case side3 => exact pkC (Kd.C_below HR3_0.out HB.out)); (case side4 => exact HC3_0.out); (case side5 => exact pkC (Kd.C_below HR3_1.out HB.out)); (case side6 => exact HC3_1.out); (case side7 => exact pkC (Kd.C_below HR2.out HB.out)); (case side8 => exact HC2.out); rintro e w71 ⟨v181, v184, v187, v190, rfl, ho0, ho1, ho2, ho3, hb⟩; refine ⟨_, rfl, ?_⟩; have n0_ := Aside0.mk (Kd.R_lower ho0 (pkZ HB)); have n1_ := Aside0.mk (Kd.R_lower ho1 (pkZ HB)); have n2_ := Aside0.mk (Kd.R_lower ho2 (pkZ HB)); have n3_ := Aside0.mk (Kd.R_lower ho3 (pkZ HB)); have n4_ := pkBb BK173 hb; have n5_ := pkBb BK174 hb; have n6_ := pkBb BK175 hb; have n7_ := pkS HB hb; clear BK173; clear BK174; clear BK175; clear HB; have HO182 := n0_; have HO185 := n1_; have HO188 := n2_; have HO191 := n3_; have BK173 := n4_; have BK174 := n5_; have BK175 := n6_; have HB := n7_; clear n0_ n1_ n2_ n3_ n4_ n5_ n6_ n7_; (try clear hb); (try clear hb2); (try clear hk); (try clear hi); (try clear ho0); (try clear ho1); (try clear ho2); (try clear ho3)) | ((with_reducible refine gate_dst (N := 9) rfl ?_); (try (refine gate_guard (by rfl) ?_; dsimp only)); refine box_event ?hg (N := 9) ?hd (cs := #[.slice none 0 0, .slice none 0 0, .slice none 0 0, .slice none 0 0]) (t := 40) ?hr ?_; (case hd => rfl); (case hg => rfl); (case hr => first | (go_simp; done) | (go_simp; rfl)); intro gb192 hg w72 hbox hb; have n0_ := pkRb HO182 hb; have n1_ := pkRb HO185 hb; have n2_ := pkRb HO188 hb; have n3_ := pkRb HO191 hb; have n4_ := pkBb BK173 hb; have n5_ := pkBb BK174 hb; have n6_ := pkBb BK175 hb; have n7_ := pkS HB hb; have n8_ := Aside0.mk (hbox); have n9_ := pkG hg HB; have n10_ := pkG hg HB; have n11_ := pkN hg BK173; have n12_ := pkM hg BK173; have n13_ := pkN hg BK174; have n14_ := pkM hg BK174; have n15_ := pkN hg BK175; have n16_ := pkM hg BK175; clear HO182; clear HO185; clear HO188; clear HO191; clear BK173; clear BK174; clear BK175; clear HB; have HO182 := n0_; have HO185 := n1_; have HO188 := n2_; have HO191 := n3_; have BK173 := n4_; have BK174 := n5_; have BK175 := n6_; have HB := n7_; have BK192 := n8_; have GW192 := n9_; have GE192 := n10_; have NB173_192 := n11_; have NB192_173 := n12_; have NB174_192 := n13_; have NB192_174 := n14_; have NB175_192 := n15_; have NB192_175 := n16_; clear n0_ n1_ n2_ n3_ n4_ n5_ n6_ n7_ n8_ n9_ n10_ n11_ n12_ n13_ n14_ n15_ n16_; clear hb hbox hg; obtain ⟨Ao73, co73, eo73⟩ := Kd.R_slice HO182.out; subst eo73; have hnb74 := NB192_173.out; have hnc74 := NB173_192.out; have hnb75 := NB192_174.out; have hnc75 := NB174_192.out; have hnb76 := NB192_175.out; have hnc76 := NB175_192.out; have hcz77_0 : w72.cell? ⟨gb192, 0, none⟩ = some (.slice none 0 0) := (blk_cell BK192.out 0).trans rfl; have hcz77_1 : w72.cell? ⟨gb192, 1, none⟩ = some (.slice none 0 0) := (blk_cell BK192.out 1).trans rfl; have hcz77_2 : w72.cell? ⟨gb192, 2, none⟩ = some (.slice none 0 0) := (blk_cell BK192.out 2).trans rfl; have hcz77_3 : w72.cell? ⟨gb192, 3, none⟩ = some (.slice none 0 0) := (blk_cell BK192.out 3).trans rfl; have hfz77_0 := blk_frozen BK192.out 0; have hfz77_1 := blk_frozen BK192.out 1; have hfz77_2 := blk_frozen BK192.out 2; have hfz77_3 := blk_frozen BK192.out 3; obtain ⟨Ao78, co78, eo78⟩ := Kd.R_slice HO185.out; subst eo78; obtain ⟨Ao79, co79, eo79⟩ := Kd.R_slice HO188.out; subst eo79; obtain ⟨Ao80, co80, eo80⟩ := Kd.R_slice HO191.out; subst eo80; have hcz81_0 : w72.cell? ⟨gb175, 0, none⟩ = some (.slice A3_0 l3_0.length c3_0) := (blk_cell BK175.out 0).trans rfl; have hcz81_1 : w72.cell? ⟨gb175, 1, none⟩ = some (.slice A3_1 l3_1.length c3_1) := (blk_cell BK175.out 1).trans rfl; have hcz81_2 : w72.cell? ⟨gb175, 2, none⟩ = some (.slice A3_2 l3_2.length c3_2) := (blk_cell BK175.out 2).trans rfl; have hcz81_3 : w72.cell? ⟨gb175, 3, none⟩ = some (.slice A3_3 l3_3.length c3_3) := (blk_cell BK175.out 3).trans rfl; have hfz81_0 := blk_frozen BK175.out 0; have hfz81_1 := blk_frozen BK175.out 1; have hfz81_2 := blk_frozen BK175.out 2; have hfz81_3 := blk_frozen BK175.out 3) | ((with_reducible refine gate_callee (f := 44) rfl ?_); refine goesL_ (some 41) rfl rfl Try.func44 (by kernel_rfl) rfl #[.slice A3_2 l3_2.length c3_2, .slice Ao79 t186.length co79] rfl (by (try simp only [List.map_toArray, List.map_cons, List.map_nil]); first | done | rfl | (simp only [List.length_drop, List.length_take]; rfl)) ?_; (with_reducible refine (slices_Equal_int_int.calls kj4 _ _ l3_2 _ _ t186 true _ ?side1 ?side2 ?side3 ?side4 A38.out).mono ?_); (case side1 => exact Kd.C_below HR3_2.out (pkW HB.out)); (case side2 => exact HC3_2.out); (case side3 => refine (Kd.R_reads' (e := 3) (base := w.heap.size) (ok := fun k_ => (some k_ ≠ (.slice Ao73 t180.length co73 : Value).ownBlock ∧ (some k_ ≠ (.slice Ao78 t183.length co78 : Value).ownBlock ∧ some k_ ≠ (.slice Ao80 t189.length co80 : Value).ownBlock))) (n := t186.length) (c := co79) ?_).2.2; exact (by (with_reducible repeat (first | apply Kd.R_alloc | apply Kd.R_drewN | apply Kd.R_drew)); exact (Kd.R_mono (Kd.R_far (p := ⟨gb192, 3, none⟩) (Kd.R_far (p := ⟨gb192, 2, none⟩) (Kd.R_far (p := ⟨gb192, 1, none⟩) (Kd.R_far (p := ⟨gb192, 0, none⟩) (Kd.R_types HO188.out BK192.out (by decide)) (fun _ hk => hk.2) (.slice Ao73 t180.length co73)) (fun _ hk => hk.2) (.slice Ao78 t183.length co78)) (fun _ hk => hk.2) (.slice Ao79 t186.length co79)) (fun _ hk => hk.2) (.slice Ao80 t189.length co80)) (fun _ h_ => h_.1)))); (case side4 => exact (Kd.R_reads' HO188.out).2.1); rintro e w' ⟨rfl, ⟨nd, rfl⟩⟩; refine ⟨_, rfl, ?_⟩) | (go_at_call 44; (with_reducible refine (slices_Equal_int_int.calls kj4 _ _ l3_3 _ _ t189 false _ ?side1 ?side2 ?side3 ?side4 A40.out).mono ?_); (case side1 => exact Kd.C_below HR3_3.out (pkW HB.out)); (case side2 => exact HC3_3.out); (case side3 => refine (Kd.R_reads' (e := 3) (base := w.heap.size) (ok := fun k_ => (some k_ ≠ (.slice Ao73 t180.length co73 : Value).ownBlock ∧ (some k_ ≠ (.slice Ao78 t183.length co78 : Value).ownBlock ∧ some k_ ≠ (.slice Ao79 t186.length co79 : Value).ownBlock))) (n := t189.length) (c := co80) ?_).2.2; exact (by (with_reducible repeat (first | apply Kd.R_alloc | apply Kd.R_drewN | apply Kd.R_drew)); exact (Kd.R_mono (Kd.R_far (p := ⟨gb192, 3, none⟩) (Kd.R_far (p := ⟨gb192, 2, none⟩) (Kd.R_far (p := ⟨gb192, 1, none⟩) (Kd.R_far (p := ⟨gb192, 0, none⟩) (Kd.R_types HO191.out BK192.out (by decide)) (fun _ hk => hk.2) (.slice Ao73 t180.length co73)) (fun _ hk => hk.2) (.slice Ao78 t183.length co78)) (fun _ hk => hk.2) (.slice Ao79 t186.length co79)) (fun _ hk => hk.2) (.slice Ao80 t189.length co80)) (fun _ h_ => h_.1)))); (case side4 => exact (Kd.R_reads' HO191.out).2.1); rintro e w' ⟨rfl, ⟨nd, rfl⟩⟩))
              go_ret
              exact ⟨by first | rfl | (simp [errW_none, errW_some] <;> rfl) | (simp [*, errW_none, errW_some] <;> rfl), pkW HB.out⟩
          · replace c39 := Bool.eq_false_iff.mpr c39
            subst c39
            have H1 : (some 430) = some r := by first | rfl | (rw [if_neg (show ¬ (false = true) by decide)] at H; exact H)
            clear H
            have H := H1
            clear H1
            obtain rfl := Option.some.inj H
            have hnb82 := NB173_174.out
            have hnc82 := NB174_173.out
            have hnb83 := NB173_175.out
            have hnc83 := NB175_173.out
            have hcz84_0 : wc.cell? ⟨gb173, 0, none⟩ = some (.int .i64 a0_0) := (blk_cell BK173.out 0).trans rfl
            have hcz84_1 : wc.cell? ⟨gb173, 1, none⟩ = some (.slice A0_1 l0_1.length c0_1) := (blk_cell BK173.out 1).trans rfl
            have hfz84_0 := blk_frozen BK173.out 0
            have hfz84_1 := blk_frozen BK173.out 1
            have hnb85 := NB174_175.out
            have hnc85 := NB175_174.out
            have hcz86_0 : wc.cell? ⟨gb174, 0, none⟩ = some (.int .i64 a1_0) := (blk_cell BK174.out 0).trans rfl
            have hcz86_1 : wc.cell? ⟨gb174, 1, none⟩ = some (.slice A1_1 l1_1.length c1_1) := (blk_cell BK174.out 1).trans rfl
            have hfz86_0 := blk_frozen BK174.out 0
            have hfz86_1 := blk_frozen BK174.out 1
            have hcz87_0 : wc.cell? ⟨gb175, 0, none⟩ = some (.slice A3_0 l3_0.length c3_0) := (blk_cell BK175.out 0).trans rfl
            have hcz87_1 : wc.cell? ⟨gb175, 1, none⟩ = some (.slice A3_1 l3_1.length c3_1) := (blk_cell BK175.out 1).trans rfl
            have hcz87_2 : wc.cell? ⟨gb175, 2, none⟩ = some (.slice A3_2 l3_2.length c3_2) := (blk_cell BK175.out 2).trans rfl
            have hcz87_3 : wc.cell? ⟨gb175, 3, none⟩ = some (.slice A3_3 l3_3.length c3_3) := (blk_cell BK175.out 3).trans rfl
            have hfz87_0 := blk_frozen BK175.out 0
            have hfz87_1 := blk_frozen BK175.out 1
            have hfz87_2 := blk_frozen BK175.out 2
            have hfz87_3 := blk_frozen BK175.out 3
            go_wp2_with (first | ((with_reducible refine gate_callee (f := 43) rfl ?_); refine goesL_ (some 30) rfl rfl Try.func43 (by kernel_rfl) rfl #[.agg #[.int .i64 a0_0, .slice A0_1 l0_1.length c0_1], .agg #[.int .i64 a1_0, .slice A1_1 l1_1.length c1_1], .agg #[.slice A3_0 l3_0.length c3_0, .slice A3_1 l3_1.length c3_1]] rfl (by (try simp only [List.map_toArray, List.map_cons, List.map_nil]); first | done | rfl | (simp only [List.length_drop, List.length_take]; rfl)) ?_; (with_reducible refine (embed_Check.calls kj4 a0_0 _ _ l0_1 a1_0 _ _ l1_1 _ _ l3_0 _ _ l3_1 t179 _ ?side1 ?side2 ?side3 ?side4 ?side5 ?side6 ?side7 ?side8 A35.out).mono ?_); (case side1 => exact pkC (Kd.C_below HR0_1.out HB.out)); (case side2 => exact HC0_1.out); (case side3 => exact pkC (Kd.C_below HR1_1.out HB.out)); (case side4 => exact HC1_1.out); (case side5 => exact pkC (Kd.C_below HR3_0.out HB.out)); (case side6 => exact HC3_0.out); (case side7 => exact pkC (Kd.C_below HR3_1.out HB.out)); (case side8 => exact HC3_1.out); rintro e w88 ⟨rfl, hb⟩; refine ⟨_, rfl, ?_⟩; have n0_ := pkBb BK173 hb; have n1_ := pkBb BK174 hb; have n2_ := pkBb BK175 hb; have n3_ := pkS HB hb; clear BK173; clear BK174; clear BK175; clear HB; have BK173 := n0_; have BK174 := n1_; have BK175 := n2_; have HB := n3_; clear n0_ n1_ n2_ n3_; (try clear hb); (try clear hb2); (try clear hk); (try clear hi); have hcz89_0 : w88.cell? ⟨gb174, 0, none⟩ = some (.int .i64 a1_0) := (blk_cell BK174.out 0).trans rfl; have hcz89_1 : w88.cell? ⟨gb174, 1, none⟩ = some (.slice A1_1 l1_1.length c1_1) := (blk_cell BK174.out 1).trans rfl; have hfz89_0 := blk_frozen BK174.out 0; have hfz89_1 := blk_frozen BK174.out 1; have hcz90_0 : w88.cell? ⟨gb175, 0, none⟩ = some (.slice A3_0 l3_0.length c3_0) := (blk_cell BK175.out 0).trans rfl; have hcz90_1 : w88.cell? ⟨gb175, 1, none⟩ = some (.slice A3_1 l3_1.length c3_1) := (blk_cell BK175.out 1).trans rfl; have hcz90_2 : w88.cell? ⟨gb175, 2, none⟩ = some (.slice A3_2 l3_2.length c3_2) := (blk_cell BK175.out 2).trans rfl; have hcz90_3 : w88.cell? ⟨gb175, 3, none⟩ = some (.slice A3_3 l3_3.length c3_3) := (blk_cell BK175.out 3).trans rfl; have hfz90_0 := blk_frozen BK175.out 0; have hfz90_1 := blk_frozen BK175.out 1; have hfz90_2 := blk_frozen BK175.out 2; have hfz90_3 := blk_frozen BK175.out 3) | ((with_reducible refine gate_callee (f := 27) rfl ?_); refine goesL_ (some 36) rfl rfl Try.func27 (by kernel_rfl) rfl #[.agg #[.int .i64 a1_0, .slice A1_1 l1_1.length c1_1], .agg #[.slice A3_0 l3_0.length c3_0, .slice A3_1 l3_1.length c3_1], .slice A2 l2.length c2] rfl (by (try simp only [List.map_toArray, List.map_cons, List.map_nil]); first | done | rfl | (simp only [List.length_drop, List.length_take]; rfl)) ?_; (with_reducible refine (move_completed.calls a1_0 _ _ l1_1 _ _ l3_0 _ _ l3_1 _ _ l2 t180 t183 t186 t189 _ ?side1 ?side2 ?side3 ?side4 ?side5 ?side6 ?side7 ?side8 A37.out).mono ?_); (case side1 => exact pkC (Kd.C_below HR1_1.out HB.out)); (case side2 => exact HC1_1.out); (case side3 => exact pkC (Kd.C_below HR3_0.out HB.out)); (case side4 => exact HC3_0.out); (case side5 => exact pkC (Kd.C_below HR3_1.out HB.out)); (case side6 => exact HC3_1.out); (case side7 => exact pkC (Kd.C_below HR2.out HB.out)); (case side8 => exact HC2.out); rintro e w91 ⟨v181, v184, v187, v190, rfl, ho0, ho1, ho2, ho3, hb⟩; refine ⟨_, rfl, ?_⟩; have n0_ := Aside0.mk (Kd.R_lower ho0 (pkZ HB)); have n1_ := Aside0.mk (Kd.R_lower ho1 (pkZ HB)); have n2_ := Aside0.mk (Kd.R_lower ho2 (pkZ HB)); have n3_ := Aside0.mk (Kd.R_lower ho3 (pkZ HB)); have n4_ := pkBb BK173 hb; have n5_ := pkBb BK174 hb; have n6_ := pkBb BK175 hb; have n7_ := pkS HB hb; clear BK173; clear BK174; clear BK175; clear HB; have HO182 := n0_; have HO185 := n1_; have HO188 := n2_; have HO191 := n3_; have BK173 := n4_; have BK174 := n5_; have BK175 := n6_; have HB := n7_; clear n0_ n1_ n2_ n3_ n4_ n5_ n6_ n7_; (try clear hb); (try clear hb2); (try clear hk); (try clear hi); (try clear ho0); (try clear ho1); (try clear ho2); (try clear ho3)) | ((with_reducible refine gate_dst (N := 9) rfl ?_); (try (refine gate_guard (by rfl) ?_; dsimp only)); refine box_event ?hg (N := 9) ?hd (cs := #[.slice none 0 0, .slice none 0 0, .slice none 0 0, .slice none 0 0]) (t := 40) ?hr ?_; (case hd => rfl); (case hg => rfl); (case hr => first | (go_simp; done) | (go_simp; rfl)); intro gb192 hg w92 hbox hb; have n0_ := pkRb HO182 hb; have n1_ := pkRb HO185 hb; have n2_ := pkRb HO188 hb; have n3_ := pkRb HO191 hb; have n4_ := pkBb BK173 hb; have n5_ := pkBb BK174 hb; have n6_ := pkBb BK175 hb; have n7_ := pkS HB hb; have n8_ := Aside0.mk (hbox); have n9_ := pkG hg HB; have n10_ := pkG hg HB; have n11_ := pkN hg BK173; have n12_ := pkM hg BK173; have n13_ := pkN hg BK174; have n14_ := pkM hg BK174; have n15_ := pkN hg BK175; have n16_ := pkM hg BK175; clear HO182; clear HO185; clear HO188; clear HO191; clear BK173; clear BK174; clear BK175; clear HB; have HO182 := n0_; have HO185 := n1_; have HO188 := n2_; have HO191 := n3_; have BK173 := n4_; have BK174 := n5_; have BK175 := n6_; have HB := n7_; have BK192 := n8_; have GW192 := n9_; have GE192 := n10_; have NB173_192 := n11_; have NB192_173 := n12_; have NB174_192 := n13_; have NB192_174 := n14_; have NB175_192 := n15_; have NB192_175 := n16_; clear n0_ n1_ n2_ n3_ n4_ n5_ n6_ n7_ n8_ n9_ n10_ n11_ n12_ n13_ n14_ n15_ n16_; clear hb hbox hg; obtain ⟨Ao93, co93, eo93⟩ := Kd.R_slice HO182.out; subst eo93; have hnb94 := NB192_173.out; have hnc94 := NB173_192.out; have hnb95 := NB192_174.out; have hnc95 := NB174_192.out; have hnb96 := NB192_175.out; have hnc96 := NB175_192.out; have hcz97_0 : w92.cell? ⟨gb192, 0, none⟩ = some (.slice none 0 0) := (blk_cell BK192.out 0).trans rfl; have hcz97_1 : w92.cell? ⟨gb192, 1, none⟩ = some (.slice none 0 0) := (blk_cell BK192.out 1).trans rfl; have hcz97_2 : w92.cell? ⟨gb192, 2, none⟩ = some (.slice none 0 0) := (blk_cell BK192.out 2).trans rfl; have hcz97_3 : w92.cell? ⟨gb192, 3, none⟩ = some (.slice none 0 0) := (blk_cell BK192.out 3).trans rfl; have hfz97_0 := blk_frozen BK192.out 0; have hfz97_1 := blk_frozen BK192.out 1; have hfz97_2 := blk_frozen BK192.out 2; have hfz97_3 := blk_frozen BK192.out 3; obtain ⟨Ao98, co98, eo98⟩ := Kd.R_slice HO185.out; subst eo98; obtain ⟨Ao99, co99, eo99⟩ := Kd.R_slice HO188.out; subst eo99; obtain ⟨Ao100, co100, eo100⟩ := Kd.R_slice HO191.out; subst eo100; have hcz101_0 : w92.cell? ⟨gb175, 0, none⟩ = some (.slice A3_0 l3_0.length c3_0) := (blk_cell BK175.out 0).trans rfl; have hcz101_1 : w92.cell? ⟨gb175, 1, none⟩ = some (.slice A3_1 l3_1.length c3_1) := (blk_cell BK175.out 1).trans rfl; have hcz101_2 : w92.cell? ⟨gb175, 2, none⟩ = some (.slice A3_2 l3_2.length c3_2) := (blk_cell BK175.out 2).trans rfl; have hcz101_3 : w92.cell? ⟨gb175, 3, none⟩ = some (.slice A3_3 l3_3.length c3_3) := (blk_cell BK175.out 3).trans rfl; have hfz101_0 := blk_frozen BK175.out 0; have hfz101_1 := blk_frozen BK175.out 1; have hfz101_2 := blk_frozen BK175.out 2; have hfz101_3 := blk_frozen BK175.out 3) | ((with_reducible refine gate_callee (f := 44) rfl ?_); refine goesL_ (some 41) rfl rfl Try.func44 (by kernel_rfl) rfl #[.slice A3_2 l3_2.length c3_2, .slice Ao99 t186.length co99] rfl (by (try simp only [List.map_toArray, List.map_cons, List.map_nil]); first | done | rfl | (simp only [List.length_drop, List.length_take]; rfl)) ?_; (with_reducible refine (slices_Equal_int_int.calls kj4 _ _ l3_2 _ _ t186 false _ ?side1 ?side2 ?side3 ?side4 A38.out).mono ?_); (case side1 => exact Kd.C_below HR3_2.out (pkW HB.out)); (case side2 => exact HC3_2.out); (case side3 => refine (Kd.R_reads' (e := 3) (base := w.heap.size) (ok := fun k_ => (some k_ ≠ (.slice Ao93 t180.length co93 : Value).ownBlock ∧ (some k_ ≠ (.slice Ao98 t183.length co98 : Value).ownBlock ∧ some k_ ≠ (.slice Ao100 t189.length co100 : Value).ownBlock))) (n := t186.length) (c := co99) ?_).2.2; exact (by (with_reducible repeat (first | apply Kd.R_alloc | apply Kd.R_drewN | apply Kd.R_drew)); exact (Kd.R_mono (Kd.R_far (p := ⟨gb192, 3, none⟩) (Kd.R_far (p := ⟨gb192, 2, none⟩) (Kd.R_far (p := ⟨gb192, 1, none⟩) (Kd.R_far (p := ⟨gb192, 0, none⟩) (Kd.R_types HO188.out BK192.out (by decide)) (fun _ hk => hk.2) (.slice Ao93 t180.length co93)) (fun _ hk => hk.2) (.slice Ao98 t183.length co98)) (fun _ hk => hk.2) (.slice Ao99 t186.length co99)) (fun _ hk => hk.2) (.slice Ao100 t189.length co100)) (fun _ h_ => h_.1)))); (case side4 => exact (Kd.R_reads' HO188.out).2.1); rintro e w' ⟨rfl, ⟨nd, rfl⟩⟩; refine ⟨_, rfl, ?_⟩))
            go_ret
            exact ⟨by first | rfl | (simp [errW_none, errW_some] <;> rfl) | (simp [*, errW_none, errW_some] <;> rfl), pkW HB.out⟩
        · rw [if_neg c36] at H
          have c36b0 : (t179 == 0) = false := beq_eq_false_iff_ne.mpr c36
          have c36b1 : (t179 != 0) = true := bne_iff_ne.mpr c36
          obtain rfl := Option.some.inj H
          have hnb102 := NB173_174.out
          have hnc102 := NB174_173.out
          have hnb103 := NB173_175.out
          have hnc103 := NB175_173.out
          have hcz104_0 : wc.cell? ⟨gb173, 0, none⟩ = some (.int .i64 a0_0) := (blk_cell BK173.out 0).trans rfl
          have hcz104_1 : wc.cell? ⟨gb173, 1, none⟩ = some (.slice A0_1 l0_1.length c0_1) := (blk_cell BK173.out 1).trans rfl
          have hfz104_0 := blk_frozen BK173.out 0
          have hfz104_1 := blk_frozen BK173.out 1
          have hnb105 := NB174_175.out
          have hnc105 := NB175_174.out
          have hcz106_0 : wc.cell? ⟨gb174, 0, none⟩ = some (.int .i64 a1_0) := (blk_cell BK174.out 0).trans rfl
          have hcz106_1 : wc.cell? ⟨gb174, 1, none⟩ = some (.slice A1_1 l1_1.length c1_1) := (blk_cell BK174.out 1).trans rfl
          have hfz106_0 := blk_frozen BK174.out 0
          have hfz106_1 := blk_frozen BK174.out 1
          have hcz107_0 : wc.cell? ⟨gb175, 0, none⟩ = some (.slice A3_0 l3_0.length c3_0) := (blk_cell BK175.out 0).trans rfl
          have hcz107_1 : wc.cell? ⟨gb175, 1, none⟩ = some (.slice A3_1 l3_1.length c3_1) := (blk_cell BK175.out 1).trans rfl
          have hcz107_2 : wc.cell? ⟨gb175, 2, none⟩ = some (.slice A3_2 l3_2.length c3_2) := (blk_cell BK175.out 2).trans rfl
          have hcz107_3 : wc.cell? ⟨gb175, 3, none⟩ = some (.slice A3_3 l3_3.length c3_3) := (blk_cell BK175.out 3).trans rfl
          have hfz107_0 := blk_frozen BK175.out 0
          have hfz107_1 := blk_frozen BK175.out 1
          have hfz107_2 := blk_frozen BK175.out 2
          have hfz107_3 := blk_frozen BK175.out 3
          go_wp2_with (first | ((with_reducible refine gate_callee (f := 43) rfl ?_); refine goesL_ (some 30) rfl rfl Try.func43 (by kernel_rfl) rfl #[.agg #[.int .i64 a0_0, .slice A0_1 l0_1.length c0_1], .agg #[.int .i64 a1_0, .slice A1_1 l1_1.length c1_1], .agg #[.slice A3_0 l3_0.length c3_0, .slice A3_1 l3_1.length c3_1]] rfl (by (try simp only [List.map_toArray, List.map_cons, List.map_nil]); first | done | rfl | (simp only [List.length_drop, List.length_take]; rfl)) ?_; (with_reducible refine (embed_Check.calls kj4 a0_0 _ _ l0_1 a1_0 _ _ l1_1 _ _ l3_0 _ _ l3_1 t179 _ ?side1 ?side2 ?side3 ?side4 ?side5 ?side6 ?side7 ?side8 A35.out).mono ?_); (case side1 => exact pkC (Kd.C_below HR0_1.out HB.out)); (case side2 => exact HC0_1.out); (case side3 => exact pkC (Kd.C_below HR1_1.out HB.out)); (case side4 => exact HC1_1.out); (case side5 => exact pkC (Kd.C_below HR3_0.out HB.out)); (case side6 => exact HC3_0.out); (case side7 => exact pkC (Kd.C_below HR3_1.out HB.out)); (case side8 => exact HC3_1.out); rintro e w108 ⟨rfl, hb⟩; refine ⟨_, rfl, ?_⟩; have n0_ := pkBb BK173 hb; have n1_ := pkBb BK174 hb; have n2_ := pkBb BK175 hb; have n3_ := pkS HB hb; clear BK173; clear BK174; clear BK175; clear HB; have BK173 := n0_; have BK174 := n1_; have BK175 := n2_; have HB := n3_; clear n0_ n1_ n2_ n3_; (try clear hb); (try clear hb2); (try clear hk); (try clear hi)))
          go_ret
          exact ⟨by first | rfl | (simp [errW_none, errW_some] <;> rfl) | (simp [*, errW_none, errW_some] <;> rfl), pkW HB.out⟩

end Go.Proofs.Ytgegjhgifeobdaa.Pd


namespace Go.Proofs.Ytgegjhgifeobdaa.Pd
open Go.RowKit Go.Proofs.YtgegjhgifeobdaaW.PrintWords Go.Proofs.YtgegjhgifeobdaaW.PrintLast Go.Proofs.YtgegjhgifeobdaaW.PrintMore
attribute [local go_sem] max2_int min2_int max_two min_two max_three min_three max_four min_four   -- for this text's walks alone
set_option linter.unusedVariables false
set_option linter.unusedSimpArgs false

attribute [local go_sem high] eqA59
/-! ### plexuslaw43_check: function 12 -/
def plexuslaw43_check.f (k : Nat) (a0_0 : Int) (l0_1 : List Int) (a0_2 : Int) (l0_3 : List Int) (l0_4 : List Int) (l1_0 : List Int) (l1_1 : List Int) (l1_2 : List Int) (l1_3 : List Int) : Option (Int) := (move_Check.f k a0_0 l0_1 a0_2 l0_3 l0_4 l1_0 l1_1 l1_2 l1_3).bind fun t197 => (some t197)
theorem plexuslaw43_check.mono : ∀ a0 a1 a2 a3 a4 a5 a6 a7 a8 k, LeO (plexuslaw43_check.f k a0 a1 a2 a3 a4 a5 a6 a7 a8) (plexuslaw43_check.f (k + 1) a0 a1 a2 a3 a4 a5 a6 a7 a8) := by
  intro a0 a1 a2 a3 a4 a5 a6 a7 a8 k
  unfold plexuslaw43_check.f
  repeat' first
      | (with_reducible exact move_Check.mono _ _ _ _ _ _ _ _ _ _)
      | (with_reducible exact LeO.refl _)
      | (with_reducible exact LeO.none _)
      | (with_reducible refine LeO.ite ?_ ?_)
      | (with_reducible refine LeO.bind ?_ (fun _ => ?_))
      | exact move_Check.mono _ _ _ _ _ _ _ _ _ _
      | exact LeO.none _
      | refine LeO.ite ?_ ?_
      | refine LeO.bind ?_ (fun _ => ?_)
set_option maxHeartbeats 8000000 in
set_option maxRecDepth 100000 in
theorem plexuslaw43_check.calls (k : Nat) (a0_0 : Int) (A0_1 : Option Addr) (c0_1 : Nat) (l0_1 : List Int) (a0_2 : Int) (A0_3 : Option Addr) (c0_3 : Nat) (l0_3 : List Int) (A0_4 : Option Addr) (c0_4 : Nat) (l0_4 : List Int) (A1_0 : Option Addr) (c1_0 : Nat) (l1_0 : List Int) (A1_1 : Option Addr) (c1_1 : Nat) (l1_1 : List Int) (A1_2 : Option Addr) (c1_2 : Nat) (l1_2 : List Int) (A1_3 : Option Addr) (c1_3 : Nat) (l1_3 : List Int) (r : Int) (w : World) (hr0_1 : Kd.C (Kd.int .u64) w A0_1 l0_1.length l0_1) (hc0_1 : l0_1.length ≤ c0_1) (hr0_3 : Kd.C (Kd.int .u64) w A0_3 l0_3.length l0_3) (hc0_3 : l0_3.length ≤ c0_3) (hr0_4 : Kd.C (Kd.int .i64) w A0_4 l0_4.length l0_4) (hc0_4 : l0_4.length ≤ c0_4) (hr1_0 : Kd.C (Kd.int .i64) w A1_0 l1_0.length l1_0) (hc1_0 : l1_0.length ≤ c1_0) (hr1_1 : Kd.C (Kd.int .i64) w A1_1 l1_1.length l1_1) (hc1_1 : l1_1.length ≤ c1_1) (hr1_2 : Kd.C (Kd.int .i64) w A1_2 l1_2.length l1_2) (hc1_2 : l1_2.length ≤ c1_2) (hr1_3 : Kd.C (Kd.int .i64) w A1_3 l1_3.length l1_3) (hc1_3 : l1_3.length ≤ c1_3) (h : plexuslaw43_check.f k a0_0 l0_1 a0_2 l0_3 l0_4 l1_0 l1_1 l1_2 l1_3 = some r) :
    Calls Try.prog 12 #[.agg #[.int .i64 a0_0, .slice A0_1 l0_1.length c0_1, .int .i64 a0_2, .slice A0_3 l0_3.length c0_3, .slice A0_4 l0_4.length c0_4], .agg #[.slice A1_0 l1_0.length c1_0, .slice A1_1 l1_1.length c1_1, .slice A1_2 l1_2.length c1_2, .slice A1_3 l1_3.length c1_3]] w fun e w' => e = .returned (.int .i64 r) ∧ Below w.heap.size w w' := by
  have hu36 := Try.underlying36
  have hu40 := Try.underlying40
  have hu29 := Try.underlying29
  have HR0_1 := Aside0.mk hr0_1
  have HC0_1 := Aside0.mk hc0_1
  clear hr0_1 hc0_1
  have HR0_3 := Aside0.mk hr0_3
  have HC0_3 := Aside0.mk hc0_3
  clear hr0_3 hc0_3
  have HR0_4 := Aside0.mk hr0_4
  have HC0_4 := Aside0.mk hc0_4
  clear hr0_4 hc0_4
  have HR1_0 := Aside0.mk hr1_0
  have HC1_0 := Aside0.mk hc1_0
  clear hr1_0 hc1_0
  have HR1_1 := Aside0.mk hr1_1
  have HC1_1 := Aside0.mk hc1_1
  clear hr1_1 hc1_1
  have HR1_2 := Aside0.mk hr1_2
  have HC1_2 := Aside0.mk hc1_2
  clear hr1_2 hc1_2
  have HR1_3 := Aside0.mk hr1_3
  have HC1_3 := Aside0.mk hc1_3
  clear hr1_3 hc1_3
  have HB := Aside0.mk (Below.refl w.heap.size w)
  have H : ((move_Check.f k a0_0 l0_1 a0_2 l0_3 l0_4 l1_0 l1_1 l1_2 l1_3).bind fun t197 => (some t197)) = some r := h
  clear h
  replace H := Option.bind_eq_some_iff.mp H
  obtain ⟨t197, A30, H⟩ := H
  replace H : (some t197) = some r := H
  have A3 := Aside0.mk A30
  clear A30
  obtain rfl := Option.some.inj H
  go_enter Try.func12, Try.ntmps12
  go_wp2_with (first | ((with_reducible refine gate_dst (N := 2) rfl ?_); refine box_event ?hg (N := 2) ?hd (cs := #[.int .i64 a0_0, .slice A0_1 l0_1.length c0_1, .int .i64 a0_2, .slice A0_3 l0_3.length c0_3, .slice A0_4 l0_4.length c0_4]) (t := 36) ?hr ?_; (case hd => rfl); (case hg => rfl); (case hr => first | (go_simp; done) | (go_simp; rfl)); intro gb195 hg w4 hbox hb; have n0_ := Aside0.mk (below_step (by repeat (first | (with_reducible first | exact HB.out | apply below_alloc | apply pw_below_drewN | apply below_drew1) | exact HB.out)) hb); have n1_ := Aside0.mk (hbox); have n2_ := Aside0.mk ((by rw [hg]; exact (below_size (by repeat (first | (with_reducible first | exact HB.out | apply below_alloc | apply pw_below_drewN | apply below_drew1) | exact HB.out))) : w.heap.size ≤ gb195)); have n3_ := Aside0.mk ((by rw [hg]; exact (below_size (by repeat (first | (with_reducible first | exact HB.out | apply below_alloc | apply pw_below_drewN | apply below_drew1) | exact HB.out))) : w.heap.size ≤ gb195)); clear HB; have HB := n0_; have BK195 := n1_; have GW195 := n2_; have GE195 := n3_; clear n0_ n1_ n2_ n3_; clear hb hbox hg) | ((with_reducible refine gate_dst (N := 3) rfl ?_); refine box_event ?hg (N := 3) ?hd (cs := #[.slice A1_0 l1_0.length c1_0, .slice A1_1 l1_1.length c1_1, .slice A1_2 l1_2.length c1_2, .slice A1_3 l1_3.length c1_3]) (t := 40) ?hr ?_; (case hd => rfl); (case hg => rfl); (case hr => first | (go_simp; done) | (go_simp; rfl)); intro gb196 hg w5 hbox hb; have n0_ := Aside0.mk (blk_below (g := gb195) (o := .cells #[.int .i64 a0_0, .slice A0_1 l0_1.length c0_1, .int .i64 a0_2, .slice A0_3 l0_3.length c0_3, .slice A0_4 l0_4.length c0_4] 36 (0, 0)) (by (with_reducible repeat (first | refine blk_drewN ?_ _ | refine blk_drew ?_ | refine blk_alloc ?_ _)); exact BK195.out) hb); have n1_ := Aside0.mk (below_step (by repeat (first | (with_reducible first | exact HB.out | apply below_alloc | apply pw_below_drewN | apply below_drew1 | refine below_set ?_ GE195.out) | exact HB.out)) hb); have n2_ := Aside0.mk (hbox); have n3_ := Aside0.mk ((by rw [hg]; exact (below_size (by repeat (first | (with_reducible first | exact HB.out | apply below_alloc | apply pw_below_drewN | apply below_drew1 | refine below_set ?_ GE195.out) | exact HB.out))) : w.heap.size ≤ gb196)); have n4_ := Aside0.mk ((by rw [hg]; exact (below_size (by repeat (first | (with_reducible first | exact HB.out | apply below_alloc | apply pw_below_drewN | apply below_drew1 | refine below_set ?_ GE195.out) | exact HB.out))) : w.heap.size ≤ gb196)); have n5_ := Aside0.mk ((by rw [hg]; exact Nat.ne_of_lt (blk_lt (g := gb195) (o := .cells #[.int .i64 a0_0, .slice A0_1 l0_1.length c0_1, .int .i64 a0_2, .slice A0_3 l0_3.length c0_3, .slice A0_4 l0_4.length c0_4] 36 (0, 0)) (by (with_reducible repeat (first | refine blk_drewN ?_ _ | refine blk_drew ?_ | refine blk_alloc ?_ _)); exact BK195.out)) : gb195 ≠ gb196)); have n6_ := Aside0.mk ((by rw [hg]; exact Nat.ne_of_gt (blk_lt (g := gb195) (o := .cells #[.int .i64 a0_0, .slice A0_1 l0_1.length c0_1, .int .i64 a0_2, .slice A0_3 l0_3.length c0_3, .slice A0_4 l0_4.length c0_4] 36 (0, 0)) (by (with_reducible repeat (first | refine blk_drewN ?_ _ | refine blk_drew ?_ | refine blk_alloc ?_ _)); exact BK195.out)) : gb196 ≠ gb195)); clear BK195; clear HB; have BK195 := n0_; have HB := n1_; have BK196 := n2_; have GW196 := n3_; have GE196 := n4_; have NB195_196 := n5_; have NB196_195 := n6_; clear n0_ n1_ n2_ n3_ n4_ n5_ n6_; clear hb hbox hg; have hnb6 := NB195_196.out; have hnc6 := NB196_195.out; have hcz7_0 : w5.cell? ⟨gb195, 0, none⟩ = some (.int .i64 a0_0) := (blk_cell BK195.out 0).trans rfl; have hcz7_1 : w5.cell? ⟨gb195, 1, none⟩ = some (.slice A0_1 l0_1.length c0_1) := (blk_cell BK195.out 1).trans rfl; have hcz7_2 : w5.cell? ⟨gb195, 2, none⟩ = some (.int .i64 a0_2) := (blk_cell BK195.out 2).trans rfl; have hcz7_3 : w5.cell? ⟨gb195, 3, none⟩ = some (.slice A0_3 l0_3.length c0_3) := (blk_cell BK195.out 3).trans rfl; have hcz7_4 : w5.cell? ⟨gb195, 4, none⟩ = some (.slice A0_4 l0_4.length c0_4) := (blk_cell BK195.out 4).trans rfl; have hfz7_0 := blk_frozen BK195.out 0; have hfz7_1 := blk_frozen BK195.out 1; have hfz7_2 := blk_frozen BK195.out 2; have hfz7_3 := blk_frozen BK195.out 3; have hfz7_4 := blk_frozen BK195.out 4; have hcz8_0 : w5.cell? ⟨gb196, 0, none⟩ = some (.slice A1_0 l1_0.length c1_0) := (blk_cell BK196.out 0).trans rfl; have hcz8_1 : w5.cell? ⟨gb196, 1, none⟩ = some (.slice A1_1 l1_1.length c1_1) := (blk_cell BK196.out 1).trans rfl; have hcz8_2 : w5.cell? ⟨gb196, 2, none⟩ = some (.slice A1_2 l1_2.length c1_2) := (blk_cell BK196.out 2).trans rfl; have hcz8_3 : w5.cell? ⟨gb196, 3, none⟩ = some (.slice A1_3 l1_3.length c1_3) := (blk_cell BK196.out 3).trans rfl; have hfz8_0 := blk_frozen BK196.out 0; have hfz8_1 := blk_frozen BK196.out 1; have hfz8_2 := blk_frozen BK196.out 2; have hfz8_3 := blk_frozen BK196.out 3) | ((with_reducible refine gate_callee (f := 24) rfl ?_); refine goesL_ (some 12) rfl rfl Try.func24 (by kernel_rfl) rfl #[.agg #[.int .i64 a0_0, .slice A0_1 l0_1.length c0_1], .agg #[.int .i64 a0_2, .slice A0_3 l0_3.length c0_3], .slice A0_4 l0_4.length c0_4, .agg #[.slice A1_0 l1_0.length c1_0, .slice A1_1 l1_1.length c1_1, .slice A1_2 l1_2.length c1_2, .slice A1_3 l1_3.length c1_3]] rfl (by (try simp only [List.map_toArray, List.map_cons, List.map_nil]); first | done | rfl | (simp only [List.length_drop, List.length_take]; rfl)) ?_; (with_reducible refine (move_Check.calls k a0_0 _ _ l0_1 a0_2 _ _ l0_3 _ _ l0_4 _ _ l1_0 _ _ l1_1 _ _ l1_2 _ _ l1_3 t197 _ ?side1 ?side2 ?side3 ?side4 ?side5 ?side6 ?side7 ?side8 ?side9 ?side10 ?side11 ?side12 ?side13 ?side14 A3.out).mono ?_); (case side1 => repeat (first | exact (Kd.C_below HR0_1.out HB.out) | (with_reducible refine Kd.C_alloc ?_ _) | (with_reducible refine Kd.C_drewN ?_ _) | (with_reducible refine Kd.C_drew ?_))); (case side2 => exact HC0_1.out); (case side3 => repeat (first | exact (Kd.C_below HR0_3.out HB.out) | (with_reducible refine Kd.C_alloc ?_ _) | (with_reducible refine Kd.C_drewN ?_ _) | (with_reducible refine Kd.C_drew ?_))); (case side4 => exact HC0_3.out); (case side5 => repeat (first | exact (Kd.C_below HR0_4.out HB.out) | (with_reducible refine Kd.C_alloc ?_ _) | (with_reducible refine Kd.C_drewN ?_ _) | (with_reducible refine Kd.C_drew ?_))); (case side6 => exact HC0_4.out); (case side7 => repeat (first | exact (Kd.C_below HR1_0.out HB.out) | (with_reducible refine Kd.C_alloc ?_ _) | (with_reducible refine Kd.C_drewN ?_ _) | (with_reducible refine Kd.C_drew ?_))); (case side8 => exact HC1_0.out); (case side9 => repeat (first | exact (Kd.C_below HR1_1.out HB.out) | (with_reducible refine Kd.C_alloc ?_ _) | (with_reducible refine Kd.C_drewN ?_ _) | (with_reducible refine Kd.C_drew ?_))); (case side10 => exact HC1_1.out); (case side11 => repeat (first | exact (Kd.C_below HR1_2.out HB.out) | (with_reducible refine Kd.C_alloc ?_ _) | (with_reducible refine Kd.C_drewN ?_ _) | (with_reducible refine Kd.C_drew ?_))); (case side12 => exact HC1_2.out); (case side13 => repeat (first | exact (Kd.C_below HR1_3.out HB.out) | (with_reducible refine Kd.C_alloc ?_ _) | (with_reducible refine Kd.C_drewN ?_ _) | (with_reducible refine Kd.C_drew ?_))); (case side14 => exact HC1_3.out); rintro e w9 ⟨rfl, hb⟩; refine ⟨_, rfl, ?_⟩; have n0_ := Aside0.mk (blk_below (g := gb195) (o := .cells #[.int .i64 a0_0, .slice A0_1 l0_1.length c0_1, .int .i64 a0_2, .slice A0_3 l0_3.length c0_3, .slice A0_4 l0_4.length c0_4] 36 (0, 0)) (by (with_reducible repeat (first | refine blk_drewN ?_ _ | refine blk_drew ?_ | refine blk_alloc ?_ _)); exact BK195.out) hb); have n1_ := Aside0.mk (blk_below (g := gb196) (o := .cells #[.slice A1_0 l1_0.length c1_0, .slice A1_1 l1_1.length c1_1, .slice A1_2 l1_2.length c1_2, .slice A1_3 l1_3.length c1_3] 40 (0, 0)) (by (with_reducible repeat (first | refine blk_drewN ?_ _ | refine blk_drew ?_ | refine blk_alloc ?_ _)); exact BK196.out) hb); have n2_ := Aside0.mk (below_step (by repeat (first | (with_reducible first | exact HB.out | apply below_alloc | apply pw_below_drewN | apply below_drew1 | refine below_set ?_ GE195.out | refine below_set ?_ GE196.out) | exact HB.out)) hb); clear BK195; clear BK196; clear HB; have BK195 := n0_; have BK196 := n1_; have HB := n2_; clear n0_ n1_ n2_; (try clear hb); (try clear hb2); (try clear hk); (try clear hi)))
  go_ret
  exact ⟨by first | rfl | (simp [errW_none, errW_some] <;> rfl) | (simp [*, errW_none, errW_some] <;> rfl), by repeat (first | (with_reducible first | exact HB.out | apply below_alloc | apply pw_below_drewN | apply below_drew1 | refine below_set ?_ GE195.out | refine below_set ?_ GE196.out) | exact HB.out)⟩


/-! ### plexusref39_SameEvents: function 18 -/
def plexusref39_SameEvents.l0 : Nat → List (S59) → List (S59) → Int → Option (Bool)
  | 0, _, _, _ => none
  | k + 1, x0, x1, x5 => if x5 < (x0.length : Int) then (if 0 ≤ x5 then (if x5 < (x1.length : Int) then (if (!(((rd_T59 x0 x5).f0) == ((rd_T59 x1 x5).f0)) || (!(((rd_T59 x0 x5).f1) == ((rd_T59 x1 x5).f1)) || (!(((rd_T59 x0 x5).f2) == ((rd_T59 x1 x5).f2)) || (!(((rd_T59 x0 x5).f3) == ((rd_T59 x1 x5).f3)) || (!(((rd_T59 x0 x5).f4) == ((rd_T59 x1 x5).f4)) || (!(((rd_T59 x0 x5).f5) == ((rd_T59 x1 x5).f5)))))))) = true then (some false) else (plexusref39_SameEvents.l0 k x0 x1 (wrap64 (x5 + 1)))) else (none)) else (none)) else (some true)
def plexusref39_SameEvents.f (k : Nat) (l0 : List (S59)) (l1 : List (S59)) : Option (Bool) := if (l0.length : Int) = (l1.length : Int) then (plexusref39_SameEvents.l0 k l0 l1 0) else (some false)
theorem plexusref39_SameEvents.mono_l : ∀ k, (∀ y0 y1 y2, LeO (plexusref39_SameEvents.l0 k y0 y1 y2) (plexusref39_SameEvents.l0 (k + 1) y0 y1 y2))
  | 0 => fun _ _ _ r h => by simp [plexusref39_SameEvents.l0] at h
  | k + 1 => by
    have ih0 := plexusref39_SameEvents.mono_l k
    · intro y0 y1 y2
      unfold plexusref39_SameEvents.l0
      repeat' first
      | (with_reducible exact ih0 _ _ _)
      | (with_reducible exact LeO.refl _)
      | (with_reducible exact LeO.none _)
      | (with_reducible refine LeO.ite ?_ ?_)
      | (with_reducible refine LeO.bind ?_ (fun _ => ?_))
      | exact ih0 _ _ _
      | exact LeO.none _
      | refine LeO.ite ?_ ?_
      | refine LeO.bind ?_ (fun _ => ?_)
theorem plexusref39_SameEvents.mono : ∀ a0 a1 k, LeO (plexusref39_SameEvents.f k a0 a1) (plexusref39_SameEvents.f (k + 1) a0 a1) := by
  intro a0 a1 k
  have ih0 := plexusref39_SameEvents.mono_l k
  unfold plexusref39_SameEvents.f
  repeat' first
      | (with_reducible exact ih0 _ _ _)
      | (with_reducible exact LeO.refl _)
      | (with_reducible exact LeO.none _)
      | (with_reducible refine LeO.ite ?_ ?_)
      | (with_reducible refine LeO.bind ?_ (fun _ => ?_))
      | exact ih0 _ _ _
      | exact LeO.none _
      | refine LeO.ite ?_ ?_
      | refine LeO.bind ?_ (fun _ => ?_)
set_option maxHeartbeats 8000000 in
set_option maxRecDepth 100000 in
theorem plexusref39_SameEvents.calls (k : Nat) (A0 : Option Addr) (c0 : Nat) (l0 : List (S59)) (A1 : Option Addr) (c1 : Nat) (l1 : List (S59)) (r : Bool) (w : World) (hr0 : Kd.C k59 w A0 l0.length l0) (hc0 : l0.length ≤ c0) (hr1 : Kd.C k59 w A1 l1.length l1) (hc1 : l1.length ≤ c1) (h : plexusref39_SameEvents.f k l0 l1 = some r) :
    Calls Try.prog 18 #[.slice A0 l0.length c0, .slice A1 l1.length c1] w fun e w' => e = .returned (.bool r) ∧ Drawn0 w w' := by
  have hu59 := Try.underlying59
  have HR0 := Aside0.mk hr0
  have HC0 := Aside0.mk hc0
  clear hr0 hc0
  have HR1 := Aside0.mk hr1
  have HC1 := Aside0.mk hc1
  clear hr1 hc1
  have H : (if (l0.length : Int) = (l1.length : Int) then (plexusref39_SameEvents.l0 k l0 l1 0) else (some false)) = some r := h
  clear h
  by_cases c3 : (l0.length : Int) = (l1.length : Int)
  · rw [if_pos c3] at H
    have c3b0 : ((l0.length : Int) == (l1.length : Int)) = true := beq_iff_eq.mpr c3
    have c3b1 : ((l0.length : Int) != (l1.length : Int)) = false := bne_eq_false_iff_eq.mpr c3
    have c3b2 : (l0.length == l1.length) = true := by first | simpa using c3 | (simp at c3 ⊢; omega)
    clear c3
    have H' := Aside0.mk H
    clear H
    go_enter Try.func18, Try.ntmps18
    go_wp2
    repeat (go_quiet (fail); try go_wp2)
    go_loopg [5] k (fun kq v5 w' => ∃ (x5_1 : Int), v5 = .int .i64 x5_1 ∧ Aside0 (plexusref39_SameEvents.l0 kq l0 l1 x5_1 = some r) ∧ Aside0 (kq ≤ k) ∧ Drawn0 w w')
    case atStart => exact ⟨(0), (by first | rfl | (simp; done) | (simp [*]; done)), H', ⟨Nat.le_refl _⟩, by repeat (first | exact Drawn0.refl _ | apply Drawn0.step)⟩
    case round =>
      clear H'
      try clear c1
      try clear p2
      try clear c3
      try clear c3b0
      try clear c3b1
      try clear c3b2
      obtain ⟨x5_1, rfl, HA, HK1, ⟨m1, rfl⟩⟩ := hrel
      cases gk with
      | zero => exact absurd HA.out (by simp [plexusref39_SameEvents.l0])
      | succ k1 =>
        have H := HA.out
        clear HA
        simp only [plexusref39_SameEvents.l0] at H
        by_cases c4 : x5_1 < (l0.length : Int)
        · rw [if_pos c4] at H
          have c4b0 : decide (x5_1 < (l0.length : Int)) = true := decide_eq_true c4
          clear c4
          by_cases c5 : 0 ≤ x5_1
          · rw [if_pos c5] at H
            have c5b0 : decide (0 ≤ x5_1) = true := decide_eq_true c5
            clear c5
            by_cases c6 : x5_1 < (l1.length : Int)
            · rw [if_pos c6] at H
              have c6b0 : decide (x5_1 < (l1.length : Int)) = true := decide_eq_true c6
              clear c6
              by_cases c7 : (!(((rd_T59 l0 x5_1).f0) == ((rd_T59 l1 x5_1).f0)) || (!(((rd_T59 l0 x5_1).f1) == ((rd_T59 l1 x5_1).f1)) || (!(((rd_T59 l0 x5_1).f2) == ((rd_T59 l1 x5_1).f2)) || (!(((rd_T59 l0 x5_1).f3) == ((rd_T59 l1 x5_1).f3)) || (!(((rd_T59 l0 x5_1).f4) == ((rd_T59 l1 x5_1).f4)) || (!(((rd_T59 l0 x5_1).f5) == ((rd_T59 l1 x5_1).f5)))))))) = true
              · rw [if_pos c7] at H
                have c7b0 : (!(((rd_T59 l0 x5_1).f0) == ((rd_T59 l1 x5_1).f0)) || (!(((rd_T59 l0 x5_1).f1) == ((rd_T59 l1 x5_1).f1)) || (!(((rd_T59 l0 x5_1).f2) == ((rd_T59 l1 x5_1).f2)) || (!(((rd_T59 l0 x5_1).f3) == ((rd_T59 l1 x5_1).f3)) || (!(((rd_T59 l0 x5_1).f4) == ((rd_T59 l1 x5_1).f4)) || (!(((rd_T59 l0 x5_1).f5) == ((rd_T59 l1 x5_1).f5)))))))) = true := c7
                clear c7
                obtain rfl := Option.some.inj H
                have p198 : 0 ≤ (x5_1 : Int) := of_decide_eq_true (by first | (with_reducible assumption) | assumption)
                have q198 : x5_1 < (l0.length : Int) := of_decide_eq_true (by first | (with_reducible assumption) | assumption)
                obtain ⟨ad198, e198, hx198_0, hx198_1, hx198_2, hx198_3, hx198_4, hx198_5⟩ := at_T59 HR0.out x5_1 p198 q198
                cases e198
                replace p198 := eq_true p198
                replace q198 := eq_true q198
                have p199 : 0 ≤ (x5_1 : Int) := of_decide_eq_true (by first | (with_reducible assumption) | assumption)
                have q199 : x5_1 < (l1.length : Int) := of_decide_eq_true (by first | (with_reducible assumption) | assumption)
                obtain ⟨ad199, e199, hx199_0, hx199_1, hx199_2, hx199_3, hx199_4, hx199_5⟩ := at_T59 HR1.out x5_1 p199 q199
                cases e199
                replace p199 := eq_true p199
                replace q199 := eq_true q199
                go_wp2
                repeat (go_quiet (fail); try go_wp2)
                go_ret
                exact ⟨by first | rfl | (simp; done) | (simp [*]; done), by repeat (first | exact Drawn0.refl _ | apply Drawn0.step)⟩
              · rw [if_neg c7] at H
                have c7b0 : (!(((rd_T59 l0 x5_1).f0) == ((rd_T59 l1 x5_1).f0)) || (!(((rd_T59 l0 x5_1).f1) == ((rd_T59 l1 x5_1).f1)) || (!(((rd_T59 l0 x5_1).f2) == ((rd_T59 l1 x5_1).f2)) || (!(((rd_T59 l0 x5_1).f3) == ((rd_T59 l1 x5_1).f3)) || (!(((rd_T59 l0 x5_1).f4) == ((rd_T59 l1 x5_1).f4)) || (!(((rd_T59 l0 x5_1).f5) == ((rd_T59 l1 x5_1).f5)))))))) = false := by simpa using c7
                clear c7
                have H' := Aside0.mk H
                clear H
                have p198 : 0 ≤ (x5_1 : Int) := of_decide_eq_true (by first | (with_reducible assumption) | assumption)
                have q198 : x5_1 < (l0.length : Int) := of_decide_eq_true (by first | (with_reducible assumption) | assumption)
                obtain ⟨ad198, e198, hx198_0, hx198_1, hx198_2, hx198_3, hx198_4, hx198_5⟩ := at_T59 HR0.out x5_1 p198 q198
                cases e198
                replace p198 := eq_true p198
                replace q198 := eq_true q198
                have p199 : 0 ≤ (x5_1 : Int) := of_decide_eq_true (by first | (with_reducible assumption) | assumption)
                have q199 : x5_1 < (l1.length : Int) := of_decide_eq_true (by first | (with_reducible assumption) | assumption)
                obtain ⟨ad199, e199, hx199_0, hx199_1, hx199_2, hx199_3, hx199_4, hx199_5⟩ := at_T59 HR1.out x5_1 p199 q199
                cases e199
                replace p199 := eq_true p199
                replace q199 := eq_true q199
                go_wp2
                repeat (go_quiet (fail); try go_wp2)
                go_roundg k1
                case measure => have := HK1.out; omega
                case rel => exact ⟨(wrap64 (x5_1 + 1)), (by first | rfl | (simp; done) | (simp [*]; done)), H', ⟨by have := HK1.out; omega⟩, by repeat (first | exact Drawn0.refl _ | apply Drawn0.step)⟩
            · rw [if_neg c6] at H
              exact absurd H (by simp)
          · rw [if_neg c5] at H
            exact absurd H (by simp)
        · rw [if_neg c4] at H
          have c4b0 : decide (x5_1 < (l0.length : Int)) = false := decide_eq_false c4
          clear c4
          obtain rfl := Option.some.inj H
          go_wp2
          repeat (go_quiet (fail); try go_wp2)
          go_ret
          exact ⟨by first | rfl | (simp; done) | (simp [*]; done), by repeat (first | exact Drawn0.refl _ | apply Drawn0.step)⟩
  · rw [if_neg c3] at H
    have c3b0 : ((l0.length : Int) == (l1.length : Int)) = false := beq_eq_false_iff_ne.mpr c3
    have c3b1 : ((l0.length : Int) != (l1.length : Int)) = true := bne_iff_ne.mpr c3
    have c3b2 : (l0.length == l1.length) = false := by first | simpa using c3 | (simp at c3 ⊢; omega)
    obtain rfl := Option.some.inj H
    go_enter Try.func18, Try.ntmps18
    go_wp2
    repeat (go_quiet (fail); try go_wp2)
    go_ret
    exact ⟨by first | rfl | (simp; done) | (simp [*]; done), by repeat (first | exact Drawn0.refl _ | apply Drawn0.step)⟩

end Go.Proofs.Ytgegjhgifeobdaa.Pd
