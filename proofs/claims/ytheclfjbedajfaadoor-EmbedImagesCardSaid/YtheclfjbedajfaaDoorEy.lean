-- Written by this session's program xprint.py: it drives the kit's print with contracts of this session's own.
/- plexuslaw42.examples, walked: its calls at fixed inputs, by the printed contracts. -/
import Derived.Test.YtheclfjbedajfaaDoorPdx0
import Derived.Test.YtheclfjbedajfaaDoorPdx2
import Derived.Test.YtheclfjbedajfaaDoorPdx4
import Derived.Test.YtheclfjbedajfaaDoorPdx3
import Derived.Test.YtheclfjbedajfaaDoorEc
namespace Go.Proofs.YtheclfjbedajfaaDoor.Pd
open Go.RowKit Go.Proofs.YtheclfjbedajfaaDoorW.PrintWords Go.Proofs.YtheclfjbedajfaaDoorW.PrintLast Go.Proofs.YtheclfjbedajfaaDoorW.PrintMore
attribute [local go_sem] max2_int min2_int max_two min_two max_three min_three max_four min_four   -- for this text's walks alone
set_option linter.unusedVariables false
set_option linter.unusedSimpArgs false

/-! ### plexuslaw42_then: function 15 -/
def plexuslaw42_then.f (k : Nat) (l0_0 : List Int) (l0_1 : List Int) (l1_0 : List Int) (l1_1 : List Int) : Option (List Int × List Int × Int) := (embed_Then.f k l0_0 l0_1 l1_0 l1_1).bind fun bt153 => (some (bt153.1, bt153.2.1, bt153.2.2))
theorem plexuslaw42_then.mono : ∀ a0 a1 a2 a3 k, LeO (plexuslaw42_then.f k a0 a1 a2 a3) (plexuslaw42_then.f (k + 1) a0 a1 a2 a3) := by
  intro a0 a1 a2 a3 k
  unfold plexuslaw42_then.f
  repeat' first
      | (with_reducible exact embed_Then.mono _ _ _ _ _)
      | (with_reducible exact LeO.refl _)
      | (with_reducible exact LeO.none _)
      | (with_reducible refine LeO.ite ?_ ?_)
      | (with_reducible refine LeO.bind ?_ (fun _ => ?_))
      | exact embed_Then.mono _ _ _ _ _
      | exact LeO.none _
      | refine LeO.ite ?_ ?_
      | refine LeO.bind ?_ (fun _ => ?_)
set_option maxHeartbeats 8000000 in
set_option maxRecDepth 100000 in
theorem plexuslaw42_then.calls (k : Nat) (A0_0 : Option Addr) (c0_0 : Nat) (l0_0 : List Int) (A0_1 : Option Addr) (c0_1 : Nat) (l0_1 : List Int) (A1_0 : Option Addr) (c1_0 : Nat) (l1_0 : List Int) (A1_1 : Option Addr) (c1_1 : Nat) (l1_1 : List Int) (r1 : List Int) (r2 : List Int) (r3 : Int) (w : World) (hr0_0 : Kd.C (Kd.int .i64) w A0_0 l0_0.length l0_0) (hc0_0 : l0_0.length ≤ c0_0) (hr0_1 : Kd.C (Kd.int .i64) w A0_1 l0_1.length l0_1) (hc0_1 : l0_1.length ≤ c0_1) (hr1_0 : Kd.C (Kd.int .i64) w A1_0 l1_0.length l1_0) (hc1_0 : l1_0.length ≤ c1_0) (hr1_1 : Kd.C (Kd.int .i64) w A1_1 l1_1.length l1_1) (hc1_1 : l1_1.length ≤ c1_1) (h : plexuslaw42_then.f k l0_0 l0_1 l1_0 l1_1 = some (r1, r2, r3)) :
    Calls Tryd.prog 15 #[.agg #[.slice A0_0 l0_0.length c0_0, .slice A0_1 l0_1.length c0_1], .agg #[.slice A1_0 l1_0.length c1_0, .slice A1_1 l1_1.length c1_1]] w fun e w' => ∃ v0_ v1_ : Value, e = .returned (.agg #[v0_, v1_, .int .i64 r3]) ∧ Kd.R (Kd.int .i64) 3 w' w.heap.size (fun k_ => some k_ ≠ (v1_ : Value).ownBlock) v0_ r1 ∧ Kd.R (Kd.int .i64) 3 w' w.heap.size (fun k_ => some k_ ≠ (v0_ : Value).ownBlock) v1_ r2 ∧ Below w.heap.size w w' := by
  have hu39 := Tryd.underlying39
  have hu42 := Tryd.underlying42
  have HR0_0 := Aside0.mk hr0_0
  have HC0_0 := Aside0.mk hc0_0
  clear hr0_0 hc0_0
  have HR0_1 := Aside0.mk hr0_1
  have HC0_1 := Aside0.mk hc0_1
  clear hr0_1 hc0_1
  have HR1_0 := Aside0.mk hr1_0
  have HC1_0 := Aside0.mk hc1_0
  clear hr1_0 hc1_0
  have HR1_1 := Aside0.mk hr1_1
  have HC1_1 := Aside0.mk hc1_1
  clear hr1_1 hc1_1
  have HB := Aside0.mk (Below.refl w.heap.size w)
  have H : ((embed_Then.f k l0_0 l0_1 l1_0 l1_1).bind fun bt153 => (some (bt153.1, bt153.2.1, bt153.2.2))) = some (r1, r2, r3) := h
  clear h
  replace H := Option.bind_eq_some_iff.mp H
  obtain ⟨⟨t153, t156, t159⟩, A30, H⟩ := H
  replace H : (some (t153, t156, t159)) = some (r1, r2, r3) := H
  have A3 := Aside0.mk A30
  clear A30
  simp only [Option.some.injEq, Prod.mk.injEq] at H
  obtain ⟨rfl, rfl, rfl⟩ := H
  go_enter Tryd.func15, Tryd.ntmps15
  go_wp2_with (first | ((with_reducible refine gate_dst (N := 2) rfl ?_); refine box_event ?hg (N := 2) ?hd (cs := #[.slice A0_0 l0_0.length c0_0, .slice A0_1 l0_1.length c0_1]) (t := 39) ?hr ?_; (case hd => rfl); (case hg => rfl); (case hr => first | (go_simp; done) | (go_simp; rfl)); intro gb150 hg w4 hbox hb; have n0_ := Aside0.mk (below_step (by repeat (first | (with_reducible first | exact HB.out | apply below_alloc | apply pw_below_drewN | apply below_drew1) | exact HB.out)) hb); have n1_ := Aside0.mk (hbox); have n2_ := Aside0.mk ((by rw [hg]; exact (below_size (by repeat (first | (with_reducible first | exact HB.out | apply below_alloc | apply pw_below_drewN | apply below_drew1) | exact HB.out))) : w.heap.size ≤ gb150)); have n3_ := Aside0.mk ((by rw [hg]; exact (below_size (by repeat (first | (with_reducible first | exact HB.out | apply below_alloc | apply pw_below_drewN | apply below_drew1) | exact HB.out))) : w.heap.size ≤ gb150)); clear HB; have HB := n0_; have BK150 := n1_; have GW150 := n2_; have GE150 := n3_; clear n0_ n1_ n2_ n3_; clear hb hbox hg) | ((with_reducible refine gate_dst (N := 3) rfl ?_); refine box_event ?hg (N := 3) ?hd (cs := #[.slice A1_0 l1_0.length c1_0, .slice A1_1 l1_1.length c1_1]) (t := 39) ?hr ?_; (case hd => rfl); (case hg => rfl); (case hr => first | (go_simp; done) | (go_simp; rfl)); intro gb151 hg w5 hbox hb; have n0_ := Aside0.mk (blk_below (g := gb150) (o := .cells #[.slice A0_0 l0_0.length c0_0, .slice A0_1 l0_1.length c0_1] 39 (0, 0)) (by (with_reducible repeat (first | refine blk_drewN ?_ _ | refine blk_drew ?_ | refine blk_alloc ?_ _)); exact BK150.out) hb); have n1_ := Aside0.mk (below_step (by repeat (first | (with_reducible first | exact HB.out | apply below_alloc | apply pw_below_drewN | apply below_drew1 | refine below_set ?_ GE150.out) | exact HB.out)) hb); have n2_ := Aside0.mk (hbox); have n3_ := Aside0.mk ((by rw [hg]; exact (below_size (by repeat (first | (with_reducible first | exact HB.out | apply below_alloc | apply pw_below_drewN | apply below_drew1 | refine below_set ?_ GE150.out) | exact HB.out))) : w.heap.size ≤ gb151)); have n4_ := Aside0.mk ((by rw [hg]; exact (below_size (by repeat (first | (with_reducible first | exact HB.out | apply below_alloc | apply pw_below_drewN | apply below_drew1 | refine below_set ?_ GE150.out) | exact HB.out))) : w.heap.size ≤ gb151)); have n5_ := Aside0.mk ((by rw [hg]; exact Nat.ne_of_lt (blk_lt (g := gb150) (o := .cells #[.slice A0_0 l0_0.length c0_0, .slice A0_1 l0_1.length c0_1] 39 (0, 0)) (by (with_reducible repeat (first | refine blk_drewN ?_ _ | refine blk_drew ?_ | refine blk_alloc ?_ _)); exact BK150.out)) : gb150 ≠ gb151)); have n6_ := Aside0.mk ((by rw [hg]; exact Nat.ne_of_gt (blk_lt (g := gb150) (o := .cells #[.slice A0_0 l0_0.length c0_0, .slice A0_1 l0_1.length c0_1] 39 (0, 0)) (by (with_reducible repeat (first | refine blk_drewN ?_ _ | refine blk_drew ?_ | refine blk_alloc ?_ _)); exact BK150.out)) : gb151 ≠ gb150)); clear BK150; clear HB; have BK150 := n0_; have HB := n1_; have BK151 := n2_; have GW151 := n3_; have GE151 := n4_; have NB150_151 := n5_; have NB151_150 := n6_; clear n0_ n1_ n2_ n3_ n4_ n5_ n6_; clear hb hbox hg) | ((with_reducible refine gate_dst (N := 4) rfl ?_); refine box_event ?hg (N := 4) ?hd (cs := #[.slice none 0 0, .slice none 0 0, .int .i64 0]) (t := 42) ?hr ?_; (case hd => rfl); (case hg => rfl); (case hr => first | (go_simp; done) | (go_simp; rfl)); intro gb152 hg w6 hbox hb; have n0_ := Aside0.mk (blk_below (g := gb150) (o := .cells #[.slice A0_0 l0_0.length c0_0, .slice A0_1 l0_1.length c0_1] 39 (0, 0)) (by (with_reducible repeat (first | refine blk_drewN ?_ _ | refine blk_drew ?_ | refine blk_alloc ?_ _)); exact BK150.out) hb); have n1_ := Aside0.mk (blk_below (g := gb151) (o := .cells #[.slice A1_0 l1_0.length c1_0, .slice A1_1 l1_1.length c1_1] 39 (0, 0)) (by (with_reducible repeat (first | refine blk_drewN ?_ _ | refine blk_drew ?_ | refine blk_alloc ?_ _)); exact BK151.out) hb); have n2_ := Aside0.mk (below_step (by repeat (first | (with_reducible first | exact HB.out | apply below_alloc | apply pw_below_drewN | apply below_drew1 | refine below_set ?_ GE150.out | refine below_set ?_ GE151.out) | exact HB.out)) hb); have n3_ := Aside0.mk (hbox); have n4_ := Aside0.mk ((by rw [hg]; exact (below_size (by repeat (first | (with_reducible first | exact HB.out | apply below_alloc | apply pw_below_drewN | apply below_drew1 | refine below_set ?_ GE150.out | refine below_set ?_ GE151.out) | exact HB.out))) : w.heap.size ≤ gb152)); have n5_ := Aside0.mk ((by rw [hg]; exact (below_size (by repeat (first | (with_reducible first | exact HB.out | apply below_alloc | apply pw_below_drewN | apply below_drew1 | refine below_set ?_ GE150.out | refine below_set ?_ GE151.out) | exact HB.out))) : w.heap.size ≤ gb152)); have n6_ := Aside0.mk ((by rw [hg]; exact Nat.ne_of_lt (blk_lt (g := gb150) (o := .cells #[.slice A0_0 l0_0.length c0_0, .slice A0_1 l0_1.length c0_1] 39 (0, 0)) (by (with_reducible repeat (first | refine blk_drewN ?_ _ | refine blk_drew ?_ | refine blk_alloc ?_ _)); exact BK150.out)) : gb150 ≠ gb152)); have n7_ := Aside0.mk ((by rw [hg]; exact Nat.ne_of_gt (blk_lt (g := gb150) (o := .cells #[.slice A0_0 l0_0.length c0_0, .slice A0_1 l0_1.length c0_1] 39 (0, 0)) (by (with_reducible repeat (first | refine blk_drewN ?_ _ | refine blk_drew ?_ | refine blk_alloc ?_ _)); exact BK150.out)) : gb152 ≠ gb150)); have n8_ := Aside0.mk ((by rw [hg]; exact Nat.ne_of_lt (blk_lt (g := gb151) (o := .cells #[.slice A1_0 l1_0.length c1_0, .slice A1_1 l1_1.length c1_1] 39 (0, 0)) (by (with_reducible repeat (first | refine blk_drewN ?_ _ | refine blk_drew ?_ | refine blk_alloc ?_ _)); exact BK151.out)) : gb151 ≠ gb152)); have n9_ := Aside0.mk ((by rw [hg]; exact Nat.ne_of_gt (blk_lt (g := gb151) (o := .cells #[.slice A1_0 l1_0.length c1_0, .slice A1_1 l1_1.length c1_1] 39 (0, 0)) (by (with_reducible repeat (first | refine blk_drewN ?_ _ | refine blk_drew ?_ | refine blk_alloc ?_ _)); exact BK151.out)) : gb152 ≠ gb151)); clear BK150; clear BK151; clear HB; have BK150 := n0_; have BK151 := n1_; have HB := n2_; have BK152 := n3_; have GW152 := n4_; have GE152 := n5_; have NB150_152 := n6_; have NB152_150 := n7_; have NB151_152 := n8_; have NB152_151 := n9_; clear n0_ n1_ n2_ n3_ n4_ n5_ n6_ n7_ n8_ n9_; clear hb hbox hg; have hnb7 := NB150_151.out; have hnc7 := NB151_150.out; have hnb8 := NB150_152.out; have hnc8 := NB152_150.out; have hcz9_0 : w6.cell? ⟨gb150, 0, none⟩ = some (.slice A0_0 l0_0.length c0_0) := (blk_cell BK150.out 0).trans rfl; have hcz9_1 : w6.cell? ⟨gb150, 1, none⟩ = some (.slice A0_1 l0_1.length c0_1) := (blk_cell BK150.out 1).trans rfl; have hfz9_0 := blk_frozen BK150.out 0; have hfz9_1 := blk_frozen BK150.out 1; have hnb10 := NB151_152.out; have hnc10 := NB152_151.out; have hcz11_0 : w6.cell? ⟨gb151, 0, none⟩ = some (.slice A1_0 l1_0.length c1_0) := (blk_cell BK151.out 0).trans rfl; have hcz11_1 : w6.cell? ⟨gb151, 1, none⟩ = some (.slice A1_1 l1_1.length c1_1) := (blk_cell BK151.out 1).trans rfl; have hfz11_0 := blk_frozen BK151.out 0; have hfz11_1 := blk_frozen BK151.out 1) | ((with_reducible refine gate_callee (f := 34) rfl ?_); refine goesL_ (some 10) rfl rfl Tryd.func34 (by kernel_rfl) rfl #[.agg #[.slice A0_0 l0_0.length c0_0, .slice A0_1 l0_1.length c0_1], .agg #[.slice A1_0 l1_0.length c1_0, .slice A1_1 l1_1.length c1_1]] rfl (by (try simp only [List.map_toArray, List.map_cons, List.map_nil]); first | done | rfl | (simp only [List.length_drop, List.length_take]; rfl)) ?_; (with_reducible refine (embed_Then.calls k _ _ l0_0 _ _ l0_1 _ _ l1_0 _ _ l1_1 t153 t156 t159 _ ?side1 ?side2 ?side3 ?side4 ?side5 ?side6 ?side7 ?side8 A3.out).mono ?_); (case side1 => repeat (first | exact (Kd.C_below HR0_0.out HB.out) | (with_reducible refine Kd.C_alloc ?_ _) | (with_reducible refine Kd.C_drewN ?_ _) | (with_reducible refine Kd.C_drew ?_))); (case side2 => exact HC0_0.out); (case side3 => repeat (first | exact (Kd.C_below HR0_1.out HB.out) | (with_reducible refine Kd.C_alloc ?_ _) | (with_reducible refine Kd.C_drewN ?_ _) | (with_reducible refine Kd.C_drew ?_))); (case side4 => exact HC0_1.out); (case side5 => repeat (first | exact (Kd.C_below HR1_0.out HB.out) | (with_reducible refine Kd.C_alloc ?_ _) | (with_reducible refine Kd.C_drewN ?_ _) | (with_reducible refine Kd.C_drew ?_))); (case side6 => exact HC1_0.out); (case side7 => repeat (first | exact (Kd.C_below HR1_1.out HB.out) | (with_reducible refine Kd.C_alloc ?_ _) | (with_reducible refine Kd.C_drewN ?_ _) | (with_reducible refine Kd.C_drew ?_))); (case side8 => exact HC1_1.out); rintro e w12 ⟨v154, v157, rfl, ho0, ho1, hb⟩; refine ⟨_, rfl, ?_⟩; have n0_ := Aside0.mk (Kd.R_lower ho0 (below_size (by repeat (first | (with_reducible first | exact HB.out | apply below_alloc | apply pw_below_drewN | apply below_drew1 | refine below_set ?_ GE150.out | refine below_set ?_ GE151.out | refine below_set ?_ GE152.out) | exact HB.out)))); have n1_ := Aside0.mk (Kd.R_lower ho1 (below_size (by repeat (first | (with_reducible first | exact HB.out | apply below_alloc | apply pw_below_drewN | apply below_drew1 | refine below_set ?_ GE150.out | refine below_set ?_ GE151.out | refine below_set ?_ GE152.out) | exact HB.out)))); have n2_ := Aside0.mk (blk_below (g := gb150) (o := .cells #[.slice A0_0 l0_0.length c0_0, .slice A0_1 l0_1.length c0_1] 39 (0, 0)) (by (with_reducible repeat (first | refine blk_drewN ?_ _ | refine blk_drew ?_ | refine blk_alloc ?_ _)); exact BK150.out) hb); have n3_ := Aside0.mk (blk_below (g := gb151) (o := .cells #[.slice A1_0 l1_0.length c1_0, .slice A1_1 l1_1.length c1_1] 39 (0, 0)) (by (with_reducible repeat (first | refine blk_drewN ?_ _ | refine blk_drew ?_ | refine blk_alloc ?_ _)); exact BK151.out) hb); have n4_ := Aside0.mk (blk_below (g := gb152) (o := .cells #[.slice none 0 0, .slice none 0 0, .int .i64 0] 42 (0, 0)) (by (with_reducible repeat (first | refine blk_drewN ?_ _ | refine blk_drew ?_ | refine blk_alloc ?_ _)); exact BK152.out) hb); have n5_ := Aside0.mk (below_step (by repeat (first | (with_reducible first | exact HB.out | apply below_alloc | apply pw_below_drewN | apply below_drew1 | refine below_set ?_ GE150.out | refine below_set ?_ GE151.out | refine below_set ?_ GE152.out) | exact HB.out)) hb); clear BK150; clear BK151; clear BK152; clear HB; have HO155 := n0_; have HO158 := n1_; have BK150 := n2_; have BK151 := n3_; have BK152 := n4_; have HB := n5_; clear n0_ n1_ n2_ n3_ n4_ n5_; (try clear hb); (try clear hb2); (try clear hk); (try clear hi); (try clear ho0); (try clear ho1)) | ((with_reducible refine gate_dst (N := 5) rfl ?_); refine box_event ?hg (N := 5) ?hd (cs := #[.slice none 0 0, .slice none 0 0]) (t := 39) ?hr ?_; (case hd => rfl); (case hg => rfl); (case hr => first | (go_simp; done) | (go_simp; rfl)); intro gb160 hg w13 hbox hb; have n0_ := Aside0.mk (Kd.R_below (by (with_reducible repeat (first | apply Kd.R_alloc | apply Kd.R_drewN | apply Kd.R_drew)); exact HO155.out) hb); have n1_ := Aside0.mk (Kd.R_below (by (with_reducible repeat (first | apply Kd.R_alloc | apply Kd.R_drewN | apply Kd.R_drew)); exact HO158.out) hb); have n2_ := Aside0.mk (blk_below (g := gb150) (o := .cells #[.slice A0_0 l0_0.length c0_0, .slice A0_1 l0_1.length c0_1] 39 (0, 0)) (by (with_reducible repeat (first | refine blk_drewN ?_ _ | refine blk_drew ?_ | refine blk_alloc ?_ _)); exact BK150.out) hb); have n3_ := Aside0.mk (blk_below (g := gb151) (o := .cells #[.slice A1_0 l1_0.length c1_0, .slice A1_1 l1_1.length c1_1] 39 (0, 0)) (by (with_reducible repeat (first | refine blk_drewN ?_ _ | refine blk_drew ?_ | refine blk_alloc ?_ _)); exact BK151.out) hb); have n4_ := Aside0.mk (blk_below (g := gb152) (o := .cells #[.slice none 0 0, .slice none 0 0, .int .i64 0] 42 (0, 0)) (by (with_reducible repeat (first | refine blk_drewN ?_ _ | refine blk_drew ?_ | refine blk_alloc ?_ _)); exact BK152.out) hb); have n5_ := Aside0.mk (below_step (by repeat (first | (with_reducible first | exact HB.out | apply below_alloc | apply pw_below_drewN | apply below_drew1 | refine below_set ?_ GE150.out | refine below_set ?_ GE151.out | refine below_set ?_ GE152.out) | exact HB.out)) hb); have n6_ := Aside0.mk (hbox); have n7_ := Aside0.mk ((by rw [hg]; exact (below_size (by repeat (first | (with_reducible first | exact HB.out | apply below_alloc | apply pw_below_drewN | apply below_drew1 | refine below_set ?_ GE150.out | refine below_set ?_ GE151.out | refine below_set ?_ GE152.out) | exact HB.out))) : w.heap.size ≤ gb160)); have n8_ := Aside0.mk ((by rw [hg]; exact (below_size (by repeat (first | (with_reducible first | exact HB.out | apply below_alloc | apply pw_below_drewN | apply below_drew1 | refine below_set ?_ GE150.out | refine below_set ?_ GE151.out | refine below_set ?_ GE152.out) | exact HB.out))) : w.heap.size ≤ gb160)); have n9_ := Aside0.mk ((by rw [hg]; exact Nat.ne_of_lt (blk_lt (g := gb150) (o := .cells #[.slice A0_0 l0_0.length c0_0, .slice A0_1 l0_1.length c0_1] 39 (0, 0)) (by (with_reducible repeat (first | refine blk_drewN ?_ _ | refine blk_drew ?_ | refine blk_alloc ?_ _)); exact BK150.out)) : gb150 ≠ gb160)); have n10_ := Aside0.mk ((by rw [hg]; exact Nat.ne_of_gt (blk_lt (g := gb150) (o := .cells #[.slice A0_0 l0_0.length c0_0, .slice A0_1 l0_1.length c0_1] 39 (0, 0)) (by (with_reducible repeat (first | refine blk_drewN ?_ _ | refine blk_drew ?_ | refine blk_alloc ?_ _)); exact BK150.out)) : gb160 ≠ gb150)); have n11_ := Aside0.mk ((by rw [hg]; exact Nat.ne_of_lt (blk_lt (g := gb151) (o := .cells #[.slice A1_0 l1_0.length c1_0, .slice A1_1 l1_1.length c1_1] 39 (0, 0)) (by (with_reducible repeat (first | refine blk_drewN ?_ _ | refine blk_drew ?_ | refine blk_alloc ?_ _)); exact BK151.out)) : gb151 ≠ gb160)); have n12_ := Aside0.mk ((by rw [hg]; exact Nat.ne_of_gt (blk_lt (g := gb151) (o := .cells #[.slice A1_0 l1_0.length c1_0, .slice A1_1 l1_1.length c1_1] 39 (0, 0)) (by (with_reducible repeat (first | refine blk_drewN ?_ _ | refine blk_drew ?_ | refine blk_alloc ?_ _)); exact BK151.out)) : gb160 ≠ gb151)); have n13_ := Aside0.mk ((by rw [hg]; exact Nat.ne_of_lt (blk_lt (g := gb152) (o := .cells #[.slice none 0 0, .slice none 0 0, .int .i64 0] 42 (0, 0)) (by (with_reducible repeat (first | refine blk_drewN ?_ _ | refine blk_drew ?_ | refine blk_alloc ?_ _)); exact BK152.out)) : gb152 ≠ gb160)); have n14_ := Aside0.mk ((by rw [hg]; exact Nat.ne_of_gt (blk_lt (g := gb152) (o := .cells #[.slice none 0 0, .slice none 0 0, .int .i64 0] 42 (0, 0)) (by (with_reducible repeat (first | refine blk_drewN ?_ _ | refine blk_drew ?_ | refine blk_alloc ?_ _)); exact BK152.out)) : gb160 ≠ gb152)); clear HO155; clear HO158; clear BK150; clear BK151; clear BK152; clear HB; have HO155 := n0_; have HO158 := n1_; have BK150 := n2_; have BK151 := n3_; have BK152 := n4_; have HB := n5_; have BK160 := n6_; have GW160 := n7_; have GE160 := n8_; have NB150_160 := n9_; have NB160_150 := n10_; have NB151_160 := n11_; have NB160_151 := n12_; have NB152_160 := n13_; have NB160_152 := n14_; clear n0_ n1_ n2_ n3_ n4_ n5_ n6_ n7_ n8_ n9_ n10_ n11_ n12_ n13_ n14_; clear hb hbox hg; obtain ⟨Ao14, co14, eo14⟩ := Kd.R_slice HO155.out; subst eo14; have hnb15 := NB160_150.out; have hnc15 := NB150_160.out; have hnb16 := NB160_151.out; have hnc16 := NB151_160.out; have hnb17 := NB160_152.out; have hnc17 := NB152_160.out; have hcz18_0 : w13.cell? ⟨gb160, 0, none⟩ = some (.slice none 0 0) := (blk_cell BK160.out 0).trans rfl; have hcz18_1 : w13.cell? ⟨gb160, 1, none⟩ = some (.slice none 0 0) := (blk_cell BK160.out 1).trans rfl; have hfz18_0 := blk_frozen BK160.out 0; have hfz18_1 := blk_frozen BK160.out 1; obtain ⟨Ao19, co19, eo19⟩ := Kd.R_slice HO158.out; subst eo19; have hcz20_0 : w13.cell? ⟨gb152, 0, none⟩ = some (.slice none 0 0) := (blk_cell BK152.out 0).trans rfl; have hcz20_1 : w13.cell? ⟨gb152, 1, none⟩ = some (.slice none 0 0) := (blk_cell BK152.out 1).trans rfl; have hcz20_2 : w13.cell? ⟨gb152, 2, none⟩ = some (.int .i64 0) := (blk_cell BK152.out 2).trans rfl; have hfz20_0 := blk_frozen BK152.out 0; have hfz20_1 := blk_frozen BK152.out 1; have hfz20_2 := blk_frozen BK152.out 2))
  refine bodyPost_ret (results_cell_row rfl _ _ gb152 42 #[.slice Ao14 t153.length co14, .slice Ao19 t156.length co19, .int .i64 t159] (0, 0) _ rfl (by (with_reducible repeat (first | refine blk_drewN ?_ _ | refine blk_drew ?_ | refine blk_alloc ?_ _)); refine blk_put (cs := #[.slice Ao14 t153.length co14, .slice Ao19 t156.length co19, .int .i64 0]) ?_ 2 _ rfl; (with_reducible repeat (first | refine blk_drewN ?_ _ | refine blk_drew ?_ | refine blk_alloc ?_ _)); refine blk_put (cs := #[.slice Ao14 t153.length co14, .slice none 0 0, .int .i64 0]) ?_ 1 _ rfl; (with_reducible repeat (first | refine blk_drewN ?_ _ | refine blk_drew ?_ | refine blk_alloc ?_ _)); refine blk_put (cs := #[.slice none 0 0, .slice none 0 0, .int .i64 0]) ?_ 0 _ rfl; (with_reducible repeat (first | refine blk_drewN ?_ _ | refine blk_drew ?_ | refine blk_alloc ?_ _)); refine blk_far ?_ NB152_160.out _; (with_reducible repeat (first | refine blk_drewN ?_ _ | refine blk_drew ?_ | refine blk_alloc ?_ _)); refine blk_far ?_ NB152_160.out _; (with_reducible repeat (first | refine blk_drewN ?_ _ | refine blk_drew ?_ | refine blk_alloc ?_ _)); exact BK152.out) Tryd.underlying42 rfl (by kernel_rfl)) rfl ?_
  exact ⟨_, _, by first | rfl | (simp [errW_none, errW_some] <;> rfl) | (simp [*, errW_none, errW_some] <;> rfl), by (with_reducible repeat (first | apply Kd.R_alloc | apply Kd.R_drewN | apply Kd.R_drew)); exact Kd.R_mono (Kd.R_far (p := ⟨gb152, 2, none⟩) (Kd.R_far (p := ⟨gb152, 1, none⟩) (Kd.R_far (p := ⟨gb152, 0, none⟩) (Kd.R_far (p := ⟨gb160, 1, none⟩) (Kd.R_far (p := ⟨gb160, 0, none⟩) (Kd.R_types (Kd.R_types HO155.out BK160.out (by decide)) BK152.out (by decide)) (fun _ hk => hk.1.2) (.slice Ao14 t153.length co14)) (fun _ hk => hk.1.2) (.slice Ao19 t156.length co19)) (fun _ hk => hk.2) (.slice Ao14 t153.length co14)) (fun _ hk => hk.2) (.slice Ao19 t156.length co19)) (fun _ hk => hk.2) (.int .i64 t159)) (fun _ hk => hk.1.1), by (with_reducible repeat (first | apply Kd.R_alloc | apply Kd.R_drewN | apply Kd.R_drew)); exact Kd.R_mono (Kd.R_far (p := ⟨gb152, 2, none⟩) (Kd.R_far (p := ⟨gb152, 1, none⟩) (Kd.R_far (p := ⟨gb152, 0, none⟩) (Kd.R_far (p := ⟨gb160, 1, none⟩) (Kd.R_far (p := ⟨gb160, 0, none⟩) (Kd.R_types (Kd.R_types HO158.out BK160.out (by decide)) BK152.out (by decide)) (fun _ hk => hk.1.2) (.slice Ao14 t153.length co14)) (fun _ hk => hk.1.2) (.slice Ao19 t156.length co19)) (fun _ hk => hk.2) (.slice Ao14 t153.length co14)) (fun _ hk => hk.2) (.slice Ao19 t156.length co19)) (fun _ hk => hk.2) (.int .i64 t159)) (fun _ hk => hk.1.1), by repeat (first | (with_reducible first | exact HB.out | apply below_alloc | apply pw_below_drewN | apply below_drew1 | refine below_set ?_ GE150.out | refine below_set ?_ GE151.out | refine below_set ?_ GE152.out | refine below_set ?_ GE160.out) | exact HB.out)⟩


/-! ### plexuslaw42_of: function 17 -/
def plexuslaw42_of.f (a0_0 : Int) (l0_1 : List Int) (a1_0 : Int) (l1_1 : List Int) (l2_0 : List Int) (l2_1 : List Int) : Option (List Int × List Int × Int) := (embed_Of.f a0_0 l0_1 a1_0 l1_1 l2_0 l2_1).bind fun bt165 => (some (bt165.1, bt165.2.1, bt165.2.2))
set_option maxHeartbeats 8000000 in
set_option maxRecDepth 100000 in
theorem plexuslaw42_of.calls (a0_0 : Int) (A0_1 : Option Addr) (c0_1 : Nat) (l0_1 : List Int) (a1_0 : Int) (A1_1 : Option Addr) (c1_1 : Nat) (l1_1 : List Int) (A2_0 : Option Addr) (c2_0 : Nat) (l2_0 : List Int) (A2_1 : Option Addr) (c2_1 : Nat) (l2_1 : List Int) (r1 : List Int) (r2 : List Int) (r3 : Int) (w : World) (hr0_1 : Kd.C (Kd.int .u64) w A0_1 l0_1.length l0_1) (hc0_1 : l0_1.length ≤ c0_1) (hr1_1 : Kd.C (Kd.int .u64) w A1_1 l1_1.length l1_1) (hc1_1 : l1_1.length ≤ c1_1) (hr2_0 : Kd.C (Kd.int .i64) w A2_0 l2_0.length l2_0) (hc2_0 : l2_0.length ≤ c2_0) (hr2_1 : Kd.C (Kd.int .i64) w A2_1 l2_1.length l2_1) (hc2_1 : l2_1.length ≤ c2_1) (h : plexuslaw42_of.f a0_0 l0_1 a1_0 l1_1 l2_0 l2_1 = some (r1, r2, r3)) :
    Calls Tryd.prog 17 #[.agg #[.int .i64 a0_0, .slice A0_1 l0_1.length c0_1], .agg #[.int .i64 a1_0, .slice A1_1 l1_1.length c1_1], .agg #[.slice A2_0 l2_0.length c2_0, .slice A2_1 l2_1.length c2_1]] w fun e w' => ∃ v0_ v1_ : Value, e = .returned (.agg #[v0_, v1_, .int .i64 r3]) ∧ Kd.R (Kd.int .i64) 3 w' w.heap.size (fun k_ => some k_ ≠ (v1_ : Value).ownBlock) v0_ r1 ∧ Kd.R (Kd.int .i64) 3 w' w.heap.size (fun k_ => some k_ ≠ (v0_ : Value).ownBlock) v1_ r2 ∧ Below w.heap.size w w' := by
  have hu29 := Tryd.underlying29
  have hu53 := Tryd.underlying53
  have hu42 := Tryd.underlying42
  have hu39 := Tryd.underlying39
  have HR0_1 := Aside0.mk hr0_1
  have HC0_1 := Aside0.mk hc0_1
  clear hr0_1 hc0_1
  have HR1_1 := Aside0.mk hr1_1
  have HC1_1 := Aside0.mk hc1_1
  clear hr1_1 hc1_1
  have HR2_0 := Aside0.mk hr2_0
  have HC2_0 := Aside0.mk hc2_0
  clear hr2_0 hc2_0
  have HR2_1 := Aside0.mk hr2_1
  have HC2_1 := Aside0.mk hc2_1
  clear hr2_1 hc2_1
  have HB := Aside0.mk (Below.refl w.heap.size w)
  have H : ((embed_Of.f a0_0 l0_1 a1_0 l1_1 l2_0 l2_1).bind fun bt165 => (some (bt165.1, bt165.2.1, bt165.2.2))) = some (r1, r2, r3) := h
  clear h
  replace H := Option.bind_eq_some_iff.mp H
  obtain ⟨⟨t165, t168, t171⟩, A40, H⟩ := H
  replace H : (some (t165, t168, t171)) = some (r1, r2, r3) := H
  have A4 := Aside0.mk A40
  clear A40
  simp only [Option.some.injEq, Prod.mk.injEq] at H
  obtain ⟨rfl, rfl, rfl⟩ := H
  go_enter Tryd.func17, Tryd.ntmps17
  go_wp2_with (first | ((with_reducible refine gate_dst (N := 3) rfl ?_); refine box_event ?hg (N := 3) ?hd (cs := #[.int .i64 a0_0, .slice A0_1 l0_1.length c0_1]) (t := 29) ?hr ?_; (case hd => rfl); (case hg => rfl); (case hr => first | (go_simp; done) | (go_simp; rfl)); intro gb161 hg w5 hbox hb; have n0_ := Aside0.mk (below_step (by repeat (first | (with_reducible first | exact HB.out | apply below_alloc | apply pw_below_drewN | apply below_drew1) | exact HB.out)) hb); have n1_ := Aside0.mk (hbox); have n2_ := Aside0.mk ((by rw [hg]; exact (below_size (by repeat (first | (with_reducible first | exact HB.out | apply below_alloc | apply pw_below_drewN | apply below_drew1) | exact HB.out))) : w.heap.size ≤ gb161)); have n3_ := Aside0.mk ((by rw [hg]; exact (below_size (by repeat (first | (with_reducible first | exact HB.out | apply below_alloc | apply pw_below_drewN | apply below_drew1) | exact HB.out))) : w.heap.size ≤ gb161)); clear HB; have HB := n0_; have BK161 := n1_; have GW161 := n2_; have GE161 := n3_; clear n0_ n1_ n2_ n3_; clear hb hbox hg) | ((with_reducible refine gate_dst (N := 4) rfl ?_); refine box_event ?hg (N := 4) ?hd (cs := #[.int .i64 a1_0, .slice A1_1 l1_1.length c1_1]) (t := 29) ?hr ?_; (case hd => rfl); (case hg => rfl); (case hr => first | (go_simp; done) | (go_simp; rfl)); intro gb162 hg w6 hbox hb; have n0_ := Aside0.mk (blk_below (g := gb161) (o := .cells #[.int .i64 a0_0, .slice A0_1 l0_1.length c0_1] 29 (0, 0)) (by (with_reducible repeat (first | refine blk_drewN ?_ _ | refine blk_drew ?_ | refine blk_alloc ?_ _)); exact BK161.out) hb); have n1_ := Aside0.mk (below_step (by repeat (first | (with_reducible first | exact HB.out | apply below_alloc | apply pw_below_drewN | apply below_drew1 | refine below_set ?_ GE161.out) | exact HB.out)) hb); have n2_ := Aside0.mk (hbox); have n3_ := Aside0.mk ((by rw [hg]; exact (below_size (by repeat (first | (with_reducible first | exact HB.out | apply below_alloc | apply pw_below_drewN | apply below_drew1 | refine below_set ?_ GE161.out) | exact HB.out))) : w.heap.size ≤ gb162)); have n4_ := Aside0.mk ((by rw [hg]; exact (below_size (by repeat (first | (with_reducible first | exact HB.out | apply below_alloc | apply pw_below_drewN | apply below_drew1 | refine below_set ?_ GE161.out) | exact HB.out))) : w.heap.size ≤ gb162)); have n5_ := Aside0.mk ((by rw [hg]; exact Nat.ne_of_lt (blk_lt (g := gb161) (o := .cells #[.int .i64 a0_0, .slice A0_1 l0_1.length c0_1] 29 (0, 0)) (by (with_reducible repeat (first | refine blk_drewN ?_ _ | refine blk_drew ?_ | refine blk_alloc ?_ _)); exact BK161.out)) : gb161 ≠ gb162)); have n6_ := Aside0.mk ((by rw [hg]; exact Nat.ne_of_gt (blk_lt (g := gb161) (o := .cells #[.int .i64 a0_0, .slice A0_1 l0_1.length c0_1] 29 (0, 0)) (by (with_reducible repeat (first | refine blk_drewN ?_ _ | refine blk_drew ?_ | refine blk_alloc ?_ _)); exact BK161.out)) : gb162 ≠ gb161)); clear BK161; clear HB; have BK161 := n0_; have HB := n1_; have BK162 := n2_; have GW162 := n3_; have GE162 := n4_; have NB161_162 := n5_; have NB162_161 := n6_; clear n0_ n1_ n2_ n3_ n4_ n5_ n6_; clear hb hbox hg) | ((with_reducible refine gate_dst (N := 5) rfl ?_); refine box_event ?hg (N := 5) ?hd (cs := #[.slice A2_0 l2_0.length c2_0, .slice A2_1 l2_1.length c2_1]) (t := 53) ?hr ?_; (case hd => rfl); (case hg => rfl); (case hr => first | (go_simp; done) | (go_simp; rfl)); intro gb163 hg w7 hbox hb; have n0_ := Aside0.mk (blk_below (g := gb161) (o := .cells #[.int .i64 a0_0, .slice A0_1 l0_1.length c0_1] 29 (0, 0)) (by (with_reducible repeat (first | refine blk_drewN ?_ _ | refine blk_drew ?_ | refine blk_alloc ?_ _)); exact BK161.out) hb); have n1_ := Aside0.mk (blk_below (g := gb162) (o := .cells #[.int .i64 a1_0, .slice A1_1 l1_1.length c1_1] 29 (0, 0)) (by (with_reducible repeat (first | refine blk_drewN ?_ _ | refine blk_drew ?_ | refine blk_alloc ?_ _)); exact BK162.out) hb); have n2_ := Aside0.mk (below_step (by repeat (first | (with_reducible first | exact HB.out | apply below_alloc | apply pw_below_drewN | apply below_drew1 | refine below_set ?_ GE161.out | refine below_set ?_ GE162.out) | exact HB.out)) hb); have n3_ := Aside0.mk (hbox); have n4_ := Aside0.mk ((by rw [hg]; exact (below_size (by repeat (first | (with_reducible first | exact HB.out | apply below_alloc | apply pw_below_drewN | apply below_drew1 | refine below_set ?_ GE161.out | refine below_set ?_ GE162.out) | exact HB.out))) : w.heap.size ≤ gb163)); have n5_ := Aside0.mk ((by rw [hg]; exact (below_size (by repeat (first | (with_reducible first | exact HB.out | apply below_alloc | apply pw_below_drewN | apply below_drew1 | refine below_set ?_ GE161.out | refine below_set ?_ GE162.out) | exact HB.out))) : w.heap.size ≤ gb163)); have n6_ := Aside0.mk ((by rw [hg]; exact Nat.ne_of_lt (blk_lt (g := gb161) (o := .cells #[.int .i64 a0_0, .slice A0_1 l0_1.length c0_1] 29 (0, 0)) (by (with_reducible repeat (first | refine blk_drewN ?_ _ | refine blk_drew ?_ | refine blk_alloc ?_ _)); exact BK161.out)) : gb161 ≠ gb163)); have n7_ := Aside0.mk ((by rw [hg]; exact Nat.ne_of_gt (blk_lt (g := gb161) (o := .cells #[.int .i64 a0_0, .slice A0_1 l0_1.length c0_1] 29 (0, 0)) (by (with_reducible repeat (first | refine blk_drewN ?_ _ | refine blk_drew ?_ | refine blk_alloc ?_ _)); exact BK161.out)) : gb163 ≠ gb161)); have n8_ := Aside0.mk ((by rw [hg]; exact Nat.ne_of_lt (blk_lt (g := gb162) (o := .cells #[.int .i64 a1_0, .slice A1_1 l1_1.length c1_1] 29 (0, 0)) (by (with_reducible repeat (first | refine blk_drewN ?_ _ | refine blk_drew ?_ | refine blk_alloc ?_ _)); exact BK162.out)) : gb162 ≠ gb163)); have n9_ := Aside0.mk ((by rw [hg]; exact Nat.ne_of_gt (blk_lt (g := gb162) (o := .cells #[.int .i64 a1_0, .slice A1_1 l1_1.length c1_1] 29 (0, 0)) (by (with_reducible repeat (first | refine blk_drewN ?_ _ | refine blk_drew ?_ | refine blk_alloc ?_ _)); exact BK162.out)) : gb163 ≠ gb162)); clear BK161; clear BK162; clear HB; have BK161 := n0_; have BK162 := n1_; have HB := n2_; have BK163 := n3_; have GW163 := n4_; have GE163 := n5_; have NB161_163 := n6_; have NB163_161 := n7_; have NB162_163 := n8_; have NB163_162 := n9_; clear n0_ n1_ n2_ n3_ n4_ n5_ n6_ n7_ n8_ n9_; clear hb hbox hg) | ((with_reducible refine gate_dst (N := 6) rfl ?_); refine box_event ?hg (N := 6) ?hd (cs := #[.slice none 0 0, .slice none 0 0, .int .i64 0]) (t := 42) ?hr ?_; (case hd => rfl); (case hg => rfl); (case hr => first | (go_simp; done) | (go_simp; rfl)); intro gb164 hg w8 hbox hb; have n0_ := Aside0.mk (blk_below (g := gb161) (o := .cells #[.int .i64 a0_0, .slice A0_1 l0_1.length c0_1] 29 (0, 0)) (by (with_reducible repeat (first | refine blk_drewN ?_ _ | refine blk_drew ?_ | refine blk_alloc ?_ _)); exact BK161.out) hb); have n1_ := Aside0.mk (blk_below (g := gb162) (o := .cells #[.int .i64 a1_0, .slice A1_1 l1_1.length c1_1] 29 (0, 0)) (by (with_reducible repeat (first | refine blk_drewN ?_ _ | refine blk_drew ?_ | refine blk_alloc ?_ _)); exact BK162.out) hb); have n2_ := Aside0.mk (blk_below (g := gb163) (o := .cells #[.slice A2_0 l2_0.length c2_0, .slice A2_1 l2_1.length c2_1] 53 (0, 0)) (by (with_reducible repeat (first | refine blk_drewN ?_ _ | refine blk_drew ?_ | refine blk_alloc ?_ _)); exact BK163.out) hb); have n3_ := Aside0.mk (below_step (by repeat (first | (with_reducible first | exact HB.out | apply below_alloc | apply pw_below_drewN | apply below_drew1 | refine below_set ?_ GE161.out | refine below_set ?_ GE162.out | refine below_set ?_ GE163.out) | exact HB.out)) hb); have n4_ := Aside0.mk (hbox); have n5_ := Aside0.mk ((by rw [hg]; exact (below_size (by repeat (first | (with_reducible first | exact HB.out | apply below_alloc | apply pw_below_drewN | apply below_drew1 | refine below_set ?_ GE161.out | refine below_set ?_ GE162.out | refine below_set ?_ GE163.out) | exact HB.out))) : w.heap.size ≤ gb164)); have n6_ := Aside0.mk ((by rw [hg]; exact (below_size (by repeat (first | (with_reducible first | exact HB.out | apply below_alloc | apply pw_below_drewN | apply below_drew1 | refine below_set ?_ GE161.out | refine below_set ?_ GE162.out | refine below_set ?_ GE163.out) | exact HB.out))) : w.heap.size ≤ gb164)); have n7_ := Aside0.mk ((by rw [hg]; exact Nat.ne_of_lt (blk_lt (g := gb161) (o := .cells #[.int .i64 a0_0, .slice A0_1 l0_1.length c0_1] 29 (0, 0)) (by (with_reducible repeat (first | refine blk_drewN ?_ _ | refine blk_drew ?_ | refine blk_alloc ?_ _)); exact BK161.out)) : gb161 ≠ gb164)); have n8_ := Aside0.mk ((by rw [hg]; exact Nat.ne_of_gt (blk_lt (g := gb161) (o := .cells #[.int .i64 a0_0, .slice A0_1 l0_1.length c0_1] 29 (0, 0)) (by (with_reducible repeat (first | refine blk_drewN ?_ _ | refine blk_drew ?_ | refine blk_alloc ?_ _)); exact BK161.out)) : gb164 ≠ gb161)); have n9_ := Aside0.mk ((by rw [hg]; exact Nat.ne_of_lt (blk_lt (g := gb162) (o := .cells #[.int .i64 a1_0, .slice A1_1 l1_1.length c1_1] 29 (0, 0)) (by (with_reducible repeat (first | refine blk_drewN ?_ _ | refine blk_drew ?_ | refine blk_alloc ?_ _)); exact BK162.out)) : gb162 ≠ gb164)); have n10_ := Aside0.mk ((by rw [hg]; exact Nat.ne_of_gt (blk_lt (g := gb162) (o := .cells #[.int .i64 a1_0, .slice A1_1 l1_1.length c1_1] 29 (0, 0)) (by (with_reducible repeat (first | refine blk_drewN ?_ _ | refine blk_drew ?_ | refine blk_alloc ?_ _)); exact BK162.out)) : gb164 ≠ gb162)); have n11_ := Aside0.mk ((by rw [hg]; exact Nat.ne_of_lt (blk_lt (g := gb163) (o := .cells #[.slice A2_0 l2_0.length c2_0, .slice A2_1 l2_1.length c2_1] 53 (0, 0)) (by (with_reducible repeat (first | refine blk_drewN ?_ _ | refine blk_drew ?_ | refine blk_alloc ?_ _)); exact BK163.out)) : gb163 ≠ gb164)); have n12_ := Aside0.mk ((by rw [hg]; exact Nat.ne_of_gt (blk_lt (g := gb163) (o := .cells #[.slice A2_0 l2_0.length c2_0, .slice A2_1 l2_1.length c2_1] 53 (0, 0)) (by (with_reducible repeat (first | refine blk_drewN ?_ _ | refine blk_drew ?_ | refine blk_alloc ?_ _)); exact BK163.out)) : gb164 ≠ gb163)); clear BK161; clear BK162; clear BK163; clear HB; have BK161 := n0_; have BK162 := n1_; have BK163 := n2_; have HB := n3_; have BK164 := n4_; have GW164 := n5_; have GE164 := n6_; have NB161_164 := n7_; have NB164_161 := n8_; have NB162_164 := n9_; have NB164_162 := n10_; have NB163_164 := n11_; have NB164_163 := n12_; clear n0_ n1_ n2_ n3_ n4_ n5_ n6_ n7_ n8_ n9_ n10_ n11_ n12_; clear hb hbox hg; have hnb9 := NB161_162.out; have hnc9 := NB162_161.out; have hnb10 := NB161_163.out; have hnc10 := NB163_161.out; have hnb11 := NB161_164.out; have hnc11 := NB164_161.out; have hcz12_0 : w8.cell? ⟨gb161, 0, none⟩ = some (.int .i64 a0_0) := (blk_cell BK161.out 0).trans rfl; have hcz12_1 : w8.cell? ⟨gb161, 1, none⟩ = some (.slice A0_1 l0_1.length c0_1) := (blk_cell BK161.out 1).trans rfl; have hfz12_0 := blk_frozen BK161.out 0; have hfz12_1 := blk_frozen BK161.out 1; have hnb13 := NB162_163.out; have hnc13 := NB163_162.out; have hnb14 := NB162_164.out; have hnc14 := NB164_162.out; have hcz15_0 : w8.cell? ⟨gb162, 0, none⟩ = some (.int .i64 a1_0) := (blk_cell BK162.out 0).trans rfl; have hcz15_1 : w8.cell? ⟨gb162, 1, none⟩ = some (.slice A1_1 l1_1.length c1_1) := (blk_cell BK162.out 1).trans rfl; have hfz15_0 := blk_frozen BK162.out 0; have hfz15_1 := blk_frozen BK162.out 1; have hnb16 := NB163_164.out; have hnc16 := NB164_163.out; have hcz17_0 : w8.cell? ⟨gb163, 0, none⟩ = some (.slice A2_0 l2_0.length c2_0) := (blk_cell BK163.out 0).trans rfl; have hcz17_1 : w8.cell? ⟨gb163, 1, none⟩ = some (.slice A2_1 l2_1.length c2_1) := (blk_cell BK163.out 1).trans rfl; have hfz17_0 := blk_frozen BK163.out 0; have hfz17_1 := blk_frozen BK163.out 1) | ((with_reducible refine gate_callee (f := 35) rfl ?_); refine goesL_ (some 16) rfl rfl Tryd.func35 (by kernel_rfl) rfl #[.agg #[.int .i64 a0_0, .slice A0_1 l0_1.length c0_1], .agg #[.int .i64 a1_0, .slice A1_1 l1_1.length c1_1], .slice A2_0 l2_0.length c2_0, .slice A2_1 l2_1.length c2_1] rfl (by (try simp only [List.map_toArray, List.map_cons, List.map_nil]); first | done | rfl | (simp only [List.length_drop, List.length_take]; rfl)) ?_; (with_reducible refine (embed_Of.calls a0_0 _ _ l0_1 a1_0 _ _ l1_1 _ _ l2_0 _ _ l2_1 t165 t168 t171 _ ?side1 ?side2 ?side3 ?side4 ?side5 ?side6 ?side7 ?side8 A4.out).mono ?_); (case side1 => repeat (first | exact (Kd.C_below HR0_1.out HB.out) | (with_reducible refine Kd.C_alloc ?_ _) | (with_reducible refine Kd.C_drewN ?_ _) | (with_reducible refine Kd.C_drew ?_))); (case side2 => exact HC0_1.out); (case side3 => repeat (first | exact (Kd.C_below HR1_1.out HB.out) | (with_reducible refine Kd.C_alloc ?_ _) | (with_reducible refine Kd.C_drewN ?_ _) | (with_reducible refine Kd.C_drew ?_))); (case side4 => exact HC1_1.out); (case side5 => repeat (first | exact (Kd.C_below HR2_0.out HB.out) | (with_reducible refine Kd.C_alloc ?_ _) | (with_reducible refine Kd.C_drewN ?_ _) | (with_reducible refine Kd.C_drew ?_))); (case side6 => exact HC2_0.out); (case side7 => repeat (first | exact (Kd.C_below HR2_1.out HB.out) | (with_reducible refine Kd.C_alloc ?_ _) | (with_reducible refine Kd.C_drewN ?_ _) | (with_reducible refine Kd.C_drew ?_))); (case side8 => exact HC2_1.out); rintro e w18 ⟨v166, v169, rfl, ho0, ho1, hb⟩; refine ⟨_, rfl, ?_⟩; have n0_ := Aside0.mk (Kd.R_lower ho0 (below_size (by repeat (first | (with_reducible first | exact HB.out | apply below_alloc | apply pw_below_drewN | apply below_drew1 | refine below_set ?_ GE161.out | refine below_set ?_ GE162.out | refine below_set ?_ GE163.out | refine below_set ?_ GE164.out) | exact HB.out)))); have n1_ := Aside0.mk (Kd.R_lower ho1 (below_size (by repeat (first | (with_reducible first | exact HB.out | apply below_alloc | apply pw_below_drewN | apply below_drew1 | refine below_set ?_ GE161.out | refine below_set ?_ GE162.out | refine below_set ?_ GE163.out | refine below_set ?_ GE164.out) | exact HB.out)))); have n2_ := Aside0.mk (blk_below (g := gb161) (o := .cells #[.int .i64 a0_0, .slice A0_1 l0_1.length c0_1] 29 (0, 0)) (by (with_reducible repeat (first | refine blk_drewN ?_ _ | refine blk_drew ?_ | refine blk_alloc ?_ _)); exact BK161.out) hb); have n3_ := Aside0.mk (blk_below (g := gb162) (o := .cells #[.int .i64 a1_0, .slice A1_1 l1_1.length c1_1] 29 (0, 0)) (by (with_reducible repeat (first | refine blk_drewN ?_ _ | refine blk_drew ?_ | refine blk_alloc ?_ _)); exact BK162.out) hb); have n4_ := Aside0.mk (blk_below (g := gb163) (o := .cells #[.slice A2_0 l2_0.length c2_0, .slice A2_1 l2_1.length c2_1] 53 (0, 0)) (by (with_reducible repeat (first | refine blk_drewN ?_ _ | refine blk_drew ?_ | refine blk_alloc ?_ _)); exact BK163.out) hb); have n5_ := Aside0.mk (blk_below (g := gb164) (o := .cells #[.slice none 0 0, .slice none 0 0, .int .i64 0] 42 (0, 0)) (by (with_reducible repeat (first | refine blk_drewN ?_ _ | refine blk_drew ?_ | refine blk_alloc ?_ _)); exact BK164.out) hb); have n6_ := Aside0.mk (below_step (by repeat (first | (with_reducible first | exact HB.out | apply below_alloc | apply pw_below_drewN | apply below_drew1 | refine below_set ?_ GE161.out | refine below_set ?_ GE162.out | refine below_set ?_ GE163.out | refine below_set ?_ GE164.out) | exact HB.out)) hb); clear BK161; clear BK162; clear BK163; clear BK164; clear HB; have HO167 := n0_; have HO170 := n1_; have BK161 := n2_; have BK162 := n3_; have BK163 := n4_; have BK164 := n5_; have HB := n6_; clear n0_ n1_ n2_ n3_ n4_ n5_ n6_; (try clear hb); (try clear hb2); (try clear hk); (try clear hi); (try clear ho0); (try clear ho1)) | ((with_reducible refine gate_dst (N := 7) rfl ?_); refine box_event ?hg (N := 7) ?hd (cs := #[.slice none 0 0, .slice none 0 0]) (t := 39) ?hr ?_; (case hd => rfl); (case hg => rfl); (case hr => first | (go_simp; done) | (go_simp; rfl)); intro gb172 hg w19 hbox hb; have n0_ := Aside0.mk (Kd.R_below (by (with_reducible repeat (first | apply Kd.R_alloc | apply Kd.R_drewN | apply Kd.R_drew)); exact HO167.out) hb); have n1_ := Aside0.mk (Kd.R_below (by (with_reducible repeat (first | apply Kd.R_alloc | apply Kd.R_drewN | apply Kd.R_drew)); exact HO170.out) hb); have n2_ := Aside0.mk (blk_below (g := gb161) (o := .cells #[.int .i64 a0_0, .slice A0_1 l0_1.length c0_1] 29 (0, 0)) (by (with_reducible repeat (first | refine blk_drewN ?_ _ | refine blk_drew ?_ | refine blk_alloc ?_ _)); exact BK161.out) hb); have n3_ := Aside0.mk (blk_below (g := gb162) (o := .cells #[.int .i64 a1_0, .slice A1_1 l1_1.length c1_1] 29 (0, 0)) (by (with_reducible repeat (first | refine blk_drewN ?_ _ | refine blk_drew ?_ | refine blk_alloc ?_ _)); exact BK162.out) hb); have n4_ := Aside0.mk (blk_below (g := gb163) (o := .cells #[.slice A2_0 l2_0.length c2_0, .slice A2_1 l2_1.length c2_1] 53 (0, 0)) (by (with_reducible repeat (first | refine blk_drewN ?_ _ | refine blk_drew ?_ | refine blk_alloc ?_ _)); exact BK163.out) hb); have n5_ := Aside0.mk (blk_below (g := gb164) (o := .cells #[.slice none 0 0, .slice none 0 0, .int .i64 0] 42 (0, 0)) (by (with_reducible repeat (first | refine blk_drewN ?_ _ | refine blk_drew ?_ | refine blk_alloc ?_ _)); exact BK164.out) hb); have n6_ := Aside0.mk (below_step (by repeat (first | (with_reducible first | exact HB.out | apply below_alloc | apply pw_below_drewN | apply below_drew1 | refine below_set ?_ GE161.out | refine below_set ?_ GE162.out | refine below_set ?_ GE163.out | refine below_set ?_ GE164.out) | exact HB.out)) hb); have n7_ := Aside0.mk (hbox); have n8_ := Aside0.mk ((by rw [hg]; exact (below_size (by repeat (first | (with_reducible first | exact HB.out | apply below_alloc | apply pw_below_drewN | apply below_drew1 | refine below_set ?_ GE161.out | refine below_set ?_ GE162.out | refine below_set ?_ GE163.out | refine below_set ?_ GE164.out) | exact HB.out))) : w.heap.size ≤ gb172)); have n9_ := Aside0.mk ((by rw [hg]; exact (below_size (by repeat (first | (with_reducible first | exact HB.out | apply below_alloc | apply pw_below_drewN | apply below_drew1 | refine below_set ?_ GE161.out | refine below_set ?_ GE162.out | refine below_set ?_ GE163.out | refine below_set ?_ GE164.out) | exact HB.out))) : w.heap.size ≤ gb172)); have n10_ := Aside0.mk ((by rw [hg]; exact Nat.ne_of_lt (blk_lt (g := gb161) (o := .cells #[.int .i64 a0_0, .slice A0_1 l0_1.length c0_1] 29 (0, 0)) (by (with_reducible repeat (first | refine blk_drewN ?_ _ | refine blk_drew ?_ | refine blk_alloc ?_ _)); exact BK161.out)) : gb161 ≠ gb172)); have n11_ := Aside0.mk ((by rw [hg]; exact Nat.ne_of_gt (blk_lt (g := gb161) (o := .cells #[.int .i64 a0_0, .slice A0_1 l0_1.length c0_1] 29 (0, 0)) (by (with_reducible repeat (first | refine blk_drewN ?_ _ | refine blk_drew ?_ | refine blk_alloc ?_ _)); exact BK161.out)) : gb172 ≠ gb161)); have n12_ := Aside0.mk ((by rw [hg]; exact Nat.ne_of_lt (blk_lt (g := gb162) (o := .cells #[.int .i64 a1_0, .slice A1_1 l1_1.length c1_1] 29 (0, 0)) (by (with_reducible repeat (first | refine blk_drewN ?_ _ | refine blk_drew ?_ | refine blk_alloc ?_ _)); exact BK162.out)) : gb162 ≠ gb172)); have n13_ := Aside0.mk ((by rw [hg]; exact Nat.ne_of_gt (blk_lt (g := gb162) (o := .cells #[.int .i64 a1_0, .slice A1_1 l1_1.length c1_1] 29 (0, 0)) (by (with_reducible repeat (first | refine blk_drewN ?_ _ | refine blk_drew ?_ | refine blk_alloc ?_ _)); exact BK162.out)) : gb172 ≠ gb162)); have n14_ := Aside0.mk ((by rw [hg]; exact Nat.ne_of_lt (blk_lt (g := gb163) (o := .cells #[.slice A2_0 l2_0.length c2_0, .slice A2_1 l2_1.length c2_1] 53 (0, 0)) (by (with_reducible repeat (first | refine blk_drewN ?_ _ | refine blk_drew ?_ | refine blk_alloc ?_ _)); exact BK163.out)) : gb163 ≠ gb172)); have n15_ := Aside0.mk ((by rw [hg]; exact Nat.ne_of_gt (blk_lt (g := gb163) (o := .cells #[.slice A2_0 l2_0.length c2_0, .slice A2_1 l2_1.length c2_1] 53 (0, 0)) (by (with_reducible repeat (first | refine blk_drewN ?_ _ | refine blk_drew ?_ | refine blk_alloc ?_ _)); exact BK163.out)) : gb172 ≠ gb163)); have n16_ := Aside0.mk ((by rw [hg]; exact Nat.ne_of_lt (blk_lt (g := gb164) (o := .cells #[.slice none 0 0, .slice none 0 0, .int .i64 0] 42 (0, 0)) (by (with_reducible repeat (first | refine blk_drewN ?_ _ | refine blk_drew ?_ | refine blk_alloc ?_ _)); exact BK164.out)) : gb164 ≠ gb172)); have n17_ := Aside0.mk ((by rw [hg]; exact Nat.ne_of_gt (blk_lt (g := gb164) (o := .cells #[.slice none 0 0, .slice none 0 0, .int .i64 0] 42 (0, 0)) (by (with_reducible repeat (first | refine blk_drewN ?_ _ | refine blk_drew ?_ | refine blk_alloc ?_ _)); exact BK164.out)) : gb172 ≠ gb164)); clear HO167; clear HO170; clear BK161; clear BK162; clear BK163; clear BK164; clear HB; have HO167 := n0_; have HO170 := n1_; have BK161 := n2_; have BK162 := n3_; have BK163 := n4_; have BK164 := n5_; have HB := n6_; have BK172 := n7_; have GW172 := n8_; have GE172 := n9_; have NB161_172 := n10_; have NB172_161 := n11_; have NB162_172 := n12_; have NB172_162 := n13_; have NB163_172 := n14_; have NB172_163 := n15_; have NB164_172 := n16_; have NB172_164 := n17_; clear n0_ n1_ n2_ n3_ n4_ n5_ n6_ n7_ n8_ n9_ n10_ n11_ n12_ n13_ n14_ n15_ n16_ n17_; clear hb hbox hg; obtain ⟨Ao20, co20, eo20⟩ := Kd.R_slice HO167.out; subst eo20; have hnb21 := NB172_161.out; have hnc21 := NB161_172.out; have hnb22 := NB172_162.out; have hnc22 := NB162_172.out; have hnb23 := NB172_163.out; have hnc23 := NB163_172.out; have hnb24 := NB172_164.out; have hnc24 := NB164_172.out; have hcz25_0 : w19.cell? ⟨gb172, 0, none⟩ = some (.slice none 0 0) := (blk_cell BK172.out 0).trans rfl; have hcz25_1 : w19.cell? ⟨gb172, 1, none⟩ = some (.slice none 0 0) := (blk_cell BK172.out 1).trans rfl; have hfz25_0 := blk_frozen BK172.out 0; have hfz25_1 := blk_frozen BK172.out 1; obtain ⟨Ao26, co26, eo26⟩ := Kd.R_slice HO170.out; subst eo26; have hcz27_0 : w19.cell? ⟨gb164, 0, none⟩ = some (.slice none 0 0) := (blk_cell BK164.out 0).trans rfl; have hcz27_1 : w19.cell? ⟨gb164, 1, none⟩ = some (.slice none 0 0) := (blk_cell BK164.out 1).trans rfl; have hcz27_2 : w19.cell? ⟨gb164, 2, none⟩ = some (.int .i64 0) := (blk_cell BK164.out 2).trans rfl; have hfz27_0 := blk_frozen BK164.out 0; have hfz27_1 := blk_frozen BK164.out 1; have hfz27_2 := blk_frozen BK164.out 2))
  refine bodyPost_ret (results_cell_row rfl _ _ gb164 42 #[.slice Ao20 t165.length co20, .slice Ao26 t168.length co26, .int .i64 t171] (0, 0) _ rfl (by (with_reducible repeat (first | refine blk_drewN ?_ _ | refine blk_drew ?_ | refine blk_alloc ?_ _)); refine blk_put (cs := #[.slice Ao20 t165.length co20, .slice Ao26 t168.length co26, .int .i64 0]) ?_ 2 _ rfl; (with_reducible repeat (first | refine blk_drewN ?_ _ | refine blk_drew ?_ | refine blk_alloc ?_ _)); refine blk_put (cs := #[.slice Ao20 t165.length co20, .slice none 0 0, .int .i64 0]) ?_ 1 _ rfl; (with_reducible repeat (first | refine blk_drewN ?_ _ | refine blk_drew ?_ | refine blk_alloc ?_ _)); refine blk_put (cs := #[.slice none 0 0, .slice none 0 0, .int .i64 0]) ?_ 0 _ rfl; (with_reducible repeat (first | refine blk_drewN ?_ _ | refine blk_drew ?_ | refine blk_alloc ?_ _)); refine blk_far ?_ NB164_172.out _; (with_reducible repeat (first | refine blk_drewN ?_ _ | refine blk_drew ?_ | refine blk_alloc ?_ _)); refine blk_far ?_ NB164_172.out _; (with_reducible repeat (first | refine blk_drewN ?_ _ | refine blk_drew ?_ | refine blk_alloc ?_ _)); exact BK164.out) Tryd.underlying42 rfl (by kernel_rfl)) rfl ?_
  exact ⟨_, _, by first | rfl | (simp [errW_none, errW_some] <;> rfl) | (simp [*, errW_none, errW_some] <;> rfl), by (with_reducible repeat (first | apply Kd.R_alloc | apply Kd.R_drewN | apply Kd.R_drew)); exact Kd.R_mono (Kd.R_far (p := ⟨gb164, 2, none⟩) (Kd.R_far (p := ⟨gb164, 1, none⟩) (Kd.R_far (p := ⟨gb164, 0, none⟩) (Kd.R_far (p := ⟨gb172, 1, none⟩) (Kd.R_far (p := ⟨gb172, 0, none⟩) (Kd.R_types (Kd.R_types HO167.out BK172.out (by decide)) BK164.out (by decide)) (fun _ hk => hk.1.2) (.slice Ao20 t165.length co20)) (fun _ hk => hk.1.2) (.slice Ao26 t168.length co26)) (fun _ hk => hk.2) (.slice Ao20 t165.length co20)) (fun _ hk => hk.2) (.slice Ao26 t168.length co26)) (fun _ hk => hk.2) (.int .i64 t171)) (fun _ hk => hk.1.1), by (with_reducible repeat (first | apply Kd.R_alloc | apply Kd.R_drewN | apply Kd.R_drew)); exact Kd.R_mono (Kd.R_far (p := ⟨gb164, 2, none⟩) (Kd.R_far (p := ⟨gb164, 1, none⟩) (Kd.R_far (p := ⟨gb164, 0, none⟩) (Kd.R_far (p := ⟨gb172, 1, none⟩) (Kd.R_far (p := ⟨gb172, 0, none⟩) (Kd.R_types (Kd.R_types HO170.out BK172.out (by decide)) BK164.out (by decide)) (fun _ hk => hk.1.2) (.slice Ao20 t165.length co20)) (fun _ hk => hk.1.2) (.slice Ao26 t168.length co26)) (fun _ hk => hk.2) (.slice Ao20 t165.length co20)) (fun _ hk => hk.2) (.slice Ao26 t168.length co26)) (fun _ hk => hk.2) (.int .i64 t171)) (fun _ hk => hk.1.1), by repeat (first | (with_reducible first | exact HB.out | apply below_alloc | apply pw_below_drewN | apply below_drew1 | refine below_set ?_ GE161.out | refine below_set ?_ GE162.out | refine below_set ?_ GE163.out | refine below_set ?_ GE164.out | refine below_set ?_ GE172.out) | exact HB.out)⟩

end Go.Proofs.YtheclfjbedajfaaDoor.Pd


namespace Go.Proofs.YtheclfjbedajfaaDoor.Pd
set_option linter.unusedSimpArgs false
set_option linter.unusedVariables false
open Go.RowKit Go.Lib Go.Shelf Go.Proofs.YtheclfjbedajfaaDoorW.PrintWords Go.Proofs.YtheclfjbedajfaaDoor
attribute [local go_sem] Oper.semAt_some

abbrev tG : TypeId := 42
/-- A row of ints, made from a base on. -/
def rowR (B : Nat) (w : World) (v : Value) (xs : List Int) : Prop := Kd.R (Kd.int .i64) 3 w B (fun _ => True) v xs
theorem rowR.below {B : Nat} {w w' : World} {v : Value} {xs : List Int} (h : rowR B w v xs) (hb : Below w.heap.size w w') : rowR B w' v xs := Kd.R_below h hb
theorem rowR.set {B g t i : Nat} {w : World} {v : Value} {xs : List Int} {cs : Array Value} (h : rowR B w v xs) (hb : Blk w g t cs) (ht : 3 ≠ t) (u : Value) : rowR B (w.setCell ⟨g, i, none⟩ u) v xs := by
  have h' : Kd.R (Kd.int .i64) 3 w B (fun k => k ≠ g) v xs := ⟨fun k hk e => Kd.R_ne h hb ht (by rw [hk, e]), h.2⟩
  exact Kd.R_mono (Kd.R_keep h' ((KeepBut.refl _ _ _).set_ i u) (fun k h => h)) (fun _ _ => trivial)
theorem rowR.lit {B : Nat} (W : World) (xs : List Int) (cs : Array Value) (hcs : cs = (nums .i64 xs).toArray) (hl : xs.length ≤ 1000) (hB : B ≤ W.heap.size) {n : Nat} (hn : n = xs.length) : rowR B (W.alloc (.cells cs 3)) (.slice (some ⟨W.heap.size, 0, none⟩) n n) xs := by
  subst hcs hn
  exact R_own (World.ownsRow_lit W _ _ hB (by unfold maxLen; omega) (by simp [nums]))
theorem rowR.of {B B' : Nat} {w : World} {v : Value} {xs : List Int} {ok : Nat → Prop} (h : Kd.R (Kd.int .i64) 3 w B' ok v xs) (hB : B ≤ B') : rowR B w v xs := Kd.R_mono (Kd.R_lower h hB) (fun _ _ => trivial)
theorem rowR.reads {B : Nat} {w : World} {v : Value} {xs : List Int} (h : rowR B w v xs) : ∃ A c, v = .slice A xs.length c ∧ xs.length ≤ c ∧ IC w A xs.length xs := Kd.R_reads h
theorem litU (W : World) (xs : List Int) (cs : Array Value) (hcs : cs = (nums .u64 xs).toArray) (hl : xs.length ≤ 1000) : (Kd.int .u64).C (W.alloc (.cells cs 25)) (some ⟨W.heap.size, 0, none⟩) xs.length xs := by
  subst hcs
  have ho : (W.alloc (.cells (nums .u64 xs).toArray 25)).ownsRow W.heap.size 25 1 (.slice (some ⟨W.heap.size, 0, none⟩) xs.length xs.length) xs.length (nums .u64 xs) :=
    World.ownsRow_lit W _ _ (Nat.le_refl _) (by unfold maxLen; omega) (by simp [nums])
  obtain ⟨A, c, e, _, hC⟩ := Kd.R_reads (R_own ho)
  injection e with e1 _ _
  subst e1
  exact hC
theorem litI (W : World) (xs : List Int) (cs : Array Value) (hcs : cs = (nums .i64 xs).toArray) (hl : xs.length ≤ 1000) : IC (W.alloc (.cells cs 3)) (some ⟨W.heap.size, 0, none⟩) xs.length xs := by
  obtain ⟨A, c, e, _, hC⟩ := (rowR.lit (B := W.heap.size) W xs cs hcs hl (Nat.le_refl _) rfl).reads
  injection e with e1 _ _
  subst e1
  exact hC
theorem lit2 (W : World) (xs ys : List Int) (cs ds : Array Value) (hcs : cs = (nums .i64 xs).toArray) (hds : ds = (nums .i64 ys).toArray) (hl : xs.length ≤ 1000) (hk : ys.length ≤ 1000) :
    IC ((W.alloc (.cells cs 3)).alloc (.cells ds 3)) (some ⟨W.heap.size, 0, none⟩) xs.length xs ∧ IC ((W.alloc (.cells cs 3)).alloc (.cells ds 3)) (some ⟨W.heap.size + 1, 0, none⟩) ys.length ys := by
  refine ⟨Kd.C_alloc (litI W xs cs hcs hl) _, ?_⟩
  have := litI (W.alloc (.cells cs 3)) ys ds hds hk
  simpa using this
theorem bt {w W W' : World} (h : Below w.heap.size w W) (h2 : Below W.heap.size W W') : Below w.heap.size w W' := below_then h h.size h2
/-- The answer of best: an embedding, without an error. -/
def isG (B : Nat) (w : World) (xs ms : List Int) (v : Value) : Prop := ∃ v1 v2, v = .agg #[v1, v2, .int .i64 0] ∧ rowR B w v1 xs ∧ rowR B w v2 ms
theorem isG.below {B : Nat} {w w' : World} {v : Value} {xs ms : List Int} (h : isG B w xs ms v) (hb : Below w.heap.size w w') : isG B w' xs ms v := by
  obtain ⟨v1, v2, e, h1, h2⟩ := h
  exact ⟨v1, v2, e, h1.below hb, h2.below hb⟩
def cellsG : Value → Array Value
  | .agg cs => cs
  | _ => #[]
def set3 (w : World) (g : Nat) (u1 u2 : Value) : World := ((w.setCell ⟨g, 0, none⟩ u1).setCell ⟨g, 1, none⟩ u2).setCell ⟨g, 2, none⟩ (.int .i64 0)
theorem rowR.set3 {B g : Nat} {w : World} {v : Value} {xs : List Int} {cs : Array Value} (h : rowR B w v xs) (hb : Blk w g tG cs) (u1 u2 : Value) : rowR B (set3 w g u1 u2) v xs :=
  ((h.set hb (by decide) u1).set (hb.set_ 0 u1) (by decide) u2).set ((hb.set_ 0 u1).set_ 1 u2) (by decide) _
theorem isG.set3 {B g : Nat} {w : World} {v : Value} {xs ms : List Int} {cs : Array Value} (h : isG B w xs ms v) (hb : Blk w g tG cs) (u1 u2 : Value) : isG B (Pd.set3 w g u1 u2) xs ms v := by
  obtain ⟨v1, v2, e, h1, h2⟩ := h
  exact ⟨v1, v2, e, h1.set3 hb u1 u2, h2.set3 hb u1 u2⟩
theorem set3_self {g : Nat} {w : World} {u1 u2 : Value} (hb : Blk w g tG #[.slice none 0 0, .slice none 0 0, .int .i64 0]) : Blk (set3 w g u1 u2) g tG #[u1, u2, .int .i64 0] := by
  have := ((hb.set_ 0 u1).set_ 1 u2).set_ 2 (.int .i64 0)
  simpa [Pd.set3] using this
theorem set3_far {g g' : Nat} {w : World} {t : TypeId} {cs : Array Value} (hb : Blk w g' t cs) (hne : g' ≠ g) (u1 u2 : Value) : Blk (set3 w g u1 u2) g' t cs :=
  ((hb.far (p := ⟨g, 0, none⟩) hne u1).far (p := ⟨g, 1, none⟩) hne u2).far (p := ⟨g, 2, none⟩) hne _
abbrev nilG : Array Value := #[.slice none 0 0, .slice none 0 0, .int .i64 0]
def isP (B : Nat) (w : World) (b : Bool) (y v : Value) : Prop := ∃ g, v = .pointer (some ⟨g, 0, none⟩) ∧ B ≤ g ∧ Blk w g tG (if b then cellsG y else nilG)
theorem isP.below {B : Nat} {w w' : World} {b : Bool} {y v : Value} (h : isP B w b y v) (hb : Below w.heap.size w w') : isP B w' b y v := by
  obtain ⟨g, e, h1, h2⟩ := h
  exact ⟨g, e, h1, h2.below hb h2.lt⟩
/-- What stands while region 2 is carried out in any order. -/
structure S2 (w1 : World) (AGA AGB : Value) (L : Nat → Bool) (w : World) (y0 y1 y2 y3 y4 y5 y6 y7 y8 y9 : Value) : Prop where
  bel : Below w1.heap.size w1 w
  h0 : L 0 = true → y0 = AGA
  h1 : L 1 = true → y1 = AGB
  h2 : L 2 = true → rowR w1.heap.size w y2 [1]
  h3 : L 3 = true → isG w1.heap.size w [1, 2] [-1, 0] y3
  h4 : L 4 = true → y4 = AGA
  h5 : L 5 = true → y5 = AGB
  h6 : L 6 = true → rowR w1.heap.size w y6 [1, 0]
  h7 : L 7 = true → isG w1.heap.size w [1, 2] [0, -1] y7
  h8 : L 8 = true → isP w1.heap.size w (L 10) y3 y8
  h9 : L 9 = true → isP w1.heap.size w (L 11) y7 y9
  hne : L 8 = true → L 9 = true → y8 ≠ y9
  d10 : L 10 = true → L 3 = true ∧ L 8 = true
  d11 : L 11 = true → L 7 = true ∧ L 9 = true
section
variable {w1 w w' : World} {AGA AGB : Value} {L : Nat → Bool} {y0 y1 y2 y3 y4 y5 y6 y7 y8 y9 v : Value}
theorem S2.n10 (h : S2 w1 AGA AGB L w y0 y1 y2 y3 y4 y5 y6 y7 y8 y9) (hf : L 3 = false ∨ L 8 = false) : L 10 = false := by
  cases e : L 10
  · rfl
  · obtain ⟨a, b⟩ := h.d10 e
    rcases hf with hf | hf <;> simp_all
theorem S2.n11 (h : S2 w1 AGA AGB L w y0 y1 y2 y3 y4 y5 y6 y7 y8 y9) (hf : L 7 = false ∨ L 9 = false) : L 11 = false := by
  cases e : L 11
  · rfl
  · obtain ⟨a, b⟩ := h.d11 e
    rcases hf with hf | hf <;> simp_all
theorem S2.op0 (h : S2 w1 AGA AGB L w y0 y1 y2 y3 y4 y5 y6 y7 y8 y9) : S2 w1 AGA AGB (put1 L 0) w AGA y1 y2 y3 y4 y5 y6 y7 y8 y9 := ⟨h.bel, fun _ => rfl, h.h1, h.h2, h.h3, h.h4, h.h5, h.h6, h.h7, h.h8, h.h9, h.hne, h.d10, h.d11⟩
theorem S2.op1 (h : S2 w1 AGA AGB L w y0 y1 y2 y3 y4 y5 y6 y7 y8 y9) : S2 w1 AGA AGB (put1 L 1) w y0 AGB y2 y3 y4 y5 y6 y7 y8 y9 := ⟨h.bel, h.h0, fun _ => rfl, h.h2, h.h3, h.h4, h.h5, h.h6, h.h7, h.h8, h.h9, h.hne, h.d10, h.d11⟩
theorem S2.op4 (h : S2 w1 AGA AGB L w y0 y1 y2 y3 y4 y5 y6 y7 y8 y9) : S2 w1 AGA AGB (put1 L 4) w y0 y1 y2 y3 AGA y5 y6 y7 y8 y9 := ⟨h.bel, h.h0, h.h1, h.h2, h.h3, fun _ => rfl, h.h5, h.h6, h.h7, h.h8, h.h9, h.hne, h.d10, h.d11⟩
theorem S2.op5 (h : S2 w1 AGA AGB L w y0 y1 y2 y3 y4 y5 y6 y7 y8 y9) : S2 w1 AGA AGB (put1 L 5) w y0 y1 y2 y3 y4 AGB y6 y7 y8 y9 := ⟨h.bel, h.h0, h.h1, h.h2, h.h3, h.h4, fun _ => rfl, h.h6, h.h7, h.h8, h.h9, h.hne, h.d10, h.d11⟩
/-- What a call, or a new block, leaves of it. -/
theorem S2.go (h : S2 w1 AGA AGB L w y0 y1 y2 y3 y4 y5 y6 y7 y8 y9) (hb : Below w.heap.size w w') : S2 w1 AGA AGB L w' y0 y1 y2 y3 y4 y5 y6 y7 y8 y9 :=
  ⟨below_then h.bel h.bel.size hb, h.h0, h.h1, fun e => (h.h2 e).below hb, fun e => (h.h3 e).below hb, h.h4, h.h5, fun e => (h.h6 e).below hb, fun e => (h.h7 e).below hb, fun e => (h.h8 e).below hb, fun e => (h.h9 e).below hb, h.hne, h.d10, h.d11⟩
theorem S2.put2 (h : S2 w1 AGA AGB L w y0 y1 y2 y3 y4 y5 y6 y7 y8 y9) (hv : rowR w1.heap.size w v [1]) : S2 w1 AGA AGB (put1 L 2) w y0 y1 v y3 y4 y5 y6 y7 y8 y9 := ⟨h.bel, h.h0, h.h1, fun _ => hv, h.h3, h.h4, h.h5, h.h6, h.h7, h.h8, h.h9, h.hne, h.d10, h.d11⟩
theorem S2.put6 (h : S2 w1 AGA AGB L w y0 y1 y2 y3 y4 y5 y6 y7 y8 y9) (hv : rowR w1.heap.size w v [1, 0]) : S2 w1 AGA AGB (put1 L 6) w y0 y1 y2 y3 y4 y5 v y7 y8 y9 := ⟨h.bel, h.h0, h.h1, h.h2, h.h3, h.h4, h.h5, fun _ => hv, h.h7, h.h8, h.h9, h.hne, h.d10, h.d11⟩
theorem S2.put3 (h : S2 w1 AGA AGB L w y0 y1 y2 y3 y4 y5 y6 y7 y8 y9) (hf : L 3 = false) (hv : isG w1.heap.size w [1, 2] [-1, 0] v) : S2 w1 AGA AGB (put1 L 3) w y0 y1 y2 v y4 y5 y6 y7 y8 y9 :=
  ⟨h.bel, h.h0, h.h1, h.h2, fun _ => hv, h.h4, h.h5, h.h6, h.h7, fun e => by have := h.h8 e; rw [h.n10 (.inl hf)] at this; show isP _ _ (L 10) _ _; rw [h.n10 (.inl hf)]; exact this, h.h9, h.hne, fun e => ⟨rfl, (h.d10 e).2⟩, h.d11⟩
theorem S2.put7 (h : S2 w1 AGA AGB L w y0 y1 y2 y3 y4 y5 y6 y7 y8 y9) (hf : L 7 = false) (hv : isG w1.heap.size w [1, 2] [0, -1] v) : S2 w1 AGA AGB (put1 L 7) w y0 y1 y2 y3 y4 y5 y6 v y8 y9 :=
  ⟨h.bel, h.h0, h.h1, h.h2, h.h3, h.h4, h.h5, h.h6, fun _ => hv, h.h8, fun e => by have := h.h9 e; rw [h.n11 (.inl hf)] at this; show isP _ _ (L 11) _ _; rw [h.n11 (.inl hf)]; exact this, h.hne, h.d10, fun e => ⟨rfl, (h.d11 e).2⟩⟩
theorem S2.alloc8 (h : S2 w1 AGA AGB L w y0 y1 y2 y3 y4 y5 y6 y7 y8 y9) (hf : L 8 = false) : S2 w1 AGA AGB (put1 L 8) (w.alloc (.cells nilG tG)) y0 y1 y2 y3 y4 y5 y6 y7 (.pointer (some ⟨w.heap.size, 0, none⟩)) y9 :=
  have k := h.go (below_alloc (Below.refl w.heap.size w) (.cells nilG tG))
  ⟨k.bel, k.h0, k.h1, k.h2, k.h3, k.h4, k.h5, k.h6, k.h7, fun _ => by show isP _ _ (L 10) _ _; rw [h.n10 (.inr hf)]; exact ⟨_, rfl, h.bel.size, Blk.new _ _ _⟩, k.h9, fun _ e => by
    obtain ⟨g, e9, _, hg⟩ := h.h9 e
    rintro rfl
    injection e9 with e9
    injection e9 with e9
    have := hg.lt
    injection e9 with e9
    omega, fun e => ⟨(h.d10 e).1, rfl⟩, k.d11⟩
theorem S2.alloc9 (h : S2 w1 AGA AGB L w y0 y1 y2 y3 y4 y5 y6 y7 y8 y9) (hf : L 9 = false) : S2 w1 AGA AGB (put1 L 9) (w.alloc (.cells nilG tG)) y0 y1 y2 y3 y4 y5 y6 y7 y8 (.pointer (some ⟨w.heap.size, 0, none⟩)) :=
  have k := h.go (below_alloc (Below.refl w.heap.size w) (.cells nilG tG))
  ⟨k.bel, k.h0, k.h1, k.h2, k.h3, k.h4, k.h5, k.h6, k.h7, k.h8, fun _ => by show isP _ _ (L 11) _ _; rw [h.n11 (.inr hf)]; exact ⟨_, rfl, h.bel.size, Blk.new _ _ _⟩, fun e _ => by
    obtain ⟨g, e9, _, hg⟩ := h.h8 e
    rintro rfl
    injection e9 with e9
    injection e9 with e9
    have := hg.lt
    injection e9 with e9
    omega, k.d10, fun e => ⟨(h.d11 e).1, rfl⟩⟩
theorem set3_below {B g : Nat} {w0 w : World} (h : Below B w0 w) (hg : B ≤ g) (u1 u2 : Value) : Below B w0 (set3 w g u1 u2) :=
  ((h.setCell (p := ⟨g, 0, none⟩) hg u1).setCell (p := ⟨g, 1, none⟩) hg u2).setCell (p := ⟨g, 2, none⟩) hg _
theorem S2.store10 {g : Nat} {u1 u2 : Value} (h : S2 w1 AGA AGB L w y0 y1 y2 y3 y4 y5 y6 y7 y8 y9) (d3 : L 3 = true) (d8 : L 8 = true) (hf : L 10 = false) (hy : y3 = .agg #[u1, u2, .int .i64 0]) (hg : y8 = .pointer (some ⟨g, 0, none⟩)) (hgB : w1.heap.size ≤ g) (hb : Blk w g tG nilG) :
    S2 w1 AGA AGB (put1 L 10) (set3 w g u1 u2) y0 y1 y2 y3 y4 y5 y6 y7 y8 y9 :=
  ⟨set3_below h.bel hgB _ _, h.h0, h.h1, fun e => (h.h2 e).set3 hb _ _, fun e => (h.h3 e).set3 hb _ _, h.h4, h.h5, fun e => (h.h6 e).set3 hb _ _, fun e => (h.h7 e).set3 hb _ _, fun _ => ⟨g, hg, hgB, by rw [hy]; exact set3_self hb⟩,
    fun e => by
      obtain ⟨g', e', h1, h2⟩ := h.h9 e
      exact ⟨g', e', h1, set3_far h2 (fun ee => h.hne d8 e (by rw [hg, e', ee])) _ _⟩, h.hne, fun _ => ⟨d3, d8⟩, h.d11⟩
theorem S2.store11 {g : Nat} {u1 u2 : Value} (h : S2 w1 AGA AGB L w y0 y1 y2 y3 y4 y5 y6 y7 y8 y9) (d3 : L 7 = true) (d8 : L 9 = true) (hf : L 11 = false) (hy : y7 = .agg #[u1, u2, .int .i64 0]) (hg : y9 = .pointer (some ⟨g, 0, none⟩)) (hgB : w1.heap.size ≤ g) (hb : Blk w g tG nilG) :
    S2 w1 AGA AGB (put1 L 11) (set3 w g u1 u2) y0 y1 y2 y3 y4 y5 y6 y7 y8 y9 :=
  ⟨set3_below h.bel hgB _ _, h.h0, h.h1, fun e => (h.h2 e).set3 hb _ _, fun e => (h.h3 e).set3 hb _ _, h.h4, h.h5, fun e => (h.h6 e).set3 hb _ _, fun e => (h.h7 e).set3 hb _ _, fun e => by
      obtain ⟨g', e', h1, h2⟩ := h.h8 e
      exact ⟨g', e', h1, set3_far h2 (fun ee => h.hne e d8 (by rw [hg, e', ee])) _ _⟩, fun _ => ⟨g, hg, hgB, by rw [hy]; exact set3_self hb⟩,
    h.hne, h.d10, fun _ => ⟨d3, d8⟩⟩
end

set_option maxHeartbeats 2000000 in
set_option maxRecDepth 100000 in
theorem examples_any (w : World) : Calls Tryd.prog 4 #[] w fun e w' => e = .returned (.bool true) ∧ Below w.heap.size w w' := by
  have hui := Tryd.underlying29
  have hue := Tryd.underlying39
  have hug := Tryd.underlying42
  go_enter Tryd.func4, Tryd.ntmps4
  go_upto_region 2 with (fail)
  obtain ⟨wu, hwu⟩ : ∃ wu, w.alloc (.cells #[.int .u64 3, .int .u64 3] 25) = wu := ⟨_, rfl⟩
  obtain ⟨wv, hwv⟩ : ∃ wv, wu.alloc (.cells #[.int .u64 6, .int .u64 7] 25) = wv := ⟨_, rfl⟩
  have hzu : wu.heap.size = w.heap.size + 1 := by rw [← hwu]; simp
  have hzv : wv.heap.size = w.heap.size + 1 + 1 := by rw [← hwv]; simp [hzu]
  obtain ⟨w1, hw1⟩ : ∃ w1, ((wv.alloc (.cells #[.int .i64 2, .slice (some ⟨w.heap.size, 0, none⟩) 2 2] 29)).alloc (.cells #[.int .i64 3, .slice (some ⟨w.heap.size + 1, 0, none⟩) 2 2] 29)) = w1 := ⟨_, rfl⟩
  have hbu : Below w.heap.size w wu := by rw [← hwu]; exact below_alloc (Below.refl _ _) _
  have hbv : Below wu.heap.size wu wv := by rw [← hwv]; exact below_alloc (Below.refl _ _) _
  have hb1v : Below wv.heap.size wv w1 := by rw [← hw1]; exact below_alloc (below_alloc (Below.refl _ _) _) _
  have hz1 : w.heap.size + 4 ≤ w1.heap.size := by rw [← hw1]; simp [hzv]
  have hb1 : Below w.heap.size w w1 := below_then (below_then hbu hbu.size hbv) (by omega) hb1v
  have CA : (Kd.int .u64).C w1 (some ⟨w.heap.size, 0, none⟩) 2 [3, 3] := Kd.C_below (Kd.C_below (by rw [← hwu]; exact litU w [3, 3] _ rfl (by decide)) hbv) hb1v
  have CB : (Kd.int .u64).C w1 (some ⟨w.heap.size + 1, 0, none⟩) 2 [6, 7] := Kd.C_below (by rw [← hwv, ← hzu]; exact litU wu [6, 7] _ rfl (by decide)) hb1v
  have ka : Blk w1 (w.heap.size + 1 + 1) 29 #[.int .i64 2, .slice (some ⟨w.heap.size, 0, none⟩) 2 2] := by rw [← hw1, ← hzv]; exact (Blk.new _ _ _).alloc _
  have kb : Blk w1 (w.heap.size + 1 + 1 + 1) 29 #[.int .i64 3, .slice (some ⟨w.heap.size + 1, 0, none⟩) 2 2] := by rw [← hw1, ← hzv]; simpa using Blk.new (wv.alloc (.cells #[.int .i64 2, .slice (some ⟨w.heap.size, 0, none⟩) 2 2] 29)) 29 #[.int .i64 3, .slice (some ⟨w.heap.size + 1, 0, none⟩) 2 2]
  have HCELL : Hid (∀ W, Below w1.heap.size w1 W → W.cell? ⟨w.heap.size + 1 + 1, 0, none⟩ = some (.int .i64 2) ∧ W.cell? ⟨w.heap.size + 1 + 1, 1, none⟩ = some (.slice (some ⟨w.heap.size, 0, none⟩) 2 2) ∧ W.cell? ⟨w.heap.size + 1 + 1 + 1, 0, none⟩ = some (.int .i64 3) ∧ W.cell? ⟨w.heap.size + 1 + 1 + 1, 1, none⟩ = some (.slice (some ⟨w.heap.size + 1, 0, none⟩) 2 2)) :=
    (show ∀ W, _ from fun W hb => by
      have ka' := ka.below hb ka.lt
      have kb' := kb.below hb kb.lt
      exact ⟨(ka'.cell 0).trans rfl, (ka'.cell 1).trans rfl, (kb'.cell 0).trans rfl, (kb'.cell 1).trans rfl⟩)
  have HA := hid (fun W (hb : Below w1.heap.size w1 W) => (show (Kd.int .u64).C W (some ⟨w.heap.size, 0, none⟩) 2 [3, 3] from Kd.C_below CA hb))
  have HBB := hid (fun W (hb : Below w1.heap.size w1 W) => (show (Kd.int .u64).C W (some ⟨w.heap.size + 1, 0, none⟩) 2 [6, 7] from Kd.C_below CB hb))
  have BEST1 := hid (fun W (A : Option Addr) (c : Nat) (hb : Below w1.heap.size w1 W) (hC : IC W A 1 [1]) (hc : 1 ≤ c) => plexuslaw42_best.calls 2 (some ⟨w.heap.size, 0, none⟩) 2 [3, 3] 3 (some ⟨w.heap.size + 1, 0, none⟩) 2 [6, 7] A c [1] [1, 2] [-1, 0] 0 W (HA.out W hb) (by decide) (HBB.out W hb) (by decide) hC hc (by kernel_rfl))
  have BEST2 := hid (fun W (A : Option Addr) (c : Nat) (hb : Below w1.heap.size w1 W) (hC : IC W A 2 [1, 0]) (hc : 2 ≤ c) => plexuslaw42_best.calls 2 (some ⟨w.heap.size, 0, none⟩) 2 [3, 3] 3 (some ⟨w.heap.size + 1, 0, none⟩) 2 [6, 7] A c [1, 0] [1, 2] [0, -1] 0 W (HA.out W hb) (by decide) (HBB.out W hb) (by decide) hC hc (by kernel_rfl))
  rw [hwu, hwv, hw1]
  clear hwu hwv hw1 hzu hzv hbu hbv hb1v CA CB ka kb
  refine (wpIn_wide (n := 8)).1 ?_
  obtain ⟨vv, hvv⟩ : ∃ vv : Nat → Value, vv = fun i => (#[] : Array Value).getD i undef := ⟨_, rfl⟩
  have mk : ∀ (L : Nat → Bool) (a' : Act) (w' : World), a' = ({ tmps := #[.bool false, .pointer (some ⟨w.heap.size + 1 + 1, 0, none⟩), .pointer (some ⟨w.heap.size + 1 + 1 + 1, 0, none⟩), a'.tmps.getD ((#[10, 11, 12, 13, 14, 15, 16, 17, 3, 4, 120, 121] : Array Nat).getD (8) 0) undef, a'.tmps.getD ((#[10, 11, 12, 13, 14, 15, 16, 17, 3, 4, 120, 121] : Array Nat).getD (9) 0) undef, undef, .slice (some ⟨w.heap.size, 0, none⟩) 2 2, .agg #[.int .i64 2, .slice (some ⟨w.heap.size, 0, none⟩) 2 2], .slice (some ⟨w.heap.size + 1, 0, none⟩) 2 2, .agg #[.int .i64 3, .slice (some ⟨w.heap.size + 1, 0, none⟩) 2 2], a'.tmps.getD ((#[10, 11, 12, 13, 14, 15, 16, 17, 3, 4, 120, 121] : Array Nat).getD (0) 0) undef, a'.tmps.getD ((#[10, 11, 12, 13, 14, 15, 16, 17, 3, 4, 120, 121] : Array Nat).getD (1) 0) undef, a'.tmps.getD ((#[10, 11, 12, 13, 14, 15, 16, 17, 3, 4, 120, 121] : Array Nat).getD (2) 0) undef, a'.tmps.getD ((#[10, 11, 12, 13, 14, 15, 16, 17, 3, 4, 120, 121] : Array Nat).getD (3) 0) undef, a'.tmps.getD ((#[10, 11, 12, 13, 14, 15, 16, 17, 3, 4, 120, 121] : Array Nat).getD (4) 0) undef, a'.tmps.getD ((#[10, 11, 12, 13, 14, 15, 16, 17, 3, 4, 120, 121] : Array Nat).getD (5) 0) undef, a'.tmps.getD ((#[10, 11, 12, 13, 14, 15, 16, 17, 3, 4, 120, 121] : Array Nat).getD (6) 0) undef, a'.tmps.getD ((#[10, 11, 12, 13, 14, 15, 16, 17, 3, 4, 120, 121] : Array Nat).getD (7) 0) undef, undef, undef, undef, undef, undef, undef, undef, undef, undef, undef, undef, undef, undef, undef, undef, undef, undef, undef, undef, undef, undef, undef, undef, undef, undef, undef, undef, undef, undef, undef, undef, undef, undef, undef, undef, undef, undef, undef, undef, undef, undef, undef, undef, undef, undef, undef, undef, undef, undef, undef, undef, undef, undef, undef, undef, undef, undef, undef, undef, undef, undef, undef, undef, undef, undef, undef, undef, undef, undef, undef, undef, undef, undef, undef, undef, undef, undef, undef, undef, undef, undef, undef, undef, undef, undef, undef, undef, undef, undef, undef, undef, undef], defers := [] } : Act) → (∀ j < 0, L j = true → a'.tmps.getD ((#[10, 11, 12, 13, 14, 15, 16, 17, 3, 4, 120, 121] : Array Nat).getD (j) 0) undef = vv j) → (fun (L : Nat → Bool) (wz : World) (y : Nat → Value) => S2 w1 (.agg #[.int .i64 2, .slice (some ⟨w.heap.size, 0, none⟩) 2 2]) (.agg #[.int .i64 3, .slice (some ⟨w.heap.size + 1, 0, none⟩) 2 2]) L wz (y 0) (y 1) (y 2) (y 3) (y 4) (y 5) (y 6) (y 7) (y 8) (y 9)) L w' (fun m => a'.tmps.getD ((#[10, 11, 12, 13, 14, 15, 16, 17, 3, 4, 120, 121] : Array Nat).getD (m) 0) undef) → ∃ y : Nat → Value, a' = ({ tmps := #[.bool false, .pointer (some ⟨w.heap.size + 1 + 1, 0, none⟩), .pointer (some ⟨w.heap.size + 1 + 1 + 1, 0, none⟩), y 8, y 9, undef, .slice (some ⟨w.heap.size, 0, none⟩) 2 2, .agg #[.int .i64 2, .slice (some ⟨w.heap.size, 0, none⟩) 2 2], .slice (some ⟨w.heap.size + 1, 0, none⟩) 2 2, .agg #[.int .i64 3, .slice (some ⟨w.heap.size + 1, 0, none⟩) 2 2], y 0, y 1, y 2, y 3, y 4, y 5, y 6, y 7, undef, undef, undef, undef, undef, undef, undef, undef, undef, undef, undef, undef, undef, undef, undef, undef, undef, undef, undef, undef, undef, undef, undef, undef, undef, undef, undef, undef, undef, undef, undef, undef, undef, undef, undef, undef, undef, undef, undef, undef, undef, undef, undef, undef, undef, undef, undef, undef, undef, undef, undef, undef, undef, undef, undef, undef, undef, undef, undef, undef, undef, undef, undef, undef, undef, undef, undef, undef, undef, undef, undef, undef, undef, undef, undef, undef, undef, undef, undef, undef, undef, undef, undef, undef, undef, undef, undef, undef, undef, undef, undef, undef], defers := [] } : Act) ∧ (∀ j < 0, L j = true → y j = vv j) ∧ (fun (L : Nat → Bool) (wz : World) (y : Nat → Value) => S2 w1 (.agg #[.int .i64 2, .slice (some ⟨w.heap.size, 0, none⟩) 2 2]) (.agg #[.int .i64 3, .slice (some ⟨w.heap.size + 1, 0, none⟩) 2 2]) L wz (y 0) (y 1) (y 2) (y 3) (y 4) (y 5) (y 6) (y 7) (y 8) (y 9)) L w' y := fun L a' w' h1 h2 h3 => ⟨fun m => a'.tmps.getD ((#[10, 11, 12, 13, 14, 15, 16, 17, 3, 4, 120, 121] : Array Nat).getD (m) 0) undef, h1, h2, h3⟩
  refine wpIn_region_inv2 (by kernel_rfl) (fun L aI wI => ∃ y : Nat → Value, aI = ({ tmps := #[.bool false, .pointer (some ⟨w.heap.size + 1 + 1, 0, none⟩), .pointer (some ⟨w.heap.size + 1 + 1 + 1, 0, none⟩), y 8, y 9, undef, .slice (some ⟨w.heap.size, 0, none⟩) 2 2, .agg #[.int .i64 2, .slice (some ⟨w.heap.size, 0, none⟩) 2 2], .slice (some ⟨w.heap.size + 1, 0, none⟩) 2 2, .agg #[.int .i64 3, .slice (some ⟨w.heap.size + 1, 0, none⟩) 2 2], y 0, y 1, y 2, y 3, y 4, y 5, y 6, y 7, undef, undef, undef, undef, undef, undef, undef, undef, undef, undef, undef, undef, undef, undef, undef, undef, undef, undef, undef, undef, undef, undef, undef, undef, undef, undef, undef, undef, undef, undef, undef, undef, undef, undef, undef, undef, undef, undef, undef, undef, undef, undef, undef, undef, undef, undef, undef, undef, undef, undef, undef, undef, undef, undef, undef, undef, undef, undef, undef, undef, undef, undef, undef, undef, undef, undef, undef, undef, undef, undef, undef, undef, undef, undef, undef, undef, undef, undef, undef, undef, undef, undef, undef, undef, undef, undef, undef, undef, undef, undef, undef, undef], defers := [] } : Act) ∧ (∀ j < 0, L j = true → y j = vv j) ∧ (fun (L : Nat → Bool) (wz : World) (y : Nat → Value) => S2 w1 (.agg #[.int .i64 2, .slice (some ⟨w.heap.size, 0, none⟩) 2 2]) (.agg #[.int .i64 3, .slice (some ⟨w.heap.size + 1, 0, none⟩) 2 2]) L wz (y 0) (y 1) (y 2) (y 3) (y 4) (y 5) (y 6) (y 7) (y 8) (y 9)) L wI y) ?acyc ?start ?step ?rdone
  case acyc => exact fun i o ho => acyc_of2 (by kernel_rfl) i o ho
  case start => exact mk (fun _ => false) _ _ rfl (fun _ _ h => by cases h) (by exact ⟨below_drew (Below.refl _ _), (fun h => nomatch h), (fun h => nomatch h), (fun h => nomatch h), (fun h => nomatch h), (fun h => nomatch h), (fun h => nomatch h), (fun h => nomatch h), (fun h => nomatch h), (fun h => nomatch h), (fun h => nomatch h), (fun h => nomatch h), (fun h => nomatch h), (fun h => nomatch h)⟩)
  case step =>
    rintro i o L a wx ho hLi hdep ⟨y, rfl, hy, hWI⟩ K hK
    have hi : i < 12 := (Array.getElem?_eq_some_iff.1 ho).1
    rcases i with _ | _ | _ | _ | _ | _ | _ | _ | _ | _ | _ | _ | i
    · obtain rfl := Option.some.inj ho
      clear hdep ho
      obtain ⟨qa0, qa1, qb0, qb1⟩ := HCELL.out _ hWI.bel
      go_simp
      refine hK _ _ (mk _ _ _ rfl ?_ ?_)
      rotate_left
      · exact hWI.op0
      · intro j hj h
        rcases j with j
        all_goals first | (rw [hvv]; rfl) | exact hy _ (by omega) (by simpa [put1] using h) | (exfalso; omega)
    · obtain rfl := Option.some.inj ho
      clear hdep ho
      obtain ⟨qa0, qa1, qb0, qb1⟩ := HCELL.out _ hWI.bel
      go_simp
      refine hK _ _ (mk _ _ _ rfl ?_ ?_)
      rotate_left
      · exact hWI.op1
      · intro j hj h
        rcases j with j
        all_goals first | (rw [hvv]; rfl) | exact hy _ (by omega) (by simpa [put1] using h) | (exfalso; omega)
    · obtain rfl := Option.some.inj ho
      clear hdep ho
      go_simp
      refine hK _ _ (mk _ _ _ rfl ?_ ?_)
      rotate_left
      · exact (hWI.go (below_alloc (Below.refl _ _) _)).put2 (rowR.lit _ [1] _ rfl (by decide) hWI.bel.size rfl)
      · intro j hj h
        rcases j with j
        all_goals first | (rw [hvv]; rfl) | exact hy _ (by omega) (by simpa [put1] using h) | (exfalso; omega)
    · obtain rfl := Option.some.inj ho
      have d0 : L 0 = true := hdep ⟨0, .data⟩ (by simp) rfl
      have d1 : L 1 = true := hdep ⟨1, .data⟩ (by simp) rfl
      have d2 : L 2 = true := hdep ⟨2, .data⟩ (by simp) rfl
      clear hdep ho
      obtain ⟨A2, c2, hy2, hc2, hC2⟩ := (hWI.h2 d2).reads
      rw [hWI.h0 d0, hWI.h1 d1, hy2]
      go_simp
      gi_wp2_with (refine ⟨trivial, ?_⟩; gi_at_call 10; refine (callsIn_wide.2 (BEST1.out _ _ _ hWI.bel hC2 hc2)).mono ?_; rintro e w' ⟨v1, v2, rfl, hr1, hr2, hbw⟩)
      refine mk _ _ _ rfl ?_ ?_
      rotate_left
      · exact (by have hh := (hWI.go hbw).put3 hLi ⟨v1, v2, rfl, rowR.of hr1 hWI.bel.size, rowR.of hr2 hWI.bel.size⟩; rw [hWI.h0 d0, hWI.h1 d1, hy2] at hh; exact hh)
      · intro j hj h
        rcases j with j
        all_goals first | (rw [hvv]; rfl) | exact hy _ (by omega) (by simpa [put1] using h) | (exfalso; omega)
    · obtain rfl := Option.some.inj ho
      clear hdep ho
      obtain ⟨qa0, qa1, qb0, qb1⟩ := HCELL.out _ hWI.bel
      go_simp
      refine hK _ _ (mk _ _ _ rfl ?_ ?_)
      rotate_left
      · exact hWI.op4
      · intro j hj h
        rcases j with j
        all_goals first | (rw [hvv]; rfl) | exact hy _ (by omega) (by simpa [put1] using h) | (exfalso; omega)
    · obtain rfl := Option.some.inj ho
      clear hdep ho
      obtain ⟨qa0, qa1, qb0, qb1⟩ := HCELL.out _ hWI.bel
      go_simp
      refine hK _ _ (mk _ _ _ rfl ?_ ?_)
      rotate_left
      · exact hWI.op5
      · intro j hj h
        rcases j with j
        all_goals first | (rw [hvv]; rfl) | exact hy _ (by omega) (by simpa [put1] using h) | (exfalso; omega)
    · obtain rfl := Option.some.inj ho
      clear hdep ho
      go_simp
      refine hK _ _ (mk _ _ _ rfl ?_ ?_)
      rotate_left
      · exact (hWI.go (below_alloc (Below.refl _ _) _)).put6 (rowR.lit _ [1, 0] _ rfl (by decide) hWI.bel.size rfl)
      · intro j hj h
        rcases j with j
        all_goals first | (rw [hvv]; rfl) | exact hy _ (by omega) (by simpa [put1] using h) | (exfalso; omega)
    · obtain rfl := Option.some.inj ho
      have d4 : L 4 = true := hdep ⟨4, .data⟩ (by simp) rfl
      have d5 : L 5 = true := hdep ⟨5, .data⟩ (by simp) rfl
      have d6 : L 6 = true := hdep ⟨6, .data⟩ (by simp) rfl
      have d3 : L 3 = true := hdep ⟨3, .chain⟩ (by simp) rfl
      clear hdep ho
      obtain ⟨A2, c2, hy2, hc2, hC2⟩ := (hWI.h6 d6).reads
      rw [hWI.h4 d4, hWI.h5 d5, hy2]
      go_simp
      gi_wp2_with (refine ⟨trivial, ?_⟩; gi_at_call 10; refine (callsIn_wide.2 (BEST2.out _ _ _ hWI.bel hC2 hc2)).mono ?_; rintro e w' ⟨v1, v2, rfl, hr1, hr2, hbw⟩)
      refine mk _ _ _ rfl ?_ ?_
      rotate_left
      · exact (by have hh := (hWI.go hbw).put7 hLi ⟨v1, v2, rfl, rowR.of hr1 hWI.bel.size, rowR.of hr2 hWI.bel.size⟩; rw [hWI.h4 d4, hWI.h5 d5, hy2] at hh; exact hh)
      · intro j hj h
        rcases j with j
        all_goals first | (rw [hvv]; rfl) | exact hy _ (by omega) (by simpa [put1] using h) | (exfalso; omega)
    · obtain rfl := Option.some.inj ho
      clear hdep ho
      go_simp
      refine hK _ _ (mk _ _ _ rfl ?_ ?_)
      rotate_left
      · exact hWI.alloc8 hLi
      · intro j hj h
        rcases j with j
        all_goals first | (rw [hvv]; rfl) | exact hy _ (by omega) (by simpa [put1] using h) | (exfalso; omega)
    · obtain rfl := Option.some.inj ho
      clear hdep ho
      go_simp
      refine hK _ _ (mk _ _ _ rfl ?_ ?_)
      rotate_left
      · exact hWI.alloc9 hLi
      · intro j hj h
        rcases j with j
        all_goals first | (rw [hvv]; rfl) | exact hy _ (by omega) (by simpa [put1] using h) | (exfalso; omega)
    · obtain rfl := Option.some.inj ho
      have d8 : L 8 = true := hdep ⟨8, .data⟩ (by simp) rfl
      have d3 : L 3 = true := hdep ⟨3, .data⟩ (by simp) rfl
      have d7 : L 7 = true := hdep ⟨7, .chain⟩ (by simp) rfl
      clear hdep ho
      have nn : L 10 = false := hLi
      obtain ⟨v1, v2, hy3, hr1, hr2⟩ := hWI.h3 d3
      obtain ⟨A1, c1, e1, _, _⟩ := hr1.reads
      obtain ⟨A2, c2, e2, _, _⟩ := hr2.reads
      subst e1 e2
      obtain ⟨g, hg, hgB, hblk⟩ := hWI.h8 d8
      rw [nn, if_neg (by decide)] at hblk
      have q0 := (hblk.cell 0).trans rfl
      have q1 := (hblk.cell 1).trans rfl
      have q2 := (hblk.cell 2).trans rfl
      have f0 := hblk.frozen 0
      have f1 := hblk.frozen 1
      have f2 := hblk.frozen 2
      rw [hy3, hg]
      go_simp
      refine hK _ _ (mk _ _ _ rfl ?_ ?_)
      rotate_left
      · exact (by have hh := hWI.store10 d3 d8 hLi hy3 hg hgB hblk; rw [hy3, hg] at hh; exact hh)
      · intro j hj h
        rcases j with j
        all_goals first | (rw [hvv]; rfl) | exact hy _ (by omega) (by simpa [put1] using h) | (exfalso; omega)
    · obtain rfl := Option.some.inj ho
      have d9 : L 9 = true := hdep ⟨9, .data⟩ (by simp) rfl
      have d7 : L 7 = true := hdep ⟨7, .data⟩ (by simp) rfl
      have d10 : L 10 = true := hdep ⟨10, .chain⟩ (by simp) rfl
      clear hdep ho
      have nn : L 11 = false := hLi
      obtain ⟨v1, v2, hy3, hr1, hr2⟩ := hWI.h7 d7
      obtain ⟨A1, c1, e1, _, _⟩ := hr1.reads
      obtain ⟨A2, c2, e2, _, _⟩ := hr2.reads
      subst e1 e2
      obtain ⟨g, hg, hgB, hblk⟩ := hWI.h9 d9
      rw [nn, if_neg (by decide)] at hblk
      have q0 := (hblk.cell 0).trans rfl
      have q1 := (hblk.cell 1).trans rfl
      have q2 := (hblk.cell 2).trans rfl
      have f0 := hblk.frozen 0
      have f1 := hblk.frozen 1
      have f2 := hblk.frozen 2
      rw [hy3, hg]
      go_simp
      refine hK _ _ (mk _ _ _ rfl ?_ ?_)
      rotate_left
      · exact (by have hh := hWI.store11 d7 d9 hLi hy3 hg hgB hblk; rw [hy3, hg] at hh; exact hh)
      · intro j hj h
        rcases j with j
        all_goals first | (rw [hvv]; rfl) | exact hy _ (by omega) (by simpa [put1] using h) | (exfalso; omega)
    · exfalso; omega
  case rdone =>
    rintro L a w4 hall ⟨y, rfl, hy, hWI⟩
    obtain ⟨x1, x2, hy3, hx1, hx2⟩ := hWI.h3 (hall 3 (by decide))
    obtain ⟨z1, z2, hy7, hz1', hz2'⟩ := hWI.h7 (hall 7 (by decide))
    obtain ⟨g3, hy8, _, k3⟩ := hWI.h8 (hall 8 (by decide))
    obtain ⟨g4, hy9, _, k4⟩ := hWI.h9 (hall 9 (by decide))
    rw [if_pos (hall 10 (by decide)), hy3] at k3
    rw [if_pos (hall 11 (by decide)), hy7] at k4
    obtain ⟨X1, cX1, e1, hcX1, IX1⟩ := hx1.reads
    obtain ⟨X2, cX2, e2, hcX2, IX2⟩ := hx2.reads
    obtain ⟨Y1, cY1, e3, hcY1, IY1⟩ := hz1'.reads
    obtain ⟨Y2, cY2, e4, hcY2, IY2⟩ := hz2'.reads
    subst e1 e2 e3 e4
    have hb4 := hWI.bel
    rw [hy8, hy9]
    generalize y 0 = y0
    generalize y 1 = y1
    generalize y 2 = y2
    generalize y 3 = y3
    generalize y 4 = y4
    generalize y 5 = y5
    generalize y 6 = y6
    generalize y 7 = y7
    have HC4 : Hid (∀ W, Below w4.heap.size w4 W → W.cell? ⟨w.heap.size + 1 + 1, 0, none⟩ = some (.int .i64 2) ∧ W.cell? ⟨w.heap.size + 1 + 1, 1, none⟩ = some (.slice (some ⟨w.heap.size, 0, none⟩) 2 2) ∧ W.cell? ⟨w.heap.size + 1 + 1 + 1, 0, none⟩ = some (.int .i64 3) ∧ W.cell? ⟨w.heap.size + 1 + 1 + 1, 1, none⟩ = some (.slice (some ⟨w.heap.size + 1, 0, none⟩) 2 2) ∧
        W.cell? ⟨g3, 0, none⟩ = some (.slice X1 2 cX1) ∧ W.cell? ⟨g3, 1, none⟩ = some (.slice X2 2 cX2) ∧ W.cell? ⟨g3, 2, none⟩ = some (.int .i64 0) ∧ W.cell? ⟨g4, 0, none⟩ = some (.slice Y1 2 cY1) ∧ W.cell? ⟨g4, 1, none⟩ = some (.slice Y2 2 cY2) ∧ W.cell? ⟨g4, 2, none⟩ = some (.int .i64 0) ∧ w.heap.size + 1 + 1 < W.heap.size ∧ w.heap.size + 1 + 1 + 1 < W.heap.size ∧ g3 < W.heap.size ∧ g4 < W.heap.size) :=
      (show ∀ W, _ from fun W hb => by
        obtain ⟨q0, q1, q2, q3⟩ := HCELL.out W (below_then hb4 hb4.size hb)
        have k3' := k3.below hb k3.lt
        have k4' := k4.below hb k4.lt
        have hs := hb.size
        have hs4 := hb4.size
        exact ⟨q0, q1, q2, q3, (k3'.cell 0).trans rfl, (k3'.cell 1).trans rfl, (k3'.cell 2).trans rfl, (k4'.cell 0).trans rfl, (k4'.cell 1).trans rfl, (k4'.cell 2).trans rfl, by omega, by omega, k3'.lt, k4'.lt⟩)
    have HX1 := hid (fun W (hb : Below w4.heap.size w4 W) => (show IC W X1 2 [1, 2] from Kd.C_below IX1 hb))
    have HX2 := hid (fun W (hb : Below w4.heap.size w4 W) => (show IC W X2 2 [-1, 0] from Kd.C_below IX2 hb))
    have HY1 := hid (fun W (hb : Below w4.heap.size w4 W) => (show IC W Y1 2 [1, 2] from Kd.C_below IY1 hb))
    have HY2 := hid (fun W (hb : Below w4.heap.size w4 W) => (show IC W Y2 2 [0, -1] from Kd.C_below IY2 hb))
    have HA4 := hid (fun W (hb : Below w4.heap.size w4 W) => HA.out W (below_then hb4 hb4.size hb))
    have HB4 := hid (fun W (hb : Below w4.heap.size w4 W) => HBB.out W (below_then hb4 hb4.size hb))
    have SAX := hid (fun W (hb : Below w4.heap.size w4 W) => plexuslaw42_same.calls 40 X1 cX1 [1, 2] X2 cX2 [-1, 0] 0 (some ⟨W.heap.size, 0, none⟩) 2 [1, 2] (some ⟨W.heap.size + 1, 0, none⟩) 2 [-1, 0] 0 true ((W.alloc (.cells #[.int .i64 1, .int .i64 2] 3)).alloc (.cells #[.int .i64 (-1), .int .i64 0] 3))
      (Kd.C_alloc (Kd.C_alloc (HX1.out W hb) _) _) hcX1 (Kd.C_alloc (Kd.C_alloc (HX2.out W hb) _) _) hcX2 (lit2 W [1, 2] [-1, 0] _ _ rfl rfl (by decide) (by decide)).1 (by decide) (lit2 W [1, 2] [-1, 0] _ _ rfl rfl (by decide) (by decide)).2 (by decide) (by kernel_rfl))
    have SAY := hid (fun W (hb : Below w4.heap.size w4 W) => plexuslaw42_same.calls 40 Y1 cY1 [1, 2] Y2 cY2 [0, -1] 0 (some ⟨W.heap.size, 0, none⟩) 2 [1, 2] (some ⟨W.heap.size + 1, 0, none⟩) 2 [0, -1] 0 true ((W.alloc (.cells #[.int .i64 1, .int .i64 2] 3)).alloc (.cells #[.int .i64 0, .int .i64 (-1)] 3))
      (Kd.C_alloc (Kd.C_alloc (HY1.out W hb) _) _) hcY1 (Kd.C_alloc (Kd.C_alloc (HY2.out W hb) _) _) hcY2 (lit2 W [1, 2] [0, -1] _ _ rfl rfl (by decide) (by decide)).1 (by decide) (lit2 W [1, 2] [0, -1] _ _ rfl rfl (by decide) (by decide)).2 (by decide) (by kernel_rfl))
    have CHX := hid (fun W (hb : Below w4.heap.size w4 W) => embed_Check.calls 40 2 (some ⟨w.heap.size, 0, none⟩) 2 [3, 3] 3 (some ⟨w.heap.size + 1, 0, none⟩) 2 [6, 7] X1 cX1 [1, 2] X2 cX2 [-1, 0] 0 W (HA4.out W hb) (by decide) (HB4.out W hb) (by decide) (HX1.out W hb) hcX1 (HX2.out W hb) hcX2 (by kernel_rfl))
    have CHL := hid (fun W (hb : Below w4.heap.size w4 W) => embed_Check.calls 40 2 (some ⟨w.heap.size, 0, none⟩) 2 [3, 3] 3 (some ⟨w.heap.size + 1, 0, none⟩) 2 [6, 7] (some ⟨W.heap.size, 0, none⟩) 2 [1, 2] (some ⟨W.heap.size + 1, 0, none⟩) 2 [0, 0] 420 ((W.alloc (.cells #[.int .i64 1, .int .i64 2] 3)).alloc (.cells #[.int .i64 0, .int .i64 0] 3))
      (Kd.C_alloc (Kd.C_alloc (HA4.out W hb) _) _) (by decide) (Kd.C_alloc (Kd.C_alloc (HB4.out W hb) _) _) (by decide) (lit2 W [1, 2] [0, 0] _ _ rfl rfl (by decide) (by decide)).1 (by decide) (lit2 W [1, 2] [0, 0] _ _ rfl rfl (by decide) (by decide)).2 (by decide) (by kernel_rfl))
    have HB : Below w4.heap.size w4 w4 := Below.refl _ _
    obtain ⟨qa0, qa1, qb0, qb1, qx0, qx1, qx2, qy0, qy1, qy2, la, lb, lx, ly⟩ := HC4.out _ HB
    clear mk hvv hy hall hWI hy3 hy7 hy8 hy9 k3 k4 IX1 IX2 IY1 IY2 hx1 hx2 hz1' hz2' HCELL HA HBB BEST1 BEST2
    go_upto_region 5 with (first
      | (go_at_call_of 13 (Value.agg #[.slice X1 2 cX1, .slice X2 2 cX2, .int .i64 0]); refine (SAX.out _ HB).mono ?_; rintro e w8 ⟨rfl, hb8⟩; replace HB := bt (below_alloc (below_alloc HB _) _) hb8; clear hb8 qa0 qa1 qb0 qb1 qx0 qx1 qx2 qy0 qy1 qy2 la lb lx ly; obtain ⟨qa0, qa1, qb0, qb1, qx0, qx1, qx2, qy0, qy1, qy2, la, lb, lx, ly⟩ := HC4.out _ HB)
      | (go_at_call 13; refine (SAY.out _ HB).mono ?_; rintro e w8 ⟨rfl, hb8⟩; replace HB := bt (below_alloc (below_alloc HB _) _) hb8; clear hb8 qa0 qa1 qb0 qb1 qx0 qx1 qx2 qy0 qy1 qy2 la lb lx ly; obtain ⟨qa0, qa1, qb0, qb1, qx0, qx1, qx2, qy0, qy1, qy2, la, lb, lx, ly⟩ := HC4.out _ HB)
      | (go_at_call_of 14 (Value.agg #[.slice X1 2 cX1, .slice X2 2 cX2]); refine (CHX.out _ HB).mono ?_; rintro e w8 ⟨rfl, hb8⟩; replace HB := bt HB hb8; clear hb8 qa0 qa1 qb0 qb1 qx0 qx1 qx2 qy0 qy1 qy2 la lb lx ly; obtain ⟨qa0, qa1, qb0, qb1, qx0, qx1, qx2, qy0, qy1, qy2, la, lb, lx, ly⟩ := HC4.out _ HB)
      | (go_at_call 14; refine (CHL.out _ HB).mono ?_; rintro e w8 ⟨rfl, hb8⟩; replace HB := bt (below_alloc (below_alloc HB _) _) hb8; clear hb8 qa0 qa1 qb0 qb1 qx0 qx1 qx2 qy0 qy1 qy2 la lb lx ly; obtain ⟨qa0, qa1, qb0, qb1, qx0, qx1, qx2, qy0, qy1, qy2, la, lb, lx, ly⟩ := HC4.out _ HB))
    have THZ := hid (fun W (hb : Below w4.heap.size w4 W) => plexuslaw42_then.calls 40 X1 cX1 [1, 2] X2 cX2 [-1, 0] (some ⟨W.heap.size, 0, none⟩) 3 [2, 1, 0] (some ⟨W.heap.size + 1, 0, none⟩) 2 [3, -1] [1, 0] [-1, 3] 0 ((W.alloc (.cells #[.int .i64 2, .int .i64 1, .int .i64 0] 3)).alloc (.cells #[.int .i64 3, .int .i64 (-1)] 3))
      (Kd.C_alloc (Kd.C_alloc (HX1.out W hb) _) _) hcX1 (Kd.C_alloc (Kd.C_alloc (HX2.out W hb) _) _) hcX2 (lit2 W [2, 1, 0] [3, -1] _ _ rfl rfl (by decide) (by decide)).1 (by decide) (lit2 W [2, 1, 0] [3, -1] _ _ rfl rfl (by decide) (by decide)).2 (by decide) (by kernel_rfl))
    go_upto_region 6 with (go_at_call 15; refine (THZ.out _ HB).mono ?_; rintro e w9 ⟨v1, v2, rfl, hr1, hr2, hb8⟩; obtain ⟨Z1, cZ1, rfl, hcZ1, IZ1⟩ := Kd.R_reads hr1; obtain ⟨Z2, cZ2, rfl, hcZ2, IZ2⟩ := Kd.R_reads hr2; replace HB := bt (below_alloc (below_alloc HB _) _) hb8; clear hb8 hr1 hr2 qa0 qa1 qb0 qb1 qx0 qx1 qx2 qy0 qy1 qy2 la lb lx ly)
    obtain ⟨w5, hw5⟩ : ∃ w5, w9.alloc (.cells #[.slice Z1 2 cZ1, .slice Z2 2 cZ2, .int .i64 0] tG) = w5 := ⟨_, rfl⟩
    have hb95 : Below w9.heap.size w9 w5 := by rw [← hw5]; exact below_alloc (Below.refl _ _) _
    have kz : Blk w5 w9.heap.size tG #[.slice Z1 2 cZ1, .slice Z2 2 cZ2, .int .i64 0] := by rw [← hw5]; exact Blk.new _ _ _
    have hb45 := bt HB hb95
    have HC5 : Hid (∀ W, Below w5.heap.size w5 W → W.cell? ⟨w.heap.size + 1 + 1, 0, none⟩ = some (.int .i64 2) ∧ W.cell? ⟨w.heap.size + 1 + 1, 1, none⟩ = some (.slice (some ⟨w.heap.size, 0, none⟩) 2 2) ∧ W.cell? ⟨w.heap.size + 1 + 1 + 1, 0, none⟩ = some (.int .i64 3) ∧ W.cell? ⟨w.heap.size + 1 + 1 + 1, 1, none⟩ = some (.slice (some ⟨w.heap.size + 1, 0, none⟩) 2 2) ∧
        W.cell? ⟨g3, 0, none⟩ = some (.slice X1 2 cX1) ∧ W.cell? ⟨g3, 1, none⟩ = some (.slice X2 2 cX2) ∧ W.cell? ⟨g3, 2, none⟩ = some (.int .i64 0) ∧ W.cell? ⟨w9.heap.size, 0, none⟩ = some (.slice Z1 2 cZ1) ∧ W.cell? ⟨w9.heap.size, 1, none⟩ = some (.slice Z2 2 cZ2) ∧ W.cell? ⟨w9.heap.size, 2, none⟩ = some (.int .i64 0) ∧ w.heap.size + 1 + 1 < W.heap.size ∧ w.heap.size + 1 + 1 + 1 < W.heap.size ∧ g3 < W.heap.size ∧ w9.heap.size < W.heap.size) :=
      (show ∀ W, _ from fun W hb => by
        obtain ⟨q0, q1, q2, q3, q4, q5, q6, -, -, -, l1, l2, l3, -⟩ := HC4.out W (bt hb45 hb)
        have kz' := kz.below hb kz.lt
        exact ⟨q0, q1, q2, q3, q4, q5, q6, (kz'.cell 0).trans rfl, (kz'.cell 1).trans rfl, (kz'.cell 2).trans rfl, l1, l2, l3, kz'.lt⟩)
    have HZ1 := hid (fun W (hb : Below w5.heap.size w5 W) => (show IC W Z1 2 [1, 0] from Kd.C_below IZ1 (bt hb95 hb)))
    have HZ2 := hid (fun W (hb : Below w5.heap.size w5 W) => (show IC W Z2 2 [-1, 3] from Kd.C_below IZ2 (bt hb95 hb)))
    have SAZ := hid (fun W (hb : Below w5.heap.size w5 W) => plexuslaw42_same.calls 40 Z1 cZ1 [1, 0] Z2 cZ2 [-1, 3] 0 (some ⟨W.heap.size, 0, none⟩) 2 [1, 0] (some ⟨W.heap.size + 1, 0, none⟩) 2 [-1, 3] 0 true ((W.alloc (.cells #[.int .i64 1, .int .i64 0] 3)).alloc (.cells #[.int .i64 (-1), .int .i64 3] 3))
      (Kd.C_alloc (Kd.C_alloc (HZ1.out W hb) _) _) hcZ1 (Kd.C_alloc (Kd.C_alloc (HZ2.out W hb) _) _) hcZ2 (lit2 W [1, 0] [-1, 3] _ _ rfl rfl (by decide) (by decide)).1 (by decide) (lit2 W [1, 0] [-1, 3] _ _ rfl rfl (by decide) (by decide)).2 (by decide) (by kernel_rfl))
    have KEP := hid (fun W (hb : Below w5.heap.size w5 W) => embed_Kept.calls X1 cX1 [1, 2] X2 cX2 [-1, 0] (some ⟨W.heap.size, 0, none⟩) 2 [1, 0] [1] (W.alloc (.cells #[.int .i64 1, .int .i64 0] 3)) (Kd.C_alloc (HX1.out W (bt hb45 hb)) _) hcX1 (Kd.C_alloc (HX2.out W (bt hb45 hb)) _) hcX2 (litI W [1, 0] _ rfl (by decide)) (by decide) (by kernel_rfl))
    have SIK := hid (fun W (A : Option Addr) (c : Nat) (hC : IC W A 1 [1]) (hc : 1 ≤ c) => plexusref06_SameInts.calls 40 A c [1] (some ⟨W.heap.size, 0, none⟩) 1 [1] true (W.alloc (.cells #[.int .i64 1] 3)) (Kd.C_alloc hC _) hc (litI W [1] _ rfl (by decide)) (by decide) (by kernel_rfl))
    have BBA := hid (fun W (hb : Below w5.heap.size w5 W) => plexuslaw42_best.calls 3 (some ⟨w.heap.size + 1, 0, none⟩) 2 [6, 7] 2 (some ⟨w.heap.size, 0, none⟩) 2 [3, 3] none 0 [] [] [] 4 W (HB4.out W (bt hb45 hb)) (by decide) (HA4.out W (bt hb45 hb)) (by decide) (Kd.C_nil _ _) (by decide) (by kernel_rfl))
    have BAB := hid (fun W (hb : Below w5.heap.size w5 W) => plexuslaw42_best.calls 2 (some ⟨w.heap.size, 0, none⟩) 2 [3, 3] 3 (some ⟨w.heap.size + 1, 0, none⟩) 2 [6, 7] (some ⟨W.heap.size, 0, none⟩) 1 [2] [] [] 1 (W.alloc (.cells #[.int .i64 2] 3)) (Kd.C_alloc (HA4.out W (bt hb45 hb)) _) (by decide) (Kd.C_alloc (HB4.out W (bt hb45 hb)) _) (by decide) (litI W [2] _ rfl (by decide)) (by decide) (by kernel_rfl))
    have BIG := hid (fun W (hb : Below w5.heap.size w5 W) => plexuslaw42_best.calls 6 none 0 [] 3 (some ⟨w.heap.size + 1, 0, none⟩) 2 [6, 7] none 0 [] [] [] 2 W (Kd.C_nil _ _) (by decide) (HB4.out W (bt hb45 hb)) (by decide) (Kd.C_nil _ _) (by decide) (by kernel_rfl))
    have OFF := hid (fun W (hb : Below w5.heap.size w5 W) => plexuslaw42_of.calls 2 (some ⟨w.heap.size, 0, none⟩) 2 [3, 3] 3 (some ⟨w.heap.size + 1, 0, none⟩) 2 [6, 7] (some ⟨W.heap.size, 0, none⟩) 2 [0, 0] none 0 [] [] [] 1 (W.alloc (.cells #[.int .i64 0, .int .i64 0] 3)) (Kd.C_alloc (HA4.out W (bt hb45 hb)) _) (by decide) (Kd.C_alloc (HB4.out W (bt hb45 hb)) _) (by decide) (litI W [0, 0] _ rfl (by decide)) (by decide) (Kd.C_nil _ _) (by decide) (by kernel_rfl))
    have THN := hid (fun W (hb : Below w5.heap.size w5 W) => plexuslaw42_then.calls 40 X1 cX1 [1, 2] X2 cX2 [-1, 0] none 0 [] none 0 [] [] [] 1 W (HX1.out W (bt hb45 hb)) hcX1 (HX2.out W (bt hb45 hb)) hcX2 (Kd.C_nil _ _) (by decide) (Kd.C_nil _ _) (by decide) (by kernel_rfl))
    have HB05 := hid (below_then hb1 hb1.size (bt hb4 hb45))
    replace HB : Below w5.heap.size w5 w5 := Below.refl _ _
    rw [hw5]
    obtain ⟨qa0, qa1, qb0, qb1, qx0, qx1, qx2, qz0, qz1, qz2, la, lb, lx, lz⟩ := HC5.out _ HB
    have hfld : ∀ (v1 v2 : Value) (x : Int) (W : World), (Instr.field tG (.agg #[v1, v2, .int .i64 x]) 1).run Tryd.prog W = .ok (.int .i64 x) W := fun _ _ _ _ => by kernel_rfl
    clear hw5 hb95 kz hb45 hb4 hb1 IZ1 IZ2 HC4 HZ1 HZ2 HX1 HX2 HY1 HY2 HA4 HB4 SAX SAY CHX CHL THZ
    go_wp2_with (first
      | (go_at_call 13; refine (SAZ.out _ HB).mono ?_; rintro e w8 ⟨rfl, hb8⟩; replace HB := bt (below_alloc (below_alloc HB _) _) hb8; clear hb8 qa0 qa1 qb0 qb1 qx0 qx1 qx2 qz0 qz1 qz2 la lb lx lz; obtain ⟨qa0, qa1, qb0, qb1, qx0, qx1, qx2, qz0, qz1, qz2, la, lb, lx, lz⟩ := HC5.out _ HB)
      | (go_at_call 11; refine (KEP.out _ HB).mono ?_; rintro e w8 ⟨v8, rfl, hr8, hb8⟩; obtain ⟨A8, c8, rfl, hc8, I8⟩ := Kd.R_reads hr8; clear hr8; replace HB := bt (below_alloc HB _) hb8; clear hb8 qa0 qa1 qb0 qb1 qx0 qx1 qx2 qz0 qz1 qz2 la lb lx lz; obtain ⟨qa0, qa1, qb0, qb1, qx0, qx1, qx2, qz0, qz1, qz2, la, lb, lx, lz⟩ := HC5.out _ HB)
      | (go_at_call 16; refine (SIK.out _ _ _ I8 hc8).mono ?_; rintro e w8 ⟨rfl, hb8⟩; replace hb8 := hb8.below; replace HB := bt (below_alloc HB _) hb8; clear hb8 qa0 qa1 qb0 qb1 qx0 qx1 qx2 qz0 qz1 qz2 la lb lx lz; obtain ⟨qa0, qa1, qb0, qb1, qx0, qx1, qx2, qz0, qz1, qz2, la, lb, lx, lz⟩ := HC5.out _ HB)
      | (go_at_call_of 10 (Value.agg #[.int .i64 6, .slice none 0 0]); refine (BIG.out _ HB).mono ?_; rintro e w8 ⟨v1, v2, rfl, hr1, hr2, hb8⟩; clear hr1 hr2; replace HB := bt HB hb8; clear hb8 qa0 qa1 qb0 qb1 qx0 qx1 qx2 qz0 qz1 qz2 la lb lx lz; obtain ⟨qa0, qa1, qb0, qb1, qx0, qx1, qx2, qz0, qz1, qz2, la, lb, lx, lz⟩ := HC5.out _ HB)
      | (go_at_call_of 10 (Value.slice none 0 0); refine (BBA.out _ HB).mono ?_; rintro e w8 ⟨v1, v2, rfl, hr1, hr2, hb8⟩; clear hr1 hr2; replace HB := bt HB hb8; clear hb8 qa0 qa1 qb0 qb1 qx0 qx1 qx2 qz0 qz1 qz2 la lb lx lz; obtain ⟨qa0, qa1, qb0, qb1, qx0, qx1, qx2, qz0, qz1, qz2, la, lb, lx, lz⟩ := HC5.out _ HB)
      | (go_at_call 10; refine (BAB.out _ HB).mono ?_; rintro e w8 ⟨v1, v2, rfl, hr1, hr2, hb8⟩; clear hr1 hr2; replace HB := bt (below_alloc HB _) hb8; clear hb8 qa0 qa1 qb0 qb1 qx0 qx1 qx2 qz0 qz1 qz2 la lb lx lz; obtain ⟨qa0, qa1, qb0, qb1, qx0, qx1, qx2, qz0, qz1, qz2, la, lb, lx, lz⟩ := HC5.out _ HB)
      | (go_at_call 17; refine (OFF.out _ HB).mono ?_; rintro e w8 ⟨v1, v2, rfl, hr1, hr2, hb8⟩; clear hr1 hr2; replace HB := bt (below_alloc HB _) hb8; clear hb8 qa0 qa1 qb0 qb1 qx0 qx1 qx2 qz0 qz1 qz2 la lb lx lz; obtain ⟨qa0, qa1, qb0, qb1, qx0, qx1, qx2, qz0, qz1, qz2, la, lb, lx, lz⟩ := HC5.out _ HB)
      | (go_at_call 15; refine (THN.out _ HB).mono ?_; rintro e w8 ⟨v1, v2, rfl, hr1, hr2, hb8⟩; clear hr1 hr2; replace HB := bt HB hb8; clear hb8 qa0 qa1 qb0 qb1 qx0 qx1 qx2 qz0 qz1 qz2 la lb lx lz; obtain ⟨qa0, qa1, qb0, qb1, qx0, qx1, qx2, qz0, qz1, qz2, la, lb, lx, lz⟩ := HC5.out _ HB))
    go_ret
    exact ⟨rfl, below_then HB05.out HB05.out.size HB⟩
end Go.Proofs.YtheclfjbedajfaaDoor.Pd
