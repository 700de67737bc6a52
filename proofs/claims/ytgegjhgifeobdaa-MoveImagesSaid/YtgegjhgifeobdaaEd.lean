-- Written by this session's program xprint.py: it drives the kit's print with contracts of this session's own.
/- Where the printed contract of embed_Check lies. -/
-- Written by this session's program xprint.py: it drives the kit's print with contracts of this session's own.
/- Where the printed contract of plexusref06_SameInts lies. -/
/- What embed.Check says of an embedding along a list; in plain Lean. -/
/- With a block more the best embedding keeps not less, and at most one block more; in plain Lean. -/
/- Into an image of itself all blocks of a structure are kept; in plain Lean. -/
/- No embedding keeps more done blocks than the one along its own list; the lists are all lists; in plain Lean. -/
/- EmbedImages in plain Lean: the best embedding of a structure into its image keeps all blocks, and its list of points makes the same image. -/
-- Written by this session's program xprint.py: it drives the kit's print with contracts of this session's own.
/- Where the printed contract of plexusref42_Done lies. -/
/- What plexusref42.Done gives; in plain Lean, no walk in sight. -/
import Derived.Test.YtgegjhgifeobdaaIi
import Derived.Test.YtgegjhgifeobdaaPk
import Derived.Test.YtgegjhgifeobdaaGe
namespace Go.Proofs.Ytgegjhgifeobdaa.Pd
open Go.Proofs.Ytgegjhgifeobdaa.Pk Go.RowKit Go.Proofs.YtgegjhgifeobdaaW.PrintWords Go.Proofs.YtgegjhgifeobdaaW.PrintLast Go.Proofs.YtgegjhgifeobdaaW.PrintMore
attribute [local go_sem] max2_int min2_int max_two min_two max_three min_three max_four min_four   -- for this text's walks alone
set_option linter.unusedVariables false
set_option linter.unusedSimpArgs false

/-! ### embed_Check: function 43 -/
mutual
def embed_Check.j0 : Nat → Bool → Int → List Int → Int → List Int → List Int → List Int → Option (Int)
  | 0, _, _, _, _, _, _, _ => none
  | k + 1, x32, x160000, x160001, x161000, x161001, x162000, x162001 => if x32 = true then (some 420) else (embed_Check.l0 k ([] : List Int) x162001 (x162001.length : Int) 0 x160000 x160001 x161000 x161001 x162000 x162001)
def embed_Check.l0 : Nat → List Int → List Int → Int → Int → Int → List Int → Int → List Int → List Int → List Int → Option (Int)
  | 0, _, _, _, _, _, _, _, _, _, _ => none
  | k + 1, x7, x34, x35, x36, x160000, x160001, x161000, x161001, x162000, x162001 => if x36 < x35 then (if 0 ≤ x36 then (if x36 < (x34.length : Int) then (if (rd x34 x36) = (-1) then (embed_Check.l0 k x7 x34 x35 (wrap64 (x36 + 1)) x160000 x160001 x161000 x161001 x162000 x162001) else (if (rd x34 x36) < 0 then (some 420) else (if (rd x34 x36) ≥ (x161001.length : Int) then (some 420) else (if 0 ≤ (rd x34 x36) then (if (rd x34 x36) < (x161001.length : Int) then (if x36 < (x160001.length : Int) then ((embed_moved.f (rd x160001 x36) x162000).bind fun t167 => (if (rd x161001 (rd x34 x36)) = t167 then (if x7.length < 17592186044416 then (embed_Check.l0 k (x7 ++ [rd x34 x36]) x34 x35 (wrap64 (x36 + 1)) x160000 x160001 x161000 x161001 x162000 x162001) else (none)) else (some 420))) else (none)) else (none)) else (none))))) else (none)) else (none)) else ((embed_different.f x7 (x161001.length : Int)).bind fun t163 => (if t163 = true then (some 0) else (some 420)))
end
def embed_Check.f (k : Nat) (a0_0 : Int) (l0_1 : List Int) (a1_0 : Int) (l1_1 : List Int) (l2_0 : List Int) (l2_1 : List Int) : Option (Int) := if (l2_0.length : Int) = a0_0 then (if (l2_1.length : Int) = (l0_1.length : Int) then ((embed_different.f l2_0 a1_0).bind fun t162 => (embed_Check.j0 k (!t162) a0_0 l0_1 a1_0 l1_1 l2_0 l2_1)) else (embed_Check.j0 k true a0_0 l0_1 a1_0 l1_1 l2_0 l2_1)) else (embed_Check.j0 k true a0_0 l0_1 a1_0 l1_1 l2_0 l2_1)
theorem embed_Check.mono_l : ∀ k, (∀ y0 y1 y2 y3 y4 y5 y6, LeO (embed_Check.j0 k y0 y1 y2 y3 y4 y5 y6) (embed_Check.j0 (k + 1) y0 y1 y2 y3 y4 y5 y6)) ∧ (∀ y0 y1 y2 y3 y4 y5 y6 y7 y8 y9, LeO (embed_Check.l0 k y0 y1 y2 y3 y4 y5 y6 y7 y8 y9) (embed_Check.l0 (k + 1) y0 y1 y2 y3 y4 y5 y6 y7 y8 y9))
  | 0 => ⟨fun _ _ _ _ _ _ _ r h => by simp [embed_Check.j0] at h, fun _ _ _ _ _ _ _ _ _ _ r h => by simp [embed_Check.l0] at h⟩
  | k + 1 => by
    obtain ⟨ih0, ih1⟩ := embed_Check.mono_l k
    refine ⟨?_, ?_⟩
    · intro y0 y1 y2 y3 y4 y5 y6
      unfold embed_Check.j0
      repeat' first
      | (with_reducible exact ih0 _ _ _ _ _ _ _)
      | (with_reducible exact ih1 _ _ _ _ _ _ _ _ _ _)
      | (with_reducible exact LeO.refl _)
      | (with_reducible exact LeO.none _)
      | (with_reducible refine LeO.ite ?_ ?_)
      | (with_reducible refine LeO.bind ?_ (fun _ => ?_))
      | exact ih0 _ _ _ _ _ _ _
      | exact ih1 _ _ _ _ _ _ _ _ _ _
      | exact LeO.none _
      | refine LeO.ite ?_ ?_
      | refine LeO.bind ?_ (fun _ => ?_)
    · intro y0 y1 y2 y3 y4 y5 y6 y7 y8 y9
      unfold embed_Check.l0
      repeat' first
      | (with_reducible exact ih0 _ _ _ _ _ _ _)
      | (with_reducible exact ih1 _ _ _ _ _ _ _ _ _ _)
      | (with_reducible exact LeO.refl _)
      | (with_reducible exact LeO.none _)
      | (with_reducible refine LeO.ite ?_ ?_)
      | (with_reducible refine LeO.bind ?_ (fun _ => ?_))
      | exact ih0 _ _ _ _ _ _ _
      | exact ih1 _ _ _ _ _ _ _ _ _ _
      | exact LeO.none _
      | refine LeO.ite ?_ ?_
      | refine LeO.bind ?_ (fun _ => ?_)
theorem embed_Check.mono : ∀ a0 a1 a2 a3 a4 a5 k, LeO (embed_Check.f k a0 a1 a2 a3 a4 a5) (embed_Check.f (k + 1) a0 a1 a2 a3 a4 a5) := by
  intro a0 a1 a2 a3 a4 a5 k
  obtain ⟨ih0, ih1⟩ := embed_Check.mono_l k
  unfold embed_Check.f
  repeat' first
      | (with_reducible exact ih0 _ _ _ _ _ _ _)
      | (with_reducible exact ih1 _ _ _ _ _ _ _ _ _ _)
      | (with_reducible exact LeO.refl _)
      | (with_reducible exact LeO.none _)
      | (with_reducible refine LeO.ite ?_ ?_)
      | (with_reducible refine LeO.bind ?_ (fun _ => ?_))
      | exact ih0 _ _ _ _ _ _ _
      | exact ih1 _ _ _ _ _ _ _ _ _ _
      | exact LeO.none _
      | refine LeO.ite ?_ ?_
      | refine LeO.bind ?_ (fun _ => ?_)
set_option maxHeartbeats 8000000 in
set_option maxRecDepth 100000 in
theorem embed_Check.calls (k : Nat) (a0_0 : Int) (A0_1 : Option Addr) (c0_1 : Nat) (l0_1 : List Int) (a1_0 : Int) (A1_1 : Option Addr) (c1_1 : Nat) (l1_1 : List Int) (A2_0 : Option Addr) (c2_0 : Nat) (l2_0 : List Int) (A2_1 : Option Addr) (c2_1 : Nat) (l2_1 : List Int) (r : Int) (w : World) (hr0_1 : Kd.C (Kd.int .u64) w A0_1 l0_1.length l0_1) (hc0_1 : l0_1.length ≤ c0_1) (hr1_1 : Kd.C (Kd.int .u64) w A1_1 l1_1.length l1_1) (hc1_1 : l1_1.length ≤ c1_1) (hr2_0 : Kd.C (Kd.int .i64) w A2_0 l2_0.length l2_0) (hc2_0 : l2_0.length ≤ c2_0) (hr2_1 : Kd.C (Kd.int .i64) w A2_1 l2_1.length l2_1) (hc2_1 : l2_1.length ≤ c2_1) (h : embed_Check.f k a0_0 l0_1 a1_0 l1_1 l2_0 l2_1 = some r) :
    Calls Try.prog 43 #[.agg #[.int .i64 a0_0, .slice A0_1 l0_1.length c0_1], .agg #[.int .i64 a1_0, .slice A1_1 l1_1.length c1_1], .agg #[.slice A2_0 l2_0.length c2_0, .slice A2_1 l2_1.length c2_1]] w fun e w' => e = .returned (.int .i64 r) ∧ Below w.heap.size w w' := by
  have hu29 := Try.underlying29
  have hu38 := Try.underlying38
  have HR0_1 := Aside0.mk hr0_1
  have HC0_1 := Aside0.mk hc0_1
  clear hr0_1 hc0_1
  have HR1_1 := Aside0.mk hr1_1
  have HC1_1 := Aside0.mk hc1_1
  clear hr1_1 hc1_1
  have HR2_0 := Aside0.mk hr2_0
  have HC2_0 := Aside0.mk hc2_0
  clear hr2_0 hc2_0
  have HR2_1 := Aside0.mk hr2_1
  have HC2_1 := Aside0.mk hc2_1
  clear hr2_1 hc2_1
  have HB := Aside0.mk (Below.refl w.heap.size w)
  have H : (if (l2_0.length : Int) = a0_0 then (if (l2_1.length : Int) = (l0_1.length : Int) then ((embed_different.f l2_0 a1_0).bind fun t162 => (embed_Check.j0 k (!t162) a0_0 l0_1 a1_0 l1_1 l2_0 l2_1)) else (embed_Check.j0 k true a0_0 l0_1 a1_0 l1_1 l2_0 l2_1)) else (embed_Check.j0 k true a0_0 l0_1 a1_0 l1_1 l2_0 l2_1)) = some r := h
  clear h
  have HC4 := Aside0.mk H
  clear H
  go_enter Try.func43, Try.ntmps43
  go_upto_region 1 with (first | ((with_reducible refine gate_dst (N := 3) rfl ?_); (try (refine gate_guard (by rfl) ?_; dsimp only)); refine box_event ?hg (N := 3) ?hd (cs := #[.int .i64 a0_0, .slice A0_1 l0_1.length c0_1]) (t := 29) ?hr ?_; (case hd => rfl); (case hg => rfl); (case hr => first | (go_simp; done) | (go_simp; rfl)); intro gb159 hg w5 hbox hb; have n0_ := pkS HB hb; have n1_ := Aside0.mk (hbox); have n2_ := pkG hg HB; have n3_ := pkG hg HB; clear HB; have HB := n0_; have BK159 := n1_; have GW159 := n2_; have GE159 := n3_; clear n0_ n1_ n2_ n3_; clear hb hbox hg) | ((with_reducible refine gate_dst (N := 4) rfl ?_); (try (refine gate_guard (by rfl) ?_; dsimp only)); refine box_event ?hg (N := 4) ?hd (cs := #[.int .i64 a1_0, .slice A1_1 l1_1.length c1_1]) (t := 29) ?hr ?_; (case hd => rfl); (case hg => rfl); (case hr => first | (go_simp; done) | (go_simp; rfl)); intro gb160 hg w6 hbox hb; have n0_ := pkBb BK159 hb; have n1_ := pkS HB hb; have n2_ := Aside0.mk (hbox); have n3_ := pkG hg HB; have n4_ := pkG hg HB; have n5_ := pkN hg BK159; have n6_ := pkM hg BK159; clear BK159; clear HB; have BK159 := n0_; have HB := n1_; have BK160 := n2_; have GW160 := n3_; have GE160 := n4_; have NB159_160 := n5_; have NB160_159 := n6_; clear n0_ n1_ n2_ n3_ n4_ n5_ n6_; clear hb hbox hg) | ((with_reducible refine gate_dst (N := 5) rfl ?_); (try (refine gate_guard (by rfl) ?_; dsimp only)); refine box_event ?hg (N := 5) ?hd (cs := #[.slice A2_0 l2_0.length c2_0, .slice A2_1 l2_1.length c2_1]) (t := 38) ?hr ?_; (case hd => rfl); (case hg => rfl); (case hr => first | (go_simp; done) | (go_simp; rfl)); intro gb161 hg w7 hbox hb; have n0_ := pkBb BK159 hb; have n1_ := pkBb BK160 hb; have n2_ := pkS HB hb; have n3_ := Aside0.mk (hbox); have n4_ := pkG hg HB; have n5_ := pkG hg HB; have n6_ := pkN hg BK159; have n7_ := pkM hg BK159; have n8_ := pkN hg BK160; have n9_ := pkM hg BK160; clear BK159; clear BK160; clear HB; have BK159 := n0_; have BK160 := n1_; have HB := n2_; have BK161 := n3_; have GW161 := n4_; have GE161 := n5_; have NB159_161 := n6_; have NB161_159 := n7_; have NB160_161 := n8_; have NB161_160 := n9_; clear n0_ n1_ n2_ n3_ n4_ n5_ n6_ n7_ n8_ n9_; clear hb hbox hg))
  repeat (go_quiet (first | ((with_reducible refine gate_dst (N := 3) rfl ?_); (try (refine gate_guard (by rfl) ?_; dsimp only)); refine box_event ?hg (N := 3) ?hd (cs := #[.int .i64 a0_0, .slice A0_1 l0_1.length c0_1]) (t := 29) ?hr ?_; (case hd => rfl); (case hg => rfl); (case hr => first | (go_simp; done) | (go_simp; rfl)); intro gb159 hg w5 hbox hb; have n0_ := pkS HB hb; have n1_ := Aside0.mk (hbox); have n2_ := pkG hg HB; have n3_ := pkG hg HB; clear HB; have HB := n0_; have BK159 := n1_; have GW159 := n2_; have GE159 := n3_; clear n0_ n1_ n2_ n3_; clear hb hbox hg) | ((with_reducible refine gate_dst (N := 4) rfl ?_); (try (refine gate_guard (by rfl) ?_; dsimp only)); refine box_event ?hg (N := 4) ?hd (cs := #[.int .i64 a1_0, .slice A1_1 l1_1.length c1_1]) (t := 29) ?hr ?_; (case hd => rfl); (case hg => rfl); (case hr => first | (go_simp; done) | (go_simp; rfl)); intro gb160 hg w6 hbox hb; have n0_ := pkBb BK159 hb; have n1_ := pkS HB hb; have n2_ := Aside0.mk (hbox); have n3_ := pkG hg HB; have n4_ := pkG hg HB; have n5_ := pkN hg BK159; have n6_ := pkM hg BK159; clear BK159; clear HB; have BK159 := n0_; have HB := n1_; have BK160 := n2_; have GW160 := n3_; have GE160 := n4_; have NB159_160 := n5_; have NB160_159 := n6_; clear n0_ n1_ n2_ n3_ n4_ n5_ n6_; clear hb hbox hg) | ((with_reducible refine gate_dst (N := 5) rfl ?_); (try (refine gate_guard (by rfl) ?_; dsimp only)); refine box_event ?hg (N := 5) ?hd (cs := #[.slice A2_0 l2_0.length c2_0, .slice A2_1 l2_1.length c2_1]) (t := 38) ?hr ?_; (case hd => rfl); (case hg => rfl); (case hr => first | (go_simp; done) | (go_simp; rfl)); intro gb161 hg w7 hbox hb; have n0_ := pkBb BK159 hb; have n1_ := pkBb BK160 hb; have n2_ := pkS HB hb; have n3_ := Aside0.mk (hbox); have n4_ := pkG hg HB; have n5_ := pkG hg HB; have n6_ := pkN hg BK159; have n7_ := pkM hg BK159; have n8_ := pkN hg BK160; have n9_ := pkM hg BK160; clear BK159; clear BK160; clear HB; have BK159 := n0_; have BK160 := n1_; have HB := n2_; have BK161 := n3_; have GW161 := n4_; have GE161 := n5_; have NB159_161 := n6_; have NB161_159 := n7_; have NB160_161 := n8_; have NB161_160 := n9_; clear n0_ n1_ n2_ n3_ n4_ n5_ n6_ n7_ n8_ n9_; clear hb hbox hg)); go_upto_region 1 with (first | ((with_reducible refine gate_dst (N := 3) rfl ?_); (try (refine gate_guard (by rfl) ?_; dsimp only)); refine box_event ?hg (N := 3) ?hd (cs := #[.int .i64 a0_0, .slice A0_1 l0_1.length c0_1]) (t := 29) ?hr ?_; (case hd => rfl); (case hg => rfl); (case hr => first | (go_simp; done) | (go_simp; rfl)); intro gb159 hg w5 hbox hb; have n0_ := pkS HB hb; have n1_ := Aside0.mk (hbox); have n2_ := pkG hg HB; have n3_ := pkG hg HB; clear HB; have HB := n0_; have BK159 := n1_; have GW159 := n2_; have GE159 := n3_; clear n0_ n1_ n2_ n3_; clear hb hbox hg) | ((with_reducible refine gate_dst (N := 4) rfl ?_); (try (refine gate_guard (by rfl) ?_; dsimp only)); refine box_event ?hg (N := 4) ?hd (cs := #[.int .i64 a1_0, .slice A1_1 l1_1.length c1_1]) (t := 29) ?hr ?_; (case hd => rfl); (case hg => rfl); (case hr => first | (go_simp; done) | (go_simp; rfl)); intro gb160 hg w6 hbox hb; have n0_ := pkBb BK159 hb; have n1_ := pkS HB hb; have n2_ := Aside0.mk (hbox); have n3_ := pkG hg HB; have n4_ := pkG hg HB; have n5_ := pkN hg BK159; have n6_ := pkM hg BK159; clear BK159; clear HB; have BK159 := n0_; have HB := n1_; have BK160 := n2_; have GW160 := n3_; have GE160 := n4_; have NB159_160 := n5_; have NB160_159 := n6_; clear n0_ n1_ n2_ n3_ n4_ n5_ n6_; clear hb hbox hg) | ((with_reducible refine gate_dst (N := 5) rfl ?_); (try (refine gate_guard (by rfl) ?_; dsimp only)); refine box_event ?hg (N := 5) ?hd (cs := #[.slice A2_0 l2_0.length c2_0, .slice A2_1 l2_1.length c2_1]) (t := 38) ?hr ?_; (case hd => rfl); (case hg => rfl); (case hr => first | (go_simp; done) | (go_simp; rfl)); intro gb161 hg w7 hbox hb; have n0_ := pkBb BK159 hb; have n1_ := pkBb BK160 hb; have n2_ := pkS HB hb; have n3_ := Aside0.mk (hbox); have n4_ := pkG hg HB; have n5_ := pkG hg HB; have n6_ := pkN hg BK159; have n7_ := pkM hg BK159; have n8_ := pkN hg BK160; have n9_ := pkM hg BK160; clear BK159; clear BK160; clear HB; have BK159 := n0_; have BK160 := n1_; have HB := n2_; have BK161 := n3_; have GW161 := n4_; have GE161 := n5_; have NB159_161 := n6_; have NB161_159 := n7_; have NB160_161 := n8_; have NB161_160 := n9_; clear n0_ n1_ n2_ n3_ n4_ n5_ n6_ n7_ n8_ n9_; clear hb hbox hg)))
  (try simp only [Act.put, List.setIfInBounds_toArray, List.set_cons_zero, List.set_cons_succ])
  go_cut [32] (fun v32 wc => ∃ (kq : Nat) (x32_3 : Bool), v32 = .bool x32_3 ∧ Aside0 (embed_Check.j0 kq x32_3 a0_0 l0_1 a1_0 l1_1 l2_0 l2_1 = some r) ∧ Aside0 (kq ≤ k) ∧ Aside0 (wc.heap[gb159]? = some (.cells #[.int .i64 a0_0, (.slice A0_1 l0_1.length c0_1)] 29 (0, 0))) ∧ Aside0 (wc.heap[gb160]? = some (.cells #[.int .i64 a1_0, (.slice A1_1 l1_1.length c1_1)] 29 (0, 0))) ∧ Aside0 (wc.heap[gb161]? = some (.cells #[(.slice A2_0 l2_0.length c2_0), (.slice A2_1 l2_1.length c2_1)] 38 (0, 0))) ∧ Aside0 (Below w.heap.size w wc))
  case first =>
    have H := HC4.out
    clear HC4
    by_cases c8 : (l2_0.length : Int) = a0_0
    · rw [if_pos c8] at H
      have c8b0 : ((l2_0.length : Int) == a0_0) = true := beq_iff_eq.mpr c8
      have c8b1 : ((l2_0.length : Int) != a0_0) = false := bne_eq_false_iff_eq.mpr c8
      clear c8
      (first | rw [c8b0] | (simp only [i64_w, i32_w]; rw [c8b0]) | skip)
      by_cases c9 : (l2_1.length : Int) = (l0_1.length : Int)
      · rw [if_pos c9] at H
        have c9b0 : ((l2_1.length : Int) == (l0_1.length : Int)) = true := beq_iff_eq.mpr c9
        have c9b1 : ((l2_1.length : Int) != (l0_1.length : Int)) = false := bne_eq_false_iff_eq.mpr c9
        have c9b2 : (l2_1.length == l0_1.length) = true := by first | simpa using c9 | (simp at c9 ⊢; omega)
        clear c9
        replace H := Option.bind_eq_some_iff.mp H
        obtain ⟨t162, A100, H⟩ := H
        replace H : (embed_Check.j0 k (!t162) a0_0 l0_1 a1_0 l1_1 l2_0 l2_1) = some r := H
        have A10 := Aside0.mk A100
        clear A100
        have H' := Aside0.mk H
        clear H
        have hnb11 := NB161_159.out
        have hnc11 := NB159_161.out
        have hnb12 := NB161_160.out
        have hnc12 := NB160_161.out
        have hcz13_0 : w7.cell? ⟨gb161, 0, none⟩ = some (.slice A2_0 l2_0.length c2_0) := (blk_cell BK161.out 0).trans rfl
        have hcz13_1 : w7.cell? ⟨gb161, 1, none⟩ = some (.slice A2_1 l2_1.length c2_1) := (blk_cell BK161.out 1).trans rfl
        have hfz13_0 := blk_frozen BK161.out 0
        have hfz13_1 := blk_frozen BK161.out 1
        have hnb14 := NB159_160.out
        have hnc14 := NB160_159.out
        have hcz15_0 : w7.cell? ⟨gb159, 0, none⟩ = some (.int .i64 a0_0) := (blk_cell BK159.out 0).trans rfl
        have hcz15_1 : w7.cell? ⟨gb159, 1, none⟩ = some (.slice A0_1 l0_1.length c0_1) := (blk_cell BK159.out 1).trans rfl
        have hfz15_0 := blk_frozen BK159.out 0
        have hfz15_1 := blk_frozen BK159.out 1
        have hcz16_0 : w7.cell? ⟨gb160, 0, none⟩ = some (.int .i64 a1_0) := (blk_cell BK160.out 0).trans rfl
        have hcz16_1 : w7.cell? ⟨gb160, 1, none⟩ = some (.slice A1_1 l1_1.length c1_1) := (blk_cell BK160.out 1).trans rfl
        have hfz16_0 := blk_frozen BK160.out 0
        have hfz16_1 := blk_frozen BK160.out 1
        go_wp2_with (first | (go_at_call 28; (with_reducible refine (embed_different.calls _ _ l2_0 a1_0 t162 _ ?side1 ?side2 A10.out).mono ?_); (case side1 => exact pkC (Kd.C_below HR2_0.out HB.out)); (case side2 => exact HC2_0.out); rintro e w17 ⟨rfl, hb⟩; have n0_ := pkBb BK159 hb; have n1_ := pkBb BK160 hb; have n2_ := pkBb BK161 hb; have n3_ := pkS HB hb; clear BK159; clear BK160; clear BK161; clear HB; have BK159 := n0_; have BK160 := n1_; have BK161 := n2_; have HB := n3_; clear n0_ n1_ n2_ n3_; (try clear hb); (try clear hb2); (try clear hk); (try clear hi)))
        repeat (go_quiet (first | (go_at_call 28; (with_reducible refine (embed_different.calls _ _ l2_0 a1_0 t162 _ ?side1 ?side2 A10.out).mono ?_); (case side1 => exact pkC (Kd.C_below HR2_0.out HB.out)); (case side2 => exact HC2_0.out); rintro e w17 ⟨rfl, hb⟩; have n0_ := pkBb BK159 hb; have n1_ := pkBb BK160 hb; have n2_ := pkBb BK161 hb; have n3_ := pkS HB hb; clear BK159; clear BK160; clear BK161; clear HB; have BK159 := n0_; have BK160 := n1_; have BK161 := n2_; have HB := n3_; clear n0_ n1_ n2_ n3_; (try clear hb); (try clear hb2); (try clear hk); (try clear hi))); try go_wp2_with (first | (go_at_call 28; (with_reducible refine (embed_different.calls _ _ l2_0 a1_0 t162 _ ?side1 ?side2 A10.out).mono ?_); (case side1 => exact pkC (Kd.C_below HR2_0.out HB.out)); (case side2 => exact HC2_0.out); rintro e w17 ⟨rfl, hb⟩; have n0_ := pkBb BK159 hb; have n1_ := pkBb BK160 hb; have n2_ := pkBb BK161 hb; have n3_ := pkS HB hb; clear BK159; clear BK160; clear BK161; clear HB; have BK159 := n0_; have BK160 := n1_; have BK161 := n2_; have HB := n3_; clear n0_ n1_ n2_ n3_; (try clear hb); (try clear hb2); (try clear hk); (try clear hi))))
        go_meet
        case rel => exact ⟨_, (!t162), (by first | rfl | (simp; done) | (simp [*]; done)), H', ⟨by first | omega | exact Nat.le_refl _⟩, ⟨pkB BK159.out⟩, ⟨pkB BK160.out⟩, ⟨pkB BK161.out⟩, ⟨pkW HB.out⟩⟩
      · rw [if_neg c9] at H
        have c9b0 : ((l2_1.length : Int) == (l0_1.length : Int)) = false := beq_eq_false_iff_ne.mpr c9
        have c9b1 : ((l2_1.length : Int) != (l0_1.length : Int)) = true := bne_iff_ne.mpr c9
        have c9b2 : (l2_1.length == l0_1.length) = false := by first | simpa using c9 | (simp at c9 ⊢; omega)
        have H' := Aside0.mk H
        clear H
        have hnb18 := NB161_159.out
        have hnc18 := NB159_161.out
        have hnb19 := NB161_160.out
        have hnc19 := NB160_161.out
        have hcz20_0 : w7.cell? ⟨gb161, 0, none⟩ = some (.slice A2_0 l2_0.length c2_0) := (blk_cell BK161.out 0).trans rfl
        have hcz20_1 : w7.cell? ⟨gb161, 1, none⟩ = some (.slice A2_1 l2_1.length c2_1) := (blk_cell BK161.out 1).trans rfl
        have hfz20_0 := blk_frozen BK161.out 0
        have hfz20_1 := blk_frozen BK161.out 1
        have hnb21 := NB159_160.out
        have hnc21 := NB160_159.out
        have hcz22_0 : w7.cell? ⟨gb159, 0, none⟩ = some (.int .i64 a0_0) := (blk_cell BK159.out 0).trans rfl
        have hcz22_1 : w7.cell? ⟨gb159, 1, none⟩ = some (.slice A0_1 l0_1.length c0_1) := (blk_cell BK159.out 1).trans rfl
        have hfz22_0 := blk_frozen BK159.out 0
        have hfz22_1 := blk_frozen BK159.out 1
        go_wp2
        repeat (go_quiet (fail); try go_wp2)
        go_meet
        case rel => exact ⟨_, (true), (by first | rfl | (simp; done) | (simp [*]; done)), H', ⟨by first | omega | exact Nat.le_refl _⟩, ⟨pkB BK159.out⟩, ⟨pkB BK160.out⟩, ⟨pkB BK161.out⟩, ⟨pkW HB.out⟩⟩
    · rw [if_neg c8] at H
      have c8b0 : ((l2_0.length : Int) == a0_0) = false := beq_eq_false_iff_ne.mpr c8
      have c8b1 : ((l2_0.length : Int) != a0_0) = true := bne_iff_ne.mpr c8
      (first | rw [c8b0] | (simp only [i64_w, i32_w]; rw [c8b0]) | skip)
      have H' := Aside0.mk H
      clear H
      have hnb23 := NB161_159.out
      have hnc23 := NB159_161.out
      have hnb24 := NB161_160.out
      have hnc24 := NB160_161.out
      have hcz25_0 : w7.cell? ⟨gb161, 0, none⟩ = some (.slice A2_0 l2_0.length c2_0) := (blk_cell BK161.out 0).trans rfl
      have hcz25_1 : w7.cell? ⟨gb161, 1, none⟩ = some (.slice A2_1 l2_1.length c2_1) := (blk_cell BK161.out 1).trans rfl
      have hfz25_0 := blk_frozen BK161.out 0
      have hfz25_1 := blk_frozen BK161.out 1
      have hnb26 := NB159_160.out
      have hnc26 := NB160_159.out
      have hcz27_0 : w7.cell? ⟨gb159, 0, none⟩ = some (.int .i64 a0_0) := (blk_cell BK159.out 0).trans rfl
      have hcz27_1 : w7.cell? ⟨gb159, 1, none⟩ = some (.slice A0_1 l0_1.length c0_1) := (blk_cell BK159.out 1).trans rfl
      have hfz27_0 := blk_frozen BK159.out 0
      have hfz27_1 := blk_frozen BK159.out 1
      go_wp2
      repeat (go_quiet (fail); try go_wp2)
      go_meet
      case rel => exact ⟨_, (true), (by first | rfl | (simp; done) | (simp [*]; done)), H', ⟨by first | omega | exact Nat.le_refl _⟩, ⟨pkB BK159.out⟩, ⟨pkB BK160.out⟩, ⟨pkB BK161.out⟩, ⟨pkW HB.out⟩⟩
  case rest =>
    clear HC4
    try clear c1
    try clear c2
    try clear p2
    try clear c4
    try clear c8
    try clear c8b0
    try clear c8b1
    try clear c9
    try clear c9b0
    try clear c9b1
    try clear c9b2
    try clear c11
    try clear c12
    try clear c14
    try clear c18
    try clear c19
    try clear c21
    try clear c23
    try clear c24
    try clear c26
    try clear hcz13_0
    try clear hcz13_1
    try clear hcz15_0
    try clear hcz15_1
    try clear hcz16_0
    try clear hcz16_1
    try clear hcz20_0
    try clear hcz20_1
    try clear hcz22_0
    try clear hcz22_1
    try clear hcz25_0
    try clear hcz25_1
    try clear hcz27_0
    try clear hcz27_1
    try clear hfz13_0
    try clear hfz13_1
    try clear hfz15_0
    try clear hfz15_1
    try clear hfz16_0
    try clear hfz16_1
    try clear hfz20_0
    try clear hfz20_1
    try clear hfz22_0
    try clear hfz22_1
    try clear hfz25_0
    try clear hfz25_1
    try clear hfz27_0
    try clear hfz27_1
    obtain ⟨kq, x32_3, rfl, HA, HJ3, BK159, BK160, BK161, HB⟩ := hcut
    cases kq with
    | zero => exact absurd HA.out (by simp [embed_Check.j0])
    | succ kj3 =>
      have H := HA.out
      clear HA
      simp only [embed_Check.j0] at H
      by_cases c28 : x32_3 = true
      · subst c28
        have H1 : (some 420) = some r := by first | rfl | (rw [if_pos rfl] at H; exact H)
        clear H
        have H := H1
        clear H1
        obtain rfl := Option.some.inj H
        go_wp2
        repeat (go_quiet (fail); try go_wp2)
        go_ret
        exact ⟨by first | rfl | (simp [errW_none, errW_some] <;> rfl) | (simp [*, errW_none, errW_some] <;> rfl), pkW HB.out⟩
      · replace c28 := Bool.eq_false_iff.mpr c28
        subst c28
        have H1 : (embed_Check.l0 kj3 ([] : List Int) l2_1 (l2_1.length : Int) 0 a0_0 l0_1 a1_0 l1_1 l2_0 l2_1) = some r := by first | rfl | (rw [if_neg (show ¬ (false = true) by decide)] at H; exact H)
        clear H
        have H := H1
        clear H1
        have H' := Aside0.mk H
        clear H
        have hnb29 := NB161_159.out
        have hnc29 := NB159_161.out
        have hnb30 := NB161_160.out
        have hnc30 := NB160_161.out
        have hcz31_0 : wc.cell? ⟨gb161, 0, none⟩ = some (.slice A2_0 l2_0.length c2_0) := (blk_cell BK161.out 0).trans rfl
        have hcz31_1 : wc.cell? ⟨gb161, 1, none⟩ = some (.slice A2_1 l2_1.length c2_1) := (blk_cell BK161.out 1).trans rfl
        have hfz31_0 := blk_frozen BK161.out 0
        have hfz31_1 := blk_frozen BK161.out 1
        go_wp2
        repeat (go_quiet (fail); try go_wp2)
        go_loopg [7, 36] kj3 (fun kq v7 v36 w' => ∃ (x7_2 : List Int) (x36_2 : Int), v36 = .int .i64 x36_2 ∧ Aside0 (embed_Check.l0 kq x7_2 l2_1 (l2_1.length : Int) x36_2 a0_0 l0_1 a1_0 l1_1 l2_0 l2_1 = some r) ∧ Aside0 (kq ≤ kj3) ∧ Aside0 (Kd.R (Kd.int .i64) 3 w' w.heap.size (fun _ => True) v7 x7_2) ∧ Aside0 (w'.heap[gb159]? = some (.cells #[.int .i64 a0_0, (.slice A0_1 l0_1.length c0_1)] 29 (0, 0))) ∧ Aside0 (w'.heap[gb160]? = some (.cells #[.int .i64 a1_0, (.slice A1_1 l1_1.length c1_1)] 29 (0, 0))) ∧ Aside0 (w'.heap[gb161]? = some (.cells #[(.slice A2_0 l2_0.length c2_0), (.slice A2_1 l2_1.length c2_1)] 38 (0, 0))) ∧ Aside0 (Below w.heap.size w w'))
        case atStart => exact ⟨(([] : List Int)), (0), (by first | rfl | (simp; done) | (simp [*]; done)), H', ⟨Nat.le_refl _⟩, ⟨by first | exact Kd.R_nil _ _ _ _ _ | exact Kd.N_nil _ _ _ _ _ | exact Kd.V_nil _ _ _ _ _ | exact Kd.Q_nil _ _ _ _ _ | exact Kd.S_nil _ _ _ _ _⟩, ⟨pkB BK159.out⟩, ⟨pkB BK160.out⟩, ⟨pkB BK161.out⟩, ⟨pkW HB.out⟩⟩
        case round =>
          clear H'
          try clear c1
          try clear c2
          try clear p2
          try clear c3
          try clear c4
          try clear c8
          try clear c8b0
          try clear c8b1
          try clear c9
          try clear c9b0
          try clear c9b1
          try clear c9b2
          try clear c11
          try clear c12
          try clear c14
          try clear c18
          try clear c19
          try clear c21
          try clear c23
          try clear c24
          try clear c26
          try clear c28
          try clear c29
          try clear c30
          try clear hcz13_0
          try clear hcz13_1
          try clear hcz15_0
          try clear hcz15_1
          try clear hcz16_0
          try clear hcz16_1
          try clear hcz20_0
          try clear hcz20_1
          try clear hcz22_0
          try clear hcz22_1
          try clear hcz25_0
          try clear hcz25_1
          try clear hcz27_0
          try clear hcz27_1
          try clear hcz31_0
          try clear hcz31_1
          try clear hfz13_0
          try clear hfz13_1
          try clear hfz15_0
          try clear hfz15_1
          try clear hfz16_0
          try clear hfz16_1
          try clear hfz20_0
          try clear hfz20_1
          try clear hfz22_0
          try clear hfz22_1
          try clear hfz25_0
          try clear hfz25_1
          try clear hfz27_0
          try clear hfz27_1
          try clear hfz31_0
          try clear hfz31_1
          try clear p2
          obtain ⟨x7_2, x36_2, rfl, HA, HK2, HO_7, BK159, BK160, BK161, HB⟩ := hrel
          cases gk with
          | zero => exact absurd HA.out (by simp [embed_Check.l0])
          | succ k2 =>
            have H := HA.out
            clear HA
            simp only [embed_Check.l0] at H
            by_cases c32 : x36_2 < (l2_1.length : Int)
            · rw [if_pos c32] at H
              have c32b0 : decide (x36_2 < (l2_1.length : Int)) = true := decide_eq_true c32
              clear c32
              by_cases c33 : 0 ≤ x36_2
              · rw [if_pos c33] at H
                have c33b0 : decide (0 ≤ x36_2) = true := decide_eq_true c33
                clear c33
                by_cases c34 : x36_2 < (l2_1.length : Int)
                · rw [if_pos c34] at H
                  have c34b0 : decide (x36_2 < (l2_1.length : Int)) = true := decide_eq_true c34
                  clear c34
                  by_cases c35 : (rd l2_1 x36_2) = (-1)
                  · rw [if_pos c35] at H
                    have c35b0 : ((rd l2_1 x36_2) == (-1)) = true := beq_iff_eq.mpr c35
                    have c35b1 : ((rd l2_1 x36_2) != (-1)) = false := bne_eq_false_iff_eq.mpr c35
                    clear c35
                    have H' := Aside0.mk H
                    clear H
                    have p164 : 0 ≤ (x36_2 : Int) := of_decide_eq_true (by first | (with_reducible assumption) | assumption)
                    have q164 : x36_2 < (l2_1.length : Int) := of_decide_eq_true (by first | (with_reducible assumption) | assumption)
                    obtain ⟨ad164, e164, hx164_0⟩ := Kd.at_int HR2_1.out x36_2 p164 q164
                    cases e164
                    replace hx164_0 := (HB.out.cell (World.block_lt_of_cell? w _ hx164_0)).trans hx164_0
                    replace p164 := eq_true p164
                    replace q164 := eq_true q164
                    go_wp2
                    repeat (go_quiet (fail); try go_wp2)
                    go_roundg k2
                    case measure => have := HJ3.out; have := HK2.out; omega
                    case rel => exact ⟨(x7_2), (wrap64 (x36_2 + 1)), (by first | rfl | (simp; done) | (simp [*]; done)), H', ⟨by have := HJ3.out; have := HK2.out; omega⟩, ⟨pkR HO_7.out⟩, ⟨pkB BK159.out⟩, ⟨pkB BK160.out⟩, ⟨pkB BK161.out⟩, ⟨pkW HB.out⟩⟩
                  · rw [if_neg c35] at H
                    have c35b0 : ((rd l2_1 x36_2) == (-1)) = false := beq_eq_false_iff_ne.mpr c35
                    have c35b1 : ((rd l2_1 x36_2) != (-1)) = true := bne_iff_ne.mpr c35
                    by_cases c36 : (rd l2_1 x36_2) < 0
                    · rw [if_pos c36] at H
                      have c36b0 : decide ((rd l2_1 x36_2) < 0) = true := decide_eq_true c36
                      clear c36
                      obtain rfl := Option.some.inj H
                      have p164 : 0 ≤ (x36_2 : Int) := of_decide_eq_true (by first | (with_reducible assumption) | assumption)
                      have q164 : x36_2 < (l2_1.length : Int) := of_decide_eq_true (by first | (with_reducible assumption) | assumption)
                      obtain ⟨ad164, e164, hx164_0⟩ := Kd.at_int HR2_1.out x36_2 p164 q164
                      cases e164
                      replace hx164_0 := (HB.out.cell (World.block_lt_of_cell? w _ hx164_0)).trans hx164_0
                      replace p164 := eq_true p164
                      replace q164 := eq_true q164
                      go_wp2
                      repeat (go_quiet (fail); try go_wp2)
                      go_ret
                      exact ⟨by first | rfl | (simp [errW_none, errW_some] <;> rfl) | (simp [*, errW_none, errW_some] <;> rfl), pkW HB.out⟩
                    · rw [if_neg c36] at H
                      have c36b0 : decide ((rd l2_1 x36_2) < 0) = false := decide_eq_false c36
                      clear c36
                      by_cases c37 : (rd l2_1 x36_2) ≥ (l1_1.length : Int)
                      · rw [if_pos c37] at H
                        have c37b0 : decide ((l1_1.length : Int) ≤ (rd l2_1 x36_2)) = true := decide_eq_true c37
                        clear c37
                        obtain rfl := Option.some.inj H
                        have p164 : 0 ≤ (x36_2 : Int) := of_decide_eq_true (by first | (with_reducible assumption) | assumption)
                        have q164 : x36_2 < (l2_1.length : Int) := of_decide_eq_true (by first | (with_reducible assumption) | assumption)
                        obtain ⟨ad164, e164, hx164_0⟩ := Kd.at_int HR2_1.out x36_2 p164 q164
                        cases e164
                        replace hx164_0 := (HB.out.cell (World.block_lt_of_cell? w _ hx164_0)).trans hx164_0
                        replace p164 := eq_true p164
                        replace q164 := eq_true q164
                        have hnb38 := NB160_159.out
                        have hnc38 := NB159_160.out
                        have hnb39 := NB160_161.out
                        have hnc39 := NB161_160.out
                        have hcz40_0 : wr.cell? ⟨gb160, 0, none⟩ = some (.int .i64 a1_0) := (blk_cell BK160.out 0).trans rfl
                        have hcz40_1 : wr.cell? ⟨gb160, 1, none⟩ = some (.slice A1_1 l1_1.length c1_1) := (blk_cell BK160.out 1).trans rfl
                        have hfz40_0 := blk_frozen BK160.out 0
                        have hfz40_1 := blk_frozen BK160.out 1
                        go_wp2
                        repeat (go_quiet (fail); try go_wp2)
                        go_ret
                        exact ⟨by first | rfl | (simp [errW_none, errW_some] <;> rfl) | (simp [*, errW_none, errW_some] <;> rfl), pkW HB.out⟩
                      · rw [if_neg c37] at H
                        have c37b0 : decide ((l1_1.length : Int) ≤ (rd l2_1 x36_2)) = false := decide_eq_false c37
                        clear c37
                        by_cases c41 : 0 ≤ (rd l2_1 x36_2)
                        · rw [if_pos c41] at H
                          have c41b0 : decide (0 ≤ (rd l2_1 x36_2)) = true := decide_eq_true c41
                          clear c41
                          by_cases c42 : (rd l2_1 x36_2) < (l1_1.length : Int)
                          · rw [if_pos c42] at H
                            have c42b0 : decide ((rd l2_1 x36_2) < (l1_1.length : Int)) = true := decide_eq_true c42
                            clear c42
                            by_cases c43 : x36_2 < (l0_1.length : Int)
                            · rw [if_pos c43] at H
                              have c43b0 : decide (x36_2 < (l0_1.length : Int)) = true := decide_eq_true c43
                              clear c43
                              replace H := Option.bind_eq_some_iff.mp H
                              obtain ⟨t167, A440, H⟩ := H
                              replace H : (if (rd l1_1 (rd l2_1 x36_2)) = t167 then (if x7_2.length < 17592186044416 then (embed_Check.l0 k2 (x7_2 ++ [rd l2_1 x36_2]) l2_1 (l2_1.length : Int) (wrap64 (x36_2 + 1)) a0_0 l0_1 a1_0 l1_1 l2_0 l2_1) else (none)) else (some 420)) = some r := H
                              have A44 := Aside0.mk A440
                              clear A440
                              by_cases c45 : (rd l1_1 (rd l2_1 x36_2)) = t167
                              · rw [if_pos c45] at H
                                have c45b0 : ((rd l1_1 (rd l2_1 x36_2)) == t167) = true := beq_iff_eq.mpr c45
                                have c45b1 : ((rd l1_1 (rd l2_1 x36_2)) != t167) = false := bne_eq_false_iff_eq.mpr c45
                                clear c45
                                by_cases c46 : x7_2.length < 17592186044416
                                · rw [if_pos c46] at H
                                  have LMc46 := Aside0.mk c46
                                  clear c46
                                  obtain ⟨y168, hy168⟩ : ∃ y_ : List Int, y_ = (x7_2 ++ [rd l2_1 x36_2]) := ⟨_, rfl⟩
                                  replace H : (embed_Check.l0 k2 y168 l2_1 (l2_1.length : Int) (wrap64 (x36_2 + 1)) a0_0 l0_1 a1_0 l1_1 l2_0 l2_1) = some r := by first | (rw [hy168]; with_reducible exact H) | (have H2_ := (Option.bind_some _ _).symm.trans H; rw [hy168]; with_reducible exact H2_) | (have H2_ := (Option.bind_some _ _).symm.trans H; with_reducible exact H2_) | with_reducible exact H | (rw [hy168]; exact H) | exact H
                                  have Ny168 := Aside0.mk hy168
                                  clear hy168
                                  have H' := Aside0.mk H
                                  clear H
                                  have p164 : 0 ≤ (x36_2 : Int) := of_decide_eq_true (by first | (with_reducible assumption) | assumption)
                                  have q164 : x36_2 < (l2_1.length : Int) := of_decide_eq_true (by first | (with_reducible assumption) | assumption)
                                  obtain ⟨ad164, e164, hx164_0⟩ := Kd.at_int HR2_1.out x36_2 p164 q164
                                  cases e164
                                  replace hx164_0 := (HB.out.cell (World.block_lt_of_cell? w _ hx164_0)).trans hx164_0
                                  replace p164 := eq_true p164
                                  replace q164 := eq_true q164
                                  have hnb47 := NB160_159.out
                                  have hnc47 := NB159_160.out
                                  have hnb48 := NB160_161.out
                                  have hnc48 := NB161_160.out
                                  have hcz49_0 : wr.cell? ⟨gb160, 0, none⟩ = some (.int .i64 a1_0) := (blk_cell BK160.out 0).trans rfl
                                  have hcz49_1 : wr.cell? ⟨gb160, 1, none⟩ = some (.slice A1_1 l1_1.length c1_1) := (blk_cell BK160.out 1).trans rfl
                                  have hfz49_0 := blk_frozen BK160.out 0
                                  have hfz49_1 := blk_frozen BK160.out 1
                                  have p165 : 0 ≤ ((rd l2_1 x36_2) : Int) := of_decide_eq_true (by first | (with_reducible assumption) | assumption)
                                  have q165 : (rd l2_1 x36_2) < (l1_1.length : Int) := of_decide_eq_true (by first | (with_reducible assumption) | assumption)
                                  obtain ⟨ad165, e165, hx165_0⟩ := Kd.at_int HR1_1.out (rd l2_1 x36_2) p165 q165
                                  cases e165
                                  replace hx165_0 := (HB.out.cell (World.block_lt_of_cell? w _ hx165_0)).trans hx165_0
                                  replace p165 := eq_true p165
                                  replace q165 := eq_true q165
                                  have hnb50 := NB159_161.out
                                  have hnc50 := NB161_159.out
                                  have hcz51_0 : wr.cell? ⟨gb159, 0, none⟩ = some (.int .i64 a0_0) := (blk_cell BK159.out 0).trans rfl
                                  have hcz51_1 : wr.cell? ⟨gb159, 1, none⟩ = some (.slice A0_1 l0_1.length c0_1) := (blk_cell BK159.out 1).trans rfl
                                  have hfz51_0 := blk_frozen BK159.out 0
                                  have hfz51_1 := blk_frozen BK159.out 1
                                  have p166 : 0 ≤ (x36_2 : Int) := of_decide_eq_true (by first | (with_reducible assumption) | assumption)
                                  have q166 : x36_2 < (l0_1.length : Int) := of_decide_eq_true (by first | (with_reducible assumption) | assumption)
                                  obtain ⟨ad166, e166, hx166_0⟩ := Kd.at_int HR0_1.out x36_2 p166 q166
                                  cases e166
                                  replace hx166_0 := (HB.out.cell (World.block_lt_of_cell? w _ hx166_0)).trans hx166_0
                                  replace p166 := eq_true p166
                                  replace q166 := eq_true q166
                                  have hcz52_0 : wr.cell? ⟨gb161, 0, none⟩ = some (.slice A2_0 l2_0.length c2_0) := (blk_cell BK161.out 0).trans rfl
                                  have hcz52_1 : wr.cell? ⟨gb161, 1, none⟩ = some (.slice (some ad164) l2_1.length c2_1) := (blk_cell BK161.out 1).trans rfl
                                  have hfz52_0 := blk_frozen BK161.out 0
                                  have hfz52_1 := blk_frozen BK161.out 1
                                  go_wp2_with (first | (go_at_call 51; (with_reducible refine (embed_moved.calls (rd l0_1 x36_2) _ _ l2_0 t167 _ ?side1 ?side2 A44.out).mono ?_); (case side1 => exact pkC (Kd.C_below HR2_0.out HB.out)); (case side2 => exact HC2_0.out); rintro e w' ⟨rfl, ⟨nd, rfl⟩⟩; (try first | exact ⟨rfl, _, World.drewN_drewN _ _ _⟩ | exact ⟨rfl, _, Eq.trans (World.drewN_drewN _ _ _) (congrArg (World.drewN _) (Nat.add_assoc _ _ _))⟩)) | ((with_reducible refine gate_builtin (b := .append) (xs := #[.tmp 68, .tmp 70]) rfl ?_); (try (refine gate_guard (by rfl) ?_; dsimp only)); at_builtin; refine Kd.R_append (Kd.int .i64) (w0 := w) w.heap.size rfl (.tmp 68) (.tmp 70) 32 3 (.int .i64 0) 8 rfl Try.underlying32 info3 rfl (by decide) (by omega) u7 x7_2 (rd l2_1 x36_2) [.int .i64 (rd l2_1 x36_2)] (fun _ => True) (fun _ => False) rfl rfl ?aP (fun _ hk => hk.elim) ?aF ?aO ?aB ?aS ?aL ?_; (case aP => exact rfl); (case aB => exact (pkW HB.out)); (case aF => exact (fun _ _ => trivial)); (case aO => exact (pkR HO_7.out)); (case aS => exact (pkZ HB)); (case aL => have := LMc46.out; omega); intro v169 w53 ho hb hg hat; rw [← Ny168.out] at ho; have n0_ := Aside0.mk (blk_grown (g := gb159) (o := .cells #[.int .i64 a0_0, .slice (some ad166) l0_1.length c0_1] 29 (0, 0)) (pkB BK159.out) hg (Kd.R_ne HO_7.out BK159.out (by decide))); have n1_ := Aside0.mk (blk_grown (g := gb160) (o := .cells #[.int .i64 a1_0, .slice (some ad165) l1_1.length c1_1] 29 (0, 0)) (pkB BK160.out) hg (Kd.R_ne HO_7.out BK160.out (by decide))); have n2_ := Aside0.mk (blk_grown (g := gb161) (o := .cells #[.slice A2_0 l2_0.length c2_0, .slice (some ad164) l2_1.length c2_1] 38 (0, 0)) (pkB BK161.out) hg (Kd.R_ne HO_7.out BK161.out (by decide))); have n3_ := Aside0.mk (hb); have n4_ := Aside0.mk (ho); clear BK159; clear BK160; clear BK161; clear HB; clear HO_7; have BK159 := n0_; have BK160 := n1_; have BK161 := n2_; have HB := n3_; have HO170 := n4_; clear n0_ n1_ n2_ n3_ n4_; clear ho hb hg hat))
                                  repeat (go_quiet (first | (go_at_call 51; (with_reducible refine (embed_moved.calls (rd l0_1 x36_2) _ _ l2_0 t167 _ ?side1 ?side2 A44.out).mono ?_); (case side1 => exact pkC (Kd.C_below HR2_0.out HB.out)); (case side2 => exact HC2_0.out); rintro e w' ⟨rfl, ⟨nd, rfl⟩⟩; (try first | exact ⟨rfl, _, World.drewN_drewN _ _ _⟩ | exact ⟨rfl, _, Eq.trans (World.drewN_drewN _ _ _) (congrArg (World.drewN _) (Nat.add_assoc _ _ _))⟩)) | ((with_reducible refine gate_builtin (b := .append) (xs := #[.tmp 68, .tmp 70]) rfl ?_); (try (refine gate_guard (by rfl) ?_; dsimp only)); at_builtin; refine Kd.R_append (Kd.int .i64) (w0 := w) w.heap.size rfl (.tmp 68) (.tmp 70) 32 3 (.int .i64 0) 8 rfl Try.underlying32 info3 rfl (by decide) (by omega) u7 x7_2 (rd l2_1 x36_2) [.int .i64 (rd l2_1 x36_2)] (fun _ => True) (fun _ => False) rfl rfl ?aP (fun _ hk => hk.elim) ?aF ?aO ?aB ?aS ?aL ?_; (case aP => exact rfl); (case aB => exact (pkW HB.out)); (case aF => exact (fun _ _ => trivial)); (case aO => exact (pkR HO_7.out)); (case aS => exact (pkZ HB)); (case aL => have := LMc46.out; omega); intro v169 w53 ho hb hg hat; rw [← Ny168.out] at ho; have n0_ := Aside0.mk (blk_grown (g := gb159) (o := .cells #[.int .i64 a0_0, .slice (some ad166) l0_1.length c0_1] 29 (0, 0)) (pkB BK159.out) hg (Kd.R_ne HO_7.out BK159.out (by decide))); have n1_ := Aside0.mk (blk_grown (g := gb160) (o := .cells #[.int .i64 a1_0, .slice (some ad165) l1_1.length c1_1] 29 (0, 0)) (pkB BK160.out) hg (Kd.R_ne HO_7.out BK160.out (by decide))); have n2_ := Aside0.mk (blk_grown (g := gb161) (o := .cells #[.slice A2_0 l2_0.length c2_0, .slice (some ad164) l2_1.length c2_1] 38 (0, 0)) (pkB BK161.out) hg (Kd.R_ne HO_7.out BK161.out (by decide))); have n3_ := Aside0.mk (hb); have n4_ := Aside0.mk (ho); clear BK159; clear BK160; clear BK161; clear HB; clear HO_7; have BK159 := n0_; have BK160 := n1_; have BK161 := n2_; have HB := n3_; have HO170 := n4_; clear n0_ n1_ n2_ n3_ n4_; clear ho hb hg hat)); try go_wp2_with (first | (go_at_call 51; (with_reducible refine (embed_moved.calls (rd l0_1 x36_2) _ _ l2_0 t167 _ ?side1 ?side2 A44.out).mono ?_); (case side1 => exact pkC (Kd.C_below HR2_0.out HB.out)); (case side2 => exact HC2_0.out); rintro e w' ⟨rfl, ⟨nd, rfl⟩⟩; (try first | exact ⟨rfl, _, World.drewN_drewN _ _ _⟩ | exact ⟨rfl, _, Eq.trans (World.drewN_drewN _ _ _) (congrArg (World.drewN _) (Nat.add_assoc _ _ _))⟩)) | ((with_reducible refine gate_builtin (b := .append) (xs := #[.tmp 68, .tmp 70]) rfl ?_); (try (refine gate_guard (by rfl) ?_; dsimp only)); at_builtin; refine Kd.R_append (Kd.int .i64) (w0 := w) w.heap.size rfl (.tmp 68) (.tmp 70) 32 3 (.int .i64 0) 8 rfl Try.underlying32 info3 rfl (by decide) (by omega) u7 x7_2 (rd l2_1 x36_2) [.int .i64 (rd l2_1 x36_2)] (fun _ => True) (fun _ => False) rfl rfl ?aP (fun _ hk => hk.elim) ?aF ?aO ?aB ?aS ?aL ?_; (case aP => exact rfl); (case aB => exact (pkW HB.out)); (case aF => exact (fun _ _ => trivial)); (case aO => exact (pkR HO_7.out)); (case aS => exact (pkZ HB)); (case aL => have := LMc46.out; omega); intro v169 w53 ho hb hg hat; rw [← Ny168.out] at ho; have n0_ := Aside0.mk (blk_grown (g := gb159) (o := .cells #[.int .i64 a0_0, .slice (some ad166) l0_1.length c0_1] 29 (0, 0)) (pkB BK159.out) hg (Kd.R_ne HO_7.out BK159.out (by decide))); have n1_ := Aside0.mk (blk_grown (g := gb160) (o := .cells #[.int .i64 a1_0, .slice (some ad165) l1_1.length c1_1] 29 (0, 0)) (pkB BK160.out) hg (Kd.R_ne HO_7.out BK160.out (by decide))); have n2_ := Aside0.mk (blk_grown (g := gb161) (o := .cells #[.slice A2_0 l2_0.length c2_0, .slice (some ad164) l2_1.length c2_1] 38 (0, 0)) (pkB BK161.out) hg (Kd.R_ne HO_7.out BK161.out (by decide))); have n3_ := Aside0.mk (hb); have n4_ := Aside0.mk (ho); clear BK159; clear BK160; clear BK161; clear HB; clear HO_7; have BK159 := n0_; have BK160 := n1_; have BK161 := n2_; have HB := n3_; have HO170 := n4_; clear n0_ n1_ n2_ n3_ n4_; clear ho hb hg hat)))
                                  go_roundg k2
                                  case measure => have := HJ3.out; have := HK2.out; omega
                                  case rel => exact ⟨(y168), (wrap64 (x36_2 + 1)), (by first | rfl | (simp; done) | (simp [*]; done)), H', ⟨by have := HJ3.out; have := HK2.out; omega⟩, ⟨pkR HO170.out⟩, ⟨pkB BK159.out⟩, ⟨pkB BK160.out⟩, ⟨pkB BK161.out⟩, ⟨pkW HB.out⟩⟩
                                · rw [if_neg c46] at H
                                  exact absurd H (by simp)
                              · rw [if_neg c45] at H
                                have c45b0 : ((rd l1_1 (rd l2_1 x36_2)) == t167) = false := beq_eq_false_iff_ne.mpr c45
                                have c45b1 : ((rd l1_1 (rd l2_1 x36_2)) != t167) = true := bne_iff_ne.mpr c45
                                obtain rfl := Option.some.inj H
                                have p164 : 0 ≤ (x36_2 : Int) := of_decide_eq_true (by first | (with_reducible assumption) | assumption)
                                have q164 : x36_2 < (l2_1.length : Int) := of_decide_eq_true (by first | (with_reducible assumption) | assumption)
                                obtain ⟨ad164, e164, hx164_0⟩ := Kd.at_int HR2_1.out x36_2 p164 q164
                                cases e164
                                replace hx164_0 := (HB.out.cell (World.block_lt_of_cell? w _ hx164_0)).trans hx164_0
                                replace p164 := eq_true p164
                                replace q164 := eq_true q164
                                have hnb54 := NB160_159.out
                                have hnc54 := NB159_160.out
                                have hnb55 := NB160_161.out
                                have hnc55 := NB161_160.out
                                have hcz56_0 : wr.cell? ⟨gb160, 0, none⟩ = some (.int .i64 a1_0) := (blk_cell BK160.out 0).trans rfl
                                have hcz56_1 : wr.cell? ⟨gb160, 1, none⟩ = some (.slice A1_1 l1_1.length c1_1) := (blk_cell BK160.out 1).trans rfl
                                have hfz56_0 := blk_frozen BK160.out 0
                                have hfz56_1 := blk_frozen BK160.out 1
                                have p165 : 0 ≤ ((rd l2_1 x36_2) : Int) := of_decide_eq_true (by first | (with_reducible assumption) | assumption)
                                have q165 : (rd l2_1 x36_2) < (l1_1.length : Int) := of_decide_eq_true (by first | (with_reducible assumption) | assumption)
                                obtain ⟨ad165, e165, hx165_0⟩ := Kd.at_int HR1_1.out (rd l2_1 x36_2) p165 q165
                                cases e165
                                replace hx165_0 := (HB.out.cell (World.block_lt_of_cell? w _ hx165_0)).trans hx165_0
                                replace p165 := eq_true p165
                                replace q165 := eq_true q165
                                have hnb57 := NB159_161.out
                                have hnc57 := NB161_159.out
                                have hcz58_0 : wr.cell? ⟨gb159, 0, none⟩ = some (.int .i64 a0_0) := (blk_cell BK159.out 0).trans rfl
                                have hcz58_1 : wr.cell? ⟨gb159, 1, none⟩ = some (.slice A0_1 l0_1.length c0_1) := (blk_cell BK159.out 1).trans rfl
                                have hfz58_0 := blk_frozen BK159.out 0
                                have hfz58_1 := blk_frozen BK159.out 1
                                have p166 : 0 ≤ (x36_2 : Int) := of_decide_eq_true (by first | (with_reducible assumption) | assumption)
                                have q166 : x36_2 < (l0_1.length : Int) := of_decide_eq_true (by first | (with_reducible assumption) | assumption)
                                obtain ⟨ad166, e166, hx166_0⟩ := Kd.at_int HR0_1.out x36_2 p166 q166
                                cases e166
                                replace hx166_0 := (HB.out.cell (World.block_lt_of_cell? w _ hx166_0)).trans hx166_0
                                replace p166 := eq_true p166
                                replace q166 := eq_true q166
                                have hcz59_0 : wr.cell? ⟨gb161, 0, none⟩ = some (.slice A2_0 l2_0.length c2_0) := (blk_cell BK161.out 0).trans rfl
                                have hcz59_1 : wr.cell? ⟨gb161, 1, none⟩ = some (.slice (some ad164) l2_1.length c2_1) := (blk_cell BK161.out 1).trans rfl
                                have hfz59_0 := blk_frozen BK161.out 0
                                have hfz59_1 := blk_frozen BK161.out 1
                                go_wp2_with (first | (go_at_call 51; (with_reducible refine (embed_moved.calls (rd l0_1 x36_2) _ _ l2_0 t167 _ ?side1 ?side2 A44.out).mono ?_); (case side1 => exact pkC (Kd.C_below HR2_0.out HB.out)); (case side2 => exact HC2_0.out); rintro e w' ⟨rfl, ⟨nd, rfl⟩⟩; (try first | exact ⟨rfl, _, World.drewN_drewN _ _ _⟩ | exact ⟨rfl, _, Eq.trans (World.drewN_drewN _ _ _) (congrArg (World.drewN _) (Nat.add_assoc _ _ _))⟩)))
                                repeat (go_quiet (first | (go_at_call 51; (with_reducible refine (embed_moved.calls (rd l0_1 x36_2) _ _ l2_0 t167 _ ?side1 ?side2 A44.out).mono ?_); (case side1 => exact pkC (Kd.C_below HR2_0.out HB.out)); (case side2 => exact HC2_0.out); rintro e w' ⟨rfl, ⟨nd, rfl⟩⟩; (try first | exact ⟨rfl, _, World.drewN_drewN _ _ _⟩ | exact ⟨rfl, _, Eq.trans (World.drewN_drewN _ _ _) (congrArg (World.drewN _) (Nat.add_assoc _ _ _))⟩))); try go_wp2_with (first | (go_at_call 51; (with_reducible refine (embed_moved.calls (rd l0_1 x36_2) _ _ l2_0 t167 _ ?side1 ?side2 A44.out).mono ?_); (case side1 => exact pkC (Kd.C_below HR2_0.out HB.out)); (case side2 => exact HC2_0.out); rintro e w' ⟨rfl, ⟨nd, rfl⟩⟩; (try first | exact ⟨rfl, _, World.drewN_drewN _ _ _⟩ | exact ⟨rfl, _, Eq.trans (World.drewN_drewN _ _ _) (congrArg (World.drewN _) (Nat.add_assoc _ _ _))⟩))))
                                go_ret
                                exact ⟨by first | rfl | (simp [errW_none, errW_some] <;> rfl) | (simp [*, errW_none, errW_some] <;> rfl), pkW HB.out⟩
                            · rw [if_neg c43] at H
                              exact absurd H (by simp)
                          · rw [if_neg c42] at H
                            exact absurd H (by simp)
                        · rw [if_neg c41] at H
                          exact absurd H (by simp)
                · rw [if_neg c34] at H
                  exact absurd H (by simp)
              · rw [if_neg c33] at H
                exact absurd H (by simp)
            · rw [if_neg c32] at H
              have c32b0 : decide (x36_2 < (l2_1.length : Int)) = false := decide_eq_false c32
              clear c32
              replace H := Option.bind_eq_some_iff.mp H
              obtain ⟨t163, A600, H⟩ := H
              replace H : (if t163 = true then (some 0) else (some 420)) = some r := H
              have A60 := Aside0.mk A600
              clear A600
              by_cases c61 : t163 = true
              · subst c61
                have H1 : (some 0) = some r := by first | rfl | (rw [if_pos rfl] at H; exact H)
                clear H
                have H := H1
                clear H1
                obtain rfl := Option.some.inj H
                have hnb62 := NB160_159.out
                have hnc62 := NB159_160.out
                have hnb63 := NB160_161.out
                have hnc63 := NB161_160.out
                have hcz64_0 : wr.cell? ⟨gb160, 0, none⟩ = some (.int .i64 a1_0) := (blk_cell BK160.out 0).trans rfl
                have hcz64_1 : wr.cell? ⟨gb160, 1, none⟩ = some (.slice A1_1 l1_1.length c1_1) := (blk_cell BK160.out 1).trans rfl
                have hfz64_0 := blk_frozen BK160.out 0
                have hfz64_1 := blk_frozen BK160.out 1
                obtain ⟨Ao65, co65, eo65⟩ := Kd.R_slice HO_7.out
                subst eo65
                go_wp2_with (first | (go_at_call 28; (with_reducible refine (embed_different.calls _ _ x7_2 (l1_1.length : Int) true _ ?side1 ?side2 A60.out).mono ?_); (case side1 => exact pkC (Kd.R_reads' HO_7.out).2.2); (case side2 => exact (Kd.R_reads' HO_7.out).2.1); rintro e w66 ⟨rfl, hb⟩; have n0_ := pkRb HO_7 hb; have n1_ := pkBb BK159 hb; have n2_ := pkBb BK160 hb; have n3_ := pkBb BK161 hb; have n4_ := pkS HB hb; clear HO_7; clear BK159; clear BK160; clear BK161; clear HB; have HO_7 := n0_; have BK159 := n1_; have BK160 := n2_; have BK161 := n3_; have HB := n4_; clear n0_ n1_ n2_ n3_ n4_; (try clear hb); (try clear hb2); (try clear hk); (try clear hi)))
                repeat (go_quiet (first | (go_at_call 28; (with_reducible refine (embed_different.calls _ _ x7_2 (l1_1.length : Int) true _ ?side1 ?side2 A60.out).mono ?_); (case side1 => exact pkC (Kd.R_reads' HO_7.out).2.2); (case side2 => exact (Kd.R_reads' HO_7.out).2.1); rintro e w66 ⟨rfl, hb⟩; have n0_ := pkRb HO_7 hb; have n1_ := pkBb BK159 hb; have n2_ := pkBb BK160 hb; have n3_ := pkBb BK161 hb; have n4_ := pkS HB hb; clear HO_7; clear BK159; clear BK160; clear BK161; clear HB; have HO_7 := n0_; have BK159 := n1_; have BK160 := n2_; have BK161 := n3_; have HB := n4_; clear n0_ n1_ n2_ n3_ n4_; (try clear hb); (try clear hb2); (try clear hk); (try clear hi))); try go_wp2_with (first | (go_at_call 28; (with_reducible refine (embed_different.calls _ _ x7_2 (l1_1.length : Int) true _ ?side1 ?side2 A60.out).mono ?_); (case side1 => exact pkC (Kd.R_reads' HO_7.out).2.2); (case side2 => exact (Kd.R_reads' HO_7.out).2.1); rintro e w66 ⟨rfl, hb⟩; have n0_ := pkRb HO_7 hb; have n1_ := pkBb BK159 hb; have n2_ := pkBb BK160 hb; have n3_ := pkBb BK161 hb; have n4_ := pkS HB hb; clear HO_7; clear BK159; clear BK160; clear BK161; clear HB; have HO_7 := n0_; have BK159 := n1_; have BK160 := n2_; have BK161 := n3_; have HB := n4_; clear n0_ n1_ n2_ n3_ n4_; (try clear hb); (try clear hb2); (try clear hk); (try clear hi))))
                go_ret
                exact ⟨by first | rfl | (simp [errW_none, errW_some] <;> rfl) | (simp [*, errW_none, errW_some] <;> rfl), pkW HB.out⟩
              · replace c61 := Bool.eq_false_iff.mpr c61
                subst c61
                have H1 : (some 420) = some r := by first | rfl | (rw [if_neg (show ¬ (false = true) by decide)] at H; exact H)
                clear H
                have H := H1
                clear H1
                obtain rfl := Option.some.inj H
                have hnb67 := NB160_159.out
                have hnc67 := NB159_160.out
                have hnb68 := NB160_161.out
                have hnc68 := NB161_160.out
                have hcz69_0 : wr.cell? ⟨gb160, 0, none⟩ = some (.int .i64 a1_0) := (blk_cell BK160.out 0).trans rfl
                have hcz69_1 : wr.cell? ⟨gb160, 1, none⟩ = some (.slice A1_1 l1_1.length c1_1) := (blk_cell BK160.out 1).trans rfl
                have hfz69_0 := blk_frozen BK160.out 0
                have hfz69_1 := blk_frozen BK160.out 1
                obtain ⟨Ao70, co70, eo70⟩ := Kd.R_slice HO_7.out
                subst eo70
                go_wp2_with (first | (go_at_call 28; (with_reducible refine (embed_different.calls _ _ x7_2 (l1_1.length : Int) false _ ?side1 ?side2 A60.out).mono ?_); (case side1 => exact pkC (Kd.R_reads' HO_7.out).2.2); (case side2 => exact (Kd.R_reads' HO_7.out).2.1); rintro e w71 ⟨rfl, hb⟩; have n0_ := pkRb HO_7 hb; have n1_ := pkBb BK159 hb; have n2_ := pkBb BK160 hb; have n3_ := pkBb BK161 hb; have n4_ := pkS HB hb; clear HO_7; clear BK159; clear BK160; clear BK161; clear HB; have HO_7 := n0_; have BK159 := n1_; have BK160 := n2_; have BK161 := n3_; have HB := n4_; clear n0_ n1_ n2_ n3_ n4_; (try clear hb); (try clear hb2); (try clear hk); (try clear hi)))
                repeat (go_quiet (first | (go_at_call 28; (with_reducible refine (embed_different.calls _ _ x7_2 (l1_1.length : Int) false _ ?side1 ?side2 A60.out).mono ?_); (case side1 => exact pkC (Kd.R_reads' HO_7.out).2.2); (case side2 => exact (Kd.R_reads' HO_7.out).2.1); rintro e w71 ⟨rfl, hb⟩; have n0_ := pkRb HO_7 hb; have n1_ := pkBb BK159 hb; have n2_ := pkBb BK160 hb; have n3_ := pkBb BK161 hb; have n4_ := pkS HB hb; clear HO_7; clear BK159; clear BK160; clear BK161; clear HB; have HO_7 := n0_; have BK159 := n1_; have BK160 := n2_; have BK161 := n3_; have HB := n4_; clear n0_ n1_ n2_ n3_ n4_; (try clear hb); (try clear hb2); (try clear hk); (try clear hi))); try go_wp2_with (first | (go_at_call 28; (with_reducible refine (embed_different.calls _ _ x7_2 (l1_1.length : Int) false _ ?side1 ?side2 A60.out).mono ?_); (case side1 => exact pkC (Kd.R_reads' HO_7.out).2.2); (case side2 => exact (Kd.R_reads' HO_7.out).2.1); rintro e w71 ⟨rfl, hb⟩; have n0_ := pkRb HO_7 hb; have n1_ := pkBb BK159 hb; have n2_ := pkBb BK160 hb; have n3_ := pkBb BK161 hb; have n4_ := pkS HB hb; clear HO_7; clear BK159; clear BK160; clear BK161; clear HB; have HO_7 := n0_; have BK159 := n1_; have BK160 := n2_; have BK161 := n3_; have HB := n4_; clear n0_ n1_ n2_ n3_ n4_; (try clear hb); (try clear hb2); (try clear hk); (try clear hi))))
                go_ret
                exact ⟨by first | rfl | (simp [errW_none, errW_some] <;> rfl) | (simp [*, errW_none, errW_some] <;> rfl), pkW HB.out⟩

end Go.Proofs.Ytgegjhgifeobdaa.Pd




namespace Go.Proofs.Ytgegjhgifeobdaa.Pd
open Go.RowKit Go.Proofs.YtgegjhgifeobdaaW.PrintWords Go.Proofs.YtgegjhgifeobdaaW.PrintLast Go.Proofs.YtgegjhgifeobdaaW.PrintMore
attribute [local go_sem] max2_int min2_int max_two min_two max_three min_three max_four min_four   -- for this text's walks alone
set_option linter.unusedVariables false
set_option linter.unusedSimpArgs false

/-! ### plexusref06_SameInts: function 11 -/
def plexusref06_SameInts.l0 : Nat → List Int → List Int → Int → Option (Bool)
  | 0, _, _, _ => none
  | k + 1, x0, x1, x5 => if x5 < (x0.length : Int) then (if 0 ≤ x5 then (if x5 < (x1.length : Int) then (if (rd x0 x5) = (rd x1 x5) then (plexusref06_SameInts.l0 k x0 x1 (wrap64 (x5 + 1))) else (some false)) else (none)) else (none)) else (some true)
def plexusref06_SameInts.f (k : Nat) (l0 : List Int) (l1 : List Int) : Option (Bool) := if (l0.length : Int) = (l1.length : Int) then (plexusref06_SameInts.l0 k l0 l1 0) else (some false)
theorem plexusref06_SameInts.mono_l : ∀ k, (∀ y0 y1 y2, LeO (plexusref06_SameInts.l0 k y0 y1 y2) (plexusref06_SameInts.l0 (k + 1) y0 y1 y2))
  | 0 => fun _ _ _ r h => by simp [plexusref06_SameInts.l0] at h
  | k + 1 => by
    have ih0 := plexusref06_SameInts.mono_l k
    · intro y0 y1 y2
      unfold plexusref06_SameInts.l0
      repeat' first
      | (with_reducible exact ih0 _ _ _)
      | (with_reducible exact LeO.refl _)
      | (with_reducible exact LeO.none _)
      | (with_reducible refine LeO.ite ?_ ?_)
      | (with_reducible refine LeO.bind ?_ (fun _ => ?_))
      | exact ih0 _ _ _
      | exact LeO.none _
      | refine LeO.ite ?_ ?_
      | refine LeO.bind ?_ (fun _ => ?_)
theorem plexusref06_SameInts.mono : ∀ a0 a1 k, LeO (plexusref06_SameInts.f k a0 a1) (plexusref06_SameInts.f (k + 1) a0 a1) := by
  intro a0 a1 k
  have ih0 := plexusref06_SameInts.mono_l k
  unfold plexusref06_SameInts.f
  repeat' first
      | (with_reducible exact ih0 _ _ _)
      | (with_reducible exact LeO.refl _)
      | (with_reducible exact LeO.none _)
      | (with_reducible refine LeO.ite ?_ ?_)
      | (with_reducible refine LeO.bind ?_ (fun _ => ?_))
      | exact ih0 _ _ _
      | exact LeO.none _
      | refine LeO.ite ?_ ?_
      | refine LeO.bind ?_ (fun _ => ?_)
set_option maxHeartbeats 8000000 in
set_option maxRecDepth 100000 in
theorem plexusref06_SameInts.calls (k : Nat) (A0 : Option Addr) (c0 : Nat) (l0 : List Int) (A1 : Option Addr) (c1 : Nat) (l1 : List Int) (r : Bool) (w : World) (hr0 : Kd.C (Kd.int .i64) w A0 l0.length l0) (hc0 : l0.length ≤ c0) (hr1 : Kd.C (Kd.int .i64) w A1 l1.length l1) (hc1 : l1.length ≤ c1) (h : plexusref06_SameInts.f k l0 l1 = some r) :
    Calls Try.prog 11 #[.slice A0 l0.length c0, .slice A1 l1.length c1] w fun e w' => e = .returned (.bool r) ∧ Drawn0 w w' := by
  have HR0 := Aside0.mk hr0
  have HC0 := Aside0.mk hc0
  clear hr0 hc0
  have HR1 := Aside0.mk hr1
  have HC1 := Aside0.mk hc1
  clear hr1 hc1
  have H : (if (l0.length : Int) = (l1.length : Int) then (plexusref06_SameInts.l0 k l0 l1 0) else (some false)) = some r := h
  clear h
  by_cases c3 : (l0.length : Int) = (l1.length : Int)
  · rw [if_pos c3] at H
    have c3b0 : ((l0.length : Int) == (l1.length : Int)) = true := beq_iff_eq.mpr c3
    have c3b1 : ((l0.length : Int) != (l1.length : Int)) = false := bne_eq_false_iff_eq.mpr c3
    have c3b2 : (l0.length == l1.length) = true := by first | simpa using c3 | (simp at c3 ⊢; omega)
    clear c3
    have H' := Aside0.mk H
    clear H
    go_enter Try.func11, Try.ntmps11
    go_wp2
    repeat (go_quiet (fail); try go_wp2)
    go_loopg [5] k (fun kq v5 w' => ∃ (x5_1 : Int), v5 = .int .i64 x5_1 ∧ Aside0 (plexusref06_SameInts.l0 kq l0 l1 x5_1 = some r) ∧ Aside0 (kq ≤ k) ∧ Drawn0 w w')
    case atStart => exact ⟨(0), (by first | rfl | (simp; done) | (simp [*]; done)), H', ⟨Nat.le_refl _⟩, by repeat (first | exact Drawn0.refl _ | apply Drawn0.step)⟩
    case round =>
      clear H'
      try clear c1
      try clear p2
      try clear c3
      try clear c3b0
      try clear c3b1
      try clear c3b2
      obtain ⟨x5_1, rfl, HA, HK1, ⟨m1, rfl⟩⟩ := hrel
      cases gk with
      | zero => exact absurd HA.out (by simp [plexusref06_SameInts.l0])
      | succ k1 =>
        have H := HA.out
        clear HA
        simp only [plexusref06_SameInts.l0] at H
        by_cases c4 : x5_1 < (l0.length : Int)
        · rw [if_pos c4] at H
          have c4b0 : decide (x5_1 < (l0.length : Int)) = true := decide_eq_true c4
          clear c4
          by_cases c5 : 0 ≤ x5_1
          · rw [if_pos c5] at H
            have c5b0 : decide (0 ≤ x5_1) = true := decide_eq_true c5
            clear c5
            by_cases c6 : x5_1 < (l1.length : Int)
            · rw [if_pos c6] at H
              have c6b0 : decide (x5_1 < (l1.length : Int)) = true := decide_eq_true c6
              clear c6
              by_cases c7 : (rd l0 x5_1) = (rd l1 x5_1)
              · rw [if_pos c7] at H
                have c7b0 : ((rd l0 x5_1) == (rd l1 x5_1)) = true := beq_iff_eq.mpr c7
                have c7b1 : ((rd l0 x5_1) != (rd l1 x5_1)) = false := bne_eq_false_iff_eq.mpr c7
                clear c7
                have H' := Aside0.mk H
                clear H
                have p151 : 0 ≤ (x5_1 : Int) := of_decide_eq_true (by first | (with_reducible assumption) | assumption)
                have q151 : x5_1 < (l0.length : Int) := of_decide_eq_true (by first | (with_reducible assumption) | assumption)
                obtain ⟨ad151, e151, hx151_0⟩ := Kd.at_int HR0.out x5_1 p151 q151
                cases e151
                replace p151 := eq_true p151
                replace q151 := eq_true q151
                have p152 : 0 ≤ (x5_1 : Int) := of_decide_eq_true (by first | (with_reducible assumption) | assumption)
                have q152 : x5_1 < (l1.length : Int) := of_decide_eq_true (by first | (with_reducible assumption) | assumption)
                obtain ⟨ad152, e152, hx152_0⟩ := Kd.at_int HR1.out x5_1 p152 q152
                cases e152
                replace p152 := eq_true p152
                replace q152 := eq_true q152
                go_wp2
                repeat (go_quiet (fail); try go_wp2)
                go_roundg k1
                case measure => have := HK1.out; omega
                case rel => exact ⟨(wrap64 (x5_1 + 1)), (by first | rfl | (simp; done) | (simp [*]; done)), H', ⟨by have := HK1.out; omega⟩, by repeat (first | exact Drawn0.refl _ | apply Drawn0.step)⟩
              · rw [if_neg c7] at H
                have c7b0 : ((rd l0 x5_1) == (rd l1 x5_1)) = false := beq_eq_false_iff_ne.mpr c7
                have c7b1 : ((rd l0 x5_1) != (rd l1 x5_1)) = true := bne_iff_ne.mpr c7
                obtain rfl := Option.some.inj H
                have p151 : 0 ≤ (x5_1 : Int) := of_decide_eq_true (by first | (with_reducible assumption) | assumption)
                have q151 : x5_1 < (l0.length : Int) := of_decide_eq_true (by first | (with_reducible assumption) | assumption)
                obtain ⟨ad151, e151, hx151_0⟩ := Kd.at_int HR0.out x5_1 p151 q151
                cases e151
                replace p151 := eq_true p151
                replace q151 := eq_true q151
                have p152 : 0 ≤ (x5_1 : Int) := of_decide_eq_true (by first | (with_reducible assumption) | assumption)
                have q152 : x5_1 < (l1.length : Int) := of_decide_eq_true (by first | (with_reducible assumption) | assumption)
                obtain ⟨ad152, e152, hx152_0⟩ := Kd.at_int HR1.out x5_1 p152 q152
                cases e152
                replace p152 := eq_true p152
                replace q152 := eq_true q152
                go_wp2
                repeat (go_quiet (fail); try go_wp2)
                go_ret
                exact ⟨by first | rfl | (simp; done) | (simp [*]; done), by repeat (first | exact Drawn0.refl _ | apply Drawn0.step)⟩
            · rw [if_neg c6] at H
              exact absurd H (by simp)
          · rw [if_neg c5] at H
            exact absurd H (by simp)
        · rw [if_neg c4] at H
          have c4b0 : decide (x5_1 < (l0.length : Int)) = false := decide_eq_false c4
          clear c4
          obtain rfl := Option.some.inj H
          go_wp2
          repeat (go_quiet (fail); try go_wp2)
          go_ret
          exact ⟨by first | rfl | (simp; done) | (simp [*]; done), by repeat (first | exact Drawn0.refl _ | apply Drawn0.step)⟩
  · rw [if_neg c3] at H
    have c3b0 : ((l0.length : Int) == (l1.length : Int)) = false := beq_eq_false_iff_ne.mpr c3
    have c3b1 : ((l0.length : Int) != (l1.length : Int)) = true := bne_iff_ne.mpr c3
    have c3b2 : (l0.length == l1.length) = false := by first | simpa using c3 | (simp at c3 ⊢; omega)
    obtain rfl := Option.some.inj H
    go_enter Try.func11, Try.ntmps11
    go_wp2
    repeat (go_quiet (fail); try go_wp2)
    go_ret
    exact ⟨by first | rfl | (simp; done) | (simp [*]; done), by repeat (first | exact Drawn0.refl _ | apply Drawn0.step)⟩

end Go.Proofs.Ytgegjhgifeobdaa.Pd




namespace Go.Proofs.Ytgegjhgifeobdaa.Pd
set_option linter.unusedSimpArgs false
set_option linter.unusedVariables false
open Go.RowKit Go.Lib Go.Proofs.YtgegjhgifeobdaaW.PrintWords Go.Proofs.Ytgegjhgifeobdaa Go.Proofs.YtgegjhgifeobdaaW.PrintMore

/-- From some number of rounds on, the same answer. -/
def Ev {α : Type} (g : Nat → Option α) (r : α) : Prop := ∃ K0, ∀ K, K0 ≤ K → g K = some r
theorem Ev.const {α : Type} {g : Nat → Option α} {r : α} (h : ∀ K, g K = some r) : Ev g r := ⟨0, fun K _ => h K⟩
theorem Ev.of_mono {α : Type} {g : Nat → Option α} {r : α} {K0 : Nat} (hm : ∀ k, LeO (g k) (g (k + 1))) (h : g K0 = some r) : Ev g r :=
  ⟨K0, fun K hK => by
    obtain ⟨d, rfl⟩ : ∃ d, K = K0 + d := ⟨K - K0, by omega⟩
    clear hK
    induction d with
    | zero => exact h
    | succ d ih => exact hm _ _ ih⟩
theorem Ev.succ {α : Type} {g g' : Nat → Option α} {r : α} (hs : ∀ k, g (k + 1) = g' k) (h : Ev g' r) : Ev g r := by
  obtain ⟨K0, h⟩ := h
  refine ⟨K0 + 1, fun K hK => ?_⟩
  obtain ⟨k, rfl⟩ : ∃ k, K = k + 1 := ⟨K - 1, by omega⟩
  rw [hs]
  exact h k (by omega)
theorem Ev.bind {α β : Type} {g : Nat → Option α} {f : Nat → α → Option β} {a : α} {r : β} (h : Ev g a) (hf : Ev (fun k => f k a) r) : Ev (fun k => (g k).bind (f k)) r := by
  obtain ⟨K0, h⟩ := h
  obtain ⟨K1, hf⟩ := hf
  exact ⟨max K0 K1, fun K hK => by show (g K).bind (f K) = _; rw [h K (by omega), Option.bind_some]; exact hf K (by omega)⟩
theorem Ev.eq {α : Type} {g g' : Nat → Option α} {r : α} (he : ∀ k, g k = g' k) (h : Ev g' r) : Ev g r := by
  obtain ⟨K0, h⟩ := h
  exact ⟨K0, fun K hK => (he K).trans (h K hK)⟩

theorem okI_il {l : List Nat} (h : ∀ q ∈ l, q < 1000) : okI (il l) = true := okI_iff.2 fun x hx => by
  obtain ⟨i, hi, rfl⟩ := List.mem_map.1 hx
  have := h i hi
  simp [Lit.wf, IntKind.min, IntKind.max, IntKind.signed, IntKind.bits]
  omega
theorem rd_get {l : List Int} {i : Nat} {x : Int} (h : l[i]? = some x) : rd l (i : Int) = x := by
  unfold rd
  rw [List.getD_eq_getElem?_getD, Int.toNat_natCast, h]
  rfl
theorem il_get {l : List Nat} {i x : Nat} (h : l[i]? = some x) : (il l)[i]? = some (x : Int) := by simp [il, h]
/-- What Check takes for an embedding's list of blocks. -/
structure Fit (A C F : List Nat) (M : List Int) : Prop where
  len : M.length = A.length
  img : ∀ i, i < A.length → rd M (i : Int) = -1 ∨ ∃ j : Nat, rd M (i : Int) = j ∧ C[j]? = some (movedN (A.getD i 0) F)
  inj : ∀ i j, i < A.length → j < A.length → i ≠ j → rd M (i : Int) ≠ -1 → rd M (i : Int) ≠ rd M (j : Int)
theorem embM_fit {A C ds F : List Nat} (hs : C.Pairwise (· ≤ ·)) (h1 : ∀ i ∈ ds, i < A.length) (h2 : ds.Nodup) : Fit A C F (embM A C ds F) :=
  ⟨embM_len A C ds F, fun i hi => by rw [embM_get h1 h2 hi]; exact goN_img hs hi, fun i j hi hj hij h => by rw [embM_get h1 h2 hi] at h ⊢; rw [embM_get h1 h2 hj]; exact goN_inj hs h2 hi hj hij h⟩
def takenL (M : List Int) (i : Nat) : List Int := (M.take i).filter fun x => decide (x ≠ -1)
theorem takenL_succ {M : List Int} {i : Nat} {x : Int} (h : M[i]? = some x) : takenL M (i + 1) = takenL M i ++ (if x ≠ -1 then [x] else []) := by
  rw [takenL, List.take_add_one, h, takenL, List.filter_append]
  congr 1
  by_cases hx : x = -1 <;> simp [hx]
theorem takenL_diff {A C F : List Nat} {M : List Int} (h : Fit A C F M) : diffB (takenL M M.length) (C.length : Int) = true := by
  rw [takenL, List.take_length]
  refine diffB_iff.2 ⟨fun x hx => ?_, ?_⟩
  · obtain ⟨h1, h2⟩ := List.mem_filter.1 hx
    obtain ⟨i, hi, hie⟩ := List.getElem_of_mem h1
    have hg : M[i]? = some x := by rw [List.getElem?_eq_getElem hi, hie]
    have hr := rd_get hg
    have hx1 : x ≠ -1 := by simpa using h2
    rcases h.img i (by have := h.len; omega) with e | ⟨j, e, hj⟩
    · rw [hr] at e; exact absurd e hx1
    · rw [hr] at e
      obtain ⟨hj1, _⟩ := List.getElem?_eq_some_iff.1 hj
      omega
  · have hp : M.Pairwise (fun a b => a ≠ -1 → a ≠ b) := by
      rw [List.pairwise_iff_getElem]
      intro i j hi hj hij h0
      have e1 := rd_get (List.getElem?_eq_getElem hi)
      have e2 := rd_get (List.getElem?_eq_getElem hj)
      rw [← e1, ← e2]
      rw [← e1] at h0
      have := h.len
      exact h.inj i j (by omega) (by omega) (by omega) h0
    have hf := hp.filter (fun x => decide (x ≠ -1))
    rw [List.Nodup]
    refine List.Pairwise.imp_of_mem ?_ hf
    intro a b ha _ hab
    exact hab (by simpa using (List.mem_filter.1 ha).2)
theorem takenL_len {M : List Int} {i : Nat} : (takenL M i).length ≤ M.length := by
  rw [takenL]
  exact Nat.le_trans (List.length_filter_le _ _) (by rw [List.length_take]; omega)
theorem moved_fE {A F : List Nat} {V U i : Nat} (hV : V ≤ 7) (hab : ∀ b ∈ A, b < 2 ^ V) (hF : ∀ q ∈ F, q < U) (hU : U ≤ 60) (hFl : F.length ≤ 60) (hi : i < A.length) : embed_moved.f (rd (il A) (i : Int)) (il F) = some ((movedN (A.getD i 0) F : Nat) : Int) := by
  have hb := hab _ (getD_mem hi)
  have h16 : 2 ^ V ≤ 2 ^ 7 := Nat.pow_le_pow_right (by decide) hV
  have h1 : ((A.getD i 0 : Nat) : Int) < 18446744073709551616 := by omega
  rw [rd_il hi]
  unfold embed_moved.f
  rw [if_pos ⟨nnI _, h1, by rw [il_length]; exact hFl, okL_il fun q hq => Nat.lt_of_lt_of_le (hF q hq) hU⟩, nl_il, Int.toNat_natCast]
theorem diff_f {l : List Int} {n : Int} (h1 : l.length < 1000) (h2 : okI l = true) : embed_different.f l n = some (diffB l n) := by
  unfold embed_different.f
  exact if_pos ⟨Nat.lt_trans h1 (by decide), h2⟩
theorem check_loop {A C F : List Nat} {M : List Int} {V U : Nat} (h : Fit A C F M) (hV : V ≤ 7) (hab : ∀ b ∈ A, b < 2 ^ V) (hF : ∀ q ∈ F, q < U) (hU : U ≤ 60) (hFl : F.length ≤ 60) (hA : A.length ≤ 100) (hC : C.length ≤ 500) (a0 u0 : Int) :
    ∀ (n i : Nat), i + n = M.length → embed_Check.l0 (n + 1) (takenL M i) M (M.length : Int) (i : Int) a0 (il A) u0 (il C) (il F) M = some 0 := by
  intro n
  induction n with
  | zero =>
    intro i hi
    obtain rfl : i = M.length := by omega
    have hl := takenL_len (M := M) (i := M.length)
    have hd := takenL_diff h
    have hok : okI (takenL M M.length) = true := okI_iff.2 fun x hx => by
      have := (diffB_iff.1 hd).1 x hx
      simp [Lit.wf, IntKind.min, IntKind.max, IntKind.signed, IntKind.bits]
      omega
    unfold embed_Check.l0
    rw [if_neg (Int.lt_irrefl _), il_length, diff_f (by have := h.len; omega) hok, hd, Option.bind_some, if_pos rfl]
  | succ n ih =>
    intro i hi
    have hlen := h.len
    have hiM : i < M.length := by omega
    have hiA : i < A.length := by omega
    have hw := wrap_succ (j := i) (by omega)
    have hg : M[i]? = some (M[i]) := List.getElem?_eq_getElem hiM
    have hr := rd_get hg
    have hts := takenL_succ hg
    have IH := ih (i + 1) (by omega)
    have hT : (takenL M i).length < 17592186044416 := by have := takenL_len (M := M) (i := i); omega
    unfold embed_Check.l0
    rw [if_pos (ltI hiM), if_pos (nnI i), if_pos (ltI hiM), hw]
    rcases h.img i hiA with e | ⟨j, e, hj⟩
    · rw [if_pos e]
      rw [hts, if_neg (by rw [← hr, e]; simp), List.append_nil] at IH
      exact IH
    · obtain ⟨hj1, _⟩ := List.getElem?_eq_some_iff.1 hj
      have hne : ¬ (rd M (i : Int) = -1) := by rw [e]; omega
      have hcl : ¬ ((j : Int) ≥ ((il C).length : Int)) := by rw [il_length]; omega
      have hcl2 : (j : Int) < ((il C).length : Int) := by rw [il_length]; omega
      have hnn : ¬ ((j : Int) < 0) := by omega
      have hAl : (i : Int) < ((il A).length : Int) := by rw [il_length]; omega
      have hC2 : rd (il C) (j : Int) = ((movedN (A.getD i 0) F : Nat) : Int) := rd_get (il_get hj)
      rw [hts, if_pos (by rw [← hr]; exact hne), ← hr, e] at IH
      rw [if_neg hne, e, if_neg hnn, if_neg hcl, if_pos (nnI j), if_pos hcl2, if_pos hAl, moved_fE hV hab hF hU hFl hiA, Option.bind_some, hC2, if_pos rfl, if_pos hT]
      exact IH
theorem check_f {A C F : List Nat} {M : List Int} {V U : Nat} (h : Fit A C F M) (hV : V ≤ 7) (hab : ∀ b ∈ A, b < 2 ^ V) (hFV : F.length = V) (hF : ∀ q ∈ F, q < U) (hFn : F.Nodup) (hU : U ≤ 60) (hA : A.length ≤ 100) (hC : C.length ≤ 500) :
    Ev (fun K => embed_Check.f K V (il A) U (il C) (il F) M) 0 := by
  have hl := check_loop h hV hab hF hU (by omega) hA hC (V : Int) (U : Int) M.length 0 (by omega)
  have e1 : ((il F).length : Int) = (V : Int) := by rw [il_length, hFV]
  have e2 : (M.length : Int) = ((il A).length : Int) := by rw [il_length, h.len]
  have e3 := diff_f (l := il F) (n := (U : Int)) (by rw [il_length]; omega) (okI_il fun q hq => by have := hF q hq; omega)
  rw [diffB_nat hF hFn] at e3
  refine Ev.of_mono (K0 := M.length + 2) (fun k => embed_Check.mono _ _ _ _ _ _ k) ?_
  unfold embed_Check.f
  rw [if_pos e1, if_pos e2, e3, Option.bind_some]
  rw [show M.length + 2 = (M.length + 1) + 1 from rfl, embed_Check.j0, if_neg (by decide)]
  exact hl
theorem sameInts_self (l : List Int) (hl : l.length < 1000) : ∀ (n i : Nat), i + n = l.length → plexusref06_SameInts.l0 (n + 1) l l i = some true := by
  intro n
  induction n with
  | zero =>
    intro i hi
    unfold plexusref06_SameInts.l0
    rw [if_neg (by omega)]
  | succ n ih =>
    intro i hi
    unfold plexusref06_SameInts.l0
    rw [if_pos (by omega), if_pos (by omega), if_pos (by omega), if_pos rfl, wrap_succ (by omega)]
    exact ih (i + 1) (by omega)
theorem sameInts_f (l : List Int) (hl : l.length < 1000) : Ev (fun K => plexusref06_SameInts.f K l l) true :=
  Ev.of_mono (K0 := l.length + 1) (fun k => plexusref06_SameInts.mono _ _ k) (by
    unfold plexusref06_SameInts.f
    rw [if_pos rfl]
    exact sameInts_self l hl l.length 0 (by omega))
end Go.Proofs.Ytgegjhgifeobdaa.Pd


namespace Go.Proofs.Ytgegjhgifeobdaa
set_option linter.unusedSimpArgs false
set_option linter.unusedVariables false
open Go.RowKit Go.Lib Go.Proofs.YtgegjhgifeobdaaW.PrintWords

/-- How many blocks ahead of block i have its image. -/
def rankN (A D f : List Nat) (i : Nat) : Nat := (((queueN A.length D).take ((queueN A.length D).idxOf i)).map (fun i => movedN (A.getD i 0) f)).count (movedN (A.getD i 0) f)
def keepsN (A C D f : List Nat) (i : Nat) : Bool := decide (rankN A D f i < C.count (movedN (A.getD i 0) f))
theorem keptN_eq {A C D f : List Nat} (hD : ∀ i ∈ D, i < A.length) (hDn : D.Nodup) : keptN A C D f = D.countP (keepsN A C D f) := by
  rw [keptN, keptL, il, List.filter_map, List.length_map, ← List.countP_eq_length_filter]
  refine List.countP_congr fun i hi => ?_
  have hiA := hD i hi
  have hr : rd (embM A C D f) (i : Int) = goN A C D f i := embM_get hD hDn hiA
  have hl := embM_len A C D f
  rw [goN, alongAt_of (queueN_mem hiA)] at hr
  simp only [Function.comp_apply, keepB, keepsN, rankN, Bool.and_eq_true, decide_eq_true_eq]
  rw [hr, hl]
  split
  · rename_i h
    exact ⟨fun _ => by simpa using h, fun _ => ⟨⟨by omega, by omega⟩, by omega⟩⟩
  · rename_i h
    exact ⟨fun h' => absurd h'.2 (by decide), fun h' => absurd (by simpa using h') h⟩
end Go.Proofs.Ytgegjhgifeobdaa


namespace Go.Proofs.Ytgegjhgifeobdaa
set_option linter.unusedSimpArgs false
set_option linter.unusedVariables false
open Go.RowKit Go.Lib Go.Proofs.YtgegjhgifeobdaaW.PrintWords

theorem sorted_eq {l m : List Nat} (h : l.Perm m) (hl : l.Pairwise (· ≤ ·)) (hm : m.Pairwise (· ≤ ·)) : l = m :=
  List.Perm.eq_of_pairwise (fun a b _ _ h1 h2 => Nat.le_antisymm h1 h2) hl hm h
theorem queueN_perm {n : Nat} {ds : List Nat} (h1 : ∀ i ∈ ds, i < n) (h2 : ds.Nodup) : (queueN n ds).Perm (List.range n) := by
  refine (List.perm_ext_iff_of_nodup (queueN_nodup h2) List.nodup_range).2 fun i => ⟨fun h => ?_, fun h => queueN_mem (List.mem_range.1 h)⟩
  rw [queueN, List.mem_append] at h
  rcases h with h | h
  · exact List.mem_range.2 (h1 i ((sortedL_permE ds).mem_iff.1 h))
  · exact (List.mem_filter.1 h).1
theorem map_range_getD {A : List Nat} {mv : Nat → Nat} : (List.range A.length).map (fun i => mv (A.getD i 0)) = A.map mv := by
  apply List.ext_getElem
  · simp
  · intro i h1 h2
    simp at h1 h2 ⊢
    rw [List.getElem?_eq_getElem h1]
    rfl
theorem rank_lt {A D g : List Nat} (h1 : ∀ i ∈ D, i < A.length) (h2 : D.Nodup) {i : Nat} (hi : i < A.length) : rankN A D g i < (A.map fun b => movedN b g).count (movedN (A.getD i 0) g) := by
  have hq := queueN_perm h1 h2
  have hm := queueN_mem (ds := D) hi
  have hlt := List.idxOf_lt_length_of_mem hm
  have e : (A.map fun b => movedN b g).count (movedN (A.getD i 0) g) = ((queueN A.length D).map fun i => movedN (A.getD i 0) g).count (movedN (A.getD i 0) g) := by
    rw [← map_range_getD (mv := fun b => movedN b g)]
    exact ((hq.map _).count_eq _).symm
  rw [rankN, e]
  have h3 : (queueN A.length D) = (queueN A.length D).take ((queueN A.length D).idxOf i) ++ (queueN A.length D).drop ((queueN A.length D).idxOf i) := (List.take_append_drop _ _).symm
  have h4 : (queueN A.length D).drop ((queueN A.length D).idxOf i) = i :: (queueN A.length D).drop ((queueN A.length D).idxOf i + 1) := by
    rw [List.drop_eq_getElem_cons hlt]
    congr 1
    exact List.getElem_idxOf hlt
  conv => rhs; rw [h3, h4]
  rw [List.map_append, List.count_append, List.map_cons, List.count_cons_self]
  omega
theorem kept_self {A D g : List Nat} (h1 : ∀ i ∈ D, i < A.length) (h2 : D.Nodup) : keptN A (imL A g) D g = D.length := by
  rw [keptN_eq h1 h2, List.countP_eq_length]
  intro i hi
  rw [keepsN, decide_eq_true_eq, imL, (sortedL_permE _).count_eq]
  exact rank_lt h1 h2 (h1 i hi)
end Go.Proofs.Ytgegjhgifeobdaa


namespace Go.Proofs.Ytgegjhgifeobdaa
set_option linter.unusedSimpArgs false
set_option linter.unusedVariables false
open Go.RowKit Go.Lib Go.Proofs.YtgegjhgifeobdaaW.PrintWords

theorem lsL_all {n : Nat} : ∀ {l : Nat} {f r : List Nat}, (f ++ r).Nodup → (∀ q ∈ r, q < n) → r.length = l → f ++ r ∈ lsL n l f
  | 0, f, r, _, _, h => by
    rw [List.eq_nil_of_length_eq_zero h, List.append_nil, lsL]; simp
  | l + 1, f, [], _, _, h => by simp at h
  | l + 1, f, p :: r, hn, hq, h => by
    have hpf : p ∉ f := fun hp => (List.nodup_append.1 hn).2.2 p hp p (by simp) rfl
    rw [lsL, List.mem_flatMap]
    refine ⟨p, List.mem_range.2 (hq p (by simp)), ?_⟩
    rw [if_neg hpf]
    have := lsL_all (n := n) (l := l) (f := f ++ [p]) (r := r) (by rw [List.append_assoc]; exact hn) (fun q h => hq q (by simp [h])) (by simpa using h)
    rwa [List.append_assoc] at this
end Go.Proofs.Ytgegjhgifeobdaa


namespace Go.Proofs.Ytgegjhgifeobdaa
set_option linter.unusedSimpArgs false
set_option linter.unusedVariables false
open Go.RowKit Go.Lib Go.Proofs.YtgegjhgifeobdaaW.PrintWords

end Go.Proofs.Ytgegjhgifeobdaa


namespace Go.Proofs.Ytgegjhgifeobdaa.Pd
open Go.RowKit Go.Proofs.YtgegjhgifeobdaaW.PrintWords Go.Proofs.YtgegjhgifeobdaaW.PrintLast Go.Proofs.YtgegjhgifeobdaaW.PrintMore
attribute [local go_sem] max2_int min2_int max_two min_two max_three min_three max_four min_four   -- for this text's walks alone
set_option linter.unusedVariables false
set_option linter.unusedSimpArgs false

/-! ### plexusref42_Done: function 9 -/
def plexusref42_Done.l0 : Nat → Int → List Int → Int → Int → List Int → Option (List Int)
  | 0, _, _, _, _, _ => none
  | k + 1, x1, x5, x6, x264000, x264001 => if x6 < (x264001.length : Int) then (if 0 ≤ (IntKind.u64.wrap (x6)) then (if (Go.bits .and .u16 (shr .u16 x1 (IntKind.u64.wrap (x6))) 1) = 1 then (if x5.length < 17592186044416 then (plexusref42_Done.l0 k x1 (x5 ++ [x6]) (wrap64 (x6 + 1)) x264000 x264001) else (none)) else (plexusref42_Done.l0 k x1 x5 (wrap64 (x6 + 1)) x264000 x264001)) else (none)) else (some x5)
def plexusref42_Done.f (k : Nat) (a0_0 : Int) (l0_1 : List Int) (a1 : Int) : Option (List Int) := plexusref42_Done.l0 k a1 (([] : List Int)) 0 a0_0 l0_1
theorem plexusref42_Done.mono_l : ∀ k, (∀ y0 y1 y2 y3 y4, LeO (plexusref42_Done.l0 k y0 y1 y2 y3 y4) (plexusref42_Done.l0 (k + 1) y0 y1 y2 y3 y4))
  | 0 => fun _ _ _ _ _ r h => by simp [plexusref42_Done.l0] at h
  | k + 1 => by
    have ih0 := plexusref42_Done.mono_l k
    · intro y0 y1 y2 y3 y4
      unfold plexusref42_Done.l0
      repeat' first
      | (with_reducible exact ih0 _ _ _ _ _)
      | (with_reducible exact LeO.refl _)
      | (with_reducible exact LeO.none _)
      | (with_reducible refine LeO.ite ?_ ?_)
      | (with_reducible refine LeO.bind ?_ (fun _ => ?_))
      | exact ih0 _ _ _ _ _
      | exact LeO.none _
      | refine LeO.ite ?_ ?_
      | refine LeO.bind ?_ (fun _ => ?_)
theorem plexusref42_Done.mono : ∀ a0 a1 a2 k, LeO (plexusref42_Done.f k a0 a1 a2) (plexusref42_Done.f (k + 1) a0 a1 a2) := by
  intro a0 a1 a2 k
  have ih0 := plexusref42_Done.mono_l k
  unfold plexusref42_Done.f
  repeat' first
      | (with_reducible exact ih0 _ _ _ _ _)
      | (with_reducible exact LeO.refl _)
      | (with_reducible exact LeO.none _)
      | (with_reducible refine LeO.ite ?_ ?_)
      | (with_reducible refine LeO.bind ?_ (fun _ => ?_))
      | exact ih0 _ _ _ _ _
      | exact LeO.none _
      | refine LeO.ite ?_ ?_
      | refine LeO.bind ?_ (fun _ => ?_)
set_option maxHeartbeats 8000000 in
set_option maxRecDepth 100000 in
theorem plexusref42_Done.calls (k : Nat) (a0_0 : Int) (A0_1 : Option Addr) (c0_1 : Nat) (l0_1 : List Int) (a1 : Int) (r : List Int) (w : World) (hr0_1 : Kd.C (Kd.int .u64) w A0_1 l0_1.length l0_1) (hc0_1 : l0_1.length ≤ c0_1) (h : plexusref42_Done.f k a0_0 l0_1 a1 = some r) :
    Calls Try.prog 9 #[.agg #[.int .i64 a0_0, .slice A0_1 l0_1.length c0_1], .int .u16 a1] w fun e w' => ∃ v0_ : Value, e = .returned (v0_) ∧ Kd.R (Kd.int .i64) 3 w' w.heap.size (fun _ => True) v0_ r ∧ Below w.heap.size w w' := by
  have hu29 := Try.underlying29
  have HR0_1 := Aside0.mk hr0_1
  have HC0_1 := Aside0.mk hc0_1
  clear hr0_1 hc0_1
  have HB := Aside0.mk (Below.refl w.heap.size w)
  have H : (plexusref42_Done.l0 k a1 (([] : List Int)) 0 a0_0 l0_1) = some r := h
  clear h
  obtain ⟨y264, hy264⟩ : ∃ y_ : List Int, y_ = (([] : List Int)) := ⟨_, rfl⟩
  replace H : (plexusref42_Done.l0 k a1 y264 0 a0_0 l0_1) = some r := by first | (rw [hy264]; with_reducible exact H) | (have H2_ := (Option.bind_some _ _).symm.trans H; rw [hy264]; with_reducible exact H2_) | (have H2_ := (Option.bind_some _ _).symm.trans H; with_reducible exact H2_) | with_reducible exact H | (rw [hy264]; exact H) | exact H
  have Ny264 := Aside0.mk hy264
  clear hy264
  have H' := Aside0.mk H
  clear H
  go_enter Try.func9, Try.ntmps9
  go_wp2_with (first | ((with_reducible refine gate_dst (N := 2) rfl ?_); refine box_event ?hg (N := 2) ?hd (cs := #[.int .i64 a0_0, .slice A0_1 l0_1.length c0_1]) (t := 29) ?hr ?_; (case hd => rfl); (case hg => rfl); (case hr => first | (go_simp; done) | (go_simp; rfl)); intro gb263 hg w3 hbox hb; have n0_ := Aside0.mk (below_step (by repeat (first | (with_reducible first | exact HB.out | apply below_alloc | apply pw_below_drewN | apply below_drew1) | exact HB.out)) hb); have n1_ := Aside0.mk (hbox); have n2_ := Aside0.mk ((by rw [hg]; exact (below_size (by repeat (first | (with_reducible first | exact HB.out | apply below_alloc | apply pw_below_drewN | apply below_drew1) | exact HB.out))) : w.heap.size ≤ gb263)); have n3_ := Aside0.mk ((by rw [hg]; exact (below_size (by repeat (first | (with_reducible first | exact HB.out | apply below_alloc | apply pw_below_drewN | apply below_drew1) | exact HB.out))) : w.heap.size ≤ gb263)); clear HB; have HB := n0_; have BK263 := n1_; have GW263 := n2_; have GE263 := n3_; clear n0_ n1_ n2_ n3_; clear hb hbox hg) | ((with_reducible refine gate_dst (N := 7) rfl ?_); refine Kd.R_lit (Kd.int .i64) _ 3 ?hg (N := 7) ?hd (xs := ([] : List Int)) (inner := []) (ok := fun _ => True) (okp := fun _ => True) ?hr ?hp (fun _ hk => hk) trivial (Below.refl _ _) (Nat.le_refl _) (by simp) ?_; (case hd => rfl); (case hg => rfl); (case hr => first | (go_simp; done) | (go_simp; rfl)); (case hp => exact (Reps.none _ _)); intro v265 w4 ho5 hb hg_ hnew_; clear hg_ hnew_; (first | rw [← Ny264.out] at ho5 | (simp only [Int.reduceToNat] at ho5; rw [← Ny264.out] at ho5)); have n0_ := Aside0.mk (Kd.R_lower ho5 (below_size (by repeat (first | (with_reducible first | exact HB.out | apply below_alloc | apply pw_below_drewN | apply below_drew1 | refine below_set ?_ GE263.out) | exact HB.out)))); have n1_ := Aside0.mk (blk_below (g := gb263) (o := .cells #[.int .i64 a0_0, .slice A0_1 l0_1.length c0_1] 29 (0, 0)) (by (with_reducible repeat (first | refine blk_drewN ?_ _ | refine blk_drew ?_ | refine blk_alloc ?_ _)); exact BK263.out) hb); have n2_ := Aside0.mk (below_step (by repeat (first | (with_reducible first | exact HB.out | apply below_alloc | apply pw_below_drewN | apply below_drew1 | refine below_set ?_ GE263.out) | exact HB.out)) hb); clear BK263; clear HB; have HO266 := n0_; have BK263 := n1_; have HB := n2_; clear n0_ n1_ n2_; clear hb ho5))
  go_loopg [5, 6] k (fun kq v5 v6 w' => ∃ (x5_1 : List Int) (x6_1 : Int), v6 = .int .i64 x6_1 ∧ Aside0 (plexusref42_Done.l0 kq a1 x5_1 x6_1 a0_0 l0_1 = some r) ∧ Aside0 (kq ≤ k) ∧ Aside0 (Kd.R (Kd.int .i64) 3 w' w.heap.size (fun _ => True) v5 x5_1) ∧ Aside0 (w'.heap[gb263]? = some (.cells #[.int .i64 a0_0, (.slice A0_1 l0_1.length c0_1)] 29 (0, 0))) ∧ Aside0 (Below w.heap.size w w'))
  case atStart => exact ⟨(y264), (0), (by first | rfl | (simp; done) | (simp [*]; done)), H', ⟨Nat.le_refl _⟩, ⟨by (with_reducible repeat (first | apply Kd.R_alloc | apply Kd.R_drewN | apply Kd.R_drew)); exact HO266.out⟩, ⟨by (with_reducible repeat (first | refine blk_drewN ?_ _ | refine blk_drew ?_ | refine blk_alloc ?_ _)); exact BK263.out⟩, ⟨by repeat (first | (with_reducible first | exact HB.out | apply below_alloc | apply pw_below_drewN | apply below_drew1 | refine below_set ?_ GE263.out) | exact HB.out)⟩⟩
  case round =>
    clear H'
    try clear p2
    obtain ⟨x5_1, x6_1, rfl, HA, HK1, HO_5, BK263, HB⟩ := hrel
    cases gk with
    | zero => exact absurd HA.out (by simp [plexusref42_Done.l0])
    | succ k1 =>
      have H := HA.out
      clear HA
      simp only [plexusref42_Done.l0] at H
      by_cases c6 : x6_1 < (l0_1.length : Int)
      · rw [if_pos c6] at H
        have c6b0 : decide (x6_1 < (l0_1.length : Int)) = true := decide_eq_true c6
        clear c6
        obtain ⟨ji7, hji7⟩ : ∃ j_ : Int, (IntKind.u64.wrap (x6_1)) = j_ := ⟨_, rfl⟩
        replace H : (if 0 ≤ (ji7) then (if (Go.bits .and .u16 (shr .u16 a1 (ji7)) 1) = 1 then (if x5_1.length < 17592186044416 then (plexusref42_Done.l0 k1 a1 (x5_1 ++ [x6_1]) (wrap64 (x6_1 + 1)) a0_0 l0_1) else (none)) else (plexusref42_Done.l0 k1 a1 x5_1 (wrap64 (x6_1 + 1)) a0_0 l0_1)) else (none)) = some r := by first | (rw [hji7] at H; exact H) | (simp only [hji7] at H ⊢; exact H)
        by_cases c8 : 0 ≤ (ji7)
        · rw [if_pos c8] at H
          have c8b0 := eq_true c8
          have c8b1 : decide (0 ≤ (ji7)) = true := decide_eq_true c8
          clear c8
          obtain ⟨ji9, hji9⟩ : ∃ j_ : Int, (shr .u16 a1 (ji7)) = j_ := ⟨_, rfl⟩
          replace H : (if (Go.bits .and .u16 (ji9) 1) = 1 then (if x5_1.length < 17592186044416 then (plexusref42_Done.l0 k1 a1 (x5_1 ++ [x6_1]) (wrap64 (x6_1 + 1)) a0_0 l0_1) else (none)) else (plexusref42_Done.l0 k1 a1 x5_1 (wrap64 (x6_1 + 1)) a0_0 l0_1)) = some r := by first | (rw [hji9] at H; exact H) | (simp only [hji9] at H ⊢; exact H)
          have hji9_ : (a1 / 2 ^ min (ji7).toNat 16) = ji9 := hji9
          have hji9z : (ji7) ≤ 16 → (a1 / 2 ^ (ji7).toNat) = ji9 := shr_small hji9
          by_cases c10 : (Go.bits .and .u16 (ji9) 1) = 1
          · rw [if_pos c10] at H
            have c10b0 : ((Go.bits .and .u16 (ji9) 1) == 1) = true := beq_iff_eq.mpr c10
            have c10b1 : ((Go.bits .and .u16 (ji9) 1) != 1) = false := bne_eq_false_iff_eq.mpr c10
            clear c10
            by_cases c11 : x5_1.length < 17592186044416
            · rw [if_pos c11] at H
              have LMc11 := Aside0.mk c11
              clear c11
              obtain ⟨y267, hy267⟩ : ∃ y_ : List Int, y_ = (x5_1 ++ [x6_1]) := ⟨_, rfl⟩
              replace H : (plexusref42_Done.l0 k1 a1 y267 (wrap64 (x6_1 + 1)) a0_0 l0_1) = some r := by first | (rw [hy267]; with_reducible exact H) | (have H2_ := (Option.bind_some _ _).symm.trans H; rw [hy267]; with_reducible exact H2_) | (have H2_ := (Option.bind_some _ _).symm.trans H; with_reducible exact H2_) | with_reducible exact H | (rw [hy267]; exact H) | exact H
              have Ny267 := Aside0.mk hy267
              clear hy267
              have H' := Aside0.mk H
              clear H
              have hcz12_0 : wr.cell? ⟨gb263, 0, none⟩ = some (.int .i64 a0_0) := (blk_cell BK263.out 0).trans rfl
              have hcz12_1 : wr.cell? ⟨gb263, 1, none⟩ = some (.slice A0_1 l0_1.length c0_1) := (blk_cell BK263.out 1).trans rfl
              have hfz12_0 := blk_frozen BK263.out 0
              have hfz12_1 := blk_frozen BK263.out 1
              go_wp2_with (first | ((with_reducible refine gate_builtin (b := .append) (xs := #[.tmp 21, .tmp 23]) rfl ?_); at_builtin; refine Kd.R_append (Kd.int .i64) (w0 := w) w.heap.size rfl (.tmp 21) (.tmp 23) 32 3 (.int .i64 0) 8 rfl Try.underlying32 info3 rfl (by decide) (by omega) u5 x5_1 x6_1 [.int .i64 x6_1] (fun _ => True) (fun _ => False) rfl rfl ?aP (fun _ hk => hk.elim) ?aF ?aO ?aB ?aS ?aL ?_; (case aP => exact rfl); (case aB => exact (by repeat (first | (with_reducible first | exact HB.out | apply below_alloc | apply pw_below_drewN | apply below_drew1 | refine below_set ?_ GE263.out) | exact HB.out))); (case aF => exact (fun _ _ => trivial)); (case aO => exact (by (with_reducible repeat (first | apply Kd.R_alloc | apply Kd.R_drewN | apply Kd.R_drew)); exact HO_5.out)); (case aS => exact (below_size (by repeat (first | (with_reducible first | exact HB.out | apply below_alloc | apply pw_below_drewN | apply below_drew1 | refine below_set ?_ GE263.out) | exact HB.out)))); (case aL => have := LMc11.out; omega); intro v268 w13 ho hb hg hat; rw [← Ny267.out] at ho; have n0_ := Aside0.mk (blk_grown (g := gb263) (o := .cells #[.int .i64 a0_0, .slice A0_1 l0_1.length c0_1] 29 (0, 0)) (by (with_reducible repeat (first | refine blk_drewN ?_ _ | refine blk_drew ?_ | refine blk_alloc ?_ _)); exact BK263.out) hg (Kd.R_ne HO_5.out BK263.out (by decide))); have n1_ := Aside0.mk (hb); have n2_ := Aside0.mk (ho); clear BK263; clear HB; clear HO_5; have BK263 := n0_; have HB := n1_; have HO269 := n2_; clear n0_ n1_ n2_; clear ho hb hg hat))
              go_roundg k1
              case measure => have := HK1.out; omega
              case rel => exact ⟨(y267), (wrap64 (x6_1 + 1)), (by first | rfl | (simp; done) | (simp [*]; done)), H', ⟨by have := HK1.out; omega⟩, ⟨by (with_reducible repeat (first | apply Kd.R_alloc | apply Kd.R_drewN | apply Kd.R_drew)); exact HO269.out⟩, ⟨by (with_reducible repeat (first | refine blk_drewN ?_ _ | refine blk_drew ?_ | refine blk_alloc ?_ _)); exact BK263.out⟩, ⟨by repeat (first | (with_reducible first | exact HB.out | apply below_alloc | apply pw_below_drewN | apply below_drew1 | refine below_set ?_ GE263.out) | exact HB.out)⟩⟩
            · rw [if_neg c11] at H
              exact absurd H (by simp)
          · rw [if_neg c10] at H
            have c10b0 : ((Go.bits .and .u16 (ji9) 1) == 1) = false := beq_eq_false_iff_ne.mpr c10
            have c10b1 : ((Go.bits .and .u16 (ji9) 1) != 1) = true := bne_iff_ne.mpr c10
            have H' := Aside0.mk H
            clear H
            have hcz14_0 : wr.cell? ⟨gb263, 0, none⟩ = some (.int .i64 a0_0) := (blk_cell BK263.out 0).trans rfl
            have hcz14_1 : wr.cell? ⟨gb263, 1, none⟩ = some (.slice A0_1 l0_1.length c0_1) := (blk_cell BK263.out 1).trans rfl
            have hfz14_0 := blk_frozen BK263.out 0
            have hfz14_1 := blk_frozen BK263.out 1
            go_wp2
            go_roundg k1
            case measure => have := HK1.out; omega
            case rel => exact ⟨(x5_1), (wrap64 (x6_1 + 1)), (by first | rfl | (simp; done) | (simp [*]; done)), H', ⟨by have := HK1.out; omega⟩, ⟨by (with_reducible repeat (first | apply Kd.R_alloc | apply Kd.R_drewN | apply Kd.R_drew)); exact HO_5.out⟩, ⟨by (with_reducible repeat (first | refine blk_drewN ?_ _ | refine blk_drew ?_ | refine blk_alloc ?_ _)); exact BK263.out⟩, ⟨by repeat (first | (with_reducible first | exact HB.out | apply below_alloc | apply pw_below_drewN | apply below_drew1 | refine below_set ?_ GE263.out) | exact HB.out)⟩⟩
        · rw [if_neg c8] at H
          exact absurd H (by simp)
      · rw [if_neg c6] at H
        have c6b0 : decide (x6_1 < (l0_1.length : Int)) = false := decide_eq_false c6
        clear c6
        obtain rfl := Option.some.inj H
        have hcz15_0 : wr.cell? ⟨gb263, 0, none⟩ = some (.int .i64 a0_0) := (blk_cell BK263.out 0).trans rfl
        have hcz15_1 : wr.cell? ⟨gb263, 1, none⟩ = some (.slice A0_1 l0_1.length c0_1) := (blk_cell BK263.out 1).trans rfl
        have hfz15_0 := blk_frozen BK263.out 0
        have hfz15_1 := blk_frozen BK263.out 1
        go_wp2
        go_ret
        exact ⟨_, by first | rfl | (simp [errW_none, errW_some] <;> rfl) | (simp [*, errW_none, errW_some] <;> rfl), by (with_reducible repeat (first | apply Kd.R_alloc | apply Kd.R_drewN | apply Kd.R_drew)); exact HO_5.out, by repeat (first | (with_reducible first | exact HB.out | apply below_alloc | apply pw_below_drewN | apply below_drew1 | refine below_set ?_ GE263.out) | exact HB.out)⟩




end Go.Proofs.Ytgegjhgifeobdaa.Pd




namespace Go.Proofs.Ytgegjhgifeobdaa
set_option linter.unusedSimpArgs false
set_option linter.unusedVariables false
open Go.RowKit Go.Lib Go.Proofs.YtgegjhgifeobdaaW.PrintWords Go.Proofs.YtgegjhgifeobdaaW.PrintMore

/-- The done blocks. -/
def doneL (s : Nat) (n : Nat) : List Nat := (List.range n).filter fun i => s.testBit i
theorem bit16_f {s j : Nat} (hs : s < 65536) (hj : j < 16) : (0 ≤ IntKind.u64.wrap (j : Int)) ∧ ((Go.bits .and .u16 (shr .u16 (s : Int) (IntKind.u64.wrap (j : Int))) 1 = 1) ↔ s.testBit j = true) := by
  have hw : IntKind.u64.wrap (j : Int) = (j : Int) := wrapU_nat (by omega)
  have hb : min j IntKind.u16.bits = j := Nat.min_eq_left (by show j ≤ 16; omega)
  have h1 : ((s : Int) / 2 ^ j) = ((s / 2 ^ j : Nat) : Int) := by simp
  have h2 : s / 2 ^ j < 65536 := Nat.lt_of_le_of_lt (Nat.div_le_self _ _) hs
  rw [hw]
  refine ⟨nnI j, ?_⟩
  simp only [shr, Int.toNat_natCast, hb]
  rw [h1, show (1 : Int) = ((1 : Nat) : Int) from rfl, u16_and_nat _ _ h2 (by decide), Nat.testBit_eq_decide_div_mod_eq, Nat.and_one_is_mod]
  simp
  omega
theorem done_loop {s : Nat} (hs : s < 65536) (V : Int) (A : List Nat) (hA : A.length ≤ 15) :
    ∀ (n j : Nat), j + n = A.length → Pd.plexusref42_Done.l0 (n + 1) s (il (doneL s j)) j V (il A) = some (il (doneL s A.length)) := by
  intro n
  induction n with
  | zero =>
    intro j hj
    obtain rfl : j = A.length := by omega
    unfold Pd.plexusref42_Done.l0
    rw [if_neg (by rw [il_length]; omega)]
  | succ n ih =>
    intro j hj
    have hw1 : wrap64 ((j : Int) + 1) = ((j + 1 : Nat) : Int) := by rw [wrap_idE] <;> omega
    have hd : doneL s (j + 1) = doneL s j ++ (if s.testBit j then [j] else []) := by
      rw [doneL, List.range_succ, List.filter_append, doneL]
      cases h : s.testBit j <;> simp [h]
    have hl : (doneL s j).length ≤ j := by
      have := List.length_filter_le (fun i => s.testBit i) (List.range j)
      rwa [List.length_range] at this
    unfold Pd.plexusref42_Done.l0
    rw [if_pos (by rw [il_length]; omega), if_pos (bit16_f hs (by omega)).1, hw1]
    have := ih (j + 1) (by omega)
    rw [hd] at this
    cases hb : s.testBit j with
    | true =>
      rw [hb, if_pos rfl] at this
      rw [if_pos ((bit16_f hs (by omega)).2.2 hb), if_pos (by rw [il_length]; omega), ← this, ← il_app]
      rfl
    | false =>
      rw [hb] at this
      rw [if_neg (fun h => by have := (bit16_f hs (by omega)).2.1 h; rw [hb] at this; cases this)]
      simpa using this
theorem done42 {s : Int} (h0 : 0 ≤ s) (h1 : s < 65536) (V : Int) (A : List Nat) (hA : A.length ≤ 15) : ∃ k0, ∀ k, k0 ≤ k → Pd.plexusref42_Done.f k V (il A) s = some (il (doneL s.toNat A.length)) := by
  obtain ⟨c, rfl⟩ := Int.eq_ofNat_of_zero_le h0
  have h := done_loop (s := c) (by omega) V A hA A.length 0 (by omega)
  rw [Int.toNat_natCast]
  refine ⟨A.length + 1, fun k hk => ?_⟩
  obtain ⟨d, rfl⟩ : ∃ d, k = A.length + 1 + d := ⟨k - (A.length + 1), by omega⟩
  unfold Pd.plexusref42_Done.f
  clear hk
  induction d with
  | zero => exact h
  | succ d ih => exact Pd.plexusref42_Done.mono_l _ _ _ _ _ _ _ ih
end Go.Proofs.Ytgegjhgifeobdaa
