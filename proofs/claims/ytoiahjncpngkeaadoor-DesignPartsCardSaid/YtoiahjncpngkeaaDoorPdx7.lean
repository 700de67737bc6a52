-- Written by this session's program xprint.py: it drives the kit's print with contracts of this session's own.
import Derived.Test.YtoiahjncpngkeaaDoorPdx0
import Derived.Test.YtoiahjncpngkeaaDoorPdx6
namespace Go.Proofs.YtoiahjncpngkeaaDoor.Pd
open Go.RowKit Go.Proofs.YtoiahjncpngkeaaDoorW.PrintWords Go.Proofs.YtoiahjncpngkeaaDoorW.PrintLast Go.Proofs.YtoiahjncpngkeaaDoorW.PrintMore
attribute [local go_sem] max2_int min2_int max_two min_two max_three min_three max_four min_four   -- for this text's walks alone
set_option linter.unusedVariables false
set_option linter.unusedSimpArgs false

/-! ### design_Classes: function 22 -/
mutual
def design_Classes.l0 : Nat → Int → List (List Int) → Int → Int → Int → List Int → Option (Int)
  | 0, _, _, _, _, _, _ => none
  | k + 1, x5, x11, x12, x13, x147000, x147001 => if x13 < x12 then (if 0 ≤ x13 then (if x13 < (x11.length : Int) then (design_Classes.l1 k x5 0 x11 x12 x13 (rd_L2 x11 x13) ((rd_L2 x11 x13).length : Int) 0 x147000 x147001) else (none)) else (none)) else (if (x147001.length : Int) = 0 then (some 90) else ((bits_OnesCount64.f x5).bind fun t147 => (if t147 = (x147001.length : Int) then (some 0) else (some 90))))
def design_Classes.l1 : Nat → Int → Int → List (List Int) → Int → Int → List Int → Int → Int → Int → List Int → Option (Int)
  | 0, _, _, _, _, _, _, _, _, _, _ => none
  | k + 1, x5, x8, x11, x12, x13, x17, x18, x19, x147000, x147001 => if x19 < x18 then (if 0 ≤ x19 then (if x19 < (x17.length : Int) then (if (rd x17 x19) < 0 then (some 90) else (if (rd x17 x19) ≥ (x147001.length : Int) then (some 90) else (if 0 ≤ (rd x17 x19) then (if (Go.bits .and .u64 (shr .u64 x5 (rd x17 x19)) 1) = 1 then (some 90) else (if (rd x17 x19) < (x147001.length : Int) then (if (rd x147001 (rd x17 x19)) = 0 then (some 90) else (if (Go.bits .and .u64 x8 (rd x147001 (rd x17 x19))) = 0 then (design_Classes.l1 k (Go.bits .or .u64 x5 (shl .u64 1 (rd x17 x19))) (Go.bits .or .u64 x8 (rd x147001 (rd x17 x19))) x11 x12 x13 x17 x18 (wrap64 (x19 + 1)) x147000 x147001) else (some 90))) else (none))) else (none)))) else (none)) else (none)) else (if 0 ≤ x147000 then (if x8 = (IntKind.u64.wrap ((shl .u64 1 x147000) - 1)) then (design_Classes.l0 k x5 x11 x12 (wrap64 (x13 + 1)) x147000 x147001) else (some 90)) else (none))
end
def design_Classes.f (k : Nat) (a0_0 : Int) (l0_1 : List Int) (l1 : List (List Int)) : Option (Int) := design_Classes.l0 k 0 l1 (l1.length : Int) 0 a0_0 l0_1
theorem design_Classes.mono_l : ∀ k, (∀ y0 y1 y2 y3 y4 y5, LeO (design_Classes.l0 k y0 y1 y2 y3 y4 y5) (design_Classes.l0 (k + 1) y0 y1 y2 y3 y4 y5)) ∧ (∀ y0 y1 y2 y3 y4 y5 y6 y7 y8 y9, LeO (design_Classes.l1 k y0 y1 y2 y3 y4 y5 y6 y7 y8 y9) (design_Classes.l1 (k + 1) y0 y1 y2 y3 y4 y5 y6 y7 y8 y9))
  | 0 => ⟨fun _ _ _ _ _ _ r h => by simp [design_Classes.l0] at h, fun _ _ _ _ _ _ _ _ _ _ r h => by simp [design_Classes.l1] at h⟩
  | k + 1 => by
    obtain ⟨ih0, ih1⟩ := design_Classes.mono_l k
    refine ⟨?_, ?_⟩
    · intro y0 y1 y2 y3 y4 y5
      unfold design_Classes.l0
      repeat' first
      | (with_reducible exact ih0 _ _ _ _ _ _)
      | (with_reducible exact ih1 _ _ _ _ _ _ _ _ _ _)
      | (with_reducible exact LeO.refl _)
      | (with_reducible exact LeO.none _)
      | (with_reducible refine LeO.ite ?_ ?_)
      | (with_reducible refine LeO.bind ?_ (fun _ => ?_))
      | exact ih0 _ _ _ _ _ _
      | exact ih1 _ _ _ _ _ _ _ _ _ _
      | exact LeO.none _
      | refine LeO.ite ?_ ?_
      | refine LeO.bind ?_ (fun _ => ?_)
    · intro y0 y1 y2 y3 y4 y5 y6 y7 y8 y9
      unfold design_Classes.l1
      repeat' first
      | (with_reducible exact ih0 _ _ _ _ _ _)
      | (with_reducible exact ih1 _ _ _ _ _ _ _ _ _ _)
      | (with_reducible exact LeO.refl _)
      | (with_reducible exact LeO.none _)
      | (with_reducible refine LeO.ite ?_ ?_)
      | (with_reducible refine LeO.bind ?_ (fun _ => ?_))
      | exact ih0 _ _ _ _ _ _
      | exact ih1 _ _ _ _ _ _ _ _ _ _
      | exact LeO.none _
      | refine LeO.ite ?_ ?_
      | refine LeO.bind ?_ (fun _ => ?_)
theorem design_Classes.mono : ∀ a0 a1 a2 k, LeO (design_Classes.f k a0 a1 a2) (design_Classes.f (k + 1) a0 a1 a2) := by
  intro a0 a1 a2 k
  obtain ⟨ih0, ih1⟩ := design_Classes.mono_l k
  unfold design_Classes.f
  repeat' first
      | (with_reducible exact ih0 _ _ _ _ _ _)
      | (with_reducible exact ih1 _ _ _ _ _ _ _ _ _ _)
      | (with_reducible exact LeO.refl _)
      | (with_reducible exact LeO.none _)
      | (with_reducible refine LeO.ite ?_ ?_)
      | (with_reducible refine LeO.bind ?_ (fun _ => ?_))
      | exact ih0 _ _ _ _ _ _
      | exact ih1 _ _ _ _ _ _ _ _ _ _
      | exact LeO.none _
      | refine LeO.ite ?_ ?_
      | refine LeO.bind ?_ (fun _ => ?_)
set_option maxHeartbeats 8000000 in
set_option maxRecDepth 100000 in
theorem design_Classes.calls (k : Nat) (a0_0 : Int) (A0_1 : Option Addr) (c0_1 : Nat) (l0_1 : List Int) (A1 : Option Addr) (c1 : Nat) (l1 : List (List Int)) (r : Int) (w : World) (hr0_1 : Kd.C (Kd.int .u64) w A0_1 l0_1.length l0_1) (hc0_1 : l0_1.length ≤ c0_1) (hr1 : Kd.C (Kd.slice 3 (Kd.int .i64)) w A1 l1.length l1) (hc1 : l1.length ≤ c1) (h : design_Classes.f k a0_0 l0_1 l1 = some r) :
    Calls Tryd.prog 22 #[.agg #[.int .i64 a0_0, .slice A0_1 l0_1.length c0_1], .slice A1 l1.length c1] w fun e w' => e = .returned (.int .i64 r) ∧ Below w.heap.size w w' := by
  have hu31 := Tryd.underlying31
  have HR0_1 := Aside0.mk hr0_1
  have HC0_1 := Aside0.mk hc0_1
  clear hr0_1 hc0_1
  have HR1 := Aside0.mk hr1
  have HC1 := Aside0.mk hc1
  clear hr1 hc1
  have HB := Aside0.mk (Below.refl w.heap.size w)
  have H : (design_Classes.l0 k 0 l1 (l1.length : Int) 0 a0_0 l0_1) = some r := h
  clear h
  have H' := Aside0.mk H
  clear H
  go_enter Tryd.func22, Tryd.ntmps22
  go_wp2_with (first | ((with_reducible refine gate_dst (N := 2) rfl ?_); (try (refine gate_guard (by rfl) ?_; dsimp only)); refine box_event ?hg (N := 2) ?hd (cs := #[.int .i64 a0_0, .slice A0_1 l0_1.length c0_1]) (t := 31) ?hr ?_; (case hd => rfl); (case hg => rfl); (case hr => first | (go_simp; done) | (go_simp; rfl)); intro gb146 hg w3 hbox hb; have n0_ := Aside0.mk (below_step (by repeat (first | (with_reducible first | exact HB.out | apply below_alloc | apply pw_below_drewN | apply below_drew1) | exact HB.out)) hb); have n1_ := Aside0.mk (hbox); have n2_ := Aside0.mk ((by rw [hg]; exact (below_size (by repeat (first | (with_reducible first | exact HB.out | apply below_alloc | apply pw_below_drewN | apply below_drew1) | exact HB.out))) : w.heap.size ≤ gb146)); have n3_ := Aside0.mk ((by rw [hg]; exact (below_size (by repeat (first | (with_reducible first | exact HB.out | apply below_alloc | apply pw_below_drewN | apply below_drew1) | exact HB.out))) : w.heap.size ≤ gb146)); clear HB; have HB := n0_; have BK146 := n1_; have GW146 := n2_; have GE146 := n3_; clear n0_ n1_ n2_ n3_; clear hb hbox hg))
  repeat (go_quiet (first | ((with_reducible refine gate_dst (N := 2) rfl ?_); (try (refine gate_guard (by rfl) ?_; dsimp only)); refine box_event ?hg (N := 2) ?hd (cs := #[.int .i64 a0_0, .slice A0_1 l0_1.length c0_1]) (t := 31) ?hr ?_; (case hd => rfl); (case hg => rfl); (case hr => first | (go_simp; done) | (go_simp; rfl)); intro gb146 hg w3 hbox hb; have n0_ := Aside0.mk (below_step (by repeat (first | (with_reducible first | exact HB.out | apply below_alloc | apply pw_below_drewN | apply below_drew1) | exact HB.out)) hb); have n1_ := Aside0.mk (hbox); have n2_ := Aside0.mk ((by rw [hg]; exact (below_size (by repeat (first | (with_reducible first | exact HB.out | apply below_alloc | apply pw_below_drewN | apply below_drew1) | exact HB.out))) : w.heap.size ≤ gb146)); have n3_ := Aside0.mk ((by rw [hg]; exact (below_size (by repeat (first | (with_reducible first | exact HB.out | apply below_alloc | apply pw_below_drewN | apply below_drew1) | exact HB.out))) : w.heap.size ≤ gb146)); clear HB; have HB := n0_; have BK146 := n1_; have GW146 := n2_; have GE146 := n3_; clear n0_ n1_ n2_ n3_; clear hb hbox hg)); try go_wp2_with (first | ((with_reducible refine gate_dst (N := 2) rfl ?_); (try (refine gate_guard (by rfl) ?_; dsimp only)); refine box_event ?hg (N := 2) ?hd (cs := #[.int .i64 a0_0, .slice A0_1 l0_1.length c0_1]) (t := 31) ?hr ?_; (case hd => rfl); (case hg => rfl); (case hr => first | (go_simp; done) | (go_simp; rfl)); intro gb146 hg w3 hbox hb; have n0_ := Aside0.mk (below_step (by repeat (first | (with_reducible first | exact HB.out | apply below_alloc | apply pw_below_drewN | apply below_drew1) | exact HB.out)) hb); have n1_ := Aside0.mk (hbox); have n2_ := Aside0.mk ((by rw [hg]; exact (below_size (by repeat (first | (with_reducible first | exact HB.out | apply below_alloc | apply pw_below_drewN | apply below_drew1) | exact HB.out))) : w.heap.size ≤ gb146)); have n3_ := Aside0.mk ((by rw [hg]; exact (below_size (by repeat (first | (with_reducible first | exact HB.out | apply below_alloc | apply pw_below_drewN | apply below_drew1) | exact HB.out))) : w.heap.size ≤ gb146)); clear HB; have HB := n0_; have BK146 := n1_; have GW146 := n2_; have GE146 := n3_; clear n0_ n1_ n2_ n3_; clear hb hbox hg)))
  go_loopg [5, 13] k (fun kq v5 v13 w' => ∃ (x5_1 : Int) (x13_1 : Int), v5 = .int .u64 x5_1 ∧ v13 = .int .i64 x13_1 ∧ Aside0 (design_Classes.l0 kq x5_1 l1 (l1.length : Int) x13_1 a0_0 l0_1 = some r) ∧ Aside0 (kq ≤ k) ∧ Aside0 (w'.heap[gb146]? = some (.cells #[.int .i64 a0_0, (.slice A0_1 l0_1.length c0_1)] 31 (0, 0))) ∧ Aside0 (Below w.heap.size w w'))
  case atStart => exact ⟨(0), (0), (by first | rfl | (simp; done) | (simp [*]; done)), (by first | rfl | (simp; done) | (simp [*]; done)), H', ⟨Nat.le_refl _⟩, ⟨by (with_reducible repeat (first | refine blk_drewN ?_ _ | refine blk_drew ?_ | refine blk_alloc ?_ _)); exact BK146.out⟩, ⟨by repeat (first | (with_reducible first | exact HB.out | apply below_alloc | apply pw_below_drewN | apply below_drew1 | refine below_set ?_ GE146.out) | exact HB.out)⟩⟩
  case round =>
    clear H'
    try clear c1
    try clear c2
    try clear p2
    obtain ⟨x5_1, x13_1, rfl, rfl, HA, HK1, BK146, HB⟩ := hrel
    cases gk with
    | zero => exact absurd HA.out (by simp [design_Classes.l0])
    | succ k1 =>
      have H := HA.out
      clear HA
      simp only [design_Classes.l0] at H
      by_cases c4 : x13_1 < (l1.length : Int)
      · rw [if_pos c4] at H
        have c4b0 : decide (x13_1 < (l1.length : Int)) = true := decide_eq_true c4
        clear c4
        by_cases c5 : 0 ≤ x13_1
        · rw [if_pos c5] at H
          have c5b0 : decide (0 ≤ x13_1) = true := decide_eq_true c5
          clear c5
          by_cases c6 : x13_1 < (l1.length : Int)
          · rw [if_pos c6] at H
            have c6b0 : decide (x13_1 < (l1.length : Int)) = true := decide_eq_true c6
            clear c6
            have H' := Aside0.mk H
            clear H
            have p148 : 0 ≤ (x13_1 : Int) := of_decide_eq_true (by first | (with_reducible assumption) | assumption)
            have q148 : x13_1 < (l1.length : Int) := of_decide_eq_true (by first | (with_reducible assumption) | assumption)
            obtain ⟨ad148, A148_0, c148_0, e148, hx148_0, hl148_0, hi148_0⟩ := at_L2 HR1.out x13_1 p148 q148
            cases e148
            replace hx148_0 := (HB.out.cell (World.block_lt_of_cell? w _ hx148_0)).trans hx148_0
            have HR148_0 := Aside0.mk hi148_0
            have HC148_0 := Aside0.mk hl148_0
            clear hi148_0 hl148_0
            replace p148 := eq_true p148
            replace q148 := eq_true q148
            go_wp2
            repeat (go_quiet (fail); try go_wp2)
            go_loopg [5, 8, 19] k1 (fun kq v5 v8 v19 w' => ∃ (x5_2 : Int) (x8_2 : Int) (x19_2 : Int), v5 = .int .u64 x5_2 ∧ v8 = .int .u64 x8_2 ∧ v19 = .int .i64 x19_2 ∧ Aside0 (design_Classes.l1 kq x5_2 x8_2 l1 (l1.length : Int) x13_1 (rd_L2 l1 x13_1) ((rd_L2 l1 x13_1).length : Int) x19_2 a0_0 l0_1 = some r) ∧ Aside0 (kq ≤ k1) ∧ Aside0 (w'.heap[gb146]? = some (.cells #[.int .i64 a0_0, (.slice A0_1 l0_1.length c0_1)] 31 (0, 0))) ∧ Aside0 (Below w.heap.size w w'))
            case atStart => exact ⟨(x5_1), (0), (0), (by first | rfl | (simp; done) | (simp [*]; done)), (by first | rfl | (simp; done) | (simp [*]; done)), (by first | rfl | (simp; done) | (simp [*]; done)), H', ⟨Nat.le_refl _⟩, ⟨by (with_reducible repeat (first | refine blk_drewN ?_ _ | refine blk_drew ?_ | refine blk_alloc ?_ _)); exact BK146.out⟩, ⟨by repeat (first | (with_reducible first | exact HB.out | apply below_alloc | apply pw_below_drewN | apply below_drew1 | refine below_set ?_ GE146.out) | exact HB.out)⟩⟩
            case round =>
              clear H'
              try clear c1
              try clear p1
              try clear q1
              try clear hx1
              try clear c2
              try clear p2
              try clear c4
              try clear c4b0
              try clear c5
              try clear c5b0
              try clear c6
              try clear c6b0
              try clear hx148_0
              try clear p148
              try clear p2
              try clear q148
              obtain ⟨x5_2, x8_2, x19_2, rfl, rfl, rfl, HA, HK2, BK146, HB⟩ := hrel
              cases gk with
              | zero => exact absurd HA.out (by simp [design_Classes.l1])
              | succ k2 =>
                have H := HA.out
                clear HA
                simp only [design_Classes.l1] at H
                by_cases c7 : x19_2 < ((rd_L2 l1 x13_1).length : Int)
                · rw [if_pos c7] at H
                  have c7b0 : decide (x19_2 < ((rd_L2 l1 x13_1).length : Int)) = true := decide_eq_true c7
                  clear c7
                  by_cases c8 : 0 ≤ x19_2
                  · rw [if_pos c8] at H
                    have c8b0 : decide (0 ≤ x19_2) = true := decide_eq_true c8
                    clear c8
                    by_cases c9 : x19_2 < ((rd_L2 l1 x13_1).length : Int)
                    · rw [if_pos c9] at H
                      have c9b0 : decide (x19_2 < ((rd_L2 l1 x13_1).length : Int)) = true := decide_eq_true c9
                      clear c9
                      by_cases c10 : (rd (rd_L2 l1 x13_1) x19_2) < 0
                      · rw [if_pos c10] at H
                        have c10b0 : decide ((rd (rd_L2 l1 x13_1) x19_2) < 0) = true := decide_eq_true c10
                        clear c10
                        obtain rfl := Option.some.inj H
                        have p149 : 0 ≤ (x19_2 : Int) := of_decide_eq_true (by first | (with_reducible assumption) | assumption)
                        have q149 : x19_2 < ((rd_L2 l1 x13_1).length : Int) := of_decide_eq_true (by first | (with_reducible assumption) | assumption)
                        obtain ⟨ad149, e149, hx149_0⟩ := Kd.at_int HR148_0.out x19_2 p149 q149
                        cases e149
                        replace hx149_0 := (HB.out.cell (World.block_lt_of_cell? w _ hx149_0)).trans hx149_0
                        replace p149 := eq_true p149
                        replace q149 := eq_true q149
                        go_wp2
                        repeat (go_quiet (fail); try go_wp2)
                        go_ret
                        exact ⟨by first | rfl | (simp [errW_none, errW_some] <;> rfl) | (simp [*, errW_none, errW_some] <;> rfl), by repeat (first | (with_reducible first | exact HB.out | apply below_alloc | apply pw_below_drewN | apply below_drew1 | refine below_set ?_ GE146.out) | exact HB.out)⟩
                      · rw [if_neg c10] at H
                        have c10b0 : decide ((rd (rd_L2 l1 x13_1) x19_2) < 0) = false := decide_eq_false c10
                        clear c10
                        by_cases c11 : (rd (rd_L2 l1 x13_1) x19_2) ≥ (l0_1.length : Int)
                        · rw [if_pos c11] at H
                          have c11b0 : decide ((l0_1.length : Int) ≤ (rd (rd_L2 l1 x13_1) x19_2)) = true := decide_eq_true c11
                          clear c11
                          obtain rfl := Option.some.inj H
                          have p149 : 0 ≤ (x19_2 : Int) := of_decide_eq_true (by first | (with_reducible assumption) | assumption)
                          have q149 : x19_2 < ((rd_L2 l1 x13_1).length : Int) := of_decide_eq_true (by first | (with_reducible assumption) | assumption)
                          obtain ⟨ad149, e149, hx149_0⟩ := Kd.at_int HR148_0.out x19_2 p149 q149
                          cases e149
                          replace hx149_0 := (HB.out.cell (World.block_lt_of_cell? w _ hx149_0)).trans hx149_0
                          replace p149 := eq_true p149
                          replace q149 := eq_true q149
                          have hcz12_0 : wr.cell? ⟨gb146, 0, none⟩ = some (.int .i64 a0_0) := (blk_cell BK146.out 0).trans rfl
                          have hcz12_1 : wr.cell? ⟨gb146, 1, none⟩ = some (.slice A0_1 l0_1.length c0_1) := (blk_cell BK146.out 1).trans rfl
                          have hfz12_0 := blk_frozen BK146.out 0
                          have hfz12_1 := blk_frozen BK146.out 1
                          go_wp2
                          repeat (go_quiet (fail); try go_wp2)
                          go_ret
                          exact ⟨by first | rfl | (simp [errW_none, errW_some] <;> rfl) | (simp [*, errW_none, errW_some] <;> rfl), by repeat (first | (with_reducible first | exact HB.out | apply below_alloc | apply pw_below_drewN | apply below_drew1 | refine below_set ?_ GE146.out) | exact HB.out)⟩
                        · rw [if_neg c11] at H
                          have c11b0 : decide ((l0_1.length : Int) ≤ (rd (rd_L2 l1 x13_1) x19_2)) = false := decide_eq_false c11
                          clear c11
                          by_cases c13 : 0 ≤ (rd (rd_L2 l1 x13_1) x19_2)
                          · rw [if_pos c13] at H
                            have c13b0 := eq_true c13
                            have c13b1 : decide (0 ≤ (rd (rd_L2 l1 x13_1) x19_2)) = true := decide_eq_true c13
                            clear c13
                            obtain ⟨ji14, hji14⟩ : ∃ j_ : Int, (shr .u64 x5_2 (rd (rd_L2 l1 x13_1) x19_2)) = j_ := ⟨_, rfl⟩
                            replace H : (if (Go.bits .and .u64 (ji14) 1) = 1 then (some 90) else (if (rd (rd_L2 l1 x13_1) x19_2) < (l0_1.length : Int) then (if (rd l0_1 (rd (rd_L2 l1 x13_1) x19_2)) = 0 then (some 90) else (if (Go.bits .and .u64 x8_2 (rd l0_1 (rd (rd_L2 l1 x13_1) x19_2))) = 0 then (design_Classes.l1 k2 (Go.bits .or .u64 x5_2 (shl .u64 1 (rd (rd_L2 l1 x13_1) x19_2))) (Go.bits .or .u64 x8_2 (rd l0_1 (rd (rd_L2 l1 x13_1) x19_2))) l1 (l1.length : Int) x13_1 (rd_L2 l1 x13_1) ((rd_L2 l1 x13_1).length : Int) (wrap64 (x19_2 + 1)) a0_0 l0_1) else (some 90))) else (none))) = some r := by first | (rw [hji14] at H; exact H) | (simp only [hji14] at H ⊢; exact H)
                            have hji14_ : (x5_2 / 2 ^ min (rd (rd_L2 l1 x13_1) x19_2).toNat 64) = ji14 := hji14
                            have hji14z : (rd (rd_L2 l1 x13_1) x19_2) ≤ 64 → (x5_2 / 2 ^ (rd (rd_L2 l1 x13_1) x19_2).toNat) = ji14 := shr_small hji14
                            by_cases c15 : (Go.bits .and .u64 (ji14) 1) = 1
                            · rw [if_pos c15] at H
                              have c15b0 : ((Go.bits .and .u64 (ji14) 1) == 1) = true := beq_iff_eq.mpr c15
                              have c15b1 : ((Go.bits .and .u64 (ji14) 1) != 1) = false := bne_eq_false_iff_eq.mpr c15
                              clear c15
                              obtain rfl := Option.some.inj H
                              have p149 : 0 ≤ (x19_2 : Int) := of_decide_eq_true (by first | (with_reducible assumption) | assumption)
                              have q149 : x19_2 < ((rd_L2 l1 x13_1).length : Int) := of_decide_eq_true (by first | (with_reducible assumption) | assumption)
                              obtain ⟨ad149, e149, hx149_0⟩ := Kd.at_int HR148_0.out x19_2 p149 q149
                              cases e149
                              replace hx149_0 := (HB.out.cell (World.block_lt_of_cell? w _ hx149_0)).trans hx149_0
                              replace p149 := eq_true p149
                              replace q149 := eq_true q149
                              have hcz16_0 : wr.cell? ⟨gb146, 0, none⟩ = some (.int .i64 a0_0) := (blk_cell BK146.out 0).trans rfl
                              have hcz16_1 : wr.cell? ⟨gb146, 1, none⟩ = some (.slice A0_1 l0_1.length c0_1) := (blk_cell BK146.out 1).trans rfl
                              have hfz16_0 := blk_frozen BK146.out 0
                              have hfz16_1 := blk_frozen BK146.out 1
                              go_wp2
                              repeat (go_quiet (fail); try go_wp2)
                              go_ret
                              exact ⟨by first | rfl | (simp [errW_none, errW_some] <;> rfl) | (simp only [← hji14]; first | rfl | (simp [errW_none, errW_some] <;> rfl)) | (simp [*, errW_none, errW_some] <;> rfl), by repeat (first | (with_reducible first | exact HB.out | apply below_alloc | apply pw_below_drewN | apply below_drew1 | refine below_set ?_ GE146.out) | exact HB.out)⟩
                            · rw [if_neg c15] at H
                              have c15b0 : ((Go.bits .and .u64 (ji14) 1) == 1) = false := beq_eq_false_iff_ne.mpr c15
                              have c15b1 : ((Go.bits .and .u64 (ji14) 1) != 1) = true := bne_iff_ne.mpr c15
                              by_cases c17 : (rd (rd_L2 l1 x13_1) x19_2) < (l0_1.length : Int)
                              · rw [if_pos c17] at H
                                have c17b0 : decide ((rd (rd_L2 l1 x13_1) x19_2) < (l0_1.length : Int)) = true := decide_eq_true c17
                                clear c17
                                by_cases c18 : (rd l0_1 (rd (rd_L2 l1 x13_1) x19_2)) = 0
                                · rw [if_pos c18] at H
                                  have c18b0 : ((rd l0_1 (rd (rd_L2 l1 x13_1) x19_2)) == 0) = true := beq_iff_eq.mpr c18
                                  have c18b1 : ((rd l0_1 (rd (rd_L2 l1 x13_1) x19_2)) != 0) = false := bne_eq_false_iff_eq.mpr c18
                                  clear c18
                                  obtain rfl := Option.some.inj H
                                  have p149 : 0 ≤ (x19_2 : Int) := of_decide_eq_true (by first | (with_reducible assumption) | assumption)
                                  have q149 : x19_2 < ((rd_L2 l1 x13_1).length : Int) := of_decide_eq_true (by first | (with_reducible assumption) | assumption)
                                  obtain ⟨ad149, e149, hx149_0⟩ := Kd.at_int HR148_0.out x19_2 p149 q149
                                  cases e149
                                  replace hx149_0 := (HB.out.cell (World.block_lt_of_cell? w _ hx149_0)).trans hx149_0
                                  replace p149 := eq_true p149
                                  replace q149 := eq_true q149
                                  have hcz19_0 : wr.cell? ⟨gb146, 0, none⟩ = some (.int .i64 a0_0) := (blk_cell BK146.out 0).trans rfl
                                  have hcz19_1 : wr.cell? ⟨gb146, 1, none⟩ = some (.slice A0_1 l0_1.length c0_1) := (blk_cell BK146.out 1).trans rfl
                                  have hfz19_0 := blk_frozen BK146.out 0
                                  have hfz19_1 := blk_frozen BK146.out 1
                                  have p150 : 0 ≤ ((rd (rd_L2 l1 x13_1) x19_2) : Int) := of_decide_eq_true (by first | (with_reducible assumption) | assumption)
                                  have q150 : (rd (rd_L2 l1 x13_1) x19_2) < (l0_1.length : Int) := of_decide_eq_true (by first | (with_reducible assumption) | assumption)
                                  obtain ⟨ad150, e150, hx150_0⟩ := Kd.at_int HR0_1.out (rd (rd_L2 l1 x13_1) x19_2) p150 q150
                                  cases e150
                                  replace hx150_0 := (HB.out.cell (World.block_lt_of_cell? w _ hx150_0)).trans hx150_0
                                  replace p150 := eq_true p150
                                  replace q150 := eq_true q150
                                  go_wp2
                                  repeat (go_quiet (fail); try go_wp2)
                                  go_ret
                                  exact ⟨by first | rfl | (simp [errW_none, errW_some] <;> rfl) | (simp only [← hji14]; first | rfl | (simp [errW_none, errW_some] <;> rfl)) | (simp [*, errW_none, errW_some] <;> rfl), by repeat (first | (with_reducible first | exact HB.out | apply below_alloc | apply pw_below_drewN | apply below_drew1 | refine below_set ?_ GE146.out) | exact HB.out)⟩
                                · rw [if_neg c18] at H
                                  have c18b0 : ((rd l0_1 (rd (rd_L2 l1 x13_1) x19_2)) == 0) = false := beq_eq_false_iff_ne.mpr c18
                                  have c18b1 : ((rd l0_1 (rd (rd_L2 l1 x13_1) x19_2)) != 0) = true := bne_iff_ne.mpr c18
                                  by_cases c20 : (Go.bits .and .u64 x8_2 (rd l0_1 (rd (rd_L2 l1 x13_1) x19_2))) = 0
                                  · rw [if_pos c20] at H
                                    have c20b0 : ((Go.bits .and .u64 x8_2 (rd l0_1 (rd (rd_L2 l1 x13_1) x19_2))) == 0) = true := beq_iff_eq.mpr c20
                                    have c20b1 : ((Go.bits .and .u64 x8_2 (rd l0_1 (rd (rd_L2 l1 x13_1) x19_2))) != 0) = false := bne_eq_false_iff_eq.mpr c20
                                    clear c20
                                    have c21b0 := eq_true (of_decide_eq_true (by first | (with_reducible assumption) | assumption) : 0 ≤ (rd (rd_L2 l1 x13_1) x19_2))
                                    obtain ⟨ji22, hji22⟩ : ∃ j_ : Int, (shl .u64 1 (rd (rd_L2 l1 x13_1) x19_2)) = j_ := ⟨_, rfl⟩
                                    replace H : (design_Classes.l1 k2 (Go.bits .or .u64 x5_2 (ji22)) (Go.bits .or .u64 x8_2 (rd l0_1 (rd (rd_L2 l1 x13_1) x19_2))) l1 (l1.length : Int) x13_1 (rd_L2 l1 x13_1) ((rd_L2 l1 x13_1).length : Int) (wrap64 (x19_2 + 1)) a0_0 l0_1) = some r := by first | (rw [hji22] at H; exact H) | (simp only [hji22] at H ⊢; exact H)
                                    have hji22_ : (IntKind.u64.wrap (1 * 2 ^ min (rd (rd_L2 l1 x13_1) x19_2).toNat 64)) = ji22 := hji22
                                    have hji22z : (rd (rd_L2 l1 x13_1) x19_2) ≤ 64 → (IntKind.u64.wrap (1 * 2 ^ (rd (rd_L2 l1 x13_1) x19_2).toNat)) = ji22 := shl_small hji22
                                    have hji22u : (IntKind.u64.wrap (2 ^ min (rd (rd_L2 l1 x13_1) x19_2).toNat 64)) = ji22 := by have h_ := hji22_; rw [Int.one_mul] at h_; exact h_
                                    have hji22v : (rd (rd_L2 l1 x13_1) x19_2) ≤ 64 → (IntKind.u64.wrap (2 ^ (rd (rd_L2 l1 x13_1) x19_2).toNat)) = ji22 := fun hle_ => by have h_ := hji22z hle_; rw [Int.one_mul] at h_; exact h_
                                    have H' := Aside0.mk H
                                    clear H
                                    have p149 : 0 ≤ (x19_2 : Int) := of_decide_eq_true (by first | (with_reducible assumption) | assumption)
                                    have q149 : x19_2 < ((rd_L2 l1 x13_1).length : Int) := of_decide_eq_true (by first | (with_reducible assumption) | assumption)
                                    obtain ⟨ad149, e149, hx149_0⟩ := Kd.at_int HR148_0.out x19_2 p149 q149
                                    cases e149
                                    replace hx149_0 := (HB.out.cell (World.block_lt_of_cell? w _ hx149_0)).trans hx149_0
                                    replace p149 := eq_true p149
                                    replace q149 := eq_true q149
                                    have hcz23_0 : wr.cell? ⟨gb146, 0, none⟩ = some (.int .i64 a0_0) := (blk_cell BK146.out 0).trans rfl
                                    have hcz23_1 : wr.cell? ⟨gb146, 1, none⟩ = some (.slice A0_1 l0_1.length c0_1) := (blk_cell BK146.out 1).trans rfl
                                    have hfz23_0 := blk_frozen BK146.out 0
                                    have hfz23_1 := blk_frozen BK146.out 1
                                    have p150 : 0 ≤ ((rd (rd_L2 l1 x13_1) x19_2) : Int) := of_decide_eq_true (by first | (with_reducible assumption) | assumption)
                                    have q150 : (rd (rd_L2 l1 x13_1) x19_2) < (l0_1.length : Int) := of_decide_eq_true (by first | (with_reducible assumption) | assumption)
                                    obtain ⟨ad150, e150, hx150_0⟩ := Kd.at_int HR0_1.out (rd (rd_L2 l1 x13_1) x19_2) p150 q150
                                    cases e150
                                    replace hx150_0 := (HB.out.cell (World.block_lt_of_cell? w _ hx150_0)).trans hx150_0
                                    replace p150 := eq_true p150
                                    replace q150 := eq_true q150
                                    have p151 : 0 ≤ ((rd (rd_L2 l1 x13_1) x19_2) : Int) := of_decide_eq_true (by first | (with_reducible assumption) | assumption)
                                    have q151 : (rd (rd_L2 l1 x13_1) x19_2) < (l0_1.length : Int) := of_decide_eq_true (by first | (with_reducible assumption) | assumption)
                                    obtain ⟨ad151, e151, hx151_0⟩ := Kd.at_int HR0_1.out (rd (rd_L2 l1 x13_1) x19_2) p151 q151
                                    obtain rfl : ad150 = ad151 := (by injection e151)
                                    replace hx151_0 := (HB.out.cell (World.block_lt_of_cell? w _ hx151_0)).trans hx151_0
                                    replace p151 := eq_true p151
                                    replace q151 := eq_true q151
                                    have p152 : 0 ≤ ((rd (rd_L2 l1 x13_1) x19_2) : Int) := of_decide_eq_true (by first | (with_reducible assumption) | assumption)
                                    have q152 : (rd (rd_L2 l1 x13_1) x19_2) < (l0_1.length : Int) := of_decide_eq_true (by first | (with_reducible assumption) | assumption)
                                    obtain ⟨ad152, e152, hx152_0⟩ := Kd.at_int HR0_1.out (rd (rd_L2 l1 x13_1) x19_2) p152 q152
                                    obtain rfl : ad150 = ad152 := (by injection e152)
                                    replace hx152_0 := (HB.out.cell (World.block_lt_of_cell? w _ hx152_0)).trans hx152_0
                                    replace p152 := eq_true p152
                                    replace q152 := eq_true q152
                                    go_wp2
                                    repeat (go_quiet (fail); try go_wp2)
                                    go_roundg k2
                                    case measure => have := HK1.out; have := HK2.out; omega
                                    case rel => exact ⟨(Go.bits .or .u64 x5_2 (ji22)), (Go.bits .or .u64 x8_2 (rd l0_1 (rd (rd_L2 l1 x13_1) x19_2))), (wrap64 (x19_2 + 1)), (by first | rfl | (simp; done) | (simp only [← hji22] <;> (first | rfl | simp)) | (simp [*]; done)), (by first | rfl | (simp; done) | (simp [*]; done)), (by first | rfl | (simp; done) | (simp [*]; done)), H', ⟨by have := HK1.out; have := HK2.out; omega⟩, ⟨by (with_reducible repeat (first | refine blk_drewN ?_ _ | refine blk_drew ?_ | refine blk_alloc ?_ _)); exact BK146.out⟩, ⟨by repeat (first | (with_reducible first | exact HB.out | apply below_alloc | apply pw_below_drewN | apply below_drew1 | refine below_set ?_ GE146.out) | exact HB.out)⟩⟩
                                  · rw [if_neg c20] at H
                                    have c20b0 : ((Go.bits .and .u64 x8_2 (rd l0_1 (rd (rd_L2 l1 x13_1) x19_2))) == 0) = false := beq_eq_false_iff_ne.mpr c20
                                    have c20b1 : ((Go.bits .and .u64 x8_2 (rd l0_1 (rd (rd_L2 l1 x13_1) x19_2))) != 0) = true := bne_iff_ne.mpr c20
                                    obtain rfl := Option.some.inj H
                                    have p149 : 0 ≤ (x19_2 : Int) := of_decide_eq_true (by first | (with_reducible assumption) | assumption)
                                    have q149 : x19_2 < ((rd_L2 l1 x13_1).length : Int) := of_decide_eq_true (by first | (with_reducible assumption) | assumption)
                                    obtain ⟨ad149, e149, hx149_0⟩ := Kd.at_int HR148_0.out x19_2 p149 q149
                                    cases e149
                                    replace hx149_0 := (HB.out.cell (World.block_lt_of_cell? w _ hx149_0)).trans hx149_0
                                    replace p149 := eq_true p149
                                    replace q149 := eq_true q149
                                    have hcz24_0 : wr.cell? ⟨gb146, 0, none⟩ = some (.int .i64 a0_0) := (blk_cell BK146.out 0).trans rfl
                                    have hcz24_1 : wr.cell? ⟨gb146, 1, none⟩ = some (.slice A0_1 l0_1.length c0_1) := (blk_cell BK146.out 1).trans rfl
                                    have hfz24_0 := blk_frozen BK146.out 0
                                    have hfz24_1 := blk_frozen BK146.out 1
                                    have p150 : 0 ≤ ((rd (rd_L2 l1 x13_1) x19_2) : Int) := of_decide_eq_true (by first | (with_reducible assumption) | assumption)
                                    have q150 : (rd (rd_L2 l1 x13_1) x19_2) < (l0_1.length : Int) := of_decide_eq_true (by first | (with_reducible assumption) | assumption)
                                    obtain ⟨ad150, e150, hx150_0⟩ := Kd.at_int HR0_1.out (rd (rd_L2 l1 x13_1) x19_2) p150 q150
                                    cases e150
                                    replace hx150_0 := (HB.out.cell (World.block_lt_of_cell? w _ hx150_0)).trans hx150_0
                                    replace p150 := eq_true p150
                                    replace q150 := eq_true q150
                                    have p151 : 0 ≤ ((rd (rd_L2 l1 x13_1) x19_2) : Int) := of_decide_eq_true (by first | (with_reducible assumption) | assumption)
                                    have q151 : (rd (rd_L2 l1 x13_1) x19_2) < (l0_1.length : Int) := of_decide_eq_true (by first | (with_reducible assumption) | assumption)
                                    obtain ⟨ad151, e151, hx151_0⟩ := Kd.at_int HR0_1.out (rd (rd_L2 l1 x13_1) x19_2) p151 q151
                                    obtain rfl : ad150 = ad151 := (by injection e151)
                                    replace hx151_0 := (HB.out.cell (World.block_lt_of_cell? w _ hx151_0)).trans hx151_0
                                    replace p151 := eq_true p151
                                    replace q151 := eq_true q151
                                    go_wp2
                                    repeat (go_quiet (fail); try go_wp2)
                                    go_ret
                                    exact ⟨by first | rfl | (simp [errW_none, errW_some] <;> rfl) | (simp only [← hji14]; first | rfl | (simp [errW_none, errW_some] <;> rfl)) | (simp [*, errW_none, errW_some] <;> rfl), by repeat (first | (with_reducible first | exact HB.out | apply below_alloc | apply pw_below_drewN | apply below_drew1 | refine below_set ?_ GE146.out) | exact HB.out)⟩
                              · rw [if_neg c17] at H
                                exact absurd H (by simp)
                          · rw [if_neg c13] at H
                            exact absurd H (by simp)
                    · rw [if_neg c9] at H
                      exact absurd H (by simp)
                  · rw [if_neg c8] at H
                    exact absurd H (by simp)
                · rw [if_neg c7] at H
                  have c7b0 : decide (x19_2 < ((rd_L2 l1 x13_1).length : Int)) = false := decide_eq_false c7
                  clear c7
                  by_cases c25 : 0 ≤ a0_0
                  · rw [if_pos c25] at H
                    have c25b0 := eq_true c25
                    have c25b1 : decide (0 ≤ a0_0) = true := decide_eq_true c25
                    clear c25
                    obtain ⟨ji26, hji26⟩ : ∃ j_ : Int, (shl .u64 1 a0_0) = j_ := ⟨_, rfl⟩
                    replace H : (if x8_2 = (IntKind.u64.wrap ((ji26) - 1)) then (design_Classes.l0 k2 x5_2 l1 (l1.length : Int) (wrap64 (x13_1 + 1)) a0_0 l0_1) else (some 90)) = some r := by first | (rw [hji26] at H; exact H) | (simp only [hji26] at H ⊢; exact H)
                    have hji26_ : (IntKind.u64.wrap (1 * 2 ^ min a0_0.toNat 64)) = ji26 := hji26
                    have hji26z : a0_0 ≤ 64 → (IntKind.u64.wrap (1 * 2 ^ a0_0.toNat)) = ji26 := shl_small hji26
                    have hji26u : (IntKind.u64.wrap (2 ^ min a0_0.toNat 64)) = ji26 := by have h_ := hji26_; rw [Int.one_mul] at h_; exact h_
                    have hji26v : a0_0 ≤ 64 → (IntKind.u64.wrap (2 ^ a0_0.toNat)) = ji26 := fun hle_ => by have h_ := hji26z hle_; rw [Int.one_mul] at h_; exact h_
                    by_cases c27 : x8_2 = (IntKind.u64.wrap ((ji26) - 1))
                    · rw [if_pos c27] at H
                      have c27b0 : (x8_2 == (IntKind.u64.wrap ((ji26) - 1))) = true := beq_iff_eq.mpr c27
                      have c27b1 : (x8_2 != (IntKind.u64.wrap ((ji26) - 1))) = false := bne_eq_false_iff_eq.mpr c27
                      clear c27
                      have H' := Aside0.mk H
                      clear H
                      have hcz28_0 : wr.cell? ⟨gb146, 0, none⟩ = some (.int .i64 a0_0) := (blk_cell BK146.out 0).trans rfl
                      have hcz28_1 : wr.cell? ⟨gb146, 1, none⟩ = some (.slice A0_1 l0_1.length c0_1) := (blk_cell BK146.out 1).trans rfl
                      have hfz28_0 := blk_frozen BK146.out 0
                      have hfz28_1 := blk_frozen BK146.out 1
                      go_wp2
                      repeat (go_quiet (fail); try go_wp2)
                      go_roundg k2
                      case measure => have := HK1.out; have := HK2.out; omega
                      case rel => exact ⟨(x5_2), (wrap64 (x13_1 + 1)), (by first | rfl | (simp; done) | (simp [*]; done)), (by first | rfl | (simp; done) | (simp [*]; done)), H', ⟨by have := HK1.out; have := HK2.out; omega⟩, ⟨by (with_reducible repeat (first | refine blk_drewN ?_ _ | refine blk_drew ?_ | refine blk_alloc ?_ _)); exact BK146.out⟩, ⟨by repeat (first | (with_reducible first | exact HB.out | apply below_alloc | apply pw_below_drewN | apply below_drew1 | refine below_set ?_ GE146.out) | exact HB.out)⟩⟩
                    · rw [if_neg c27] at H
                      have c27b0 : (x8_2 == (IntKind.u64.wrap ((ji26) - 1))) = false := beq_eq_false_iff_ne.mpr c27
                      have c27b1 : (x8_2 != (IntKind.u64.wrap ((ji26) - 1))) = true := bne_iff_ne.mpr c27
                      obtain rfl := Option.some.inj H
                      have hcz29_0 : wr.cell? ⟨gb146, 0, none⟩ = some (.int .i64 a0_0) := (blk_cell BK146.out 0).trans rfl
                      have hcz29_1 : wr.cell? ⟨gb146, 1, none⟩ = some (.slice A0_1 l0_1.length c0_1) := (blk_cell BK146.out 1).trans rfl
                      have hfz29_0 := blk_frozen BK146.out 0
                      have hfz29_1 := blk_frozen BK146.out 1
                      go_wp2
                      repeat (go_quiet (fail); try go_wp2)
                      go_ret
                      exact ⟨by first | rfl | (simp [errW_none, errW_some] <;> rfl) | (simp only [← hji26]; first | rfl | (simp [errW_none, errW_some] <;> rfl)) | (simp [*, errW_none, errW_some] <;> rfl), by repeat (first | (with_reducible first | exact HB.out | apply below_alloc | apply pw_below_drewN | apply below_drew1 | refine below_set ?_ GE146.out) | exact HB.out)⟩
                  · rw [if_neg c25] at H
                    exact absurd H (by simp)
          · rw [if_neg c6] at H
            exact absurd H (by simp)
        · rw [if_neg c5] at H
          exact absurd H (by simp)
      · rw [if_neg c4] at H
        have c4b0 : decide (x13_1 < (l1.length : Int)) = false := decide_eq_false c4
        clear c4
        by_cases c30 : (l0_1.length : Int) = 0
        · rw [if_pos c30] at H
          have c30b0 : ((l0_1.length : Int) == 0) = true := beq_iff_eq.mpr c30
          have c30b1 : ((l0_1.length : Int) != 0) = false := bne_eq_false_iff_eq.mpr c30
          clear c30
          obtain rfl := Option.some.inj H
          have hcz31_0 : wr.cell? ⟨gb146, 0, none⟩ = some (.int .i64 a0_0) := (blk_cell BK146.out 0).trans rfl
          have hcz31_1 : wr.cell? ⟨gb146, 1, none⟩ = some (.slice A0_1 l0_1.length c0_1) := (blk_cell BK146.out 1).trans rfl
          have hfz31_0 := blk_frozen BK146.out 0
          have hfz31_1 := blk_frozen BK146.out 1
          go_wp2
          repeat (go_quiet (fail); try go_wp2)
          go_ret
          exact ⟨by first | rfl | (simp [errW_none, errW_some] <;> rfl) | (simp [*, errW_none, errW_some] <;> rfl), by repeat (first | (with_reducible first | exact HB.out | apply below_alloc | apply pw_below_drewN | apply below_drew1 | refine below_set ?_ GE146.out) | exact HB.out)⟩
        · rw [if_neg c30] at H
          have c30b0 : ((l0_1.length : Int) == 0) = false := beq_eq_false_iff_ne.mpr c30
          have c30b1 : ((l0_1.length : Int) != 0) = true := bne_iff_ne.mpr c30
          have c30b2 : ¬ (l0_1 = []) := fun h_ => c30 (by rw [h_]; rfl)
          replace H := Option.bind_eq_some_iff.mp H
          obtain ⟨t147, A320, H⟩ := H
          replace H : (if t147 = (l0_1.length : Int) then (some 0) else (some 90)) = some r := H
          have A32 := Aside0.mk A320
          clear A320
          by_cases c33 : t147 = (l0_1.length : Int)
          · rw [if_pos c33] at H
            have c33b0 : (t147 == (l0_1.length : Int)) = true := beq_iff_eq.mpr c33
            have c33b1 : (t147 != (l0_1.length : Int)) = false := bne_eq_false_iff_eq.mpr c33
            clear c33
            obtain rfl := Option.some.inj H
            have hcz34_0 : wr.cell? ⟨gb146, 0, none⟩ = some (.int .i64 a0_0) := (blk_cell BK146.out 0).trans rfl
            have hcz34_1 : wr.cell? ⟨gb146, 1, none⟩ = some (.slice A0_1 l0_1.length c0_1) := (blk_cell BK146.out 1).trans rfl
            have hfz34_0 := blk_frozen BK146.out 0
            have hfz34_1 := blk_frozen BK146.out 1
            go_wp2_with (first | (go_at_call 34; (with_reducible refine (bits_OnesCount64.calls x5_1 t147 _ A32.out).mono ?_); rintro e w' ⟨rfl, ⟨nd, rfl⟩⟩; (try first | exact ⟨rfl, _, World.drewN_drewN _ _ _⟩ | exact ⟨rfl, _, Eq.trans (World.drewN_drewN _ _ _) (congrArg (World.drewN _) (Nat.add_assoc _ _ _))⟩)))
            repeat (go_quiet (first | (go_at_call 34; (with_reducible refine (bits_OnesCount64.calls x5_1 t147 _ A32.out).mono ?_); rintro e w' ⟨rfl, ⟨nd, rfl⟩⟩; (try first | exact ⟨rfl, _, World.drewN_drewN _ _ _⟩ | exact ⟨rfl, _, Eq.trans (World.drewN_drewN _ _ _) (congrArg (World.drewN _) (Nat.add_assoc _ _ _))⟩))); try go_wp2_with (first | (go_at_call 34; (with_reducible refine (bits_OnesCount64.calls x5_1 t147 _ A32.out).mono ?_); rintro e w' ⟨rfl, ⟨nd, rfl⟩⟩; (try first | exact ⟨rfl, _, World.drewN_drewN _ _ _⟩ | exact ⟨rfl, _, Eq.trans (World.drewN_drewN _ _ _) (congrArg (World.drewN _) (Nat.add_assoc _ _ _))⟩))))
            go_ret
            exact ⟨by first | rfl | (simp [errW_none, errW_some] <;> rfl) | (simp [*, errW_none, errW_some] <;> rfl), by repeat (first | (with_reducible first | exact HB.out | apply below_alloc | apply pw_below_drewN | apply below_drew1 | refine below_set ?_ GE146.out) | exact HB.out)⟩
          · rw [if_neg c33] at H
            have c33b0 : (t147 == (l0_1.length : Int)) = false := beq_eq_false_iff_ne.mpr c33
            have c33b1 : (t147 != (l0_1.length : Int)) = true := bne_iff_ne.mpr c33
            obtain rfl := Option.some.inj H
            have hcz35_0 : wr.cell? ⟨gb146, 0, none⟩ = some (.int .i64 a0_0) := (blk_cell BK146.out 0).trans rfl
            have hcz35_1 : wr.cell? ⟨gb146, 1, none⟩ = some (.slice A0_1 l0_1.length c0_1) := (blk_cell BK146.out 1).trans rfl
            have hfz35_0 := blk_frozen BK146.out 0
            have hfz35_1 := blk_frozen BK146.out 1
            go_wp2_with (first | (go_at_call 34; (with_reducible refine (bits_OnesCount64.calls x5_1 t147 _ A32.out).mono ?_); rintro e w' ⟨rfl, ⟨nd, rfl⟩⟩; (try first | exact ⟨rfl, _, World.drewN_drewN _ _ _⟩ | exact ⟨rfl, _, Eq.trans (World.drewN_drewN _ _ _) (congrArg (World.drewN _) (Nat.add_assoc _ _ _))⟩)))
            repeat (go_quiet (first | (go_at_call 34; (with_reducible refine (bits_OnesCount64.calls x5_1 t147 _ A32.out).mono ?_); rintro e w' ⟨rfl, ⟨nd, rfl⟩⟩; (try first | exact ⟨rfl, _, World.drewN_drewN _ _ _⟩ | exact ⟨rfl, _, Eq.trans (World.drewN_drewN _ _ _) (congrArg (World.drewN _) (Nat.add_assoc _ _ _))⟩))); try go_wp2_with (first | (go_at_call 34; (with_reducible refine (bits_OnesCount64.calls x5_1 t147 _ A32.out).mono ?_); rintro e w' ⟨rfl, ⟨nd, rfl⟩⟩; (try first | exact ⟨rfl, _, World.drewN_drewN _ _ _⟩ | exact ⟨rfl, _, Eq.trans (World.drewN_drewN _ _ _) (congrArg (World.drewN _) (Nat.add_assoc _ _ _))⟩))))
            go_ret
            exact ⟨by first | rfl | (simp [errW_none, errW_some] <;> rfl) | (simp [*, errW_none, errW_some] <;> rfl), by repeat (first | (with_reducible first | exact HB.out | apply below_alloc | apply pw_below_drewN | apply below_drew1 | refine below_set ?_ GE146.out) | exact HB.out)⟩

end Go.Proofs.YtoiahjncpngkeaaDoor.Pd
