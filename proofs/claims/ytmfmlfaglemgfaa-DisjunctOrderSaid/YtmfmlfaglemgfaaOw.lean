/- The law DisjunctOrder, walked: it answers true for whatever bytes; no condition. -/
import Derived.Test.YtmfmlfaglemgfaaEx
import Derived.Test.YtmfmlfaglemgfaaOr
import Derived.Test.YtmfmlfaglemgfaaRx
namespace Go.Proofs.Ytmfmlfaglemgfaa
set_option linter.unusedSimpArgs false
set_option linter.unusedVariables false
open Go.RowKit Go.Lib Go.Shelf Go.Proofs.YtmfmlfaglemgfaaW.PrintWords Go.Proofs.YtmfmlfaglemgfaaW.PrintMore Go.Proofs.Ytmfmlfaglemgfaa.Pd
attribute [local go_sem] max2_int min2_int max_two min_two
set_option maxHeartbeats 4000000 in
set_option maxRecDepth 100000 in
theorem order_law (A0 A3 : Option Addr) (c0 c3 : Nat) (l0 l3 : List Int) (a1 a2 : Int) (t0 t1 : Nat) (w : World) (hr0 : Kd.C (Kd.int .u8) w A0 l0.length l0) (hc0 : l0.length ≤ c0) (hr3 : Kd.C (Kd.int .u8) w A3 l3.length l3) (hc3 : l3.length ≤ c3)
    (hl0 : l0.length < 2 ^ 63) (hb0 : okL 256 l0 = true) (hb3 : okL 256 l3 = true) (h10 : 0 ≤ a1) (h11 : a1 < 256) (h20 : 0 ≤ a2) (h21 : a2 < 256) (ht0 : t0 < 256) (ht1 : t1 < 256) :
    Calls Try.prog 4 #[.agg #[.slice A0 l0.length c0, .int .u8 a1, .int .u8 a2, .slice A3 l3.length c3], .agg #[.int .u8 t0, .int .u8 t1]] w fun e w' => e = .returned (.bool true) ∧ Below w.heap.size w w' := by
  have hu := Try.underlying29
  have hua := Try.underlying51
  obtain ⟨V, bs, D, E, hmade, hM, hE⟩ := made12' hl0 hb0 hb3 h10 h11 h20 h21
  obtain ⟨b, b', hbest, hbest', hbb⟩ := best_more hM hE
  have HM := hid hM
  have MD := hid (fun W (hW : Below w.heap.size w W) => plexusref12_Made.calls 5 A0 c0 l0 a1 a2 A3 c3 l3 V (il bs) D E W (Kd.C_below hr0 hW) hc0 (Kd.C_below hr3 hW) hc3 hmade)
  clear hr0 hr3 hmade
  go_enter Try.func4, Try.ntmps4
  go_upto_region 1 with (fail)
  obtain ⟨w1, hw1⟩ : ∃ w1, (w.alloc (.cells #[.slice A0 l0.length c0, .int .u8 a1, .int .u8 a2, .slice A3 l3.length c3] 26)).alloc (.cells #[.int .u8 t0, .int .u8 t1] 51) = w1 := ⟨_, rfl⟩
  have hb1 : Below w.heap.size w w1 := by rw [← hw1]; exact below_alloc (below_alloc (Below.refl _ _) _) _
  have hp1 : Blk w1 w.heap.size 26 #[.slice A0 l0.length c0, .int .u8 a1, .int .u8 a2, .slice A3 l3.length c3] := by rw [← hw1]; exact (Blk.new _ _ _).alloc _
  have ht1' : Blk w1 (w.heap.size + 1) 51 #[.int .u8 t0, .int .u8 t1] := by
    rw [← hw1]
    have := Blk.new (w.alloc (.cells #[.slice A0 l0.length c0, .int .u8 a1, .int .u8 a2, .slice A3 l3.length c3] 26)) 51 #[.int .u8 t0, .int .u8 t1]
    simpa using this
  rw [hw1]
  clear hw1
  go_upto_region 4 with (go_at_call 8; refine (examples_any _).mono ?_; rintro e w2 ⟨rfl, hb2⟩)
  have hp2 := hp1.below hb2 hp1.lt
  have ht2 := ht1'.below hb2 ht1'.lt
  have bw2 := below_then hb1 hb1.size hb2
  have r0 : w2.cell? ⟨w.heap.size, 0, none⟩ = some (.slice A0 l0.length c0) := (hp2.cell 0).trans rfl
  have r1 : w2.cell? ⟨w.heap.size, 1, none⟩ = some (.int .u8 a1) := (hp2.cell 1).trans rfl
  have r2 : w2.cell? ⟨w.heap.size, 2, none⟩ = some (.int .u8 a2) := (hp2.cell 2).trans rfl
  have r3 : w2.cell? ⟨w.heap.size, 3, none⟩ = some (.slice A3 l3.length c3) := (hp2.cell 3).trans rfl
  have MD2 := hid (MD.out w2 bw2)
  clear hp1 hp2 hb1 hb2 MD ht1'
  go_upto_region 5 with (go_at_call 9; refine MD2.out.mono ?_; rintro e w3 ⟨v3, rfl, hR3, hb3'⟩; obtain ⟨A, c, hv, hc, hC⟩ := Kd.R_reads hR3; subst hv)
  have hn : (il bs).length = bs.length := il_length bs
  rw [hn] at hC hc ⊢
  obtain ⟨w4, hw4⟩ : ∃ w4, w3.alloc (.cells #[.int .i64 V, .slice A bs.length c, .int .i64 D, .int .i64 E] 29) = w4 := ⟨_, rfl⟩
  have hp4 : Blk w4 w3.heap.size 29 #[.int .i64 V, .slice A bs.length c, .int .i64 D, .int .i64 E] := by rw [← hw4]; exact Blk.new _ _ _
  have bw4 : Below w.heap.size w w4 := by rw [← hw4]; exact below_alloc (below_then bw2 bw2.size hb3') _
  have b24 : Below w2.heap.size w2 w4 := by rw [← hw4]; exact below_alloc hb3' _
  have hC4 : Kd.C (Kd.int .u64) w4 A bs.length (il bs) := by rw [← hw4]; exact Kd.C_alloc hC _
  have ht4 := ht2.below b24 ht2.lt
  have hz4 : w4.heap.size = w3.heap.size + 1 := by rw [← hw4]; simp
  rw [hw4]
  clear hw4 hR3 hC hb3' bw2 r0 r1 r2 r3 MD2 b24 ht2
  have HP := hid (fun W (hW : Below w4.heap.size w4 W) => show W.cell? ⟨w3.heap.size, 0, none⟩ = some (.int .i64 V) ∧ W.cell? ⟨w3.heap.size, 1, none⟩ = some (.slice A bs.length c) ∧ W.cell? ⟨w3.heap.size, 2, none⟩ = some (.int .i64 D) ∧ W.cell? ⟨w3.heap.size, 3, none⟩ = some (.int .i64 E) ∧ W.cell? ⟨w.heap.size + 1, 0, none⟩ = some (.int .u8 t0) ∧ W.cell? ⟨w.heap.size + 1, 1, none⟩ = some (.int .u8 t1) from
    ⟨((hp4.below hW hp4.lt).cell 0).trans rfl, ((hp4.below hW hp4.lt).cell 1).trans rfl, ((hp4.below hW hp4.lt).cell 2).trans rfl, ((hp4.below hW hp4.lt).cell 3).trans rfl, ((ht4.below hW ht4.lt).cell 0).trans rfl, ((ht4.below hW ht4.lt).cell 1).trans rfl⟩)
  obtain ⟨p0, p1, p2, p3, q0, q1⟩ := HP.out w4 (Below.refl _ _)
  go_upto_region 6 with (fail)
  obtain ⟨w5, hw5⟩ : ∃ w5, w4.alloc (.cells #[.int .i64 V, .slice A bs.length c, .int .i64 D, .int .i64 E] 29) = w5 := ⟨_, rfl⟩
  have hq5 : Blk w5 (w3.heap.size + 1) 29 #[.int .i64 V, .slice A bs.length c, .int .i64 D, .int .i64 E] := by rw [← hw5, ← hz4]; exact Blk.new _ _ _
  have b45 : Below w4.heap.size w4 w5 := by rw [← hw5]; exact below_alloc (Below.refl _ _) _
  have hz5 : w5.heap.size = w3.heap.size + 2 := by rw [← hw5]; simp [hz4]
  rw [hw5]
  clear hw5 p0 p1 p2 p3 q0 q1
  obtain ⟨p0, p1, p2, p3, q0, q1⟩ := HP.out w5 b45
  obtain ⟨tm, htm⟩ : ∃ tm, t0 &&& (2 ^ V - 1) = tm := ⟨_, rfl⟩
  have h7 := small7 hM.v7
  have hpos : 0 < 2 ^ V := Nat.two_pow_pos V
  have htmV : tm < 2 ^ V := by rw [← htm, Nat.and_two_pow_sub_one_eq_mod]; exact Nat.mod_lt _ hpos
  have e1 : bits .and .u64 (t0 : Int) (IntKind.u64.wrap (IntKind.u64.wrap (2 ^ min (IntKind.u64.wrap (V : Int)).toNat 64) - 1)) = (tm : Int) := by
    rw [shl_form (by have := hM.v7; omega), show ((2 ^ V : Nat) : Int) - 1 = ((2 ^ V - 1 : Nat) : Int) by omega, wrapU_nat (by omega), uand (by omega) (by omega), htm]
  have hwf : plexusref06_With.f (il bs) (tm : Int) = some (il (withL bs tm)) := by
    unfold plexusref06_With.f
    rw [if_pos ⟨by rw [hn]; have := hM.n; omega, hM.small, by omega, by omega⟩, nl_il, Int.toNat_natCast]
  have W6 := hid (plexusref06_With.calls A c (il bs) tm (il (withL bs tm)) w5 (by rw [hn]; exact Kd.C_below hC4 b45) (by rw [hn]; exact hc) hwf)
  rw [hn] at W6
  go_upto_region 7 with (first
    | (go_at_call 28; refine W6.out.mono ?_; rintro e w6 ⟨vq, rfl, hR6, hb6⟩
       have b46 := below_then b45 b45.size hb6
       have hq6 := hq5.below hb6 hq5.lt
       have qq1 : w6.cell? ⟨w3.heap.size + 1, 1, none⟩ = some (.slice A bs.length c) := (hq6.cell 1).trans rfl
       have qf1 := hq6.frozen 1
       obtain ⟨Aq, cq, hvq⟩ := Kd.R_slice hR6
       subst hvq)
    | go_in)
  have hnq : (il (withL bs tm)).length = bs.length + 1 := by rw [il_length, withL_length]
  have hRn := Kd.R_mono (Kd.R_bound hR6) (ok' := fun k => w3.heap.size + 2 ≤ k) (fun k hk => by have := hk.2.1; omega)
  have hR7 := Kd.R_far (p := ⟨w3.heap.size + 1, 1, none⟩) hRn (fun k hk e => by simp at e; omega) (.slice Aq (il (withL bs tm)).length cq)
  rw [hnq] at hR7 ⊢
  obtain ⟨w7, hw7⟩ : ∃ w7, w6.setCell ⟨w3.heap.size + 1, 1, none⟩ (.slice Aq (bs.length + 1) cq) = w7 := ⟨_, rfl⟩
  have b47 : Below w4.heap.size w4 w7 := by rw [← hw7]; exact b46.setCell (by show w4.heap.size ≤ w3.heap.size + 1; omega) _
  have hq7 : Blk w7 (w3.heap.size + 1) 29 #[.int .i64 V, .slice Aq (bs.length + 1) cq, .int .i64 D, .int .i64 E] := by rw [← hw7]; exact hq6.set_ 1 _
  rw [hw7] at hR7 ⊢
  obtain ⟨Aq', cq', hvq', hcq, hCq⟩ := Kd.R_reads hR7
  rw [hnq] at hvq'
  cases hvq'
  clear hw7 hR7 hRn hR6 qq1 qf1 hq6 hq5 hb6 b46 b45 W6 p0 p1 p2 p3 q0 q1 e1
  obtain ⟨p0, p1, p2, p3, q0, q1⟩ := HP.out w7 b47
  obtain ⟨D', hD'⟩ : ∃ D' : Nat, min (D + 1) (min 3 V) = D' := ⟨_, rfl⟩
  obtain ⟨m3, hm3⟩ : ∃ m3 : Nat, min 3 V = m3 := ⟨_, rfl⟩
  have m1 : (if (V : Int) < 3 then (V : Int) else 3) = (m3 : Int) := by rw [← hm3]; split <;> omega
  have m2 : (if (m3 : Int) < (D : Int) + 1 then (m3 : Int) else (D : Int) + 1) = (D' : Int) := by rw [← hD', ← hm3]; split <;> omega
  have hd3 := hM.d3
  have hv1 := hM.v1
  have hv7 := hM.v7
  go_upto_region 8 with (go_at_call 29; refine (with12_any V D E D' A bs.length c w7).mono ?_; rintro e w8 ⟨rfl, hb8⟩; have b48 := below_then b47 b47.size hb8; clear p0 p1 p2 p3 q0 q1; obtain ⟨p0, p1, p2, p3, q0, q1⟩ := HP.out w8 b48)
  obtain ⟨w9, hw9⟩ : ∃ w9, w8.alloc (.cells #[.int .i64 V, .slice A bs.length c, .int .i64 D', .int .i64 E] 29) = w9 := ⟨_, rfl⟩
  have ha9 : Blk w9 w8.heap.size 29 #[.int .i64 V, .slice A bs.length c, .int .i64 D', .int .i64 E] := by rw [← hw9]; exact Blk.new _ _ _
  have b89 : Below w8.heap.size w8 w9 := by rw [← hw9]; exact below_alloc (Below.refl _ _) _
  have hz9 : w9.heap.size = w8.heap.size + 1 := by rw [← hw9]; simp
  rw [hw9]
  have b49 := below_then b48 b48.size b89
  clear hw9 p0 p1 p2 p3 q0 q1
  obtain ⟨p0, p1, p2, p3, q0, q1⟩ := HP.out w9 b49
  go_upto_region 9 with (fail)
  obtain ⟨wa, hwa⟩ : ∃ wa, w9.alloc (.cells #[.int .i64 V, .slice A bs.length c, .int .i64 D, .int .i64 E] 29) = wa := ⟨_, rfl⟩
  have hma : Blk wa (w8.heap.size + 1) 29 #[.int .i64 V, .slice A bs.length c, .int .i64 D, .int .i64 E] := by rw [← hwa, ← hz9]; exact Blk.new _ _ _
  have b9a : Below w9.heap.size w9 wa := by rw [← hwa]; exact below_alloc (Below.refl _ _) _
  rw [hwa]
  have b4a := below_then b49 b49.size b9a
  clear hwa p0 p1 p2 p3 q0 q1
  obtain ⟨p0, p1, p2, p3, q0, q1⟩ := HP.out wa b4a
  have ma3 : wa.cell? ⟨w8.heap.size + 1, 3, none⟩ = some (.int .i64 E) := (hma.cell 3).trans rfl
  have maf := hma.frozen 3
  go_upto_region 10 with (fail)
  have hma' := hma.set_ 3 (.int .i64 ((E : Int) + 1))
  obtain ⟨wb, hwb⟩ : ∃ wb, wa.setCell ⟨w8.heap.size + 1, 3, none⟩ (.int .i64 ((E : Int) + 1)) = wb := ⟨_, rfl⟩
  have hmb : Blk wb (w8.heap.size + 1) 29 #[.int .i64 V, .slice A bs.length c, .int .i64 D, .int .i64 ((E : Int) + 1)] := by rw [← hwb]; exact hma'
  have b4b : Below w4.heap.size w4 wb := by rw [← hwb]; exact b4a.setCell (by have := b48.size; show w4.heap.size ≤ w8.heap.size + 1; omega) _
  have b8b : Below w8.heap.size w8 wb := by rw [← hwb]; exact (below_then b89 b89.size b9a).setCell (by show w8.heap.size ≤ w8.heap.size + 1; omega) _
  have hab : Blk wb w8.heap.size 29 #[.int .i64 V, .slice A bs.length c, .int .i64 D', .int .i64 E] := by rw [← hwb]; exact (ha9.below b9a ha9.lt).far (by show w8.heap.size ≠ w8.heap.size + 1; omega) _
  have hqb : Blk wb (w3.heap.size + 1) 29 #[.int .i64 V, .slice Aq (bs.length + 1) cq, .int .i64 D, .int .i64 E] := (hq7.below hb8 hq7.lt).below b8b (hq7.below hb8 hq7.lt).lt
  have hCb : Kd.C (Kd.int .u64) wb Aq (il (withL bs tm)).length (il (withL bs tm)) := Kd.C_below (Kd.C_below hCq hb8) b8b
  have hCp : Kd.C (Kd.int .u64) wb A (il bs).length (il bs) := by rw [hn]; exact Kd.C_below hC4 b4b
  rw [hwb]
  have bwb : Below w.heap.size w wb := below_then bw4 bw4.size b4b
  have hcp : (il bs).length ≤ c := by rw [hn]; exact hc
  clear hwb hma hma' ma3 maf p0 p1 p2 p3 q0 q1
  have HW := hid (fun W (hW : Below wb.heap.size wb W) => show W.cell? ⟨w3.heap.size, 0, none⟩ = some (.int .i64 V) ∧ W.cell? ⟨w3.heap.size, 1, none⟩ = some (.slice A bs.length c) ∧ W.cell? ⟨w3.heap.size, 2, none⟩ = some (.int .i64 D) ∧ W.cell? ⟨w3.heap.size, 3, none⟩ = some (.int .i64 E) ∧ W.cell? ⟨w.heap.size + 1, 0, none⟩ = some (.int .u8 t0) ∧ W.cell? ⟨w.heap.size + 1, 1, none⟩ = some (.int .u8 t1) from HP.out W (below_then b4b b4b.size hW))
  have HW2 := hid (fun W (hW : Below wb.heap.size wb W) => show W.cell? ⟨w3.heap.size + 1, 0, none⟩ = some (.int .i64 V) ∧ W.cell? ⟨w3.heap.size + 1, 1, none⟩ = some (.slice Aq (bs.length + 1) cq) ∧ W.cell? ⟨w3.heap.size + 1, 2, none⟩ = some (.int .i64 D) ∧ W.cell? ⟨w3.heap.size + 1, 3, none⟩ = some (.int .i64 E) from ⟨((hqb.below hW hqb.lt).cell 0).trans rfl, ((hqb.below hW hqb.lt).cell 1).trans rfl, ((hqb.below hW hqb.lt).cell 2).trans rfl, ((hqb.below hW hqb.lt).cell 3).trans rfl⟩)
  have HW3 := hid (fun W (hW : Below wb.heap.size wb W) => show W.cell? ⟨w8.heap.size, 0, none⟩ = some (.int .i64 V) ∧ W.cell? ⟨w8.heap.size, 1, none⟩ = some (.slice A bs.length c) ∧ W.cell? ⟨w8.heap.size, 2, none⟩ = some (.int .i64 D') ∧ W.cell? ⟨w8.heap.size, 3, none⟩ = some (.int .i64 E) from ⟨((hab.below hW hab.lt).cell 0).trans rfl, ((hab.below hW hab.lt).cell 1).trans rfl, ((hab.below hW hab.lt).cell 2).trans rfl, ((hab.below hW hab.lt).cell 3).trans rfl⟩)
  have HW4 := hid (fun W (hW : Below wb.heap.size wb W) => show W.cell? ⟨w8.heap.size + 1, 0, none⟩ = some (.int .i64 V) ∧ W.cell? ⟨w8.heap.size + 1, 1, none⟩ = some (.slice A bs.length c) ∧ W.cell? ⟨w8.heap.size + 1, 2, none⟩ = some (.int .i64 D) ∧ W.cell? ⟨w8.heap.size + 1, 3, none⟩ = some (.int .i64 ((E : Int) + 1)) from ⟨((hmb.below hW hmb.lt).cell 0).trans rfl, ((hmb.below hW hmb.lt).cell 1).trans rfl, ((hmb.below hW hmb.lt).cell 2).trans rfl, ((hmb.below hW hmb.lt).cell 3).trans rfl⟩)
  obtain ⟨sp, hsp⟩ : ∃ sp, slackN V D bs = sp := ⟨_, rfl⟩
  obtain ⟨sq, hsq⟩ : ∃ sq, slackN V D (withL bs tm) = sq := ⟨_, rfl⟩
  obtain ⟨sa, hsa⟩ : ∃ sa, slackN V D' bs = sa := ⟨_, rfl⟩
  have g1 : decide (sp ≤ sq) = true := by rw [← hsp, ← hsq]; exact decide_eq_true (slackN_test (by have := hM.n; omega))
  have g2 : decide (sa ≤ sp) = true := by rw [← hsp, ← hsa]; exact decide_eq_true (slackN_mono V bs (by have := hM.dv; omega))
  obtain ⟨bz, hbz⟩ : ∃ bz, (b : Int) - 1 = bz := ⟨_, rfl⟩
  obtain ⟨bz', hbz'⟩ : ∃ bz', (b' : Int) - 1 = bz' := ⟨_, rfl⟩
  have g3 : decide (bz' ≤ bz) = true := by simp; omega
  obtain ⟨tt, htt⟩ : ∃ tt, t0 ||| t1 = tt := ⟨_, rfl⟩
  have httl : tt < 2 ^ 64 := by rw [← htt]; exact Nat.or_lt_two_pow (by omega) (by omega)
  obtain ⟨pa, hpa⟩ : ∃ pa, posN bs t0 bs.length = pa := ⟨_, rfl⟩
  obtain ⟨pb, hpb⟩ : ∃ pb, posN bs t1 bs.length = pb := ⟨_, rfl⟩
  obtain ⟨pc, hpc⟩ : ∃ pc, posN bs tt bs.length = pc := ⟨_, rfl⟩
  have hp15 : ∀ s, posN bs s bs.length < 2 ^ 15 := fun s => Nat.lt_of_lt_of_le (posN_lt bs s bs.length) (Nat.pow_le_pow_right (by decide) (by have := hM.n; omega))
  have o1 : bits .or .u64 (t0 : Int) (t1 : Int) = (tt : Int) := by rw [uor (by omega) (by omega), htt]
  have o2 : bits .or .u64 (pa : Int) (pb : Int) = (pc : Int) := by
    rw [uor (by have := hp15 t0; omega) (by have := hp15 t1; omega), ← hpa, ← hpb, ← posN_or, htt, hpc]
  have hslq : disjunct_Slack.f V (il (withL bs tm)) D E = some sq := by
    unfold disjunct_Slack.f
    rw [if_pos ⟨by omega, by omega, by omega, by omega, by rw [hnq]; have := hM.n; omega, okL_il fun x hx => by
      rcases withL_mem.1 hx with rfl | hx
      · omega
      · have := hM.bl x hx; omega⟩, nl_il, Int.toNat_natCast, Int.toNat_natCast, hsq]
  have hpos_ : ∀ s : Nat, s < 2 ^ 64 → disjunct_Positive.f V (il bs) D E s = some ((posN bs s bs.length : Nat) : Int) := fun s hs => by
    unfold disjunct_Positive.f
    rw [if_pos ⟨by rw [il_length]; have := hM.n; omega, hM.small, by omega, by omega⟩, nl_il, Int.toNat_natCast]
  have SQ := hid (fun W (hW : Below wb.heap.size wb W) => disjunct_Slack.calls V Aq cq (il (withL bs tm)) D E sq W (Kd.C_below hCb hW) (by rw [hnq]; rw [hnq] at hcq; exact hcq) hslq)
  have SP := hid (fun W (hW : Below wb.heap.size wb W) => disjunct_Slack.calls V A c (il bs) D E sp W (Kd.C_below hCp hW) hcp (by rw [slack_f hM (by omega), hsp]))
  have SA := hid (fun W (hW : Below wb.heap.size wb W) => disjunct_Slack.calls V A c (il bs) D' E sa W (Kd.C_below hCp hW) hcp (by rw [slack_f hM (by omega), hsa]))
  have BP := hid (fun W (hW : Below wb.heap.size wb W) => disjunct_Best.calls 5 V A c (il bs) D E bz W (Kd.C_below hCp hW) hcp (by rw [hbest, hbz]))
  have BM := hid (fun W (hW : Below wb.heap.size wb W) => disjunct_Best.calls 5 V A c (il bs) D ((E : Int) + 1) bz' W (Kd.C_below hCp hW) hcp (by rw [show ((E : Int) + 1) = ((E + 1 : Nat) : Int) from by simp, hbest', hbz']))
  have PC := hid (fun W (hW : Below wb.heap.size wb W) => disjunct_Positive.calls V A c (il bs) D E tt pc W (Kd.C_below hCp hW) hcp (by rw [hpos_ tt httl, hpc]))
  have PA := hid (fun W (hW : Below wb.heap.size wb W) => disjunct_Positive.calls V A c (il bs) D E t0 pa W (Kd.C_below hCp hW) hcp (by rw [hpos_ t0 (by omega), hpa]))
  have PB := hid (fun W (hW : Below wb.heap.size wb W) => disjunct_Positive.calls V A c (il bs) D E t1 pb W (Kd.C_below hCp hW) hcp (by rw [hpos_ t1 (by omega), hpb]))
  rw [hn] at SP SA BP BM PC PA PB
  rw [hnq] at SQ
  clear hslq hpos_ hCb hCp hbest hbest' hp15 hpa hpb hpc htt hbz hbz' hsp hsq hsa hmb hab hqb ha9 hq7 hp4 ht4 hC4 hCq hwf m1 m2 HP
  obtain ⟨p0, p1, p2, p3, q0, q1⟩ := HW.out wb (Below.refl _ _)
  have cv0 : IntKind.u64.wrap (t0 : Int) = (t0 : Int) := wrapU_nat (by omega)
  have cv1 : IntKind.u64.wrap (t1 : Int) = (t1 : Int) := wrapU_nat (by omega)
  refine (wpIn_wide (n := 8)).1 ?_
  obtain ⟨vv, hvv⟩ : ∃ vv : Nat → Value, vv = fun i => (#[.pointer (some ⟨w.heap.size + 1, 0, none⟩), .int .u8 (t0 : Int), .int .u64 (t0 : Int), .pointer (some ⟨w.heap.size + 1, 1, none⟩), .int .u8 (t1 : Int), .int .u64 (t1 : Int), .int .u64 (t0 : Int), .int .u64 (t1 : Int)] : Array Value).getD i undef := ⟨_, rfl⟩
  have mk : ∀ (L : Nat → Bool) (a' : Act) (w' : World), a' = ({ tmps := #[Value.agg #[Value.slice A0 l0.length c0, Value.int IntKind.u8 a1, Value.int IntKind.u8 a2, Value.slice A3 l3.length c3], Value.agg #[Value.int IntKind.u8 ↑t0, Value.int IntKind.u8 ↑t1], Value.pointer (some ⟨w.heap.size, 0, none⟩), Value.pointer (some ⟨w.heap.size + 1, 0, none⟩), Value.bool false, Value.bool true, Value.pointer (some ⟨w3.heap.size, 0, none⟩), Value.pointer (some ⟨w3.heap.size + 1, 0, none⟩), Value.pointer (some ⟨w8.heap.size, 0, none⟩), Value.pointer (some ⟨w8.heap.size + 1, 0, none⟩), a'.tmps.getD ((#[45, 46, 47, 48, 49, 50, 10, 11] : Array Nat).getD (6) 0) undef, a'.tmps.getD ((#[45, 46, 47, 48, 49, 50, 10, 11] : Array Nat).getD (7) 0) undef, Value.bool true, Value.bool true, Value.bool false, Value.agg #[Value.slice A0 l0.length c0, Value.int IntKind.u8 a1, Value.int IntKind.u8 a2, Value.slice A3 l3.length c3], Value.agg #[Value.int IntKind.i64 ↑V, Value.slice A bs.length c, Value.int IntKind.i64 ↑D, Value.int IntKind.i64 ↑E], Value.agg #[Value.int IntKind.i64 ↑V, Value.slice A bs.length c, Value.int IntKind.i64 ↑D, Value.int IntKind.i64 ↑E], Value.pointer (some ⟨w3.heap.size, 1, none⟩), Value.slice A bs.length c, Value.pointer (some ⟨w.heap.size + 1, 0, none⟩), Value.int IntKind.u8 ↑t0, Value.int IntKind.u64 ↑t0, Value.pointer (some ⟨w3.heap.size, 0, none⟩), Value.int IntKind.i64 ↑V, Value.int IntKind.u64 (IntKind.u64.wrap ↑V), Value.int IntKind.u64 (IntKind.u64.wrap (2 ^ min (IntKind.u64.wrap ↑V).toNat 64)), Value.int IntKind.u64 (IntKind.u64.wrap (IntKind.u64.wrap (2 ^ min (IntKind.u64.wrap ↑V).toNat 64) - 1)), Value.int IntKind.u64 ↑tm, Value.slice Aq (bs.length + 1) cq, Value.pointer (some ⟨w3.heap.size + 1, 1, none⟩), Value.agg #[Value.int IntKind.i64 ↑V, Value.slice A bs.length c, Value.int IntKind.i64 ↑D, Value.int IntKind.i64 ↑E], Value.pointer (some ⟨w3.heap.size, 2, none⟩), Value.int IntKind.i64 ↑D, Value.int IntKind.i64 (↑D + 1), Value.pointer (some ⟨w3.heap.size, 0, none⟩), Value.int IntKind.i64 ↑V, Value.int IntKind.i64 ↑m3, Value.int IntKind.i64 ↑D', Value.agg #[Value.int IntKind.i64 ↑V, Value.slice A bs.length c, Value.int IntKind.i64 ↑D', Value.int IntKind.i64 ↑E], Value.agg #[Value.int IntKind.i64 ↑V, Value.slice A bs.length c, Value.int IntKind.i64 ↑D, Value.int IntKind.i64 ↑E], Value.pointer (some ⟨w3.heap.size, 3, none⟩), Value.int IntKind.i64 ↑E, Value.int IntKind.i64 (↑E + 1), Value.pointer (some ⟨w8.heap.size + 1, 3, none⟩), a'.tmps.getD ((#[45, 46, 47, 48, 49, 50, 10, 11] : Array Nat).getD (0) 0) undef, a'.tmps.getD ((#[45, 46, 47, 48, 49, 50, 10, 11] : Array Nat).getD (1) 0) undef, a'.tmps.getD ((#[45, 46, 47, 48, 49, 50, 10, 11] : Array Nat).getD (2) 0) undef, a'.tmps.getD ((#[45, 46, 47, 48, 49, 50, 10, 11] : Array Nat).getD (3) 0) undef, a'.tmps.getD ((#[45, 46, 47, 48, 49, 50, 10, 11] : Array Nat).getD (4) 0) undef, a'.tmps.getD ((#[45, 46, 47, 48, 49, 50, 10, 11] : Array Nat).getD (5) 0) undef, undef, undef, undef, undef, undef, undef, undef, undef, undef, undef, undef, undef, undef, undef, undef, undef, undef, undef, undef, undef, undef, undef, undef, undef, undef, undef, undef, undef, undef, undef, undef, undef, undef, undef, undef, undef, undef], defers := [] } : Act) → (∀ j < 8, L j = true → a'.tmps.getD ((#[45, 46, 47, 48, 49, 50, 10, 11] : Array Nat).getD (j) 0) undef = vv j) → (fun (L : Nat → Bool) (wz : World) => wz = wb.drew) L w' → ∃ y : Nat → Value, a' = ({ tmps := #[Value.agg #[Value.slice A0 l0.length c0, Value.int IntKind.u8 a1, Value.int IntKind.u8 a2, Value.slice A3 l3.length c3], Value.agg #[Value.int IntKind.u8 ↑t0, Value.int IntKind.u8 ↑t1], Value.pointer (some ⟨w.heap.size, 0, none⟩), Value.pointer (some ⟨w.heap.size + 1, 0, none⟩), Value.bool false, Value.bool true, Value.pointer (some ⟨w3.heap.size, 0, none⟩), Value.pointer (some ⟨w3.heap.size + 1, 0, none⟩), Value.pointer (some ⟨w8.heap.size, 0, none⟩), Value.pointer (some ⟨w8.heap.size + 1, 0, none⟩), y 6, y 7, Value.bool true, Value.bool true, Value.bool false, Value.agg #[Value.slice A0 l0.length c0, Value.int IntKind.u8 a1, Value.int IntKind.u8 a2, Value.slice A3 l3.length c3], Value.agg #[Value.int IntKind.i64 ↑V, Value.slice A bs.length c, Value.int IntKind.i64 ↑D, Value.int IntKind.i64 ↑E], Value.agg #[Value.int IntKind.i64 ↑V, Value.slice A bs.length c, Value.int IntKind.i64 ↑D, Value.int IntKind.i64 ↑E], Value.pointer (some ⟨w3.heap.size, 1, none⟩), Value.slice A bs.length c, Value.pointer (some ⟨w.heap.size + 1, 0, none⟩), Value.int IntKind.u8 ↑t0, Value.int IntKind.u64 ↑t0, Value.pointer (some ⟨w3.heap.size, 0, none⟩), Value.int IntKind.i64 ↑V, Value.int IntKind.u64 (IntKind.u64.wrap ↑V), Value.int IntKind.u64 (IntKind.u64.wrap (2 ^ min (IntKind.u64.wrap ↑V).toNat 64)), Value.int IntKind.u64 (IntKind.u64.wrap (IntKind.u64.wrap (2 ^ min (IntKind.u64.wrap ↑V).toNat 64) - 1)), Value.int IntKind.u64 ↑tm, Value.slice Aq (bs.length + 1) cq, Value.pointer (some ⟨w3.heap.size + 1, 1, none⟩), Value.agg #[Value.int IntKind.i64 ↑V, Value.slice A bs.length c, Value.int IntKind.i64 ↑D, Value.int IntKind.i64 ↑E], Value.pointer (some ⟨w3.heap.size, 2, none⟩), Value.int IntKind.i64 ↑D, Value.int IntKind.i64 (↑D + 1), Value.pointer (some ⟨w3.heap.size, 0, none⟩), Value.int IntKind.i64 ↑V, Value.int IntKind.i64 ↑m3, Value.int IntKind.i64 ↑D', Value.agg #[Value.int IntKind.i64 ↑V, Value.slice A bs.length c, Value.int IntKind.i64 ↑D', Value.int IntKind.i64 ↑E], Value.agg #[Value.int IntKind.i64 ↑V, Value.slice A bs.length c, Value.int IntKind.i64 ↑D, Value.int IntKind.i64 ↑E], Value.pointer (some ⟨w3.heap.size, 3, none⟩), Value.int IntKind.i64 ↑E, Value.int IntKind.i64 (↑E + 1), Value.pointer (some ⟨w8.heap.size + 1, 3, none⟩), y 0, y 1, y 2, y 3, y 4, y 5, undef, undef, undef, undef, undef, undef, undef, undef, undef, undef, undef, undef, undef, undef, undef, undef, undef, undef, undef, undef, undef, undef, undef, undef, undef, undef, undef, undef, undef, undef, undef, undef, undef, undef, undef, undef, undef], defers := [] } : Act) ∧ (∀ j < 8, L j = true → y j = vv j) ∧ (fun (L : Nat → Bool) (wz : World) => wz = wb.drew) L w' := fun L a' w' h1 h2 h3 => ⟨fun m => a'.tmps.getD ((#[45, 46, 47, 48, 49, 50, 10, 11] : Array Nat).getD (m) 0) undef, h1, h2, h3⟩
  refine wpIn_region_inv2 (by kernel_rfl) (fun L aI wI => ∃ y : Nat → Value, aI = ({ tmps := #[Value.agg #[Value.slice A0 l0.length c0, Value.int IntKind.u8 a1, Value.int IntKind.u8 a2, Value.slice A3 l3.length c3], Value.agg #[Value.int IntKind.u8 ↑t0, Value.int IntKind.u8 ↑t1], Value.pointer (some ⟨w.heap.size, 0, none⟩), Value.pointer (some ⟨w.heap.size + 1, 0, none⟩), Value.bool false, Value.bool true, Value.pointer (some ⟨w3.heap.size, 0, none⟩), Value.pointer (some ⟨w3.heap.size + 1, 0, none⟩), Value.pointer (some ⟨w8.heap.size, 0, none⟩), Value.pointer (some ⟨w8.heap.size + 1, 0, none⟩), y 6, y 7, Value.bool true, Value.bool true, Value.bool false, Value.agg #[Value.slice A0 l0.length c0, Value.int IntKind.u8 a1, Value.int IntKind.u8 a2, Value.slice A3 l3.length c3], Value.agg #[Value.int IntKind.i64 ↑V, Value.slice A bs.length c, Value.int IntKind.i64 ↑D, Value.int IntKind.i64 ↑E], Value.agg #[Value.int IntKind.i64 ↑V, Value.slice A bs.length c, Value.int IntKind.i64 ↑D, Value.int IntKind.i64 ↑E], Value.pointer (some ⟨w3.heap.size, 1, none⟩), Value.slice A bs.length c, Value.pointer (some ⟨w.heap.size + 1, 0, none⟩), Value.int IntKind.u8 ↑t0, Value.int IntKind.u64 ↑t0, Value.pointer (some ⟨w3.heap.size, 0, none⟩), Value.int IntKind.i64 ↑V, Value.int IntKind.u64 (IntKind.u64.wrap ↑V), Value.int IntKind.u64 (IntKind.u64.wrap (2 ^ min (IntKind.u64.wrap ↑V).toNat 64)), Value.int IntKind.u64 (IntKind.u64.wrap (IntKind.u64.wrap (2 ^ min (IntKind.u64.wrap ↑V).toNat 64) - 1)), Value.int IntKind.u64 ↑tm, Value.slice Aq (bs.length + 1) cq, Value.pointer (some ⟨w3.heap.size + 1, 1, none⟩), Value.agg #[Value.int IntKind.i64 ↑V, Value.slice A bs.length c, Value.int IntKind.i64 ↑D, Value.int IntKind.i64 ↑E], Value.pointer (some ⟨w3.heap.size, 2, none⟩), Value.int IntKind.i64 ↑D, Value.int IntKind.i64 (↑D + 1), Value.pointer (some ⟨w3.heap.size, 0, none⟩), Value.int IntKind.i64 ↑V, Value.int IntKind.i64 ↑m3, Value.int IntKind.i64 ↑D', Value.agg #[Value.int IntKind.i64 ↑V, Value.slice A bs.length c, Value.int IntKind.i64 ↑D', Value.int IntKind.i64 ↑E], Value.agg #[Value.int IntKind.i64 ↑V, Value.slice A bs.length c, Value.int IntKind.i64 ↑D, Value.int IntKind.i64 ↑E], Value.pointer (some ⟨w3.heap.size, 3, none⟩), Value.int IntKind.i64 ↑E, Value.int IntKind.i64 (↑E + 1), Value.pointer (some ⟨w8.heap.size + 1, 3, none⟩), y 0, y 1, y 2, y 3, y 4, y 5, undef, undef, undef, undef, undef, undef, undef, undef, undef, undef, undef, undef, undef, undef, undef, undef, undef, undef, undef, undef, undef, undef, undef, undef, undef, undef, undef, undef, undef, undef, undef, undef, undef, undef, undef, undef, undef], defers := [] } : Act) ∧ (∀ j < 8, L j = true → y j = vv j) ∧ (fun (L : Nat → Bool) (wz : World) => wz = wb.drew) L wI) ?acyc ?start ?step ?rdone
  case acyc => exact fun i o ho => acyc_of2 (by kernel_rfl) i o ho
  case start => exact mk (fun _ => false) _ _ rfl (fun _ _ h => by cases h) (by exact rfl)
  case step =>
    rintro i o L a wx ho hLi hdep ⟨y, rfl, hy, hWI⟩ K hK
    have hi : i < 8 := (Array.getElem?_eq_some_iff.1 ho).1
    rcases i with _ | _ | _ | _ | _ | _ | _ | _ | i
    · obtain rfl := Option.some.inj ho
      clear hdep ho
      obtain rfl := hWI
      go_simp
      refine hK _ _ (mk _ _ _ rfl ?_ ?_)
      rotate_left
      · exact rfl
      · intro j hj h
        rcases j with _ | _ | _ | _ | _ | _ | _ | _ | j
        all_goals first | (rw [hvv]; rfl) | exact hy _ (by omega) (by simpa [put1] using h) | (exfalso; omega)
    · obtain rfl := Option.some.inj ho
      have d0 : L 0 = true := hdep ⟨0, .data⟩ (by simp) rfl
      have e0 : y 0 = .pointer (some ⟨w.heap.size + 1, 0, none⟩) := (hy 0 (by omega) d0).trans (by rw [hvv]; rfl)
      clear hdep ho
      rw [e0]
      obtain rfl := hWI
      go_simp
      refine hK _ _ (mk _ _ _ rfl ?_ ?_)
      rotate_left
      · exact rfl
      · intro j hj h
        rcases j with _ | _ | _ | _ | _ | _ | _ | _ | j
        all_goals first | (rw [hvv]; rfl) | exact hy _ (by omega) (by simpa [put1] using h) | (exfalso; omega)
    · obtain rfl := Option.some.inj ho
      have d1 : L 1 = true := hdep ⟨1, .data⟩ (by simp) rfl
      have e1 : y 1 = .int .u8 (t0 : Int) := (hy 1 (by omega) d1).trans (by rw [hvv]; rfl)
      clear hdep ho
      rw [e1]
      obtain rfl := hWI
      go_simp
      refine hK _ _ (mk _ _ _ rfl ?_ ?_)
      rotate_left
      · exact rfl
      · intro j hj h
        rcases j with _ | _ | _ | _ | _ | _ | _ | _ | j
        all_goals first | (rw [hvv]; rfl) | exact hy _ (by omega) (by simpa [put1] using h) | (exfalso; omega)
    · obtain rfl := Option.some.inj ho
      clear hdep ho
      obtain rfl := hWI
      go_simp
      refine hK _ _ (mk _ _ _ rfl ?_ ?_)
      rotate_left
      · exact rfl
      · intro j hj h
        rcases j with _ | _ | _ | _ | _ | _ | _ | _ | j
        all_goals first | (rw [hvv]; rfl) | exact hy _ (by omega) (by simpa [put1] using h) | (exfalso; omega)
    · obtain rfl := Option.some.inj ho
      have d3 : L 3 = true := hdep ⟨3, .data⟩ (by simp) rfl
      have e3 : y 3 = .pointer (some ⟨w.heap.size + 1, 1, none⟩) := (hy 3 (by omega) d3).trans (by rw [hvv]; rfl)
      clear hdep ho
      rw [e3]
      obtain rfl := hWI
      go_simp
      refine hK _ _ (mk _ _ _ rfl ?_ ?_)
      rotate_left
      · exact rfl
      · intro j hj h
        rcases j with _ | _ | _ | _ | _ | _ | _ | _ | j
        all_goals first | (rw [hvv]; rfl) | exact hy _ (by omega) (by simpa [put1] using h) | (exfalso; omega)
    · obtain rfl := Option.some.inj ho
      have d4 : L 4 = true := hdep ⟨4, .data⟩ (by simp) rfl
      have e4 : y 4 = .int .u8 (t1 : Int) := (hy 4 (by omega) d4).trans (by rw [hvv]; rfl)
      clear hdep ho
      rw [e4]
      obtain rfl := hWI
      go_simp
      refine hK _ _ (mk _ _ _ rfl ?_ ?_)
      rotate_left
      · exact rfl
      · intro j hj h
        rcases j with _ | _ | _ | _ | _ | _ | _ | _ | j
        all_goals first | (rw [hvv]; rfl) | exact hy _ (by omega) (by simpa [put1] using h) | (exfalso; omega)
    · obtain rfl := Option.some.inj ho
      have d2 : L 2 = true := hdep ⟨2, .data⟩ (by simp) rfl
      have e2 : y 2 = .int .u64 (t0 : Int) := (hy 2 (by omega) d2).trans (by rw [hvv]; rfl)
      clear hdep ho
      rw [e2]
      obtain rfl := hWI
      go_simp
      refine hK _ _ (mk _ _ _ rfl ?_ ?_)
      rotate_left
      · exact rfl
      · intro j hj h
        rcases j with _ | _ | _ | _ | _ | _ | _ | _ | j
        all_goals first | (rw [hvv]; rfl) | exact hy _ (by omega) (by simpa [put1] using h) | (exfalso; omega)
    · obtain rfl := Option.some.inj ho
      have d5 : L 5 = true := hdep ⟨5, .data⟩ (by simp) rfl
      have e5 : y 5 = .int .u64 (t1 : Int) := (hy 5 (by omega) d5).trans (by rw [hvv]; rfl)
      clear hdep ho
      rw [e5]
      obtain rfl := hWI
      go_simp
      refine hK _ _ (mk _ _ _ rfl ?_ ?_)
      rotate_left
      · exact rfl
      · intro j hj h
        rcases j with _ | _ | _ | _ | _ | _ | _ | _ | j
        all_goals first | (rw [hvv]; rfl) | exact hy _ (by omega) (by simpa [put1] using h) | (exfalso; omega)
    · exfalso; omega
  case rdone =>
    rintro L a wc hall ⟨y, rfl, hy, rfl⟩
    have e6 : y 6 = .int .u64 (t0 : Int) := (hy 6 (by omega) (hall 6 (by decide))).trans (by rw [hvv]; rfl)
    have e7 : y 7 = .int .u64 (t1 : Int) := (hy 7 (by omega) (hall 7 (by decide))).trans (by rw [hvv]; rfl)
    rw [e6, e7]
    generalize y 0 = z0
    generalize y 1 = z1
    generalize y 2 = z2
    generalize y 3 = z3
    generalize y 4 = z4
    generalize y 5 = z5
    clear mk hvv hy hall e6 e7 p0 p1 p2 p3 q0 q1
    try clear hE
    try clear h7
    try clear hpos
    try clear htmV
    try clear htm
    try clear hd3
    try clear hv1
    try clear hv7
    try clear httl
    try clear hcp
    try clear hcq
    try clear hc
    try clear hn
    try clear hnq
    try clear cv0
    try clear cv1
    try clear b89
    try clear b9a
    try clear b49
    try clear b4a
    try clear b4b
    try clear b8b
    try clear b48
    try clear b47
    try clear hb8
    try clear hz9
    try clear hz5
    try clear hz4
    try clear bw4
    try clear hma
    try clear hm3
    try clear hD'
    try clear hM
    try clear HM
    try clear hbb
    try clear hl0
    try clear hb0
    try clear hb3
    try clear h10
    try clear h11
    try clear h20
    try clear h21
    try clear ht0
    try clear ht1
    try clear hc0
    try clear hc3
    try clear hua
    try clear hbs
    go_upto_region 11 with (fail)
    refine (wpIn_wide (n := 8)).1 ?_
    obtain ⟨vv, hvv⟩ : ∃ vv : Nat → Value, vv = fun i => (#[.agg #[.int .i64 V, .slice Aq (bs.length + 1) cq, .int .i64 D, .int .i64 E], .int .i64 sq, .agg #[.int .i64 V, .slice A bs.length c, .int .i64 D, .int .i64 E], .int .i64 sp, .bool true, .bool true, .agg #[.int .i64 V, .slice A bs.length c, .int .i64 D', .int .i64 E], .int .i64 sa, .agg #[.int .i64 V, .slice A bs.length c, .int .i64 D, .int .i64 E], .int .i64 sp, .bool true, .bool true, .bool true, .agg #[.int .i64 V, .slice A bs.length c, .int .i64 D, .int .i64 ((E : Int) + 1)], .int .i64 bz', .agg #[.int .i64 V, .slice A bs.length c, .int .i64 D, .int .i64 E], .int .i64 bz, .bool true, .bool true, .bool true, .agg #[.int .i64 V, .slice A bs.length c, .int .i64 D, .int .i64 E], .int .u64 (t0 : Int), .int .u64 (t1 : Int), .int .u64 (tt : Int), .int .u64 (pc : Int), .agg #[.int .i64 V, .slice A bs.length c, .int .i64 D, .int .i64 E], .int .u64 (t0 : Int), .int .u64 (pa : Int), .agg #[.int .i64 V, .slice A bs.length c, .int .i64 D, .int .i64 E], .int .u64 (t1 : Int), .int .u64 (pb : Int), .int .u64 (pc : Int), .bool true, .bool true, .bool true, .bool true, .bool true, .bool true] : Array Value).getD i undef := ⟨_, rfl⟩
    have mk : ∀ (L : Nat → Bool) (a' : Act) (w' : World), a' = ({ tmps := #[Value.agg #[Value.slice A0 l0.length c0, Value.int IntKind.u8 a1, Value.int IntKind.u8 a2, Value.slice A3 l3.length c3], Value.agg #[Value.int IntKind.u8 ↑t0, Value.int IntKind.u8 ↑t1], Value.pointer (some ⟨w.heap.size, 0, none⟩), Value.pointer (some ⟨w.heap.size + 1, 0, none⟩), a'.tmps.getD ((#[51, 52, 53, 54, 55, 56, 57, 58, 59, 60, 61, 62, 63, 64, 65, 66, 67, 68, 69, 70, 71, 72, 73, 74, 75, 76, 77, 78, 79, 80, 81, 82, 83, 84, 85, 86, 87, 4] : Array Nat).getD (37) 0) undef, Value.bool true, Value.pointer (some ⟨w3.heap.size, 0, none⟩), Value.pointer (some ⟨w3.heap.size + 1, 0, none⟩), Value.pointer (some ⟨w8.heap.size, 0, none⟩), Value.pointer (some ⟨w8.heap.size + 1, 0, none⟩), .int .u64 (t0 : Int), .int .u64 (t1 : Int), Value.bool true, Value.bool true, Value.bool false, Value.agg #[Value.slice A0 l0.length c0, Value.int IntKind.u8 a1, Value.int IntKind.u8 a2, Value.slice A3 l3.length c3], Value.agg #[Value.int IntKind.i64 ↑V, Value.slice A bs.length c, Value.int IntKind.i64 ↑D, Value.int IntKind.i64 ↑E], Value.agg #[Value.int IntKind.i64 ↑V, Value.slice A bs.length c, Value.int IntKind.i64 ↑D, Value.int IntKind.i64 ↑E], Value.pointer (some ⟨w3.heap.size, 1, none⟩), Value.slice A bs.length c, Value.pointer (some ⟨w.heap.size + 1, 0, none⟩), Value.int IntKind.u8 ↑t0, Value.int IntKind.u64 ↑t0, Value.pointer (some ⟨w3.heap.size, 0, none⟩), Value.int IntKind.i64 ↑V, Value.int IntKind.u64 (IntKind.u64.wrap ↑V), Value.int IntKind.u64 (IntKind.u64.wrap (2 ^ min (IntKind.u64.wrap ↑V).toNat 64)), Value.int IntKind.u64 (IntKind.u64.wrap (IntKind.u64.wrap (2 ^ min (IntKind.u64.wrap ↑V).toNat 64) - 1)), Value.int IntKind.u64 ↑tm, Value.slice Aq (bs.length + 1) cq, Value.pointer (some ⟨w3.heap.size + 1, 1, none⟩), Value.agg #[Value.int IntKind.i64 ↑V, Value.slice A bs.length c, Value.int IntKind.i64 ↑D, Value.int IntKind.i64 ↑E], Value.pointer (some ⟨w3.heap.size, 2, none⟩), Value.int IntKind.i64 ↑D, Value.int IntKind.i64 (↑D + 1), Value.pointer (some ⟨w3.heap.size, 0, none⟩), Value.int IntKind.i64 ↑V, Value.int IntKind.i64 ↑m3, Value.int IntKind.i64 ↑D', Value.agg #[Value.int IntKind.i64 ↑V, Value.slice A bs.length c, Value.int IntKind.i64 ↑D', Value.int IntKind.i64 ↑E], Value.agg #[Value.int IntKind.i64 ↑V, Value.slice A bs.length c, Value.int IntKind.i64 ↑D, Value.int IntKind.i64 ↑E], Value.pointer (some ⟨w3.heap.size, 3, none⟩), Value.int IntKind.i64 ↑E, Value.int IntKind.i64 (↑E + 1), Value.pointer (some ⟨w8.heap.size + 1, 3, none⟩), z0, z1, z2, z3, z4, z5, a'.tmps.getD ((#[51, 52, 53, 54, 55, 56, 57, 58, 59, 60, 61, 62, 63, 64, 65, 66, 67, 68, 69, 70, 71, 72, 73, 74, 75, 76, 77, 78, 79, 80, 81, 82, 83, 84, 85, 86, 87, 4] : Array Nat).getD (0) 0) undef, a'.tmps.getD ((#[51, 52, 53, 54, 55, 56, 57, 58, 59, 60, 61, 62, 63, 64, 65, 66, 67, 68, 69, 70, 71, 72, 73, 74, 75, 76, 77, 78, 79, 80, 81, 82, 83, 84, 85, 86, 87, 4] : Array Nat).getD (1) 0) undef, a'.tmps.getD ((#[51, 52, 53, 54, 55, 56, 57, 58, 59, 60, 61, 62, 63, 64, 65, 66, 67, 68, 69, 70, 71, 72, 73, 74, 75, 76, 77, 78, 79, 80, 81, 82, 83, 84, 85, 86, 87, 4] : Array Nat).getD (2) 0) undef, a'.tmps.getD ((#[51, 52, 53, 54, 55, 56, 57, 58, 59, 60, 61, 62, 63, 64, 65, 66, 67, 68, 69, 70, 71, 72, 73, 74, 75, 76, 77, 78, 79, 80, 81, 82, 83, 84, 85, 86, 87, 4] : Array Nat).getD (3) 0) undef, a'.tmps.getD ((#[51, 52, 53, 54, 55, 56, 57, 58, 59, 60, 61, 62, 63, 64, 65, 66, 67, 68, 69, 70, 71, 72, 73, 74, 75, 76, 77, 78, 79, 80, 81, 82, 83, 84, 85, 86, 87, 4] : Array Nat).getD (4) 0) undef, a'.tmps.getD ((#[51, 52, 53, 54, 55, 56, 57, 58, 59, 60, 61, 62, 63, 64, 65, 66, 67, 68, 69, 70, 71, 72, 73, 74, 75, 76, 77, 78, 79, 80, 81, 82, 83, 84, 85, 86, 87, 4] : Array Nat).getD (5) 0) undef, a'.tmps.getD ((#[51, 52, 53, 54, 55, 56, 57, 58, 59, 60, 61, 62, 63, 64, 65, 66, 67, 68, 69, 70, 71, 72, 73, 74, 75, 76, 77, 78, 79, 80, 81, 82, 83, 84, 85, 86, 87, 4] : Array Nat).getD (6) 0) undef, a'.tmps.getD ((#[51, 52, 53, 54, 55, 56, 57, 58, 59, 60, 61, 62, 63, 64, 65, 66, 67, 68, 69, 70, 71, 72, 73, 74, 75, 76, 77, 78, 79, 80, 81, 82, 83, 84, 85, 86, 87, 4] : Array Nat).getD (7) 0) undef, a'.tmps.getD ((#[51, 52, 53, 54, 55, 56, 57, 58, 59, 60, 61, 62, 63, 64, 65, 66, 67, 68, 69, 70, 71, 72, 73, 74, 75, 76, 77, 78, 79, 80, 81, 82, 83, 84, 85, 86, 87, 4] : Array Nat).getD (8) 0) undef, a'.tmps.getD ((#[51, 52, 53, 54, 55, 56, 57, 58, 59, 60, 61, 62, 63, 64, 65, 66, 67, 68, 69, 70, 71, 72, 73, 74, 75, 76, 77, 78, 79, 80, 81, 82, 83, 84, 85, 86, 87, 4] : Array Nat).getD (9) 0) undef, a'.tmps.getD ((#[51, 52, 53, 54, 55, 56, 57, 58, 59, 60, 61, 62, 63, 64, 65, 66, 67, 68, 69, 70, 71, 72, 73, 74, 75, 76, 77, 78, 79, 80, 81, 82, 83, 84, 85, 86, 87, 4] : Array Nat).getD (10) 0) undef, a'.tmps.getD ((#[51, 52, 53, 54, 55, 56, 57, 58, 59, 60, 61, 62, 63, 64, 65, 66, 67, 68, 69, 70, 71, 72, 73, 74, 75, 76, 77, 78, 79, 80, 81, 82, 83, 84, 85, 86, 87, 4] : Array Nat).getD (11) 0) undef, a'.tmps.getD ((#[51, 52, 53, 54, 55, 56, 57, 58, 59, 60, 61, 62, 63, 64, 65, 66, 67, 68, 69, 70, 71, 72, 73, 74, 75, 76, 77, 78, 79, 80, 81, 82, 83, 84, 85, 86, 87, 4] : Array Nat).getD (12) 0) undef, a'.tmps.getD ((#[51, 52, 53, 54, 55, 56, 57, 58, 59, 60, 61, 62, 63, 64, 65, 66, 67, 68, 69, 70, 71, 72, 73, 74, 75, 76, 77, 78, 79, 80, 81, 82, 83, 84, 85, 86, 87, 4] : Array Nat).getD (13) 0) undef, a'.tmps.getD ((#[51, 52, 53, 54, 55, 56, 57, 58, 59, 60, 61, 62, 63, 64, 65, 66, 67, 68, 69, 70, 71, 72, 73, 74, 75, 76, 77, 78, 79, 80, 81, 82, 83, 84, 85, 86, 87, 4] : Array Nat).getD (14) 0) undef, a'.tmps.getD ((#[51, 52, 53, 54, 55, 56, 57, 58, 59, 60, 61, 62, 63, 64, 65, 66, 67, 68, 69, 70, 71, 72, 73, 74, 75, 76, 77, 78, 79, 80, 81, 82, 83, 84, 85, 86, 87, 4] : Array Nat).getD (15) 0) undef, a'.tmps.getD ((#[51, 52, 53, 54, 55, 56, 57, 58, 59, 60, 61, 62, 63, 64, 65, 66, 67, 68, 69, 70, 71, 72, 73, 74, 75, 76, 77, 78, 79, 80, 81, 82, 83, 84, 85, 86, 87, 4] : Array Nat).getD (16) 0) undef, a'.tmps.getD ((#[51, 52, 53, 54, 55, 56, 57, 58, 59, 60, 61, 62, 63, 64, 65, 66, 67, 68, 69, 70, 71, 72, 73, 74, 75, 76, 77, 78, 79, 80, 81, 82, 83, 84, 85, 86, 87, 4] : Array Nat).getD (17) 0) undef, a'.tmps.getD ((#[51, 52, 53, 54, 55, 56, 57, 58, 59, 60, 61, 62, 63, 64, 65, 66, 67, 68, 69, 70, 71, 72, 73, 74, 75, 76, 77, 78, 79, 80, 81, 82, 83, 84, 85, 86, 87, 4] : Array Nat).getD (18) 0) undef, a'.tmps.getD ((#[51, 52, 53, 54, 55, 56, 57, 58, 59, 60, 61, 62, 63, 64, 65, 66, 67, 68, 69, 70, 71, 72, 73, 74, 75, 76, 77, 78, 79, 80, 81, 82, 83, 84, 85, 86, 87, 4] : Array Nat).getD (19) 0) undef, a'.tmps.getD ((#[51, 52, 53, 54, 55, 56, 57, 58, 59, 60, 61, 62, 63, 64, 65, 66, 67, 68, 69, 70, 71, 72, 73, 74, 75, 76, 77, 78, 79, 80, 81, 82, 83, 84, 85, 86, 87, 4] : Array Nat).getD (20) 0) undef, a'.tmps.getD ((#[51, 52, 53, 54, 55, 56, 57, 58, 59, 60, 61, 62, 63, 64, 65, 66, 67, 68, 69, 70, 71, 72, 73, 74, 75, 76, 77, 78, 79, 80, 81, 82, 83, 84, 85, 86, 87, 4] : Array Nat).getD (21) 0) undef, a'.tmps.getD ((#[51, 52, 53, 54, 55, 56, 57, 58, 59, 60, 61, 62, 63, 64, 65, 66, 67, 68, 69, 70, 71, 72, 73, 74, 75, 76, 77, 78, 79, 80, 81, 82, 83, 84, 85, 86, 87, 4] : Array Nat).getD (22) 0) undef, a'.tmps.getD ((#[51, 52, 53, 54, 55, 56, 57, 58, 59, 60, 61, 62, 63, 64, 65, 66, 67, 68, 69, 70, 71, 72, 73, 74, 75, 76, 77, 78, 79, 80, 81, 82, 83, 84, 85, 86, 87, 4] : Array Nat).getD (23) 0) undef, a'.tmps.getD ((#[51, 52, 53, 54, 55, 56, 57, 58, 59, 60, 61, 62, 63, 64, 65, 66, 67, 68, 69, 70, 71, 72, 73, 74, 75, 76, 77, 78, 79, 80, 81, 82, 83, 84, 85, 86, 87, 4] : Array Nat).getD (24) 0) undef, a'.tmps.getD ((#[51, 52, 53, 54, 55, 56, 57, 58, 59, 60, 61, 62, 63, 64, 65, 66, 67, 68, 69, 70, 71, 72, 73, 74, 75, 76, 77, 78, 79, 80, 81, 82, 83, 84, 85, 86, 87, 4] : Array Nat).getD (25) 0) undef, a'.tmps.getD ((#[51, 52, 53, 54, 55, 56, 57, 58, 59, 60, 61, 62, 63, 64, 65, 66, 67, 68, 69, 70, 71, 72, 73, 74, 75, 76, 77, 78, 79, 80, 81, 82, 83, 84, 85, 86, 87, 4] : Array Nat).getD (26) 0) undef, a'.tmps.getD ((#[51, 52, 53, 54, 55, 56, 57, 58, 59, 60, 61, 62, 63, 64, 65, 66, 67, 68, 69, 70, 71, 72, 73, 74, 75, 76, 77, 78, 79, 80, 81, 82, 83, 84, 85, 86, 87, 4] : Array Nat).getD (27) 0) undef, a'.tmps.getD ((#[51, 52, 53, 54, 55, 56, 57, 58, 59, 60, 61, 62, 63, 64, 65, 66, 67, 68, 69, 70, 71, 72, 73, 74, 75, 76, 77, 78, 79, 80, 81, 82, 83, 84, 85, 86, 87, 4] : Array Nat).getD (28) 0) undef, a'.tmps.getD ((#[51, 52, 53, 54, 55, 56, 57, 58, 59, 60, 61, 62, 63, 64, 65, 66, 67, 68, 69, 70, 71, 72, 73, 74, 75, 76, 77, 78, 79, 80, 81, 82, 83, 84, 85, 86, 87, 4] : Array Nat).getD (29) 0) undef, a'.tmps.getD ((#[51, 52, 53, 54, 55, 56, 57, 58, 59, 60, 61, 62, 63, 64, 65, 66, 67, 68, 69, 70, 71, 72, 73, 74, 75, 76, 77, 78, 79, 80, 81, 82, 83, 84, 85, 86, 87, 4] : Array Nat).getD (30) 0) undef, a'.tmps.getD ((#[51, 52, 53, 54, 55, 56, 57, 58, 59, 60, 61, 62, 63, 64, 65, 66, 67, 68, 69, 70, 71, 72, 73, 74, 75, 76, 77, 78, 79, 80, 81, 82, 83, 84, 85, 86, 87, 4] : Array Nat).getD (31) 0) undef, a'.tmps.getD ((#[51, 52, 53, 54, 55, 56, 57, 58, 59, 60, 61, 62, 63, 64, 65, 66, 67, 68, 69, 70, 71, 72, 73, 74, 75, 76, 77, 78, 79, 80, 81, 82, 83, 84, 85, 86, 87, 4] : Array Nat).getD (32) 0) undef, a'.tmps.getD ((#[51, 52, 53, 54, 55, 56, 57, 58, 59, 60, 61, 62, 63, 64, 65, 66, 67, 68, 69, 70, 71, 72, 73, 74, 75, 76, 77, 78, 79, 80, 81, 82, 83, 84, 85, 86, 87, 4] : Array Nat).getD (33) 0) undef, a'.tmps.getD ((#[51, 52, 53, 54, 55, 56, 57, 58, 59, 60, 61, 62, 63, 64, 65, 66, 67, 68, 69, 70, 71, 72, 73, 74, 75, 76, 77, 78, 79, 80, 81, 82, 83, 84, 85, 86, 87, 4] : Array Nat).getD (34) 0) undef, a'.tmps.getD ((#[51, 52, 53, 54, 55, 56, 57, 58, 59, 60, 61, 62, 63, 64, 65, 66, 67, 68, 69, 70, 71, 72, 73, 74, 75, 76, 77, 78, 79, 80, 81, 82, 83, 84, 85, 86, 87, 4] : Array Nat).getD (35) 0) undef, a'.tmps.getD ((#[51, 52, 53, 54, 55, 56, 57, 58, 59, 60, 61, 62, 63, 64, 65, 66, 67, 68, 69, 70, 71, 72, 73, 74, 75, 76, 77, 78, 79, 80, 81, 82, 83, 84, 85, 86, 87, 4] : Array Nat).getD (36) 0) undef], defers := [] } : Act) → (∀ j < 38, L j = true → a'.tmps.getD ((#[51, 52, 53, 54, 55, 56, 57, 58, 59, 60, 61, 62, 63, 64, 65, 66, 67, 68, 69, 70, 71, 72, 73, 74, 75, 76, 77, 78, 79, 80, 81, 82, 83, 84, 85, 86, 87, 4] : Array Nat).getD (j) 0) undef = vv j) → (fun (L : Nat → Bool) (wz : World) => Below wb.heap.size wb wz) L w' → ∃ y : Nat → Value, a' = ({ tmps := #[Value.agg #[Value.slice A0 l0.length c0, Value.int IntKind.u8 a1, Value.int IntKind.u8 a2, Value.slice A3 l3.length c3], Value.agg #[Value.int IntKind.u8 ↑t0, Value.int IntKind.u8 ↑t1], Value.pointer (some ⟨w.heap.size, 0, none⟩), Value.pointer (some ⟨w.heap.size + 1, 0, none⟩), y 37, Value.bool true, Value.pointer (some ⟨w3.heap.size, 0, none⟩), Value.pointer (some ⟨w3.heap.size + 1, 0, none⟩), Value.pointer (some ⟨w8.heap.size, 0, none⟩), Value.pointer (some ⟨w8.heap.size + 1, 0, none⟩), .int .u64 (t0 : Int), .int .u64 (t1 : Int), Value.bool true, Value.bool true, Value.bool false, Value.agg #[Value.slice A0 l0.length c0, Value.int IntKind.u8 a1, Value.int IntKind.u8 a2, Value.slice A3 l3.length c3], Value.agg #[Value.int IntKind.i64 ↑V, Value.slice A bs.length c, Value.int IntKind.i64 ↑D, Value.int IntKind.i64 ↑E], Value.agg #[Value.int IntKind.i64 ↑V, Value.slice A bs.length c, Value.int IntKind.i64 ↑D, Value.int IntKind.i64 ↑E], Value.pointer (some ⟨w3.heap.size, 1, none⟩), Value.slice A bs.length c, Value.pointer (some ⟨w.heap.size + 1, 0, none⟩), Value.int IntKind.u8 ↑t0, Value.int IntKind.u64 ↑t0, Value.pointer (some ⟨w3.heap.size, 0, none⟩), Value.int IntKind.i64 ↑V, Value.int IntKind.u64 (IntKind.u64.wrap ↑V), Value.int IntKind.u64 (IntKind.u64.wrap (2 ^ min (IntKind.u64.wrap ↑V).toNat 64)), Value.int IntKind.u64 (IntKind.u64.wrap (IntKind.u64.wrap (2 ^ min (IntKind.u64.wrap ↑V).toNat 64) - 1)), Value.int IntKind.u64 ↑tm, Value.slice Aq (bs.length + 1) cq, Value.pointer (some ⟨w3.heap.size + 1, 1, none⟩), Value.agg #[Value.int IntKind.i64 ↑V, Value.slice A bs.length c, Value.int IntKind.i64 ↑D, Value.int IntKind.i64 ↑E], Value.pointer (some ⟨w3.heap.size, 2, none⟩), Value.int IntKind.i64 ↑D, Value.int IntKind.i64 (↑D + 1), Value.pointer (some ⟨w3.heap.size, 0, none⟩), Value.int IntKind.i64 ↑V, Value.int IntKind.i64 ↑m3, Value.int IntKind.i64 ↑D', Value.agg #[Value.int IntKind.i64 ↑V, Value.slice A bs.length c, Value.int IntKind.i64 ↑D', Value.int IntKind.i64 ↑E], Value.agg #[Value.int IntKind.i64 ↑V, Value.slice A bs.length c, Value.int IntKind.i64 ↑D, Value.int IntKind.i64 ↑E], Value.pointer (some ⟨w3.heap.size, 3, none⟩), Value.int IntKind.i64 ↑E, Value.int IntKind.i64 (↑E + 1), Value.pointer (some ⟨w8.heap.size + 1, 3, none⟩), z0, z1, z2, z3, z4, z5, y 0, y 1, y 2, y 3, y 4, y 5, y 6, y 7, y 8, y 9, y 10, y 11, y 12, y 13, y 14, y 15, y 16, y 17, y 18, y 19, y 20, y 21, y 22, y 23, y 24, y 25, y 26, y 27, y 28, y 29, y 30, y 31, y 32, y 33, y 34, y 35, y 36], defers := [] } : Act) ∧ (∀ j < 38, L j = true → y j = vv j) ∧ (fun (L : Nat → Bool) (wz : World) => Below wb.heap.size wb wz) L w' := fun L a' w' h1 h2 h3 => ⟨fun m => a'.tmps.getD ((#[51, 52, 53, 54, 55, 56, 57, 58, 59, 60, 61, 62, 63, 64, 65, 66, 67, 68, 69, 70, 71, 72, 73, 74, 75, 76, 77, 78, 79, 80, 81, 82, 83, 84, 85, 86, 87, 4] : Array Nat).getD (m) 0) undef, h1, h2, h3⟩
    refine wpIn_region_inv2 (by kernel_rfl) (fun L aI wI => ∃ y : Nat → Value, aI = ({ tmps := #[Value.agg #[Value.slice A0 l0.length c0, Value.int IntKind.u8 a1, Value.int IntKind.u8 a2, Value.slice A3 l3.length c3], Value.agg #[Value.int IntKind.u8 ↑t0, Value.int IntKind.u8 ↑t1], Value.pointer (some ⟨w.heap.size, 0, none⟩), Value.pointer (some ⟨w.heap.size + 1, 0, none⟩), y 37, Value.bool true, Value.pointer (some ⟨w3.heap.size, 0, none⟩), Value.pointer (some ⟨w3.heap.size + 1, 0, none⟩), Value.pointer (some ⟨w8.heap.size, 0, none⟩), Value.pointer (some ⟨w8.heap.size + 1, 0, none⟩), .int .u64 (t0 : Int), .int .u64 (t1 : Int), Value.bool true, Value.bool true, Value.bool false, Value.agg #[Value.slice A0 l0.length c0, Value.int IntKind.u8 a1, Value.int IntKind.u8 a2, Value.slice A3 l3.length c3], Value.agg #[Value.int IntKind.i64 ↑V, Value.slice A bs.length c, Value.int IntKind.i64 ↑D, Value.int IntKind.i64 ↑E], Value.agg #[Value.int IntKind.i64 ↑V, Value.slice A bs.length c, Value.int IntKind.i64 ↑D, Value.int IntKind.i64 ↑E], Value.pointer (some ⟨w3.heap.size, 1, none⟩), Value.slice A bs.length c, Value.pointer (some ⟨w.heap.size + 1, 0, none⟩), Value.int IntKind.u8 ↑t0, Value.int IntKind.u64 ↑t0, Value.pointer (some ⟨w3.heap.size, 0, none⟩), Value.int IntKind.i64 ↑V, Value.int IntKind.u64 (IntKind.u64.wrap ↑V), Value.int IntKind.u64 (IntKind.u64.wrap (2 ^ min (IntKind.u64.wrap ↑V).toNat 64)), Value.int IntKind.u64 (IntKind.u64.wrap (IntKind.u64.wrap (2 ^ min (IntKind.u64.wrap ↑V).toNat 64) - 1)), Value.int IntKind.u64 ↑tm, Value.slice Aq (bs.length + 1) cq, Value.pointer (some ⟨w3.heap.size + 1, 1, none⟩), Value.agg #[Value.int IntKind.i64 ↑V, Value.slice A bs.length c, Value.int IntKind.i64 ↑D, Value.int IntKind.i64 ↑E], Value.pointer (some ⟨w3.heap.size, 2, none⟩), Value.int IntKind.i64 ↑D, Value.int IntKind.i64 (↑D + 1), Value.pointer (some ⟨w3.heap.size, 0, none⟩), Value.int IntKind.i64 ↑V, Value.int IntKind.i64 ↑m3, Value.int IntKind.i64 ↑D', Value.agg #[Value.int IntKind.i64 ↑V, Value.slice A bs.length c, Value.int IntKind.i64 ↑D', Value.int IntKind.i64 ↑E], Value.agg #[Value.int IntKind.i64 ↑V, Value.slice A bs.length c, Value.int IntKind.i64 ↑D, Value.int IntKind.i64 ↑E], Value.pointer (some ⟨w3.heap.size, 3, none⟩), Value.int IntKind.i64 ↑E, Value.int IntKind.i64 (↑E + 1), Value.pointer (some ⟨w8.heap.size + 1, 3, none⟩), z0, z1, z2, z3, z4, z5, y 0, y 1, y 2, y 3, y 4, y 5, y 6, y 7, y 8, y 9, y 10, y 11, y 12, y 13, y 14, y 15, y 16, y 17, y 18, y 19, y 20, y 21, y 22, y 23, y 24, y 25, y 26, y 27, y 28, y 29, y 30, y 31, y 32, y 33, y 34, y 35, y 36], defers := [] } : Act) ∧ (∀ j < 38, L j = true → y j = vv j) ∧ (fun (L : Nat → Bool) (wz : World) => Below wb.heap.size wb wz) L wI) ?acyc ?start ?step ?rdone
    case acyc => exact fun i o ho => acyc_of2 (by kernel_rfl) i o ho
    case start => exact mk (fun _ => false) _ _ rfl (fun _ _ h => by cases h) (by exact below_drew (below_drew (Below.refl _ _)))
    case step =>
      rintro i o L a wx ho hLi hdep ⟨y, rfl, hy, hWI⟩ K hK
      have hi : i < 38 := (Array.getElem?_eq_some_iff.1 ho).1
      rcases i with _ | _ | _ | _ | _ | _ | _ | _ | _ | _ | _ | _ | _ | _ | _ | _ | _ | _ | _ | _ | _ | _ | _ | _ | _ | _ | _ | _ | _ | _ | _ | _ | _ | _ | _ | _ | _ | _ | i
      · obtain rfl := Option.some.inj ho
        clear hdep ho
        obtain ⟨k0, k1, k2, k3⟩ := HW2.out _ hWI
        go_simp
        refine hK _ _ (mk _ _ _ rfl ?_ ?_)
        rotate_left
        · exact hWI
        · intro j hj h
          rcases j with _ | _ | _ | _ | _ | _ | _ | _ | _ | _ | _ | _ | _ | _ | _ | _ | _ | _ | _ | _ | _ | _ | _ | _ | _ | _ | _ | _ | _ | _ | _ | _ | _ | _ | _ | _ | _ | _ | j
          all_goals first | (rw [hvv]; rfl) | exact hy _ (by omega) (by simpa [put1] using h) | (exfalso; omega)
      · obtain rfl := Option.some.inj ho
        have d0 : L 0 = true := hdep ⟨0, .data⟩ (by simp) rfl
        have e0 : y 0 = .agg #[.int .i64 V, .slice Aq (bs.length + 1) cq, .int .i64 D, .int .i64 E] := (hy 0 (by omega) d0).trans (by rw [hvv]; rfl)
        clear hdep ho
        rw [e0]
        go_simp
        gi_wp2_with (refine ⟨trivial, ?_⟩; gi_at_call 18; refine (callsIn_wide.2 (SQ.out _ hWI)).mono ?_; rintro e w' ⟨rfl, hbx⟩)
        refine mk _ _ _ rfl ?_ ?_
        rotate_left
        · exact below_then hWI hWI.size hbx
        · intro j hj h
          rcases j with _ | _ | _ | _ | _ | _ | _ | _ | _ | _ | _ | _ | _ | _ | _ | _ | _ | _ | _ | _ | _ | _ | _ | _ | _ | _ | _ | _ | _ | _ | _ | _ | _ | _ | _ | _ | _ | _ | j
          all_goals first | (rw [hvv]; rfl) | exact hy _ (by omega) (by simpa [put1] using h) | (exfalso; omega)
      · obtain rfl := Option.some.inj ho
        clear hdep ho
        obtain ⟨k0, k1, k2, k3, _, _⟩ := HW.out _ hWI
        go_simp
        refine hK _ _ (mk _ _ _ rfl ?_ ?_)
        rotate_left
        · exact hWI
        · intro j hj h
          rcases j with _ | _ | _ | _ | _ | _ | _ | _ | _ | _ | _ | _ | _ | _ | _ | _ | _ | _ | _ | _ | _ | _ | _ | _ | _ | _ | _ | _ | _ | _ | _ | _ | _ | _ | _ | _ | _ | _ | j
          all_goals first | (rw [hvv]; rfl) | exact hy _ (by omega) (by simpa [put1] using h) | (exfalso; omega)
      · obtain rfl := Option.some.inj ho
        have d2 : L 2 = true := hdep ⟨2, .data⟩ (by simp) rfl
        have e2 : y 2 = .agg #[.int .i64 V, .slice A bs.length c, .int .i64 D, .int .i64 E] := (hy 2 (by omega) d2).trans (by rw [hvv]; rfl)
        clear hdep ho
        rw [e2]
        go_simp
        gi_wp2_with (refine ⟨trivial, ?_⟩; gi_at_call 18; refine (callsIn_wide.2 (SP.out _ hWI)).mono ?_; rintro e w' ⟨rfl, hbx⟩)
        refine mk _ _ _ rfl ?_ ?_
        rotate_left
        · exact below_then hWI hWI.size hbx
        · intro j hj h
          rcases j with _ | _ | _ | _ | _ | _ | _ | _ | _ | _ | _ | _ | _ | _ | _ | _ | _ | _ | _ | _ | _ | _ | _ | _ | _ | _ | _ | _ | _ | _ | _ | _ | _ | _ | _ | _ | _ | _ | j
          all_goals first | (rw [hvv]; rfl) | exact hy _ (by omega) (by simpa [put1] using h) | (exfalso; omega)
      · obtain rfl := Option.some.inj ho
        have d1 : L 1 = true := hdep ⟨1, .data⟩ (by simp) rfl
        have d3 : L 3 = true := hdep ⟨3, .data⟩ (by simp) rfl
        have e1 : y 1 = .int .i64 sq := (hy 1 (by omega) d1).trans (by rw [hvv]; rfl)
        have e3 : y 3 = .int .i64 sp := (hy 3 (by omega) d3).trans (by rw [hvv]; rfl)
        clear hdep ho
        rw [e1, e3]
        go_simp
        refine hK _ _ (mk _ _ _ rfl ?_ ?_)
        rotate_left
        · exact hWI
        · intro j hj h
          rcases j with _ | _ | _ | _ | _ | _ | _ | _ | _ | _ | _ | _ | _ | _ | _ | _ | _ | _ | _ | _ | _ | _ | _ | _ | _ | _ | _ | _ | _ | _ | _ | _ | _ | _ | _ | _ | _ | _ | j
          all_goals first | (rw [hvv]; rfl) | exact hy _ (by omega) (by simpa [put1] using h) | (exfalso; omega)
      · obtain rfl := Option.some.inj ho
        have d4 : L 4 = true := hdep ⟨4, .data⟩ (by simp) rfl
        have e4 : y 4 = .bool true := (hy 4 (by omega) d4).trans (by rw [hvv]; rfl)
        clear hdep ho
        rw [e4]
        go_simp
        refine hK _ _ (mk _ _ _ rfl ?_ ?_)
        rotate_left
        · exact hWI
        · intro j hj h
          rcases j with _ | _ | _ | _ | _ | _ | _ | _ | _ | _ | _ | _ | _ | _ | _ | _ | _ | _ | _ | _ | _ | _ | _ | _ | _ | _ | _ | _ | _ | _ | _ | _ | _ | _ | _ | _ | _ | _ | j
          all_goals first | (rw [hvv]; rfl) | exact hy _ (by omega) (by simpa [put1] using h) | (exfalso; omega)
      · obtain rfl := Option.some.inj ho
        have d5 : L 5 = true := hdep ⟨5, .guard⟩ (by simp) rfl
        have e5 : y 5 = .bool true := (hy 5 (by omega) d5).trans (by rw [hvv]; rfl)
        clear hdep ho
        rw [e5]
        rw [if_pos (by rfl)]
        obtain ⟨k0, k1, k2, k3⟩ := HW3.out _ hWI
        go_simp
        refine hK _ _ (mk _ _ _ rfl ?_ ?_)
        rotate_left
        · exact hWI
        · intro j hj h
          rcases j with _ | _ | _ | _ | _ | _ | _ | _ | _ | _ | _ | _ | _ | _ | _ | _ | _ | _ | _ | _ | _ | _ | _ | _ | _ | _ | _ | _ | _ | _ | _ | _ | _ | _ | _ | _ | _ | _ | j
          all_goals first | (rw [hvv]; rfl) | exact hy _ (by omega) (by simpa [put1] using h) | (exfalso; omega)
      · obtain rfl := Option.some.inj ho
        have d5 : L 5 = true := hdep ⟨5, .guard⟩ (by simp) rfl
        have d6 : L 6 = true := hdep ⟨6, .data⟩ (by simp) rfl
        have e5 : y 5 = .bool true := (hy 5 (by omega) d5).trans (by rw [hvv]; rfl)
        have e6 : y 6 = .agg #[.int .i64 V, .slice A bs.length c, .int .i64 D', .int .i64 E] := (hy 6 (by omega) d6).trans (by rw [hvv]; rfl)
        clear hdep ho
        rw [e5, e6]
        rw [if_pos (by rfl)]
        go_simp
        gi_wp2_with (refine ⟨trivial, ?_⟩; gi_at_call 18; refine (callsIn_wide.2 (SA.out _ hWI)).mono ?_; rintro e w' ⟨rfl, hbx⟩)
        refine mk _ _ _ rfl ?_ ?_
        rotate_left
        · exact below_then hWI hWI.size hbx
        · intro j hj h
          rcases j with _ | _ | _ | _ | _ | _ | _ | _ | _ | _ | _ | _ | _ | _ | _ | _ | _ | _ | _ | _ | _ | _ | _ | _ | _ | _ | _ | _ | _ | _ | _ | _ | _ | _ | _ | _ | _ | _ | j
          all_goals first | (rw [hvv]; rfl) | exact hy _ (by omega) (by simpa [put1] using h) | (exfalso; omega)
      · obtain rfl := Option.some.inj ho
        have d5 : L 5 = true := hdep ⟨5, .guard⟩ (by simp) rfl
        have e5 : y 5 = .bool true := (hy 5 (by omega) d5).trans (by rw [hvv]; rfl)
        clear hdep ho
        rw [e5]
        rw [if_pos (by rfl)]
        obtain ⟨k0, k1, k2, k3, _, _⟩ := HW.out _ hWI
        go_simp
        refine hK _ _ (mk _ _ _ rfl ?_ ?_)
        rotate_left
        · exact hWI
        · intro j hj h
          rcases j with _ | _ | _ | _ | _ | _ | _ | _ | _ | _ | _ | _ | _ | _ | _ | _ | _ | _ | _ | _ | _ | _ | _ | _ | _ | _ | _ | _ | _ | _ | _ | _ | _ | _ | _ | _ | _ | _ | j
          all_goals first | (rw [hvv]; rfl) | exact hy _ (by omega) (by simpa [put1] using h) | (exfalso; omega)
      · obtain rfl := Option.some.inj ho
        have d5 : L 5 = true := hdep ⟨5, .guard⟩ (by simp) rfl
        have d8 : L 8 = true := hdep ⟨8, .data⟩ (by simp) rfl
        have e5 : y 5 = .bool true := (hy 5 (by omega) d5).trans (by rw [hvv]; rfl)
        have e8 : y 8 = .agg #[.int .i64 V, .slice A bs.length c, .int .i64 D, .int .i64 E] := (hy 8 (by omega) d8).trans (by rw [hvv]; rfl)
        clear hdep ho
        rw [e5, e8]
        rw [if_pos (by rfl)]
        go_simp
        gi_wp2_with (refine ⟨trivial, ?_⟩; gi_at_call 18; refine (callsIn_wide.2 (SP.out _ hWI)).mono ?_; rintro e w' ⟨rfl, hbx⟩)
        refine mk _ _ _ rfl ?_ ?_
        rotate_left
        · exact below_then hWI hWI.size hbx
        · intro j hj h
          rcases j with _ | _ | _ | _ | _ | _ | _ | _ | _ | _ | _ | _ | _ | _ | _ | _ | _ | _ | _ | _ | _ | _ | _ | _ | _ | _ | _ | _ | _ | _ | _ | _ | _ | _ | _ | _ | _ | _ | j
          all_goals first | (rw [hvv]; rfl) | exact hy _ (by omega) (by simpa [put1] using h) | (exfalso; omega)
      · obtain rfl := Option.some.inj ho
        have d5 : L 5 = true := hdep ⟨5, .guard⟩ (by simp) rfl
        have d7 : L 7 = true := hdep ⟨7, .data⟩ (by simp) rfl
        have d9 : L 9 = true := hdep ⟨9, .data⟩ (by simp) rfl
        have e5 : y 5 = .bool true := (hy 5 (by omega) d5).trans (by rw [hvv]; rfl)
        have e7 : y 7 = .int .i64 sa := (hy 7 (by omega) d7).trans (by rw [hvv]; rfl)
        have e9 : y 9 = .int .i64 sp := (hy 9 (by omega) d9).trans (by rw [hvv]; rfl)
        clear hdep ho
        rw [e5, e7, e9]
        rw [if_pos (by rfl)]
        go_simp
        refine hK _ _ (mk _ _ _ rfl ?_ ?_)
        rotate_left
        · exact hWI
        · intro j hj h
          rcases j with _ | _ | _ | _ | _ | _ | _ | _ | _ | _ | _ | _ | _ | _ | _ | _ | _ | _ | _ | _ | _ | _ | _ | _ | _ | _ | _ | _ | _ | _ | _ | _ | _ | _ | _ | _ | _ | _ | j
          all_goals first | (rw [hvv]; rfl) | exact hy _ (by omega) (by simpa [put1] using h) | (exfalso; omega)
      · obtain rfl := Option.some.inj ho
        have d5 : L 5 = true := hdep ⟨5, .data⟩ (by simp) rfl
        have d10 : L 10 = true := hdep ⟨10, .data⟩ (by simp) rfl
        have e5 : y 5 = .bool true := (hy 5 (by omega) d5).trans (by rw [hvv]; rfl)
        have e10 : y 10 = .bool true := (hy 10 (by omega) d10).trans (by rw [hvv]; rfl)
        clear hdep ho
        rw [e5, e10]
        go_simp
        refine hK _ _ (mk _ _ _ rfl ?_ ?_)
        rotate_left
        · exact hWI
        · intro j hj h
          rcases j with _ | _ | _ | _ | _ | _ | _ | _ | _ | _ | _ | _ | _ | _ | _ | _ | _ | _ | _ | _ | _ | _ | _ | _ | _ | _ | _ | _ | _ | _ | _ | _ | _ | _ | _ | _ | _ | _ | j
          all_goals first | (rw [hvv]; rfl) | exact hy _ (by omega) (by simpa [put1] using h) | (exfalso; omega)
      · obtain rfl := Option.some.inj ho
        have d11 : L 11 = true := hdep ⟨11, .data⟩ (by simp) rfl
        have e11 : y 11 = .bool true := (hy 11 (by omega) d11).trans (by rw [hvv]; rfl)
        clear hdep ho
        rw [e11]
        go_simp
        refine hK _ _ (mk _ _ _ rfl ?_ ?_)
        rotate_left
        · exact hWI
        · intro j hj h
          rcases j with _ | _ | _ | _ | _ | _ | _ | _ | _ | _ | _ | _ | _ | _ | _ | _ | _ | _ | _ | _ | _ | _ | _ | _ | _ | _ | _ | _ | _ | _ | _ | _ | _ | _ | _ | _ | _ | _ | j
          all_goals first | (rw [hvv]; rfl) | exact hy _ (by omega) (by simpa [put1] using h) | (exfalso; omega)
      · obtain rfl := Option.some.inj ho
        have d12 : L 12 = true := hdep ⟨12, .guard⟩ (by simp) rfl
        have e12 : y 12 = .bool true := (hy 12 (by omega) d12).trans (by rw [hvv]; rfl)
        clear hdep ho
        rw [e12]
        rw [if_pos (by rfl)]
        obtain ⟨k0, k1, k2, k3⟩ := HW4.out _ hWI
        go_simp
        refine hK _ _ (mk _ _ _ rfl ?_ ?_)
        rotate_left
        · exact hWI
        · intro j hj h
          rcases j with _ | _ | _ | _ | _ | _ | _ | _ | _ | _ | _ | _ | _ | _ | _ | _ | _ | _ | _ | _ | _ | _ | _ | _ | _ | _ | _ | _ | _ | _ | _ | _ | _ | _ | _ | _ | _ | _ | j
          all_goals first | (rw [hvv]; rfl) | exact hy _ (by omega) (by simpa [put1] using h) | (exfalso; omega)
      · obtain rfl := Option.some.inj ho
        have d12 : L 12 = true := hdep ⟨12, .guard⟩ (by simp) rfl
        have d13 : L 13 = true := hdep ⟨13, .data⟩ (by simp) rfl
        have e12 : y 12 = .bool true := (hy 12 (by omega) d12).trans (by rw [hvv]; rfl)
        have e13 : y 13 = .agg #[.int .i64 V, .slice A bs.length c, .int .i64 D, .int .i64 ((E : Int) + 1)] := (hy 13 (by omega) d13).trans (by rw [hvv]; rfl)
        clear hdep ho
        rw [e12, e13]
        rw [if_pos (by rfl)]
        go_simp
        gi_wp2_with (refine ⟨trivial, ?_⟩; gi_at_call 22; refine (callsIn_wide.2 (BM.out _ hWI)).mono ?_; rintro e w' ⟨rfl, hbx⟩)
        refine mk _ _ _ rfl ?_ ?_
        rotate_left
        · exact below_then hWI hWI.size hbx
        · intro j hj h
          rcases j with _ | _ | _ | _ | _ | _ | _ | _ | _ | _ | _ | _ | _ | _ | _ | _ | _ | _ | _ | _ | _ | _ | _ | _ | _ | _ | _ | _ | _ | _ | _ | _ | _ | _ | _ | _ | _ | _ | j
          all_goals first | (rw [hvv]; rfl) | exact hy _ (by omega) (by simpa [put1] using h) | (exfalso; omega)
      · obtain rfl := Option.some.inj ho
        have d12 : L 12 = true := hdep ⟨12, .guard⟩ (by simp) rfl
        have e12 : y 12 = .bool true := (hy 12 (by omega) d12).trans (by rw [hvv]; rfl)
        clear hdep ho
        rw [e12]
        rw [if_pos (by rfl)]
        obtain ⟨k0, k1, k2, k3, _, _⟩ := HW.out _ hWI
        go_simp
        refine hK _ _ (mk _ _ _ rfl ?_ ?_)
        rotate_left
        · exact hWI
        · intro j hj h
          rcases j with _ | _ | _ | _ | _ | _ | _ | _ | _ | _ | _ | _ | _ | _ | _ | _ | _ | _ | _ | _ | _ | _ | _ | _ | _ | _ | _ | _ | _ | _ | _ | _ | _ | _ | _ | _ | _ | _ | j
          all_goals first | (rw [hvv]; rfl) | exact hy _ (by omega) (by simpa [put1] using h) | (exfalso; omega)
      · obtain rfl := Option.some.inj ho
        have d12 : L 12 = true := hdep ⟨12, .guard⟩ (by simp) rfl
        have d15 : L 15 = true := hdep ⟨15, .data⟩ (by simp) rfl
        have e12 : y 12 = .bool true := (hy 12 (by omega) d12).trans (by rw [hvv]; rfl)
        have e15 : y 15 = .agg #[.int .i64 V, .slice A bs.length c, .int .i64 D, .int .i64 E] := (hy 15 (by omega) d15).trans (by rw [hvv]; rfl)
        clear hdep ho
        rw [e12, e15]
        rw [if_pos (by rfl)]
        go_simp
        gi_wp2_with (refine ⟨trivial, ?_⟩; gi_at_call 22; refine (callsIn_wide.2 (BP.out _ hWI)).mono ?_; rintro e w' ⟨rfl, hbx⟩)
        refine mk _ _ _ rfl ?_ ?_
        rotate_left
        · exact below_then hWI hWI.size hbx
        · intro j hj h
          rcases j with _ | _ | _ | _ | _ | _ | _ | _ | _ | _ | _ | _ | _ | _ | _ | _ | _ | _ | _ | _ | _ | _ | _ | _ | _ | _ | _ | _ | _ | _ | _ | _ | _ | _ | _ | _ | _ | _ | j
          all_goals first | (rw [hvv]; rfl) | exact hy _ (by omega) (by simpa [put1] using h) | (exfalso; omega)
      · obtain rfl := Option.some.inj ho
        have d12 : L 12 = true := hdep ⟨12, .guard⟩ (by simp) rfl
        have d14 : L 14 = true := hdep ⟨14, .data⟩ (by simp) rfl
        have d16 : L 16 = true := hdep ⟨16, .data⟩ (by simp) rfl
        have e12 : y 12 = .bool true := (hy 12 (by omega) d12).trans (by rw [hvv]; rfl)
        have e14 : y 14 = .int .i64 bz' := (hy 14 (by omega) d14).trans (by rw [hvv]; rfl)
        have e16 : y 16 = .int .i64 bz := (hy 16 (by omega) d16).trans (by rw [hvv]; rfl)
        clear hdep ho
        rw [e12, e14, e16]
        rw [if_pos (by rfl)]
        go_simp
        refine hK _ _ (mk _ _ _ rfl ?_ ?_)
        rotate_left
        · exact hWI
        · intro j hj h
          rcases j with _ | _ | _ | _ | _ | _ | _ | _ | _ | _ | _ | _ | _ | _ | _ | _ | _ | _ | _ | _ | _ | _ | _ | _ | _ | _ | _ | _ | _ | _ | _ | _ | _ | _ | _ | _ | _ | _ | j
          all_goals first | (rw [hvv]; rfl) | exact hy _ (by omega) (by simpa [put1] using h) | (exfalso; omega)
      · obtain rfl := Option.some.inj ho
        have d12 : L 12 = true := hdep ⟨12, .data⟩ (by simp) rfl
        have d17 : L 17 = true := hdep ⟨17, .data⟩ (by simp) rfl
        have e12 : y 12 = .bool true := (hy 12 (by omega) d12).trans (by rw [hvv]; rfl)
        have e17 : y 17 = .bool true := (hy 17 (by omega) d17).trans (by rw [hvv]; rfl)
        clear hdep ho
        rw [e12, e17]
        go_simp
        refine hK _ _ (mk _ _ _ rfl ?_ ?_)
        rotate_left
        · exact hWI
        · intro j hj h
          rcases j with _ | _ | _ | _ | _ | _ | _ | _ | _ | _ | _ | _ | _ | _ | _ | _ | _ | _ | _ | _ | _ | _ | _ | _ | _ | _ | _ | _ | _ | _ | _ | _ | _ | _ | _ | _ | _ | _ | j
          all_goals first | (rw [hvv]; rfl) | exact hy _ (by omega) (by simpa [put1] using h) | (exfalso; omega)
      · obtain rfl := Option.some.inj ho
        have d18 : L 18 = true := hdep ⟨18, .data⟩ (by simp) rfl
        have e18 : y 18 = .bool true := (hy 18 (by omega) d18).trans (by rw [hvv]; rfl)
        clear hdep ho
        rw [e18]
        go_simp
        refine hK _ _ (mk _ _ _ rfl ?_ ?_)
        rotate_left
        · exact hWI
        · intro j hj h
          rcases j with _ | _ | _ | _ | _ | _ | _ | _ | _ | _ | _ | _ | _ | _ | _ | _ | _ | _ | _ | _ | _ | _ | _ | _ | _ | _ | _ | _ | _ | _ | _ | _ | _ | _ | _ | _ | _ | _ | j
          all_goals first | (rw [hvv]; rfl) | exact hy _ (by omega) (by simpa [put1] using h) | (exfalso; omega)
      · obtain rfl := Option.some.inj ho
        have d19 : L 19 = true := hdep ⟨19, .guard⟩ (by simp) rfl
        have e19 : y 19 = .bool true := (hy 19 (by omega) d19).trans (by rw [hvv]; rfl)
        clear hdep ho
        rw [e19]
        rw [if_pos (by rfl)]
        obtain ⟨k0, k1, k2, k3, _, _⟩ := HW.out _ hWI
        go_simp
        refine hK _ _ (mk _ _ _ rfl ?_ ?_)
        rotate_left
        · exact hWI
        · intro j hj h
          rcases j with _ | _ | _ | _ | _ | _ | _ | _ | _ | _ | _ | _ | _ | _ | _ | _ | _ | _ | _ | _ | _ | _ | _ | _ | _ | _ | _ | _ | _ | _ | _ | _ | _ | _ | _ | _ | _ | _ | j
          all_goals first | (rw [hvv]; rfl) | exact hy _ (by omega) (by simpa [put1] using h) | (exfalso; omega)
      · obtain rfl := Option.some.inj ho
        have d19 : L 19 = true := hdep ⟨19, .guard⟩ (by simp) rfl
        have e19 : y 19 = .bool true := (hy 19 (by omega) d19).trans (by rw [hvv]; rfl)
        clear hdep ho
        rw [e19]
        rw [if_pos (by rfl)]
        go_simp
        refine hK _ _ (mk _ _ _ rfl ?_ ?_)
        rotate_left
        · exact hWI
        · intro j hj h
          rcases j with _ | _ | _ | _ | _ | _ | _ | _ | _ | _ | _ | _ | _ | _ | _ | _ | _ | _ | _ | _ | _ | _ | _ | _ | _ | _ | _ | _ | _ | _ | _ | _ | _ | _ | _ | _ | _ | _ | j
          all_goals first | (rw [hvv]; rfl) | exact hy _ (by omega) (by simpa [put1] using h) | (exfalso; omega)
      · obtain rfl := Option.some.inj ho
        have d19 : L 19 = true := hdep ⟨19, .guard⟩ (by simp) rfl
        have e19 : y 19 = .bool true := (hy 19 (by omega) d19).trans (by rw [hvv]; rfl)
        clear hdep ho
        rw [e19]
        rw [if_pos (by rfl)]
        go_simp
        refine hK _ _ (mk _ _ _ rfl ?_ ?_)
        rotate_left
        · exact hWI
        · intro j hj h
          rcases j with _ | _ | _ | _ | _ | _ | _ | _ | _ | _ | _ | _ | _ | _ | _ | _ | _ | _ | _ | _ | _ | _ | _ | _ | _ | _ | _ | _ | _ | _ | _ | _ | _ | _ | _ | _ | _ | _ | j
          all_goals first | (rw [hvv]; rfl) | exact hy _ (by omega) (by simpa [put1] using h) | (exfalso; omega)
      · obtain rfl := Option.some.inj ho
        have d19 : L 19 = true := hdep ⟨19, .guard⟩ (by simp) rfl
        have d21 : L 21 = true := hdep ⟨21, .data⟩ (by simp) rfl
        have d22 : L 22 = true := hdep ⟨22, .data⟩ (by simp) rfl
        have e19 : y 19 = .bool true := (hy 19 (by omega) d19).trans (by rw [hvv]; rfl)
        have e21 : y 21 = .int .u64 (t0 : Int) := (hy 21 (by omega) d21).trans (by rw [hvv]; rfl)
        have e22 : y 22 = .int .u64 (t1 : Int) := (hy 22 (by omega) d22).trans (by rw [hvv]; rfl)
        clear hdep ho
        rw [e19, e21, e22]
        rw [if_pos (by rfl)]
        go_simp
        refine hK _ _ (mk _ _ _ rfl ?_ ?_)
        rotate_left
        · exact hWI
        · intro j hj h
          rcases j with _ | _ | _ | _ | _ | _ | _ | _ | _ | _ | _ | _ | _ | _ | _ | _ | _ | _ | _ | _ | _ | _ | _ | _ | _ | _ | _ | _ | _ | _ | _ | _ | _ | _ | _ | _ | _ | _ | j
          all_goals first | (rw [hvv]; rfl) | exact hy _ (by omega) (by simpa [put1] using h) | (exfalso; omega)
      · obtain rfl := Option.some.inj ho
        have d19 : L 19 = true := hdep ⟨19, .guard⟩ (by simp) rfl
        have d20 : L 20 = true := hdep ⟨20, .data⟩ (by simp) rfl
        have d23 : L 23 = true := hdep ⟨23, .data⟩ (by simp) rfl
        have e19 : y 19 = .bool true := (hy 19 (by omega) d19).trans (by rw [hvv]; rfl)
        have e20 : y 20 = .agg #[.int .i64 V, .slice A bs.length c, .int .i64 D, .int .i64 E] := (hy 20 (by omega) d20).trans (by rw [hvv]; rfl)
        have e23 : y 23 = .int .u64 (tt : Int) := (hy 23 (by omega) d23).trans (by rw [hvv]; rfl)
        clear hdep ho
        rw [e19, e20, e23]
        rw [if_pos (by rfl)]
        go_simp
        gi_wp2_with (refine ⟨trivial, ?_⟩; gi_at_call 26; refine (callsIn_wide.2 (PC.out _ hWI)).mono ?_; rintro e w' ⟨rfl, hbx⟩)
        refine mk _ _ _ rfl ?_ ?_
        rotate_left
        · exact below_then hWI hWI.size hbx
        · intro j hj h
          rcases j with _ | _ | _ | _ | _ | _ | _ | _ | _ | _ | _ | _ | _ | _ | _ | _ | _ | _ | _ | _ | _ | _ | _ | _ | _ | _ | _ | _ | _ | _ | _ | _ | _ | _ | _ | _ | _ | _ | j
          all_goals first | (rw [hvv]; rfl) | exact hy _ (by omega) (by simpa [put1] using h) | (exfalso; omega)
      · obtain rfl := Option.some.inj ho
        have d19 : L 19 = true := hdep ⟨19, .guard⟩ (by simp) rfl
        have e19 : y 19 = .bool true := (hy 19 (by omega) d19).trans (by rw [hvv]; rfl)
        clear hdep ho
        rw [e19]
        rw [if_pos (by rfl)]
        obtain ⟨k0, k1, k2, k3, _, _⟩ := HW.out _ hWI
        go_simp
        refine hK _ _ (mk _ _ _ rfl ?_ ?_)
        rotate_left
        · exact hWI
        · intro j hj h
          rcases j with _ | _ | _ | _ | _ | _ | _ | _ | _ | _ | _ | _ | _ | _ | _ | _ | _ | _ | _ | _ | _ | _ | _ | _ | _ | _ | _ | _ | _ | _ | _ | _ | _ | _ | _ | _ | _ | _ | j
          all_goals first | (rw [hvv]; rfl) | exact hy _ (by omega) (by simpa [put1] using h) | (exfalso; omega)
      · obtain rfl := Option.some.inj ho
        have d19 : L 19 = true := hdep ⟨19, .guard⟩ (by simp) rfl
        have e19 : y 19 = .bool true := (hy 19 (by omega) d19).trans (by rw [hvv]; rfl)
        clear hdep ho
        rw [e19]
        rw [if_pos (by rfl)]
        go_simp
        refine hK _ _ (mk _ _ _ rfl ?_ ?_)
        rotate_left
        · exact hWI
        · intro j hj h
          rcases j with _ | _ | _ | _ | _ | _ | _ | _ | _ | _ | _ | _ | _ | _ | _ | _ | _ | _ | _ | _ | _ | _ | _ | _ | _ | _ | _ | _ | _ | _ | _ | _ | _ | _ | _ | _ | _ | _ | j
          all_goals first | (rw [hvv]; rfl) | exact hy _ (by omega) (by simpa [put1] using h) | (exfalso; omega)
      · obtain rfl := Option.some.inj ho
        have d19 : L 19 = true := hdep ⟨19, .guard⟩ (by simp) rfl
        have d25 : L 25 = true := hdep ⟨25, .data⟩ (by simp) rfl
        have d26 : L 26 = true := hdep ⟨26, .data⟩ (by simp) rfl
        have e19 : y 19 = .bool true := (hy 19 (by omega) d19).trans (by rw [hvv]; rfl)
        have e25 : y 25 = .agg #[.int .i64 V, .slice A bs.length c, .int .i64 D, .int .i64 E] := (hy 25 (by omega) d25).trans (by rw [hvv]; rfl)
        have e26 : y 26 = .int .u64 (t0 : Int) := (hy 26 (by omega) d26).trans (by rw [hvv]; rfl)
        clear hdep ho
        rw [e19, e25, e26]
        rw [if_pos (by rfl)]
        go_simp
        gi_wp2_with (refine ⟨trivial, ?_⟩; gi_at_call 26; refine (callsIn_wide.2 (PA.out _ hWI)).mono ?_; rintro e w' ⟨rfl, hbx⟩)
        refine mk _ _ _ rfl ?_ ?_
        rotate_left
        · exact below_then hWI hWI.size hbx
        · intro j hj h
          rcases j with _ | _ | _ | _ | _ | _ | _ | _ | _ | _ | _ | _ | _ | _ | _ | _ | _ | _ | _ | _ | _ | _ | _ | _ | _ | _ | _ | _ | _ | _ | _ | _ | _ | _ | _ | _ | _ | _ | j
          all_goals first | (rw [hvv]; rfl) | exact hy _ (by omega) (by simpa [put1] using h) | (exfalso; omega)
      · obtain rfl := Option.some.inj ho
        have d19 : L 19 = true := hdep ⟨19, .guard⟩ (by simp) rfl
        have e19 : y 19 = .bool true := (hy 19 (by omega) d19).trans (by rw [hvv]; rfl)
        clear hdep ho
        rw [e19]
        rw [if_pos (by rfl)]
        obtain ⟨k0, k1, k2, k3, _, _⟩ := HW.out _ hWI
        go_simp
        refine hK _ _ (mk _ _ _ rfl ?_ ?_)
        rotate_left
        · exact hWI
        · intro j hj h
          rcases j with _ | _ | _ | _ | _ | _ | _ | _ | _ | _ | _ | _ | _ | _ | _ | _ | _ | _ | _ | _ | _ | _ | _ | _ | _ | _ | _ | _ | _ | _ | _ | _ | _ | _ | _ | _ | _ | _ | j
          all_goals first | (rw [hvv]; rfl) | exact hy _ (by omega) (by simpa [put1] using h) | (exfalso; omega)
      · obtain rfl := Option.some.inj ho
        have d19 : L 19 = true := hdep ⟨19, .guard⟩ (by simp) rfl
        have e19 : y 19 = .bool true := (hy 19 (by omega) d19).trans (by rw [hvv]; rfl)
        clear hdep ho
        rw [e19]
        rw [if_pos (by rfl)]
        go_simp
        refine hK _ _ (mk _ _ _ rfl ?_ ?_)
        rotate_left
        · exact hWI
        · intro j hj h
          rcases j with _ | _ | _ | _ | _ | _ | _ | _ | _ | _ | _ | _ | _ | _ | _ | _ | _ | _ | _ | _ | _ | _ | _ | _ | _ | _ | _ | _ | _ | _ | _ | _ | _ | _ | _ | _ | _ | _ | j
          all_goals first | (rw [hvv]; rfl) | exact hy _ (by omega) (by simpa [put1] using h) | (exfalso; omega)
      · obtain rfl := Option.some.inj ho
        have d19 : L 19 = true := hdep ⟨19, .guard⟩ (by simp) rfl
        have d28 : L 28 = true := hdep ⟨28, .data⟩ (by simp) rfl
        have d29 : L 29 = true := hdep ⟨29, .data⟩ (by simp) rfl
        have e19 : y 19 = .bool true := (hy 19 (by omega) d19).trans (by rw [hvv]; rfl)
        have e28 : y 28 = .agg #[.int .i64 V, .slice A bs.length c, .int .i64 D, .int .i64 E] := (hy 28 (by omega) d28).trans (by rw [hvv]; rfl)
        have e29 : y 29 = .int .u64 (t1 : Int) := (hy 29 (by omega) d29).trans (by rw [hvv]; rfl)
        clear hdep ho
        rw [e19, e28, e29]
        rw [if_pos (by rfl)]
        go_simp
        gi_wp2_with (refine ⟨trivial, ?_⟩; gi_at_call 26; refine (callsIn_wide.2 (PB.out _ hWI)).mono ?_; rintro e w' ⟨rfl, hbx⟩)
        refine mk _ _ _ rfl ?_ ?_
        rotate_left
        · exact below_then hWI hWI.size hbx
        · intro j hj h
          rcases j with _ | _ | _ | _ | _ | _ | _ | _ | _ | _ | _ | _ | _ | _ | _ | _ | _ | _ | _ | _ | _ | _ | _ | _ | _ | _ | _ | _ | _ | _ | _ | _ | _ | _ | _ | _ | _ | _ | j
          all_goals first | (rw [hvv]; rfl) | exact hy _ (by omega) (by simpa [put1] using h) | (exfalso; omega)
      · obtain rfl := Option.some.inj ho
        have d19 : L 19 = true := hdep ⟨19, .guard⟩ (by simp) rfl
        have d27 : L 27 = true := hdep ⟨27, .data⟩ (by simp) rfl
        have d30 : L 30 = true := hdep ⟨30, .data⟩ (by simp) rfl
        have e19 : y 19 = .bool true := (hy 19 (by omega) d19).trans (by rw [hvv]; rfl)
        have e27 : y 27 = .int .u64 (pa : Int) := (hy 27 (by omega) d27).trans (by rw [hvv]; rfl)
        have e30 : y 30 = .int .u64 (pb : Int) := (hy 30 (by omega) d30).trans (by rw [hvv]; rfl)
        clear hdep ho
        rw [e19, e27, e30]
        rw [if_pos (by rfl)]
        go_simp
        refine hK _ _ (mk _ _ _ rfl ?_ ?_)
        rotate_left
        · exact hWI
        · intro j hj h
          rcases j with _ | _ | _ | _ | _ | _ | _ | _ | _ | _ | _ | _ | _ | _ | _ | _ | _ | _ | _ | _ | _ | _ | _ | _ | _ | _ | _ | _ | _ | _ | _ | _ | _ | _ | _ | _ | _ | _ | j
          all_goals first | (rw [hvv]; rfl) | exact hy _ (by omega) (by simpa [put1] using h) | (exfalso; omega)
      · obtain rfl := Option.some.inj ho
        have d19 : L 19 = true := hdep ⟨19, .guard⟩ (by simp) rfl
        have d24 : L 24 = true := hdep ⟨24, .data⟩ (by simp) rfl
        have d31 : L 31 = true := hdep ⟨31, .data⟩ (by simp) rfl
        have e19 : y 19 = .bool true := (hy 19 (by omega) d19).trans (by rw [hvv]; rfl)
        have e24 : y 24 = .int .u64 (pc : Int) := (hy 24 (by omega) d24).trans (by rw [hvv]; rfl)
        have e31 : y 31 = .int .u64 (pc : Int) := (hy 31 (by omega) d31).trans (by rw [hvv]; rfl)
        clear hdep ho
        rw [e19, e24, e31]
        rw [if_pos (by rfl)]
        go_simp
        refine hK _ _ (mk _ _ _ rfl ?_ ?_)
        rotate_left
        · exact hWI
        · intro j hj h
          rcases j with _ | _ | _ | _ | _ | _ | _ | _ | _ | _ | _ | _ | _ | _ | _ | _ | _ | _ | _ | _ | _ | _ | _ | _ | _ | _ | _ | _ | _ | _ | _ | _ | _ | _ | _ | _ | _ | _ | j
          all_goals first | (rw [hvv]; rfl) | exact hy _ (by omega) (by simpa [put1] using h) | (exfalso; omega)
      · obtain rfl := Option.some.inj ho
        have d19 : L 19 = true := hdep ⟨19, .data⟩ (by simp) rfl
        have d32 : L 32 = true := hdep ⟨32, .data⟩ (by simp) rfl
        have e19 : y 19 = .bool true := (hy 19 (by omega) d19).trans (by rw [hvv]; rfl)
        have e32 : y 32 = .bool true := (hy 32 (by omega) d32).trans (by rw [hvv]; rfl)
        clear hdep ho
        rw [e19, e32]
        go_simp
        refine hK _ _ (mk _ _ _ rfl ?_ ?_)
        rotate_left
        · exact hWI
        · intro j hj h
          rcases j with _ | _ | _ | _ | _ | _ | _ | _ | _ | _ | _ | _ | _ | _ | _ | _ | _ | _ | _ | _ | _ | _ | _ | _ | _ | _ | _ | _ | _ | _ | _ | _ | _ | _ | _ | _ | _ | _ | j
          all_goals first | (rw [hvv]; rfl) | exact hy _ (by omega) (by simpa [put1] using h) | (exfalso; omega)
      · obtain rfl := Option.some.inj ho
        have d33 : L 33 = true := hdep ⟨33, .data⟩ (by simp) rfl
        have e33 : y 33 = .bool true := (hy 33 (by omega) d33).trans (by rw [hvv]; rfl)
        clear hdep ho
        rw [e33]
        go_simp
        refine hK _ _ (mk _ _ _ rfl ?_ ?_)
        rotate_left
        · exact hWI
        · intro j hj h
          rcases j with _ | _ | _ | _ | _ | _ | _ | _ | _ | _ | _ | _ | _ | _ | _ | _ | _ | _ | _ | _ | _ | _ | _ | _ | _ | _ | _ | _ | _ | _ | _ | _ | _ | _ | _ | _ | _ | _ | j
          all_goals first | (rw [hvv]; rfl) | exact hy _ (by omega) (by simpa [put1] using h) | (exfalso; omega)
      · obtain rfl := Option.some.inj ho
        have d34 : L 34 = true := hdep ⟨34, .guard⟩ (by simp) rfl
        have e34 : y 34 = .bool true := (hy 34 (by omega) d34).trans (by rw [hvv]; rfl)
        clear hdep ho
        rw [e34]
        rw [if_pos (by rfl)]
        go_simp
        refine hK _ _ (mk _ _ _ rfl ?_ ?_)
        rotate_left
        · exact hWI
        · intro j hj h
          rcases j with _ | _ | _ | _ | _ | _ | _ | _ | _ | _ | _ | _ | _ | _ | _ | _ | _ | _ | _ | _ | _ | _ | _ | _ | _ | _ | _ | _ | _ | _ | _ | _ | _ | _ | _ | _ | _ | _ | j
          all_goals first | (rw [hvv]; rfl) | exact hy _ (by omega) (by simpa [put1] using h) | (exfalso; omega)
      · obtain rfl := Option.some.inj ho
        have d34 : L 34 = true := hdep ⟨34, .data⟩ (by simp) rfl
        have d35 : L 35 = true := hdep ⟨35, .data⟩ (by simp) rfl
        have e34 : y 34 = .bool true := (hy 34 (by omega) d34).trans (by rw [hvv]; rfl)
        have e35 : y 35 = .bool true := (hy 35 (by omega) d35).trans (by rw [hvv]; rfl)
        clear hdep ho
        rw [e34, e35]
        go_simp
        refine hK _ _ (mk _ _ _ rfl ?_ ?_)
        rotate_left
        · exact hWI
        · intro j hj h
          rcases j with _ | _ | _ | _ | _ | _ | _ | _ | _ | _ | _ | _ | _ | _ | _ | _ | _ | _ | _ | _ | _ | _ | _ | _ | _ | _ | _ | _ | _ | _ | _ | _ | _ | _ | _ | _ | _ | _ | j
          all_goals first | (rw [hvv]; rfl) | exact hy _ (by omega) (by simpa [put1] using h) | (exfalso; omega)
      · obtain rfl := Option.some.inj ho
        have d36 : L 36 = true := hdep ⟨36, .data⟩ (by simp) rfl
        have e36 : y 36 = .bool true := (hy 36 (by omega) d36).trans (by rw [hvv]; rfl)
        clear hdep ho
        rw [e36]
        go_simp
        refine hK _ _ (mk _ _ _ rfl ?_ ?_)
        rotate_left
        · exact hWI
        · intro j hj h
          rcases j with _ | _ | _ | _ | _ | _ | _ | _ | _ | _ | _ | _ | _ | _ | _ | _ | _ | _ | _ | _ | _ | _ | _ | _ | _ | _ | _ | _ | _ | _ | _ | _ | _ | _ | _ | _ | _ | _ | j
          all_goals first | (rw [hvv]; rfl) | exact hy _ (by omega) (by simpa [put1] using h) | (exfalso; omega)
      · exfalso; omega
    case rdone =>
      rintro L a wd hall ⟨y, rfl, hy, hWI⟩
      have e37 : y 37 = .bool true := (hy 37 (by omega) (hall 37 (by decide))).trans (by rw [hvv]; rfl)
      rw [e37]
      clear mk hvv hy hall
      go_wp2
      go_ret
      exact ⟨rfl, below_then bwb bwb.size hWI⟩
end Go.Proofs.Ytmfmlfaglemgfaa
