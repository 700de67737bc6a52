/- (*design.search).class, walked: the search for a resolution. -/
import Derived.Test.YtoiahjncpngkeaaDoorNx
import Derived.BigRegion
import Derived.StillTailTactics
namespace Go.Proofs.YtoiahjncpngkeaaDoor
set_option linter.unusedSimpArgs false
set_option linter.unusedVariables false
open Go.RowKit Go.Lib Go.Proofs.YtoiahjncpngkeaaDoorW.PrintWords

theorem full_form {V : Nat} (h : V ≤ 7) : IntKind.u64.wrap (IntKind.u64.wrap ((2 : Int) ^ V) - 1) = ((2 ^ V - 1 : Nat) : Int) := by
  rcases V with _ | _ | _ | _ | _ | _ | _ | _ | V <;> first | rfl | omega

set_option maxHeartbeats 1000000 in
set_option maxRecDepth 100000 in
theorem class_full (w0 : World) (g V : Nat) (A : Option Addr) (n c : Nat) (bs : List Nat) (f : Nat) (hC : ClassP w0 g V A n c bs f) (hB : BlC w0 A n bs) (hn : n ≤ 14) (hV1 : 1 ≤ V) (hV : V ≤ 7) (hg : w0.heap.size ≤ g) (hT : TabOk w0)
    (u : Nat) (out : List (List Nat)) (cur : List Nat) (i all : Nat) (W : World) (outv : Value) (vs : List Value) (hP : SPre w0 g w0.heap.size V A n c bs u out cur W outv vs) (hp : pot bs.length u cur i ≤ f + 1) (hi : i ≤ bs.length) (hca : cur = [] → all = 0)
    (hall : all = 2 ^ V - 1) :
    Calls Tryd.prog 72 #[.pointer (some ⟨g, 0, none⟩), .int .i64 i, .int .u64 all] W (SPost w0 g w0.heap.size V A n c (rgo V bs (f + 1) u out cur i all) u (out.map il ++ [il cur])) := by
  have hpow : 2 ≤ 2 ^ V := Nat.pow_le_pow_right (n := 2) (by decide) hV1
  have hc : cur ≠ [] := fun e => by have := hca e; omega
  obtain ⟨hn1, -⟩ := id hB
  subst hn1
  have hroom := hP.room
  rw [if_neg hc] at hroom
  have NX := next_any w0 g V A bs.length c bs f hC hB hn hV hg hT u (out ++ [cur]) W outv vs hP.used (by simp; omega) hP.below hP.var (by simpa using hP.rows) (by have := pot_next (n := bs.length) (u := u) (i := i) (j := fz bs.length u) hc hi; omega)
  rw [← rgo_full (f := f) (i := i) hall] at NX
  have NX := hid NX
  have c0 : W.cell? ⟨g, 0, none⟩ = some (.int .i64 V) := (blk_cell hP.var 0).trans rfl
  have hal : ((all : Int) == IntKind.u64.wrap (IntKind.u64.wrap ((2 : Int) ^ V) - 1)) = true := by rw [full_form hV, hall]; simp
  clear hroom hp hca hC hc hall hpow
  have HP := hid hP
  clear hP hT hB
  go_enter Tryd.func72, Tryd.ntmps72
  go_wp2
  go_step3
  go_wp2_with (go_at_call 63; refine NX.out.mono ?_; rintro e W' ⟨ov, vs', u', hb', hS', ⟨r, hr, rfl, hO'⟩ | ⟨hr, rfl, h2, extra, h3⟩⟩; all_goals have HR := hid hr; all_goals clear hr)
  · rw [Exit.noGoto_ret]
    go_ret
    exact ⟨ov, vs', u', hb', hS', .inl ⟨r, HR.out, rfl, hO'⟩⟩
  · rw [Exit.noGoto_ret]
    go_ret
    exact ⟨ov, vs', u', hb', hS', .inr ⟨HR.out, rfl, h2, extra, by simpa using h3⟩⟩

theorem andnot_form {u j : Nat} (hu : u < 2 ^ 64) (hj : j < 64) (hb : u.testBit j = false) : bits BinOp.andNot IntKind.u64 ((u ||| 2 ^ j : Nat) : Int) (IntKind.u64.wrap ((2 : Int) ^ j)) = (u : Int) := by
  have h : 2 ^ j < 2 ^ 64 := Nat.pow_lt_pow_right (by omega) hj
  have ho : u ||| 2 ^ j < 2 ^ 64 := Nat.or_lt_two_pow hu h
  rw [show ((2 : Int) ^ j) = ((2 ^ j : Nat) : Int) from by simp, wrapU_nat h, u64_andNot_nat _ _ ho h]
  congr 1
  apply Nat.eq_of_testBit_eq
  intro i
  rw [Nat.testBit_and, testBit_or_pow, show 18446744073709551615 - 2 ^ j = 2 ^ 64 - (2 ^ j + 1) from by omega, Nat.testBit_two_pow_sub_succ (by omega), Nat.testBit_two_pow]
  by_cases hij : j = i
  · subst hij; simp [hb]
  · have : (i == j) = false := by simp; omega
    rw [this]
    by_cases hi : i < 64
    · simp [hi, hij]
    · have : u.testBit i = false := Nat.testBit_lt_two_pow (Nat.lt_of_lt_of_le hu (Nat.pow_le_pow_right (by decide) (by omega)))
      simp [this]
/-- The last block goes out of the class that is built. -/
theorem drop_step {w0 w : World} {g V n c u m go cap j : Nat} {A : Option Addr} {vs : List Value} {rows : List (List Int)} {cur : List Nat}
    (hS : Srch w g V A n c u (.slice (some ⟨go, 0, none⟩) (m + 1) cap)) (hO : OutC w w0.heap.size (.slice (some ⟨go, 0, none⟩) (m + 1) cap) vs rows) (hr : rows[m]? = some (il (cur ++ [j]))) (hb : Below w0.heap.size w0 w) :
    ∃ g3 c3, w.cell? ⟨go, m, none⟩ = some (.slice (some ⟨g3, 0, none⟩) (cur.length + 1) c3) ∧ w.frozen? ⟨go, m, none⟩ = false ∧ cur.length + 1 ≤ c3 ∧ c3 ≤ 9223372036854775807 ∧
      Srch (w.setCell ⟨go, m, none⟩ (.slice (some ⟨g3, 0, none⟩) cur.length c3)) g V A n c u (.slice (some ⟨go, 0, none⟩) (m + 1) cap) ∧
      OutC (w.setCell ⟨go, m, none⟩ (.slice (some ⟨g3, 0, none⟩) cur.length c3)) w0.heap.size (.slice (some ⟨go, 0, none⟩) (m + 1) cap) (vs.set m (.slice (some ⟨g3, 0, none⟩) cur.length c3)) (rows.set m (il cur)) ∧
      (w.setCell ⟨go, m, none⟩ (.slice (some ⟨g3, 0, none⟩) cur.length c3)).cell? ⟨go, m, none⟩ = some (.slice (some ⟨g3, 0, none⟩) cur.length c3) ∧
      Below w0.heap.size w0 (w.setCell ⟨go, m, none⟩ (.slice (some ⟨g3, 0, none⟩) cur.length c3)) ∧ go ≠ g := by
  have hml : m < rows.length := (List.getElem?_eq_some_iff.1 hr).1
  obtain ⟨go', cap', e, hB, hlt, _, _, cells, hc⟩ := hO.form (by omega)
  injection e with e1 e2 e3
  injection e1 with e1
  injection e1 with e1
  subst e1
  obtain ⟨u', hu', hcell, hfr⟩ := hO.cell hml
  have hinner := hO.inner hu' hr
  have hln : (il (cur ++ [j])).length = cur.length + 1 := by rw [il_length]; simp
  rw [hln] at hinner
  have hggo : go ≠ g := fun e => by subst e; rw [hS] at hc; injection hc with hc; injection hc with _ hc; exact absurd hc (by decide)
  rcases id hinner.2 with ⟨_, e⟩ | ⟨g3, c3, cur3, e, hB3, hg3, hn3, hm3, _⟩
  · omega
  · subst e
    have ht := own_take hinner (m := cur.length) (by omega)
    rw [Nat.mul_one, show (nums .i64 (il (cur ++ [j]))).take cur.length = nums .i64 (il cur) from by simp [nums, il]] at ht
    obtain ⟨hO1, _⟩ := hO.put (W1 := w) (u1 := .slice (some ⟨g3, 0, none⟩) cur.length c3) (r1 := il cur) hu' (by rw [il_length]; exact ht) (grown_of_below (Below.refl _ _) _) (.inl rfl)
    have hS1 := blk_far hS (fun e => hggo e.symm) (p := ⟨go, m, none⟩) (.slice (some ⟨g3, 0, none⟩) cur.length c3)
    refine ⟨g3, c3, hcell, hfr, hn3, by simpa [maxLen] using hm3, hS1, hO1, ?_, hb.setCell hB _, hggo⟩
    obtain ⟨u2, hu2, hcell2, _⟩ := hO1.cell (k := m) (by simpa using hml)
    rw [List.getElem?_set, if_pos rfl, if_pos (List.getElem?_eq_some_iff.1 hu').1] at hu2
    injection hu2 with hu2
    rw [hcell2, hu2]
/-- A block goes into the class that is built. -/
theorem take_step {w0 w3 w1 : World} {g V n c u m go cap j : Nat} {A : Option Addr} {uv v1 : Value} {vs : List Value} {rows : List (List Int)} {r : List Int}
    (hS : Srch w3 g V A n c u (.slice (some ⟨go, 0, none⟩) (m + 1) cap)) (hO : OutC w3 w0.heap.size (.slice (some ⟨go, 0, none⟩) (m + 1) cap) vs rows) (huv : vs[m]? = some uv) (hb : Below w0.heap.size w0 w3)
    (hown : w1.ownsRow w0.heap.size 3 1 v1 (r ++ [(j : Int)]).length (nums .i64 (r ++ [(j : Int)]))) (hg : w3.grownBy w1 uv.ownBlock) (hat : v1.ownBlock = uv.ownBlock ∨ ∃ b, v1.ownBlock = some b ∧ w3.heap.size ≤ b) :
    w1.cell? ⟨g, 3, none⟩ = some (.slice (some ⟨go, 0, none⟩) (m + 1) cap) ∧ w1.cell? ⟨go, m, none⟩ = some uv ∧ w1.frozen? ⟨go, m, none⟩ = false ∧
      Srch (w1.setCell ⟨go, m, none⟩ v1) g V A n c u (.slice (some ⟨go, 0, none⟩) (m + 1) cap) ∧ OutC (w1.setCell ⟨go, m, none⟩ v1) w0.heap.size (.slice (some ⟨go, 0, none⟩) (m + 1) cap) (vs.set m v1) (rows.set m (r ++ [(j : Int)])) ∧
      Below w0.heap.size w0 (w1.setCell ⟨go, m, none⟩ v1) := by
  obtain ⟨hO1, hh⟩ := hO.put huv hown hg hat
  have hml : m < rows.length := by rw [← hO.2.1]; exact (List.getElem?_eq_some_iff.1 huv).1
  obtain ⟨go', cap', e, hB, hlt, _, _, cells, hc⟩ := hO.form (by omega)
  injection e with e1 e2 e3
  injection e1 with e1
  injection e1 with e1
  subst e1
  obtain ⟨u', hu', hcell, hfr⟩ := hO.cell hml
  obtain rfl : u' = uv := Option.some.inj (hu'.symm.trans huv)
  have hinner := hO.inner huv (List.getElem?_eq_getElem hml)
  have hgne : some g ≠ u'.ownBlock := own_ne hinner hS (by decide)
  have hggo : go ≠ g := fun e => by subst e; rw [hS] at hc; injection hc with hc; injection hc with _ hc; exact absurd hc (by decide)
  have hS1 := hS.other hg hgne
  refine ⟨(blk_cell hS1 3).trans rfl, by rw [World.cell?_of_block hh]; exact hcell, blk_frozen (hh.trans hc) m, blk_far hS1 (fun e => hggo e.symm) _, hO1, ?_⟩
  exact (hb.grown hg hb.size (own_base hinner)).setCell hB _
theorem or_form {u j : Nat} (hu : u < 2 ^ 64) (hj : j < 64) : bits BinOp.or IntKind.u64 (u : Int) (IntKind.u64.wrap ((2 : Int) ^ j)) = ((u ||| 2 ^ j : Nat) : Int) := by
  have h : 2 ^ j < 2 ^ 64 := Nat.pow_lt_pow_right (by omega) hj
  rw [show ((2 : Int) ^ j) = ((2 ^ j : Nat) : Int) from by simp, wrapU_nat h, uor hu h]
set_option maxHeartbeats 4000000 in
set_option maxRecDepth 100000 in
theorem class_loop (w0 : World) (g V : Nat) (A : Option Addr) (n c : Nat) (bs : List Nat) (f : Nat) (hC : ∀ f' ≤ f, ClassP w0 g V A n c bs f') (hB : BlC w0 A n bs) (hn : n ≤ 14) (hV1 : 1 ≤ V) (hV : V ≤ 7) (hb7 : ∀ b ∈ bs, b < 2 ^ V) (hg : w0.heap.size ≤ g) (hT : TabOk w0)
    (u : Nat) (out : List (List Nat)) (cur : List Nat) (i all : Nat) (W : World) (outv : Value) (vs : List Value) (hP : SPre w0 g w0.heap.size V A n c bs u out cur W outv vs) (hp : pot bs.length u cur i ≤ f + 1) (hi : i ≤ bs.length) (ha2 : all < 2 ^ V) (hca : cur = [] → all = 0)
    (hall : all ≠ 2 ^ V - 1) :
    Calls Tryd.prog 72 #[.pointer (some ⟨g, 0, none⟩), .int .i64 i, .int .u64 all] W (SPost w0 g w0.heap.size V A n c (rgo V bs (f + 1) u out cur i all) u (out.map il ++ [il cur])) := by
  obtain ⟨hn1, -⟩ := id hB
  subst hn1
  have c0 : W.cell? ⟨g, 0, none⟩ = some (.int .i64 V) := (blk_cell hP.var 0).trans rfl
  have c3 : W.cell? ⟨g, 3, none⟩ = some outv := (blk_cell hP.var 3).trans rfl
  have hal : ((all : Int) == IntKind.u64.wrap (IntKind.u64.wrap ((2 : Int) ^ V) - 1)) = false := by rw [full_form hV]; simp; omega
  have hV128 : 2 ^ V ≤ 128 := Nat.le_trans (Nat.pow_le_pow_right (by decide) hV) (by decide)
  obtain ⟨rows, hrows⟩ : ∃ rows, out.map il ++ [il cur] = rows := ⟨_, rfl⟩
  have hrl : rows.length = out.length + 1 := by rw [← hrows]; simp
  obtain ⟨m, hm⟩ : ∃ m, out.length = m := ⟨_, rfl⟩
  have hm14 : m ≤ 14 := by have := hP.room; split at this <;> omega
  rw [hm] at hrl
  have hO := hP.rows
  rw [hrows] at hO ⊢
  obtain ⟨go, cap, rfl, -⟩ := hO.form (by omega)
  rw [hrl] at hO c3 hP
  have HP := hid hP
  have HO := hid hO
  have HR := hid hrows
  have HM := hid hm
  have HRL := hid hrl
  have HALL := hid hall
  have HB := hid hB
  have HB7 := hid hb7
  have HT := hid hT
  have HCA := hid hca
  clear hP hO hrows hm hrl hall hB hb7 hT hca
  obtain ⟨i0, hi0, hz0, hz1, hz2⟩ := info_parts infoI
  go_enter Tryd.func72, Tryd.ntmps72
  go_wp2
  go_step3
  go_wp2
  go_step3
  go_wp2
  have hPU := HP.out.used
  have hr2 := HP.out.room2
  go_loopw [8] (fun s8 wr => ∃ (j fj : Nat) (ov : Value) (vs' : List Value), s8 = .int .i64 j ∧ j ≤ bs.length ∧ pot bs.length u cur j ≤ fj ∧ fj ≤ f + 1 ∧ Hid (rgo V bs (f + 1) u out cur i all = rgo V bs fj u out cur j all) ∧ Below w0.heap.size w0 wr ∧ Srch wr g V A bs.length c u ov ∧ OutC wr w0.heap.size ov vs' rows) (fun s8 _ => bs.length - (intOf s8).toNat)
  case atStart => exact ⟨i, f + 1, _, vs, rfl, hi, hp, Nat.le_refl _, rfl, HP.out.below, HP.out.var, HO.out⟩
  case round =>
    obtain ⟨j, fj, ov, vs', rfl, hj, hpj, hfj, HF, hbr, hSr, hOr⟩ := hrel
    by_cases hlt : j < bs.length
    · obtain ⟨fk, rfl⟩ : ∃ k, fj = k + 1 := ⟨fj - 1, by unfold pot at hpj; omega⟩
      obtain ⟨ad, b, hA, hcb, hb64, HTk⟩ := (HB.out.below hbr).at_ hlt
      subst hA
      have r1 : wr.cell? ⟨g, 1, none⟩ = some (.slice (some ad) bs.length c) := (blk_cell hSr 1).trans rfl
      have r2 : wr.cell? ⟨g, 2, none⟩ = some (.int .u64 u) := (blk_cell hSr 2).trans rfl
      have hbg : bs.getD j 0 = b := by rw [List.getD_eq_getElem?_getD, HTk.out.2.1]; rfl
      have hbV : b < 128 := by have := HB7.out b HTk.out.2.2; omega
      have HBG := hid hbg
      have HSr := hid hSr
      have HOr := hid hOr
      have hu16 : u < 2 ^ 64 := Nat.lt_of_lt_of_le hPU (Nat.pow_le_pow_right (by decide) (by omega))
      have hab : all &&& b < 2 ^ 64 := Nat.lt_of_le_of_lt Nat.and_le_left (by omega)
      have bitF := bit_form (p := j) hu16
      have andF := uand (a := all) (b := b) (by omega) (by omega)
      clear hSr hOr c0 c3 hbg HTk hb64 hab
      by_cases hbit : u.testBit j = true
      · rw [hbit] at bitF
        have HBI := hid hbit
        clear andF hbit
        go_wp2
        go_roundw
        case rel => exact ⟨j + 1, fk, ov, vs', by go_num, by omega, by have := pot_skip (n := bs.length) (u := u) (cur := cur) hlt; omega, by omega, hid (by rw [HF.out, rgo_skip HALL.out hlt (.inl HBI.out)]), hbr, HSr.out, HOr.out⟩
        case measure => simp [intOf]; omega
      · have hbit' : u.testBit j = false := by simpa using hbit
        rw [hbit'] at bitF
        have HBI := hid hbit'
        clear hbit hbit'
        by_cases hand : all &&& b = 0
        · have andN : (bits BinOp.and IntKind.u64 (all : Int) (b : Int) == 0) = true := by rw [andF]; simpa using hand
          have andE : (bits BinOp.and IntKind.u64 (all : Int) (b : Int) != 0) = false := by rw [andF]; simpa using hand
          have HAN := hid hand
          clear andF hand
          have orF : bits BinOp.or IntKind.u64 (u : Int) (IntKind.u64.wrap ((2 : Int) ^ j)) = ((u ||| 2 ^ j : Nat) : Int) := or_form hu16 (by omega)
          go_wp2
          go_still_tail 9, (by kernel_rfl)
          change wpList _ _ _ _ _ wr.drew
          obtain ⟨w2, hw2⟩ : ∃ w2, w2 = wr.drew := ⟨_, rfl⟩
          rw [← hw2]
          have S2 : Srch w2 g V (some ad) bs.length c u ov := by rw [hw2]; exact HSr.out
          have O2 : OutC w2 w0.heap.size ov vs' rows := by rw [hw2]; exact HOr.out.below (below_drew (Below.refl _ _))
          have B2 : Below w0.heap.size w0 w2 := by rw [hw2]; exact below_drew hbr
          clear hw2 r1 r2 hcb hbr HSr HOr
          have s2 : w2.cell? ⟨g, 2, none⟩ = some (.int .u64 u) := (blk_cell S2 2).trans rfl
          have q2 : w2.frozen? ⟨g, 2, none⟩ = false := blk_frozen S2 2
          have HS2 := hid S2
          have HO2 := hid O2
          clear S2 O2
          go_wp2
          obtain ⟨w3, hw3⟩ : ∃ w3, w2.setCell ⟨g, 2, none⟩ (.int .u64 ((u ||| 2 ^ j : Nat) : Int)) = w3 := ⟨_, rfl⟩
          rw [hw3]
          have S3 : Srch w3 g V (some ad) bs.length c (u ||| 2 ^ j) ov := by rw [← hw3]; have := blk_set HS2.out 2 (.int .u64 ((u ||| 2 ^ j : Nat) : Int)); simpa [Srch] using this
          have O3 : OutC w3 w0.heap.size ov vs' rows := by rw [← hw3]; exact HO2.out.other HS2.out (by decide) 2 _
          have B3 : Below w0.heap.size w0 w3 := by rw [← hw3]; exact B2.setCell (by simpa using hg) _
          clear hw3 HS2 HO2 s2 q2 B2 orF
          obtain ⟨go2, cap2, rfl, -⟩ := O3.form (by have := HRL.out; omega)
          have hm1 := HRL.out
          rw [hm1] at S3 O3
          have s3 : w3.cell? ⟨g, 3, none⟩ = some (.slice (some ⟨go2, 0, none⟩) (m + 1) cap2) := (blk_cell S3 3).trans rfl
          obtain ⟨uv, huv, x3, y3⟩ := O3.cell (k := m) (by omega)
          have HS3 := hid S3
          have HO3 := hid O3
          have HUV := hid huv
          have hm9 : (m : Int) < (m : Int) + 1 := by omega
          have HLAST := hid (show rows[m]? = some (il cur) from by rw [← HR.out]; rw [List.getElem?_append_right (by simp [HM.out])]; simp [HM.out])
          clear S3 O3 hm1 huv
          have huo := HO3.out.inner HUV.out HLAST.out
          have huo4 := hid (huo.alloc (.cells #[.int .i64 (j : Int)] 3))
          have B4 := hid (below_alloc (Below.refl w3.heap.size w3) (.cells #[.int .i64 (j : Int)] 3))
          have hcl : (il cur).length ≤ 14 := by rw [il_length]; omega
          have hcl0 : (il cur).length = cur.length := il_length cur
          have hlt3 := B3.size
          have x4 : (w3.alloc (.cells #[.int .i64 (j : Int)] 3)).cell? ⟨go2, m, none⟩ = some uv := (World.cell?_alloc_lt w3 _ _ (World.block_lt_of_cell? w3 _ x3)).trans x3
          have s4 : (w3.alloc (.cells #[.int .i64 (j : Int)] 3)).cell? ⟨g, 3, none⟩ = some (.slice (some ⟨go2, 0, none⟩) (m + 1) cap2) := (World.cell?_alloc_lt w3 _ _ (World.block_lt_of_cell? w3 _ s3)).trans s3
          have TK := hid (fun v1 w5 => take_step (w1 := w5) (v1 := v1) (j := j) (r := il cur) HS3.out HO3.out HUV.out B3)
          clear huo hcl0
          go_cut [67] from 67 to 82 (fun s67 wc => ∃ vs1, Below w0.heap.size w0 wc ∧ Srch wc g V (some ad) bs.length c (u ||| 2 ^ j) (.slice (some ⟨go2, 0, none⟩) (m + 1) cap2) ∧ OutC wc w0.heap.size (.slice (some ⟨go2, 0, none⟩) (m + 1) cap2) vs1 (rows.set m (il cur ++ [(j : Int)])))
          case first =>
            go_region_law (
              refine step_append_any _ rfl (.tmp 78) (.tmp 80) _ rfl w0.heap.size 3 i0 _ 1 8 Tryd.underlying50 hi0 hz0 hz1 hz2 rfl (by decide) uv (il cur).length (nums .i64 (il cur)) (by simp [Act.eval])
                (by first | exact huo4.out | exact own_drew huo4.out) (w3.heap.size + 1) (some ⟨_, 0, none⟩) 1 1 [.int .i64 (j : Int)] (by simp [Act.eval]; rfl)
                (by first | exact reads_one (heap_new rfl) (by omega) | exact reads_one (blk_drew (heap_new rfl)) (by omega)) (by simp [Value.oneCell']) (by simp only [maxLen] <;> omega) (by omega) (by first | (simp; done) | (simp; omega)) ?_
              intro v1 w5 hown1 hg1 hat1
              have hg5 : w3.grownBy w5 uv.ownBlock := World.grownBy.trans (grown_of_below (by first | exact B4.out | exact below_drew B4.out) _) hg1
              obtain ⟨A1, c1, rfl⟩ := own_slice hown1
              obtain ⟨s5, x5, y5, hQ5⟩ := TK.out _ w5 (by simpa [nums] using hown1) hg5 (by rcases hat1 with e | e <;> first | exact .inl e | exact .inr ⟨_, e, by simp⟩)
              have HQ5 := hid hQ5
              clear hQ5 hg1 hat1 hown1)
            all_goals
              go_wp2
              go_meet
              exact ⟨_, HQ5.out.2.2, HQ5.out.1, HQ5.out.2.1⟩
          case rest =>
            obtain ⟨vs1, B6, S6, O6⟩ := hcut
            have hrows1 : rows.set m (il cur ++ [(j : Int)]) = out.map il ++ [il (cur ++ [j])] := by
              rw [← HR.out, List.set_append_right _ _ (by simp [HM.out])]; simp [HM.out, il]
            rw [hrows1] at O6
            clear hrows1 TK x4 s4 x3 y3 s3 huo4 B4 B3 hcl
            have hr1 := HP.out.room
            have hun := un_take hlt HBI.out
            have CL := hC fk (by omega) (u ||| 2 ^ j) out (cur ++ [j]) (j + 1) (all ||| b) wc _ vs1 ⟨or_pow_lt hPU hlt, by rw [if_neg (by simp)]; split at hr1 <;> omega, by simp; omega, B6, S6, O6⟩
              (by have := pot_take (n := bs.length) (cur := cur) hlt HBI.out; omega) (Nat.or_lt_two_pow ha2 (by rw [← HBG.out]; exact HB7.out _ (getD_mem hlt))) (by omega) (by simp)
            rw [show ((j + 1 : Nat) : Int) = (j : Int) + 1 from by simp] at CL
            have CL := hid CL
            have l1 : wc.cell? ⟨g, 1, none⟩ = some (.slice (some ad) bs.length c) := (blk_cell S6 1).trans rfl
            obtain ⟨ad', b', hA', hcb', _, HTk'⟩ := (HB.out.below B6).at_ hlt
            injection hA' with hA'
            subst hA'
            obtain rfl : b' = b := by have h1 := HBG.out; rw [List.getD_eq_getElem?_getD, HTk'.out.2.1] at h1; exact h1
            have orA : bits BinOp.or IntKind.u64 (all : Int) (b' : Int) = ((all ||| b' : Nat) : Int) := uor (by omega) (by omega)
            clear S6 O6 hr1 hun HTk' hC
            have hrl1 : ∀ extra : List (List Int), (out.map il ++ [il (cur ++ [j])] ++ extra).length = m + 1 + extra.length := fun extra => by simp [HM.out]; omega
            have HRL1 := hid hrl1
            clear hrl1
            go_wp2_with (
              go_at_call 72
              refine CL.out.mono ?_
              rintro e W' ⟨ov', vs2, u2, hb2, hS2, ⟨r, hr, rfl, hO2⟩ | ⟨hr, rfl, rfl, extra, hO2⟩⟩
              all_goals have HRR := hid hr
              all_goals clear hr
              rotate_left
              obtain ⟨go3, cap3, rfl, -, -, hc3, hcm3, -⟩ := hO2.form (by rw [HRL1.out]; omega)
              rw [HRL1.out] at hc3 hO2 hS2
              have t3 : W'.cell? ⟨g, 3, none⟩ = some (.slice (some ⟨go3, 0, none⟩) (m + 1 + extra.length) cap3) := (blk_cell hS2 3).trans rfl
              have v3 : W'.frozen? ⟨g, 3, none⟩ = false := blk_frozen hS2 3
              have HS2 := hid hS2
              have HO2 := hid hO2
              clear hS2 hO2
              rotate_left)
            · rw [Exit.noGoto_ret]
              go_ret
              exact ⟨ov', vs2, u2, hb2, hS2, .inl ⟨r, by rw [HF.out, rgo_take HALL.out hlt HBI.out (by rw [HBG.out]; exact HAN.out), HBG.out, HRR.out], rfl, hO2⟩⟩
            · obtain ⟨w7, hw7⟩ : ∃ w7, W'.setCell ⟨g, 3, none⟩ (.slice (some ⟨go3, 0, none⟩) (m + 1) cap3) = w7 := ⟨_, rfl⟩
              rw [hw7]
              have S7 : Srch w7 g V (some ad) bs.length c (u ||| 2 ^ j) (.slice (some ⟨go3, 0, none⟩) (m + 1) cap3) := by rw [← hw7]; have := blk_set HS2.out 3 (.slice (some ⟨go3, 0, none⟩) (m + 1) cap3); simpa [Srch] using this
              have O7 : OutC w7 w0.heap.size (.slice (some ⟨go3, 0, none⟩) (m + 1) cap3) (vs2.take (m + 1)) (out.map il ++ [il (cur ++ [j])]) := by
                have h1 := HO2.out.take (k := m + 1) (by rw [HRL1.out]; omega)
                rw [List.take_left' (by simp [HM.out])] at h1
                rw [← hw7]; exact h1.other HS2.out (by decide) 3 _
              have B7 : Below w0.heap.size w0 w7 := by rw [← hw7]; exact hb2.setCell (by simpa using hg) _
              clear hw7 HS2 HO2 t3 v3 hb2
              obtain ⟨g3, c3, x8, y8, hc8, hc8', S9, O9, x9, B9, hne⟩ := drop_step (w := w7.drew) (vs := vs2.take (m + 1)) (cur := cur) (j := j) S7 (O7.below (below_drew (Below.refl _ _))) (by rw [List.getElem?_append_right (by simp [HM.out])]; simp [HM.out]) (below_drew B7)
              rw [show (out.map il ++ [il (cur ++ [j])]).set m (il cur) = rows from by rw [← HR.out, List.set_append_right _ _ (by simp [HM.out])]; simp [HM.out]] at O9
              have x7 : w7.cell? ⟨go3, m, none⟩ = some (.slice (some ⟨g3, 0, none⟩) (cur.length + 1) c3) := x8
              have s7 : w7.cell? ⟨g, 3, none⟩ = some (.slice (some ⟨go3, 0, none⟩) (m + 1) cap3) := (blk_cell S7 3).trans rfl
              have hcl14 : cur.length ≤ 14 := by omega
              have wcl : IntKind.i64.wrap (cur.length : Int) = (cur.length : Int) := Go.IntWalk.i64_in _ (by omega)
              have wc0 : 0 ≤ (cur.length : Int) := by omega
              have wc1 : (cur.length : Int) ≤ (c3 : Int) := by omega
              clear S7 O7
              have HS9 := hid S9
              have HO9 := hid O9
              have HX9 := hid x9
              clear S9 O9 x9
              go_still_tail 23, (by kernel_rfl)
              change wpList _ _ _ _ _ w7.drew
              obtain ⟨w8, hw8⟩ : ∃ w8, w7.drew = w8 := ⟨_, rfl⟩
              rw [hw8] at x8 y8 HS9 HO9 HX9 B9 ⊢
              clear hw8 x7 s7 B7 wcl wc0 wc1
              go_wp2
              obtain ⟨w9, hw9⟩ : ∃ w9, w8.setCell ⟨go3, m, none⟩ (.slice (some ⟨g3, 0, none⟩) cur.length c3) = w9 := ⟨_, rfl⟩
              rw [hw9] at HS9 HO9 HX9 B9 ⊢
              clear hw9 x8 y8
              have s9 : w9.cell? ⟨g, 2, none⟩ = some (.int .u64 ((u ||| 2 ^ j : Nat) : Int)) := (blk_cell HS9.out 2).trans rfl
              have andnF : bits BinOp.andNot IntKind.u64 ((u ||| 2 ^ j : Nat) : Int) (IntKind.u64.wrap ((2 : Int) ^ j)) = (u : Int) := andnot_form hu16 (by omega) HBI.out
              go_still_tail 9, (by kernel_rfl)
              change wpList _ _ _ _ _ w9.drew
              obtain ⟨w10, hw10⟩ : ∃ w10, w9.drew = w10 := ⟨_, rfl⟩
              have S10 : Srch w10 g V (some ad) bs.length c (u ||| 2 ^ j) (.slice (some ⟨go3, 0, none⟩) (m + 1) cap3) := by rw [← hw10]; exact HS9.out
              have O10 : OutC w10 w0.heap.size (.slice (some ⟨go3, 0, none⟩) (m + 1) cap3) ((vs2.take (m + 1)).set m (.slice (some ⟨g3, 0, none⟩) cur.length c3)) rows := by rw [← hw10]; exact HO9.out.below (below_drew (Below.refl _ _))
              have B10 : Below w0.heap.size w0 w10 := by rw [← hw10]; exact below_drew B9
              have x10 : w10.cell? ⟨go3, m, none⟩ = some (.slice (some ⟨g3, 0, none⟩) cur.length c3) := by rw [← hw10]; exact HX9.out
              rw [hw10]
              clear hw10 s9 HS9 HO9 HX9 B9
              have s10 : w10.cell? ⟨g, 2, none⟩ = some (.int .u64 ((u ||| 2 ^ j : Nat) : Int)) := (blk_cell S10 2).trans rfl
              have q10 : w10.frozen? ⟨g, 2, none⟩ = false := blk_frozen S10 2
              have HS10 := hid S10
              have HO10 := hid O10
              have HX10 := hid x10
              clear S10 O10 x10
              go_upto_region 15 with (fail)
              obtain ⟨w11, hw11⟩ : ∃ w11, w10.setCell ⟨g, 2, none⟩ (.int .u64 (u : Int)) = w11 := ⟨_, rfl⟩
              rw [hw11]
              have S11 : Srch w11 g V (some ad) bs.length c u (.slice (some ⟨go3, 0, none⟩) (m + 1) cap3) := by rw [← hw11]; have := blk_set HS10.out 2 (.int .u64 (u : Int)); simpa [Srch] using this
              have O11 := HO10.out.other HS10.out (by decide) 2 (.int .u64 (u : Int))
              rw [hw11] at O11
              have B11 : Below w0.heap.size w0 w11 := by rw [← hw11]; exact B10.setCell (by simpa using hg) _
              have x11 : w11.cell? ⟨go3, m, none⟩ = some (.slice (some ⟨g3, 0, none⟩) cur.length c3) := by rw [← hw11]; exact (World.cell?_setCell_other w10 _ _ _ (fun e => hne (congrArg Addr.block e).symm)).trans HX10.out
              have s11 : w11.cell? ⟨g, 3, none⟩ = some (.slice (some ⟨go3, 0, none⟩) (m + 1) cap3) := (blk_cell S11 3).trans rfl
              clear hw11 s10 q10 HS10 HO10 HX10 B10 andnF
              have HS11 := hid S11
              have HO11 := hid O11
              have HRT := hid (rgo_take (out := out) (f := fk) (cur := cur) HALL.out hlt HBI.out (by rw [HBG.out]; exact HAN.out))
              rw [HBG.out] at HRT
              clear S11 O11
              by_cases hcur : cur = []
              · have hce : ((cur.length : Int) == 0) = true := by rw [hcur]; rfl
                have HCU := hid hcur
                clear hcur
                go_wp2
                rw [Exit.noGoto_ret]
                go_ret
                exact ⟨_, _, u, B11, HS11.out, .inr ⟨by rw [HF.out, HRT.out, HRR.out]; exact if_pos HCU.out, rfl, rfl, [], by simpa using HO11.out⟩⟩
              · have hce : ((cur.length : Int) == 0) = false := by have := List.length_pos_iff.2 hcur; simp; exact hcur
                have HCU := hid hcur
                clear hcur
                go_wp2
                go_roundw
                case rel => exact ⟨j + 1, fk, _, _, by go_num, by omega, by have := pot_skip (n := bs.length) (u := u) (cur := cur) hlt; omega, by omega, hid (by rw [HF.out, HRT.out, HRR.out]; exact if_neg HCU.out), B11, HS11.out, HO11.out⟩
                case measure => simp [intOf]; omega
        · have andN : (bits BinOp.and IntKind.u64 (all : Int) (b : Int) == 0) = false := by rw [andF]; simpa using hand
          have andE : (bits BinOp.and IntKind.u64 (all : Int) (b : Int) != 0) = true := by rw [andF]; simpa using hand
          have HAN := hid hand
          clear andF hand
          go_wp2
          go_roundw
          case rel => exact ⟨j + 1, fk, ov, vs', by go_num, by omega, by have := pot_skip (n := bs.length) (u := u) (cur := cur) hlt; omega, by omega, hid (by rw [HF.out, rgo_skip HALL.out hlt (.inr (by rw [HBG.out]; exact HAN.out))]), hbr, HSr.out, HOr.out⟩
          case measure => simp [intOf]; omega
    · have r1 : wr.cell? ⟨g, 1, none⟩ = some (.slice A bs.length c) := (blk_cell hSr 1).trans rfl
      have HSr := hid hSr
      have HOr := hid hOr
      clear hSr hOr c0 c3
      go_wp2
      rw [Exit.noGoto_ret]
      go_ret
      obtain ⟨fk, rfl⟩ : ∃ k, fj = k + 1 := ⟨fj - 1, by unfold pot at hpj; omega⟩
      exact ⟨ov, vs', u, hbr, HSr.out, .inr ⟨by rw [HF.out, rgo_end HALL.out (by omega)], rfl, rfl, [], by simpa using HOr.out⟩⟩
end Go.Proofs.YtoiahjncpngkeaaDoor
