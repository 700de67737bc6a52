/- plexusref06.Image at a permutation, and what it calls, walked. -/
/- move.completed, walked. -/
/- move.completed, walked whole. -/
/- move.Carry, walked: a map from kinds to functions, asked for each event. -/
import Derived.Test.YtgegjhgifeobdaaGe
import Derived.Test.YtgegjhgifeobdaaLu
import Derived.Test.YtgegjhgifeobdaaRx
import Derived.Laws.CopyOwn
import Derived.Test.YtgegjhgifeobdaaIi
namespace Go.Proofs.Ytgegjhgifeobdaa
set_option linter.unusedSimpArgs false
set_option linter.unusedVariables false
open Go.RowKit Go.Lib Go.Shelf Go.Proofs.YtgegjhgifeobdaaW.PrintWords
attribute [local go_sem] Oper.semAt_some

theorem or_step {M q : Nat} (hM : M < 2 ^ 64) (hq : q < 64) : bits .or .u64 (M : Int) (IntKind.u64.wrap (2 ^ q)) = ((M ||| 2 ^ q : Nat) : Int) := by
  have p64 : 2 ^ q < 2 ^ 64 := Nat.pow_lt_pow_right (by decide) hq
  rw [show ((2 : Int) ^ q) = ((2 ^ q : Nat) : Int) from by simp, wrapU_nat p64, uor hM p64]
theorem diff6_any (A : Option Addr) (c n : Nat) (gs : List Nat) (w : World) (hC : IC w A gs.length (il gs)) (hl : gs.length < 2 ^ 40) (hgn : ∀ q ∈ gs, q < n) (hnd : gs.Nodup) :
    Calls Try.prog 40 #[.slice A gs.length c, .int .i64 n] w fun e w' => e = .returned (.bool true) ∧ Below w.heap.size w w' := by
  have HG := hid hgn
  have HN := hid hnd
  have HC := hid hC
  clear hgn hnd hC
  go_enter Try.func40, Try.ntmps40
  go_wp2
  go_loopw [5] (fun i wr => ∃ k : Nat, k ≤ gs.length ∧ i = .int .i64 k ∧ Below w.heap.size w wr) (fun i _ => gs.length - (intOf i).toNat)
  case atStart => exact ⟨0, by omega, rfl, Below.refl _ _⟩
  case round =>
    obtain ⟨k, hk, rfl, hb⟩ := hrel
    by_cases hlt : k < gs.length
    · obtain ⟨ad, x, hA, hcx, HX⟩ := IC.at_ (Kd.C_below HC.out hb) (show k < gs.length from hlt)
      subst hA
      obtain ⟨q, hq, rfl⟩ : ∃ q, gs.getD k 0 = q ∧ x = (q : Int) := ⟨_, rfl, by rw [← HX.out.2]; exact rd_il hlt⟩
      have hqn : q < n := hq ▸ HG.out _ (getD_mem hlt)
      have q0 : decide ((q : Int) < 0) = false := by simp
      have q1 : decide ((n : Int) ≤ (q : Int)) = false := by simp; omega
      have HQ := hid hq
      clear hq
      go_wp2
      go_loopw [6] (fun i wr2 => ∃ j : Nat, j ≤ k ∧ i = .int .i64 j ∧ Below w.heap.size w wr2) (fun i _ => k - (intOf i).toNat)
      case atStart => exact ⟨0, by omega, rfl, hb⟩
      case round =>
        obtain ⟨j, hj, rfl, hb2⟩ := hrel
        by_cases hjk : j < k
        · obtain ⟨ad', y, hA, hcy, HY⟩ := IC.at_ (Kd.C_below HC.out hb2) (show j < gs.length by omega)
          obtain ⟨ad'', y', hA', hcx2, HX2⟩ := IC.at_ (Kd.C_below HC.out hb2) (show k < gs.length by omega)
          cases hA
          cases hA'
          obtain rfl : y' = (q : Int) := by rw [← HX2.out.2, ← HX.out.2]
          obtain ⟨q2, hq2, rfl⟩ : ∃ q2, gs.getD j 0 = q2 ∧ y = (q2 : Int) := ⟨_, rfl, by rw [← HY.out.2]; exact rd_il (by omega)⟩
          have hne : ((q2 : Int) == (q : Int)) = false := by
            rw [beq_eq_false_iff_ne]
            intro e
            have e2 : q2 = q := by omega
            have := HN.out
            rw [← hq2, ← HQ.out, List.getD_eq_getElem?_getD, List.getD_eq_getElem?_getD, List.getElem?_eq_getElem (show j < gs.length by omega), List.getElem?_eq_getElem hlt] at e2
            have := (List.getElem_inj this).1 e2
            omega
          clear hq2
          go_wp2
          go_quiet (fail)
          go_wp2
          exact ⟨⟨j + 1, by omega, by go_num, below_drewN hb2 _⟩, by show k - ((j : Int) + 1).toNat < k - ((j : Int)).toNat; omega⟩
        · obtain rfl : j = k := by omega
          go_wp2
          exact ⟨⟨j + 1, by omega, by go_num, hb2⟩, by show gs.length - ((j : Int) + 1).toNat < gs.length - ((j : Int)).toNat; omega⟩
    · obtain rfl : k = gs.length := by omega
      go_wp2
      go_ret
      exact ⟨rfl, hb⟩
theorem moved6_any (s : Nat) (A : Option Addr) (c : Nat) (fs : List Nat) (w : World) (hs : s < 2 ^ 64) (hF : IC w A fs.length (il fs)) (hl : fs.length ≤ 60) (hq : ∀ q ∈ fs, q < 60) :
    Calls Try.prog 22 #[.int .u64 s, .slice A fs.length c] w fun e w' => e = .returned (.int .u64 (movedN s fs)) ∧ w' = w := by
  have BIT := hid (fun (W : World) (p : Nat) (hp : p < 64) => bit_any s p hs hp W)
  go_enter Try.func22, Try.ntmps22
  go_wp2
  have HQ := hid hq
  clear hq
  go_loopw [5, 6] (fun o i wr => ∃ k : Nat, k ≤ fs.length ∧ o = .int .u64 (mvK s fs k) ∧ i = .int .i64 k ∧ wr = w) (fun _ i _ => fs.length - (intOf i).toNat)
  case atStart => exact ⟨0, by omega, rfl, rfl, by first | rfl | trivial⟩
  case round =>
    obtain ⟨k, hk, rfl, rfl, rfl⟩ := hrel
    by_cases hlt : k < fs.length
    · obtain ⟨ad, x, rfl, hcx, HX⟩ := IC.at_ hF (show k < fs.length from hlt)
      obtain ⟨q, hq, rfl⟩ : ∃ q, fs.getD k 0 = q ∧ x = (q : Int) := ⟨_, rfl, by rw [← HX.out.2]; exact rd_il hlt⟩
      have hq60 : q < 60 := hq ▸ HQ.out _ (getD_mem hlt)
      obtain ⟨M, hM⟩ : ∃ M, mvK s fs k = M := ⟨_, rfl⟩
      rw [hM]
      have hM64 : M < 2 ^ 64 := by rw [← hM]; exact Nat.lt_trans (mvK_lt HQ.out k hk) (by decide)
      have hk64 : k < 64 := by omega
      obtain ⟨bt, hbt⟩ : ∃ bt, s.testBit k = bt := ⟨_, rfl⟩
      have B1 := hid (BIT.out wr k hk64)
      rw [hbt] at B1
      have HMK : Hid (mvK s fs (k + 1) = M ||| (if bt then 2 ^ q else 0)) := (show _ = _ by rw [mvK, hM, hq, hbt])
      have eS := shl_form (q := q) (by omega)
      have p64 : 2 ^ q < 2 ^ 64 := Nat.pow_lt_pow_right (by decide) (by omega)
      obtain ⟨pw, hpw⟩ : ∃ pw, 2 ^ q = pw := ⟨_, rfl⟩
      rw [hpw] at HMK eS p64
      have eO := uor (a := M) (b := pw) hM64 p64
      clear hM hq hbt
      cases bt with
      | true =>
        go_wp2_with (go_at_call 41; refine B1.out.mono ?_; rintro e w' ⟨rfl, rfl⟩)
        exact ⟨⟨k + 1, by omega, by rw [or_step hM64 (by omega), HMK.out, ← hpw]; rfl, by go_num, trivial⟩, by simp [intOf]; omega⟩
      | false =>
        go_wp2_with (go_at_call 41; refine B1.out.mono ?_; rintro e w' ⟨rfl, rfl⟩)
        exact ⟨⟨k + 1, by omega, by rw [HMK.out]; simp, by go_num, trivial⟩, by simp [intOf]; omega⟩
    · obtain rfl : k = fs.length := by omega
      go_wp2
      go_ret
      exact ⟨rfl, by first | rfl | trivial⟩
def Near (b2 : Nat) (wr W : World) : Prop := ∀ p : Addr, p.block < wr.heap.size → p.block ≠ b2 → W.cell? p = wr.cell? p
/-- What stands while region 7 is carried out in any order. -/
structure SI (wr : World) (b2 k : Nat) (l : List Nat) (L : Nat → Bool) (w : World) (y9 y10 : Value) : Prop where
  d9 : L 9 = true → L 1 = true
  d11 : L 11 = true → L 9 = true
  h10 : L 10 = true → y10 = .pointer (some ⟨b2, 1, none⟩)
  b : L 11 = false → Below wr.heap.size wr w
  r9 : L 9 = true → L 11 = false → w.ownsRow wr.heap.size 57 1 y9 (k + 1) (nums .u64 (il l))
  h11 : L 11 = true → ∃ wb, Below wr.heap.size wr wb ∧ wb.ownsRow wr.heap.size 57 1 y9 (k + 1) (nums .u64 (il l)) ∧ w = wb.setCell ⟨b2, 1, none⟩ y9
section
variable {wr w w' : World} {b2 k : Nat} {l : List Nat} {L : Nat → Bool} {y9 y10 v : Value}
theorem SI.start (wr : World) (b2 k : Nat) (l : List Nat) (y9 y10 : Value) : SI wr b2 k l (fun _ => false) wr.drew y9 y10 := ⟨(fun h => nomatch h), (fun h => nomatch h), (fun h => nomatch h), (fun _ => below_drew (Below.refl _ _)), (fun h => nomatch h), (fun h => nomatch h)⟩
theorem p1_ne {i j : Nat} (h : j ≠ i) : put1 L i j = L j := by simp [put1, h]
theorem SI.q (h : SI wr b2 k l L w y9 y10) (i : Nat) (h9 : i ≠ 9) (h10 : i ≠ 10) (h11 : i ≠ 11) : SI wr b2 k l (put1 L i) w y9 y10 := by
  refine ⟨fun e => ?_, ?_, ?_, ?_, ?_, ?_⟩
  · rw [p1_ne h9.symm] at e; simp [put1, h.d9 e]
  · rw [p1_ne h9.symm, p1_ne h11.symm]; exact h.d11
  · rw [p1_ne h10.symm]; exact h.h10
  · rw [p1_ne h11.symm]; exact h.b
  · rw [p1_ne h9.symm, p1_ne h11.symm]; exact h.r9
  · rw [p1_ne h11.symm]; exact h.h11
theorem SI.op10 (h : SI wr b2 k l L w y9 y10) : SI wr b2 k l (put1 L 10) w y9 (.pointer (some ⟨b2, 1, none⟩)) := ⟨h.d9, h.d11, fun _ => rfl, h.b, h.r9, h.h11⟩
theorem SI.n11 (h : SI wr b2 k l L w y9 y10) (hf : L 9 = false) : L 11 = false := by
  cases e : L 11
  · rfl
  · rw [h.d11 e] at hf; cases hf
theorem SI.call9 (h : SI wr b2 k l L w y9 y10) (hf : L 9 = false) (d1 : L 1 = true) (hb : Below w.heap.size w w') (hr : w'.ownsRow w.heap.size 57 1 v (k + 1) (nums .u64 (il l))) : SI wr b2 k l (put1 L 9) w' v y10 :=
  have hbw := h.b (h.n11 hf)
  ⟨fun _ => d1, fun _ => rfl, h.h10, fun _ => below_then hbw hbw.size hb, fun _ _ => own_less hr hbw.size, fun e => by have := h.n11 hf; rw [show put1 L 9 11 = L 11 from rfl, this] at e; cases e⟩
theorem SI.store11 (h : SI wr b2 k l L w y9 y10) (hf : L 11 = false) (d9 : L 9 = true) : SI wr b2 k l (put1 L 11) (w.setCell ⟨b2, 1, none⟩ y9) y9 y10 :=
  ⟨h.d9, fun _ => d9, h.h10, (fun e => nomatch e), (fun _ e => nomatch e), fun _ => ⟨w, h.b hf, h.r9 d9 hf, rfl⟩⟩
theorem SI.near (h : SI wr b2 k l L w y9 y10) (hb2 : b2 < wr.heap.size) : Near b2 wr w := by
  intro p hp hne
  cases e : L 11
  · exact (h.b e).cell hp
  · obtain ⟨wb, hb, _, rfl⟩ := h.h11 e
    rw [World.cell?_of_block (w := wb) (Below.heap_setCell wb ⟨b2, 1, none⟩ y9 p.block hne)]
    exact hb.cell hp
theorem SI.cell1 (h : SI wr b2 k l L w y9 y10) (hf : L 1 = false) {u : Value} (hc : wr.cell? ⟨b2, 1, none⟩ = some u) : w.cell? ⟨b2, 1, none⟩ = some u := by
  have n9 : L 9 = false := by
    cases e : L 9
    · rfl
    · rw [h.d9 e] at hf; cases hf
  exact ((h.b (h.n11 n9)).cell (lt_of_cell hc)).trans hc
theorem SI.bel (h : SI wr b2 k l L w y9 y10) {B : Nat} {w0 : World} (hw : Below B w0 wr) (hB : B ≤ b2) (hB0 : B ≤ w0.heap.size) : Below B w0 w := by
  cases e : L 11
  · exact below_then hw (Nat.le_trans hB0 hw.size) (h.b e)
  · obtain ⟨wb, hb, _, rfl⟩ := h.h11 e
    exact (below_then hw (Nat.le_trans hB0 hw.size) hb).setCell (p := ⟨b2, 1, none⟩) hB _
end
theorem perm_any (A : Option Addr) (c : Nat) (gs : List Nat) (w : World) (hC : IC w A gs.length (il gs)) (hl : gs.length < 2 ^ 40) (hgn : ∀ q ∈ gs, q < gs.length) (hnd : gs.Nodup) :
    Calls Try.prog 20 #[.slice A gs.length c, .int .i64 gs.length] w fun e w' => e = .returned (.bool true) ∧ Below w.heap.size w w' := by
  have DF := hid (diff6_any A c gs.length gs w hC hl hgn hnd)
  clear hC
  go_enter Try.func20, Try.ntmps20
  go_wp2_with (go_at_call 40; refine DF.out.mono ?_; rintro e w' ⟨rfl, hb⟩)
  go_ret
  exact ⟨rfl, hb⟩

set_option maxHeartbeats 1000000 in
set_option maxRecDepth 100000 in
theorem image_any (A G : Option Addr) (c cG : Nat) (bs gs : List Nat) (w : World) (hB : BlC w A bs.length bs) (hbl : bs.length < 2 ^ 40) (hG : IC w G gs.length (il gs)) (hl : gs.length ≤ 60) (hgn : ∀ q ∈ gs, q < gs.length) (hnd : gs.Nodup) :
    Calls Try.prog 7 #[.agg #[.int .i64 gs.length, .slice A bs.length c], .slice G gs.length cG] w fun e w' =>
      ∃ v, e = .returned (.agg #[.int .i64 gs.length, v]) ∧ w'.ownsRow w.heap.size 57 1 v bs.length (nums .u64 (il (imL bs gs))) ∧ Below w.heap.size w w' := by
  have hui := Try.underlying29
  have hq60 : ∀ q ∈ gs, q < 60 := fun q hq => by have := hgn q hq; omega
  have HB := hid hB
  have HG := hid hG
  have PERM := hid (fun (W : World) (hb : Below w.heap.size w W) => perm_any G cG gs W (Kd.C_below hG hb) (by omega) hgn hnd)
  have MV := hid (fun (W : World) (s : Nat) (hb : Below w.heap.size w W) (hs : s < 2 ^ 64) => moved6_any s G cG gs W hs (Kd.C_below hG hb) hl hq60)
  have HQ := hid hq60
  clear hB hG hgn hnd hq60
  go_enter Try.func7, Try.ntmps7
  go_upto_region 1 with (fail)
  obtain ⟨w1, hw1⟩ : ∃ w1, ((w.alloc (.cells #[.int .i64 gs.length, .slice A bs.length c] 29)).alloc (.cells #[.int .i64 0, .slice none 0 0] 29)) = w1 := ⟨_, rfl⟩
  have hb1 : Below w.heap.size w w1 := by rw [← hw1]; exact below_alloc (below_alloc (Below.refl _ _) _) _
  have hz1 : w.heap.size + 2 ≤ w1.heap.size := by rw [← hw1]; simp
  have kx : Blk w1 w.heap.size 29 #[.int .i64 gs.length, .slice A bs.length c] := by rw [← hw1]; exact (Blk.new _ _ _).alloc _
  have kr : Blk w1 (w.heap.size + 1) 29 #[.int .i64 0, .slice none 0 0] := by rw [← hw1]; simpa using Blk.new (w.alloc (.cells #[.int .i64 gs.length, .slice A bs.length c] 29)) 29 #[.int .i64 0, .slice none 0 0]
  have x0 : w1.cell? ⟨w.heap.size, 0, none⟩ = some (.int .i64 gs.length) := (kx.cell 0).trans rfl
  have KX := hid kx
  have KR := hid kr
  rw [hw1]
  clear hw1 kx kr
  go_upto_region 4 with (go_at_call 20; refine (PERM.out _ (by exact hb1)).mono ?_; rintro e w2 ⟨rfl, hb2⟩; have x0' := (hb2.cell (p := ⟨w.heap.size, 0, none⟩) (show w.heap.size < _ by omega)).trans x0)
  obtain ⟨w3, hw3⟩ : ∃ w3, w2.alloc (.cells #[.int .i64 gs.length, .slice none 0 0] 29) = w3 := ⟨_, rfl⟩
  have hz2 : w.heap.size + 2 ≤ w2.heap.size := by have := hb2.size; omega
  have hb12 : Below w.heap.size w w2 := below_then hb1 hb1.size hb2
  have hb23 : Below w2.heap.size w2 w3 := by rw [← hw3]; exact below_alloc (Below.refl _ _) _
  have KO : Hid (Blk w3 w2.heap.size 29 #[.int .i64 gs.length, .slice none 0 0]) := (show Blk _ _ _ _ by rw [← hw3]; exact Blk.new _ _ _)
  have HB23 := hid hb23
  have KX2 : Hid (∀ W, Below w2.heap.size w2 W → Blk W w.heap.size 29 #[.int .i64 gs.length, .slice A bs.length c]) := (show ∀ W, _ from fun W hb => (KX.out.below hb2 (by omega)).below hb (by omega))
  have KR2 : Hid (∀ W, Below w2.heap.size w2 W → Blk W (w.heap.size + 1) 29 #[.int .i64 0, .slice none 0 0]) := (show ∀ W, _ from fun W hb => (KR.out.below hb2 (by omega)).below hb (by omega))
  rw [hw3]
  clear hw3 x0 x0' hb23 hb2
  go_wp2
  go_loopw [6] (fun i wr => ∃ (k : Nat) (v : Value), k ≤ bs.length ∧ i = .int .i64 k ∧ Hid (Blk wr w2.heap.size 29 #[.int .i64 gs.length, v]) ∧ Hid (wr.ownsRow w.heap.size 57 1 v k (nums .u64 (il (imL (bs.take k) gs)))) ∧ Hid (Below w2.heap.size w2 wr)) (fun i _ => bs.length - (intOf i).toNat)
  case atStart => exact ⟨0, _, by omega, rfl, KO, hid (World.ownsRow_nil _ _ _ _), HB23⟩
  case round =>
    clear KO HB23
    obtain ⟨k, v, hk, rfl, KO, HO, HBW⟩ := hrel
    have q0 := ((KX2.out _ HBW.out).cell 1).trans rfl
    by_cases hlt : k < bs.length
    · obtain ⟨Av, cv, rfl, hkc, _, hBv⟩ := own_BlC HO.out (fun b hb => Nat.lt_trans (imL_lt HQ.out b hb) (by decide))
      have hbw : Below w.heap.size w wr := below_then hb12 hb12.size HBW.out
      obtain ⟨ad, x, hA, hcx0, hx64, HX⟩ := HB.out.at_ hlt
      subst hA
      have hadl := lt_of_cell hcx0
      have hcx := (hbw.cell hadl).trans hcx0
      have hadk : (ad.add k).block ≠ w2.heap.size := by omega
      have HSN := hid (imL_snoc bs gs (k := k) (x := x) HX.out.2.1)
      clear hcx0 hadl
      have o0 := (KO.out.cell 0).trans rfl
      have o1 := (KO.out.cell 1).trans rfl
      have of1 := KO.out.frozen 1
      have lw2 := KO.out.lt
      have MV1 := hid (fun (W : World) (hb : Below w.heap.size w W) => MV.out W x hb hx64)
      have HWI := hid (show ∀ (W : World), Below wr.heap.size wr W → _ from fun W hb => with_any Av k cv (imL (bs.take k) gs) (movedN x gs) (Nat.lt_trans (movedN_lt HQ.out) (by decide)) W (hBv.below hb) (by omega) hkc)
      obtain ⟨mx, hmx⟩ : ∃ mx, movedN x gs = mx := ⟨_, rfl⟩
      rw [hmx] at MV1 HWI
      have HBR := hid hbw
      have HMX := hid hmx
      clear hBv hbw hmx
      go_upto_region 7 with (fail)
      have HCELL : Hid (∀ W, Near w2.heap.size wr W → W.cell? ⟨w.heap.size, 1, none⟩ = some (.slice (some ad) bs.length c) ∧ W.cell? (ad.add k) = some (.int .u64 x)) :=
        (show ∀ W, _ from fun W h => ⟨(h _ (lt_of_cell q0) (by show w.heap.size ≠ _; omega)).trans q0, (h _ (lt_of_cell hcx) hadk).trans hcx⟩)
      refine (wpIn_wide (n := 8)).1 ?_
      obtain ⟨vv, hvv⟩ : ∃ vv : Nat → Value, vv = fun i => (#[.pointer (some ⟨w2.heap.size, 1, none⟩), .slice Av k cv, .pointer (some ⟨w.heap.size, 1, none⟩), .slice (some ad) bs.length c, .int .i64 k, .pointer (some (ad.add k)), .int .u64 x, .slice G gs.length cG, .int .u64 mx] : Array Value).getD i undef := ⟨_, rfl⟩
      have mk : ∀ (L : Nat → Bool) (a' : Act) (w' : World), a' = ({ tmps := #[.agg #[.int .i64 gs.length, .slice (some ad) bs.length c], .slice G gs.length cG, .pointer (some ⟨w.heap.size, 0, none⟩), undef, .pointer (some ⟨w.heap.size + 1, 0, none⟩), .pointer (some ⟨w2.heap.size, 0, none⟩), .int .i64 k, .slice G gs.length cG, .pointer (some ⟨w.heap.size, 0, none⟩), .int .i64 gs.length, .bool true, .bool false, undef, .pointer (some ⟨w.heap.size, 0, none⟩), .int .i64 gs.length, .agg #[.int .i64 gs.length, .slice none 0 0], .int .i64 k, .pointer (some ⟨w.heap.size, 1, none⟩), .slice (some ad) bs.length c, .int .i64 bs.length, .bool true, u21, u22, a'.tmps.getD ((#[23, 24, 25, 26, 27, 28, 29, 30, 31, 32, 33, 64] : Array Nat).getD (0) 0) undef, a'.tmps.getD ((#[23, 24, 25, 26, 27, 28, 29, 30, 31, 32, 33, 64] : Array Nat).getD (1) 0) undef, a'.tmps.getD ((#[23, 24, 25, 26, 27, 28, 29, 30, 31, 32, 33, 64] : Array Nat).getD (2) 0) undef, a'.tmps.getD ((#[23, 24, 25, 26, 27, 28, 29, 30, 31, 32, 33, 64] : Array Nat).getD (3) 0) undef, a'.tmps.getD ((#[23, 24, 25, 26, 27, 28, 29, 30, 31, 32, 33, 64] : Array Nat).getD (4) 0) undef, a'.tmps.getD ((#[23, 24, 25, 26, 27, 28, 29, 30, 31, 32, 33, 64] : Array Nat).getD (5) 0) undef, a'.tmps.getD ((#[23, 24, 25, 26, 27, 28, 29, 30, 31, 32, 33, 64] : Array Nat).getD (6) 0) undef, a'.tmps.getD ((#[23, 24, 25, 26, 27, 28, 29, 30, 31, 32, 33, 64] : Array Nat).getD (7) 0) undef, a'.tmps.getD ((#[23, 24, 25, 26, 27, 28, 29, 30, 31, 32, 33, 64] : Array Nat).getD (8) 0) undef, a'.tmps.getD ((#[23, 24, 25, 26, 27, 28, 29, 30, 31, 32, 33, 64] : Array Nat).getD (9) 0) undef, a'.tmps.getD ((#[23, 24, 25, 26, 27, 28, 29, 30, 31, 32, 33, 64] : Array Nat).getD (10) 0) undef, undef], defers := [] } : Act) → (∀ j < 9, L j = true → a'.tmps.getD ((#[23, 24, 25, 26, 27, 28, 29, 30, 31, 32, 33, 64] : Array Nat).getD (j) 0) undef = vv j) → (fun (L : Nat → Bool) (wz : World) (y : Nat → Value) => SI wr w2.heap.size k (imL (bs.take (k + 1)) gs) L wz (y 9) (y 10)) L w' (fun m => a'.tmps.getD ((#[23, 24, 25, 26, 27, 28, 29, 30, 31, 32, 33, 64] : Array Nat).getD (m) 0) undef) → ∃ y : Nat → Value, a' = ({ tmps := #[.agg #[.int .i64 gs.length, .slice (some ad) bs.length c], .slice G gs.length cG, .pointer (some ⟨w.heap.size, 0, none⟩), undef, .pointer (some ⟨w.heap.size + 1, 0, none⟩), .pointer (some ⟨w2.heap.size, 0, none⟩), .int .i64 k, .slice G gs.length cG, .pointer (some ⟨w.heap.size, 0, none⟩), .int .i64 gs.length, .bool true, .bool false, undef, .pointer (some ⟨w.heap.size, 0, none⟩), .int .i64 gs.length, .agg #[.int .i64 gs.length, .slice none 0 0], .int .i64 k, .pointer (some ⟨w.heap.size, 1, none⟩), .slice (some ad) bs.length c, .int .i64 bs.length, .bool true, u21, u22, y 0, y 1, y 2, y 3, y 4, y 5, y 6, y 7, y 8, y 9, y 10, undef], defers := [] } : Act) ∧ (∀ j < 9, L j = true → y j = vv j) ∧ (fun (L : Nat → Bool) (wz : World) (y : Nat → Value) => SI wr w2.heap.size k (imL (bs.take (k + 1)) gs) L wz (y 9) (y 10)) L w' y := fun L a' w' h1 h2 h3 => ⟨fun m => a'.tmps.getD ((#[23, 24, 25, 26, 27, 28, 29, 30, 31, 32, 33, 64] : Array Nat).getD (m) 0) undef, h1, h2, h3⟩
      refine wpIn_region_inv2 (by kernel_rfl) (fun L aI wI => ∃ y : Nat → Value, aI = ({ tmps := #[.agg #[.int .i64 gs.length, .slice (some ad) bs.length c], .slice G gs.length cG, .pointer (some ⟨w.heap.size, 0, none⟩), undef, .pointer (some ⟨w.heap.size + 1, 0, none⟩), .pointer (some ⟨w2.heap.size, 0, none⟩), .int .i64 k, .slice G gs.length cG, .pointer (some ⟨w.heap.size, 0, none⟩), .int .i64 gs.length, .bool true, .bool false, undef, .pointer (some ⟨w.heap.size, 0, none⟩), .int .i64 gs.length, .agg #[.int .i64 gs.length, .slice none 0 0], .int .i64 k, .pointer (some ⟨w.heap.size, 1, none⟩), .slice (some ad) bs.length c, .int .i64 bs.length, .bool true, u21, u22, y 0, y 1, y 2, y 3, y 4, y 5, y 6, y 7, y 8, y 9, y 10, undef], defers := [] } : Act) ∧ (∀ j < 9, L j = true → y j = vv j) ∧ (fun (L : Nat → Bool) (wz : World) (y : Nat → Value) => SI wr w2.heap.size k (imL (bs.take (k + 1)) gs) L wz (y 9) (y 10)) L wI y) ?acyc ?start ?step ?rdone
      case acyc => exact fun i o ho => acyc_of2 (by kernel_rfl) i o ho
      case start => exact mk (fun _ => false) _ _ rfl (fun _ _ h => by cases h) (by exact SI.start wr w2.heap.size k _ _ _)
      case step =>
        rintro i o L a wx ho hLi hdep ⟨y, rfl, hy, hWI⟩ K hK
        have hi : i < 12 := (Array.getElem?_eq_some_iff.1 ho).1
        rcases i with _ | _ | _ | _ | _ | _ | _ | _ | _ | _ | _ | _ | i
        · obtain rfl := Option.some.inj ho
          clear hdep ho
          go_simp
          refine hK _ _ (mk _ _ _ rfl ?_ ?_)
          rotate_left
          · exact hWI.q 0 (by decide) (by decide) (by decide)
          · intro j hj h
            rcases j with _ | _ | _ | _ | _ | _ | _ | _ | _ | j
            all_goals first | (rw [hvv]; rfl) | exact hy _ (by omega) (by simpa [put1] using h) | (exfalso; omega)
        · obtain rfl := Option.some.inj ho
          have d0 : L 0 = true := hdep ⟨0, .data⟩ (by simp) rfl
          have e0 : y 0 = .pointer (some ⟨w2.heap.size, 1, none⟩) := (hy 0 (by omega) d0).trans (by rw [hvv]; rfl)
          clear hdep ho
          rw [e0]
          have c3 := hWI.cell1 hLi o1
          go_simp
          refine hK _ _ (mk _ _ _ rfl ?_ ?_)
          rotate_left
          · exact hWI.q 1 (by decide) (by decide) (by decide)
          · intro j hj h
            rcases j with _ | _ | _ | _ | _ | _ | _ | _ | _ | j
            all_goals first | (rw [hvv]; rfl) | exact hy _ (by omega) (by simpa [put1] using h) | (exfalso; omega)
        · obtain rfl := Option.some.inj ho
          clear hdep ho
          go_simp
          refine hK _ _ (mk _ _ _ rfl ?_ ?_)
          rotate_left
          · exact hWI.q 2 (by decide) (by decide) (by decide)
          · intro j hj h
            rcases j with _ | _ | _ | _ | _ | _ | _ | _ | _ | j
            all_goals first | (rw [hvv]; rfl) | exact hy _ (by omega) (by simpa [put1] using h) | (exfalso; omega)
        · obtain rfl := Option.some.inj ho
          have d2 : L 2 = true := hdep ⟨2, .data⟩ (by simp) rfl
          have e2 : y 2 = .pointer (some ⟨w.heap.size, 1, none⟩) := (hy 2 (by omega) d2).trans (by rw [hvv]; rfl)
          clear hdep ho
          rw [e2]
          obtain ⟨c1, c2⟩ := HCELL.out _ (hWI.near lw2)
          go_simp
          refine hK _ _ (mk _ _ _ rfl ?_ ?_)
          rotate_left
          · exact hWI.q 3 (by decide) (by decide) (by decide)
          · intro j hj h
            rcases j with _ | _ | _ | _ | _ | _ | _ | _ | _ | j
            all_goals first | (rw [hvv]; rfl) | exact hy _ (by omega) (by simpa [put1] using h) | (exfalso; omega)
        · obtain rfl := Option.some.inj ho
          clear hdep ho
          go_simp
          refine hK _ _ (mk _ _ _ rfl ?_ ?_)
          rotate_left
          · exact hWI.q 4 (by decide) (by decide) (by decide)
          · intro j hj h
            rcases j with _ | _ | _ | _ | _ | _ | _ | _ | _ | j
            all_goals first | (rw [hvv]; rfl) | exact hy _ (by omega) (by simpa [put1] using h) | (exfalso; omega)
        · obtain rfl := Option.some.inj ho
          have d3 : L 3 = true := hdep ⟨3, .data⟩ (by simp) rfl
          have d4 : L 4 = true := hdep ⟨4, .data⟩ (by simp) rfl
          have e3 : y 3 = .slice (some ad) bs.length c := (hy 3 (by omega) d3).trans (by rw [hvv]; rfl)
          have e4 : y 4 = .int .i64 k := (hy 4 (by omega) d4).trans (by rw [hvv]; rfl)
          clear hdep ho
          rw [e3, e4]
          go_simp
          refine hK _ _ (mk _ _ _ rfl ?_ ?_)
          rotate_left
          · exact hWI.q 5 (by decide) (by decide) (by decide)
          · intro j hj h
            rcases j with _ | _ | _ | _ | _ | _ | _ | _ | _ | j
            all_goals first | (rw [hvv]; rfl) | exact hy _ (by omega) (by simpa [put1] using h) | (exfalso; omega)
        · obtain rfl := Option.some.inj ho
          have d5 : L 5 = true := hdep ⟨5, .data⟩ (by simp) rfl
          have e5 : y 5 = .pointer (some (ad.add k)) := (hy 5 (by omega) d5).trans (by rw [hvv]; rfl)
          clear hdep ho
          rw [e5]
          obtain ⟨c1, c2⟩ := HCELL.out _ (hWI.near lw2)
          go_simp
          refine hK _ _ (mk _ _ _ rfl ?_ ?_)
          rotate_left
          · exact hWI.q 6 (by decide) (by decide) (by decide)
          · intro j hj h
            rcases j with _ | _ | _ | _ | _ | _ | _ | _ | _ | j
            all_goals first | (rw [hvv]; rfl) | exact hy _ (by omega) (by simpa [put1] using h) | (exfalso; omega)
        · obtain rfl := Option.some.inj ho
          clear hdep ho
          go_simp
          refine hK _ _ (mk _ _ _ rfl ?_ ?_)
          rotate_left
          · exact hWI.q 7 (by decide) (by decide) (by decide)
          · intro j hj h
            rcases j with _ | _ | _ | _ | _ | _ | _ | _ | _ | j
            all_goals first | (rw [hvv]; rfl) | exact hy _ (by omega) (by simpa [put1] using h) | (exfalso; omega)
        · obtain rfl := Option.some.inj ho
          have d6 : L 6 = true := hdep ⟨6, .data⟩ (by simp) rfl
          have d7 : L 7 = true := hdep ⟨7, .data⟩ (by simp) rfl
          have e6 : y 6 = .int .u64 x := (hy 6 (by omega) d6).trans (by rw [hvv]; rfl)
          have e7 : y 7 = .slice G gs.length cG := (hy 7 (by omega) d7).trans (by rw [hvv]; rfl)
          clear hdep ho
          rw [e6, e7]
          go_simp
          gi_wp2_with (refine ⟨trivial, ?_⟩; gi_at_call 22; refine (callsIn_wide.2 (MV1.out _ (by exact hWI.bel HBR.out (by omega) (Nat.le_refl _)))).mono ?_; rintro e w' ⟨rfl, rfl⟩)
          refine mk _ _ _ rfl ?_ ?_
          rotate_left
          · exact hWI.q 8 (by decide) (by decide) (by decide)
          · intro j hj h
            rcases j with _ | _ | _ | _ | _ | _ | _ | _ | _ | j
            all_goals first | (rw [hvv]; rfl) | exact hy _ (by omega) (by simpa [put1] using h) | (exfalso; omega)
        · obtain rfl := Option.some.inj ho
          have d1 : L 1 = true := hdep ⟨1, .data⟩ (by simp) rfl
          have d8 : L 8 = true := hdep ⟨8, .data⟩ (by simp) rfl
          have d8 : L 8 = true := hdep ⟨8, .chain⟩ (by simp) rfl
          have e1 : y 1 = .slice Av k cv := (hy 1 (by omega) d1).trans (by rw [hvv]; rfl)
          have e8 : y 8 = .int .u64 mx := (hy 8 (by omega) d8).trans (by rw [hvv]; rfl)
          clear hdep ho
          rw [e1, e8]
          have n11 := hWI.n11 hLi
          go_simp
          gi_wp2_with (refine ⟨trivial, ?_⟩; gi_at_call 21; refine (callsIn_wide.2 (HWI.out _ (by exact hWI.b n11))).mono ?_; rintro e w9 ⟨v9, rfl, r9, hb9⟩)
          refine mk _ _ _ rfl ?_ ?_
          rotate_left
          · exact hWI.call9 hLi d1 hb9 (by rw [HSN.out, HMX.out]; exact r9)
          · intro j hj h
            rcases j with _ | _ | _ | _ | _ | _ | _ | _ | _ | j
            all_goals first | (rw [hvv]; rfl) | exact hy _ (by omega) (by simpa [put1] using h) | (exfalso; omega)
        · obtain rfl := Option.some.inj ho
          clear hdep ho
          go_simp
          refine hK _ _ (mk _ _ _ rfl ?_ ?_)
          rotate_left
          · exact hWI.op10
          · intro j hj h
            rcases j with _ | _ | _ | _ | _ | _ | _ | _ | _ | j
            all_goals first | (rw [hvv]; rfl) | exact hy _ (by omega) (by simpa [put1] using h) | (exfalso; omega)
        · obtain rfl := Option.some.inj ho
          have d10 : L 10 = true := hdep ⟨10, .data⟩ (by simp) rfl
          have d9 : L 9 = true := hdep ⟨9, .data⟩ (by simp) rfl
          have d9 : L 9 = true := hdep ⟨9, .chain⟩ (by simp) rfl
          clear hdep ho
          have hp := hWI.h10 d10
          have hro := hWI.r9 d9 hLi
          obtain ⟨A9, c9, hy9⟩ := own_slice hro
          have c3 := (((hWI.b hLi).cell (p := ⟨w2.heap.size, 1, none⟩) (by exact lw2)).trans o1)
          have f3 := (((hWI.b hLi).frozen (p := ⟨w2.heap.size, 1, none⟩) (by exact lw2)).trans of1)
          rw [hp, hy9]
          go_simp
          refine hK _ _ (mk _ _ _ rfl ?_ ?_)
          rotate_left
          · exact (by have hh := hWI.store11 hLi d9; rw [hp, hy9] at hh; exact hh)
          · intro j hj h
            rcases j with _ | _ | _ | _ | _ | _ | _ | _ | _ | j
            all_goals first | (rw [hvv]; rfl) | exact hy _ (by omega) (by simpa [put1] using h) | (exfalso; omega)
        · exfalso; omega
      case rdone =>
        rintro L a w4 hall ⟨y, rfl, hy, hWI⟩
        obtain ⟨wb, hbb, hro, rfl⟩ := hWI.h11 (hall 11 (by decide))
        obtain ⟨A9, c9, hy9⟩ := own_slice hro
        rw [hy9] at hro ⊢
        clear mk hvv hy hall hWI hy9
        go_wp2
        have n0 : some w2.heap.size ≠ (Value.slice A9 (k + 1) c9).ownBlock := fun e => by have := (hro.lt _ e.symm).1; omega
        refine ⟨⟨k + 1, .slice A9 (k + 1) c9, by omega, by simp, hid ?_, hid ?_, hid ?_⟩, by show bs.length - ((k : Int) + 1).toNat < bs.length - ((k : Int)).toNat; omega⟩
        · have := (KO.out.below hbb lw2).set_ 1 (.slice A9 (k + 1) c9)
          simpa using this
        · exact own_less (own_other hro (grownBy_setCell _ _ _ _) (.inr n0.symm)) HBR.out.size
        · exact (below_then HBW.out HBW.out.size hbb).setCell (p := ⟨w2.heap.size, 1, none⟩) (Nat.le_refl _) _
    · obtain rfl : k = bs.length := by omega
      obtain ⟨Av, cv, rfl⟩ := own_slice HO.out
      have hr := KR2.out _ HBW.out
      have r0 := (hr.cell 0).trans rfl
      have r1 := (hr.cell 1).trans rfl
      have f0 := hr.frozen 0
      have f1 := hr.frozen 1
      have o0 := (KO.out.cell 0).trans rfl
      have o1 := (KO.out.cell 1).trans rfl
      have HRR := hid hr
      clear hr
      go_wp2
      have h2 := (HRR.out.set_ 0 (.int .i64 gs.length)).set_ 1 (.slice Av bs.length cv)
      have n0 : some (w.heap.size + 1) ≠ (Value.slice Av bs.length cv).ownBlock := fun e => by
        have hne := own_blk_ne HO.out HRR.out (by decide)
        exact hne e.symm
      have ho := own_other (own_other HO.out (grownBy_setCell _ (w.heap.size + 1) 0 (.int .i64 gs.length)) (.inr n0.symm)) (grownBy_setCell _ (w.heap.size + 1) 1 (.slice Av bs.length cv)) (.inr n0.symm)
      rw [List.take_length] at ho
      have hbf := ((below_then hb12 hb12.size HBW.out).setCell (p := ⟨w.heap.size + 1, 0, none⟩) (Nat.le_succ _) (.int .i64 gs.length)).setCell (p := ⟨w.heap.size + 1, 1, none⟩) (Nat.le_succ _) (.slice Av bs.length cv)
      obtain ⟨W3, hW3⟩ : ∃ W3, (wr.setCell ⟨w.heap.size + 1, 0, none⟩ (.int .i64 gs.length)).setCell ⟨w.heap.size + 1, 1, none⟩ (.slice Av bs.length cv) = W3 := ⟨_, rfl⟩
      rw [hW3] at h2 ho hbf ⊢
      have q1 : W3.cell? ⟨w.heap.size + 1, 0, none⟩ = some (.int .i64 gs.length) := (h2.cell 0).trans rfl
      have q2 : W3.cell? ⟨w.heap.size + 1, 1, none⟩ = some (.slice Av bs.length cv) := (h2.cell 1).trans rfl
      exact bodyPost_ret (v := .agg #[.int .i64 gs.length, .slice Av bs.length cv]) (by simp [results, Try.results7, go_sem, hui, q1, q2]) rfl ⟨_, rfl, ho, hbf⟩
end Go.Proofs.Ytgegjhgifeobdaa


namespace Go.Proofs.Ytgegjhgifeobdaa
set_option linter.unusedSimpArgs false
set_option linter.unusedVariables false
open Go.RowKit Go.Lib Go.Shelf Go.Proofs.YtgegjhgifeobdaaW.PrintWords
attribute [local go_sem] Oper.semAt_some

abbrev tI9 : TypeId := 3
abbrev tB9 : TypeId := 4
abbrev tEm : TypeId := 38
abbrev tPl : TypeId := 40
abbrev nilP : Array Value := #[.slice none 0 0, .slice none 0 0, .slice none 0 0, .slice none 0 0]
/-- A row of tests. -/
def BF (W : World) (gf n : Nat) (fb : Nat → Bool) : Prop := Blk W gf tB9 ((List.range n).map fun i => Value.bool (fb i)).toArray
theorem BF.cell {W : World} {gf n k : Nat} {fb : Nat → Bool} (h : BF W gf n fb) (hk : k < n) : W.cell? ⟨gf, k, none⟩ = some (.bool (fb k)) := by
  rw [Blk.cell h]
  simp [hk]
theorem BF.set {W : World} {gf n k : Nat} {fb : Nat → Bool} (h : BF W gf n fb) (hk : k < n) (b : Bool) : BF (W.setCell ⟨gf, k, none⟩ (.bool b)) gf n (fun i => if i = k then b else fb i) := by
  have h2 := Blk.set_ h k (.bool b)
  unfold BF
  have e : ((List.range n).map fun i => Value.bool (if i = k then b else fb i)).toArray = ((List.range n).map fun i => Value.bool (fb i)).toArray.setIfInBounds k (.bool b) := by
    apply Array.ext
    · simp
    · intro i h1 h3
      simp at h1
      rw [Array.getElem_setIfInBounds (by simpa using h1)]
      by_cases hi : k = i
      · subst hi; simp
      · have hi2 : ¬ i = k := fun e => hi e.symm
        simp [hi, hi2]
  rw [e]
  exact h2
structure Pst (w : World) (gF gM ge gp g6 : Nat) (F M K : List Int) (FS MS vK v4 : Value) (W : World) : Prop where
  bel : Below w.heap.size w W
  bF : Blk W gF tI9 (nums .i64 F).toArray
  bM : Blk W gM tI9 (nums .i64 M).toArray
  bE : Blk W ge tEm #[FS, MS]
  bP : Blk W gp tPl #[.slice (some ⟨gF, 0, none⟩) F.length F.length, .slice (some ⟨gM, 0, none⟩) M.length M.length, vK, v4]
  b6 : Blk W g6 tPl nilP
  oK : W.ownsRow w.heap.size tI9 1 vK K.length (nums .i64 K)
theorem Pst.set {w : World} {gF gM ge gp g6 gf i : Nat} {F M K : List Int} {FS MS vK v4 : Value} {W : World} {cs : Array Value} (h : Pst w gF gM ge gp g6 F M K FS MS vK v4 W) (hf : Blk W gf tB9 cs) (hK : some gf ≠ vK.ownBlock) (hz : w.heap.size ≤ gf) (u : Value) : Pst w gF gM ge gp g6 F M K FS MS vK v4 (W.setCell ⟨gf, i, none⟩ u) :=
  ⟨h.bel.setCell (p := ⟨gf, i, none⟩) hz u, h.bF.far (p := ⟨gf, i, none⟩) (h.bF.ne_ hf (by decide)) u, h.bM.far (p := ⟨gf, i, none⟩) (h.bM.ne_ hf (by decide)) u, h.bE.far (p := ⟨gf, i, none⟩) (h.bE.ne_ hf (by decide)) u, h.bP.far (p := ⟨gf, i, none⟩) (h.bP.ne_ hf (by decide)) u, h.b6.far (p := ⟨gf, i, none⟩) (h.b6.ne_ hf (by decide)) u, own_setCell (p := ⟨gf, i, none⟩) h.oK hK u⟩
theorem Pst.put4 {w : World} {gF gM ge gp g6 B4 : Nat} {F M K : List Int} {FS MS vK v4 v5 : Value} {W W1 : World} (h : Pst w gF gM ge gp g6 F M K FS MS vK v4 W) (hg : W.grownBy W1 v4.ownBlock) (hB : ∀ k, v4.ownBlock = some k → B4 ≤ k) (hw : w.heap.size ≤ B4) (lF : gF < B4) (lM : gM < B4) (lE : ge < B4) (lP : gp < B4) (l6 : g6 < B4) (lK : ∀ k, vK.ownBlock = some k → k < B4) (hz : w.heap.size ≤ gp) (h6p : g6 ≠ gp) (hKp : some gp ≠ vK.ownBlock) :
    Pst w gF gM ge gp g6 F M K FS MS vK v5 (W1.setCell ⟨gp, 3, none⟩ v5) := by
  have ne : ∀ g, g < B4 → some g ≠ v4.ownBlock := fun g hl e => by have := hB g e.symm; omega
  have bP := (h.bP.grown hg (ne _ lP)).set_ 3 v5
  have oK : W1.ownsRow w.heap.size tI9 1 vK K.length (nums .i64 K) := own_other h.oK hg (by
    cases hv : vK.ownBlock with
    | none => exact .inl rfl
    | some k => exact .inr (by rw [← hv]; intro e; have := lK k hv; have := hB k (by rw [← e, hv]); omega))
  exact ⟨(h.bel.grown hg h.bel.size (fun r hr => Nat.le_trans hw (hB r hr))).setCell (p := ⟨gp, 3, none⟩) hz v5, (h.bF.grown hg (ne _ lF)).far (p := ⟨gp, 3, none⟩) ((h.bF.grown hg (ne _ lF)).ne_ (h.bP.grown hg (ne _ lP)) (by decide)) v5,
    (h.bM.grown hg (ne _ lM)).far (p := ⟨gp, 3, none⟩) ((h.bM.grown hg (ne _ lM)).ne_ (h.bP.grown hg (ne _ lP)) (by decide)) v5, (h.bE.grown hg (ne _ lE)).far (p := ⟨gp, 3, none⟩) ((h.bE.grown hg (ne _ lE)).ne_ (h.bP.grown hg (ne _ lP)) (by decide)) v5,
    by simpa using bP, (h.b6.grown hg (ne _ l6)).far (p := ⟨gp, 3, none⟩) h6p v5, own_setCell (p := ⟨gp, 3, none⟩) oK hKp v5⟩
/-- Where a kept block's image lies. -/
def hitB (M K : List Int) (j i : Nat) : Bool := (K.take j).any fun k => rd M k == (i : Int)
def furL (n : Nat) (M K : List Int) : Nat → List Int
  | 0 => []
  | j + 1 => furL n M K j ++ (if hitB M K K.length j then [] else [(j : Int)])
theorem furL_len (n : Nat) (M K : List Int) : ∀ j, (furL n M K j).length ≤ j
  | 0 => by simp [furL]
  | j + 1 => by
    have := furL_len n M K j
    rw [furL, List.length_append]
    split <;> simp <;> omega
end Go.Proofs.Ytgegjhgifeobdaa


namespace Go.Proofs.Ytgegjhgifeobdaa
set_option linter.unusedSimpArgs false
set_option linter.unusedVariables false
open Go.RowKit Go.Lib Go.Shelf Go.Proofs.YtgegjhgifeobdaaW.PrintWords
attribute [local go_sem] Oper.semAt_some

abbrev mdI (n : Nat) : Array Value := madeCells #[.int .i64 0] n
/-- What stands while region 1 is carried out in any order. -/
structure C1 (w1 : World) (u4 u5 u6 : Value) (n m : Nat) (L : Nat → Bool) (w : World) (y3 y4 y5 y6 y7 y8 y9 y10 : Value) : Prop where
  bel : Below w1.heap.size w1 w
  h4 : L 4 = true → y4 = u4
  h5 : L 5 = true → y5 = u5
  h6 : L 6 = true → y6 = u6
  h3 : L 3 = true → ∃ g, y3 = .slice (some ⟨g, 0, none⟩) n n ∧ w1.heap.size ≤ g ∧ Blk w g tI9 (mdI n)
  h7 : L 7 = true → ∃ g, y7 = .slice (some ⟨g, 0, none⟩) m m ∧ w1.heap.size ≤ g ∧ Blk w g tI9 (mdI m)
  hne : L 3 = true → L 7 = true → y3.ownBlock ≠ y7.ownBlock
  h8 : L 8 = true → (L 3 = true ∧ L 7 = true) ∧ y8 = .agg #[y3, y7]
  h9 : L 9 = true → L 8 = true ∧ y9 = .agg #[y3, y7, .slice none 0 0, .slice none 0 0]
  h10 : L 10 = true → ∃ g, y10 = .pointer (some ⟨g, 0, none⟩) ∧ w1.heap.size ≤ g ∧ Blk w g tPl (if L 11 then #[y3, y7, .slice none 0 0, .slice none 0 0] else nilP)
  d11 : L 11 = true → L 9 = true ∧ L 10 = true
section
variable {w1 w w' : World} {u4 u5 u6 : Value} {n m : Nat} {L : Nat → Bool} {y3 y4 y5 y6 y7 y8 y9 y10 v : Value}
theorem c1ne {i j : Nat} (h : j ≠ i) : put1 L i j = L j := by simp [put1, h]
theorem C1.n11 (h : C1 w1 u4 u5 u6 n m L w y3 y4 y5 y6 y7 y8 y9 y10) (hf : L 3 = false ∨ L 7 = false ∨ L 8 = false ∨ L 9 = false ∨ L 10 = false) : L 11 = false := by
  cases e : L 11
  · rfl
  · obtain ⟨a, b⟩ := h.d11 e
    obtain ⟨c, _⟩ := h.h9 a
    obtain ⟨⟨p, q⟩, _⟩ := h.h8 c
    rcases hf with hf | hf | hf | hf | hf <;> simp_all
theorem C1.n8 (h : C1 w1 u4 u5 u6 n m L w y3 y4 y5 y6 y7 y8 y9 y10) (hf : L 3 = false ∨ L 7 = false) : L 8 = false := by
  cases e : L 8
  · rfl
  · obtain ⟨⟨a, b⟩, _⟩ := h.h8 e
    rcases hf with hf | hf <;> simp_all
theorem C1.n9 (h : C1 w1 u4 u5 u6 n m L w y3 y4 y5 y6 y7 y8 y9 y10) (hf : L 8 = false) : L 9 = false := by
  cases e : L 9
  · rfl
  · have := (h.h9 e).1; simp_all
theorem C1.q (h : C1 w1 u4 u5 u6 n m L w y3 y4 y5 y6 y7 y8 y9 y10) (i : Nat) (j4 : i ≠ 4) (j5 : i ≠ 5) (j6 : i ≠ 6) (h1 : i ≠ 3) (h2 : i ≠ 7) (h3 : i ≠ 8) (h4 : i ≠ 9) (h5 : i ≠ 10) (h6 : i ≠ 11) : C1 w1 u4 u5 u6 n m (put1 L i) w y3 y4 y5 y6 y7 y8 y9 y10 := by
  have e3 : put1 L i 3 = L 3 := c1ne (Ne.symm h1)
  have e7 : put1 L i 7 = L 7 := c1ne (Ne.symm h2)
  have e8 : put1 L i 8 = L 8 := c1ne (Ne.symm h3)
  have e9 : put1 L i 9 = L 9 := c1ne (Ne.symm h4)
  have e10 : put1 L i 10 = L 10 := c1ne (Ne.symm h5)
  have e11 : put1 L i 11 = L 11 := c1ne (Ne.symm h6)
  exact ⟨h.bel, by rw [c1ne (Ne.symm j4)]; exact h.h4, by rw [c1ne (Ne.symm j5)]; exact h.h5, by rw [c1ne (Ne.symm j6)]; exact h.h6, by rw [e3]; exact h.h3, by rw [e7]; exact h.h7, by rw [e3, e7]; exact h.hne, by rw [e3, e7, e8]; exact h.h8, by rw [e8, e9]; exact h.h9, by rw [e10, e11]; exact h.h10, by rw [e9, e10, e11]; exact h.d11⟩
theorem C1.op4 (h : C1 w1 u4 u5 u6 n m L w y3 y4 y5 y6 y7 y8 y9 y10) : C1 w1 u4 u5 u6 n m (put1 L 4) w y3 u4 y5 y6 y7 y8 y9 y10 := ⟨h.bel, fun _ => rfl, h.h5, h.h6, h.h3, h.h7, h.hne, h.h8, h.h9, h.h10, h.d11⟩
theorem C1.op5 (h : C1 w1 u4 u5 u6 n m L w y3 y4 y5 y6 y7 y8 y9 y10) : C1 w1 u4 u5 u6 n m (put1 L 5) w y3 y4 u5 y6 y7 y8 y9 y10 := ⟨h.bel, h.h4, fun _ => rfl, h.h6, h.h3, h.h7, h.hne, h.h8, h.h9, h.h10, h.d11⟩
theorem C1.op6 (h : C1 w1 u4 u5 u6 n m L w y3 y4 y5 y6 y7 y8 y9 y10) : C1 w1 u4 u5 u6 n m (put1 L 6) w y3 y4 y5 u6 y7 y8 y9 y10 := ⟨h.bel, h.h4, h.h5, fun _ => rfl, h.h3, h.h7, h.hne, h.h8, h.h9, h.h10, h.d11⟩
theorem C1.go (h : C1 w1 u4 u5 u6 n m L w y3 y4 y5 y6 y7 y8 y9 y10) (hb : Below w.heap.size w w') : C1 w1 u4 u5 u6 n m L w' y3 y4 y5 y6 y7 y8 y9 y10 :=
  ⟨below_then h.bel h.bel.size hb, h.h4, h.h5, h.h6, fun e => (by obtain ⟨g, a, b, c⟩ := h.h3 e; exact ⟨g, a, b, c.below hb c.lt⟩), fun e => (by obtain ⟨g, a, b, c⟩ := h.h7 e; exact ⟨g, a, b, c.below hb c.lt⟩), h.hne, h.h8, h.h9, fun e => (by obtain ⟨g, a, b, c⟩ := h.h10 e; exact ⟨g, a, b, c.below hb c.lt⟩), h.d11⟩
theorem C1.make3 (h : C1 w1 u4 u5 u6 n m L w y3 y4 y5 y6 y7 y8 y9 y10) (hf : L 3 = false) : C1 w1 u4 u5 u6 n m (put1 L 3) (w.alloc (.cells (mdI n) tI9)) (.slice (some ⟨w.heap.size, 0, none⟩) n n) y4 y5 y6 y7 y8 y9 y10 :=
  have k := h.go (below_alloc (Below.refl w.heap.size w) (.cells (mdI n) tI9))
  ⟨k.bel, k.h4, k.h5, k.h6, fun _ => ⟨_, rfl, h.bel.size, Blk.new _ _ _⟩, k.h7, fun _ e => (by
      obtain ⟨g, rfl, _, hg⟩ := h.h7 e
      intro e2
      injection e2 with e2
      have := hg.lt
      simp at e2
      omega), fun e => (by have := h.n8 (.inl hf); rw [show put1 L 3 8 = L 8 from rfl, this] at e; cases e), fun e => (by have := h.n9 (h.n8 (.inl hf)); rw [show put1 L 3 9 = L 9 from rfl, this] at e; cases e),
    fun e => (by
      obtain ⟨g, a, b, c⟩ := k.h10 e
      refine ⟨g, a, b, ?_⟩
      show Blk _ _ _ (if L 11 = true then _ else _)
      rw [h.n11 (.inl hf)] at c ⊢
      exact c), fun e => (by have := h.n11 (.inl hf); rw [show put1 L 3 11 = L 11 from rfl, this] at e; cases e)⟩
theorem C1.make7 (h : C1 w1 u4 u5 u6 n m L w y3 y4 y5 y6 y7 y8 y9 y10) (hf : L 7 = false) : C1 w1 u4 u5 u6 n m (put1 L 7) (w.alloc (.cells (mdI m) tI9)) y3 y4 y5 y6 (.slice (some ⟨w.heap.size, 0, none⟩) m m) y8 y9 y10 :=
  have k := h.go (below_alloc (Below.refl w.heap.size w) (.cells (mdI m) tI9))
  ⟨k.bel, k.h4, k.h5, k.h6, k.h3, fun _ => ⟨_, rfl, h.bel.size, Blk.new _ _ _⟩, fun e _ => (by
      obtain ⟨g, rfl, _, hg⟩ := h.h3 e
      intro e2
      injection e2 with e2
      have := hg.lt
      simp at e2
      omega), fun e => (by have := h.n8 (.inr hf); rw [show put1 L 7 8 = L 8 from rfl, this] at e; cases e), fun e => (by have := h.n9 (h.n8 (.inr hf)); rw [show put1 L 7 9 = L 9 from rfl, this] at e; cases e),
    fun e => (by
      obtain ⟨g, a, b, c⟩ := k.h10 e
      refine ⟨g, a, b, ?_⟩
      show Blk _ _ _ (if L 11 = true then _ else _)
      rw [h.n11 (.inr (.inl hf))] at c ⊢
      exact c), fun e => (by have := h.n11 (.inr (.inl hf)); rw [show put1 L 7 11 = L 11 from rfl, this] at e; cases e)⟩
theorem C1.op8 (h : C1 w1 u4 u5 u6 n m L w y3 y4 y5 y6 y7 y8 y9 y10) (d3 : L 3 = true) (d7 : L 7 = true) (hf : L 8 = false) : C1 w1 u4 u5 u6 n m (put1 L 8) w y3 y4 y5 y6 y7 (.agg #[y3, y7]) y9 y10 :=
  ⟨h.bel, h.h4, h.h5, h.h6, h.h3, h.h7, h.hne, fun _ => ⟨⟨d3, d7⟩, rfl⟩, fun e => (by have := h.n9 hf; rw [show put1 L 8 9 = L 9 from rfl, this] at e; cases e), h.h10, h.d11⟩
theorem C1.op9 (h : C1 w1 u4 u5 u6 n m L w y3 y4 y5 y6 y7 y8 y9 y10) (d8 : L 8 = true) : C1 w1 u4 u5 u6 n m (put1 L 9) w y3 y4 y5 y6 y7 y8 (.agg #[y3, y7, .slice none 0 0, .slice none 0 0]) y10 :=
  ⟨h.bel, h.h4, h.h5, h.h6, h.h3, h.h7, h.hne, h.h8, fun _ => ⟨d8, rfl⟩, h.h10, fun e => ⟨rfl, (h.d11 e).2⟩⟩
theorem C1.alloc10 (h : C1 w1 u4 u5 u6 n m L w y3 y4 y5 y6 y7 y8 y9 y10) (hf : L 10 = false) : C1 w1 u4 u5 u6 n m (put1 L 10) (w.alloc (.cells nilP tPl)) y3 y4 y5 y6 y7 y8 y9 (.pointer (some ⟨w.heap.size, 0, none⟩)) :=
  have k := h.go (below_alloc (Below.refl w.heap.size w) (.cells nilP tPl))
  ⟨k.bel, k.h4, k.h5, k.h6, k.h3, k.h7, k.hne, k.h8, k.h9, fun _ => ⟨_, rfl, h.bel.size, by show Blk _ _ _ (if L 11 = true then _ else _); rw [h.n11 (.inr (.inr (.inr (.inr hf))))]; exact Blk.new _ _ _⟩, fun e => ⟨(h.d11 e).1, rfl⟩⟩
theorem C1.store11 {g : Nat} (h : C1 w1 u4 u5 u6 n m L w y3 y4 y5 y6 y7 y8 y9 y10) (d9 : L 9 = true) (d10 : L 10 = true) (hg : y10 = .pointer (some ⟨g, 0, none⟩)) (hgB : w1.heap.size ≤ g) (hb : Blk w g tPl nilP) :
    C1 w1 u4 u5 u6 n m (put1 L 11) ((((w.setCell ⟨g, 0, none⟩ y3).setCell ⟨g, 1, none⟩ y7).setCell ⟨g, 2, none⟩ (.slice none 0 0)).setCell ⟨g, 3, none⟩ (.slice none 0 0)) y3 y4 y5 y6 y7 y8 y9 y10 :=
  have far : ∀ {g' : Nat} {cs : Array Value}, Blk w g' tI9 cs → Blk ((((w.setCell ⟨g, 0, none⟩ y3).setCell ⟨g, 1, none⟩ y7).setCell ⟨g, 2, none⟩ (.slice none 0 0)).setCell ⟨g, 3, none⟩ (.slice none 0 0)) g' tI9 cs := fun hc => by
    have hne := hc.ne_ hb (by decide)
    exact (((hc.far (p := ⟨g, 0, none⟩) hne _).far (p := ⟨g, 1, none⟩) hne _).far (p := ⟨g, 2, none⟩) hne _).far (p := ⟨g, 3, none⟩) hne _
  ⟨(((h.bel.setCell (p := ⟨g, 0, none⟩) hgB _).setCell (p := ⟨g, 1, none⟩) hgB _).setCell (p := ⟨g, 2, none⟩) hgB _).setCell (p := ⟨g, 3, none⟩) hgB _, h.h4, h.h5, h.h6, fun e => (by obtain ⟨g', a, b, c⟩ := h.h3 e; exact ⟨g', a, b, far c⟩), fun e => (by obtain ⟨g', a, b, c⟩ := h.h7 e; exact ⟨g', a, b, far c⟩), h.hne, h.h8, h.h9,
    fun _ => ⟨g, hg, hgB, by
      have := (((hb.set_ 0 y3).set_ 1 y7).set_ 2 (.slice none 0 0)).set_ 3 (.slice none 0 0)
      rw [show put1 L 11 11 = true from rfl, if_pos rfl]
      simpa using this⟩, fun _ => ⟨d9, d10⟩⟩
end
theorem infoB9 : (Try.prog.info? 4).map (fun i => (i.zero, i.size, i.bytes)) = some (some (.bool false), 1, 1) := by kernel_rfl
theorem madeB (n : Nat) : madeCells #[Value.bool false] n = ((List.range n).map fun i => Value.bool false).toArray := by
  have h1 : (madeCells #[Value.bool false] n).toList = (List.range n).map fun i => Value.bool false := by
    apply List.ext_getElem
    · simp [madeCells]
    · intro i h1 h2
      simp [madeCells, Nat.mod_one]
  rw [← h1]
theorem own_of_blk {W : World} {base g : Nat} {xs : List Int} (h : Blk W g tI9 (nums .i64 xs).toArray) (hb : base ≤ g) (hl : xs.length ≤ 9223372036854775807) : W.ownsRow base tI9 1 (.slice (some ⟨g, 0, none⟩) xs.length xs.length) xs.length (nums .i64 xs) :=
  ⟨by simp [nums], .inr ⟨g, xs.length, _, rfl, hb, h, Nat.le_refl _, by simpa [maxLen] using hl, by simp [nums], (List.take_of_length_le (by simp [nums]))⟩⟩
/-- copy into a row that was made: all of it. -/
theorem copy_blk {W : World} {g n c : Nat} {A : Option Addr} {xs : List Int} (hB : Blk W g tI9 (mdI n)) (hl : xs.length = n) (hD : IC W A n xs) :
    ∃ w3, (∀ ty, (Builtin.copy_ #[32, 32] ty #[.slice (some ⟨g, 0, none⟩) n n, .slice A n c]).run Try.prog W = .ok (.int .i64 n) w3) ∧ Blk w3 g tI9 (nums .i64 xs).toArray ∧ W.grownBy w3 (some g) := by
  obtain ⟨i0, hi0, hz0, hz1, hz2⟩ := info_parts infoI
  have hsz : (Try.prog.info? 3).map (·.size) = some 1 := by rw [hi0]; simp [hz1]
  rcases Nat.eq_zero_or_pos n with h0 | h0
  · subst h0
    obtain rfl : xs = [] := List.eq_nil_of_length_eq_zero hl
    have e : (mdI 0) = (nums .i64 ([] : List Int)).toArray := by simp [madeCells, nums]
    exact ⟨W, fun ty => run_copy_none W _ _ ty 3 _ _ _ _ _ _ Try.underlying32 hsz (by simp), e ▸ hB, ⟨rfl, rfl, rfl, Nat.le_refl _, fun _ _ _ => rfl⟩⟩
  · have hR := Reads.of_C hD
    obtain ⟨ad, u, rfl, -, -, -⟩ := hR.at_ h0
    have hrun := fun ty => run_copy_row (P := Try.prog) W 32 32 ty 3 g 0 n n ad n c (mdI n) 3 (nums .i64 xs) Try.underlying32 hsz hB (by simp [nums, hl])
      (fun j v hj => by
        obtain ⟨ad', u, e, -, hu, hc⟩ := hR.at_ (k := j) (by have := (List.getElem?_eq_some_iff.1 hj).1; simpa [nums, hl] using this)
        cases e
        rw [hj] at hu; cases hu; exact hc)
      (by simp [nums, hl, size_madeCells]) (nums_one _ _)
    refine ⟨W.setRow g ((mdI n).toList.take 0 ++ nums .i64 xs ++ (mdI n).toList.drop (0 + (nums .i64 xs).length)).toArray, fun ty => ?_, ?_, ⟨rfl, rfl, rfl, by simp, fun k _ hk => setRow_other W g k _ (fun e => hk (by simp [e]))⟩⟩
    · have := hrun ty
      rw [show goInt (nums IntKind.i64 xs).length = Value.int .i64 n by simp [goInt, nums, hl]] at this
      exact this
    · refine (setRow_heap W g _ _ 3 (0, 0) hB).trans ?_
      have : (mdI n).toList.drop (0 + (nums .i64 xs).length) = [] := List.drop_eq_nil_of_le (by simp [nums, hl, size_madeCells])
      rw [this]
      simp
set_option maxHeartbeats 8000000 in
set_option maxRecDepth 100000 in
theorem completed_any (V : Int) (BA FA MA DA : Option Addr) (n cB cF cM cD : Nat) (F M D : List Int) (w : World)
    (hF : IC w FA F.length F) (hM : IC w MA M.length M) (hD : IC w DA D.length D) (hn : n < 2 ^ 20) (hFl : F.length < 2 ^ 20) (hMl : M.length < 2 ^ 20) (hDl : D.length ≤ 12) (hK : ∀ k ∈ keptL M D, ∃ m : Nat, rd M k = m ∧ m < n) :
    Calls Try.prog 27 #[.agg #[.int .i64 V, .slice BA n cB], .agg #[.slice FA F.length cF, .slice MA M.length cM], .slice DA D.length cD] w fun e w' =>
      ∃ v1 v2 v3 v4, e = .returned (.agg #[v1, v2, v3, v4]) ∧ w'.ownsRow w.heap.size tI9 1 v1 F.length (nums .i64 F) ∧ w'.ownsRow w.heap.size tI9 1 v2 M.length (nums .i64 M) ∧ w'.ownsRow w.heap.size tI9 1 v3 (keptL M D).length (nums .i64 (il (sortedL (nl (keptL M D))))) ∧ w'.ownsRow w.heap.size tI9 1 v4 (furL n M (il (sortedL (nl (keptL M D)))) n).length (nums .i64 (furL n M (il (sortedL (nl (keptL M D)))) n)) ∧
        (v1.ownBlock ≠ v2.ownBlock ∧ v1.ownBlock ≠ v3.ownBlock ∧ v1.ownBlock ≠ v4.ownBlock ∧ v2.ownBlock ≠ v3.ownBlock ∧ v2.ownBlock ≠ v4.ownBlock ∧ ND v3 v4) ∧ Below w.heap.size w w' := by
  have hup := Try.underlying40
  have hue := Try.underlying38
  have hui := Try.underlying29
  have hus := Try.underlying32
  obtain ⟨i0, hi0, hz0, hz1, hz2⟩ := info_parts infoI
  have hmkF := fun W : World => run_makeSlice (P := Try.prog) (w := W) 32 3 i0 _ Try.underlying32 hi0 hz0 .i64 .i64 (F.length : Int) (F.length : Int) (by omega) (by omega) (by rw [hz1]; simp; omega) (by rw [hz2]; omega) (by omega)
  have hmkM := fun W : World => run_makeSlice (P := Try.prog) (w := W) 32 3 i0 _ Try.underlying32 hi0 hz0 .i64 .i64 (M.length : Int) (M.length : Int) (by omega) (by omega) (by rw [hz1]; simp; omega) (by rw [hz2]; omega) (by omega)
  simp only [hz1, Nat.mul_one, Int.toNat_natCast] at hmkF hmkM
  have HMF := hid hmkF
  have HMM := hid hmkM
  clear hmkF hmkM
  go_enter Try.func27, Try.ntmps27
  go_upto_region 1 with (fail)
  obtain ⟨w1, hw1⟩ : ∃ w1, ((w.alloc (.cells #[.int .i64 V, .slice BA n cB] 29)).alloc (.cells #[.slice FA F.length cF, .slice MA M.length cM] tEm)).alloc (.cells nilP tPl) = w1 := ⟨_, rfl⟩
  have hb1 : Below w.heap.size w w1 := by rw [← hw1]; exact below_alloc (below_alloc (below_alloc (Below.refl _ _) _) _) _
  have hB1 : Blk w1 w.heap.size 29 #[.int .i64 V, .slice BA n cB] := by rw [← hw1]; exact ((Blk.new _ _ _).alloc _).alloc _
  have hE1 : Blk w1 (w.heap.size + 1) tEm #[.slice FA F.length cF, .slice MA M.length cM] := by rw [← hw1]; exact Blk.alloc (heap_new (by simp)) _
  have h61 : Blk w1 (w.heap.size + 1 + 1) tPl nilP := by rw [← hw1]; exact heap_new (by simp)
  rw [hw1]
  clear hw1
  have HE := hid (fun W' (hb : Below w1.heap.size w1 W') => (show W'.cell? ⟨w.heap.size + 1, 0, none⟩ = some (.slice FA F.length cF) ∧ W'.cell? ⟨w.heap.size + 1, 1, none⟩ = some (.slice MA M.length cM) from ⟨((hE1.below hb hE1.lt).cell 0).trans rfl, ((hE1.below hb hE1.lt).cell 1).trans rfl⟩))
  refine (wpIn_wide (n := 8)).1 ?_
  obtain ⟨vv, hvv⟩ : ∃ vv : Nat → Value, vv = fun i => (#[.pointer (some ⟨w.heap.size + 1, 0, none⟩), .slice FA F.length cF, .int .i64 F.length] : Array Value).getD i undef := ⟨_, rfl⟩
  have mk : ∀ (L : Nat → Bool) (a' : Act) (w' : World), a' = ({ tmps := #[.agg #[.int .i64 V, .slice BA n cB], .agg #[.slice FA F.length cF, .slice MA M.length cM], .slice DA D.length cD, .pointer (some ⟨w.heap.size, 0, none⟩), .pointer (some ⟨w.heap.size + 1, 0, none⟩), undef, .pointer (some ⟨w.heap.size + 1 + 1, 0, none⟩), a'.tmps.getD ((#[14, 15, 16, 17, 18, 19, 20, 21, 22, 23, 7, 100] : Array Nat).getD (10) 0) undef, undef, undef, undef, undef, undef, undef, a'.tmps.getD ((#[14, 15, 16, 17, 18, 19, 20, 21, 22, 23, 7, 100] : Array Nat).getD (0) 0) undef, a'.tmps.getD ((#[14, 15, 16, 17, 18, 19, 20, 21, 22, 23, 7, 100] : Array Nat).getD (1) 0) undef, a'.tmps.getD ((#[14, 15, 16, 17, 18, 19, 20, 21, 22, 23, 7, 100] : Array Nat).getD (2) 0) undef, a'.tmps.getD ((#[14, 15, 16, 17, 18, 19, 20, 21, 22, 23, 7, 100] : Array Nat).getD (3) 0) undef, a'.tmps.getD ((#[14, 15, 16, 17, 18, 19, 20, 21, 22, 23, 7, 100] : Array Nat).getD (4) 0) undef, a'.tmps.getD ((#[14, 15, 16, 17, 18, 19, 20, 21, 22, 23, 7, 100] : Array Nat).getD (5) 0) undef, a'.tmps.getD ((#[14, 15, 16, 17, 18, 19, 20, 21, 22, 23, 7, 100] : Array Nat).getD (6) 0) undef, a'.tmps.getD ((#[14, 15, 16, 17, 18, 19, 20, 21, 22, 23, 7, 100] : Array Nat).getD (7) 0) undef, a'.tmps.getD ((#[14, 15, 16, 17, 18, 19, 20, 21, 22, 23, 7, 100] : Array Nat).getD (8) 0) undef, a'.tmps.getD ((#[14, 15, 16, 17, 18, 19, 20, 21, 22, 23, 7, 100] : Array Nat).getD (9) 0) undef, undef, undef, undef, undef, undef, undef, undef, undef, undef, undef, undef, undef, undef, undef, undef, undef, undef, undef, undef, undef, undef, undef, undef, undef, undef, undef, undef, undef, undef, undef, undef, undef, undef, undef, undef, undef, undef, undef, undef, undef, undef, undef, undef, undef, undef, undef, undef, undef, undef, undef, undef, undef, undef, undef, undef, undef, undef, undef, undef, undef, undef, undef, undef], defers := [] } : Act) → (∀ j < 3, L j = true → a'.tmps.getD ((#[14, 15, 16, 17, 18, 19, 20, 21, 22, 23, 7, 100] : Array Nat).getD (j) 0) undef = vv j) → (fun (L : Nat → Bool) (wz : World) (y : Nat → Value) => C1 w1 (.pointer (some ⟨w.heap.size + 1, 1, none⟩)) (.slice MA M.length cM) (.int .i64 M.length) F.length M.length L wz (y 3) (y 4) (y 5) (y 6) (y 7) (y 8) (y 9) (y 10)) L w' (fun m => a'.tmps.getD ((#[14, 15, 16, 17, 18, 19, 20, 21, 22, 23, 7, 100] : Array Nat).getD (m) 0) undef) → ∃ y : Nat → Value, a' = ({ tmps := #[.agg #[.int .i64 V, .slice BA n cB], .agg #[.slice FA F.length cF, .slice MA M.length cM], .slice DA D.length cD, .pointer (some ⟨w.heap.size, 0, none⟩), .pointer (some ⟨w.heap.size + 1, 0, none⟩), undef, .pointer (some ⟨w.heap.size + 1 + 1, 0, none⟩), y 10, undef, undef, undef, undef, undef, undef, y 0, y 1, y 2, y 3, y 4, y 5, y 6, y 7, y 8, y 9, undef, undef, undef, undef, undef, undef, undef, undef, undef, undef, undef, undef, undef, undef, undef, undef, undef, undef, undef, undef, undef, undef, undef, undef, undef, undef, undef, undef, undef, undef, undef, undef, undef, undef, undef, undef, undef, undef, undef, undef, undef, undef, undef, undef, undef, undef, undef, undef, undef, undef, undef, undef, undef, undef, undef, undef, undef, undef, undef, undef, undef, undef, undef], defers := [] } : Act) ∧ (∀ j < 3, L j = true → y j = vv j) ∧ (fun (L : Nat → Bool) (wz : World) (y : Nat → Value) => C1 w1 (.pointer (some ⟨w.heap.size + 1, 1, none⟩)) (.slice MA M.length cM) (.int .i64 M.length) F.length M.length L wz (y 3) (y 4) (y 5) (y 6) (y 7) (y 8) (y 9) (y 10)) L w' y := fun L a' w' h1 h2 h3 => ⟨fun m => a'.tmps.getD ((#[14, 15, 16, 17, 18, 19, 20, 21, 22, 23, 7, 100] : Array Nat).getD (m) 0) undef, h1, h2, h3⟩
  refine wpIn_region_inv2 (by kernel_rfl) (fun L aI wI => ∃ y : Nat → Value, aI = ({ tmps := #[.agg #[.int .i64 V, .slice BA n cB], .agg #[.slice FA F.length cF, .slice MA M.length cM], .slice DA D.length cD, .pointer (some ⟨w.heap.size, 0, none⟩), .pointer (some ⟨w.heap.size + 1, 0, none⟩), undef, .pointer (some ⟨w.heap.size + 1 + 1, 0, none⟩), y 10, undef, undef, undef, undef, undef, undef, y 0, y 1, y 2, y 3, y 4, y 5, y 6, y 7, y 8, y 9, undef, undef, undef, undef, undef, undef, undef, undef, undef, undef, undef, undef, undef, undef, undef, undef, undef, undef, undef, undef, undef, undef, undef, undef, undef, undef, undef, undef, undef, undef, undef, undef, undef, undef, undef, undef, undef, undef, undef, undef, undef, undef, undef, undef, undef, undef, undef, undef, undef, undef, undef, undef, undef, undef, undef, undef, undef, undef, undef, undef, undef, undef, undef], defers := [] } : Act) ∧ (∀ j < 3, L j = true → y j = vv j) ∧ (fun (L : Nat → Bool) (wz : World) (y : Nat → Value) => C1 w1 (.pointer (some ⟨w.heap.size + 1, 1, none⟩)) (.slice MA M.length cM) (.int .i64 M.length) F.length M.length L wz (y 3) (y 4) (y 5) (y 6) (y 7) (y 8) (y 9) (y 10)) L wI y) ?acyc ?start ?step ?rdone
  case acyc => exact fun i o ho => acyc_of2 (by kernel_rfl) i o ho
  case start => exact mk (fun _ => false) _ _ rfl (fun _ _ h => by cases h) (by exact ⟨below_drew (Below.refl _ _), (fun h => nomatch h), (fun h => nomatch h), (fun h => nomatch h), (fun h => nomatch h), (fun h => nomatch h), (fun h => nomatch h), (fun h => nomatch h), (fun h => nomatch h), (fun h => nomatch h), (fun h => nomatch h)⟩)
  case step =>
    rintro i o L a wx ho hLi hdep ⟨y, rfl, hy, hWI⟩ K hK
    have hi : i < 12 := (Array.getElem?_eq_some_iff.1 ho).1
    rcases i with _ | _ | _ | _ | _ | _ | _ | _ | _ | _ | _ | _ | i
    · obtain rfl := Option.some.inj ho
      clear hdep ho
      go_simp
      refine hK _ _ (mk _ _ _ rfl ?_ ?_)
      rotate_left
      · exact hWI.q 0 (by decide) (by decide) (by decide) (by decide) (by decide) (by decide) (by decide) (by decide) (by decide)
      · intro j hj h
        rcases j with _ | _ | _ | j
        all_goals first | (rw [hvv]; rfl) | exact hy _ (by omega) (by simpa [put1] using h) | (exfalso; omega)
    · obtain rfl := Option.some.inj ho
      have d0 : L 0 = true := hdep ⟨0, .data⟩ (by simp) rfl
      have e0 : y 0 = .pointer (some ⟨w.heap.size + 1, 0, none⟩) := (hy 0 (by omega) d0).trans (by rw [hvv]; rfl)
      clear hdep ho
      rw [e0]
      obtain ⟨q0, q1⟩ := HE.out _ hWI.bel
      go_simp
      refine hK _ _ (mk _ _ _ rfl ?_ ?_)
      rotate_left
      · exact hWI.q 1 (by decide) (by decide) (by decide) (by decide) (by decide) (by decide) (by decide) (by decide) (by decide)
      · intro j hj h
        rcases j with _ | _ | _ | j
        all_goals first | (rw [hvv]; rfl) | exact hy _ (by omega) (by simpa [put1] using h) | (exfalso; omega)
    · obtain rfl := Option.some.inj ho
      have d1 : L 1 = true := hdep ⟨1, .data⟩ (by simp) rfl
      have e1 : y 1 = .slice FA F.length cF := (hy 1 (by omega) d1).trans (by rw [hvv]; rfl)
      clear hdep ho
      rw [e1]
      go_simp
      refine hK _ _ (mk _ _ _ rfl ?_ ?_)
      rotate_left
      · exact hWI.q 2 (by decide) (by decide) (by decide) (by decide) (by decide) (by decide) (by decide) (by decide) (by decide)
      · intro j hj h
        rcases j with _ | _ | _ | j
        all_goals first | (rw [hvv]; rfl) | exact hy _ (by omega) (by simpa [put1] using h) | (exfalso; omega)
    · obtain rfl := Option.some.inj ho
      have d2 : L 2 = true := hdep ⟨2, .data⟩ (by simp) rfl
      have e2 : y 2 = .int .i64 F.length := (hy 2 (by omega) d2).trans (by rw [hvv]; rfl)
      clear hdep ho
      rw [e2]
      have hmk := HMF.out wx
      go_simp
      refine hK _ _ (mk _ _ _ rfl ?_ ?_)
      rotate_left
      · exact hWI.make3 hLi
      · intro j hj h
        rcases j with _ | _ | _ | j
        all_goals first | (rw [hvv]; rfl) | exact hy _ (by omega) (by simpa [put1] using h) | (exfalso; omega)
    · obtain rfl := Option.some.inj ho
      clear hdep ho
      go_simp
      refine hK _ _ (mk _ _ _ rfl ?_ ?_)
      rotate_left
      · exact hWI.op4
      · intro j hj h
        rcases j with _ | _ | _ | j
        all_goals first | (rw [hvv]; rfl) | exact hy _ (by omega) (by simpa [put1] using h) | (exfalso; omega)
    · obtain rfl := Option.some.inj ho
      have d4 : L 4 = true := hdep ⟨4, .data⟩ (by simp) rfl
      clear hdep ho
      rw [hWI.h4 d4]
      obtain ⟨q0, q1⟩ := HE.out _ hWI.bel
      go_simp
      refine hK _ _ (mk _ _ _ rfl ?_ ?_)
      rotate_left
      · exact (by have hh := hWI.op5; rw [hWI.h4 d4] at hh; exact hh)
      · intro j hj h
        rcases j with _ | _ | _ | j
        all_goals first | (rw [hvv]; rfl) | exact hy _ (by omega) (by simpa [put1] using h) | (exfalso; omega)
    · obtain rfl := Option.some.inj ho
      have d5 : L 5 = true := hdep ⟨5, .data⟩ (by simp) rfl
      clear hdep ho
      rw [hWI.h5 d5]
      go_simp
      refine hK _ _ (mk _ _ _ rfl ?_ ?_)
      rotate_left
      · exact (by have hh := hWI.op6; rw [hWI.h5 d5] at hh; exact hh)
      · intro j hj h
        rcases j with _ | _ | _ | j
        all_goals first | (rw [hvv]; rfl) | exact hy _ (by omega) (by simpa [put1] using h) | (exfalso; omega)
    · obtain rfl := Option.some.inj ho
      have d6 : L 6 = true := hdep ⟨6, .data⟩ (by simp) rfl
      clear hdep ho
      rw [hWI.h6 d6]
      have hmk := HMM.out wx
      go_simp
      refine hK _ _ (mk _ _ _ rfl ?_ ?_)
      rotate_left
      · exact (by have hh := hWI.make7 hLi; rw [hWI.h6 d6] at hh; exact hh)
      · intro j hj h
        rcases j with _ | _ | _ | j
        all_goals first | (rw [hvv]; rfl) | exact hy _ (by omega) (by simpa [put1] using h) | (exfalso; omega)
    · obtain rfl := Option.some.inj ho
      have d3 : L 3 = true := hdep ⟨3, .data⟩ (by simp) rfl
      have d7 : L 7 = true := hdep ⟨7, .data⟩ (by simp) rfl
      clear hdep ho
      obtain ⟨gF, hy3, _, _⟩ := hWI.h3 d3
      obtain ⟨gM, hy7, _, _⟩ := hWI.h7 d7
      rw [hy3, hy7]
      go_simp
      refine hK _ _ (mk _ _ _ rfl ?_ ?_)
      rotate_left
      · exact (by have hh := hWI.op8 d3 d7 hLi; rw [hy3, hy7] at hh; exact hh)
      · intro j hj h
        rcases j with _ | _ | _ | j
        all_goals first | (rw [hvv]; rfl) | exact hy _ (by omega) (by simpa [put1] using h) | (exfalso; omega)
    · obtain rfl := Option.some.inj ho
      have d8 : L 8 = true := hdep ⟨8, .data⟩ (by simp) rfl
      clear hdep ho
      obtain ⟨⟨d3, d7⟩, hy8⟩ := hWI.h8 d8
      obtain ⟨gF, hy3, _, _⟩ := hWI.h3 d3
      obtain ⟨gM, hy7, _, _⟩ := hWI.h7 d7
      rw [hy3, hy7] at hy8
      rw [hy8, hy3, hy7]
      go_simp
      refine hK _ _ (mk _ _ _ rfl ?_ ?_)
      rotate_left
      · exact (by have hh := hWI.op9 d8; rw [hy3, hy7, hy8] at hh; exact hh)
      · intro j hj h
        rcases j with _ | _ | _ | j
        all_goals first | (rw [hvv]; rfl) | exact hy _ (by omega) (by simpa [put1] using h) | (exfalso; omega)
    · obtain rfl := Option.some.inj ho
      clear hdep ho
      go_simp
      refine hK _ _ (mk _ _ _ rfl ?_ ?_)
      rotate_left
      · exact hWI.alloc10 hLi
      · intro j hj h
        rcases j with _ | _ | _ | j
        all_goals first | (rw [hvv]; rfl) | exact hy _ (by omega) (by simpa [put1] using h) | (exfalso; omega)
    · obtain rfl := Option.some.inj ho
      have d10 : L 10 = true := hdep ⟨10, .data⟩ (by simp) rfl
      have d9 : L 9 = true := hdep ⟨9, .data⟩ (by simp) rfl
      clear hdep ho
      have nn : L 11 = false := hLi
      obtain ⟨d8, hy9⟩ := hWI.h9 d9
      obtain ⟨⟨d3, d7⟩, hy8⟩ := hWI.h8 d8
      obtain ⟨gF, hy3, _, _⟩ := hWI.h3 d3
      obtain ⟨gM, hy7, _, _⟩ := hWI.h7 d7
      obtain ⟨g, hg, hgB, hblk⟩ := hWI.h10 d10
      rw [nn, if_neg (by decide)] at hblk
      have q0 := (hblk.cell 0).trans rfl
      have q1 := (hblk.cell 1).trans rfl
      have q2 := (hblk.cell 2).trans rfl
      have q3 := (hblk.cell 3).trans rfl
      have f0 := hblk.frozen 0
      have f1 := hblk.frozen 1
      have f2 := hblk.frozen 2
      have f3 := hblk.frozen 3
      rw [hy3, hy7] at hy9 hy8
      rw [hg, hy9, hy8, hy3, hy7]
      go_simp
      refine hK _ _ (mk _ _ _ rfl ?_ ?_)
      rotate_left
      · exact (by have hh := hWI.store11 d9 d10 hg hgB hblk; rw [hg, hy9, hy8, hy3, hy7] at hh; exact hh)
      · intro j hj h
        rcases j with _ | _ | _ | j
        all_goals first | (rw [hvv]; rfl) | exact hy _ (by omega) (by simpa [put1] using h) | (exfalso; omega)
    · exfalso; omega
  case rdone =>
    rintro L a w2 hall ⟨y, rfl, hy, hWI⟩
    obtain ⟨gF, e3, zF, bF⟩ := hWI.h3 (hall 3 (by decide))
    obtain ⟨gM, e7, zM, bM⟩ := hWI.h7 (hall 7 (by decide))
    have hne := hWI.hne (hall 3 (by decide)) (hall 7 (by decide))
    obtain ⟨gp, e10, zp, bP⟩ := hWI.h10 (hall 10 (by decide))
    rw [if_pos (hall 11 (by decide)), e3, e7] at bP
    rw [e3, e7] at hne
    have hFM : gF ≠ gM := fun e => hne (by rw [e]; rfl)
    have hb2 := hWI.bel
    have hb12 : Below w.heap.size w w2 := below_then hb1 hb1.size hb2
    have bE := hE1.below hb2 hE1.lt
    have b6 := h61.below hb2 h61.lt
    have bB := hB1.below hb2 hB1.lt
    have hz1 : w.heap.size + 1 + 1 + 1 ≤ w1.heap.size := h61.lt
    rw [e10]
    generalize y 0 = y0
    generalize y 1 = y1
    generalize y 2 = y2
    generalize y 3 = y3
    generalize y 4 = y4
    generalize y 5 = y5
    generalize y 6 = y6
    generalize y 7 = y7
    generalize y 8 = y8
    generalize y 9 = y9
    clear mk hvv hy hall hWI e3 e7 e10 hne hE1 h61 hB1 HE HMF HMM
    have zF' : w.heap.size ≤ gF := by omega
    have zM' : w.heap.size ≤ gM := by omega
    have zp' : w.heap.size ≤ gp := by omega
    have hEp : w.heap.size + 1 ≠ gp := by omega
    have h6p : w.heap.size + 1 + 1 ≠ gp := by omega
    have hBp : w.heap.size ≠ gp := by omega
    obtain ⟨w3, hcp, bF3, hg3⟩ := copy_blk (c := cF) bF rfl (Kd.C_below hF hb12)
    have p0 := (bP.cell 0).trans rfl
    have q0 := (bE.cell 0).trans rfl
    go_upto_region 3 with (fail)
    have bP3 := bP.grown hg3 (fun e => bP.ne_ bF (by decide) (by injection e))
    have bE3 := bE.grown hg3 (fun e => bE.ne_ bF (by decide) (by injection e))
    have b63 := b6.grown hg3 (fun e => b6.ne_ bF (by decide) (by injection e))
    have bM3 := bM.grown hg3 (fun e => hFM (by injection e with e; exact e.symm))
    have bB3 := bB.grown hg3 (fun e => bB.ne_ bF (by decide) (by injection e))
    have hb13 : Below w.heap.size w w3 := hb12.grown hg3 hb12.size (fun r hr => by injection hr with hr; omega)
    clear hcp p0 q0 bP bE b6 bM bB bF hb2 hb12 hg3
    obtain ⟨w4, hcp, bM4, hg4⟩ := copy_blk (c := cM) bM3 rfl (Kd.C_below hM hb13)
    have p1 := (bP3.cell 1).trans rfl
    have q1 := (bE3.cell 1).trans rfl
    go_upto_region 4 with (fail)
    have bP4 := bP3.grown hg4 (fun e => bP3.ne_ bM3 (by decide) (by injection e))
    have bE4 := bE3.grown hg4 (fun e => bE3.ne_ bM3 (by decide) (by injection e))
    have b64 := b63.grown hg4 (fun e => b63.ne_ bM3 (by decide) (by injection e))
    have bF4 := bF3.grown hg4 (fun e => hFM (by injection e))
    have bB4 := bB3.grown hg4 (fun e => bB3.ne_ bM3 (by decide) (by injection e))
    have hb14 : Below w.heap.size w w4 := hb13.grown hg4 hb13.size (fun r hr => by injection hr with hr; omega)
    clear hcp p1 q1 bP3 bE3 b63 bM3 bB3 bF3 hb13 hg4
    have hKE := kept_any (.slice FA F.length cF) MA cM M DA cD D w4 rfl (Kd.C_below hM hb14) (Kd.C_below hD hb14) (by omega)
    have q0 := (bE4.cell 0).trans rfl
    have q1 := (bE4.cell 1).trans rfl
    have HKE := hid hKE
    clear hKE
    have HG4 := hid (show Blk w4 gp tPl #[.slice (some ⟨gF, 0, none⟩) F.length F.length, .slice (some ⟨gM, 0, none⟩) M.length M.length, .slice none 0 0, .slice none 0 0] from bP4)
    go_upto_region 5 with (go_at_call 48; refine HKE.out.mono ?_; rintro e w5 ⟨vK, rfl, ho5, hb5⟩; have bP5 := HG4.out.below hb5 HG4.out.lt; have g2 := (bP5.cell 2).trans rfl; have z2 := bP5.frozen 2; have HO5 := hid ho5; clear ho5; obtain ⟨AK, cK, rfl⟩ := own_slice HO5.out; clear q0 q1)
    have hb15 : Below w.heap.size w w5 := below_then hb14 hb14.size hb5
    have lP4 := bP4.lt
    have lE4 := bE4.lt
    have l64 := b64.lt
    have lF4 := bF4.lt
    have lM4 := bM4.lt
    have lB4 := bB4.lt
    have bE5 := bE4.below hb5 lE4
    have b65 := b64.below hb5 l64
    have bF5 := bF4.below hb5 lF4
    have bM5 := bM4.below hb5 lM4
    have bB5 := bB4.below hb5 lB4
    clear HKE hb5 hb14 bE4 b64 bF4 bM4 bB4 bP4 HG4 g2 z2
    obtain ⟨w6, hw6⟩ : ∃ w6, w5.setCell ⟨gp, 2, none⟩ (.slice AK (keptL M D).length cK) = w6 := ⟨_, rfl⟩
    have bP6 : Blk w6 gp tPl #[.slice (some ⟨gF, 0, none⟩) F.length F.length, .slice (some ⟨gM, 0, none⟩) M.length M.length, .slice AK (keptL M D).length cK, .slice none 0 0] := by rw [← hw6]; simpa using bP5.set_ 2 (.slice AK (keptL M D).length cK)
    have bE6 : Blk w6 (w.heap.size + 1) tEm #[.slice FA F.length cF, .slice MA M.length cM] := by rw [← hw6]; exact bE5.far (p := ⟨gp, 2, none⟩) hEp _
    have b66 : Blk w6 (w.heap.size + 1 + 1) tPl nilP := by rw [← hw6]; exact b65.far (p := ⟨gp, 2, none⟩) h6p _
    have bF6 : Blk w6 gF tI9 (nums .i64 F).toArray := by rw [← hw6]; exact bF5.far (p := ⟨gp, 2, none⟩) (bF5.ne_ bP5 (by decide)) _
    have bM6 : Blk w6 gM tI9 (nums .i64 M).toArray := by rw [← hw6]; exact bM5.far (p := ⟨gp, 2, none⟩) (bM5.ne_ bP5 (by decide)) _
    have bB6 : Blk w6 w.heap.size 29 #[.int .i64 V, .slice BA n cB] := by rw [← hw6]; exact bB5.far (p := ⟨gp, 2, none⟩) hBp _
    have hb16 : Below w.heap.size w w6 := by rw [← hw6]; exact hb15.setCell (p := ⟨gp, 2, none⟩) zp' _
    have hnn : il (nl (keptL M D)) = keptL M D := il_nl (fun b hb => by
      have := (List.mem_filter.1 hb).2
      simp only [keepB, Bool.and_eq_true, decide_eq_true_eq] at this
      exact this.1.1)
    have hlK : (keptL M D).length ≤ D.length := List.length_filter_le _ _
    have HO6 : w6.ownsRow w4.heap.size tI9 1 (.slice AK (keptL M D).length cK) (nl (keptL M D)).length (nums .i64 (il (nl (keptL M D)))) := by
      rw [hnn, nl_length, ← hw6]
      exact own_setCell (p := ⟨gp, 2, none⟩) HO5.out (fun e => by have : w4.heap.size ≤ gp := own_base HO5.out _ e.symm; omega) _
    rw [hw6]
    clear hw6 bP5 bE5 b65 bF5 bM5 bB5 hb15 HO5
    have hSO := sort_anyI w4.heap.size _ (nl (keptL M D)) w6 HO6 (by rw [nl_length]; omega)
    have HSO := hid hSO
    have HO6' := hid HO6
    clear hSO HO6
    have g2 := (bP6.cell 2).trans rfl
    have hbB1 := (bB6.cell 1).trans rfl
    go_upto_region 6 with (go_at_call 49; refine HSO.out.mono ?_; rintro e wS ⟨rfl, ho7, hg7⟩; have HO7 := hid ho7; have HG7 := hid hg7; clear ho7 hg7 g2 hbB1)
    have hnb : ∀ k, k < w4.heap.size → some k ≠ (Value.slice AK (keptL M D).length cK).ownBlock := fun k hk e => by have : w4.heap.size ≤ k := own_base HO6'.out _ e.symm; omega
    have bP7 := bP6.grown HG7.out (hnb _ lP4)
    have bE7 := bE6.grown HG7.out (hnb _ lE4)
    have b67 := b66.grown HG7.out (hnb _ l64)
    have bF7 := bF6.grown HG7.out (hnb _ lF4)
    have bM7 := bM6.grown HG7.out (hnb _ lM4)
    have bB7 := bB6.grown HG7.out (hnb _ lB4)
    have hz4 : w.heap.size ≤ w4.heap.size := by omega
    have hbS : Below w.heap.size w wS := hb16.grown HG7.out hb16.size (fun r hr => Nat.le_trans hz4 (own_base HO6'.out r hr))
    obtain ⟨K, hKd⟩ : ∃ K, il (sortedL (nl (keptL M D))) = K := ⟨_, rfl⟩
    have hKl : (keptL M D).length = K.length := by rw [← hKd, il_length, sortedL_length, nl_length]
    have hKm : ∀ k ∈ K, k ∈ keptL M D := fun k hk => by
      rw [← hKd] at hk
      obtain ⟨q, hq, rfl⟩ := List.mem_map.1 hk
      rw [← hnn]
      exact List.mem_map.2 ⟨q, (sortedL_permE _).mem_iff.1 hq, rfl⟩
    have HK : Hid (∀ k ∈ K, ∃ i m : Nat, k = i ∧ i < M.length ∧ rd M i = m ∧ m < n) := (show ∀ k ∈ K, _ from fun k hk => by
      have h1 := hKm k hk
      obtain ⟨m, hm1, hm2⟩ := hK k h1
      have h2 := (List.mem_filter.1 h1).2
      simp only [keepB, Bool.and_eq_true, decide_eq_true_eq] at h2
      obtain ⟨i, rfl⟩ := Int.eq_ofNat_of_zero_le h2.1.1
      exact ⟨i, m, rfl, by omega, hm1, hm2⟩)
    have HKD := hid hKd
    have hoS : wS.ownsRow w4.heap.size tI9 1 (.slice AK K.length cK) K.length (nums .i64 K) := by
      have := HO7.out
      rw [hKd, nl_length, hKl] at this
      exact this
    have hKLen : K.length < 2 ^ 40 := by omega
    rw [hKl] at bP7 hnb ⊢
    clear HO6' HG7 HO7 HSO bP6 bE6 b66 bF6 bM6 bB6 hb16 hnn hlK hKm hK hKd hKl
    obtain ⟨j0, hj0, hy0, hy1, hy2⟩ := info_parts infoB9
    have hmkB := run_makeSlice (P := Try.prog) (w := wS) 94 4 j0 _ Try.underlying94 hj0 hy0 .i64 .i64 (n : Int) (n : Int) (by omega) (by omega) (by rw [hy1]; simp; omega) (by rw [hy2]; omega) (by omega)
    simp only [hy1, Nat.mul_one, Int.toNat_natCast] at hmkB
    have hbB1 := (bB7.cell 1).trans rfl
    go_upto_region 7 with (fail)
    clear hmkB hbB1 hj0 hy0 hy1 hy2
    obtain ⟨w7, hw7⟩ : ∃ w7, wS.alloc (.cells (madeCells #[.bool false] n) tB9) = w7 := ⟨_, rfl⟩
    have hf7 : BF w7 wS.heap.size n (fun _ => false) := by
      rw [← hw7]
      unfold BF
      rw [← madeB n]
      exact Blk.new wS tB9 (madeCells #[.bool false] n)
    have hbS7 : Below wS.heap.size wS w7 := by rw [← hw7]; exact below_alloc (Below.refl _ _) _
    have LTS : gF < wS.heap.size ∧ gM < wS.heap.size ∧ w.heap.size + 1 < wS.heap.size ∧ gp < wS.heap.size ∧ w.heap.size + 1 + 1 < wS.heap.size := ⟨bF7.lt, bM7.lt, bE7.lt, bP7.lt, b67.lt⟩
    have hzS7 : wS.heap.size < w7.heap.size := Blk.lt hf7
    have hsz7 : w.heap.size ≤ w7.heap.size := by omega
    have HP : Hid (Pst w gF gM (w.heap.size + 1) gp (w.heap.size + 1 + 1) F M K (.slice FA F.length cF) (.slice MA M.length cM) (.slice AK K.length cK) (.slice none 0 0) w7) :=
      (show Pst _ _ _ _ _ _ _ _ _ _ _ _ _ _ from ⟨below_then hbS hbS.size hbS7, bF7.below hbS7 LTS.1, bM7.below hbS7 LTS.2.1, bE7.below hbS7 LTS.2.2.1, bP7.below hbS7 LTS.2.2.2.1, b67.below hbS7 LTS.2.2.2.2, own_less (pw_own_below hoS hbS7) hz4⟩)
    have hlt7 : ∀ k, (Value.slice AK K.length cK).ownBlock = some k → k < wS.heap.size := own_lt hoS
    have hKb : ∀ k, (Value.slice AK K.length cK).ownBlock = some k → w4.heap.size ≤ k := own_base hoS
    obtain ⟨gf, hgf⟩ : ∃ gf, wS.heap.size = gf := ⟨_, rfl⟩
    rw [hw7]
    rw [hgf] at hf7 hzS7 hlt7 LTS ⊢
    have zf : w.heap.size ≤ gf := by have := hbS.size; omega
    have hKf : some gf ≠ (Value.slice AK K.length cK).ownBlock := fun e => by have := hlt7 gf e.symm; omega
    have hKp := hnb gp lP4
    have HF := hid hf7
    have LT := hid (show gF < w7.heap.size ∧ gM < w7.heap.size ∧ w.heap.size + 1 < w7.heap.size ∧ gp < w7.heap.size ∧ w.heap.size + 1 + 1 < w7.heap.size ∧ gf < w7.heap.size ∧ (∀ k, (Value.slice AK K.length cK).ownBlock = some k → k < w7.heap.size) from ⟨by omega, by omega, by omega, by omega, by omega, hzS7, fun k hk => by have := hlt7 k hk; omega⟩)
    have zp := zp'
    have hQ : ∀ W v4, Pst w gF gM (w.heap.size + 1) gp (w.heap.size + 1 + 1) F M K (.slice FA F.length cF) (.slice MA M.length cM) (.slice AK K.length cK) v4 W → W.ownsRow w7.heap.size tI9 1 v4 (furL n M K n).length (nums .i64 (furL n M K n)) → (fun (e : Ending) (w' : World) => ∃ v1 v2 v3 v4, e = .returned (.agg #[v1, v2, v3, v4]) ∧ w'.ownsRow w.heap.size tI9 1 v1 F.length (nums .i64 F) ∧ w'.ownsRow w.heap.size tI9 1 v2 M.length (nums .i64 M) ∧ w'.ownsRow w.heap.size tI9 1 v3 (keptL M D).length (nums .i64 (il (sortedL (nl (keptL M D))))) ∧ w'.ownsRow w.heap.size tI9 1 v4 (furL n M (il (sortedL (nl (keptL M D)))) n).length (nums .i64 (furL n M (il (sortedL (nl (keptL M D)))) n)) ∧  (v1.ownBlock ≠ v2.ownBlock ∧ v1.ownBlock ≠ v3.ownBlock ∧ v1.ownBlock ≠ v4.ownBlock ∧ v2.ownBlock ≠ v3.ownBlock ∧ v2.ownBlock ≠ v4.ownBlock ∧ ND v3 v4) ∧ Below w.heap.size w w') (.returned (.agg #[.slice (some ⟨gF, 0, none⟩) F.length F.length, .slice (some ⟨gM, 0, none⟩) M.length M.length, .slice AK K.length cK, v4])) (((((W.setCell ⟨w.heap.size + 1 + 1, 0, none⟩ (.slice (some ⟨gF, 0, none⟩) F.length F.length)).setCell ⟨w.heap.size + 1 + 1, 1, none⟩ (.slice (some ⟨gM, 0, none⟩) M.length M.length)).setCell ⟨w.heap.size + 1 + 1, 2, none⟩ (.slice AK K.length cK)).setCell ⟨w.heap.size + 1 + 1, 3, none⟩ v4)) := by
      intro W v4 h4 h5
      have hne6 : ∀ (v : Value), some (w.heap.size + 1 + 1) ≠ v.ownBlock → ∀ (n : Nat) (xs : List Value), W.ownsRow w.heap.size tI9 1 v n xs → (((((W.setCell ⟨w.heap.size + 1 + 1, 0, none⟩ (.slice (some ⟨gF, 0, none⟩) F.length F.length)).setCell ⟨w.heap.size + 1 + 1, 1, none⟩ (.slice (some ⟨gM, 0, none⟩) M.length M.length)).setCell ⟨w.heap.size + 1 + 1, 2, none⟩ (.slice AK K.length cK)).setCell ⟨w.heap.size + 1 + 1, 3, none⟩ v4)).ownsRow w.heap.size tI9 1 v n xs := fun v hv n xs ho =>
        own_setCell (p := ⟨w.heap.size + 1 + 1, 3, none⟩) (own_setCell (p := ⟨w.heap.size + 1 + 1, 2, none⟩) (own_setCell (p := ⟨w.heap.size + 1 + 1, 1, none⟩) (own_setCell (p := ⟨w.heap.size + 1 + 1, 0, none⟩) ho hv _) hv _) hv _) hv _
      have l4 : ∀ k, v4.ownBlock = some k → w7.heap.size ≤ k := own_base h5
      have n4 : ∀ k, k < w7.heap.size → some k ≠ v4.ownBlock := fun k hk e => by have := l4 k e.symm; omega
      have nK6 : some (w.heap.size + 1 + 1) ≠ (Value.slice AK K.length cK).ownBlock := hnb _ l64
      have oF : W.ownsRow w.heap.size tI9 1 (.slice (some ⟨gF, 0, none⟩) F.length F.length) F.length (nums .i64 F) := own_of_blk h4.bF zF' (by omega)
      have oM : W.ownsRow w.heap.size tI9 1 (.slice (some ⟨gM, 0, none⟩) M.length M.length) M.length (nums .i64 M) := own_of_blk h4.bM zM' (by omega)
      have lKD : (keptL M D).length = K.length := by rw [← HKD.out, il_length, sortedL_length, nl_length]
      refine ⟨_, _, _, _, rfl, hne6 _ (fun e => h4.b6.ne_ h4.bF (by decide) (by injection e)) _ _ oF, hne6 _ (fun e => h4.b6.ne_ h4.bM (by decide) (by injection e)) _ _ oM, ?_, ?_, ⟨fun e => hFM (by injection e), fun e => hnb gF lF4 e, fun e => n4 gF LT.out.1 e, fun e => hnb gM lM4 e, fun e => n4 gM LT.out.2.1 e, ?_⟩, ?_⟩
      · rw [HKD.out, lKD]
        exact hne6 _ nK6 _ _ h4.oK
      · rw [HKD.out]
        exact hne6 _ (n4 _ LT.out.2.2.2.2.1) _ _ (own_less h5 hsz7)
      · cases hv : (Value.slice AK K.length cK).ownBlock with
        | none => exact .inl hv
        | some k => exact .inr (fun e => by have := LT.out.2.2.2.2.2.2 k hv; exact n4 k this (by rw [← hv]; exact e))
      · exact (((h4.bel.setCell (p := ⟨w.heap.size + 1 + 1, 0, none⟩) (by show w.heap.size ≤ w.heap.size + 1 + 1; omega) _).setCell (p := ⟨w.heap.size + 1 + 1, 1, none⟩) (by show w.heap.size ≤ w.heap.size + 1 + 1; omega) _).setCell (p := ⟨w.heap.size + 1 + 1, 2, none⟩) (by show w.heap.size ≤ w.heap.size + 1 + 1; omega) _).setCell (p := ⟨w.heap.size + 1 + 1, 3, none⟩) (by show w.heap.size ≤ w.heap.size + 1 + 1; omega) _
    have HQ0 := hid hQ
    clear hQ bP7 bE7 b67 bF7 bM7 bB7 hbS hoS hf7 hbS7 LTS hlt7 hKb hgf hw7 hnb lP4 lE4 l64 lF4 lM4 lB4 hz4 zF' zM' zp' hEp hBp zF zM hD hF hDl hb1 hz1
    go_wp2
    go_loopw [9, 49] (fun _ i wr => ∃ k : Nat, k ≤ n ∧ i = .int .i64 k ∧ Hid (Pst w gF gM (w.heap.size + 1) gp (w.heap.size + 1 + 1) F M K (.slice FA F.length cF) (.slice MA M.length cM) (.slice AK K.length cK) (.slice none 0 0) wr) ∧ Hid (∃ fb : Nat → Bool, (∀ j < k, fb j = true) ∧ BF wr gf n fb) ∧ Hid (wr.heap.size = w7.heap.size)) (fun _ i _ => n - (intOf i).toNat)
    case atStart => exact ⟨0, by omega, rfl, HP.out, ⟨_, fun j hj => by omega, HF.out⟩, rfl⟩
    case round =>
      obtain ⟨k, hk, rfl, HPk, HFk, HS⟩ := hrel
      by_cases hlt : k < n
      · obtain ⟨fb, hfb, hbf⟩ := HFk.out
        have hc := hbf.cell hlt
        have hfz := hbf.frozen k
        have HFb := hid hfb
        have HB := hid hbf
        clear hfb hbf
        go_wp2
        go_roundw
        case rel =>
          refine ⟨k + 1, by omega, by go_num, HPk.out.set HB.out hKf zf _, ⟨_, fun j hj => ?_, HB.out.set hlt true⟩, (show _ = _ by simpa using HS.out)⟩
          by_cases e : j = k
          · simp [e]
          · simp [e, HFb.out j (by omega)]
        case measure => simp [intOf]; omega
      · obtain rfl : k = n := by omega
        obtain ⟨fb0, hfb0, hbf0⟩ := HFk.out
        have p2 : wr.cell? ⟨gp, 2, none⟩ = some (.slice AK K.length cK) := (HPk.out.bP.cell 2).trans rfl
        have HF1 : Hid (∃ fb : Nat → Bool, (∀ i < k, fb i = !hitB M K 0 i) ∧ BF wr gf k fb) := (show ∃ fb : Nat → Bool, _ from ⟨fb0, fun i hi => by rw [hfb0 i hi]; simp [hitB], hbf0⟩)
        clear hfb0 hbf0 HFk HP HF
        go_wp2
        clear p2
        go_loopw [11, 59] (fun _ i wr2 => ∃ j : Nat, j ≤ K.length ∧ i = .int .i64 j ∧ Hid (Pst w gF gM (w.heap.size + 1) gp (w.heap.size + 1 + 1) F M K (.slice FA F.length cF) (.slice MA M.length cM) (.slice AK K.length cK) (.slice none 0 0) wr2) ∧ Hid (∃ fb : Nat → Bool, (∀ i < k, fb i = !hitB M K j i) ∧ BF wr2 gf k fb) ∧ Hid (wr2.heap.size = w7.heap.size)) (fun _ i _ => K.length - (intOf i).toNat)
        case atStart => exact ⟨0, by omega, rfl, HPk.out, HF1.out, HS.out⟩
        case round =>
          clear HPk HF1 HS
          obtain ⟨j, hj, rfl, HPj, HFj, HSj⟩ := hrel
          by_cases hlj : j < K.length
          · obtain ⟨A', c', e', _, _, hKC⟩ := own_IC HPj.out.oK
            cases e'
            obtain ⟨adK, kx, rfl, hck, HKX⟩ := IC.at_ hKC hlj
            obtain ⟨ki, m, rfl, hkM, hm, hmn⟩ := HK.out kx (List.mem_of_getElem? HKX.out.1)
            obtain ⟨adM, mx, rfl, hcm, HMX⟩ := IC.at_ (Kd.C_below hM HPj.out.bel) hkM
            obtain rfl : mx = (m : Int) := HMX.out.2.symm.trans hm
            obtain ⟨fb, hfb, hbf⟩ := HFj.out
            have hc := hbf.cell hmn
            have hfz := hbf.frozen m
            have e1 : wr.cell? ⟨(w.heap.size + 1), 1, none⟩ = some (.slice (some adM) M.length cM) := (HPj.out.bE.cell 1).trans rfl
            have HFb := hid hfb
            have HB := hid hbf
            have HMm := hid hm
            have HNE : Hid (some gf ≠ (Value.slice (some adK) K.length cK).ownBlock) := hKf
            clear hfb hbf hKC hm hM
            go_wp2
            go_roundw
            case rel =>
              refine ⟨j + 1, by omega, by go_num, HPj.out.set HB.out HNE.out zf _, ⟨_, fun i hi => ?_, HB.out.set hmn false⟩, (show _ = _ by simpa using HSj.out)⟩
              have htk : K.take (j + 1) = K.take j ++ [(ki : Int)] := by rw [List.take_add_one, HKX.out.1]; rfl
              have h1 := HFb.out i hi
              unfold hitB at h1 ⊢
              rw [htk, List.any_append, h1]
              by_cases e : i = m
              · subst e; simp [HMm.out]
              · have : ¬ (m : Int) = (i : Int) := fun h => e (by omega)
                simp [e, HMm.out, this]
            case measure => simp [intOf]; omega
          · obtain rfl : j = K.length := by omega
            clear HK
            obtain ⟨fb0, hfb0, hbf0⟩ := HFj.out
            have HF2 : Hid (∃ fb : Nat → Bool, (∀ i < k, fb i = !hitB M K K.length i) ∧ BF wr gf k fb) := HFj
            clear hfb0 hbf0 HFj
            go_wp2
            go_loopw [12, 13, 73] (fun _ _ i wr3 => ∃ (j : Nat) (v4 : Value), j ≤ k ∧ i = .int .i64 j ∧ Hid (Pst w gF gM (w.heap.size + 1) gp (w.heap.size + 1 + 1) F M K (.slice FA F.length cF) (.slice MA M.length cM) (.slice AK K.length cK) v4 wr3) ∧ Hid (∃ fb : Nat → Bool, (∀ i < k, fb i = !hitB M K K.length i) ∧ BF wr3 gf k fb) ∧ Hid (wr3.ownsRow w7.heap.size tI9 1 v4 (furL k M K j).length (nums .i64 (furL k M K j))) ∧ Hid (w7.heap.size ≤ wr3.heap.size)) (fun _ _ i _ => k - (intOf i).toNat)
            case atStart => exact ⟨0, _, by omega, rfl, HPj.out, HF2.out, own_nil _ _ _ _, (show _ ≤ _ by rw [HSj.out]; exact Nat.le_refl _)⟩
            case round =>
              clear HPj HF2 HSj
              obtain ⟨j, v4, hj, rfl, HPj, HFj, HO4, HSj⟩ := hrel
              have p3 : wr.cell? ⟨gp, 3, none⟩ = some v4 := (HPj.out.bP.cell 3).trans rfl
              have f3 := HPj.out.bP.frozen 3
              by_cases hlj : j < k
              · obtain ⟨fb, hfb, hbf⟩ := HFj.out
                have hc := hbf.cell hlj
                have hfj := hfb j hlj
                have hfl := furL_len k M K j
                cases hh : hitB M K K.length j
                · rw [hh] at hfj
                  have HFur : Hid (furL k M K (j + 1) = furL k M K j ++ [(j : Int)]) := (show _ = _ by rw [furL, hh]; rfl)
                  rw [hfj] at hc
                  obtain ⟨A4, c4, rfl⟩ := own_slice HO4.out
                  have hnp : some gp ≠ (Value.slice A4 (furL k M K j).length c4).ownBlock := fun e => by have := own_base HO4.out _ e.symm; have := LT.out.2.2.2.1; omega
                  have HNP := hid hnp
                  clear hfb hbf hfj hh hnp
                  go_wp2_with (at_builtin; refine print_append_num w7.heap.size rfl (.tmp 80) (.tmp 82) _ _ .i64 8 rfl hus infoI (by decide) (.slice A4 (furL k M K j).length c4) (furL k M K j) (j : Int) (by simp [Act.eval]) (by simp [Act.eval]) HO4.out (Below.refl _ _) HSj.out (by omega) ?_; intro v1 w1 hown1 hbx hg1 hat1; clear hbx p3 f3; have q3 := ((HPj.out.bP.grown hg1 HNP.out).cell 3).trans rfl; have g3 := (HPj.out.bP.grown hg1 HNP.out).frozen 3; have HG1 := hid hg1; have HOn := hid hown1; clear hown1 hat1 hg1; obtain ⟨A5, c5, rfl⟩ := own_slice HOn.out)
                  go_roundw
                  case rel =>
                    obtain ⟨lF, lM, lE, lP, l6, lf, lK⟩ := LT.out
                    have hB4 : ∀ r, (Value.slice A4 (furL k M K j).length c4).ownBlock = some r → w7.heap.size ≤ r := own_base HO4.out
                    have hPn := HPj.out.put4 (v5 := .slice A5 (furL k M K j ++ [(j : Int)]).length c5) HG1.out hB4 hsz7 lF lM lE lP l6 lK zp h6p hKp
                    have hfn : ∃ fb : Nat → Bool, (∀ i < k, fb i = !hitB M K K.length i) ∧ BF (w1.setCell ⟨gp, 3, none⟩ (.slice A5 (furL k M K j ++ [(j : Int)]).length c5)) gf k fb := by
                      obtain ⟨fb, h1, h2⟩ := HFj.out
                      have h3 := Blk.grown h2 HG1.out (fun e => by have := hB4 gf e.symm; omega)
                      exact ⟨fb, h1, h3.far (p := ⟨gp, 3, none⟩) (h3.ne_ (HPj.out.bP.grown HG1.out HNP.out) (by decide)) _⟩
                    have hon : (w1.setCell ⟨gp, 3, none⟩ (.slice A5 (furL k M K j ++ [(j : Int)]).length c5)).ownsRow w7.heap.size tI9 1 (.slice A5 (furL k M K j ++ [(j : Int)]).length c5) (furL k M K (j + 1)).length (nums .i64 (furL k M K (j + 1))) := by
                      rw [HFur.out]
                      exact own_setCell (p := ⟨gp, 3, none⟩) HOn.out (fun e => by have : w7.heap.size ≤ gp := own_base HOn.out _ e.symm; omega) _
                    have hl1 : (furL k M K j ++ [(j : Int)]).length = (furL k M K j).length + 1 := by simp
                    rw [hl1] at hPn hfn hon
                    exact ⟨j + 1, _, by omega, by go_num, hPn, hfn, hon, (show _ ≤ _ by simp; exact Nat.le_trans HSj.out HG1.out.size)⟩
                  case measure => simp [intOf]; omega
                · rw [hh] at hfj
                  have HFur : Hid (furL k M K (j + 1) = furL k M K j) := (show _ = _ by rw [furL, hh]; simp)
                  rw [hfj] at hc
                  clear hfb hbf hfj hh p3 f3
                  go_wp2
                  go_roundw
                  case rel => exact ⟨j + 1, v4, by omega, by go_num, HPj.out, HFj.out, (show World.ownsRow _ _ _ _ _ _ _ by rw [HFur.out]; exact HO4.out), HSj.out⟩
                  case measure => simp [intOf]; omega
              · obtain rfl : j = k := by omega
                have pc0 : wr.cell? ⟨gp, 0, none⟩ = some (.slice (some ⟨gF, 0, none⟩) F.length F.length) := (HPj.out.bP.cell 0).trans rfl
                have pc1 : wr.cell? ⟨gp, 1, none⟩ = some (.slice (some ⟨gM, 0, none⟩) M.length M.length) := (HPj.out.bP.cell 1).trans rfl
                have pc2 : wr.cell? ⟨gp, 2, none⟩ = some (.slice AK K.length cK) := (HPj.out.bP.cell 2).trans rfl
                have q0 : wr.cell? ⟨(w.heap.size + 1 + 1), 0, none⟩ = some (.slice none 0 0) := (HPj.out.b6.cell 0).trans rfl
                have q1 : wr.cell? ⟨(w.heap.size + 1 + 1), 1, none⟩ = some (.slice none 0 0) := (HPj.out.b6.cell 1).trans rfl
                have q2 : wr.cell? ⟨(w.heap.size + 1 + 1), 2, none⟩ = some (.slice none 0 0) := (HPj.out.b6.cell 2).trans rfl
                have q3 : wr.cell? ⟨(w.heap.size + 1 + 1), 3, none⟩ = some (.slice none 0 0) := (HPj.out.b6.cell 3).trans rfl
                have z0 := HPj.out.b6.frozen 0
                have z1 := HPj.out.b6.frozen 1
                have z2 := HPj.out.b6.frozen 2
                have z3 := HPj.out.b6.frozen 3
                obtain ⟨A4, c4, rfl⟩ := own_slice HO4.out
                have HQ := hid (HQ0.out wr _ HPj.out HO4.out)
                clear HQ0
                go_wp2
                refine bodyPost_ret (v := .agg #[.slice (some ⟨gF, 0, none⟩) F.length F.length, .slice (some ⟨gM, 0, none⟩) M.length M.length, .slice AK K.length cK, .slice A4 (furL j M K j).length c4]) (by simp [results, Try.results27, go_sem, q0, q1, q2, q3, z0, z1, z2, z3]) rfl HQ.out
end Go.Proofs.Ytgegjhgifeobdaa


namespace Go.Proofs.Ytgegjhgifeobdaa.Pd
set_option linter.unusedSimpArgs false
set_option linter.unusedVariables false
open Go.RowKit Go.Lib Go.Shelf Go.Proofs.YtgegjhgifeobdaaW.PrintWords Go.Proofs.Ytgegjhgifeobdaa
attribute [local go_sem] Oper.semAt_some

abbrev tEv : TypeId := 59
abbrev evV (a0 a1 a2 a3 a4 a5 : Int) : Value := .agg #[.int .i64 a0, .int .i64 a1, .int .i64 a2, .int .i64 a3, .int .i64 a4, .int .i64 a5]
/-- Where a reading's test goes. -/
def goesA (M K : List Int) (a : Int) : Bool × Int := if a ∈ K ∧ 0 ≤ a ∧ a < M.length ∧ 0 ≤ rd M a then (true, rd M a) else (false, a)
theorem void_any (a0 a1 a2 a3 a4 a5 : Int) (w : World) : Calls Try.prog 34 #[evV a0 a1 a2 a3 a4 a5] w fun e w' => e = .returned (.tuple #[evV a0 a1 a2 a3 a4 a5, .bool true]) ∧ Below w.heap.size w w' := by
  have hue := Try.underlying59
  go_enter Try.func34, Try.ntmps34
  go_upto_region 1 with (fail)
  obtain ⟨w1, hw1⟩ : ∃ w1, (w.alloc (.cells #[.int .i64 a0, .int .i64 a1, .int .i64 a2, .int .i64 a3, .int .i64 a4, .int .i64 a5] tEv)).alloc (.cells #[.int .i64 0, .int .i64 0, .int .i64 0, .int .i64 0, .int .i64 0, .int .i64 0] tEv) = w1 := ⟨_, rfl⟩
  have bE : Blk w1 w.heap.size tEv #[.int .i64 a0, .int .i64 a1, .int .i64 a2, .int .i64 a3, .int .i64 a4, .int .i64 a5] := by rw [← hw1]; exact (Blk.new _ _ _).alloc _
  have bR : Blk w1 (w.heap.size + 1) tEv #[.int .i64 0, .int .i64 0, .int .i64 0, .int .i64 0, .int .i64 0, .int .i64 0] := by rw [← hw1]; exact heap_new (by simp)
  have hb : Below w.heap.size w w1 := by rw [← hw1]; exact below_alloc (below_alloc (Below.refl _ _) _) _
  rw [hw1]
  clear hw1
  have e0 := (bE.cell 0).trans rfl
  have e1 := (bE.cell 1).trans rfl
  have e2 := (bE.cell 2).trans rfl
  have e3 := (bE.cell 3).trans rfl
  have e4 := (bE.cell 4).trans rfl
  have e5 := (bE.cell 5).trans rfl
  have r0 := (bR.cell 0).trans rfl
  have r1 := (bR.cell 1).trans rfl
  have r2 := (bR.cell 2).trans rfl
  have r3 := (bR.cell 3).trans rfl
  have r4 := (bR.cell 4).trans rfl
  have r5 := (bR.cell 5).trans rfl
  have rz0 := bR.frozen 0
  have rz1 := bR.frozen 1
  have rz2 := bR.frozen 2
  have rz3 := bR.frozen 3
  have rz4 := bR.frozen 4
  have rz5 := bR.frozen 5
  go_wp2
  refine bodyPost_ret (v := .tuple #[evV a0 a1 a2 a3 a4 a5, .bool true]) (by simp [results, Try.results34, go_sem, r0, r1, r2, r3, r4, r5, rz0, rz1, rz2, rz3, rz4, rz5]) rfl ⟨rfl, (((((((hb.setCell (p := ⟨w.heap.size + 1, 0, none⟩) (Nat.le_succ _) _).setCell (p := ⟨w.heap.size + 1, 1, none⟩) (Nat.le_succ _) _).setCell (p := ⟨w.heap.size + 1, 2, none⟩) (Nat.le_succ _) _).setCell (p := ⟨w.heap.size + 1, 3, none⟩) (Nat.le_succ _) _).setCell (p := ⟨w.heap.size + 1, 4, none⟩) (Nat.le_succ _) _).setCell (p := ⟨w.heap.size + 1, 5, none⟩) (Nat.le_succ _) _))⟩
set_option maxHeartbeats 4000000 in
set_option maxRecDepth 100000 in
theorem result_any (g : Nat) (P0 P3 : Value) (MA KA : Option Addr) (cM cK : Nat) (M K : List Int) (a0 a1 a2 a3 a4 a5 : Int) (w : World) (hP : Blk w g tPl #[P0, .slice MA M.length cM, .slice KA K.length cK, P3]) (hM : IC w MA M.length M) (hK : IC w KA K.length K) (hKl : K.length < 2 ^ 40) :
    Calls Try.prog 35 #[evV a0 a1 a2 a3 a4 a5, .pointer (some ⟨g, 0, none⟩)] w fun e w' => e = .returned (.tuple #[evV a0 a1 a2 (goesA M K a3).2 a4 a5, .bool (goesA M K a3).1]) ∧ Below w.heap.size w w' := by
  have hue := Try.underlying59
  have hup := Try.underlying40
  have huE := Try.underlying38
  go_enter Try.func35, Try.ntmps35
  go_upto_region 1 with (fail)
  obtain ⟨w1, hw1⟩ : ∃ w1, (w.alloc (.cells #[.int .i64 a0, .int .i64 a1, .int .i64 a2, .int .i64 a3, .int .i64 a4, .int .i64 a5] tEv)).alloc (.cells #[.int .i64 0, .int .i64 0, .int .i64 0, .int .i64 0, .int .i64 0, .int .i64 0] tEv) = w1 := ⟨_, rfl⟩
  have bE : Blk w1 w.heap.size tEv #[.int .i64 a0, .int .i64 a1, .int .i64 a2, .int .i64 a3, .int .i64 a4, .int .i64 a5] := by rw [← hw1]; exact (Blk.new _ _ _).alloc _
  have bR : Blk w1 (w.heap.size + 1) tEv #[.int .i64 0, .int .i64 0, .int .i64 0, .int .i64 0, .int .i64 0, .int .i64 0] := by rw [← hw1]; exact heap_new (by simp)
  have hb : Below w.heap.size w w1 := by rw [← hw1]; exact below_alloc (below_alloc (Below.refl _ _) _) _
  have bP := hP.below hb hP.lt
  have hM1 : IC w1 MA M.length M := Kd.C_below hM hb
  rw [hw1]
  clear hw1 hP hM
  have p1 := (bP.cell 1).trans rfl
  have p2 := (bP.cell 2).trans rfl
  have e0 := (bE.cell 0).trans rfl
  have e1 := (bE.cell 1).trans rfl
  have e2 := (bE.cell 2).trans rfl
  have e3 := (bE.cell 3).trans rfl
  have e4 := (bE.cell 4).trans rfl
  have e5 := (bE.cell 5).trans rfl
  have r0 := (bR.cell 0).trans rfl
  have r1 := (bR.cell 1).trans rfl
  have r2 := (bR.cell 2).trans rfl
  have r3 := (bR.cell 3).trans rfl
  have r4 := (bR.cell 4).trans rfl
  have r5 := (bR.cell 5).trans rfl
  have rz0 := bR.frozen 0
  have rz1 := bR.frozen 1
  have rz2 := bR.frozen 2
  have rz3 := bR.frozen 3
  have rz4 := bR.frozen 4
  have rz5 := bR.frozen 5
  have HC := hid (contains_any KA cK K a3 w1 (Kd.C_below hK hb) hKl)
  by_cases h1 : a3 ∈ K
  · by_cases h2 : a3 < 0
    · have HG : Hid (goesA M K a3 = (false, a3)) := (show _ = _ by rw [goesA, if_neg (by omega)])
      rw [decide_eq_true h1] at HC
      have q0 : decide (a3 < 0) = true := decide_eq_true h2
      clear h1 h2 hM1
      go_wp2_with (go_at_call 36; refine HC.out.mono ?_; rintro e w' ⟨rfl, rfl⟩)
      refine bodyPost_ret (v := .tuple #[evV a0 a1 a2 a3 a4 a5, .bool false]) (by simp [results, Try.results35, go_sem, r0, r1, r2, r3, r4, r5, rz0, rz1, rz2, rz3, rz4, rz5]) rfl ⟨by rw [HG.out], (((((((hb.setCell (p := ⟨w.heap.size + 1, 0, none⟩) (Nat.le_succ _) _).setCell (p := ⟨w.heap.size + 1, 1, none⟩) (Nat.le_succ _) _).setCell (p := ⟨w.heap.size + 1, 2, none⟩) (Nat.le_succ _) _).setCell (p := ⟨w.heap.size + 1, 3, none⟩) (Nat.le_succ _) _).setCell (p := ⟨w.heap.size + 1, 4, none⟩) (Nat.le_succ _) _).setCell (p := ⟨w.heap.size + 1, 5, none⟩) (Nat.le_succ _) _))⟩
    · have q0 : decide (a3 < 0) = false := decide_eq_false h2
      by_cases h3 : (M.length : Int) ≤ a3
      · have HG : Hid (goesA M K a3 = (false, a3)) := (show _ = _ by rw [goesA, if_neg (by omega)])
        rw [decide_eq_true h1] at HC
        have q1 : decide ((M.length : Int) ≤ a3) = true := decide_eq_true h3
        clear h1 h2 h3 hM1
        go_wp2_with (go_at_call 36; refine HC.out.mono ?_; rintro e w' ⟨rfl, rfl⟩)
        refine bodyPost_ret (v := .tuple #[evV a0 a1 a2 a3 a4 a5, .bool false]) (by simp [results, Try.results35, go_sem, r0, r1, r2, r3, r4, r5, rz0, rz1, rz2, rz3, rz4, rz5]) rfl ⟨by rw [HG.out], (((((((hb.setCell (p := ⟨w.heap.size + 1, 0, none⟩) (Nat.le_succ _) _).setCell (p := ⟨w.heap.size + 1, 1, none⟩) (Nat.le_succ _) _).setCell (p := ⟨w.heap.size + 1, 2, none⟩) (Nat.le_succ _) _).setCell (p := ⟨w.heap.size + 1, 3, none⟩) (Nat.le_succ _) _).setCell (p := ⟨w.heap.size + 1, 4, none⟩) (Nat.le_succ _) _).setCell (p := ⟨w.heap.size + 1, 5, none⟩) (Nat.le_succ _) _))⟩
      · have q1 : decide ((M.length : Int) ≤ a3) = false := decide_eq_false h3
        obtain ⟨k, rfl⟩ := Int.eq_ofNat_of_zero_le (show 0 ≤ a3 by omega)
        obtain ⟨ad, x, rfl, hcx, HX⟩ := IC.at_ hM1 (show k < M.length by omega)
        have hkM : k < M.length := by omega
        have q1n : decide (M.length ≤ k) = false := decide_eq_false (by omega)
        clear q1
        rw [decide_eq_true h1] at HC
        by_cases h4 : x < 0
        · have HG : Hid (goesA M K k = (false, (k : Int))) := (show _ = _ by rw [goesA, if_neg (by rw [HX.out.2]; omega)])
          have q2 : decide (x < 0) = true := decide_eq_true h4
          clear h1 h2 h3 h4 hM1
          go_wp2_with (go_at_call 36; refine HC.out.mono ?_; rintro e w' ⟨rfl, rfl⟩)
          refine bodyPost_ret (v := .tuple #[evV a0 a1 a2 (k : Int) a4 a5, .bool false]) (by simp [results, Try.results35, go_sem, r0, r1, r2, r3, r4, r5, rz0, rz1, rz2, rz3, rz4, rz5]) rfl ⟨by rw [HG.out], (((((((hb.setCell (p := ⟨w.heap.size + 1, 0, none⟩) (Nat.le_succ _) _).setCell (p := ⟨w.heap.size + 1, 1, none⟩) (Nat.le_succ _) _).setCell (p := ⟨w.heap.size + 1, 2, none⟩) (Nat.le_succ _) _).setCell (p := ⟨w.heap.size + 1, 3, none⟩) (Nat.le_succ _) _).setCell (p := ⟨w.heap.size + 1, 4, none⟩) (Nat.le_succ _) _).setCell (p := ⟨w.heap.size + 1, 5, none⟩) (Nat.le_succ _) _))⟩
        · have HG : Hid (goesA M K k = (true, x)) := (show _ = _ by rw [goesA, HX.out.2, if_pos ⟨h1, by omega, by omega, by omega⟩])
          have q2 : decide (x < 0) = false := decide_eq_false h4
          have e3z := bE.frozen 3
          have hb3 := hb.setCell (p := ⟨w.heap.size, 3, none⟩) (Nat.le_refl _) (.int .i64 x)
          clear h1 h2 h3 h4 hM1
          go_wp2_with (go_at_call 36; refine HC.out.mono ?_; rintro e w' ⟨rfl, rfl⟩)
          refine bodyPost_ret (v := .tuple #[evV a0 a1 a2 x a4 a5, .bool true]) (by simp [results, Try.results35, go_sem, r0, r1, r2, r3, r4, r5, rz0, rz1, rz2, rz3, rz4, rz5]) rfl ⟨by rw [HG.out], (((((((hb3.setCell (p := ⟨w.heap.size + 1, 0, none⟩) (Nat.le_succ _) _).setCell (p := ⟨w.heap.size + 1, 1, none⟩) (Nat.le_succ _) _).setCell (p := ⟨w.heap.size + 1, 2, none⟩) (Nat.le_succ _) _).setCell (p := ⟨w.heap.size + 1, 3, none⟩) (Nat.le_succ _) _).setCell (p := ⟨w.heap.size + 1, 4, none⟩) (Nat.le_succ _) _).setCell (p := ⟨w.heap.size + 1, 5, none⟩) (Nat.le_succ _) _))⟩
  · have HG : Hid (goesA M K a3 = (false, a3)) := (show _ = _ by rw [goesA, if_neg (fun h => h1 h.1)])
    rw [decide_eq_false h1] at HC
    clear h1 hM1
    go_wp2_with (go_at_call 36; refine HC.out.mono ?_; rintro e w' ⟨rfl, rfl⟩)
    refine bodyPost_ret (v := .tuple #[evV a0 a1 a2 a3 a4 a5, .bool false]) (by simp [results, Try.results35, go_sem, r0, r1, r2, r3, r4, r5, rz0, rz1, rz2, rz3, rz4, rz5]) rfl ⟨by rw [HG.out], (((((((hb.setCell (p := ⟨w.heap.size + 1, 0, none⟩) (Nat.le_succ _) _).setCell (p := ⟨w.heap.size + 1, 1, none⟩) (Nat.le_succ _) _).setCell (p := ⟨w.heap.size + 1, 2, none⟩) (Nat.le_succ _) _).setCell (p := ⟨w.heap.size + 1, 3, none⟩) (Nat.le_succ _) _).setCell (p := ⟨w.heap.size + 1, 4, none⟩) (Nat.le_succ _) _).setCell (p := ⟨w.heap.size + 1, 5, none⟩) (Nat.le_succ _) _))⟩
end Go.Proofs.Ytgegjhgifeobdaa.Pd
