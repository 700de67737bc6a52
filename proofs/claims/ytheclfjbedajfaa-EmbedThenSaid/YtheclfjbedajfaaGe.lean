/- plexusref06.Shuffled, walked. -/
/- plexusref06.Image at a permutation, and what it calls, walked. -/
/- Between this claim's contracts and the printed ones: the answers of embed's functions. -/
import Derived.Test.YtheclfjbedajfaaLu
import Derived.Test.YtheclfjbedajfaaGl
import Derived.Test.YtheclfjbedajfaaAl
import Derived.Test.YtheclfjbedajfaaOf
import Derived.Test.YtheclfjbedajfaaRx
import Derived.Test.YtheclfjbedajfaaLi
namespace Go.Proofs.Ytheclfjbedajfaa
set_option linter.unusedSimpArgs false
set_option linter.unusedVariables false
open Go.RowKit Go.Lib Go.Shelf Go.Proofs.YtheclfjbedajfaaW.PrintWords

/-- Where number i goes. -/
def shAt (l : List Nat) (i : Nat) : Nat := l.getD i 0 % (i + 1)
def shL (l : List Nat) : Nat → List Nat
  | 0 => []
  | i + 1 => (shL l i).take (shAt l i) ++ [i] ++ (shL l i).drop (shAt l i)
theorem shAt_le (l : List Nat) (i : Nat) : shAt l i ≤ i := Nat.le_of_lt_succ (Nat.mod_lt _ (Nat.succ_pos i))
theorem shL_len (l : List Nat) : ∀ i, (shL l i).length = i
  | 0 => rfl
  | i + 1 => by
    have := shL_len l i
    have := shAt_le l i
    simp [shL]
    omega

set_option maxHeartbeats 2000000 in
set_option maxRecDepth 100000 in
theorem shuffled_any (A : Option Addr) (m c n : Nat) (l : List Nat) (w : World) (hB : NlC .u8 256 w A m l) (hm : m < 2 ^ 63) (hn : n < 2 ^ 20) :
    Calls Try.prog 23 #[.int .i64 n, .slice A m c] w fun e w' => ∃ v, e = .returned v ∧ w'.ownsRow w.heap.size 3 1 v n (nums .i64 (il (shL l n))) ∧ Below w.heap.size w w' := by
  obtain ⟨i0, hi0, hz0, hz1, hz2⟩ := info_parts infoI
  have HAT := hid (fun (W : World) (i : Nat) (hb : Below w.heap.size w W) => at_any A m c l (i : Int) (by omega) W (hB.below hb) hm)
  clear hB
  go_enter Try.func23, Try.ntmps23
  go_upto_region 2 with (fail)
  obtain ⟨w1, hw1⟩ : ∃ w1, w.alloc (.cells #[] 3) = w1 := ⟨_, rfl⟩
  have hb1 : Below w.heap.size w w1 := by rw [← hw1]; exact below_alloc (Below.refl _ _) _
  have ho1 : w1.ownsRow w.heap.size 3 1 (.slice (some ⟨w.heap.size, 0, none⟩) 0 0) 0 (nums .i64 (il (shL l 0))) := by rw [← hw1]; exact own_empty (heap_new rfl) (Nat.le_refl _)
  have HO1 := hid ho1
  rw [hw1]
  clear hw1 ho1
  go_wp2
  go_loopw [5, 6] (fun v i wr => ∃ j g cap : Nat, j ≤ n ∧ i = .int .i64 j ∧ v = .slice (some ⟨g, 0, none⟩) j cap ∧ Hid (wr.ownsRow w.heap.size 3 1 (.slice (some ⟨g, 0, none⟩) j cap) j (nums .i64 (il (shL l j)))) ∧ Below w.heap.size w wr) (fun _ i _ => n - (intOf i).toNat)
  case atStart => exact ⟨0, w.heap.size, 0, by omega, rfl, rfl, HO1, hb1⟩
  case round =>
    clear HO1 hb1
    obtain ⟨j, g, cap, hj, rfl, rfl, HO, hbr⟩ := hrel
    by_cases hlt : j < n
    · have hkj := shAt_le l j
      have AT := HAT.out wr j hbr
      rw [Int.toNat_natCast] at AT
      have eAT : ((l.getD j 0 : Nat) : Int) % ((j : Int) + 1) = ((shAt l j : Nat) : Int) := by rw [shAt]; push_cast; rfl
      obtain ⟨x, hx⟩ : ∃ x, l.getD j 0 = x := ⟨_, rfl⟩
      obtain ⟨k, hk⟩ : ∃ k, shAt l j = k := ⟨_, rfl⟩
      rw [hx, hk] at eAT
      rw [hx] at AT
      rw [hk] at hkj
      have AT := hid AT
      have hjc : j ≤ cap := by obtain ⟨_, _, e', h1, _⟩ := own_IC HO.out; injection e' with _ _ e2; omega
      have hkc : k ≤ cap := by omega
      have HRD := hid (Reads.of_own HO.out)
      go_upto_region 6 with (go_at_call 41; refine AT.out.mono ?_; rintro e wq ⟨rfl, rfl⟩)
      rw [eAT]
      have HK := hid hk
      clear eAT AT hk hx
      obtain ⟨A', hA'⟩ : ∃ A' : Option Addr, (if cap = k then some ⟨g, 0, none⟩ else some ((⟨g, 0, none⟩ : Addr).add k)) = A' := ⟨_, rfl⟩
      have HR1 := hid (show ∀ W, Below wq.heap.size wq W → Reads W wq.heap.size 1 (some ⟨g, 0, none⟩) k (nums .i64 (il ((shL l j).take k))) from fun W hW => by
        have := (HRD.out.take (k := k) (by omega)).below hW
        rwa [Nat.mul_one, ← nums_il_take] at this)
      have HR3 := hid (show ∀ W, Below wq.heap.size wq W → Reads W wq.heap.size 1 A' (j - k) (nums .i64 (il ((shL l j).drop k))) from fun W hW => by
        have := (HRD.out.cut (k := k) (cap := cap) (by omega) (by omega)).below hW
        rw [Nat.mul_one, ← nums_il_drop] at this
        simp only [Option.map_some] at this
        rwa [hA'] at this)
      have hA2 : (if cap = k then some ⟨g, 0, none⟩ else some ⟨g, k, none⟩) = A' := by rw [← hA']; by_cases h0 : k = 0 <;> simp [Addr.add, h0]
      clear hA'
      go_region_law (first
        | (refine step_append_any _ rfl (.tmp 20) (.tmp 23) _ rfl wq.heap.size 3 i0 _ 1 8 Try.underlying27 hi0 hz0 hz1 hz2 rfl (by decide) (.slice (some ⟨_, 0, none⟩) 0 0) 0 [] (by simp [Act.eval]; rfl)
            (own_empty (by first | exact blk_drew (heap_new (by simp)) | exact blk_drew (blk_alloc (heap_new rfl) _)) (by first | (simp; done) | (simp; omega))) wq.heap.size (some ⟨g, 0, none⟩) (k) cap (nums .i64 (il ((shL l j).take k))) (by simp [Act.eval])
            (HR1.out _ (by first | exact Below.refl _ _ | exact below_drew (below_alloc (Below.refl _ _) _) | exact below_drew (below_alloc (below_alloc (Below.refl _ _) _) _))) (nums_one _ _) (by simp only [maxLen] <;> omega) (by omega) (by first | (simp; done) | (simp; omega)) ?_
           intro v1 w1 hown1 hg1 hat1
           have hb1 : Below wq.heap.size wq w1 := pw_below_grown (by first | exact Below.refl _ _ | exact below_drew (below_alloc (Below.refl _ _) _) | exact below_drew (below_alloc (below_alloc (Below.refl _ _) _) _)) _ (by first | (simp; done) | (simp; omega)) hg1 (by rintro k_ ⟨⟩; first | (simp; done) | (simp; omega) | omega)
           first
           | have hBb := blk_grown (blk_drew (blk_alloc (heap_new (o := .cells #[.int .i64 (j : Int)] 3 (0, 0)) rfl) _)) hg1 (by simp [Value.ownBlock])
           | have hBb := blk_grown (blk_drew (heap_new (g := wq.heap.size + 1) (o := .cells #[.int .i64 (j : Int)] 3 (0, 0)) (by simp))) hg1 (by simp [Value.ownBlock])
           | have hBb := True.intro)
        | (refine step_append_any _ rfl (.tmp 24) (.tmp 26) _ rfl wq.heap.size 3 i0 _ 1 8 Try.underlying27 hi0 hz0 hz1 hz2 rfl (by decide) v1 (0 + k) ([] ++ nums .i64 (il ((shL l j).take k))) (by simp [Act.eval])
            (by first | exact hown1 | exact hown1.alloc _) (w1.heap.size + 1) (some ⟨_, 0, none⟩) 1 1 [.int .i64 (j : Int)] (by simp [Act.eval]; rfl)
            (by first | exact reads_one hBb (by have := blk_lt hBb; omega) | exact reads_one (heap_new rfl) (by omega)) (by simp [Value.oneCell']) (by simp only [maxLen] <;> omega) (by omega) (by have := hb1.size; simp; omega) ?_
           intro v2 w2 hown2 hg2 hat2
           have hb2 : Below wq.heap.size wq w2 := pw_below_grown (by first | exact hb1 | exact below_alloc hb1 _) _ (by have := hb1.size; simp; omega) hg2 (own_base hown1))
        | (refine step_append_any _ rfl (.tmp 27) (.tmp 30) _ rfl wq.heap.size 3 i0 _ 1 8 Try.underlying27 hi0 hz0 hz1 hz2 rfl (by decide) v2 (0 + k + 1) ([] ++ nums .i64 (il ((shL l j).take k)) ++ [.int .i64 (j : Int)]) (by simp [Act.eval])
            hown2 wq.heap.size A' ((j - k)) (cap - k) (nums .i64 (il ((shL l j).drop k))) (by first | (simp [Act.eval]; done) | (simp [Act.eval]; exact hA2))
            (HR3.out _ hb2) (nums_one _ _) (by simp only [maxLen] <;> omega) (by omega) hb2.size ?_
           intro v3 w3 hown3 hg3 hat3
           have hb3 : Below wq.heap.size wq w3 := pw_below_grown hb2 _ hb2.size hg3 (own_base hown2)))
      all_goals
        go_wp2
        have h := hown3
        rw [show 0 + k + 1 + (j - k) = j + 1 from by omega] at h
        have h' : w3.ownsRow w.heap.size 3 1 v3 (j + 1) (nums .i64 (il (shL l (j + 1)))) := own_less (by rw [shL, HK.out]; simpa [nums, il] using h) hbr.size
        obtain ⟨g3, cap3, rfl, _⟩ := World.ownsRow.form h' (by omega)
        exact ⟨⟨j + 1, g3, cap3, by omega, by simp, rfl, hid h', below_then hbr hbr.size hb3⟩, by show n - ((j : Int) + 1).toNat < n - ((j : Int)).toNat; omega⟩
    · obtain rfl : j = n := by omega
      go_wp2
      go_ret
      exact ⟨_, rfl, HO.out, hbr⟩
end Go.Proofs.Ytheclfjbedajfaa


namespace Go.Proofs.Ytheclfjbedajfaa
set_option linter.unusedSimpArgs false
set_option linter.unusedVariables false
open Go.RowKit Go.Lib Go.Shelf Go.Proofs.YtheclfjbedajfaaW.PrintWords
attribute [local go_sem] Oper.semAt_some

theorem or_step {M q : Nat} (hM : M < 2 ^ 64) (hq : q < 64) : bits .or .u64 (M : Int) (IntKind.u64.wrap (2 ^ q)) = ((M ||| 2 ^ q : Nat) : Int) := by
  have p64 : 2 ^ q < 2 ^ 64 := Nat.pow_lt_pow_right (by decide) hq
  rw [show ((2 : Int) ^ q) = ((2 ^ q : Nat) : Int) from by simp, wrapU_nat p64, uor hM p64]
theorem diff6_any (A : Option Addr) (c n : Nat) (gs : List Nat) (w : World) (hC : IC w A gs.length (il gs)) (hl : gs.length < 2 ^ 40) (hgn : ∀ q ∈ gs, q < n) (hnd : gs.Nodup) :
    Calls Try.prog 30 #[.slice A gs.length c, .int .i64 n] w fun e w' => e = .returned (.bool true) ∧ Below w.heap.size w w' := by
  have HG := hid hgn
  have HN := hid hnd
  have HC := hid hC
  clear hgn hnd hC
  go_enter Try.func30, Try.ntmps30
  go_wp2
  go_loopw [5] (fun i wr => ∃ k : Nat, k ≤ gs.length ∧ i = .int .i64 k ∧ Below w.heap.size w wr) (fun i _ => gs.length - (intOf i).toNat)
  case atStart => exact ⟨0, by omega, rfl, Below.refl _ _⟩
  case round =>
    obtain ⟨k, hk, rfl, hb⟩ := hrel
    by_cases hlt : k < gs.length
    · obtain ⟨ad, x, hA, hcx, HX⟩ := IC.at_ (Kd.C_below HC.out hb) (show k < gs.length from hlt)
      subst hA
      obtain ⟨q, hq, rfl⟩ : ∃ q, gs.getD k 0 = q ∧ x = (q : Int) := ⟨_, rfl, by rw [← HX.out.2]; exact rd_il hlt⟩
      have hqn : q < n := hq ▸ HG.out _ (getD_mem hlt)
      have q0 : decide ((q : Int) < 0) = false := by simp
      have q1 : decide ((n : Int) ≤ (q : Int)) = false := by simp; omega
      have HQ := hid hq
      clear hq
      go_wp2
      go_loopw [6] (fun i wr2 => ∃ j : Nat, j ≤ k ∧ i = .int .i64 j ∧ Below w.heap.size w wr2) (fun i _ => k - (intOf i).toNat)
      case atStart => exact ⟨0, by omega, rfl, hb⟩
      case round =>
        obtain ⟨j, hj, rfl, hb2⟩ := hrel
        by_cases hjk : j < k
        · obtain ⟨ad', y, hA, hcy, HY⟩ := IC.at_ (Kd.C_below HC.out hb2) (show j < gs.length by omega)
          obtain ⟨ad'', y', hA', hcx2, HX2⟩ := IC.at_ (Kd.C_below HC.out hb2) (show k < gs.length by omega)
          cases hA
          cases hA'
          obtain rfl : y' = (q : Int) := by rw [← HX2.out.2, ← HX.out.2]
          obtain ⟨q2, hq2, rfl⟩ : ∃ q2, gs.getD j 0 = q2 ∧ y = (q2 : Int) := ⟨_, rfl, by rw [← HY.out.2]; exact rd_il (by omega)⟩
          have hne : ((q2 : Int) == (q : Int)) = false := by
            rw [beq_eq_false_iff_ne]
            intro e
            have e2 : q2 = q := by omega
            have := HN.out
            rw [← hq2, ← HQ.out, List.getD_eq_getElem?_getD, List.getD_eq_getElem?_getD, List.getElem?_eq_getElem (show j < gs.length by omega), List.getElem?_eq_getElem hlt] at e2
            have := (List.getElem_inj this).1 e2
            omega
          clear hq2
          go_wp2
          go_quiet (fail)
          go_wp2
          exact ⟨⟨j + 1, by omega, by go_num, below_drewN hb2 _⟩, by show k - ((j : Int) + 1).toNat < k - ((j : Int)).toNat; omega⟩
        · obtain rfl : j = k := by omega
          go_wp2
          exact ⟨⟨j + 1, by omega, by go_num, hb2⟩, by show gs.length - ((j : Int) + 1).toNat < gs.length - ((j : Int)).toNat; omega⟩
    · obtain rfl : k = gs.length := by omega
      go_wp2
      go_ret
      exact ⟨rfl, hb⟩
theorem moved6_any (s : Nat) (A : Option Addr) (c : Nat) (fs : List Nat) (w : World) (hs : s < 2 ^ 64) (hF : IC w A fs.length (il fs)) (hl : fs.length ≤ 60) (hq : ∀ q ∈ fs, q < 60) :
    Calls Try.prog 36 #[.int .u64 s, .slice A fs.length c] w fun e w' => e = .returned (.int .u64 (movedN s fs)) ∧ w' = w := by
  have BIT := hid (fun (W : World) (p : Nat) (hp : p < 64) => bit_any s p hs hp W)
  go_enter Try.func36, Try.ntmps36
  go_wp2
  have HQ := hid hq
  clear hq
  go_loopw [5, 6] (fun o i wr => ∃ k : Nat, k ≤ fs.length ∧ o = .int .u64 (mvK s fs k) ∧ i = .int .i64 k ∧ wr = w) (fun _ i _ => fs.length - (intOf i).toNat)
  case atStart => exact ⟨0, by omega, rfl, rfl, by first | rfl | trivial⟩
  case round =>
    obtain ⟨k, hk, rfl, rfl, rfl⟩ := hrel
    by_cases hlt : k < fs.length
    · obtain ⟨ad, x, rfl, hcx, HX⟩ := IC.at_ hF (show k < fs.length from hlt)
      obtain ⟨q, hq, rfl⟩ : ∃ q, fs.getD k 0 = q ∧ x = (q : Int) := ⟨_, rfl, by rw [← HX.out.2]; exact rd_il hlt⟩
      have hq60 : q < 60 := hq ▸ HQ.out _ (getD_mem hlt)
      obtain ⟨M, hM⟩ : ∃ M, mvK s fs k = M := ⟨_, rfl⟩
      rw [hM]
      have hM64 : M < 2 ^ 64 := by rw [← hM]; exact Nat.lt_trans (mvK_lt HQ.out k hk) (by decide)
      have hk64 : k < 64 := by omega
      obtain ⟨bt, hbt⟩ : ∃ bt, s.testBit k = bt := ⟨_, rfl⟩
      have B1 := hid (BIT.out wr k hk64)
      rw [hbt] at B1
      have HMK : Hid (mvK s fs (k + 1) = M ||| (if bt then 2 ^ q else 0)) := (show _ = _ by rw [mvK, hM, hq, hbt])
      have eS := shl_form (q := q) (by omega)
      have p64 : 2 ^ q < 2 ^ 64 := Nat.pow_lt_pow_right (by decide) (by omega)
      obtain ⟨pw, hpw⟩ : ∃ pw, 2 ^ q = pw := ⟨_, rfl⟩
      rw [hpw] at HMK eS p64
      have eO := uor (a := M) (b := pw) hM64 p64
      clear hM hq hbt
      cases bt with
      | true =>
        go_wp2_with (go_at_call 52; refine B1.out.mono ?_; rintro e w' ⟨rfl, rfl⟩)
        exact ⟨⟨k + 1, by omega, by rw [or_step hM64 (by omega), HMK.out, ← hpw]; rfl, by go_num, trivial⟩, by simp [intOf]; omega⟩
      | false =>
        go_wp2_with (go_at_call 52; refine B1.out.mono ?_; rintro e w' ⟨rfl, rfl⟩)
        exact ⟨⟨k + 1, by omega, by rw [HMK.out]; simp, by go_num, trivial⟩, by simp [intOf]; omega⟩
    · obtain rfl : k = fs.length := by omega
      go_wp2
      go_ret
      exact ⟨rfl, by first | rfl | trivial⟩
def Near (b2 : Nat) (wr W : World) : Prop := ∀ p : Addr, p.block < wr.heap.size → p.block ≠ b2 → W.cell? p = wr.cell? p
/-- What stands while region 7 is carried out in any order. -/
structure SI (wr : World) (b2 k : Nat) (l : List Nat) (L : Nat → Bool) (w : World) (y9 y10 : Value) : Prop where
  d9 : L 9 = true → L 1 = true
  d11 : L 11 = true → L 9 = true
  h10 : L 10 = true → y10 = .pointer (some ⟨b2, 1, none⟩)
  b : L 11 = false → Below wr.heap.size wr w
  r9 : L 9 = true → L 11 = false → w.ownsRow wr.heap.size 60 1 y9 (k + 1) (nums .u64 (il l))
  h11 : L 11 = true → ∃ wb, Below wr.heap.size wr wb ∧ wb.ownsRow wr.heap.size 60 1 y9 (k + 1) (nums .u64 (il l)) ∧ w = wb.setCell ⟨b2, 1, none⟩ y9
section
variable {wr w w' : World} {b2 k : Nat} {l : List Nat} {L : Nat → Bool} {y9 y10 v : Value}
theorem SI.start (wr : World) (b2 k : Nat) (l : List Nat) (y9 y10 : Value) : SI wr b2 k l (fun _ => false) wr.drew y9 y10 := ⟨(fun h => nomatch h), (fun h => nomatch h), (fun h => nomatch h), (fun _ => below_drew (Below.refl _ _)), (fun h => nomatch h), (fun h => nomatch h)⟩
theorem p1_ne {i j : Nat} (h : j ≠ i) : put1 L i j = L j := by simp [put1, h]
theorem SI.q (h : SI wr b2 k l L w y9 y10) (i : Nat) (h9 : i ≠ 9) (h10 : i ≠ 10) (h11 : i ≠ 11) : SI wr b2 k l (put1 L i) w y9 y10 := by
  refine ⟨fun e => ?_, ?_, ?_, ?_, ?_, ?_⟩
  · rw [p1_ne h9.symm] at e; simp [put1, h.d9 e]
  · rw [p1_ne h9.symm, p1_ne h11.symm]; exact h.d11
  · rw [p1_ne h10.symm]; exact h.h10
  · rw [p1_ne h11.symm]; exact h.b
  · rw [p1_ne h9.symm, p1_ne h11.symm]; exact h.r9
  · rw [p1_ne h11.symm]; exact h.h11
theorem SI.op10 (h : SI wr b2 k l L w y9 y10) : SI wr b2 k l (put1 L 10) w y9 (.pointer (some ⟨b2, 1, none⟩)) := ⟨h.d9, h.d11, fun _ => rfl, h.b, h.r9, h.h11⟩
theorem SI.n11 (h : SI wr b2 k l L w y9 y10) (hf : L 9 = false) : L 11 = false := by
  cases e : L 11
  · rfl
  · rw [h.d11 e] at hf; cases hf
theorem SI.call9 (h : SI wr b2 k l L w y9 y10) (hf : L 9 = false) (d1 : L 1 = true) (hb : Below w.heap.size w w') (hr : w'.ownsRow w.heap.size 60 1 v (k + 1) (nums .u64 (il l))) : SI wr b2 k l (put1 L 9) w' v y10 :=
  have hbw := h.b (h.n11 hf)
  ⟨fun _ => d1, fun _ => rfl, h.h10, fun _ => below_then hbw hbw.size hb, fun _ _ => own_less hr hbw.size, fun e => by have := h.n11 hf; rw [show put1 L 9 11 = L 11 from rfl, this] at e; cases e⟩
theorem SI.store11 (h : SI wr b2 k l L w y9 y10) (hf : L 11 = false) (d9 : L 9 = true) : SI wr b2 k l (put1 L 11) (w.setCell ⟨b2, 1, none⟩ y9) y9 y10 :=
  ⟨h.d9, fun _ => d9, h.h10, (fun e => nomatch e), (fun _ e => nomatch e), fun _ => ⟨w, h.b hf, h.r9 d9 hf, rfl⟩⟩
theorem SI.near (h : SI wr b2 k l L w y9 y10) (hb2 : b2 < wr.heap.size) : Near b2 wr w := by
  intro p hp hne
  cases e : L 11
  · exact (h.b e).cell hp
  · obtain ⟨wb, hb, _, rfl⟩ := h.h11 e
    rw [World.cell?_of_block (w := wb) (Below.heap_setCell wb ⟨b2, 1, none⟩ y9 p.block hne)]
    exact hb.cell hp
theorem SI.cell1 (h : SI wr b2 k l L w y9 y10) (hf : L 1 = false) {u : Value} (hc : wr.cell? ⟨b2, 1, none⟩ = some u) : w.cell? ⟨b2, 1, none⟩ = some u := by
  have n9 : L 9 = false := by
    cases e : L 9
    · rfl
    · rw [h.d9 e] at hf; cases hf
  exact ((h.b (h.n11 n9)).cell (lt_of_cell hc)).trans hc
theorem SI.bel (h : SI wr b2 k l L w y9 y10) {B : Nat} {w0 : World} (hw : Below B w0 wr) (hB : B ≤ b2) (hB0 : B ≤ w0.heap.size) : Below B w0 w := by
  cases e : L 11
  · exact below_then hw (Nat.le_trans hB0 hw.size) (h.b e)
  · obtain ⟨wb, hb, _, rfl⟩ := h.h11 e
    exact (below_then hw (Nat.le_trans hB0 hw.size) hb).setCell (p := ⟨b2, 1, none⟩) hB _
end
theorem perm_any (A : Option Addr) (c : Nat) (gs : List Nat) (w : World) (hC : IC w A gs.length (il gs)) (hl : gs.length < 2 ^ 40) (hgn : ∀ q ∈ gs, q < gs.length) (hnd : gs.Nodup) :
    Calls Try.prog 42 #[.slice A gs.length c, .int .i64 gs.length] w fun e w' => e = .returned (.bool true) ∧ Below w.heap.size w w' := by
  have DF := hid (diff6_any A c gs.length gs w hC hl hgn hnd)
  clear hC
  go_enter Try.func42, Try.ntmps42
  go_wp2_with (go_at_call 30; refine DF.out.mono ?_; rintro e w' ⟨rfl, hb⟩)
  go_ret
  exact ⟨rfl, hb⟩

/-- The moved blocks, sorted. -/
def imL (bs gs : List Nat) : List Nat := sortedL (bs.map fun b => movedN b gs)
theorem imL_snoc (bs gs : List Nat) {k x : Nat} (h : bs[k]? = some x) : imL (bs.take (k + 1)) gs = withL (imL (bs.take k) gs) (movedN x gs) := by
  rw [imL, List.take_add_one, h]
  simp [sortedL_snoc, imL]
theorem imL_len (bs gs : List Nat) : (imL bs gs).length = bs.length := by rw [imL, sortedL_len, List.length_map]
theorem imL_lt {bs gs : List Nat} (hq : ∀ q ∈ gs, q < 60) : ∀ b ∈ imL bs gs, b < 2 ^ 60 := by
  intro b hb
  have := (sortedL_permE _).mem_iff.1 hb
  obtain ⟨x, _, rfl⟩ := List.mem_map.1 this
  exact movedN_lt hq
set_option maxHeartbeats 1000000 in
set_option maxRecDepth 100000 in
theorem image_any (A G : Option Addr) (c cG : Nat) (bs gs : List Nat) (w : World) (hB : BlC w A bs.length bs) (hbl : bs.length < 2 ^ 40) (hG : IC w G gs.length (il gs)) (hl : gs.length ≤ 60) (hgn : ∀ q ∈ gs, q < gs.length) (hnd : gs.Nodup) :
    Calls Try.prog 25 #[.agg #[.int .i64 gs.length, .slice A bs.length c], .slice G gs.length cG] w fun e w' =>
      ∃ v, e = .returned (.agg #[.int .i64 gs.length, v]) ∧ w'.ownsRow w.heap.size 60 1 v bs.length (nums .u64 (il (imL bs gs))) ∧ Below w.heap.size w w' := by
  have hui := Try.underlying36
  have hq60 : ∀ q ∈ gs, q < 60 := fun q hq => by have := hgn q hq; omega
  have HB := hid hB
  have HG := hid hG
  have PERM := hid (fun (W : World) (hb : Below w.heap.size w W) => perm_any G cG gs W (Kd.C_below hG hb) (by omega) hgn hnd)
  have MV := hid (fun (W : World) (s : Nat) (hb : Below w.heap.size w W) (hs : s < 2 ^ 64) => moved6_any s G cG gs W hs (Kd.C_below hG hb) hl hq60)
  have HQ := hid hq60
  clear hB hG hgn hnd hq60
  go_enter Try.func25, Try.ntmps25
  go_upto_region 1 with (fail)
  obtain ⟨w1, hw1⟩ : ∃ w1, ((w.alloc (.cells #[.int .i64 gs.length, .slice A bs.length c] 36)).alloc (.cells #[.int .i64 0, .slice none 0 0] 36)) = w1 := ⟨_, rfl⟩
  have hb1 : Below w.heap.size w w1 := by rw [← hw1]; exact below_alloc (below_alloc (Below.refl _ _) _) _
  have hz1 : w.heap.size + 2 ≤ w1.heap.size := by rw [← hw1]; simp
  have kx : Blk w1 w.heap.size 36 #[.int .i64 gs.length, .slice A bs.length c] := by rw [← hw1]; exact (Blk.new _ _ _).alloc _
  have kr : Blk w1 (w.heap.size + 1) 36 #[.int .i64 0, .slice none 0 0] := by rw [← hw1]; simpa using Blk.new (w.alloc (.cells #[.int .i64 gs.length, .slice A bs.length c] 36)) 36 #[.int .i64 0, .slice none 0 0]
  have x0 : w1.cell? ⟨w.heap.size, 0, none⟩ = some (.int .i64 gs.length) := (kx.cell 0).trans rfl
  have KX := hid kx
  have KR := hid kr
  rw [hw1]
  clear hw1 kx kr
  go_upto_region 4 with (go_at_call 42; refine (PERM.out _ (by exact hb1)).mono ?_; rintro e w2 ⟨rfl, hb2⟩; have x0' := (hb2.cell (p := ⟨w.heap.size, 0, none⟩) (show w.heap.size < _ by omega)).trans x0)
  obtain ⟨w3, hw3⟩ : ∃ w3, w2.alloc (.cells #[.int .i64 gs.length, .slice none 0 0] 36) = w3 := ⟨_, rfl⟩
  have hz2 : w.heap.size + 2 ≤ w2.heap.size := by have := hb2.size; omega
  have hb12 : Below w.heap.size w w2 := below_then hb1 hb1.size hb2
  have hb23 : Below w2.heap.size w2 w3 := by rw [← hw3]; exact below_alloc (Below.refl _ _) _
  have KO : Hid (Blk w3 w2.heap.size 36 #[.int .i64 gs.length, .slice none 0 0]) := (show Blk _ _ _ _ by rw [← hw3]; exact Blk.new _ _ _)
  have HB23 := hid hb23
  have KX2 : Hid (∀ W, Below w2.heap.size w2 W → Blk W w.heap.size 36 #[.int .i64 gs.length, .slice A bs.length c]) := (show ∀ W, _ from fun W hb => (KX.out.below hb2 (by omega)).below hb (by omega))
  have KR2 : Hid (∀ W, Below w2.heap.size w2 W → Blk W (w.heap.size + 1) 36 #[.int .i64 0, .slice none 0 0]) := (show ∀ W, _ from fun W hb => (KR.out.below hb2 (by omega)).below hb (by omega))
  rw [hw3]
  clear hw3 x0 x0' hb23 hb2
  go_wp2
  go_loopw [6] (fun i wr => ∃ (k : Nat) (v : Value), k ≤ bs.length ∧ i = .int .i64 k ∧ Hid (Blk wr w2.heap.size 36 #[.int .i64 gs.length, v]) ∧ Hid (wr.ownsRow w.heap.size 60 1 v k (nums .u64 (il (imL (bs.take k) gs)))) ∧ Hid (Below w2.heap.size w2 wr)) (fun i _ => bs.length - (intOf i).toNat)
  case atStart => exact ⟨0, _, by omega, rfl, KO, hid (World.ownsRow_nil _ _ _ _), HB23⟩
  case round =>
    clear KO HB23
    obtain ⟨k, v, hk, rfl, KO, HO, HBW⟩ := hrel
    have q0 := ((KX2.out _ HBW.out).cell 1).trans rfl
    by_cases hlt : k < bs.length
    · obtain ⟨Av, cv, rfl, hkc, _, hBv⟩ := own_BlC HO.out (fun b hb => Nat.lt_trans (imL_lt HQ.out b hb) (by decide))
      have hbw : Below w.heap.size w wr := below_then hb12 hb12.size HBW.out
      obtain ⟨ad, x, hA, hcx0, hx64, HX⟩ := HB.out.at_ hlt
      subst hA
      have hadl := lt_of_cell hcx0
      have hcx := (hbw.cell hadl).trans hcx0
      have hadk : (ad.add k).block ≠ w2.heap.size := by omega
      have HSN := hid (imL_snoc bs gs (k := k) (x := x) HX.out.2.1)
      clear hcx0 hadl
      have o0 := (KO.out.cell 0).trans rfl
      have o1 := (KO.out.cell 1).trans rfl
      have of1 := KO.out.frozen 1
      have lw2 := KO.out.lt
      have MV1 := hid (fun (W : World) (hb : Below w.heap.size w W) => MV.out W x hb hx64)
      have HWI := hid (show ∀ (W : World), Below wr.heap.size wr W → _ from fun W hb => with_any Av k cv (imL (bs.take k) gs) (movedN x gs) (Nat.lt_trans (movedN_lt HQ.out) (by decide)) W (hBv.below hb) (by omega) hkc)
      obtain ⟨mx, hmx⟩ : ∃ mx, movedN x gs = mx := ⟨_, rfl⟩
      rw [hmx] at MV1 HWI
      have HBR := hid hbw
      have HMX := hid hmx
      clear hBv hbw hmx
      go_upto_region 7 with (fail)
      have HCELL : Hid (∀ W, Near w2.heap.size wr W → W.cell? ⟨w.heap.size, 1, none⟩ = some (.slice (some ad) bs.length c) ∧ W.cell? (ad.add k) = some (.int .u64 x)) :=
        (show ∀ W, _ from fun W h => ⟨(h _ (lt_of_cell q0) (by show w.heap.size ≠ _; omega)).trans q0, (h _ (lt_of_cell hcx) hadk).trans hcx⟩)
      refine (wpIn_wide (n := 8)).1 ?_
      obtain ⟨vv, hvv⟩ : ∃ vv : Nat → Value, vv = fun i => (#[.pointer (some ⟨w2.heap.size, 1, none⟩), .slice Av k cv, .pointer (some ⟨w.heap.size, 1, none⟩), .slice (some ad) bs.length c, .int .i64 k, .pointer (some (ad.add k)), .int .u64 x, .slice G gs.length cG, .int .u64 mx] : Array Value).getD i undef := ⟨_, rfl⟩
      have mk : ∀ (L : Nat → Bool) (a' : Act) (w' : World), a' = ({ tmps := #[.agg #[.int .i64 gs.length, .slice (some ad) bs.length c], .slice G gs.length cG, .pointer (some ⟨w.heap.size, 0, none⟩), undef, .pointer (some ⟨w.heap.size + 1, 0, none⟩), .pointer (some ⟨w2.heap.size, 0, none⟩), .int .i64 k, .slice G gs.length cG, .pointer (some ⟨w.heap.size, 0, none⟩), .int .i64 gs.length, .bool true, .bool false, undef, .pointer (some ⟨w.heap.size, 0, none⟩), .int .i64 gs.length, .agg #[.int .i64 gs.length, .slice none 0 0], .int .i64 k, .pointer (some ⟨w.heap.size, 1, none⟩), .slice (some ad) bs.length c, .int .i64 bs.length, .bool true, u21, u22, a'.tmps.getD ((#[23, 24, 25, 26, 27, 28, 29, 30, 31, 32, 33, 64] : Array Nat).getD (0) 0) undef, a'.tmps.getD ((#[23, 24, 25, 26, 27, 28, 29, 30, 31, 32, 33, 64] : Array Nat).getD (1) 0) undef, a'.tmps.getD ((#[23, 24, 25, 26, 27, 28, 29, 30, 31, 32, 33, 64] : Array Nat).getD (2) 0) undef, a'.tmps.getD ((#[23, 24, 25, 26, 27, 28, 29, 30, 31, 32, 33, 64] : Array Nat).getD (3) 0) undef, a'.tmps.getD ((#[23, 24, 25, 26, 27, 28, 29, 30, 31, 32, 33, 64] : Array Nat).getD (4) 0) undef, a'.tmps.getD ((#[23, 24, 25, 26, 27, 28, 29, 30, 31, 32, 33, 64] : Array Nat).getD (5) 0) undef, a'.tmps.getD ((#[23, 24, 25, 26, 27, 28, 29, 30, 31, 32, 33, 64] : Array Nat).getD (6) 0) undef, a'.tmps.getD ((#[23, 24, 25, 26, 27, 28, 29, 30, 31, 32, 33, 64] : Array Nat).getD (7) 0) undef, a'.tmps.getD ((#[23, 24, 25, 26, 27, 28, 29, 30, 31, 32, 33, 64] : Array Nat).getD (8) 0) undef, a'.tmps.getD ((#[23, 24, 25, 26, 27, 28, 29, 30, 31, 32, 33, 64] : Array Nat).getD (9) 0) undef, a'.tmps.getD ((#[23, 24, 25, 26, 27, 28, 29, 30, 31, 32, 33, 64] : Array Nat).getD (10) 0) undef, undef], defers := [] } : Act) → (∀ j < 9, L j = true → a'.tmps.getD ((#[23, 24, 25, 26, 27, 28, 29, 30, 31, 32, 33, 64] : Array Nat).getD (j) 0) undef = vv j) → (fun (L : Nat → Bool) (wz : World) (y : Nat → Value) => SI wr w2.heap.size k (imL (bs.take (k + 1)) gs) L wz (y 9) (y 10)) L w' (fun m => a'.tmps.getD ((#[23, 24, 25, 26, 27, 28, 29, 30, 31, 32, 33, 64] : Array Nat).getD (m) 0) undef) → ∃ y : Nat → Value, a' = ({ tmps := #[.agg #[.int .i64 gs.length, .slice (some ad) bs.length c], .slice G gs.length cG, .pointer (some ⟨w.heap.size, 0, none⟩), undef, .pointer (some ⟨w.heap.size + 1, 0, none⟩), .pointer (some ⟨w2.heap.size, 0, none⟩), .int .i64 k, .slice G gs.length cG, .pointer (some ⟨w.heap.size, 0, none⟩), .int .i64 gs.length, .bool true, .bool false, undef, .pointer (some ⟨w.heap.size, 0, none⟩), .int .i64 gs.length, .agg #[.int .i64 gs.length, .slice none 0 0], .int .i64 k, .pointer (some ⟨w.heap.size, 1, none⟩), .slice (some ad) bs.length c, .int .i64 bs.length, .bool true, u21, u22, y 0, y 1, y 2, y 3, y 4, y 5, y 6, y 7, y 8, y 9, y 10, undef], defers := [] } : Act) ∧ (∀ j < 9, L j = true → y j = vv j) ∧ (fun (L : Nat → Bool) (wz : World) (y : Nat → Value) => SI wr w2.heap.size k (imL (bs.take (k + 1)) gs) L wz (y 9) (y 10)) L w' y := fun L a' w' h1 h2 h3 => ⟨fun m => a'.tmps.getD ((#[23, 24, 25, 26, 27, 28, 29, 30, 31, 32, 33, 64] : Array Nat).getD (m) 0) undef, h1, h2, h3⟩
      refine wpIn_region_inv2 (by kernel_rfl) (fun L aI wI => ∃ y : Nat → Value, aI = ({ tmps := #[.agg #[.int .i64 gs.length, .slice (some ad) bs.length c], .slice G gs.length cG, .pointer (some ⟨w.heap.size, 0, none⟩), undef, .pointer (some ⟨w.heap.size + 1, 0, none⟩), .pointer (some ⟨w2.heap.size, 0, none⟩), .int .i64 k, .slice G gs.length cG, .pointer (some ⟨w.heap.size, 0, none⟩), .int .i64 gs.length, .bool true, .bool false, undef, .pointer (some ⟨w.heap.size, 0, none⟩), .int .i64 gs.length, .agg #[.int .i64 gs.length, .slice none 0 0], .int .i64 k, .pointer (some ⟨w.heap.size, 1, none⟩), .slice (some ad) bs.length c, .int .i64 bs.length, .bool true, u21, u22, y 0, y 1, y 2, y 3, y 4, y 5, y 6, y 7, y 8, y 9, y 10, undef], defers := [] } : Act) ∧ (∀ j < 9, L j = true → y j = vv j) ∧ (fun (L : Nat → Bool) (wz : World) (y : Nat → Value) => SI wr w2.heap.size k (imL (bs.take (k + 1)) gs) L wz (y 9) (y 10)) L wI y) ?acyc ?start ?step ?rdone
      case acyc => exact fun i o ho => acyc_of2 (by kernel_rfl) i o ho
      case start => exact mk (fun _ => false) _ _ rfl (fun _ _ h => by cases h) (by exact SI.start wr w2.heap.size k _ _ _)
      case step =>
        rintro i o L a wx ho hLi hdep ⟨y, rfl, hy, hWI⟩ K hK
        have hi : i < 12 := (Array.getElem?_eq_some_iff.1 ho).1
        rcases i with _ | _ | _ | _ | _ | _ | _ | _ | _ | _ | _ | _ | i
        · obtain rfl := Option.some.inj ho
          clear hdep ho
          go_simp
          refine hK _ _ (mk _ _ _ rfl ?_ ?_)
          rotate_left
          · exact hWI.q 0 (by decide) (by decide) (by decide)
          · intro j hj h
            rcases j with _ | _ | _ | _ | _ | _ | _ | _ | _ | j
            all_goals first | (rw [hvv]; rfl) | exact hy _ (by omega) (by simpa [put1] using h) | (exfalso; omega)
        · obtain rfl := Option.some.inj ho
          have d0 : L 0 = true := hdep ⟨0, .data⟩ (by simp) rfl
          have e0 : y 0 = .pointer (some ⟨w2.heap.size, 1, none⟩) := (hy 0 (by omega) d0).trans (by rw [hvv]; rfl)
          clear hdep ho
          rw [e0]
          have c3 := hWI.cell1 hLi o1
          go_simp
          refine hK _ _ (mk _ _ _ rfl ?_ ?_)
          rotate_left
          · exact hWI.q 1 (by decide) (by decide) (by decide)
          · intro j hj h
            rcases j with _ | _ | _ | _ | _ | _ | _ | _ | _ | j
            all_goals first | (rw [hvv]; rfl) | exact hy _ (by omega) (by simpa [put1] using h) | (exfalso; omega)
        · obtain rfl := Option.some.inj ho
          clear hdep ho
          go_simp
          refine hK _ _ (mk _ _ _ rfl ?_ ?_)
          rotate_left
          · exact hWI.q 2 (by decide) (by decide) (by decide)
          · intro j hj h
            rcases j with _ | _ | _ | _ | _ | _ | _ | _ | _ | j
            all_goals first | (rw [hvv]; rfl) | exact hy _ (by omega) (by simpa [put1] using h) | (exfalso; omega)
        · obtain rfl := Option.some.inj ho
          have d2 : L 2 = true := hdep ⟨2, .data⟩ (by simp) rfl
          have e2 : y 2 = .pointer (some ⟨w.heap.size, 1, none⟩) := (hy 2 (by omega) d2).trans (by rw [hvv]; rfl)
          clear hdep ho
          rw [e2]
          obtain ⟨c1, c2⟩ := HCELL.out _ (hWI.near lw2)
          go_simp
          refine hK _ _ (mk _ _ _ rfl ?_ ?_)
          rotate_left
          · exact hWI.q 3 (by decide) (by decide) (by decide)
          · intro j hj h
            rcases j with _ | _ | _ | _ | _ | _ | _ | _ | _ | j
            all_goals first | (rw [hvv]; rfl) | exact hy _ (by omega) (by simpa [put1] using h) | (exfalso; omega)
        · obtain rfl := Option.some.inj ho
          clear hdep ho
          go_simp
          refine hK _ _ (mk _ _ _ rfl ?_ ?_)
          rotate_left
          · exact hWI.q 4 (by decide) (by decide) (by decide)
          · intro j hj h
            rcases j with _ | _ | _ | _ | _ | _ | _ | _ | _ | j
            all_goals first | (rw [hvv]; rfl) | exact hy _ (by omega) (by simpa [put1] using h) | (exfalso; omega)
        · obtain rfl := Option.some.inj ho
          have d3 : L 3 = true := hdep ⟨3, .data⟩ (by simp) rfl
          have d4 : L 4 = true := hdep ⟨4, .data⟩ (by simp) rfl
          have e3 : y 3 = .slice (some ad) bs.length c := (hy 3 (by omega) d3).trans (by rw [hvv]; rfl)
          have e4 : y 4 = .int .i64 k := (hy 4 (by omega) d4).trans (by rw [hvv]; rfl)
          clear hdep ho
          rw [e3, e4]
          go_simp
          refine hK _ _ (mk _ _ _ rfl ?_ ?_)
          rotate_left
          · exact hWI.q 5 (by decide) (by decide) (by decide)
          · intro j hj h
            rcases j with _ | _ | _ | _ | _ | _ | _ | _ | _ | j
            all_goals first | (rw [hvv]; rfl) | exact hy _ (by omega) (by simpa [put1] using h) | (exfalso; omega)
        · obtain rfl := Option.some.inj ho
          have d5 : L 5 = true := hdep ⟨5, .data⟩ (by simp) rfl
          have e5 : y 5 = .pointer (some (ad.add k)) := (hy 5 (by omega) d5).trans (by rw [hvv]; rfl)
          clear hdep ho
          rw [e5]
          obtain ⟨c1, c2⟩ := HCELL.out _ (hWI.near lw2)
          go_simp
          refine hK _ _ (mk _ _ _ rfl ?_ ?_)
          rotate_left
          · exact hWI.q 6 (by decide) (by decide) (by decide)
          · intro j hj h
            rcases j with _ | _ | _ | _ | _ | _ | _ | _ | _ | j
            all_goals first | (rw [hvv]; rfl) | exact hy _ (by omega) (by simpa [put1] using h) | (exfalso; omega)
        · obtain rfl := Option.some.inj ho
          clear hdep ho
          go_simp
          refine hK _ _ (mk _ _ _ rfl ?_ ?_)
          rotate_left
          · exact hWI.q 7 (by decide) (by decide) (by decide)
          · intro j hj h
            rcases j with _ | _ | _ | _ | _ | _ | _ | _ | _ | j
            all_goals first | (rw [hvv]; rfl) | exact hy _ (by omega) (by simpa [put1] using h) | (exfalso; omega)
        · obtain rfl := Option.some.inj ho
          have d6 : L 6 = true := hdep ⟨6, .data⟩ (by simp) rfl
          have d7 : L 7 = true := hdep ⟨7, .data⟩ (by simp) rfl
          have e6 : y 6 = .int .u64 x := (hy 6 (by omega) d6).trans (by rw [hvv]; rfl)
          have e7 : y 7 = .slice G gs.length cG := (hy 7 (by omega) d7).trans (by rw [hvv]; rfl)
          clear hdep ho
          rw [e6, e7]
          go_simp
          gi_wp2_with (refine ⟨trivial, ?_⟩; gi_at_call 36; refine (callsIn_wide.2 (MV1.out _ (by exact hWI.bel HBR.out (by omega) (Nat.le_refl _)))).mono ?_; rintro e w' ⟨rfl, rfl⟩)
          refine mk _ _ _ rfl ?_ ?_
          rotate_left
          · exact hWI.q 8 (by decide) (by decide) (by decide)
          · intro j hj h
            rcases j with _ | _ | _ | _ | _ | _ | _ | _ | _ | j
            all_goals first | (rw [hvv]; rfl) | exact hy _ (by omega) (by simpa [put1] using h) | (exfalso; omega)
        · obtain rfl := Option.some.inj ho
          have d1 : L 1 = true := hdep ⟨1, .data⟩ (by simp) rfl
          have d8 : L 8 = true := hdep ⟨8, .data⟩ (by simp) rfl
          have d8 : L 8 = true := hdep ⟨8, .chain⟩ (by simp) rfl
          have e1 : y 1 = .slice Av k cv := (hy 1 (by omega) d1).trans (by rw [hvv]; rfl)
          have e8 : y 8 = .int .u64 mx := (hy 8 (by omega) d8).trans (by rw [hvv]; rfl)
          clear hdep ho
          rw [e1, e8]
          have n11 := hWI.n11 hLi
          go_simp
          gi_wp2_with (refine ⟨trivial, ?_⟩; gi_at_call 26; refine (callsIn_wide.2 (HWI.out _ (by exact hWI.b n11))).mono ?_; rintro e w9 ⟨v9, rfl, r9, hb9⟩)
          refine mk _ _ _ rfl ?_ ?_
          rotate_left
          · exact hWI.call9 hLi d1 hb9 (by rw [HSN.out, HMX.out]; exact r9)
          · intro j hj h
            rcases j with _ | _ | _ | _ | _ | _ | _ | _ | _ | j
            all_goals first | (rw [hvv]; rfl) | exact hy _ (by omega) (by simpa [put1] using h) | (exfalso; omega)
        · obtain rfl := Option.some.inj ho
          clear hdep ho
          go_simp
          refine hK _ _ (mk _ _ _ rfl ?_ ?_)
          rotate_left
          · exact hWI.op10
          · intro j hj h
            rcases j with _ | _ | _ | _ | _ | _ | _ | _ | _ | j
            all_goals first | (rw [hvv]; rfl) | exact hy _ (by omega) (by simpa [put1] using h) | (exfalso; omega)
        · obtain rfl := Option.some.inj ho
          have d10 : L 10 = true := hdep ⟨10, .data⟩ (by simp) rfl
          have d9 : L 9 = true := hdep ⟨9, .data⟩ (by simp) rfl
          have d9 : L 9 = true := hdep ⟨9, .chain⟩ (by simp) rfl
          clear hdep ho
          have hp := hWI.h10 d10
          have hro := hWI.r9 d9 hLi
          obtain ⟨A9, c9, hy9⟩ := own_slice hro
          have c3 := (((hWI.b hLi).cell (p := ⟨w2.heap.size, 1, none⟩) (by exact lw2)).trans o1)
          have f3 := (((hWI.b hLi).frozen (p := ⟨w2.heap.size, 1, none⟩) (by exact lw2)).trans of1)
          rw [hp, hy9]
          go_simp
          refine hK _ _ (mk _ _ _ rfl ?_ ?_)
          rotate_left
          · exact (by have hh := hWI.store11 hLi d9; rw [hp, hy9] at hh; exact hh)
          · intro j hj h
            rcases j with _ | _ | _ | _ | _ | _ | _ | _ | _ | j
            all_goals first | (rw [hvv]; rfl) | exact hy _ (by omega) (by simpa [put1] using h) | (exfalso; omega)
        · exfalso; omega
      case rdone =>
        rintro L a w4 hall ⟨y, rfl, hy, hWI⟩
        obtain ⟨wb, hbb, hro, rfl⟩ := hWI.h11 (hall 11 (by decide))
        obtain ⟨A9, c9, hy9⟩ := own_slice hro
        rw [hy9] at hro ⊢
        clear mk hvv hy hall hWI hy9
        go_wp2
        have n0 : some w2.heap.size ≠ (Value.slice A9 (k + 1) c9).ownBlock := fun e => by have := (hro.lt _ e.symm).1; omega
        refine ⟨⟨k + 1, .slice A9 (k + 1) c9, by omega, by simp, hid ?_, hid ?_, hid ?_⟩, by show bs.length - ((k : Int) + 1).toNat < bs.length - ((k : Int)).toNat; omega⟩
        · have := (KO.out.below hbb lw2).set_ 1 (.slice A9 (k + 1) c9)
          simpa using this
        · exact own_less (own_other hro (grownBy_setCell _ _ _ _) (.inr n0.symm)) HBR.out.size
        · exact (below_then HBW.out HBW.out.size hbb).setCell (p := ⟨w2.heap.size, 1, none⟩) (Nat.le_refl _) _
    · obtain rfl : k = bs.length := by omega
      obtain ⟨Av, cv, rfl⟩ := own_slice HO.out
      have hr := KR2.out _ HBW.out
      have r0 := (hr.cell 0).trans rfl
      have r1 := (hr.cell 1).trans rfl
      have f0 := hr.frozen 0
      have f1 := hr.frozen 1
      have o0 := (KO.out.cell 0).trans rfl
      have o1 := (KO.out.cell 1).trans rfl
      have HRR := hid hr
      clear hr
      go_wp2
      have h2 := (HRR.out.set_ 0 (.int .i64 gs.length)).set_ 1 (.slice Av bs.length cv)
      have n0 : some (w.heap.size + 1) ≠ (Value.slice Av bs.length cv).ownBlock := fun e => by
        have hne := own_blk_ne HO.out HRR.out (by decide)
        exact hne e.symm
      have ho := own_other (own_other HO.out (grownBy_setCell _ (w.heap.size + 1) 0 (.int .i64 gs.length)) (.inr n0.symm)) (grownBy_setCell _ (w.heap.size + 1) 1 (.slice Av bs.length cv)) (.inr n0.symm)
      rw [List.take_length] at ho
      have hbf := ((below_then hb12 hb12.size HBW.out).setCell (p := ⟨w.heap.size + 1, 0, none⟩) (Nat.le_succ _) (.int .i64 gs.length)).setCell (p := ⟨w.heap.size + 1, 1, none⟩) (Nat.le_succ _) (.slice Av bs.length cv)
      obtain ⟨W3, hW3⟩ : ∃ W3, (wr.setCell ⟨w.heap.size + 1, 0, none⟩ (.int .i64 gs.length)).setCell ⟨w.heap.size + 1, 1, none⟩ (.slice Av bs.length cv) = W3 := ⟨_, rfl⟩
      rw [hW3] at h2 ho hbf ⊢
      have q1 : W3.cell? ⟨w.heap.size + 1, 0, none⟩ = some (.int .i64 gs.length) := (h2.cell 0).trans rfl
      have q2 : W3.cell? ⟨w.heap.size + 1, 1, none⟩ = some (.slice Av bs.length cv) := (h2.cell 1).trans rfl
      exact bodyPost_ret (v := .agg #[.int .i64 gs.length, .slice Av bs.length cv]) (by simp [results, Try.results25, go_sem, hui, q1, q2]) rfl ⟨_, rfl, ho, hbf⟩
end Go.Proofs.Ytheclfjbedajfaa


namespace Go.Proofs.Ytheclfjbedajfaa
set_option linter.unusedSimpArgs false
set_option linter.unusedVariables false
open Go.RowKit Go.Lib Go.Proofs.YtheclfjbedajfaaW.PrintWords

/-- All numbers are ints. -/
def okI (l : List Int) : Bool := l.all fun x => (Lit.int .i64 x).wf
theorem okI_iff {l : List Int} : okI l = true ↔ ∀ x ∈ l, (Lit.int .i64 x).wf = true := by simp [okI]
def bestF (V U : Int) (bs cs ds : List Int) : List Int × List Int × Int :=
  if 5 < V ∨ 7 < U then ([], [], 2) else if diffB ds bs.length = false then ([], [], 1) else if U < V then ([], [], 4) else
    (il (foldB (nl bs) (nl cs) (nl ds) (lsL U.toNat V.toNat [])).1.1, (foldB (nl bs) (nl cs) (nl ds) (lsL U.toNat V.toNat [])).1.2, 0)
def ofF (V U : Int) (bs cs fs ds : List Int) : List Int × List Int × Int :=
  if (fs.length : Int) = V ∧ diffB fs U = true ∧ diffB ds bs.length = true then (fs, embM (nl bs) (nl cs) (nl ds) (nl fs), 0) else ([], [], 1)
theorem nodup_len : ∀ {l m : List Nat}, l.Nodup → l ⊆ m → l.length ≤ m.length
  | [], _, _, _ => Nat.zero_le _
  | x :: l, m, hn, hs => by
    obtain ⟨h1, h2⟩ := List.nodup_cons.1 hn
    have hx : x ∈ m := hs (by simp)
    have := nodup_len (m := m.erase x) h2 (fun y hy => (List.mem_erase_of_ne (fun e => h1 (by rw [← e]; exact hy))).2 (hs (by simp [hy])))
    rw [List.length_erase_of_mem hx] at this
    have := List.length_pos_of_mem hx
    simp only [List.length_cons]
    omega
theorem diff_nl {l : List Int} {n : Int} (h : diffB l n = true) : il (nl l) = l ∧ (∀ q ∈ nl l, (q : Int) < n) ∧ (nl l).Nodup ∧ (l.length : Int) ≤ max n 0 := by
  obtain ⟨h1, h2⟩ := diffB_iff.1 h
  have e := il_nl (fun b hb => (h1 b hb).1)
  have hn : (nl l).Nodup := by
    rw [← e, il, List.Nodup, List.pairwise_map] at h2
    exact h2.imp (fun h he => h (by omega))
  refine ⟨e, fun q hq => ?_, hn, ?_⟩
  · obtain ⟨x, hx, rfl⟩ := List.mem_map.1 hq
    have := h1 x hx
    omega
  · have hsub : (nl l).Subset (List.range n.toNat) := fun q hq => by
      obtain ⟨x, hx, rfl⟩ := List.mem_map.1 hq
      have := h1 x hx
      rw [List.mem_range]; omega
    have := nodup_len hn hsub
    rw [nl_length, List.length_range] at this
    omega
theorem R_ownP {kd : IntKind} {T n base : Nat} {w : World} {v : Value} {xs : List Int} {Q : Nat → Prop} (h : w.ownsRow base T 1 v n (nums kd xs)) (hQ : ∀ k, v.ownBlock = some k → Q k) : (Kd.int kd).R T w base Q v xs := by
  have hl : n = xs.length := by have := h.1; simpa [nums] using this.symm
  subst hl
  exact Kd.R_of_own (enc := Value.int kd) (by simpa [encs, nums] using h) hQ
theorem R_pair {T n1 n2 base : Nat} {w : World} {v1 v2 : Value} {xs1 xs2 : List Int} (h1 : w.ownsRow base T 1 v1 n1 (nums .i64 xs1)) (h2 : w.ownsRow base T 1 v2 n2 (nums .i64 xs2)) (hnd : ND v1 v2) :
    (Kd.int .i64).R T w base (fun k => some k ≠ v2.ownBlock) v1 xs1 ∧ (Kd.int .i64).R T w base (fun k => some k ≠ v1.ownBlock) v2 xs2 := by
  refine ⟨R_ownP h1 fun k hk e => ?_, R_ownP h2 fun k hk e => ?_⟩
  · rcases hnd with h | h
    · rw [h] at hk; cases hk
    · exact h (by rw [hk, e])
  · rcases hnd with h | h
    · rw [h] at e; cases e
    · exact h (by rw [← e, hk])
theorem nil_pair {base : Nat} {w : World} : (Kd.int .i64).R 3 w base (fun k => some k ≠ (Value.slice none 0 0).ownBlock) (.slice none 0 0) [] ∧ (Kd.int .i64).R 3 w base (fun k => some k ≠ (Value.slice none 0 0).ownBlock) (.slice none 0 0) [] :=
  R_pair (World.ownsRow_nil _ _ _ _) (World.ownsRow_nil _ _ _ _) (.inl rfl)
theorem own_dn {T n base : Nat} {w : World} {v : Value} {l : List Int} (h : il (nl l) = l) (ho : w.ownsRow base T 1 v n (nums .i64 (il (nl l)))) : w.ownsRow base T 1 v n (nums .i64 l) := by rwa [h] at ho
end Go.Proofs.Ytheclfjbedajfaa
