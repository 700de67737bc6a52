/- slices.Sort at []uint64, walked for at most 12 elements of a row of the call's own. -/
/- slices.Sort at []uint64: the way to the insertion sort, walked for at most 12 elements. -/
/- slices.Clone of []int, walked. -/
import Derived.Test.YtheclfjbedajfaaWs
import Derived.Lib.BufferOwn
import Derived.Deep.QuietTactic
import Derived.BigQuiet
import Derived.BigRegion
import Derived.Test.YtheclfjbedajfaaIc
import Derived.Lib.LazyBuf
namespace Go.Proofs.Ytheclfjbedajfaa
set_option linter.unusedSimpArgs false
set_option linter.unusedVariables false
open Go.RowKit Go.Lib Go.Proofs.YtheclfjbedajfaaW.PrintWords
attribute [local go_sem] Oper.semAt_some

theorem own_storeU {W : World} {base g n cap : Nat} {e : TypeId} {bs : List Nat} (h : W.ownsRow base e 1 (.slice (some ⟨g, 0, none⟩) n cap) n (nums .i64 (il bs))) (i x : Nat) :
    (W.setCell ⟨g, i, none⟩ (.int .i64 x)).ownsRow base e 1 (.slice (some ⟨g, 0, none⟩) n cap) n (nums .i64 (il (bs.set i x))) ∧ W.grownBy (W.setCell ⟨g, i, none⟩ (.int .i64 x)) (some g) := by
  have hs := h.stored i (.int .i64 x)
  have he : (nums .i64 (il bs)).set i (.int .i64 x) = nums .i64 (il (bs.set i x)) := by rw [← il_set]; simp [nums, List.map_set]
  rwa [he] at hs
theorem own_atU {W : World} {base g n cap : Nat} {e : TypeId} {bs : List Nat} (h : W.ownsRow base e 1 (.slice (some ⟨g, 0, none⟩) n cap) n (nums .i64 (il bs))) {i : Nat} (hi : i < n) :
    W.cell? ⟨g, i, none⟩ = some (.int .i64 ((bs.getD i 0 : Nat) : Int)) ∧ W.frozen? ⟨g, i, none⟩ = false := by
  have hl : n = bs.length := by have := h.1; simp [nums, il] at this; omega
  obtain ⟨h1, h2⟩ := own_at h (i : Int) (by omega) (by omega)
  rw [Int.toNat_natCast] at h1 h2
  rw [rd_il (by omega)] at h1
  exact ⟨h1, h2⟩
set_option maxHeartbeats 400000 in
theorem isnan_any (a : Nat) (w : World) : Calls Try.prog 77 #[.int .i64 a] w fun e w' => e = .returned (.bool false) ∧ w' = w := by
  go_enter Try.func77, Try.ntmps77
  go_wp2
  go_ret
  exact ⟨by simp, rfl⟩
set_option maxHeartbeats 400000 in
theorem less_any (a b : Nat) (w : World) : Calls Try.prog 67 #[.int .i64 a, .int .i64 b] w fun e w' => e = .returned (.bool (decide ((a : Int) < b))) ∧ w' = w := by
  go_enter Try.func67, Try.ntmps67
  go_wp2_with (go_at_call 77; refine (isnan_any _ _).mono ?_; rintro e w' ⟨rfl, rfl⟩)
  go_ret
  exact ⟨by simp, rfl⟩
theorem less_is (a b : Nat) (v : Bool) (h : decide ((a : Int) < b) = v) (w : World) : Calls Try.prog 67 #[.int .i64 a, .int .i64 b] w fun e w' => e = .returned (.bool v) ∧ w' = w := by
  rw [← h]; exact less_any a b w
theorem grown_drewN' {w W : World} {row : Option Nat} (h : w.grownBy W row) (n : Nat) : w.grownBy (W.drewN n) row := ⟨h.os, h.tape, h.output, h.size, h.block⟩
set_option maxHeartbeats 2000000 in
set_option maxRecDepth 100000 in
theorem insertion_any (base g cap : Nat) (bs : List Nat) (w : World) (ho : w.ownsRow base 3 1 (.slice (some ⟨g, 0, none⟩) bs.length cap) bs.length (nums .i64 (il bs))) (hn : bs.length ≤ 12) :
    Calls Try.prog 61 #[.slice (some ⟨g, 0, none⟩) bs.length cap, .int .i64 0, .int .i64 bs.length] w fun e w' =>
      e = .returned (.tuple #[]) ∧ w'.ownsRow base 3 1 (.slice (some ⟨g, 0, none⟩) bs.length cap) bs.length (nums .i64 (il (sortedL bs))) ∧ w.grownBy w' (some g) := by
  have hst : w.ownsRow base 3 1 (.slice (some ⟨g, 0, none⟩) bs.length cap) bs.length (nums .i64 (il (sortedL (bs.take 1) ++ bs.drop 1))) := by rw [sorted_start]; exact ho
  clear ho
  obtain ⟨n, hnb⟩ : ∃ n, n = bs.length := ⟨_, rfl⟩
  rw [← hnb] at hst hn ⊢
  have HNB := hid hnb
  clear hnb
  go_enter Try.func61, Try.ntmps61
  go_wp2
  go_loopw [6] (fun i wr => w.grownBy wr (some g) ∧ ∃ k : Nat, 1 ≤ k ∧ k ≤ n + 1 ∧ i = .int .i64 k ∧ wr.ownsRow base 3 1 (.slice (some ⟨g, 0, none⟩) n cap) n (nums .i64 (il (sortedL (bs.take k) ++ bs.drop k)))) (fun i _ => 20 - (intOf i).toNat)
  case atStart => exact ⟨World.grownBy.refl w _, 1, by omega, by omega, rfl, hst⟩
  case round =>
    obtain ⟨hg, k, hk1, hk2, rfl, ho⟩ := hrel
    clear hst
    by_cases hlt : k < n
    · obtain ⟨S, hS⟩ : ∃ S, sortedL (bs.take k) = S := ⟨_, rfl⟩
      obtain ⟨x, hx⟩ : ∃ x, bs.getD k 0 = x := ⟨_, rfl⟩
      have hSl : S.length = k := by rw [← hS, sortedL_length, List.length_take]; have := HNB.out; omega
      have hbk : bs.drop k = x :: bs.drop (k + 1) := by
        have := HNB.out
        rw [List.drop_eq_getElem_cons (show k < bs.length by omega), ← hx]; simp [List.getD_eq_getElem?_getD, show k < bs.length by omega]
      obtain ⟨R, hR⟩ : ∃ R, bs.drop (k + 1) = R := ⟨_, rfl⟩
      have ho2 : wr.ownsRow base 3 1 (.slice (some ⟨g, 0, none⟩) n cap) n (nums .i64 (il (insIn S x k ++ R))) := by
        have e : insIn S x k ++ R = sortedL (bs.take k) ++ bs.drop k := by rw [hS, hbk, hR, ← hSl, insIn_end]; simp
        rw [e]; exact ho
      have HSS := hid (show S.Pairwise (· ≤ ·) from by rw [← hS]; exact sortedL_sorted _)
      have HNEXT := hid (show withL S x ++ R = sortedL (bs.take (k + 1)) ++ bs.drop (k + 1) from by
        have := HNB.out
        rw [List.take_succ_eq_append_getElem (show k < bs.length by omega), sortedL_snoc, hS, hR, ← hx]; simp [List.getD_eq_getElem?_getD, show k < bs.length by omega])
      have HSL := hid hSl
      clear ho hS hx hbk hR hSl
      go_wp2
      go_loopw [7] (fun jv wr2 => w.grownBy wr2 (some g) ∧ ∃ j : Nat, j ≤ k ∧ jv = .int .i64 j ∧ wr2.ownsRow base 3 1 (.slice (some ⟨g, 0, none⟩) n cap) n (nums .i64 (il (insIn S x j ++ R))) ∧ Hid (∀ y ∈ S.drop j, x < y)) (fun jv _ => (intOf jv).toNat)
      case atStart => exact ⟨hg, k, by omega, rfl, ho2, (show ∀ y ∈ S.drop k, x < y from by have := HSL.out; intro y hy; rw [List.drop_of_length_le (by omega)] at hy; cases hy)⟩
      case round =>
        obtain ⟨hg2, j, hj, rfl, ho3, HD⟩ := hrel
        clear ho2
        have hout : (j = 0 ∨ S.getD (j - 1) 0 ≤ x) → wr.ownsRow base 3 1 (.slice (some ⟨g, 0, none⟩) n cap) n (nums .i64 (il (sortedL (bs.take (k + 1)) ++ bs.drop (k + 1)))) := fun h => by
          rw [← HNEXT.out, ← insIn_stop HSS.out (by have := HSL.out; omega) HD.out h]; exact ho3
        have HOUT := hid hout
        clear hout
        rcases Nat.eq_zero_or_pos j with hj0 | hj0
        · have HJ0 := hid hj0
          have hjv : (j : Int) = 0 := by omega
          rw [hjv]
          clear hj0 hjv
          have hgd : decide ((0 : Int) > 0) = false := by decide
          go_wp2_with fail
          go_quiet (fail)
          go_wp2
          go_round
          case rel => exact ⟨grown_drewN' hg2 _, k + 1, by omega, by omega, by go_num, HOUT.out (.inl HJ0.out)⟩
          case measure => simp [intOf]; omega
        · obtain ⟨p, hp⟩ : ∃ p, j = p + 1 := ⟨j - 1, by omega⟩
          have HP := hid hp
          have hpS : p < S.length := by have := HSL.out; omega
          obtain ⟨y, hy⟩ : ∃ y, S.getD p 0 = y := ⟨_, rfl⟩
          have hjn : p + 1 < n := by omega
          obtain ⟨ca, fa⟩ := own_atU ho3 (i := p + 1) hjn
          obtain ⟨cb, fb⟩ := own_atU ho3 (i := p) (by omega)
          rw [hp, insIn_at (by omega)] at ca
          rw [hp, insIn_prev hpS, hy] at cb
          have HSW := hid (show ((insIn S x j ++ R).set (p + 1) y).set p x = insIn S x p ++ R from by rw [hp, ← hy]; exact insIn_swap hpS)
          have HDN := hid (show x < y → ∀ z ∈ S.drop p, x < z from by
            intro hxy z hz
            rw [List.drop_eq_getElem_cons hpS] at hz
            rcases List.mem_cons.1 hz with rfl | hz
            · have : S.getD p 0 = S[p] := by simp [List.getD_eq_getElem?_getD, hpS]
              omega
            · exact HD.out z (by rw [hp]; exact hz))
          have HY := hid hy
          rw [show (j : Int) = (p : Int) + 1 from by omega]
          obtain ⟨iN, hiN⟩ : ∃ q, q = p + 1 := ⟨_, rfl⟩
          obtain ⟨jN, hjN⟩ : ∃ q, q = p := ⟨_, rfl⟩
          rw [← hiN] at ca fa
          rw [← hjN] at cb fb
          have ea : ((p : Int) + 1).toNat = iN := by omega
          have pa : (0 : Int) ≤ (p : Int) + 1 := by omega
          have ba : (p : Int) + 1 < (n : Int) := by omega
          have ra : IntKind.i64.wrap ((p : Int) + 1) = (p : Int) + 1 := by rw [IntKind.wrap_i64]; omega
          have ec : ((p : Int)).toNat = jN := by omega
          have pc : (0 : Int) ≤ (p : Int) := by omega
          have bc : (p : Int) < (n : Int) := by omega
          have rc : IntKind.i64.wrap ((p : Int)) = (p : Int) := by rw [IntKind.wrap_i64]; omega
          have hgd : decide ((p : Int) + 1 > (0 : Int)) = true := decide_eq_true (by omega)
          have HIN := hid hiN
          have HJN := hid hjN
          clear hp hy hiN hjN hpS
          cases hlv : decide ((x : Int) < (y : Int)) with
          | false =>
            have HLV := hid hlv
            clear hlv
            go_wp2_with fail
            go_quiet ((go_at_call 67; exact Calls.quiet_of_same (less_is _ _ _ HLV.out _)))
            go_wp2
            go_round
            case rel => exact ⟨grown_drewN' hg2 _, k + 1, by omega, by omega, by go_num, HOUT.out (.inr (by rw [HP.out, Nat.add_sub_cancel, HY.out]; have := of_decide_eq_false HLV.out; omega))⟩
            case measure => simp [intOf]; omega
          | true =>
            have HLV := hid hlv
            clear hlv
            go_wp2_with fail
            go_quiet ((go_at_call 67; exact Calls.quiet_of_same (less_is _ _ _ HLV.out _)))
            have ca2 : (wr.drewN nq).cell? ⟨g, iN, none⟩ = some (.int .i64 x) := ca
            have cb2 : (wr.drewN nq).cell? ⟨g, jN, none⟩ = some (.int .i64 y) := cb
            have fa2 : (wr.drewN nq).frozen? ⟨g, iN, none⟩ = false := fa
            have fb2 : (wr.drewN nq).frozen? ⟨g, jN, none⟩ = false := fb
            have ho4 : (wr.drewN nq).ownsRow base 3 1 (.slice (some ⟨g, 0, none⟩) n cap) n (nums .i64 (il (insIn S x j ++ R))) := ho3
            have hg3 := grown_drewN' hg2 nq
            clear ca cb fa fb ho3 hg2 HOUT
            generalize wr.drewN nq = w2 at *
            go_wp2_with fail
            go_region
            all_goals
              go_wp2
              go_round
              case rel =>
                rw [HIN.out, HJN.out]
                have hgA : w2.grownBy w2.drew (some g) := grown_drewN' (World.grownBy.refl w2 _) 1
                obtain ⟨s1, s2⟩ := own_storeU (W := w2.drew) ho4 (p + 1) y
                obtain ⟨s3, s4⟩ := own_storeU s1 p x
                rw [HSW.out] at s3
                exact ⟨grownBy_trans hg3 (grownBy_trans hgA (grownBy_trans s2 s4)), p, by have := HP.out; omega, by go_num, s3, HDN.out (by have := of_decide_eq_true HLV.out; omega)⟩
              case measure => have := HP.out; simp [intOf, rc] <;> omega
    · have e : sortedL (bs.take k) ++ bs.drop k = sortedL bs := by
        have := HNB.out
        rw [List.take_of_length_le (by omega), List.drop_of_length_le (by omega), List.append_nil]
      rw [e] at ho
      clear e
      go_wp2
      go_end0
      exact ⟨rfl, ho, hg⟩
end Go.Proofs.Ytheclfjbedajfaa


namespace Go.Proofs.Ytheclfjbedajfaa
set_option linter.unusedSimpArgs false
set_option linter.unusedVariables false
open Go.RowKit Go.Lib Go.Proofs.YtheclfjbedajfaaW.PrintWords
attribute [local go_sem] Oper.semAt_some

set_option maxHeartbeats 1000000 in
theorem insertion_nil (w : World) : Calls Try.prog 61 #[.slice none 0 0, .int .i64 0, .int .i64 0] w fun e w' => e = .returned (.tuple #[]) ∧ w' = w := by
  go_enter Try.func61, Try.ntmps61
  go_wp2
  go_loopw [6] (fun i wr => wr = w ∧ i = .int .i64 1) (fun i _ => 0)
  case atStart => exact ⟨rfl, rfl⟩
  case round =>
    obtain ⟨rfl, rfl⟩ := hrel
    go_wp2
    go_end0
    exact ⟨rfl, rfl⟩
set_option maxHeartbeats 2000000 in
set_option maxRecDepth 100000 in
theorem len64_any (x : Nat) (hx : x ≤ 12) (w : World) : Calls Try.prog 71 #[.int .u64 x] w fun e w' => (∃ r : Int, e = .returned (.int .i64 r)) ∧ w' = w := by
  rcases (show x = 0 ∨ x = 1 ∨ x = 2 ∨ x = 3 ∨ x = 4 ∨ x = 5 ∨ x = 6 ∨ x = 7 ∨ x = 8 ∨ x = 9 ∨ x = 10 ∨ x = 11 ∨ x = 12 by omega) with rfl | rfl | rfl | rfl | rfl | rfl | rfl | rfl | rfl | rfl | rfl | rfl | rfl
  all_goals
    go_enter Try.func71, Try.ntmps71
    go_wp2
    go_ret
    exact ⟨⟨_, rfl⟩, rfl⟩
set_option maxHeartbeats 1000000 in
theorem len_any (x : Nat) (hx : x ≤ 12) (w : World) : Calls Try.prog 59 #[.int .u64 x] w fun e w' => (∃ r : Int, e = .returned (.int .i64 r)) ∧ w' = w := by
  go_enter Try.func59, Try.ntmps59
  go_wp2_with (go_at_call 71; refine (len64_any _ hx _).mono ?_; rintro e w' ⟨⟨r, rfl⟩, rfl⟩)
  go_ret
  exact ⟨⟨_, rfl⟩, rfl⟩
set_option maxHeartbeats 2000000 in
set_option maxRecDepth 100000 in
theorem pdq_any (base g cap : Nat) (bs : List Nat) (lim : Int) (w : World) (ho : w.ownsRow base 3 1 (.slice (some ⟨g, 0, none⟩) bs.length cap) bs.length (nums .i64 (il bs))) (hn : bs.length ≤ 12) :
    Calls Try.prog 58 #[.slice (some ⟨g, 0, none⟩) bs.length cap, .int .i64 0, .int .i64 bs.length, .int .i64 lim] w fun e w' =>
      e = .returned (.tuple #[]) ∧ w'.ownsRow base 3 1 (.slice (some ⟨g, 0, none⟩) bs.length cap) bs.length (nums .i64 (il (sortedL bs))) ∧ w.grownBy w' (some g) := by
  have HI := hid (insertion_any base g cap bs w ho hn)
  clear ho
  generalize bs.length = n at *
  go_enter Try.func58, Try.ntmps58
  go_wp2
  go_loopw [1, 2] (fun a b wr => wr = w ∧ a = .int .i64 0 ∧ b = .int .i64 n) (fun _ _ _ => 0)
  case atStart => exact ⟨rfl, rfl, rfl⟩
  case round =>
    obtain ⟨rfl, rfl, rfl⟩ := hrel
    go_wp2_with (go_at_call 61; refine HI.out.mono ?_; rintro e w' ⟨rfl, ho', hg'⟩)
    exact bodyPost_ret (v := .tuple #[]) (by simp [results, Try.results58, go_sem]) rfl ⟨rfl, ho', hg'⟩
set_option maxHeartbeats 1000000 in
set_option maxRecDepth 100000 in
theorem pdq_nil (lim : Int) (w : World) :
    Calls Try.prog 58 #[.slice none 0 0, .int .i64 0, .int .i64 0, .int .i64 lim] w fun e w' => e = .returned (.tuple #[]) ∧ w' = w := by
  go_enter Try.func58, Try.ntmps58
  go_wp2
  go_loopw [1, 2] (fun a b wr => wr = w ∧ a = .int .i64 0 ∧ b = .int .i64 0) (fun _ _ _ => 0)
  case atStart => exact ⟨rfl, rfl, rfl⟩
  case round =>
    obtain ⟨rfl, rfl, rfl⟩ := hrel
    go_wp2_with (go_at_call 61; refine (insertion_nil _).mono ?_; rintro e w' ⟨rfl, rfl⟩)
    exact bodyPost_ret (v := .tuple #[]) (by simp [results, Try.results58, go_sem]) rfl ⟨rfl, rfl⟩
set_option maxHeartbeats 1000000 in
theorem sort_some (base g cap : Nat) (bs : List Nat) (w : World) (ho : w.ownsRow base 3 1 (.slice (some ⟨g, 0, none⟩) bs.length cap) bs.length (nums .i64 (il bs))) (hn : bs.length ≤ 12) :
    Calls Try.prog 54 #[.slice (some ⟨g, 0, none⟩) bs.length cap] w fun e w' =>
      e = .returned (.tuple #[]) ∧ w'.ownsRow base 3 1 (.slice (some ⟨g, 0, none⟩) bs.length cap) bs.length (nums .i64 (il (sortedL bs))) ∧ w.grownBy w' (some g) := by
  have HI := hid (fun lim => pdq_any base g cap bs lim w ho hn)
  clear ho
  generalize bs.length = n at *
  have hw : IntKind.u64.wrap (n : Int) = (n : Int) := wrapU_nat (by omega)
  go_enter Try.func54, Try.ntmps54
  go_wp2_with (first
    | (go_at_call 59; refine (len_any n hn _).mono ?_; rintro e w' ⟨⟨r, rfl⟩, rfl⟩)
    | (go_at_call 58; refine (HI.out _).mono ?_; rintro e w' ⟨rfl, ho', hg'⟩))
  go_end0
  exact ⟨rfl, ho', hg'⟩
set_option maxHeartbeats 1000000 in
theorem sort_nil (w : World) : Calls Try.prog 54 #[.slice none 0 0] w fun e w' => e = .returned (.tuple #[]) ∧ w' = w := by
  go_enter Try.func54, Try.ntmps54
  go_wp2_with (first
    | (go_at_call 59; refine (len_any 0 (by omega) _).mono ?_; rintro e w' ⟨⟨r, rfl⟩, rfl⟩)
    | (go_at_call 58; refine (pdq_nil _ _).mono ?_; rintro e w' ⟨rfl, rfl⟩))
  go_end0
  exact ⟨rfl, rfl⟩
/-- slices.Sort on a row of the call's own, of at most 12 elements. -/
theorem sort_any (base : Nat) (v : Value) (bs : List Nat) (w : World) (ho : w.ownsRow base 3 1 v bs.length (nums .i64 (il bs))) (hn : bs.length ≤ 12) :
    Calls Try.prog 54 #[v] w fun e w' =>
      e = .returned (.tuple #[]) ∧ w'.ownsRow base 3 1 v bs.length (nums .i64 (il (sortedL bs))) ∧ w.grownBy w' v.ownBlock := by
  have ho' := ho
  rcases ho.2 with ⟨e1, h0⟩ | ⟨g, cap, cur, e1, _⟩
  · have hb : bs = [] := by
      have := h0; simp [nums, il] at this
      exact List.eq_nil_of_length_eq_zero (by simpa using this)
    subst hb
    subst e1
    exact (sort_nil w).mono fun e w' ⟨h1, h2⟩ => ⟨h1, by rw [h2]; exact ho', by rw [h2]; exact World.grownBy.refl _ _⟩
  · subst e1
    exact sort_some base g cap bs w ho' hn
end Go.Proofs.Ytheclfjbedajfaa


namespace Go.Proofs.Ytheclfjbedajfaa
set_option linter.unusedSimpArgs false
set_option linter.unusedVariables false
open Go.RowKit Go.Lib Go.Proofs.YtheclfjbedajfaaW.PrintWords
attribute [local go_sem] Oper.semAt_some

theorem infoI : (Try.prog.info? 3).map (fun i => (i.zero, i.size, i.bytes)) = some (some (.int .i64 0), 1, 8) := by kernel_rfl
set_option maxHeartbeats 2000000 in
set_option maxRecDepth 100000 in
theorem clonei_any (A : Option Addr) (n c : Nat) (bs : List Int) (w : World) (hC : IC w A n bs) (hn : n < 2 ^ 40) :
    Calls Try.prog 38 #[.slice A n c] w fun e w' => ∃ v, e = .returned v ∧ w'.ownsRow w.heap.size 3 1 v n (nums .i64 bs) ∧ Below w.heap.size w w' := by
  obtain ⟨i0, hi0, hz0, hz1, hz2⟩ := info_parts infoI
  have hnil := run_eql_slice_nil w 27 _ A n c Try.underlying27
  have hn1 := hC.len
  subst hn1
  rcases A with _ | ad
  · have hl0 : bs.length = 0 := by
      rcases Nat.eq_zero_or_pos bs.length with h0 | h0
      · exact h0
      · obtain ⟨ad, _, e, _⟩ := IC.at_ hC h0; cases e
    obtain rfl : bs = [] := List.eq_nil_of_length_eq_zero hl0
    clear hC hl0 hnil
    have hnil : (binOp .eql 27 (.slice none 0 c) (.slice none 0 0)).run Try.prog w = .ok (.bool true) w := run_eql_slice_nil w 27 _ none 0 c Try.underlying27
    go_enter Try.func38, Try.ntmps38
    go_wp2
    go_ret
    exact ⟨.slice none 0 0, rfl, ⟨by simp [nums, il], .inl ⟨rfl, by simp [nums, il]⟩⟩, Below.refl _ _⟩
  · have HR := hid (Reads.of_C hC)
    clear hC
    go_enter Try.func38, Try.ntmps38
    go_wp2_with (
      at_builtin
      refine wpList_append_any _ rfl (.tmp 5) (.tmp 6) _ rfl w.heap.size 3 i0 _ 1 8 Try.underlying27 hi0 hz0 hz1 hz2 rfl (by decide) (.slice (some ⟨w.heap.size, 0, none⟩) 0 0) 0 [] (by simp [Act.eval])
        (own_empty (heap_new rfl) (Nat.le_refl _)) w.heap.size (some ad) bs.length c (nums .i64 bs) (by simp [Act.eval])
        (HR.out.keep fun p hp => World.cell?_alloc_lt w _ p hp) (nums_one _ _) (by simp only [maxLen] <;> omega) (by omega) (by simp) ?_
      intro v1 w1 hown1 hg1 hat1
      have hb1 : Below w.heap.size w w1 := below_grown_own (below_alloc (Below.refl _ _) _) (by simp) hg1 (by intro k hk; simp [Value.ownBlock] at hk; omega)
      have HO1 := hid hown1
      clear hown1)
    go_ret
    exact ⟨v1, rfl, by have := HO1.out; simpa using this, hb1⟩
end Go.Proofs.Ytheclfjbedajfaa
