-- The words of the print that this claim uses; the others are struck by trim.py, a program of this session.
/- slices.Sort at []uint64, walked for at most 12 elements of a row of the call's own. -/
/- slices.Sort at []uint64: the way to the insertion sort, walked for at most 12 elements. -/
/- incidence.made, walked for the two functions that this program hands it. -/
/- incidence.Complement, walked. -/
import Derived.Test.YtoiahjncpngkeaaDoorR6
import Derived.Lib.BufferOwn
import Derived.Deep.QuietTactic
import Derived.BigQuiet
import Derived.BigRegion
namespace Go.Proofs.YtoiahjncpngkeaaDoor
set_option linter.unusedSimpArgs false
set_option linter.unusedVariables false
open Go.RowKit Go.Lib Go.Proofs.YtoiahjncpngkeaaDoorW.PrintWords

-- sorted lists
theorem withL_sorted {b : Nat} : ∀ {bs : List Nat}, bs.Pairwise (· ≤ ·) → (withL bs b).Pairwise (· ≤ ·)
  | [], _ => by simp [withL, wat]
  | x :: r, h => by
    obtain ⟨h1, h2⟩ := List.pairwise_cons.1 h
    by_cases hx : x ≤ b
    · have e : withL (x :: r) b = x :: withL r b := by
        unfold withL wat
        rw [List.takeWhile_cons, if_pos (by simpa using hx)]
        simp
      rw [e]
      refine List.pairwise_cons.2 ⟨fun y hy => ?_, withL_sorted h2⟩
      rcases withL_mem.1 hy with rfl | hy
      · exact hx
      · exact h1 y hy
    · have e : withL (x :: r) b = b :: x :: r := by
        unfold withL wat
        rw [List.takeWhile_cons, if_neg (by simpa using hx)]
        simp
      rw [e]
      refine List.pairwise_cons.2 ⟨fun y hy => ?_, h⟩
      rcases List.mem_cons.1 hy with rfl | hy
      · omega
      · have := h1 y hy; omega
theorem sortedL_sorted (l : List Nat) : (sortedL l).Pairwise (· ≤ ·) := by
  have : ∀ (l acc : List Nat), acc.Pairwise (· ≤ ·) → (l.foldl withL acc).Pairwise (· ≤ ·) := by
    intro l
    induction l with
    | nil => intro acc h; exact h
    | cons x r ih => intro acc h; exact ih _ (withL_sorted h)
  exact this l [] List.Pairwise.nil
-- a number that goes down through a sorted list
def insIn (S : List Nat) (x j : Nat) : List Nat := S.take j ++ x :: S.drop j
theorem insIn_at {S R : List Nat} {x j : Nat} (h : j ≤ S.length) : (insIn S x j ++ R).getD j 0 = x := by
  simp [insIn, List.getD_eq_getElem?_getD, List.append_assoc, List.getElem?_append_right, h]
theorem insIn_parts {S : List Nat} {x p : Nat} (h : p < S.length) : insIn S x (p + 1) = S.take p ++ S.getD p 0 :: x :: S.drop (p + 1) ∧ insIn S x p = S.take p ++ x :: S.getD p 0 :: S.drop (p + 1) := by
  have e : S.getD p 0 = S[p] := by simp [List.getD_eq_getElem?_getD, h]
  unfold insIn
  rw [e]
  constructor
  · rw [List.take_succ_eq_append_getElem h, List.append_assoc]; rfl
  · rw [List.drop_eq_getElem_cons h]
theorem insIn_prev {S R : List Nat} {x p : Nat} (h : p < S.length) : (insIn S x (p + 1) ++ R).getD p 0 = S.getD p 0 := by
  rw [(insIn_parts h).1]
  have : (S.take p).length = p := by simp; omega
  simp [List.getD_eq_getElem?_getD, List.getElem?_append_right, this]
theorem insIn_swap {S R : List Nat} {x p : Nat} (h : p < S.length) : ((insIn S x (p + 1) ++ R).set (p + 1) (S.getD p 0)).set p x = insIn S x p ++ R := by
  rw [(insIn_parts h).1, (insIn_parts h).2]
  have : (S.take p).length = p := by simp; omega
  rw [List.append_assoc, List.append_assoc, List.set_append_right _ _ (by omega), List.set_append_right _ _ (by omega), this, Nat.sub_self, show p + 1 - p = 1 by omega]
  rfl
theorem insIn_stop {S : List Nat} {x j : Nat} (hs : S.Pairwise (· ≤ ·)) (hj : j ≤ S.length) (hd : ∀ y ∈ S.drop j, x < y) (h : j = 0 ∨ S.getD (j - 1) 0 ≤ x) : insIn S x j = withL S x := by
  have hw : wat S x = j := by
    have ht : ∀ y ∈ S.take j, decide (y ≤ x) = true := by
      intro y hy
      rcases h with rfl | h
      · simp at hy
      · rw [List.mem_iff_getElem] at hy
        obtain ⟨i, hi, rfl⟩ := hy
        have hi' : i < j ∧ i < S.length := by simp at hi; omega
        simp only [List.getElem_take]
        have e : S.getD (j - 1) 0 = S[j - 1]'(by omega) := by simp [List.getD_eq_getElem?_getD, show j - 1 < S.length by omega]
        rw [e] at h
        have := List.pairwise_iff_getElem.1 hs
        rcases Nat.lt_or_ge i (j - 1) with h1 | h1
        · have := this i (j - 1) (by omega) (by omega) h1
          simp; omega
        · have e2 : i = j - 1 := by omega
          subst e2
          simpa using h
    unfold wat
    conv => lhs; rw [← List.take_append_drop j S, List.takeWhile_append_of_pos ht]
    have : List.takeWhile (fun y => decide (y ≤ x)) (S.drop j) = [] := by
      cases hc : S.drop j with
      | nil => rfl
      | cons y r =>
        have := hd y (by rw [hc]; simp)
        rw [List.takeWhile_cons, if_neg (by simp; omega)]
    rw [this]; simp; omega
  unfold insIn withL
  rw [hw]; simp
theorem insIn_end (S : List Nat) (x : Nat) : insIn S x S.length = S ++ [x] := by simp [insIn]
theorem il_set (l : List Nat) (i x : Nat) : (il l).set i (x : Int) = il (l.set i x) := by simp [il, List.map_set]
theorem sorted_start {bs : List Nat} : sortedL (bs.take 1) ++ bs.drop 1 = bs := by
  cases bs with
  | nil => rfl
  | cons x r => simp [sortedL, withL, wat]
end Go.Proofs.YtoiahjncpngkeaaDoor


namespace Go.Proofs.YtoiahjncpngkeaaDoor
set_option linter.unusedSimpArgs false
set_option linter.unusedVariables false
open Go.RowKit Go.Lib Go.Proofs.YtoiahjncpngkeaaDoorW.PrintWords
attribute [local go_sem] Oper.semAt_some

theorem own_storeU {W : World} {base g n cap : Nat} {e : TypeId} {bs : List Nat} (h : W.ownsRow base e 1 (.slice (some ⟨g, 0, none⟩) n cap) n (nums .u64 (il bs))) (i x : Nat) :
    (W.setCell ⟨g, i, none⟩ (.int .u64 x)).ownsRow base e 1 (.slice (some ⟨g, 0, none⟩) n cap) n (nums .u64 (il (bs.set i x))) ∧ W.grownBy (W.setCell ⟨g, i, none⟩ (.int .u64 x)) (some g) := by
  have hs := h.stored i (.int .u64 x)
  have he : (nums .u64 (il bs)).set i (.int .u64 x) = nums .u64 (il (bs.set i x)) := by rw [← il_set]; simp [nums, List.map_set]
  rwa [he] at hs
theorem own_atU {W : World} {base g n cap : Nat} {e : TypeId} {bs : List Nat} (h : W.ownsRow base e 1 (.slice (some ⟨g, 0, none⟩) n cap) n (nums .u64 (il bs))) {i : Nat} (hi : i < n) :
    W.cell? ⟨g, i, none⟩ = some (.int .u64 ((bs.getD i 0 : Nat) : Int)) ∧ W.frozen? ⟨g, i, none⟩ = false := by
  have hl : n = bs.length := by have := h.1; simp [nums, il] at this; omega
  obtain ⟨h1, h2⟩ := own_at h (i : Int) (by omega) (by omega)
  rw [Int.toNat_natCast] at h1 h2
  rw [rd_il (by omega)] at h1
  exact ⟨h1, h2⟩
set_option maxHeartbeats 400000 in
theorem isnan_any (a : Nat) (w : World) : Calls Tryd.prog 92 #[.int .u64 a] w fun e w' => e = .returned (.bool false) ∧ w' = w := by
  go_enter Tryd.func92, Tryd.ntmps92
  go_wp2
  go_ret
  exact ⟨by simp, rfl⟩
set_option maxHeartbeats 400000 in
theorem less_any (a b : Nat) (w : World) : Calls Tryd.prog 82 #[.int .u64 a, .int .u64 b] w fun e w' => e = .returned (.bool (decide ((a : Int) < b))) ∧ w' = w := by
  go_enter Tryd.func82, Tryd.ntmps82
  go_wp2_with (go_at_call 92; refine (isnan_any _ _).mono ?_; rintro e w' ⟨rfl, rfl⟩)
  go_ret
  exact ⟨by simp, rfl⟩
theorem less_is (a b : Nat) (v : Bool) (h : decide ((a : Int) < b) = v) (w : World) : Calls Tryd.prog 82 #[.int .u64 a, .int .u64 b] w fun e w' => e = .returned (.bool v) ∧ w' = w := by
  rw [← h]; exact less_any a b w
theorem grown_drewN' {w W : World} {row : Option Nat} (h : w.grownBy W row) (n : Nat) : w.grownBy (W.drewN n) row := ⟨h.os, h.tape, h.output, h.size, h.block⟩
set_option maxHeartbeats 2000000 in
set_option maxRecDepth 100000 in
theorem insertion_any (base g cap : Nat) (bs : List Nat) (w : World) (ho : w.ownsRow base 60 1 (.slice (some ⟨g, 0, none⟩) bs.length cap) bs.length (nums .u64 (il bs))) (hn : bs.length ≤ 12) :
    Calls Tryd.prog 76 #[.slice (some ⟨g, 0, none⟩) bs.length cap, .int .i64 0, .int .i64 bs.length] w fun e w' =>
      e = .returned (.tuple #[]) ∧ w'.ownsRow base 60 1 (.slice (some ⟨g, 0, none⟩) bs.length cap) bs.length (nums .u64 (il (sortedL bs))) ∧ w.grownBy w' (some g) := by
  have hst : w.ownsRow base 60 1 (.slice (some ⟨g, 0, none⟩) bs.length cap) bs.length (nums .u64 (il (sortedL (bs.take 1) ++ bs.drop 1))) := by rw [sorted_start]; exact ho
  clear ho
  obtain ⟨n, hnb⟩ : ∃ n, n = bs.length := ⟨_, rfl⟩
  rw [← hnb] at hst hn ⊢
  have HNB := hid hnb
  clear hnb
  go_enter Tryd.func76, Tryd.ntmps76
  go_wp2
  go_loopw [6] (fun i wr => w.grownBy wr (some g) ∧ ∃ k : Nat, 1 ≤ k ∧ k ≤ n + 1 ∧ i = .int .i64 k ∧ wr.ownsRow base 60 1 (.slice (some ⟨g, 0, none⟩) n cap) n (nums .u64 (il (sortedL (bs.take k) ++ bs.drop k)))) (fun i _ => 20 - (intOf i).toNat)
  case atStart => exact ⟨World.grownBy.refl w _, 1, by omega, by omega, rfl, hst⟩
  case round =>
    obtain ⟨hg, k, hk1, hk2, rfl, ho⟩ := hrel
    clear hst
    by_cases hlt : k < n
    · obtain ⟨S, hS⟩ : ∃ S, sortedL (bs.take k) = S := ⟨_, rfl⟩
      obtain ⟨x, hx⟩ : ∃ x, bs.getD k 0 = x := ⟨_, rfl⟩
      have hSl : S.length = k := by rw [← hS, sortedL_length, List.length_take]; have := HNB.out; omega
      have hbk : bs.drop k = x :: bs.drop (k + 1) := by
        have := HNB.out
        rw [List.drop_eq_getElem_cons (show k < bs.length by omega), ← hx]; simp [List.getD_eq_getElem?_getD, show k < bs.length by omega]
      obtain ⟨R, hR⟩ : ∃ R, bs.drop (k + 1) = R := ⟨_, rfl⟩
      have ho2 : wr.ownsRow base 60 1 (.slice (some ⟨g, 0, none⟩) n cap) n (nums .u64 (il (insIn S x k ++ R))) := by
        have e : insIn S x k ++ R = sortedL (bs.take k) ++ bs.drop k := by rw [hS, hbk, hR, ← hSl, insIn_end]; simp
        rw [e]; exact ho
      have HSS := hid (show S.Pairwise (· ≤ ·) from by rw [← hS]; exact sortedL_sorted _)
      have HNEXT := hid (show withL S x ++ R = sortedL (bs.take (k + 1)) ++ bs.drop (k + 1) from by
        have := HNB.out
        rw [List.take_succ_eq_append_getElem (show k < bs.length by omega), sortedL_snoc, hS, hR, ← hx]; simp [List.getD_eq_getElem?_getD, show k < bs.length by omega])
      have HSL := hid hSl
      clear ho hS hx hbk hR hSl
      go_wp2
      go_loopw [7] (fun jv wr2 => w.grownBy wr2 (some g) ∧ ∃ j : Nat, j ≤ k ∧ jv = .int .i64 j ∧ wr2.ownsRow base 60 1 (.slice (some ⟨g, 0, none⟩) n cap) n (nums .u64 (il (insIn S x j ++ R))) ∧ Hid (∀ y ∈ S.drop j, x < y)) (fun jv _ => (intOf jv).toNat)
      case atStart => exact ⟨hg, k, by omega, rfl, ho2, (show ∀ y ∈ S.drop k, x < y from by have := HSL.out; intro y hy; rw [List.drop_of_length_le (by omega)] at hy; cases hy)⟩
      case round =>
        obtain ⟨hg2, j, hj, rfl, ho3, HD⟩ := hrel
        clear ho2
        have hout : (j = 0 ∨ S.getD (j - 1) 0 ≤ x) → wr.ownsRow base 60 1 (.slice (some ⟨g, 0, none⟩) n cap) n (nums .u64 (il (sortedL (bs.take (k + 1)) ++ bs.drop (k + 1)))) := fun h => by
          rw [← HNEXT.out, ← insIn_stop HSS.out (by have := HSL.out; omega) HD.out h]; exact ho3
        have HOUT := hid hout
        clear hout
        rcases Nat.eq_zero_or_pos j with hj0 | hj0
        · have HJ0 := hid hj0
          have hjv : (j : Int) = 0 := by omega
          rw [hjv]
          clear hj0 hjv
          have hgd : decide ((0 : Int) > 0) = false := by decide
          go_wp2_with fail
          go_quiet (fail)
          go_wp2
          go_round
          case rel => exact ⟨grown_drewN' hg2 _, k + 1, by omega, by omega, by go_num, HOUT.out (.inl HJ0.out)⟩
          case measure => simp [intOf]; omega
        · obtain ⟨p, hp⟩ : ∃ p, j = p + 1 := ⟨j - 1, by omega⟩
          have HP := hid hp
          have hpS : p < S.length := by have := HSL.out; omega
          obtain ⟨y, hy⟩ : ∃ y, S.getD p 0 = y := ⟨_, rfl⟩
          have hjn : p + 1 < n := by omega
          obtain ⟨ca, fa⟩ := own_atU ho3 (i := p + 1) hjn
          obtain ⟨cb, fb⟩ := own_atU ho3 (i := p) (by omega)
          rw [hp, insIn_at (by omega)] at ca
          rw [hp, insIn_prev hpS, hy] at cb
          have HSW := hid (show ((insIn S x j ++ R).set (p + 1) y).set p x = insIn S x p ++ R from by rw [hp, ← hy]; exact insIn_swap hpS)
          have HDN := hid (show x < y → ∀ z ∈ S.drop p, x < z from by
            intro hxy z hz
            rw [List.drop_eq_getElem_cons hpS] at hz
            rcases List.mem_cons.1 hz with rfl | hz
            · have : S.getD p 0 = S[p] := by simp [List.getD_eq_getElem?_getD, hpS]
              omega
            · exact HD.out z (by rw [hp]; exact hz))
          have HY := hid hy
          rw [show (j : Int) = (p : Int) + 1 from by omega]
          obtain ⟨iN, hiN⟩ : ∃ q, q = p + 1 := ⟨_, rfl⟩
          obtain ⟨jN, hjN⟩ : ∃ q, q = p := ⟨_, rfl⟩
          rw [← hiN] at ca fa
          rw [← hjN] at cb fb
          have ea : ((p : Int) + 1).toNat = iN := by omega
          have pa : (0 : Int) ≤ (p : Int) + 1 := by omega
          have ba : (p : Int) + 1 < (n : Int) := by omega
          have ra : IntKind.i64.wrap ((p : Int) + 1) = (p : Int) + 1 := by rw [IntKind.wrap_i64]; omega
          have ec : ((p : Int)).toNat = jN := by omega
          have pc : (0 : Int) ≤ (p : Int) := by omega
          have bc : (p : Int) < (n : Int) := by omega
          have rc : IntKind.i64.wrap ((p : Int)) = (p : Int) := by rw [IntKind.wrap_i64]; omega
          have hgd : decide ((p : Int) + 1 > (0 : Int)) = true := decide_eq_true (by omega)
          have HIN := hid hiN
          have HJN := hid hjN
          clear hp hy hiN hjN hpS
          cases hlv : decide ((x : Int) < (y : Int)) with
          | false =>
            have HLV := hid hlv
            clear hlv
            go_wp2_with fail
            go_quiet ((go_at_call 82; exact Calls.quiet_of_same (less_is _ _ _ HLV.out _)))
            go_wp2
            go_round
            case rel => exact ⟨grown_drewN' hg2 _, k + 1, by omega, by omega, by go_num, HOUT.out (.inr (by rw [HP.out, Nat.add_sub_cancel, HY.out]; have := of_decide_eq_false HLV.out; omega))⟩
            case measure => simp [intOf]; omega
          | true =>
            have HLV := hid hlv
            clear hlv
            go_wp2_with fail
            go_quiet ((go_at_call 82; exact Calls.quiet_of_same (less_is _ _ _ HLV.out _)))
            have ca2 : (wr.drewN nq).cell? ⟨g, iN, none⟩ = some (.int .u64 x) := ca
            have cb2 : (wr.drewN nq).cell? ⟨g, jN, none⟩ = some (.int .u64 y) := cb
            have fa2 : (wr.drewN nq).frozen? ⟨g, iN, none⟩ = false := fa
            have fb2 : (wr.drewN nq).frozen? ⟨g, jN, none⟩ = false := fb
            have ho4 : (wr.drewN nq).ownsRow base 60 1 (.slice (some ⟨g, 0, none⟩) n cap) n (nums .u64 (il (insIn S x j ++ R))) := ho3
            have hg3 := grown_drewN' hg2 nq
            clear ca cb fa fb ho3 hg2 HOUT
            generalize wr.drewN nq = w2 at *
            go_wp2_with fail
            go_region
            all_goals
              go_wp2
              go_round
              case rel =>
                rw [HIN.out, HJN.out]
                have hgA : w2.grownBy w2.drew (some g) := grown_drewN' (World.grownBy.refl w2 _) 1
                obtain ⟨s1, s2⟩ := own_storeU (W := w2.drew) ho4 (p + 1) y
                obtain ⟨s3, s4⟩ := own_storeU s1 p x
                rw [HSW.out] at s3
                exact ⟨grownBy_trans hg3 (grownBy_trans hgA (grownBy_trans s2 s4)), p, by have := HP.out; omega, by go_num, s3, HDN.out (by have := of_decide_eq_true HLV.out; omega)⟩
              case measure => have := HP.out; simp [intOf, rc] <;> omega
    · have e : sortedL (bs.take k) ++ bs.drop k = sortedL bs := by
        have := HNB.out
        rw [List.take_of_length_le (by omega), List.drop_of_length_le (by omega), List.append_nil]
      rw [e] at ho
      clear e
      go_wp2
      go_end0
      exact ⟨rfl, ho, hg⟩
end Go.Proofs.YtoiahjncpngkeaaDoor


namespace Go.Proofs.YtoiahjncpngkeaaDoor
set_option linter.unusedSimpArgs false
set_option linter.unusedVariables false
open Go.RowKit Go.Lib Go.Proofs.YtoiahjncpngkeaaDoorW.PrintWords
attribute [local go_sem] Oper.semAt_some

set_option maxHeartbeats 1000000 in
theorem insertion_nil (w : World) : Calls Tryd.prog 76 #[.slice none 0 0, .int .i64 0, .int .i64 0] w fun e w' => e = .returned (.tuple #[]) ∧ w' = w := by
  go_enter Tryd.func76, Tryd.ntmps76
  go_wp2
  go_loopw [6] (fun i wr => wr = w ∧ i = .int .i64 1) (fun i _ => 0)
  case atStart => exact ⟨rfl, rfl⟩
  case round =>
    obtain ⟨rfl, rfl⟩ := hrel
    go_wp2
    go_end0
    exact ⟨rfl, rfl⟩
set_option maxHeartbeats 2000000 in
set_option maxRecDepth 100000 in
theorem len64_any (x : Nat) (hx : x ≤ 12) (w : World) : Calls Tryd.prog 86 #[.int .u64 x] w fun e w' => (∃ r : Int, e = .returned (.int .i64 r)) ∧ w' = w := by
  rcases (show x = 0 ∨ x = 1 ∨ x = 2 ∨ x = 3 ∨ x = 4 ∨ x = 5 ∨ x = 6 ∨ x = 7 ∨ x = 8 ∨ x = 9 ∨ x = 10 ∨ x = 11 ∨ x = 12 by omega) with rfl | rfl | rfl | rfl | rfl | rfl | rfl | rfl | rfl | rfl | rfl | rfl | rfl
  all_goals
    go_enter Tryd.func86, Tryd.ntmps86
    go_wp2
    go_ret
    exact ⟨⟨_, rfl⟩, rfl⟩
set_option maxHeartbeats 1000000 in
theorem len_any (x : Nat) (hx : x ≤ 12) (w : World) : Calls Tryd.prog 74 #[.int .u64 x] w fun e w' => (∃ r : Int, e = .returned (.int .i64 r)) ∧ w' = w := by
  go_enter Tryd.func74, Tryd.ntmps74
  go_wp2_with (go_at_call 86; refine (len64_any _ hx _).mono ?_; rintro e w' ⟨⟨r, rfl⟩, rfl⟩)
  go_ret
  exact ⟨⟨_, rfl⟩, rfl⟩
set_option maxHeartbeats 2000000 in
set_option maxRecDepth 100000 in
theorem pdq_any (base g cap : Nat) (bs : List Nat) (lim : Int) (w : World) (ho : w.ownsRow base 60 1 (.slice (some ⟨g, 0, none⟩) bs.length cap) bs.length (nums .u64 (il bs))) (hn : bs.length ≤ 12) :
    Calls Tryd.prog 73 #[.slice (some ⟨g, 0, none⟩) bs.length cap, .int .i64 0, .int .i64 bs.length, .int .i64 lim] w fun e w' =>
      e = .returned (.tuple #[]) ∧ w'.ownsRow base 60 1 (.slice (some ⟨g, 0, none⟩) bs.length cap) bs.length (nums .u64 (il (sortedL bs))) ∧ w.grownBy w' (some g) := by
  have HI := hid (insertion_any base g cap bs w ho hn)
  clear ho
  generalize bs.length = n at *
  go_enter Tryd.func73, Tryd.ntmps73
  go_wp2
  go_loopw [1, 2] (fun a b wr => wr = w ∧ a = .int .i64 0 ∧ b = .int .i64 n) (fun _ _ _ => 0)
  case atStart => exact ⟨rfl, rfl, rfl⟩
  case round =>
    obtain ⟨rfl, rfl, rfl⟩ := hrel
    go_wp2_with (go_at_call 76; refine HI.out.mono ?_; rintro e w' ⟨rfl, ho', hg'⟩)
    exact bodyPost_ret (v := .tuple #[]) (by simp [results, Tryd.results73, go_sem]) rfl ⟨rfl, ho', hg'⟩
set_option maxHeartbeats 1000000 in
set_option maxRecDepth 100000 in
theorem pdq_nil (lim : Int) (w : World) :
    Calls Tryd.prog 73 #[.slice none 0 0, .int .i64 0, .int .i64 0, .int .i64 lim] w fun e w' => e = .returned (.tuple #[]) ∧ w' = w := by
  go_enter Tryd.func73, Tryd.ntmps73
  go_wp2
  go_loopw [1, 2] (fun a b wr => wr = w ∧ a = .int .i64 0 ∧ b = .int .i64 0) (fun _ _ _ => 0)
  case atStart => exact ⟨rfl, rfl, rfl⟩
  case round =>
    obtain ⟨rfl, rfl, rfl⟩ := hrel
    go_wp2_with (go_at_call 76; refine (insertion_nil _).mono ?_; rintro e w' ⟨rfl, rfl⟩)
    exact bodyPost_ret (v := .tuple #[]) (by simp [results, Tryd.results73, go_sem]) rfl ⟨rfl, rfl⟩
set_option maxHeartbeats 1000000 in
theorem sort_some (base g cap : Nat) (bs : List Nat) (w : World) (ho : w.ownsRow base 60 1 (.slice (some ⟨g, 0, none⟩) bs.length cap) bs.length (nums .u64 (il bs))) (hn : bs.length ≤ 12) :
    Calls Tryd.prog 65 #[.slice (some ⟨g, 0, none⟩) bs.length cap] w fun e w' =>
      e = .returned (.tuple #[]) ∧ w'.ownsRow base 60 1 (.slice (some ⟨g, 0, none⟩) bs.length cap) bs.length (nums .u64 (il (sortedL bs))) ∧ w.grownBy w' (some g) := by
  have HI := hid (fun lim => pdq_any base g cap bs lim w ho hn)
  clear ho
  generalize bs.length = n at *
  have hw : IntKind.u64.wrap (n : Int) = (n : Int) := wrapU_nat (by omega)
  go_enter Tryd.func65, Tryd.ntmps65
  go_wp2_with (first
    | (go_at_call 74; refine (len_any n hn _).mono ?_; rintro e w' ⟨⟨r, rfl⟩, rfl⟩)
    | (go_at_call 73; refine (HI.out _).mono ?_; rintro e w' ⟨rfl, ho', hg'⟩))
  go_end0
  exact ⟨rfl, ho', hg'⟩
set_option maxHeartbeats 1000000 in
theorem sort_nil (w : World) : Calls Tryd.prog 65 #[.slice none 0 0] w fun e w' => e = .returned (.tuple #[]) ∧ w' = w := by
  go_enter Tryd.func65, Tryd.ntmps65
  go_wp2_with (first
    | (go_at_call 74; refine (len_any 0 (by omega) _).mono ?_; rintro e w' ⟨⟨r, rfl⟩, rfl⟩)
    | (go_at_call 73; refine (pdq_nil _ _).mono ?_; rintro e w' ⟨rfl, rfl⟩))
  go_end0
  exact ⟨rfl, rfl⟩
/-- slices.Sort on a row of the call's own, of at most 12 elements. -/
theorem sort_any (base : Nat) (v : Value) (bs : List Nat) (w : World) (ho : w.ownsRow base 60 1 v bs.length (nums .u64 (il bs))) (hn : bs.length ≤ 12) :
    Calls Tryd.prog 65 #[v] w fun e w' =>
      e = .returned (.tuple #[]) ∧ w'.ownsRow base 60 1 v bs.length (nums .u64 (il (sortedL bs))) ∧ w.grownBy w' v.ownBlock := by
  have ho' := ho
  rcases ho.2 with ⟨e1, h0⟩ | ⟨g, cap, cur, e1, _⟩
  · have hb : bs = [] := by
      have := h0; simp [nums, il] at this
      exact List.eq_nil_of_length_eq_zero (by simpa using this)
    subst hb
    subst e1
    exact (sort_nil w).mono fun e w' ⟨h1, h2⟩ => ⟨h1, by rw [h2]; exact ho', by rw [h2]; exact World.grownBy.refl _ _⟩
  · subst e1
    exact sort_some base g cap bs w ho' hn
end Go.Proofs.YtoiahjncpngkeaaDoor


namespace Go.Proofs.YtoiahjncpngkeaaDoor
set_option linter.unusedSimpArgs false
set_option linter.unusedVariables false
open Go.RowKit Go.Lib Go.Proofs.YtoiahjncpngkeaaDoorW.PrintWords
attribute [local go_sem] Oper.semAt_some

set_option maxHeartbeats 2000000 in
set_option maxRecDepth 100000 in
theorem made_co (V : Int) (A : Option Addr) (n c : Nat) (bs : List Nat) (gf : Nat → Nat) (fu : Nat) (w : World) (hB : BlC w A n bs) (hn : n ≤ 12)
    (hf : ∀ b ∈ bs, ∀ W, Below w.heap.size w W → Calls Tryd.prog 51 #[.int .u64 fu, .int .u64 b] W fun e W' => e = .returned (.int .u64 ((gf b : Nat) : Int)) ∧ ∃ q, W' = W.drewN q) :
    Calls Tryd.prog 49 #[.int .i64 V, .slice A n c, .func (.func 51) #[.int .u64 fu] #[]] w fun e w' =>
      ∃ v, e = .returned (.agg #[.int .i64 V, v]) ∧ w'.ownsRow w.heap.size 60 1 v n (nums .u64 (il (sortedL (bs.map gf)))) ∧ Below w.heap.size w w' := by
  have hu := Tryd.underlying31
  obtain ⟨i0, hi0, hz0, hz1, hz2⟩ := info_parts infoU
  obtain ⟨hn1, _⟩ := id hB
  subst hn1
  have HF := hid hf
  clear hf
  go_enter Tryd.func49, Tryd.ntmps49
  go_wp2
  obtain ⟨w0, hw0⟩ : ∃ w0, ((w.alloc (.cells #[.int .i64 0, .slice none 0 0] 31)).alloc (.cells #[.int .i64 V, .slice none 0 0] 31)) = w0 := ⟨_, rfl⟩
  have hX0 : Blk w0 w.heap.size 31 #[.int .i64 0, .slice none 0 0] := by rw [← hw0]; exact (Blk.new _ _ _).alloc _
  have hY0 : Blk w0 (w.heap.size + 1) 31 #[.int .i64 V, .slice none 0 0] := by
    rw [← hw0]
    have := Blk.new (w.alloc (.cells #[.int .i64 0, .slice none 0 0] 31)) 31 #[.int .i64 V, .slice none 0 0]
    simpa using this
  have hb0 : Below w.heap.size w w0 := by rw [← hw0]; exact below_alloc (below_alloc (Below.refl _ _) _) _
  rw [hw0]
  clear hw0
  go_loopw [14] (fun i wr => Below w.heap.size w wr ∧ ∃ (k : Nat) (v : Value), k ≤ bs.length ∧ i = .int .i64 k ∧ wr.ownsRow w.heap.size 60 1 v k (nums .u64 (il ((bs.take k).map gf))) ∧
    Blk wr w.heap.size 31 #[.int .i64 0, .slice none 0 0] ∧ Blk wr (w.heap.size + 1) 31 #[.int .i64 V, v]) (fun i _ => bs.length - (intOf i).toNat)
  case atStart => exact ⟨hb0, 0, .slice none 0 0, by omega, rfl, ⟨by simp [nums, il], .inl ⟨rfl, by simp [nums, il]⟩⟩, hX0, hY0⟩
  case round =>
    obtain ⟨hb, k, v, hk, rfl, ho, hX, hY⟩ := hrel
    clear hX0 hY0 hb0
    by_cases hlt : k < bs.length
    · obtain ⟨ad, b, e, hc, hb64, HT⟩ := (hB.below hb).at_ hlt
      cases e
      have HM := hid HT.out.2.2
      have hx1 : wr.cell? ⟨w.heap.size + 1, 1, none⟩ = some v := (hY.cell 1).trans rfl
      have HO := hid ho
      have HX := hid hX
      have HY := hid hY
      clear ho hX hY
      go_wp2
      go_region_law (first
        | (go_simp; go_at_call 51; refine (HF.out b HM.out _ (below_drew hb)).mono ?_; rintro e W' ⟨rfl, q, hq⟩
           have HO1 : Hid (W'.ownsRow w.heap.size 60 1 v k (nums .u64 (il ((bs.take k).map gf)))) := by rw [hq]; exact HO.out
           have HX1 : Hid (Blk W' w.heap.size 31 #[.int .i64 0, .slice none 0 0]) := by rw [hq]; exact HX.out
           have HY1 : Hid (Blk W' (w.heap.size + 1) 31 #[.int .i64 V, v]) := by rw [hq]; exact HY.out
           have hb1 : Below w.heap.size w W' := by rw [hq]; exact pw_below_drewN (below_drew hb) _
           have hx2 : W'.cell? ⟨w.heap.size + 1, 1, none⟩ = some v := (HY1.out.cell 1).trans rfl
           have hx2a : (W'.alloc (.cells #[.int .u64 ((gf b : Nat) : Int)] 60)).cell? ⟨w.heap.size + 1, 1, none⟩ = some v := ((HY1.out.alloc _).cell 1).trans rfl
           clear hq)
        | (refine step_append_any _ rfl (.tmp 19) (.tmp 23) _ rfl w.heap.size 60 i0 _ 1 8 Tryd.underlying29 hi0 hz0 hz1 hz2 rfl (by decide) v k (nums .u64 (il ((bs.take k).map gf))) (by simp [Act.eval])
             (HO1.out.alloc _) (W'.heap.size + 1) (some ⟨_, 0, none⟩) 1 1 [.int .u64 ((gf b : Nat) : Int)] (by first | (simp [Act.eval]; done) | (simp [Act.eval]; rfl))
             (reads_one (heap_new rfl) (by omega)) (by simp [Value.oneCell']) (by simp only [maxLen] <;> omega) (by omega) (by have := hb1.size; simp <;> omega) ?_
           intro v1 w1 hown1 hg1 hat1
           obtain ⟨A1, c1, rfl⟩ := own_slice hown1
           have HX2 : Hid (Blk w1 w.heap.size 31 #[.int .i64 0, .slice none 0 0]) := (HX1.out.alloc _).grown hg1 (own_blk_ne HO1.out HX1.out (by decide)).symm
           have HY2 : Hid (Blk w1 (w.heap.size + 1) 31 #[.int .i64 V, v]) := (HY1.out.alloc _).grown hg1 (own_blk_ne HO1.out HY1.out (by decide)).symm
           have hf2 : w1.frozen? ⟨w.heap.size + 1, 1, none⟩ = false := HY2.out.frozen 1
           have hx3 : w1.cell? ⟨w.heap.size + 1, 1, none⟩ = some v := (HY2.out.cell 1).trans rfl
           have HO2 := hid hown1
           have hb2 : Below w.heap.size w w1 := below_grown_own (below_alloc hb1 _) (by have := hb1.size; simp <;> omega) hg1 (own_base (HO1.out.alloc (.cells #[.int .u64 ((gf b : Nat) : Int)] 60)))
           clear hown1 hg1))
      all_goals
        go_wp2
        go_round
        case rel =>
          have hs := HY2.out.set_ 1 (.slice A1 (k + 1) c1)
          have hlast : (bs.take (k + 1)).map gf = (bs.take k).map gf ++ [gf b] := by rw [HT.out.1]; simp
          refine ⟨hb2.setCell (show w.heap.size ≤ w.heap.size + 1 by omega) _, k + 1, .slice A1 (k + 1) c1, by omega, by go_num, ?_, HX2.out.far (show w.heap.size ≠ w.heap.size + 1 by omega) _, by simpa using hs⟩
          rw [hlast]
          have h2 := ownsRow_setCell_other HO2.out (a := ⟨w.heap.size + 1, 1, none⟩) (own_blk_ne HO2.out HY2.out (by decide)) (.slice A1 (k + 1) c1)
          have e3 : nums .u64 (il ((bs.take k).map gf ++ [gf b])) = nums .u64 (il ((bs.take k).map gf)) ++ [.int .u64 ((gf b : Nat) : Int)] := by simp [nums, il]
          rw [e3]; exact h2
        case measure => simp [intOf]; omega
    · have e : (bs.take k).map gf = bs.map gf := by rw [List.take_of_length_le (by omega)]
      have hkn : k = bs.length := by omega
      rw [e] at ho
      clear e
      subst hkn
      obtain ⟨A1, c1, rfl⟩ := own_slice ho
      have hx1 : wr.cell? ⟨w.heap.size + 1, 1, none⟩ = some (.slice A1 bs.length c1) := (hY.cell 1).trans rfl
      have HS0 := sort_any w.heap.size (.slice A1 bs.length c1) (bs.map gf) wr (by rw [List.length_map]; exact ho) (by simpa using hn)
      rw [List.length_map] at HS0
      have HS := hid HS0
      clear HS0
      have HO := hid ho
      have HX := hid hX
      have HY := hid hY
      clear ho hX hY
      go_wp2_with (
        go_at_call 65
        refine HS.out.mono ?_
        rintro e W' ⟨rfl, ho2, hg2⟩
        have HO2 := hid ho2
        have HX2 : Hid (Blk W' w.heap.size 31 #[.int .i64 0, .slice none 0 0]) := HX.out.grown hg2 (own_blk_ne HO.out HX.out (by decide)).symm
        have HY2 : Hid (Blk W' (w.heap.size + 1) 31 #[.int .i64 V, .slice A1 bs.length c1]) := HY.out.grown hg2 (own_blk_ne HO.out HY.out (by decide)).symm
        have hb2 : Below w.heap.size w W' := below_grown_own hb hb.size hg2 (own_base HO.out)
        have y0 : W'.cell? ⟨w.heap.size + 1, 0, none⟩ = some (.int .i64 V) := (HY2.out.cell 0).trans rfl
        have y1 : W'.cell? ⟨w.heap.size + 1, 1, none⟩ = some (.slice A1 bs.length c1) := (HY2.out.cell 1).trans rfl
        have x0 : W'.cell? ⟨w.heap.size, 0, none⟩ = some (.int .i64 0) := (HX2.out.cell 0).trans rfl
        have x1 : W'.cell? ⟨w.heap.size, 1, none⟩ = some (.slice none 0 0) := (HX2.out.cell 1).trans rfl
        have f0 : W'.frozen? ⟨w.heap.size, 0, none⟩ = false := HX2.out.frozen 0
        have f1 : W'.frozen? ⟨w.heap.size, 1, none⟩ = false := HX2.out.frozen 1
        clear ho2 hg2)
      have h3 := ownsRow_setCell_other (ownsRow_setCell_other HO2.out (a := ⟨w.heap.size, 0, none⟩) (own_blk_ne HO2.out HX2.out (by decide)) (.int .i64 V)) (a := ⟨w.heap.size, 1, none⟩) (own_blk_ne HO2.out HX2.out (by decide)) (.slice A1 bs.length c1)
      have hZ := (HX2.out.set_ 0 (.int .i64 V)).set_ 1 (.slice A1 bs.length c1)
      have z0 : ((W'.setCell ⟨w.heap.size, 0, none⟩ (.int .i64 V)).setCell ⟨w.heap.size, 1, none⟩ (.slice A1 bs.length c1)).cell? ⟨w.heap.size, 0, none⟩ = some (.int .i64 V) := (hZ.cell 0).trans rfl
      have z1 : ((W'.setCell ⟨w.heap.size, 0, none⟩ (.int .i64 V)).setCell ⟨w.heap.size, 1, none⟩ (.slice A1 bs.length c1)).cell? ⟨w.heap.size, 1, none⟩ = some (.slice A1 bs.length c1) := (hZ.cell 1).trans rfl
      have hb3 : Below w.heap.size w ((W'.setCell ⟨w.heap.size, 0, none⟩ (.int .i64 V)).setCell ⟨w.heap.size, 1, none⟩ (.slice A1 bs.length c1)) := (hb2.setCell (Nat.le_refl _) _).setCell (Nat.le_refl _) _
      refine bodyPost_ret (v := .agg #[.int .i64 V, .slice A1 bs.length c1]) (by simp [results, Tryd.results49, go_sem, z0, z1]) rfl ⟨_, rfl, ?_, ?_⟩
      · exact h3
      · exact hb3
end Go.Proofs.YtoiahjncpngkeaaDoor


namespace Go.Proofs.YtoiahjncpngkeaaDoor
set_option linter.unusedSimpArgs false
set_option linter.unusedVariables false
open Go.RowKit Go.Lib Go.Proofs.YtoiahjncpngkeaaDoorW.PrintWords
attribute [local go_sem] Oper.semAt_some

theorem fullU {V : Nat} (h : V < 64) : IntKind.u64.wrap (IntKind.u64.wrap (2 ^ V) - 1) = ((2 ^ V - 1 : Nat) : Int) := by
  have h1 : 1 ≤ 2 ^ V := Nat.one_le_two_pow
  have h2 : 2 ^ V < 2 ^ 64 := Nat.pow_lt_pow_right (by decide) h
  rw [show ((2 : Int) ^ V) = ((2 ^ V : Nat) : Int) from by simp, wrapU_nat h2, show (((2 ^ V : Nat) : Int) - 1) = ((2 ^ V - 1 : Nat) : Int) from by omega]
  exact wrapU_nat (by omega)
set_option maxHeartbeats 400000 in
theorem full_any (V : Nat) (hV : V < 64) (w : World) : Calls Tryd.prog 50 #[.int .i64 V] w fun e w' => e = .returned (.int .u64 ((2 ^ V - 1 : Nat) : Int)) ∧ w' = w := by
  go_enter Tryd.func50, Tryd.ntmps50
  go_wp2
  go_ret
  exact ⟨by rw [← fullU hV]; rfl, rfl⟩
/-- The points that are not in a block. -/
def cm (V b : Nat) : Nat := 2 ^ V - (b + 1)
theorem cm_form {V b : Nat} (hV : V < 64) (hb : b < 2 ^ V) : bits .andNot .u64 ((2 ^ V - 1 : Nat) : Int) (b : Int) = ((cm V b : Nat) : Int) := by
  have h2 : 2 ^ V < 2 ^ 64 := Nat.pow_lt_pow_right (by decide) hV
  rw [u64_andNot_nat _ _ (by omega) (by omega)]
  congr 1
  apply Nat.eq_of_testBit_eq
  intro i
  rw [Nat.testBit_and, Nat.testBit_two_pow_sub_one, show 18446744073709551615 - b = 2 ^ 64 - (b + 1) from by omega, Nat.testBit_two_pow_sub_succ (by omega), cm, Nat.testBit_two_pow_sub_succ hb]
  by_cases hi : i < V
  · simp [hi, show i < 64 by omega]
  · simp [hi]
theorem cm_lt {V b : Nat} : cm V b < 2 ^ V := by unfold cm; have := Nat.one_le_two_pow (n := V); omega
set_option maxHeartbeats 400000 in
theorem without_any (V b : Nat) (hV : V < 64) (hb : b < 2 ^ V) (w : World) : Calls Tryd.prog 51 #[.int .u64 ((2 ^ V - 1 : Nat) : Int), .int .u64 b] w fun e w' => e = .returned (.int .u64 ((cm V b : Nat) : Int)) ∧ w' = w := by
  have HC := hid (cm_form hV hb)
  generalize ((2 ^ V - 1 : Nat) : Int) = fu at *
  go_enter Tryd.func51, Tryd.ntmps51
  go_wp2
  go_ret
  exact ⟨by rw [← HC.out]; rfl, rfl⟩
/-- A struct of a number and a row that a call made, stored into a result's cell. -/
theorem struct_end {w w' : World} {x : Obj} {V : Int} {A1 : Option Addr} {n c1 : Nat} {xs : List Value} (ho : w'.ownsRow (((w.alloc x).alloc (.cells #[.int .i64 0, .slice none 0 0] 31)).drew).heap.size 60 1 (.slice A1 n c1) n xs)
    (hb2 : Below (((w.alloc x).alloc (.cells #[.int .i64 0, .slice none 0 0] 31)).drew).heap.size (((w.alloc x).alloc (.cells #[.int .i64 0, .slice none 0 0] 31)).drew) w') :
    ((w'.setCell ⟨w.heap.size + 1, 0, none⟩ (.int .i64 V)).setCell ⟨w.heap.size + 1, 1, none⟩ (.slice A1 n c1)).cell? ⟨w.heap.size + 1, 0, none⟩ = some (.int .i64 V) ∧
    ((w'.setCell ⟨w.heap.size + 1, 0, none⟩ (.int .i64 V)).setCell ⟨w.heap.size + 1, 1, none⟩ (.slice A1 n c1)).cell? ⟨w.heap.size + 1, 1, none⟩ = some (.slice A1 n c1) ∧
    ((w'.setCell ⟨w.heap.size + 1, 0, none⟩ (.int .i64 V)).setCell ⟨w.heap.size + 1, 1, none⟩ (.slice A1 n c1)).ownsRow w.heap.size 60 1 (.slice A1 n c1) n xs ∧
    Below w.heap.size w ((w'.setCell ⟨w.heap.size + 1, 0, none⟩ (.int .i64 V)).setCell ⟨w.heap.size + 1, 1, none⟩ (.slice A1 n c1)) := by
  have hs : (((w.alloc x).alloc (.cells #[.int .i64 0, .slice none 0 0] 31)).drew).heap.size = w.heap.size + 2 := by simp
  have hX : Blk w' (w.heap.size + 1) 31 #[.int .i64 0, .slice none 0 0] := by
    have h0 := Blk.new (w.alloc x) 31 #[.int .i64 0, .slice none 0 0]
    rw [show (w.alloc x).heap.size = w.heap.size + 1 from by simp] at h0
    exact Blk.below (w := ((w.alloc x).alloc (.cells #[.int .i64 0, .slice none 0 0] 31)).drew) h0 hb2 (by rw [hs]; omega)
  have hZ := (hX.set_ 0 (.int .i64 V)).set_ 1 (.slice A1 n c1)
  have hb : Below w.heap.size w w' := below_then (below_drew (below_alloc (below_alloc (Below.refl _ _) _) _)) (by simp; omega) hb2
  refine ⟨(hZ.cell 0).trans rfl, (hZ.cell 1).trans rfl, ?_, (hb.setCell (by show w.heap.size ≤ w.heap.size + 1; omega) _).setCell (by show w.heap.size ≤ w.heap.size + 1; omega) _⟩
  rw [hs] at ho
  exact own_weaken (ownsRow_setCell_below (ownsRow_setCell_below ho (a := ⟨w.heap.size + 1, 0, none⟩) (by show w.heap.size + 1 < _; omega) _) (a := ⟨w.heap.size + 1, 1, none⟩) (by show w.heap.size + 1 < _; omega) _) (by omega)
set_option maxHeartbeats 2000000 in
set_option maxRecDepth 100000 in
theorem complement_any (V : Nat) (hV : V < 64) (A : Option Addr) (n c : Nat) (bs : List Nat) (w : World) (hB : BlC w A n bs) (hn : n ≤ 12) (hb : ∀ b ∈ bs, b < 2 ^ V) :
    Calls Tryd.prog 26 #[.agg #[.int .i64 V, .slice A n c]] w fun e w' =>
      ∃ v, e = .returned (.agg #[.int .i64 V, v]) ∧ w'.ownsRow w.heap.size 60 1 v n (nums .u64 (il (sortedL (bs.map (cm V))))) ∧ Below w.heap.size w w' := by
  have hu := Tryd.underlying31
  have h2 : 2 ^ V < 2 ^ 64 := Nat.pow_lt_pow_right (by decide) hV
  have HM := hid (fun W (hW : Below w.heap.size w W) => made_co V A n c bs (cm V) (2 ^ V - 1) W (hB.below hW) hn (fun b hm W' _ => (without_any V b hV (hb b hm) W').mono fun e w' ⟨h1, h2⟩ => ⟨h1, 0, h2⟩))
  clear h2
  go_enter Tryd.func26, Tryd.ntmps26
  go_wp2
  go_region_with (first
    | (go_at_call 50; refine (full_any V hV _).mono ?_; rintro e w' ⟨rfl, rfl⟩)
    | (go_at_call 49; refine (HM.out _ (below_drew (below_alloc (below_alloc (Below.refl _ _) _) _))).mono ?_; rintro e w' ⟨v, rfl, ho, hb2⟩
       obtain ⟨A1, c1, rfl⟩ := own_slice ho
       have EN := hid (struct_end (V := (V : Int)) ho hb2)
       clear ho
       have hz : w.heap.size + 1 < w'.heap.size := by have := hb2.size; simp at this; omega
       obtain ⟨hc2, hf2⟩ := bcell hb2))
  all_goals
    obtain ⟨z0, z1, h3, hb3⟩ := EN.out
    clear hc2 hf2
    go_wp2
    exact bodyPost_ret (v := .agg #[.int .i64 V, .slice A1 n c1]) (by simp [results, Tryd.results26, go_sem, z0, z1]) rfl ⟨_, rfl, h3, hb3⟩
end Go.Proofs.YtoiahjncpngkeaaDoor
