/- disjunct.Positive, has and all, walked. -/
import Derived.Test.YtmfmlfaglemgfaaDoorOd
namespace Go.Proofs.YtmfmlfaglemgfaaDoor
set_option linter.unusedSimpArgs false
set_option linter.unusedVariables false
open Go.RowKit Go.Lib Go.Proofs.YtmfmlfaglemgfaaDoorW.PrintWords
attribute [local go_sem] Oper.semAt_some

theorem fullU {V : Nat} (h : V < 64) : IntKind.u64.wrap (IntKind.u64.wrap (2 ^ V) - 1) = ((2 ^ V - 1 : Nat) : Int) := by
  have h1 : 1 ≤ 2 ^ V := Nat.one_le_two_pow
  have h2 : 2 ^ V < 2 ^ 64 := Nat.pow_lt_pow_right (by decide) h
  rw [show ((2 : Int) ^ V) = ((2 ^ V : Nat) : Int) from by simp, wrapU_nat h2, show (((2 ^ V : Nat) : Int) - 1) = ((2 ^ V - 1 : Nat) : Int) from by omega]
  exact wrapU_nat (by omega)
set_option maxHeartbeats 400000 in
theorem all_any (V : Nat) (hV : V < 64) (w : World) : Calls Tryd.prog 24 #[.int .i64 V] w fun e w' => e = .returned (.int .u64 ((2 ^ V - 1 : Nat) : Int)) ∧ w' = w := by
  go_enter Tryd.func24, Tryd.ntmps24
  go_wp2
  go_ret
  exact ⟨by rw [← fullU hV]; rfl, rfl⟩
/-- Which of the first k tests have an item of a set. -/
def posN (bs : List Nat) (s : Nat) : Nat → Nat
  | 0 => 0
  | k + 1 => posN bs s k ||| if bs.getD k 0 &&& s = 0 then 0 else 2 ^ k
theorem posN_lt (bs : List Nat) (s : Nat) : ∀ k, posN bs s k < 2 ^ k := by
  intro k
  induction k with
  | zero => simp [posN]
  | succ k ih =>
    have h1 : posN bs s k < 2 ^ (k + 1) := Nat.lt_of_lt_of_le ih (Nat.pow_le_pow_right (by decide) (by omega))
    rw [posN]
    split
    · exact Nat.or_lt_two_pow h1 (Nat.two_pow_pos _)
    · exact Nat.or_lt_two_pow h1 (Nat.pow_lt_pow_right (by decide) (by omega))
set_option maxHeartbeats 2000000 in
set_option maxRecDepth 100000 in
theorem positive_any (I D E : Int) (A : Option Addr) (n c : Nat) (bs : List Nat) (s : Nat) (hs : s < 2 ^ 64) (w : World) (hB : BlC w A n bs) (hn : n ≤ 60) :
    Calls Tryd.prog 16 #[.agg #[.int .i64 I, .slice A n c, .int .i64 D, .int .i64 E], .int .u64 s] w fun e w' => e = .returned (.int .u64 ((posN bs s bs.length : Nat) : Int)) ∧ Below w.heap.size w w' := by
  have hu := Tryd.underlying30
  obtain ⟨hn1, _⟩ := id hB
  subst hn1
  go_enter Tryd.func16, Tryd.ntmps16
  go_wp2
  have hb1 : Below w.heap.size w (w.alloc (.cells #[.int .i64 I, .slice A bs.length c, .int .i64 D, .int .i64 E] 30)) := below_alloc (Below.refl _ _) _
  go_loopw [5, 11] (fun ov iv wr => Below w.heap.size w wr ∧ ∃ k : Nat, k ≤ bs.length ∧ iv = .int .i64 k ∧ ov = .int .u64 ((posN bs s k : Nat) : Int)) (fun _ iv _ => bs.length - (intOf iv).toNat)
  case atStart => exact ⟨hb1, 0, by omega, rfl, rfl⟩
  case round =>
    obtain ⟨hb, k, hk, rfl, rfl⟩ := hrel
    clear hb1
    by_cases hlt : k < bs.length
    · obtain ⟨ad, b, e, hc, hb64, HT⟩ := (hB.below hb).at_ hlt
      cases e
      have hbg : bs.getD k 0 = b := by rw [List.getD_eq_getElem?_getD, HT.out.2.1]; rfl
      have hpl := posN_lt bs s k
      have hp64 : posN bs s k < 2 ^ 64 := Nat.lt_of_lt_of_le hpl (Nat.pow_le_pow_right (by decide) (by omega))
      have h2k : 2 ^ k < 2 ^ 64 := Nat.pow_lt_pow_right (by decide) (by omega)
      obtain ⟨pk, hpk⟩ : ∃ pk, posN bs s k = pk := ⟨_, rfl⟩
      have e1 : bits .and .u64 (b : Int) (s : Int) = ((b &&& s : Nat) : Int) := uand hb64 hs
      by_cases hz : b &&& s = 0
      · have HN := hid (show posN bs s (k + 1) = pk from by rw [posN, hbg, if_pos hz, hpk]; simp)
        rw [hz] at e1
        rw [hpk]
        clear hbg hpl hp64 h2k hpk hz
        go_wp2
        go_round
        case rel => exact ⟨hb, k + 1, by omega, by go_num, by rw [HN.out]⟩
        case measure => simp [intOf]; omega
      · have HN := hid (show posN bs s (k + 1) = pk ||| 2 ^ k from by rw [posN, hbg, if_neg hz, hpk])
        have e2 : (((b &&& s : Nat) : Int) != 0) = true := by simp; omega
        have e3 : bits .or .u64 (pk : Int) (IntKind.u64.wrap (2 ^ k)) = ((pk ||| 2 ^ k : Nat) : Int) := by
          rw [show ((2 : Int) ^ k) = ((2 ^ k : Nat) : Int) from by simp, wrapU_nat h2k, uor (by omega) h2k]
        obtain ⟨pn, hpn⟩ : ∃ pn, pk ||| 2 ^ k = pn := ⟨_, rfl⟩
        obtain ⟨an, han⟩ : ∃ an, b &&& s = an := ⟨_, rfl⟩
        rw [han] at e1 e2
        rw [hpn] at e3
        rw [hpn] at HN
        rw [hpk]
        clear hbg hpl hp64 h2k hpk hz hpn han
        go_wp2
        go_round
        case rel => exact ⟨hb, k + 1, by omega, by go_num, by rw [HN.out]⟩
        case measure => simp [intOf]; omega
    · have : k = bs.length := by omega
      subst this
      go_wp2
      go_ret
      exact ⟨rfl, hb⟩
set_option maxHeartbeats 2000000 in
set_option maxRecDepth 100000 in
theorem has_any (I D E : Int) (A : Option Addr) (n c : Nat) (bs : List Nat) (i : Nat) (hi : i < 60) (w : World) (hB : BlC w A n bs) (hn : n ≤ 60) :
    Calls Tryd.prog 26 #[.agg #[.int .i64 I, .slice A n c, .int .i64 D, .int .i64 E], .int .i64 i] w fun e w' => e = .returned (.int .u64 ((posN bs (2 ^ i) bs.length : Nat) : Int)) ∧ Below w.heap.size w w' := by
  have hu := Tryd.underlying30
  have h2k : 2 ^ i < 2 ^ 64 := Nat.pow_lt_pow_right (by decide) (by omega)
  have e1 : IntKind.u64.wrap (2 ^ i) = ((2 ^ i : Nat) : Int) := by rw [show ((2 : Int) ^ i) = ((2 ^ i : Nat) : Int) from by simp, wrapU_nat h2k]
  obtain ⟨p2, hp2⟩ : ∃ p2, 2 ^ i = p2 := ⟨_, rfl⟩
  rw [hp2] at e1 h2k ⊢
  have PA := hid (fun W (hW : Below w.heap.size w W) => positive_any I D E A n c bs p2 h2k W (hB.below hW) hn)
  clear hB hp2
  go_enter Tryd.func26, Tryd.ntmps26
  go_wp2
  go_region_with (go_at_call 16; refine (PA.out _ (by first | exact below_drew (below_alloc (Below.refl _ _) _) | exact below_alloc (Below.refl _ _) _)).mono ?_; rintro e w' ⟨rfl, hb2⟩)
  all_goals
    go_wp2
    go_ret
    exact ⟨rfl, below_then (below_drew (below_alloc (Below.refl _ _) _)) (by simp) hb2⟩
end Go.Proofs.YtmfmlfaglemgfaaDoor
