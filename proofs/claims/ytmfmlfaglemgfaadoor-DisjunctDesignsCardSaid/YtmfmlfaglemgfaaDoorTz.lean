/- The least bit of a number: plain lemmas; no condition. -/
/- math/bits.TrailingZeros64, walked, where its table lies as the program's text lays it. -/
import Derived.Test.YtmfmlfaglemgfaaDoorR6
import Derived.KernelRfl
namespace Go.Proofs.YtmfmlfaglemgfaaDoor
set_option linter.unusedSimpArgs false
set_option linter.unusedVariables false
open Go.RowKit Go.Lib Go.Proofs.YtmfmlfaglemgfaaDoorW.PrintWords

/-- The place of the least bit. -/
def ctz : Nat → Nat → Nat
  | 0, _ => 0
  | k + 1, x => if x % 2 = 1 then 0 else ctz k (x / 2) + 1
theorem ctz_form : ∀ (k x : Nat), 0 < x → x < 2 ^ k → ctz k x < k ∧ ∃ m, x = 2 ^ ctz k x * (2 * m + 1)
  | 0, x, h0, h => by simp at h; omega
  | k + 1, x, h0, h => by
    unfold ctz
    by_cases h1 : x % 2 = 1
    · rw [if_pos h1]
      exact ⟨by omega, x / 2, by omega⟩
    · rw [if_neg h1]
      obtain ⟨h2, m, hm⟩ := ctz_form k (x / 2) (by omega) (by rw [Nat.pow_succ] at h; omega)
      refine ⟨by omega, m, ?_⟩
      rw [Nat.pow_succ]
      have e1 : x = 2 * (x / 2) := by omega
      have e2 : 2 * (x / 2) = 2 ^ ctz k (x / 2) * 2 * (2 * m + 1) := by
        conv => lhs; rw [hm]
        rw [← Nat.mul_assoc, Nat.mul_comm 2 (2 ^ _)]
      exact e1.trans e2
theorem low_bit {x : Nat} (h0 : 0 < x) (hx : x < 2 ^ 64) : x &&& (2 ^ 64 - x) = 2 ^ ctz 64 x := by
  obtain ⟨hl, m, hm⟩ := ctz_form 64 x h0 hx
  generalize ctz 64 x = j at hl hm
  have hp := Nat.two_pow_pos j
  have hy : x - 1 = 2 ^ j * (2 * m) + (2 ^ j - 1) := by
    have h1 : x = 2 ^ j * (2 * m) + 2 ^ j := by rw [Nat.mul_add, Nat.mul_one] at hm; exact hm
    clear hm
    generalize 2 ^ j * (2 * m) = A at h1 ⊢
    generalize 2 ^ j = P at h1 hp ⊢
    omega
  apply Nat.eq_of_testBit_eq
  intro i
  rw [Nat.testBit_and, show 2 ^ 64 - x = 2 ^ 64 - ((x - 1) + 1) from by omega, Nat.testBit_two_pow_sub_succ (by omega), hy, Nat.testBit_two_pow_mul_add _ (by omega), Nat.testBit_two_pow]
  rw [show x = 2 ^ j * (2 * m + 1) + 0 from hm, Nat.testBit_two_pow_mul_add _ hp]
  by_cases hi : i < j
  · simp [hi]
    omega
  · rw [if_neg hi, if_neg hi]
    by_cases e : i = j
    · subst e; simp [hl]
    · obtain ⟨k, hk⟩ : ∃ k, i - j = k + 1 := ⟨i - j - 1, by omega⟩
      rw [hk, Nat.testBit_succ, Nat.testBit_succ, show (2 * m + 1) / 2 = m from by omega, show 2 * m / 2 = m from by omega]
      have : ¬ j = i := fun h => e h.symm
      simp [this]
      intro h _
      exact h
end Go.Proofs.YtmfmlfaglemgfaaDoor


namespace Go.Proofs.YtmfmlfaglemgfaaDoor
set_option linter.unusedSimpArgs false
set_option linter.unusedVariables false
open Go.RowKit Go.Lib Go.Proofs.YtmfmlfaglemgfaaDoorW.PrintWords

/-- The library's table. -/
def dbTab : List Nat := [0, 1, 56, 2, 57, 49, 28, 3, 61, 58, 42, 50, 38, 29, 17, 4, 62, 47, 59, 36, 45, 43, 51, 22, 53, 39, 33, 30, 24, 18, 12, 5, 63, 55, 48, 27, 60, 41, 37, 16, 46, 35, 44, 21, 52, 32, 23, 11, 54, 26, 40, 15, 34, 20, 31, 10, 25, 14, 19, 9, 13, 8, 7, 6]
theorem db_at : ∀ j < 64, 2 ^ j * 285870213051353865 % 18446744073709551616 / 288230376151711744 < 64 ∧ dbTab.getD (2 ^ j * 285870213051353865 % 18446744073709551616 / 288230376151711744) 0 = j := by decide +kernel
/-- The library's table lies in memory. -/
def TabOk (w : World) : Prop := ∀ i, i < 64 → w.cell? ⟨0, i, none⟩ = some (.int .u8 ((dbTab.getD i 0 : Nat) : Int))
theorem TabOk.below {w w1 : World} (h : TabOk w) (hb : Below w.heap.size w w1) : TabOk w1 := fun i hi =>
  (hb.cell (p := ⟨0, i, none⟩) (World.block_lt_of_cell? w ⟨0, i, none⟩ (h i hi))).trans (h i hi)
theorem wrapU_mod' (a : Nat) : IntKind.u64.wrap (a : Int) = ((a % 18446744073709551616 : Nat) : Int) := by
  simp [IntKind.wrap, IntKind.bits, IntKind.signed]
theorem tz_form {x : Nat} (h0 : 0 < x) (hx : x < 2 ^ 64) :
    (IntKind.u64.wrap (bits BinOp.and IntKind.u64 (x : Int) (IntKind.u64.wrap (-(x : Int))) * 285870213051353865) / 288230376151711744) = ((2 ^ ctz 64 x * 285870213051353865 % 18446744073709551616 / 288230376151711744 : Nat) : Int) := by
  have h1 : IntKind.u64.wrap (-(x : Int)) = ((2 ^ 64 - x : Nat) : Int) := by
    simp [IntKind.wrap, IntKind.bits, IntKind.signed]; omega
  rw [h1, uand hx (by omega), low_bit h0 hx, show ((2 ^ ctz 64 x : Nat) : Int) * 285870213051353865 = ((2 ^ ctz 64 x * 285870213051353865 : Nat) : Int) from by simp, wrapU_mod']
  simp
set_option maxHeartbeats 1000000 in
set_option maxRecDepth 100000 in
theorem tz_any (x : Nat) (hx : x < 2 ^ 64) (h0 : 0 < x) (w : World) (hT : TabOk w) :
    Calls Tryd.prog 34 #[.int .u64 x] w fun e w' => e = .returned (.int .i64 (ctz 64 x)) ∧ w' = w := by
  obtain ⟨hj, _⟩ := ctz_form 64 x h0 hx
  obtain ⟨hi, hv⟩ := db_at _ hj
  obtain ⟨q, hq⟩ : ∃ q, (2 ^ ctz 64 x * 285870213051353865 % 18446744073709551616 / 288230376151711744 : Nat) = q := ⟨_, rfl⟩
  have HF := tz_form h0 hx
  rw [hq] at hi hv HF
  have hc := hT q hi
  rw [hv] at hc
  clear hv hT
  have H0 := hid h0
  have hz : ((x : Int) == 0) = false := by simp; omega
  have h00 : 0 ≤ (q : Int) := by omega
  have h01 : (q : Int) < 64 := by omega
  have h63 : ctz 64 x < 256 := by omega
  clear hq hj
  go_enter Tryd.func34, Tryd.ntmps34
  go_wp2
  go_ret
  exact ⟨ret_i64 (by first | rfl | exact wrap64_nat (by omega)), rfl⟩
end Go.Proofs.YtmfmlfaglemgfaaDoor
