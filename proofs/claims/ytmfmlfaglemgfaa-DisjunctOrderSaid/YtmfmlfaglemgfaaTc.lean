/- The least bit of a number: plain lemmas; no condition. -/
import Derived.Test.YtmfmlfaglemgfaaR6
namespace Go.Proofs.Ytmfmlfaglemgfaa
set_option linter.unusedSimpArgs false
set_option linter.unusedVariables false
open Go.RowKit Go.Lib Go.Proofs.YtmfmlfaglemgfaaW.PrintWords

/-- The place of the least bit. -/
def ctz : Nat → Nat → Nat
  | 0, _ => 0
  | k + 1, x => if x % 2 = 1 then 0 else ctz k (x / 2) + 1
theorem ctz_form : ∀ (k x : Nat), 0 < x → x < 2 ^ k → ctz k x < k ∧ ∃ m, x = 2 ^ ctz k x * (2 * m + 1)
  | 0, x, h0, h => by simp at h; omega
  | k + 1, x, h0, h => by
    unfold ctz
    by_cases h1 : x % 2 = 1
    · rw [if_pos h1]
      exact ⟨by omega, x / 2, by omega⟩
    · rw [if_neg h1]
      obtain ⟨h2, m, hm⟩ := ctz_form k (x / 2) (by omega) (by rw [Nat.pow_succ] at h; omega)
      refine ⟨by omega, m, ?_⟩
      rw [Nat.pow_succ]
      have e1 : x = 2 * (x / 2) := by omega
      have e2 : 2 * (x / 2) = 2 ^ ctz k (x / 2) * 2 * (2 * m + 1) := by
        conv => lhs; rw [hm]
        rw [← Nat.mul_assoc, Nat.mul_comm 2 (2 ^ _)]
      exact e1.trans e2
theorem low_bit {x : Nat} (h0 : 0 < x) (hx : x < 2 ^ 64) : x &&& (2 ^ 64 - x) = 2 ^ ctz 64 x := by
  obtain ⟨hl, m, hm⟩ := ctz_form 64 x h0 hx
  generalize ctz 64 x = j at hl hm
  have hp := Nat.two_pow_pos j
  have hy : x - 1 = 2 ^ j * (2 * m) + (2 ^ j - 1) := by
    have h1 : x = 2 ^ j * (2 * m) + 2 ^ j := by rw [Nat.mul_add, Nat.mul_one] at hm; exact hm
    clear hm
    generalize 2 ^ j * (2 * m) = A at h1 ⊢
    generalize 2 ^ j = P at h1 hp ⊢
    omega
  apply Nat.eq_of_testBit_eq
  intro i
  rw [Nat.testBit_and, show 2 ^ 64 - x = 2 ^ 64 - ((x - 1) + 1) from by omega, Nat.testBit_two_pow_sub_succ (by omega), hy, Nat.testBit_two_pow_mul_add _ (by omega), Nat.testBit_two_pow]
  rw [show x = 2 ^ j * (2 * m + 1) + 0 from hm, Nat.testBit_two_pow_mul_add _ hp]
  by_cases hi : i < j
  · simp [hi]
    omega
  · rw [if_neg hi, if_neg hi]
    by_cases e : i = j
    · subst e; simp [hl]
    · obtain ⟨k, hk⟩ : ∃ k, i - j = k + 1 := ⟨i - j - 1, by omega⟩
      rw [hk, Nat.testBit_succ, Nat.testBit_succ, show (2 * m + 1) / 2 = m from by omega, show 2 * m / 2 = m from by omega]
      have : ¬ j = i := fun h => e h.symm
      simp [this]
      intro h _
      exact h
end Go.Proofs.Ytmfmlfaglemgfaa
