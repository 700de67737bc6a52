/- Sorted lists: plain lemmas; no condition. -/
import Derived.Test.YtheclfjbedajfaaR6
namespace Go.Proofs.Ytheclfjbedajfaa
set_option linter.unusedSimpArgs false
set_option linter.unusedVariables false
open Go.RowKit Go.Lib Go.Proofs.YtheclfjbedajfaaW.PrintWords

-- sorted lists
theorem withL_sorted {b : Nat} : ∀ {bs : List Nat}, bs.Pairwise (· ≤ ·) → (withL bs b).Pairwise (· ≤ ·)
  | [], _ => by simp [withL, wat]
  | x :: r, h => by
    obtain ⟨h1, h2⟩ := List.pairwise_cons.1 h
    by_cases hx : x ≤ b
    · have e : withL (x :: r) b = x :: withL r b := by
        unfold withL wat
        rw [List.takeWhile_cons, if_pos (by simpa using hx)]
        simp
      rw [e]
      refine List.pairwise_cons.2 ⟨fun y hy => ?_, withL_sorted h2⟩
      rcases withL_mem.1 hy with rfl | hy
      · exact hx
      · exact h1 y hy
    · have e : withL (x :: r) b = b :: x :: r := by
        unfold withL wat
        rw [List.takeWhile_cons, if_neg (by simpa using hx)]
        simp
      rw [e]
      refine List.pairwise_cons.2 ⟨fun y hy => ?_, h⟩
      rcases List.mem_cons.1 hy with rfl | hy
      · omega
      · have := h1 y hy; omega
theorem sortedL_sorted (l : List Nat) : (sortedL l).Pairwise (· ≤ ·) := by
  have : ∀ (l acc : List Nat), acc.Pairwise (· ≤ ·) → (l.foldl withL acc).Pairwise (· ≤ ·) := by
    intro l
    induction l with
    | nil => intro acc h; exact h
    | cons x r ih => intro acc h; exact ih _ (withL_sorted h)
  exact this l [] List.Pairwise.nil
-- a number that goes down through a sorted list
def insIn (S : List Nat) (x j : Nat) : List Nat := S.take j ++ x :: S.drop j
theorem insIn_at {S R : List Nat} {x j : Nat} (h : j ≤ S.length) : (insIn S x j ++ R).getD j 0 = x := by
  simp [insIn, List.getD_eq_getElem?_getD, List.append_assoc, List.getElem?_append_right, h]
theorem insIn_parts {S : List Nat} {x p : Nat} (h : p < S.length) : insIn S x (p + 1) = S.take p ++ S.getD p 0 :: x :: S.drop (p + 1) ∧ insIn S x p = S.take p ++ x :: S.getD p 0 :: S.drop (p + 1) := by
  have e : S.getD p 0 = S[p] := by simp [List.getD_eq_getElem?_getD, h]
  unfold insIn
  rw [e]
  constructor
  · rw [List.take_succ_eq_append_getElem h, List.append_assoc]; rfl
  · rw [List.drop_eq_getElem_cons h]
theorem insIn_prev {S R : List Nat} {x p : Nat} (h : p < S.length) : (insIn S x (p + 1) ++ R).getD p 0 = S.getD p 0 := by
  rw [(insIn_parts h).1]
  have : (S.take p).length = p := by simp; omega
  simp [List.getD_eq_getElem?_getD, List.getElem?_append_right, this]
theorem insIn_swap {S R : List Nat} {x p : Nat} (h : p < S.length) : ((insIn S x (p + 1) ++ R).set (p + 1) (S.getD p 0)).set p x = insIn S x p ++ R := by
  rw [(insIn_parts h).1, (insIn_parts h).2]
  have : (S.take p).length = p := by simp; omega
  rw [List.append_assoc, List.append_assoc, List.set_append_right _ _ (by omega), List.set_append_right _ _ (by omega), this, Nat.sub_self, show p + 1 - p = 1 by omega]
  rfl
theorem insIn_stop {S : List Nat} {x j : Nat} (hs : S.Pairwise (· ≤ ·)) (hj : j ≤ S.length) (hd : ∀ y ∈ S.drop j, x < y) (h : j = 0 ∨ S.getD (j - 1) 0 ≤ x) : insIn S x j = withL S x := by
  have hw : wat S x = j := by
    have ht : ∀ y ∈ S.take j, decide (y ≤ x) = true := by
      intro y hy
      rcases h with rfl | h
      · simp at hy
      · rw [List.mem_iff_getElem] at hy
        obtain ⟨i, hi, rfl⟩ := hy
        have hi' : i < j ∧ i < S.length := by simp at hi; omega
        simp only [List.getElem_take]
        have e : S.getD (j - 1) 0 = S[j - 1]'(by omega) := by simp [List.getD_eq_getElem?_getD, show j - 1 < S.length by omega]
        rw [e] at h
        have := List.pairwise_iff_getElem.1 hs
        rcases Nat.lt_or_ge i (j - 1) with h1 | h1
        · have := this i (j - 1) (by omega) (by omega) h1
          simp; omega
        · have e2 : i = j - 1 := by omega
          subst e2
          simpa using h
    unfold wat
    conv => lhs; rw [← List.take_append_drop j S, List.takeWhile_append_of_pos ht]
    have : List.takeWhile (fun y => decide (y ≤ x)) (S.drop j) = [] := by
      cases hc : S.drop j with
      | nil => rfl
      | cons y r =>
        have := hd y (by rw [hc]; simp)
        rw [List.takeWhile_cons, if_neg (by simp; omega)]
    rw [this]; simp; omega
  unfold insIn withL
  rw [hw]; simp
theorem insIn_end (S : List Nat) (x : Nat) : insIn S x S.length = S ++ [x] := by simp [insIn]
theorem il_set (l : List Nat) (i x : Nat) : (il l).set i (x : Int) = il (l.set i x) := by simp [il, List.map_set]
theorem sorted_start {bs : List Nat} : sortedL (bs.take 1) ++ bs.drop 1 = bs := by
  cases bs with
  | nil => rfl
  | cons x r => simp [sortedL, withL, wat]
end Go.Proofs.Ytheclfjbedajfaa
