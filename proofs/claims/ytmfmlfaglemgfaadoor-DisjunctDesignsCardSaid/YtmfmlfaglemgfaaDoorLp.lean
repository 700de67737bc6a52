/- The reference's made structures (layer 6): what Limited makes, in plain words. -/
import Derived.Test.YtmfmlfaglemgfaaDoorR6
namespace Go.Proofs.YtmfmlfaglemgfaaDoor
set_option linter.unusedSimpArgs false
set_option linter.unusedVariables false
open Go.RowKit Go.Lib Go.Proofs.YtmfmlfaglemgfaaDoorW.PrintWords

def limV (l : List Nat) (m : Nat) : Nat := 1 + l.getD 1 0 % m
def limAll (l : List Nat) (m : Nat) : Nat := 2 ^ limV l m - 1
def limFirst (l : List Nat) (m : Nat) : Nat := l.getD 2 0 &&& limAll l m
def limN (l : List Nat) : Nat := 1 + l.getD 3 0 % 10
/-- all pairs of k points -/
def prs (k : Nat) : List Nat := (List.range k).flatMap fun p => (List.range p).map fun q => 2 ^ p ||| 2 ^ q
theorem prs_succ (k : Nat) : prs (k + 1) = prs k ++ (List.range k).map fun q => 2 ^ k ||| 2 ^ q := by simp [prs, List.range_succ, List.flatMap_append]
def limRaw (l : List Nat) (m : Nat) : List Nat :=
  match l.getD 0 0 % 8 with
  | 0 | 1 => (List.range (limV l m)).map fun k => turnB (limFirst l m) (limV l m) k (limV l m)
  | 2 => prs (limV l m)
  | 3 => (List.range 7).map fun k => turnB 11 7 k 7 &&& limAll l m
  | 4 => (List.range (limN l)).map fun k => limFirst l m >>> (l.getD (4 + k) 0 % 2)
  | 5 => ((List.range (limN l)).map fun k => l.getD (4 + k) 0 &&& limAll l m).filter fun b => cnt b 64 == 3
  | _ => (List.range (limN l)).map fun k => l.getD (4 + k) 0 &&& limAll l m
def limB (l : List Nat) (m : Nat) : List Nat := sortedL ((limRaw l m).take 10)

theorem shr_form {a x : Nat} (ha : a < 2 ^ 64) : ((a : Int) / 2 ^ min (IntKind.u64.wrap ((x : Int) % 2)).toNat 64) = ((a >>> (x % 2) : Nat) : Int) := by
  rw [show ((x : Int) % 2) = ((x % 2 : Nat) : Int) from by simp, wrapU_nat (by omega), Int.toNat_natCast, Nat.min_eq_left (by omega), Nat.shiftRight_eq_div_pow]
  simp
theorem shr_form2 {a q : Nat} : ((a : Int) / 2 ^ q) = ((a >>> q : Nat) : Int) := by rw [Nat.shiftRight_eq_div_pow]; simp
theorem cast_eq3 (x : Nat) : (((x : Nat) : Int) == 3) = (x == 3) := by rw [Bool.eq_iff_iff]; simp; omega
theorem orp_form {p q : Nat} (hp : p < 64) (hq : q < 64) : bits .or .u64 (IntKind.u64.wrap (2 ^ p)) (IntKind.u64.wrap (2 ^ q)) = ((2 ^ p ||| 2 ^ q : Nat) : Int) := by
  have h1 : (2 : Nat) ^ p < 2 ^ 64 := Nat.pow_lt_pow_right (by omega) hp
  have h2 : (2 : Nat) ^ q < 2 ^ 64 := Nat.pow_lt_pow_right (by omega) hq
  rw [show ((2 : Int) ^ p) = ((2 ^ p : Nat) : Int) from by simp, show ((2 : Int) ^ q) = ((2 ^ q : Nat) : Int) from by simp, wrapU_nat h1, wrapU_nat h2, uor h1 h2]
theorem limV_bd (l : List Nat) (m : Nat) (hm1 : 1 ≤ m) : 1 ≤ limV l m ∧ limV l m ≤ m := by
  have := Nat.mod_lt (l.getD 1 0) hm1
  unfold limV
  omega
theorem limRaw_lt {l : List Nat} {m : Nat} (hm1 : 1 ≤ m) (hm7 : m ≤ 7) : ∀ b ∈ limRaw l m, b < 2 ^ limV l m := by
  have hv := limV_bd l m hm1
  have ha : limAll l m < 2 ^ limV l m := by have := Nat.two_pow_pos (limV l m); unfold limAll; omega
  have hf : limFirst l m < 2 ^ limV l m := Nat.lt_of_le_of_lt Nat.and_le_right ha
  intro b hb
  unfold limRaw at hb
  split at hb
  · simp only [List.mem_map, List.mem_range] at hb
    obtain ⟨k, _, rfl⟩ := hb
    exact turnB_lt _ _ _ _ (by omega) (by omega)
  · simp only [List.mem_map, List.mem_range] at hb
    obtain ⟨k, _, rfl⟩ := hb
    exact turnB_lt _ _ _ _ (by omega) (by omega)
  · simp only [prs, List.mem_flatMap, List.mem_map, List.mem_range] at hb
    obtain ⟨p, hp, q, hq, rfl⟩ := hb
    exact Nat.or_lt_two_pow (Nat.pow_lt_pow_right (by omega) hp) (Nat.pow_lt_pow_right (by omega) (by omega))
  · simp only [List.mem_map, List.mem_range] at hb
    obtain ⟨k, _, rfl⟩ := hb
    exact Nat.lt_of_le_of_lt Nat.and_le_right ha
  · simp only [List.mem_map, List.mem_range] at hb
    obtain ⟨k, _, rfl⟩ := hb
    exact Nat.lt_of_le_of_lt (by rw [Nat.shiftRight_eq_div_pow]; exact Nat.div_le_self _ _) hf
  · obtain ⟨hb, _⟩ := List.mem_filter.1 hb
    simp only [List.mem_map, List.mem_range] at hb
    obtain ⟨k, _, rfl⟩ := hb
    exact Nat.lt_of_le_of_lt Nat.and_le_right ha
  · simp only [List.mem_map, List.mem_range] at hb
    obtain ⟨k, _, rfl⟩ := hb
    exact Nat.lt_of_le_of_lt Nat.and_le_right ha
theorem limRaw_len {l : List Nat} {m : Nat} (hm1 : 1 ≤ m) (hm7 : m ≤ 7) : (limRaw l m).length ≤ 100 := by
  have hv := limV_bd l m hm1
  unfold limRaw
  split
  · simp; omega
  · simp; omega
  · have : ∀ k ≤ 7, (prs k).length ≤ 100 := by decide
    exact this _ (by omega)
  · simp
  · simp [limN]; omega
  · refine Nat.le_trans (List.length_filter_le _ _) ?_
    simp [limN]; omega
  · simp [limN]; omega
theorem pairs_len : ∀ k ≤ 6, (prs k).length ≤ 100 := by decide

end Go.Proofs.YtmfmlfaglemgfaaDoor
