/- The search for a resolution: its plain laws, and what its walk carries; no condition. -/
import Derived.Test.YtoiahjncpngkeaaDoorRp
import Derived.Test.YtoiahjncpngkeaaDoorRi
import Derived.Test.YtoiahjncpngkeaaDoorOu
namespace Go.Proofs.YtoiahjncpngkeaaDoor
set_option linter.unusedSimpArgs false
set_option linter.unusedVariables false
open Go.RowKit Go.Lib Go.Proofs.YtoiahjncpngkeaaDoorW.PrintWords

/-- How many of the first n blocks are not used. -/
def un (n u : Nat) : Nat := (List.range n).countP fun j => !u.testBit j
theorem un_le (n u : Nat) : un n u ≤ n := by have := List.countP_le_length (p := fun j => !u.testBit j) (l := List.range n); simpa [un] using this
theorem testBit_or_pow (u j i : Nat) : (u ||| 2 ^ j).testBit i = (i == j || u.testBit i) := by
  rw [Nat.testBit_or, Nat.testBit_two_pow]
  by_cases h : j = i
  · subst h; simp
  · have h2 : (i == j) = false := by simp; omega
    simp [h, h2]
theorem un_take {n u j : Nat} (hj : j < n) (hu : u.testBit j = false) : un n (u ||| 2 ^ j) + 1 ≤ un n u := by
  have := countP_put1 (L := u.testBit) (i := j) (List.range n) (by simpa using hj) hu
  unfold un
  rw [show (fun i => !(u ||| 2 ^ j).testBit i) = fun i => !put1 u.testBit j i from by funext i; rw [testBit_or_pow]; rfl]
  exact this
theorem or_pow_lt {n u j : Nat} (hu : u < 2 ^ n) (hj : j < n) : u ||| 2 ^ j < 2 ^ n := Nat.or_lt_two_pow hu (Nat.pow_lt_pow_right (by decide) hj)
theorem fz_ctz {n u : Nat} (hn : n < 64) (hu : u < 2 ^ n) : ctz 64 (2 ^ 64 - 1 - u) = fz n u ∧ 0 < 2 ^ 64 - 1 - u := by
  have hp : 2 ^ n ≤ 2 ^ 63 := Nat.pow_le_pow_right (by decide) (by omega)
  have h0 : 0 < 2 ^ 64 - 1 - u := by omega
  refine ⟨?_, h0⟩
  obtain ⟨hl, m, hm⟩ := ctz_form 64 (2 ^ 64 - 1 - u) h0 (by omega)
  have hb : ∀ i, i < 64 → (2 ^ 64 - 1 - u).testBit i = !u.testBit i := fun i hi => by
    rw [show 2 ^ 64 - 1 - u = 2 ^ 64 - (u + 1) from by omega, Nat.testBit_two_pow_sub_succ (by omega)]; simp [hi]
  generalize ctz 64 (2 ^ 64 - 1 - u) = q at hl hm
  have hp2 := Nat.two_pow_pos q
  have hx : ∀ i, (2 ^ 64 - 1 - u).testBit i = (decide (q ≤ i) && (2 * m + 1).testBit (i - q)) := fun i => by
    rw [show 2 ^ 64 - 1 - u = 2 ^ q * (2 * m + 1) + 0 from hm, Nat.testBit_two_pow_mul_add _ hp2]
    by_cases hi : i < q
    · simp [hi]; omega
    · rw [if_neg hi]; simp; omega
  have hq : u.testBit q = false := by
    have := (hb q hl).symm.trans (hx q)
    simpa using this
  have hlo : ∀ i, i < q → u.testBit i = true := fun i hi => by
    have := (hb i (by omega)).symm.trans (hx i)
    simpa [show ¬ q ≤ i from by omega] using this
  have hqn : q ≤ n := by
    rcases Nat.lt_or_ge n q with h | h
    · have := hlo n h
      rw [Nat.testBit_lt_two_pow hu] at this
      cases this
    · exact h
  unfold fz
  have hf : (List.range n).find? (fun j => !u.testBit j) = if q < n then some q else none := by
    split
    · rename_i hlt
      rw [List.find?_eq_some_iff_append]
      refine ⟨by simp [hq], List.range q, (List.range' (q + 1) (n - q - 1)), ?_, fun a ha => by simp at ha; simp [hlo a ha]⟩
      rw [List.range_eq_range', List.range_eq_range', show n = q + (1 + (n - q - 1)) from by omega, ← List.range'_append_1, ← List.range'_append_1]
      simp
    · rw [List.find?_eq_none]
      intro x hx
      simp at hx
      simp [hlo x (by omega)]
  rw [hf]
  split <;> simp <;> omega
theorem fz_lt {n u : Nat} (h : fz n u < n) : u.testBit (fz n u) = false := by
  unfold fz at h ⊢
  cases hf : (List.range n).find? (fun j => !u.testBit j) with
  | none => rw [hf] at h; simp at h
  | some q => have := List.find?_some hf; simpa using this

/-- How much is left of the search. -/
def pot (n u : Nat) (cur : List Nat) (i : Nat) : Nat := un n u * (2 * n + 4) + (if cur = [] then 0 else n + 2) + (n + 1 - i)
theorem pot_skip {n u i : Nat} {cur : List Nat} (hi : i < n) : pot n u cur (i + 1) + 1 = pot n u cur i := by unfold pot; omega
theorem pot_take {n u i : Nat} {cur : List Nat} (hi : i < n) (hu : u.testBit i = false) : pot n (u ||| 2 ^ i) (cur ++ [i]) (i + 1) < pot n u cur i := by
  have h := un_take hi hu
  unfold pot
  rw [if_neg (by simp)]
  have h2 : (un n (u ||| 2 ^ i) + 1) * (2 * n + 4) ≤ un n u * (2 * n + 4) := Nat.mul_le_mul_right _ h
  rw [Nat.add_mul, Nat.one_mul] at h2
  split <;> omega
theorem pot_next {n u i j : Nat} {cur : List Nat} (hc : cur ≠ []) (hi : i ≤ n) : pot n u [] j < pot n u cur i := by
  unfold pot
  rw [if_pos rfl, if_neg hc]
  omega
theorem rgo_full {V : Nat} {bs : List Nat} {f u i all : Nat} {out : List (List Nat)} {cur : List Nat} (h : all = 2 ^ V - 1) :
    rgo V bs (f + 1) u out cur i all = if bs.length ≤ fz bs.length u then some (out ++ [cur]) else rgo V bs f u (out ++ [cur]) [] (fz bs.length u) 0 := by rw [rgo, if_pos h]
theorem rgo_end {V : Nat} {bs : List Nat} {f u i all : Nat} {out : List (List Nat)} {cur : List Nat} (h : all ≠ 2 ^ V - 1) (hi : bs.length ≤ i) : rgo V bs (f + 1) u out cur i all = none := by rw [rgo, if_neg h, if_pos hi]
theorem rgo_skip {V : Nat} {bs : List Nat} {f u i all : Nat} {out : List (List Nat)} {cur : List Nat} (h : all ≠ 2 ^ V - 1) (hi : i < bs.length) (hs : u.testBit i = true ∨ all &&& bs.getD i 0 ≠ 0) :
    rgo V bs (f + 1) u out cur i all = rgo V bs f u out cur (i + 1) all := by
  rw [rgo, if_neg h, if_neg (by omega), if_pos (by rw [Bool.or_eq_true]; exact hs.imp id fun e => by simpa using e)]
theorem rgo_take {V : Nat} {bs : List Nat} {f u i all : Nat} {out : List (List Nat)} {cur : List Nat} (h : all ≠ 2 ^ V - 1) (hi : i < bs.length) (h1 : u.testBit i = false) (h2 : all &&& bs.getD i 0 = 0) :
    rgo V bs (f + 1) u out cur i all = match rgo V bs f (u ||| 2 ^ i) out (cur ++ [i]) (i + 1) (all ||| bs.getD i 0) with
      | some r => some r
      | none => if cur = [] then none else rgo V bs f u out cur (i + 1) all := by
  conv => lhs; rw [rgo, if_neg h, if_neg (by omega), if_neg (by simp only [h1, h2]; decide)]
  rfl

/-- The variable of the search: the structure, the used blocks, the classes. -/
def Srch (W : World) (g V : Nat) (A : Option Addr) (n c u : Nat) (outv : Value) : Prop := W.heap[g]? = some (.cells #[.int .i64 V, .slice A n c, .int .u64 u, outv] 100 (0, 0))
theorem Srch.other {W : World} {g V n c u : Nat} {A : Option Addr} {outv : Value} (h : Srch W g V A n c u outv) {W1 : World} {row : Option Nat} (hg : W.grownBy W1 row) (hr : some g ≠ row) :
    Srch W1 g V A n c u outv := (hg.block g (blk_lt h) hr).trans h
/-- What a call of the search leaves. -/
def SPost (w0 : World) (g B V : Nat) (A : Option Addr) (n c : Nat) (res : Option (List (List Nat))) (u : Nat) (rows : List (List Int)) (e : Ending) (W' : World) : Prop :=
  ∃ (outv : Value) (vs : List Value) (u' : Nat), Below w0.heap.size w0 W' ∧ Srch W' g V A n c u' outv ∧
    ((∃ r, res = some r ∧ e = .returned (.bool true) ∧ OutC W' B outv vs (r.map il)) ∨
     (res = none ∧ e = .returned (.bool false) ∧ u' = u ∧ ∃ extra, OutC W' B outv vs (rows ++ extra)))
/-- What is granted to a call of the search. -/
structure SPre (w0 : World) (g B V : Nat) (A : Option Addr) (n c : Nat) (bs : List Nat) (u : Nat) (out : List (List Nat)) (cur : List Nat) (W : World) (outv : Value) (vs : List Value) : Prop where
  used : u < 2 ^ bs.length
  room : out.length + (if cur = [] then 0 else 1) + un bs.length u ≤ bs.length
  room2 : cur.length + un bs.length u ≤ bs.length
  below : Below w0.heap.size w0 W
  var : Srch W g V A n c u outv
  rows : OutC W B outv vs (out.map il ++ [il cur])
end Go.Proofs.YtoiahjncpngkeaaDoor
