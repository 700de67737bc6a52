/- What the printed functions of chapter 12 compute: Made gives a right pool; Best is the greatest number for which the pool is disjunct; no walk in sight. -/
/- Slack as counts of tests, and its bounds by the numbers of tests of items and of pairs, in plain Lean; no program in sight. -/
/- The law DisjunctDesigns, walked: it answers true for whatever bytes; the table of math/bits lies as the program's text lays it. -/
import Derived.Test.YtmfmlfaglemgfaaDoorPdx5
import Derived.Test.YtmfmlfaglemgfaaDoorPdx4
import Derived.Test.YtmfmlfaglemgfaaDoorPdx7
import Derived.Test.YtmfmlfaglemgfaaDoorWi
import Derived.Test.YtmfmlfaglemgfaaDoorEx
import Derived.Test.YtmfmlfaglemgfaaDoorPi
import Derived.Test.YtmfmlfaglemgfaaDoorRx
namespace Go.Proofs.YtmfmlfaglemgfaaDoor.Pd
set_option linter.unusedSimpArgs false
set_option linter.unusedVariables false
open Go.RowKit Go.Lib Go.Proofs.YtmfmlfaglemgfaaDoorW.PrintWords Go.Proofs.YtmfmlfaglemgfaaDoor Go.Proofs.YtmfmlfaglemgfaaDoorW.PrintMore

theorem limB_mem {l : List Nat} {m : Nat} (hm1 : 1 ≤ m) (hm7 : m ≤ 7) : ∀ b ∈ limB l m, b < 2 ^ limV l m := fun b hb =>
  limRaw_lt hm1 hm7 b (List.mem_of_mem_take (sortedL_mem.1 hb))
theorem limB_length {l : List Nat} {m : Nat} : (limB l m).length ≤ 10 := by
  show (sortedL ((limRaw l m).take 10)).length ≤ 10
  rw [sortedL_length, List.length_take]; omega
theorem made_f {l : List Int} (hl : l.length < 2 ^ 63) (hb : okL 256 l = true) : plexusref06_Made.f l = some (((limV (nl l) 7 : Nat) : Int), il (limB (nl l) 7)) := by
  unfold plexusref06_Made.f plexusref06_Limited.f
  rw [if_pos ⟨hl, hb, by decide, by decide⟩]; rfl
/-- A pool as Made makes it. -/
structure Mp (V : Nat) (bs : List Nat) (D E : Nat) : Prop where
  v1 : 1 ≤ V
  v7 : V ≤ 7
  bl : ∀ b ∈ bs, b < 2 ^ V
  n : bs.length ≤ 14
  d3 : D ≤ 3
  dv : D ≤ V
  e2 : E ≤ 9
theorem wrap_id {x : Int} (h1 : -9223372036854775808 ≤ x) (h2 : x ≤ 9223372036854775807) : wrap64 x = x := by unfold wrap64; omega
theorem mask_f {V : Nat} (h : V ≤ 7) : IntKind.u64.wrap ((shl .u64 1 (IntKind.u64.wrap (V : Int))) - 1) = ((2 ^ V - 1 : Nat) : Int) ∧ 0 ≤ IntKind.u64.wrap (V : Int) := by
  rcases (show V = 0 ∨ V = 1 ∨ V = 2 ∨ V = 3 ∨ V = 4 ∨ V = 5 ∨ V = 6 ∨ V = 7 by omega) with rfl | rfl | rfl | rfl | rfl | rfl | rfl | rfl <;> decide
theorem small7 {V : Nat} (h : V ≤ 7) : 2 ^ V ≤ 128 := Nat.pow_le_pow_right (by decide) h
theorem made12_loop {V D E : Nat} (hV : V ≤ 7) (l m : List Int) (a1 a2 : Int) (hm : okL 256 m = true) (y1 : List Int) :
    ∀ (n j : Nat) (bs : List Nat), j + n = 4 → (∀ b ∈ bs, b < 2 ^ V) → bs.length ≤ 10 + j →
      ∃ bs', plexusref12_Made.l0 (n + 1) j l a1 a2 m V y1 V (il bs) D E = some ((V : Int), il bs', (D : Int), (E : Int)) ∧ (∀ b ∈ bs', b < 2 ^ V) ∧ bs'.length ≤ 14 := by
  have h7 := small7 hV
  have hpos : 0 < 2 ^ V := Nat.two_pow_pos V
  intro n
  induction n with
  | zero =>
    intro j bs hj hb hl
    obtain rfl : j = 4 := by omega
    refine ⟨bs, ?_, hb, by omega⟩
    unfold plexusref12_Made.l0
    split <;> simp
  | succ n ih =>
    intro j bs hj hb hl
    unfold plexusref12_Made.l0
    by_cases h1 : (j : Int) < (m.length : Int)
    · rw [if_pos h1, if_pos (by omega), if_pos (by omega), if_pos (mask_f hV).2, (mask_f hV).1]
      have hjm : j < m.length := by omega
      obtain ⟨t, ht, ht2⟩ : ∃ t : Nat, rd m (j : Int) = t ∧ t < 256 := by
        have h := (okL_iff.1 hm) (rd m j) (by
          unfold rd
          rw [List.getD_eq_getElem?_getD, Int.toNat_natCast, List.getElem?_eq_getElem hjm]
          exact List.getElem_mem hjm)
        exact ⟨(rd m j).toNat, by omega, by omega⟩
      rw [ht, wrapU_nat (by omega), uand (by omega) (by omega)]
      have hlt : t &&& (2 ^ V - 1) < 2 ^ V := by
        rw [Nat.and_two_pow_sub_one_eq_mod]; exact Nat.mod_lt _ (by omega)
      have hw : plexusref06_With.f (il bs) ((t &&& (2 ^ V - 1) : Nat) : Int) = some (il (withL bs (t &&& (2 ^ V - 1)))) := by
        unfold plexusref06_With.f
        rw [if_pos ⟨by rw [il_length]; omega, okL_il fun b hbb => Nat.lt_of_lt_of_le (hb b hbb) (by omega), by omega, by omega⟩, nl_il, Int.toNat_natCast]
      rw [hw, Option.bind_some, wrap_id (by omega) (by omega)]
      obtain ⟨bs', h2, h3, h4⟩ := ih (j + 1) (withL bs (t &&& (2 ^ V - 1))) (by omega) (fun b hbb => by
        rcases withL_mem.1 hbb with rfl | h
        · exact hlt
        · exact hb b h) (by rw [withL_length]; omega)
      exact ⟨bs', by rw [show ((j : Int) + 1) = ((j + 1 : Nat) : Int) from by simp]; exact h2, h3, h4⟩
    · rw [if_neg h1]
      exact ⟨bs, rfl, hb, by omega⟩
theorem made12' {l m : List Int} {a1 a2 : Int} (hl : l.length < 2 ^ 63) (hb : okL 256 l = true) (hm : okL 256 m = true) (h10 : 0 ≤ a1) (h11 : a1 < 256) (h20 : 0 ≤ a2) (h21 : a2 < 256) :
    ∃ (V : Nat) (bs : List Nat) (D E : Nat), plexusref12_Made.f 5 l a1 a2 m = some ((V : Int), il bs, (D : Int), (E : Int)) ∧ Mp V bs D E ∧ E ≤ 2 := by
  obtain ⟨hv1, hv7⟩ := limV_bd (nl l) 7 (by decide)
  obtain ⟨V, hV⟩ : ∃ V, limV (nl l) 7 = V := ⟨_, rfl⟩
  have hbl := limB_mem (l := nl l) (m := 7) (by decide) (by decide)
  rw [hV] at hv1 hv7 hbl
  obtain ⟨a, rfl⟩ := Int.eq_ofNat_of_zero_le h10
  obtain ⟨c, rfl⟩ := Int.eq_ofNat_of_zero_le h20
  have e1 : wrap64 (Int.tmod (a : Int) 4) = ((a % 4 : Nat) : Int) := by
    rw [Int.tmod_eq_emod_of_nonneg (by omega), wrap_id] <;> omega
  have e2 : wrap64 (Int.tmod (c : Int) 3) = ((c % 3 : Nat) : Int) := by
    rw [Int.tmod_eq_emod_of_nonneg (by omega), wrap_id] <;> omega
  have e3 : mn ((a % 4 : Nat) : Int) (V : Int) = ((min (a % 4) V : Nat) : Int) := by
    unfold mn
    split <;> omega
  obtain ⟨bs', h2, h3, h4⟩ := made12_loop (D := min (a % 4) V) (E := c % 3) hv7 l m (a : Int) (c : Int) hm (il (limB (nl l) 7)) 4 0 (limB (nl l) 7) rfl hbl (by have := limB_length (l := nl l) (m := 7); omega)
  refine ⟨V, bs', min (a % 4) V, c % 3, ?_, ⟨hv1, hv7, h3, h4, by omega, by omega, by omega⟩, by omega⟩
  unfold plexusref12_Made.f
  rw [made_f hl hb, Option.bind_some, hV, e1, e2, e3]
  exact h2
theorem made12 {l m : List Int} {a1 a2 : Int} (hl : l.length < 2 ^ 63) (hb : okL 256 l = true) (hm : okL 256 m = true) (h10 : 0 ≤ a1) (h11 : a1 < 256) (h20 : 0 ≤ a2) (h21 : a2 < 256) :
    ∃ (V : Nat) (bs : List Nat) (D E : Nat), plexusref12_Made.f 5 l a1 a2 m = some ((V : Int), il bs, (D : Int), (E : Int)) ∧ Mp V bs D E := by
  obtain ⟨V, bs, D, E, h1, h2, _⟩ := made12' hl hb hm h10 h11 h20 h21
  exact ⟨V, bs, D, E, h1, h2⟩
theorem Mp.more {V D E : Nat} {bs : List Nat} (h : Mp V bs D E) (he : E ≤ 2) : Mp V bs D (E + 1) := ⟨h.v1, h.v7, h.bl, h.n, h.d3, h.dv, by omega⟩
theorem Mp.small {V D E : Nat} {bs : List Nat} (h : Mp V bs D E) : okL 16384 (il bs) = true :=
  okL_il fun b hb => Nat.lt_of_lt_of_le (h.bl b hb) (Nat.le_trans (small7 h.v7) (by decide))
theorem slack_f {V D E : Nat} {bs : List Nat} (h : Mp V bs D E) {d : Nat} (hd : d ≤ 16) (e : Int) : disjunct_Slack.f V (il bs) d e = some (slackN V d bs) := by
  unfold disjunct_Slack.f
  have h7 := h.v7
  rw [if_pos ⟨by omega, by omega, by omega, by omega, by rw [il_length]; have := h.n; omega, h.small⟩, nl_il, Int.toNat_natCast, Int.toNat_natCast]
theorem disj_f {V D E : Nat} {bs : List Nat} (h : Mp V bs D E) {d : Nat} (hd : d ≤ 16) : disjunct_Disjunct.f V (il bs) d E = some (decide ((2 * E : Int) < slackN V d bs)) := by
  unfold disjunct_Disjunct.f
  have := h.e2
  rw [slack_f h hd, Option.bind_some, wrap_id (by omega) (by omega)]
/-- Best: as far as the pool is disjunct. -/
theorem best_loop {V D E : Nat} {bs : List Nat} (h : Mp V bs D E) (d0 : Int) {M : Nat} (hM : M ≤ 4) :
    ∀ (n j : Nat), j + n = M → (∀ d < j, (2 * E : Int) < slackN V d bs) →
      ∃ b : Nat, disjunct_Best.l0 (n + 1) ((j : Int) - 1) M j V (il bs) d0 E = some ((b : Int) - 1) ∧ b ≤ M ∧ ∀ d < M, ((2 * E : Int) < slackN V d bs) ↔ d < b := by
  intro n
  induction n generalizing d0 with
  | zero =>
    intro j hj hd
    obtain rfl : j = M := by omega
    refine ⟨j, ?_, Nat.le_refl _, fun d hdj => ⟨fun _ => hdj, fun _ => hd d hdj⟩⟩
    unfold disjunct_Best.l0
    rw [if_neg (by omega)]
  | succ n ih =>
    intro j hj hd
    unfold disjunct_Best.l0
    rw [if_pos (by omega), disj_f h (show j ≤ 16 by omega), Option.bind_some]
    by_cases hs : (2 * E : Int) < slackN V j bs
    · rw [decide_eq_true hs, if_pos rfl, wrap_id (by omega) (by omega)]
      obtain ⟨b, h1, h2, h3⟩ := ih (d0 := (j : Int)) (j + 1) (by omega) (fun d hdj => by
        rcases Nat.lt_or_ge d j with h4 | h4
        · exact hd d h4
        · obtain rfl : d = j := by omega
          exact hs)
      refine ⟨b, ?_, h2, h3⟩
      rw [← h1]
      congr 1 <;> omega
    · rw [decide_eq_false hs, if_neg (by simp)]
      refine ⟨j, rfl, by omega, fun d hdM => ⟨fun hdd => ?_, fun hdj => hd d hdj⟩⟩
      rcases Nat.lt_or_ge d j with h4 | h4
      · exact h4
      · exact absurd (Int.lt_of_lt_of_le hdd (slackN_mono V bs h4)) hs
theorem best_f {V D E : Nat} {bs : List Nat} (h : Mp V bs D E) :
    ∃ b : Nat, disjunct_Best.f 5 V (il bs) D E = some ((b : Int) - 1) ∧ b ≤ 4 ∧ b ≤ V + 1 ∧ ∀ d, d ≤ 3 → d ≤ V → (((2 * E : Int) < slackN V d bs) ↔ d < b) := by
  have h1 := h.v1
  have h7 := h.v7
  have e1 : wrap64 (mn 3 (V : Int) + 1) = ((min 3 V + 1 : Nat) : Int) := by
    have : mn 3 (V : Int) = ((min 3 V : Nat) : Int) := by unfold mn; split <;> omega
    rw [this, wrap_id] <;> omega
  obtain ⟨b, h2, h3, h4⟩ := best_loop h (D : Int) (M := min 3 V + 1) (by omega) (min 3 V + 1) 0 (by omega) (fun d hd => by omega)
  refine ⟨b, ?_, by omega, by omega, fun d hd hv => h4 d (by omega)⟩
  unfold disjunct_Best.f
  rw [e1]
  have hmono := fun k r (hr : disjunct_Best.l0 k (-1) ((min 3 V + 1 : Nat) : Int) 0 V (il bs) D E = some r) => (disjunct_Best.mono_l k _ _ _ _ _ _ _ r hr)
  have h2' : disjunct_Best.l0 (min 3 V + 1 + 1) (-1) ((min 3 V + 1 : Nat) : Int) 0 V (il bs) D E = some ((b : Int) - 1) := by simpa using h2
  rcases (show V = 1 ∨ V = 2 ∨ 3 ≤ V by omega) with rfl | rfl | hv
  · exact hmono _ _ (hmono _ _ h2')
  · exact hmono _ _ h2'
  · rw [show min 3 V + 1 + 1 = 5 by omega] at h2'
    exact h2'
end Go.Proofs.YtmfmlfaglemgfaaDoor.Pd


namespace Go.Proofs.YtmfmlfaglemgfaaDoor
set_option linter.unusedSimpArgs false
set_option linter.unusedVariables false
open Go.RowKit Go.Lib Go.Proofs.YtmfmlfaglemgfaaDoorW.PrintWords
theorem posN_bit (bs : List Nat) (s : Nat) : ∀ n k, (posN bs s n).testBit k = (decide (k < n) && decide (bs.getD k 0 &&& s ≠ 0)) := by
  intro n
  induction n with
  | zero => intro k; simp [posN]
  | succ n ih =>
    intro k
    rw [posN, Nat.testBit_or, ih]
    by_cases h0 : bs.getD n 0 &&& s = 0
    · rw [if_pos h0, Nat.zero_testBit, Bool.or_false]
      rcases Nat.lt_trichotomy k n with h | h | h
      · simp [h, show k < n + 1 by omega]
      · subst h
        rw [List.getD_eq_getElem?_getD] at h0
        simp [h0]
      · simp [show ¬ k < n by omega, show ¬ k < n + 1 by omega]
    · rw [if_neg h0, Nat.testBit_two_pow]
      rcases Nat.lt_trichotomy k n with h | h | h
      · simp [h, show k < n + 1 by omega, show ¬ n = k by omega]
      · subst h
        rw [List.getD_eq_getElem?_getD] at h0
        simp [h0]
      · simp [show ¬ k < n by omega, show ¬ k < n + 1 by omega, show ¬ n = k by omega]
/-- The tests that tell an item from a set, counted. -/
def tells (i s b : Nat) : Bool := decide (b &&& 2 ^ i ≠ 0) && decide (b &&& s = 0)
theorem cnt_bits {x : Nat} (p : Nat → Bool) : ∀ n, (∀ k < n, x.testBit k = p k) → cnt x n = (List.range n).countP p := by
  intro n
  induction n with
  | zero => intro _; rfl
  | succ n ih =>
    intro h
    rw [cnt, ih fun k hk => h k (by omega), List.range_succ, List.countP_append, h n (by omega)]
    simp [List.countP_cons]
theorem countP_range (p : Nat → Bool) (bs : List Nat) : (List.range bs.length).countP (fun k => p (bs.getD k 0)) = bs.countP p := by
  induction bs with
  | nil => rfl
  | cons b r ih =>
    rw [List.length_cons, List.range_succ_eq_map, List.countP_cons, List.countP_map, List.countP_cons]
    have : ((fun k => p ((b :: r).getD k 0)) ∘ Nat.succ) = fun k => p (r.getD k 0) := by funext k; simp
    rw [this, ih]
    simp
theorem cnt_high {x n : Nat} : ∀ d, (∀ k, n ≤ k → x.testBit k = false) → cnt x (n + d) = cnt x n := by
  intro d
  induction d with
  | zero => intro _; rfl
  | succ d ih => intro h; rw [← Nat.add_assoc, cnt, ih h, h (n + d) (by omega)]; simp
theorem slk_count {bs : List Nat} (hn : bs.length ≤ 64) (i s : Nat) : slk bs i s = ((bs.countP (tells i s) : Nat) : Int) := by
  unfold slk
  have hb : ∀ k, (aN (posN bs (2 ^ i) bs.length) (posN bs s bs.length)).testBit k = (decide (k < bs.length) && tells i s (bs.getD k 0)) := by
    intro k
    have hlt := posN_lt bs s bs.length
    have h64 : posN bs s bs.length < 2 ^ 64 := Nat.lt_of_lt_of_le hlt (Nat.pow_le_pow_right (by decide) hn)
    unfold aN
    rw [Nat.testBit_and, show 18446744073709551615 - posN bs s bs.length = 2 ^ 64 - (posN bs s bs.length + 1) by omega, Nat.testBit_two_pow_sub_succ h64, posN_bit, posN_bit]
    by_cases hk : k < bs.length
    · have : decide (k < 64) = true := by simp; omega
      rw [this]
      simp [hk, tells]
    · simp [hk]
  rw [show (64 : Nat) = bs.length + (64 - bs.length) by omega, cnt_high (n := bs.length) _ (fun k hk => by rw [hb]; simp; omega), cnt_bits (fun k => tells i s (bs.getD k 0)) bs.length (fun k hk => by rw [hb]; simp [hk]), countP_range]
def setsOk3 : Bool := (List.range 8).all fun V => (List.range 4).all fun D => (List.range V).all fun i =>
  let U := upL D 0 (aN (2 ^ V - 1) (2 ^ i))
  U.elem 0 && U.all (fun s => decide (cnt s 7 ≤ D) && !s.testBit i && decide (s < 2 ^ V))
theorem setsOk3_true : setsOk3 = true := by decide +kernel
theorem sets_ok3 {V D i : Nat} (hV : V ≤ 7) (hD : D ≤ 3) (hi : i < V) : 0 ∈ upL D 0 (aN (2 ^ V - 1) (2 ^ i)) ∧ ∀ s ∈ upL D 0 (aN (2 ^ V - 1) (2 ^ i)), cnt s 7 ≤ D ∧ s.testBit i = false ∧ s < 2 ^ V := by
  have h := List.all_eq_true.1 setsOk3_true V (List.mem_range.2 (by omega))
  have h := List.all_eq_true.1 h D (List.mem_range.2 (by omega))
  have h := List.all_eq_true.1 h i (List.mem_range.2 hi)
  simp only [Bool.and_eq_true] at h
  refine ⟨List.elem_iff.1 h.1, fun s hs => ?_⟩
  have h2 := List.all_eq_true.1 h.2 s hs
  simp only [Bool.and_eq_true, decide_eq_true_eq, Bool.not_eq_true'] at h2
  exact ⟨h2.1.1, h2.1.2, h2.2⟩
/-- How many tests two points (or one) have. -/
def both (bs : List Nat) (i j : Nat) : Nat := bs.countP fun b => b.testBit i && b.testBit j
theorem and_pow (b i : Nat) : (b &&& 2 ^ i ≠ 0) ↔ b.testBit i = true := by
  constructor
  · intro h
    cases hb : b.testBit i
    · exfalso
      apply h
      apply Nat.eq_of_testBit_eq
      intro j
      rw [Nat.testBit_and, Nat.testBit_two_pow, Nat.zero_testBit]
      by_cases hj : i = j
      · subst hj; simp [hb]
      · simp [hj]
    · rfl
  · intro h h0
    have := congrArg (fun z => Nat.testBit z i) h0
    simp only [Nat.testBit_and, Nat.testBit_two_pow, h, Nat.zero_testBit] at this
    simp at this
/-- The sum over a set's points. -/
def sumS (s : Nat) (f : Nat → Nat) : Nat → Nat
  | 0 => 0
  | n + 1 => sumS s f n + if s.testBit n then f n else 0
theorem sumS_le {s : Nat} {f : Nat → Nat} {m : Nat} (h : ∀ j, s.testBit j = true → f j ≤ m) : ∀ n, sumS s f n ≤ cnt s n * m := by
  intro n
  induction n with
  | zero => simp [sumS, cnt]
  | succ n ih =>
    unfold sumS cnt
    cases hb : s.testBit n
    · simpa using ih
    · have := h n hb
      simp only [if_true]
      rw [Nat.add_mul]
      omega
theorem sumS_add (s : Nat) (f g : Nat → Nat) : ∀ n, sumS s (fun j => f j + g j) n = sumS s f n + sumS s g n := by
  intro n
  induction n with
  | zero => rfl
  | succ n ih => unfold sumS; rw [ih]; split <;> omega
theorem sumS_pos {s b : Nat} (hs : b &&& s ≠ 0) {n : Nat} (hn : s < 2 ^ n) : 1 ≤ sumS s (fun j => if b.testBit j then 1 else 0) n := by
  obtain ⟨j, hj⟩ : ∃ j, (b &&& s).testBit j = true := Nat.exists_testBit_of_ne_zero hs
  rw [Nat.testBit_and, Bool.and_eq_true] at hj
  have hjn : j < n := by
    rcases Nat.lt_or_ge j n with h | h
    · exact h
    · rw [Nat.testBit_lt_two_pow (Nat.lt_of_lt_of_le hn (Nat.pow_le_pow_right (by decide) h))] at hj
      exact absurd hj.2 (by simp)
  have : ∀ m, j < m → 1 ≤ sumS s (fun j => if b.testBit j then 1 else 0) m := by
    intro m
    induction m with
    | zero => intro h; omega
    | succ m ih =>
      intro h
      unfold sumS
      rcases Nat.lt_or_ge j m with h1 | h1
      · have := ih h1; omega
      · obtain rfl : j = m := by omega
        rw [if_pos hj.2, if_pos hj.1]; omega
  exact this n hjn
/-- The tests of an item: some tell it from a set, the others it has together with one of the set. -/
theorem tells_ge {i s n : Nat} (hs : s < 2 ^ n) : ∀ bs : List Nat, both bs i i ≤ bs.countP (tells i s) + sumS s (fun j => both bs i j) n
  | [] => by simp [both]
  | b :: r => by
    have ih := tells_ge (i := i) hs r
    have e1 : both (b :: r) i i = both r i i + if b.testBit i then 1 else 0 := by unfold both; rw [List.countP_cons]; simp
    have e2 : sumS s (fun j => both (b :: r) i j) n = sumS s (fun j => both r i j) n + sumS s (fun j => if b.testBit i && b.testBit j then 1 else 0) n := by
      rw [← sumS_add]
      congr 1
      funext j
      unfold both; rw [List.countP_cons]
    rw [e1, e2, List.countP_cons]
    cases hb : b.testBit i
    · simp; omega
    · by_cases h0 : b &&& s = 0
      · have ht : tells i s b = true := by unfold tells; simp [(and_pow b i).2 hb, h0]
        rw [ht]; simp; omega
      · have := sumS_pos h0 hs
        simp only [Bool.true_and, if_true]
        omega
theorem slack_ge {V D : Nat} {bs : List Nat} (hV : V ≤ 7) (hD : D ≤ 3) (hn : bs.length ≤ 64) {least : Int} {most : Nat} (hl : least ≤ bs.length) (hl2 : ∀ i < V, least ≤ both bs i i) (hm : ∀ i < V, ∀ j < V, i ≠ j → both bs i j ≤ most) :
    least - D * most ≤ slackN V D bs := by
  unfold slackN
  rw [mlist_le]
  have h0 : (0 : Int) ≤ D * most := by exact_mod_cast Nat.zero_le _
  refine ⟨by omega, fun x hx => ?_⟩
  obtain ⟨i, hi, hx⟩ := slackL_mem.1 hx
  unfold slackI at hx
  obtain ⟨s, hs, rfl⟩ := List.mem_map.1 hx
  obtain ⟨h1, h2, h3⟩ := (sets_ok3 hV hD hi).2 s hs
  rw [slk_count hn]
  have h4 := tells_ge (i := i) (Nat.lt_of_lt_of_le h3 (Nat.pow_le_pow_right (by decide) hV)) bs
  have h5 : sumS s (fun j => both bs i j) 7 ≤ cnt s 7 * most := sumS_le (fun j hj => by
    have hjV : j < V := by
      rcases Nat.lt_or_ge j V with h | h
      · exact h
      · rw [Nat.testBit_lt_two_pow (Nat.lt_of_lt_of_le h3 (Nat.pow_le_pow_right (by decide) h))] at hj; cases hj
    exact hm i hi j hjV (fun e => by subst e; rw [h2] at hj; cases hj)) 7
  have h6 : cnt s 7 * most ≤ D * most := Nat.mul_le_mul_right _ h1
  have h7 := hl2 i hi
  have h8 : ((D * most : Nat) : Int) = (D : Int) * (most : Int) := by push_cast; rfl
  omega
theorem slack_le {V D : Nat} {bs : List Nat} (hV : V ≤ 7) (hD : D ≤ 3) (hn : bs.length ≤ 64) {least : Int} (hl : (bs.length : Int) ≤ least ∨ ∃ i < V, (both bs i i : Int) ≤ least) : slackN V D bs ≤ least := by
  have h := (mlist_le (t := slackN V D bs) (slackL V D bs V) (bs.length : Int)).1 (Int.le_refl _)
  rcases hl with hl | ⟨i, hi, hl⟩
  · exact Int.le_trans h.1 hl
  · have h1 := h.2 (slk bs i 0) (slackL_mem.2 ⟨i, hi, List.mem_map.2 ⟨0, (sets_ok3 hV hD hi).1, rfl⟩⟩)
    rw [slk_count hn] at h1
    have h2 : bs.countP (tells i 0) = both bs i i := by
      unfold both
      refine List.countP_congr fun b _ => ?_
      unfold tells
      cases hb : b.testBit i
      · simp [(not_congr (and_pow b i)).2 (by rw [hb]; simp)]
      · simp [(and_pow b i).2 hb]
    rw [h2] at h1
    exact Int.le_trans h1 hl
end Go.Proofs.YtmfmlfaglemgfaaDoor


namespace Go.Proofs.YtmfmlfaglemgfaaDoor
set_option linter.unusedSimpArgs false
set_option linter.unusedVariables false
open Go.RowKit Go.Lib Go.Shelf Go.Proofs.YtmfmlfaglemgfaaDoorW.PrintWords Go.Proofs.YtmfmlfaglemgfaaDoorW.PrintMore Go.Proofs.YtmfmlfaglemgfaaDoor.Pd
attribute [local go_sem] max2_int min2_int max_two min_two
theorem wrapI_id {x : Int} (h1 : -1000 ≤ x) (h2 : x ≤ 1000) : IntKind.i64.wrap x = x := by
  simp only [IntKind.wrap, IntKind.bits, IntKind.signed, Bool.true_and, decide_eq_true_eq, ge_iff_le]
  split <;> omega
theorem wrap_facts {least : Int} {n D most pm : Nat} (h0 : 0 ≤ least) (h1 : least ≤ n) (h2 : n ≤ 14) (h3 : pm ≤ 42) (h4 : (D : Int) * (most : Int) = (pm : Int)) :
    IntKind.i64.wrap ((D : Int) * (most : Int)) = (pm : Int) ∧ IntKind.i64.wrap (least - (pm : Int)) = least - (pm : Int) ∧ IntKind.i64.wrap (pm : Int) = (pm : Int) := by
  rw [h4]
  exact ⟨wrapI_id (by omega) (by omega), wrapI_id (by omega) (by omega), wrapI_id (by omega) (by omega)⟩
set_option maxHeartbeats 4000000 in
set_option maxRecDepth 100000 in
theorem designs_law (A0 A3 : Option Addr) (c0 c3 : Nat) (l0 l3 : List Int) (a1 a2 : Int) (w : World) (hr0 : Kd.C (Kd.int .u8) w A0 l0.length l0) (hc0 : l0.length ≤ c0) (hr3 : Kd.C (Kd.int .u8) w A3 l3.length l3) (hc3 : l3.length ≤ c3)
    (hl0 : l0.length < 2 ^ 63) (hb0 : okL 256 l0 = true) (hb3 : okL 256 l3 = true) (h10 : 0 ≤ a1) (h11 : a1 < 256) (h20 : 0 ≤ a2) (h21 : a2 < 256) (hT : TabOk w) :
    Calls Tryd.prog 3 #[.agg #[.slice A0 l0.length c0, .int .u8 a1, .int .u8 a2, .slice A3 l3.length c3]] w fun e w' => e = .returned (.bool true) ∧ Below w.heap.size w w' := by
  have hu := Tryd.underlying30
  have hui := Tryd.underlying35
  obtain ⟨V, bs, D, E, hmade, hM⟩ := made12 hl0 hb0 hb3 h10 h11 h20 h21
  have HM := hid hM
  have MD := hid (fun W (hW : Below w.heap.size w W) => plexusref12_Made.calls 5 A0 c0 l0 a1 a2 A3 c3 l3 V (il bs) D E W (Kd.C_below hr0 hW) hc0 (Kd.C_below hr3 hW) hc3 hmade)
  clear hr0 hr3 hmade
  go_enter Tryd.func3, Tryd.ntmps3
  go_upto_region 1 with (fail)
  obtain ⟨w1, hw1⟩ : ∃ w1, w.alloc (.cells #[.slice A0 l0.length c0, .int .u8 a1, .int .u8 a2, .slice A3 l3.length c3] 26) = w1 := ⟨_, rfl⟩
  have hb1 : Below w.heap.size w w1 := by rw [← hw1]; exact below_alloc (Below.refl _ _) _
  have hp1 : Blk w1 w.heap.size 26 #[.slice A0 l0.length c0, .int .u8 a1, .int .u8 a2, .slice A3 l3.length c3] := by rw [← hw1]; exact Blk.new _ _ _
  rw [hw1]
  clear hw1
  go_upto_region 4 with (go_at_call 4; refine (examples_any _).mono ?_; rintro e w2 ⟨rfl, hb2⟩)
  have hp2 := hp1.below hb2 hp1.lt
  have bw2 := below_then hb1 hb1.size hb2
  have r0 : w2.cell? ⟨w.heap.size, 0, none⟩ = some (.slice A0 l0.length c0) := (hp2.cell 0).trans rfl
  have r1 : w2.cell? ⟨w.heap.size, 1, none⟩ = some (.int .u8 a1) := (hp2.cell 1).trans rfl
  have r2 : w2.cell? ⟨w.heap.size, 2, none⟩ = some (.int .u8 a2) := (hp2.cell 2).trans rfl
  have r3 : w2.cell? ⟨w.heap.size, 3, none⟩ = some (.slice A3 l3.length c3) := (hp2.cell 3).trans rfl
  have MD2 := hid (MD.out w2 bw2)
  clear hp1 hp2 hb1 hb2 MD
  go_upto_region 5 with (go_at_call 5; refine MD2.out.mono ?_; rintro e w3 ⟨v3, rfl, hR3, hb3'⟩; obtain ⟨A, c, hv, hc, hC⟩ := Kd.R_reads hR3; subst hv)
  have hn : (il bs).length = bs.length := il_length bs
  rw [hn] at hC hc ⊢
  obtain ⟨w4, hw4⟩ : ∃ w4, w3.alloc (.cells #[.int .i64 V, .slice A bs.length c, .int .i64 D, .int .i64 E] 30) = w4 := ⟨_, rfl⟩
  have hp4 : Blk w4 w3.heap.size 30 #[.int .i64 V, .slice A bs.length c, .int .i64 D, .int .i64 E] := by rw [← hw4]; exact Blk.new _ _ _
  have bw4 : Below w.heap.size w w4 := by rw [← hw4]; exact below_alloc (below_then bw2 bw2.size hb3') _
  have hC4 : Kd.C (Kd.int .u64) w4 A bs.length (il bs) := by rw [← hw4]; exact Kd.C_alloc hC _
  rw [hw4]
  clear hw4 hR3 hC hb3' bw2 r0 r1 r2 r3 MD2
  have hv1 := hM.v1
  have hv7 := hM.v7
  have hn14 := hM.n
  have hd3 := hM.d3
  have PR := hid (pairs_any V hv7 A bs.length c bs w4 ⟨rfl, hC4, fun b hb => by have := hM.bl b hb; have := small7 hv7; omega⟩ (by omega) hM.bl (fun i hi => (bw4.cell (p := ⟨0, i, none⟩) (World.block_lt_of_cell? w ⟨0, i, none⟩ (hT i hi))).trans (hT i hi)))
  have SLK := hid (fun W (hW : Below w4.heap.size w4 W) => disjunct_Slack.calls V A c (il bs) D E (slackN V D bs) W (by rw [hn]; exact Kd.C_below hC4 hW) (by rw [hn]; exact hc) (slack_f hM (by omega) _))
  rw [hn] at SLK
  have HP := hid (fun W (hW : Below w4.heap.size w4 W) => show W.cell? ⟨w3.heap.size, 0, none⟩ = some (.int .i64 V) ∧ W.cell? ⟨w3.heap.size, 1, none⟩ = some (.slice A bs.length c) ∧ W.cell? ⟨w3.heap.size, 2, none⟩ = some (.int .i64 D) ∧ W.cell? ⟨w3.heap.size, 3, none⟩ = some (.int .i64 E) from
    ⟨((hp4.below hW hp4.lt).cell 0).trans rfl, ((hp4.below hW hp4.lt).cell 1).trans rfl, ((hp4.below hW hp4.lt).cell 2).trans rfl, ((hp4.below hW hp4.lt).cell 3).trans rfl⟩)
  obtain ⟨p0, p1, p2, p3⟩ := HP.out w4 (Below.refl _ _)
  clear hC4 hp4
  go_upto_region 6 with (go_at_call 6; refine PR.out.mono ?_; rintro e w5 ⟨G, R0, rfl, hMat, hb5⟩)
  clear p0 p1 p2 p3 PR
  obtain ⟨p0, p1, p2, p3⟩ := HP.out w5 hb5
  have hbl : ∀ i j, both bs i j ≤ 14 := fun i j => Nat.le_trans List.countP_le_length hn14
  have hMr : ∀ i < V, w5.cell? ⟨G, i, none⟩ = some (.slice (some ⟨R0 + i, 0, none⟩) V V) := fun i hi => hMat.row hi
  have hMc : ∀ i < V, ∀ j < V, w5.cell? ⟨R0 + i, j, none⟩ = some (.int .i64 ((both bs i j : Nat) : Int)) := fun i hi j hj => hMat.at_ hi hj
  have HMR := hid hMr
  have HMC := hid hMc
  have HBL := hid hbl
  clear hMr hMc hMat hbl
  go_wp2
  go_loopw [6, 7, 8] (fun l m i wr => wr = w5 ∧ ∃ (least : Int) (most ix : Nat), l = .int .i64 least ∧ m = .int .i64 most ∧ i = .int .i64 ix ∧ ix ≤ V ∧ 0 ≤ least ∧ least ≤ bs.length ∧ most ≤ 14 ∧ Hid ((∀ j < ix, least ≤ both bs j j) ∧ ((bs.length : Int) ≤ least ∨ ∃ j < V, (both bs j j : Int) ≤ least) ∧ ∀ j < ix, ∀ k < V, j ≠ k → both bs j k ≤ most)) (fun _ _ i _ => V - (intOf i).toNat)
  case atStart => exact ⟨rfl, bs.length, 0, 0, rfl, rfl, rfl, by omega, by omega, by omega, by omega, ⟨fun j hj => by omega, .inl (Int.le_refl _), fun j hj => by omega⟩⟩
  case round =>
    obtain ⟨rfl, least, most, ix, rfl, rfl, rfl, hix, hl0', hln, hm14, HH⟩ := hrel
    by_cases hlt : ix < V
    · have k1 := HMR.out ix hlt
      go_upto_region 10 with (fail)
      go_wp2
      go_loopw [6, 7, 9] (fun l m kk w9 => w9 = wr ∧ ∃ (least : Int) (most kx : Nat), l = .int .i64 least ∧ m = .int .i64 most ∧ kk = .int .i64 kx ∧ kx ≤ V ∧ 0 ≤ least ∧ least ≤ bs.length ∧ most ≤ 14 ∧ Hid (((∀ j < ix, least ≤ both bs j j) ∧ ((bs.length : Int) ≤ least ∨ ∃ j < V, (both bs j j : Int) ≤ least) ∧ ∀ j < ix, ∀ k < V, j ≠ k → both bs j k ≤ most) ∧ (ix < kx → least ≤ both bs ix ix) ∧ ∀ k < kx, ix ≠ k → both bs ix k ≤ most)) (fun _ _ kk _ => V - (intOf kk).toNat)
      case atStart => exact ⟨rfl, least, most, 0, rfl, rfl, rfl, by omega, by omega, by omega, by omega, ⟨HH.out, fun h => by omega, fun k hk => by omega⟩⟩
      case round =>
        clear HH
        obtain ⟨rfl, least', most', kx, rfl, rfl, rfl, hkx, hl0'', hln', hm14', HK⟩ := hrel
        by_cases hlk : kx < V
        · have k2 := HMC.out ix hlt kx hlk
          obtain ⟨cv, hcv⟩ : ∃ cv, both bs ix kx = cv := ⟨_, rfl⟩
          have hcb := HBL.out ix kx
          have HCV := hid hcv
          rw [hcv] at k2 hcb
          clear hcv
          by_cases hik : ix = kx
          · have he : ((ix : Int) == (kx : Int)) = true := by simp [hik]
            obtain ⟨ln, hle⟩ : ∃ ln : Int, (if (cv : Int) < least' then (cv : Int) else least') = ln := ⟨_, rfl⟩
            have hl1 : Hid (0 ≤ ln ∧ ln ≤ least' ∧ ln ≤ cv ∧ (ln = least' ∨ ln = cv)) := by rw [← hle]; exact (show _ ∧ _ ∧ _ ∧ _ by split <;> omega)
            have HIK := hid hik
            have hl00 := hl1.out.1
            clear hik
            go_wp2
            go_roundw
            case rel =>
              refine ⟨trivial, ln, most', kx + 1, rfl, rfl, by go_num, by omega, hl00, by have := hl1.out.2.1; omega, by omega, ?_⟩
              obtain ⟨⟨g1, g2, g3⟩, g4, g5⟩ := HK.out
              refine ⟨⟨fun j hj => Int.le_trans hl1.out.2.1 (g1 j hj), ?_, g3⟩, fun _ => ?_, fun k hk hne => g5 k (by have := HIK.out; omega) hne⟩
              · rcases hl1.out.2.2.2 with h | h
                · rw [h]; exact g2
                · exact .inr ⟨ix, hlt, by rw [h, ← HCV.out, HIK.out]; exact Int.le_refl _⟩
              · have := HCV.out; rw [← HIK.out] at this; rw [this]; exact hl1.out.2.2.1
            case measure => simp [intOf]; omega
          · have he : ((ix : Int) == (kx : Int)) = false := by simp; omega
            obtain ⟨mn', hmn⟩ : ∃ mn' : Nat, max most' cv = mn' := ⟨_, rfl⟩
            have hme : (if most' < cv then (cv : Int) else (most' : Int)) = (mn' : Int) := by rw [← hmn]; split <;> omega
            have hm1 : most' ≤ mn' ∧ cv ≤ mn' ∧ mn' ≤ 14 := by omega
            clear hmn
            go_wp2
            go_roundw
            case rel =>
              clear hme he
              refine ⟨trivial, least', mn', kx + 1, rfl, rfl, by go_num, by omega, by omega, by omega, by omega, ?_⟩
              obtain ⟨⟨g1, g2, g3⟩, g4, g5⟩ := HK.out
              refine ⟨⟨g1, g2, fun j hj k hk hne => Nat.le_trans (g3 j hj k hk hne) hm1.1⟩, fun h => g4 (Nat.lt_of_le_of_ne (Nat.le_of_lt_succ h) hik), fun k hk hne => ?_⟩
              rcases Nat.lt_or_ge k kx with h | h
              · exact Nat.le_trans (g5 k h hne) hm1.1
              · obtain rfl : k = kx := by omega
                rw [HCV.out]; exact hm1.2.1
            case measure => simp [intOf]; omega
        · obtain rfl : kx = V := by omega
          go_wp2
          go_roundw
          case rel =>
            refine ⟨trivial, least', most', ix + 1, rfl, rfl, by go_num, by omega, by omega, by omega, by omega, ?_⟩
            obtain ⟨⟨g1, g2, g3⟩, g4, g5⟩ := HK.out
            refine ⟨fun j hj => ?_, g2, fun j hj k hk hne => ?_⟩
            · rcases Nat.lt_or_ge j ix with h | h
              · exact g1 j h
              · obtain rfl : j = ix := by omega
                exact g4 hlt
            · rcases Nat.lt_or_ge j ix with h | h
              · exact g3 j h k hk hne
              · obtain rfl : j = ix := by omega
                exact g5 k hk hne
          case measure => simp [intOf]; omega
    · obtain rfl : ix = V := by omega
      obtain ⟨g1, g2, g3⟩ := HH.out
      obtain ⟨sp, hsp⟩ : ∃ sp, slackN ix D bs = sp := ⟨_, rfl⟩
      have s1 : least - (D : Int) * most ≤ sp := by rw [← hsp]; exact slack_ge hv7 hd3 (by omega) hln g1 g3
      have s2 : sp ≤ least := by rw [← hsp]; exact slack_le hv7 hd3 (by omega) g2
      obtain ⟨pm, hpm⟩ : ∃ pm : Nat, D * most = pm := ⟨_, rfl⟩
      have hpb : pm ≤ 42 := by rw [← hpm]; exact Nat.mul_le_mul hd3 hm14
      have hpe : (D : Int) * (most : Int) = (pm : Int) := by rw [← hpm]; push_cast; rfl
      rw [hpe] at s1
      have e1 : decide (least - (pm : Int) ≤ sp) = true := decide_eq_true s1
      have e2 : decide (sp ≤ least) = true := decide_eq_true s2
      have SL2 := hid (fun W hW => SLK.out W hW)
      rw [hsp] at SL2
      clear s1 s2 g1 g2 g3 HH SLK hsp HMR HMC HBL
      have HBX := hb5
      have e0 : ((ix : Int) == (ix : Int)) = true := by simp
      obtain ⟨w1e, w2e, w3e⟩ := wrap_facts hl0' hln hn14 hpb hpe
      clear HBX p0 p1 p2 p3
      go_upto_region 16 with (fail)
      refine (wpIn_wide (n := 8)).1 ?_
      obtain ⟨vv, hvv⟩ : ∃ vv : Nat → Value, vv = fun i => (#[.slice (some ⟨G, 0, none⟩) ix ix, .int .i64 (ix : Int), .pointer (some ⟨w3.heap.size, 0, none⟩), .int .i64 (ix : Int), .bool true, .bool true, .agg #[.int .i64 ix, .slice A bs.length c, .int .i64 D, .int .i64 E], .int .i64 (sp), .int .i64 (least), .pointer (some ⟨w3.heap.size, 2, none⟩), .int .i64 (D : Int), .int .i64 (most : Int), .int .i64 (pm : Int), .int .i64 (least - (pm : Int)), .bool true, .bool true, .bool true, .agg #[.int .i64 ix, .slice A bs.length c, .int .i64 D, .int .i64 E], .int .i64 (sp), .int .i64 (least), .bool true, .bool true, .bool true, .bool true, .bool true, .bool true] : Array Value).getD i undef := ⟨_, rfl⟩
      have mk : ∀ (L : Nat → Bool) (a' : Act) (w' : World), a' = ({ tmps := #[Value.agg #[Value.slice A0 l0.length c0, Value.int IntKind.u8 a1, Value.int IntKind.u8 a2, Value.slice A3 l3.length c3], Value.pointer (some ⟨w.heap.size, 0, none⟩), a'.tmps.getD ((#[60, 61, 62, 63, 64, 65, 66, 67, 68, 69, 70, 71, 72, 73, 74, 75, 76, 77, 78, 79, 80, 81, 82, 83, 84, 2] : Array Nat).getD (25) 0) undef, Value.bool true, Value.pointer (some ⟨w3.heap.size, 0, none⟩), Value.slice (some ⟨G, 0, none⟩) ix ix, Value.int IntKind.i64 least, Value.int IntKind.i64 ↑most, Value.int IntKind.i64 ↑ix, u9, Value.bool true, Value.bool true, Value.bool false, Value.agg #[Value.slice A0 l0.length c0, Value.int IntKind.u8 a1, Value.int IntKind.u8 a2, Value.slice A3 l3.length c3], Value.agg #[Value.int IntKind.i64 ↑ix, Value.slice A bs.length c, Value.int IntKind.i64 ↑D, Value.int IntKind.i64 ↑E], Value.pointer (some ⟨w3.heap.size, 0, none⟩), Value.int IntKind.i64 ↑ix, Value.pointer (some ⟨w3.heap.size, 1, none⟩), Value.slice A bs.length c, Value.agg #[Value.int IntKind.i64 ↑ix, Value.slice A bs.length c], Value.slice (some ⟨G, 0, none⟩) ix ix, Value.pointer (some ⟨w3.heap.size, 1, none⟩), Value.slice A bs.length c, Value.int IntKind.i64 ↑bs.length, Value.int IntKind.i64 ↑ix, Value.slice (some ⟨G, 0, none⟩) ix ix, Value.int IntKind.i64 ↑ix, Value.bool false, u28, u29, u30, u31, u32, u33, u34, u35, u36, u37, u38, u39, u40, u41, u42, u43, u44, u45, u46, u47, u48, u49, u50, u51, u52, u53, u54, u55, u56, u57, u58, u59, a'.tmps.getD ((#[60, 61, 62, 63, 64, 65, 66, 67, 68, 69, 70, 71, 72, 73, 74, 75, 76, 77, 78, 79, 80, 81, 82, 83, 84, 2] : Array Nat).getD (0) 0) undef, a'.tmps.getD ((#[60, 61, 62, 63, 64, 65, 66, 67, 68, 69, 70, 71, 72, 73, 74, 75, 76, 77, 78, 79, 80, 81, 82, 83, 84, 2] : Array Nat).getD (1) 0) undef, a'.tmps.getD ((#[60, 61, 62, 63, 64, 65, 66, 67, 68, 69, 70, 71, 72, 73, 74, 75, 76, 77, 78, 79, 80, 81, 82, 83, 84, 2] : Array Nat).getD (2) 0) undef, a'.tmps.getD ((#[60, 61, 62, 63, 64, 65, 66, 67, 68, 69, 70, 71, 72, 73, 74, 75, 76, 77, 78, 79, 80, 81, 82, 83, 84, 2] : Array Nat).getD (3) 0) undef, a'.tmps.getD ((#[60, 61, 62, 63, 64, 65, 66, 67, 68, 69, 70, 71, 72, 73, 74, 75, 76, 77, 78, 79, 80, 81, 82, 83, 84, 2] : Array Nat).getD (4) 0) undef, a'.tmps.getD ((#[60, 61, 62, 63, 64, 65, 66, 67, 68, 69, 70, 71, 72, 73, 74, 75, 76, 77, 78, 79, 80, 81, 82, 83, 84, 2] : Array Nat).getD (5) 0) undef, a'.tmps.getD ((#[60, 61, 62, 63, 64, 65, 66, 67, 68, 69, 70, 71, 72, 73, 74, 75, 76, 77, 78, 79, 80, 81, 82, 83, 84, 2] : Array Nat).getD (6) 0) undef, a'.tmps.getD ((#[60, 61, 62, 63, 64, 65, 66, 67, 68, 69, 70, 71, 72, 73, 74, 75, 76, 77, 78, 79, 80, 81, 82, 83, 84, 2] : Array Nat).getD (7) 0) undef, a'.tmps.getD ((#[60, 61, 62, 63, 64, 65, 66, 67, 68, 69, 70, 71, 72, 73, 74, 75, 76, 77, 78, 79, 80, 81, 82, 83, 84, 2] : Array Nat).getD (8) 0) undef, a'.tmps.getD ((#[60, 61, 62, 63, 64, 65, 66, 67, 68, 69, 70, 71, 72, 73, 74, 75, 76, 77, 78, 79, 80, 81, 82, 83, 84, 2] : Array Nat).getD (9) 0) undef, a'.tmps.getD ((#[60, 61, 62, 63, 64, 65, 66, 67, 68, 69, 70, 71, 72, 73, 74, 75, 76, 77, 78, 79, 80, 81, 82, 83, 84, 2] : Array Nat).getD (10) 0) undef, a'.tmps.getD ((#[60, 61, 62, 63, 64, 65, 66, 67, 68, 69, 70, 71, 72, 73, 74, 75, 76, 77, 78, 79, 80, 81, 82, 83, 84, 2] : Array Nat).getD (11) 0) undef, a'.tmps.getD ((#[60, 61, 62, 63, 64, 65, 66, 67, 68, 69, 70, 71, 72, 73, 74, 75, 76, 77, 78, 79, 80, 81, 82, 83, 84, 2] : Array Nat).getD (12) 0) undef, a'.tmps.getD ((#[60, 61, 62, 63, 64, 65, 66, 67, 68, 69, 70, 71, 72, 73, 74, 75, 76, 77, 78, 79, 80, 81, 82, 83, 84, 2] : Array Nat).getD (13) 0) undef, a'.tmps.getD ((#[60, 61, 62, 63, 64, 65, 66, 67, 68, 69, 70, 71, 72, 73, 74, 75, 76, 77, 78, 79, 80, 81, 82, 83, 84, 2] : Array Nat).getD (14) 0) undef, a'.tmps.getD ((#[60, 61, 62, 63, 64, 65, 66, 67, 68, 69, 70, 71, 72, 73, 74, 75, 76, 77, 78, 79, 80, 81, 82, 83, 84, 2] : Array Nat).getD (15) 0) undef, a'.tmps.getD ((#[60, 61, 62, 63, 64, 65, 66, 67, 68, 69, 70, 71, 72, 73, 74, 75, 76, 77, 78, 79, 80, 81, 82, 83, 84, 2] : Array Nat).getD (16) 0) undef, a'.tmps.getD ((#[60, 61, 62, 63, 64, 65, 66, 67, 68, 69, 70, 71, 72, 73, 74, 75, 76, 77, 78, 79, 80, 81, 82, 83, 84, 2] : Array Nat).getD (17) 0) undef, a'.tmps.getD ((#[60, 61, 62, 63, 64, 65, 66, 67, 68, 69, 70, 71, 72, 73, 74, 75, 76, 77, 78, 79, 80, 81, 82, 83, 84, 2] : Array Nat).getD (18) 0) undef, a'.tmps.getD ((#[60, 61, 62, 63, 64, 65, 66, 67, 68, 69, 70, 71, 72, 73, 74, 75, 76, 77, 78, 79, 80, 81, 82, 83, 84, 2] : Array Nat).getD (19) 0) undef, a'.tmps.getD ((#[60, 61, 62, 63, 64, 65, 66, 67, 68, 69, 70, 71, 72, 73, 74, 75, 76, 77, 78, 79, 80, 81, 82, 83, 84, 2] : Array Nat).getD (20) 0) undef, a'.tmps.getD ((#[60, 61, 62, 63, 64, 65, 66, 67, 68, 69, 70, 71, 72, 73, 74, 75, 76, 77, 78, 79, 80, 81, 82, 83, 84, 2] : Array Nat).getD (21) 0) undef, a'.tmps.getD ((#[60, 61, 62, 63, 64, 65, 66, 67, 68, 69, 70, 71, 72, 73, 74, 75, 76, 77, 78, 79, 80, 81, 82, 83, 84, 2] : Array Nat).getD (22) 0) undef, a'.tmps.getD ((#[60, 61, 62, 63, 64, 65, 66, 67, 68, 69, 70, 71, 72, 73, 74, 75, 76, 77, 78, 79, 80, 81, 82, 83, 84, 2] : Array Nat).getD (23) 0) undef, a'.tmps.getD ((#[60, 61, 62, 63, 64, 65, 66, 67, 68, 69, 70, 71, 72, 73, 74, 75, 76, 77, 78, 79, 80, 81, 82, 83, 84, 2] : Array Nat).getD (24) 0) undef], defers := [] } : Act) → (∀ j < 26, L j = true → a'.tmps.getD ((#[60, 61, 62, 63, 64, 65, 66, 67, 68, 69, 70, 71, 72, 73, 74, 75, 76, 77, 78, 79, 80, 81, 82, 83, 84, 2] : Array Nat).getD (j) 0) undef = vv j) → (fun (L : Nat → Bool) (wz : World) => Below w4.heap.size w4 wz) L w' → ∃ y : Nat → Value, a' = ({ tmps := #[Value.agg #[Value.slice A0 l0.length c0, Value.int IntKind.u8 a1, Value.int IntKind.u8 a2, Value.slice A3 l3.length c3], Value.pointer (some ⟨w.heap.size, 0, none⟩), y 25, Value.bool true, Value.pointer (some ⟨w3.heap.size, 0, none⟩), Value.slice (some ⟨G, 0, none⟩) ix ix, Value.int IntKind.i64 least, Value.int IntKind.i64 ↑most, Value.int IntKind.i64 ↑ix, u9, Value.bool true, Value.bool true, Value.bool false, Value.agg #[Value.slice A0 l0.length c0, Value.int IntKind.u8 a1, Value.int IntKind.u8 a2, Value.slice A3 l3.length c3], Value.agg #[Value.int IntKind.i64 ↑ix, Value.slice A bs.length c, Value.int IntKind.i64 ↑D, Value.int IntKind.i64 ↑E], Value.pointer (some ⟨w3.heap.size, 0, none⟩), Value.int IntKind.i64 ↑ix, Value.pointer (some ⟨w3.heap.size, 1, none⟩), Value.slice A bs.length c, Value.agg #[Value.int IntKind.i64 ↑ix, Value.slice A bs.length c], Value.slice (some ⟨G, 0, none⟩) ix ix, Value.pointer (some ⟨w3.heap.size, 1, none⟩), Value.slice A bs.length c, Value.int IntKind.i64 ↑bs.length, Value.int IntKind.i64 ↑ix, Value.slice (some ⟨G, 0, none⟩) ix ix, Value.int IntKind.i64 ↑ix, Value.bool false, u28, u29, u30, u31, u32, u33, u34, u35, u36, u37, u38, u39, u40, u41, u42, u43, u44, u45, u46, u47, u48, u49, u50, u51, u52, u53, u54, u55, u56, u57, u58, u59, y 0, y 1, y 2, y 3, y 4, y 5, y 6, y 7, y 8, y 9, y 10, y 11, y 12, y 13, y 14, y 15, y 16, y 17, y 18, y 19, y 20, y 21, y 22, y 23, y 24], defers := [] } : Act) ∧ (∀ j < 26, L j = true → y j = vv j) ∧ (fun (L : Nat → Bool) (wz : World) => Below w4.heap.size w4 wz) L w' := fun L a' w' h1 h2 h3 => ⟨fun m => a'.tmps.getD ((#[60, 61, 62, 63, 64, 65, 66, 67, 68, 69, 70, 71, 72, 73, 74, 75, 76, 77, 78, 79, 80, 81, 82, 83, 84, 2] : Array Nat).getD (m) 0) undef, h1, h2, h3⟩
      refine wpIn_region_inv2 (by kernel_rfl) (fun L aI wI => ∃ y : Nat → Value, aI = ({ tmps := #[Value.agg #[Value.slice A0 l0.length c0, Value.int IntKind.u8 a1, Value.int IntKind.u8 a2, Value.slice A3 l3.length c3], Value.pointer (some ⟨w.heap.size, 0, none⟩), y 25, Value.bool true, Value.pointer (some ⟨w3.heap.size, 0, none⟩), Value.slice (some ⟨G, 0, none⟩) ix ix, Value.int IntKind.i64 least, Value.int IntKind.i64 ↑most, Value.int IntKind.i64 ↑ix, u9, Value.bool true, Value.bool true, Value.bool false, Value.agg #[Value.slice A0 l0.length c0, Value.int IntKind.u8 a1, Value.int IntKind.u8 a2, Value.slice A3 l3.length c3], Value.agg #[Value.int IntKind.i64 ↑ix, Value.slice A bs.length c, Value.int IntKind.i64 ↑D, Value.int IntKind.i64 ↑E], Value.pointer (some ⟨w3.heap.size, 0, none⟩), Value.int IntKind.i64 ↑ix, Value.pointer (some ⟨w3.heap.size, 1, none⟩), Value.slice A bs.length c, Value.agg #[Value.int IntKind.i64 ↑ix, Value.slice A bs.length c], Value.slice (some ⟨G, 0, none⟩) ix ix, Value.pointer (some ⟨w3.heap.size, 1, none⟩), Value.slice A bs.length c, Value.int IntKind.i64 ↑bs.length, Value.int IntKind.i64 ↑ix, Value.slice (some ⟨G, 0, none⟩) ix ix, Value.int IntKind.i64 ↑ix, Value.bool false, u28, u29, u30, u31, u32, u33, u34, u35, u36, u37, u38, u39, u40, u41, u42, u43, u44, u45, u46, u47, u48, u49, u50, u51, u52, u53, u54, u55, u56, u57, u58, u59, y 0, y 1, y 2, y 3, y 4, y 5, y 6, y 7, y 8, y 9, y 10, y 11, y 12, y 13, y 14, y 15, y 16, y 17, y 18, y 19, y 20, y 21, y 22, y 23, y 24], defers := [] } : Act) ∧ (∀ j < 26, L j = true → y j = vv j) ∧ (fun (L : Nat → Bool) (wz : World) => Below w4.heap.size w4 wz) L wI) ?acyc ?start ?step ?rdone
      case acyc => exact fun i o ho => acyc_of2 (by kernel_rfl) i o ho
      case start => exact mk (fun _ => false) _ _ rfl (fun _ _ h => by cases h) (by exact below_drew hb5)
      case step =>
        rintro i o L a wx ho hLi hdep ⟨y, rfl, hy, hWI⟩ K hK
        have hi : i < 26 := (Array.getElem?_eq_some_iff.1 ho).1
        rcases i with _ | _ | _ | _ | _ | _ | _ | _ | _ | _ | _ | _ | _ | _ | _ | _ | _ | _ | _ | _ | _ | _ | _ | _ | _ | _ | i
        · obtain rfl := Option.some.inj ho
          clear hdep ho
          go_simp
          refine hK _ _ (mk _ _ _ rfl ?_ ?_)
          rotate_left
          · exact hWI
          · intro j hj h
            rcases j with _ | _ | _ | _ | _ | _ | _ | _ | _ | _ | _ | _ | _ | _ | _ | _ | _ | _ | _ | _ | _ | _ | _ | _ | _ | _ | j
            all_goals first | (rw [hvv]; rfl) | exact hy _ (by omega) (by simpa [put1] using h) | (exfalso; omega)
        · obtain rfl := Option.some.inj ho
          have d0 : L 0 = true := hdep ⟨0, .data⟩ (by simp) rfl
          have e0 : y 0 = .slice (some ⟨G, 0, none⟩) ix ix := (hy 0 (by omega) d0).trans (by rw [hvv]; rfl)
          clear hdep ho
          rw [e0]
          go_simp
          refine hK _ _ (mk _ _ _ rfl ?_ ?_)
          rotate_left
          · exact hWI
          · intro j hj h
            rcases j with _ | _ | _ | _ | _ | _ | _ | _ | _ | _ | _ | _ | _ | _ | _ | _ | _ | _ | _ | _ | _ | _ | _ | _ | _ | _ | j
            all_goals first | (rw [hvv]; rfl) | exact hy _ (by omega) (by simpa [put1] using h) | (exfalso; omega)
        · obtain rfl := Option.some.inj ho
          clear hdep ho
          go_simp
          refine hK _ _ (mk _ _ _ rfl ?_ ?_)
          rotate_left
          · exact hWI
          · intro j hj h
            rcases j with _ | _ | _ | _ | _ | _ | _ | _ | _ | _ | _ | _ | _ | _ | _ | _ | _ | _ | _ | _ | _ | _ | _ | _ | _ | _ | j
            all_goals first | (rw [hvv]; rfl) | exact hy _ (by omega) (by simpa [put1] using h) | (exfalso; omega)
        · obtain rfl := Option.some.inj ho
          have d2 : L 2 = true := hdep ⟨2, .data⟩ (by simp) rfl
          have e2 : y 2 = .pointer (some ⟨w3.heap.size, 0, none⟩) := (hy 2 (by omega) d2).trans (by rw [hvv]; rfl)
          clear hdep ho
          rw [e2]
          obtain ⟨k0, k1, k2, k3⟩ := HP.out _ hWI
          go_simp
          refine hK _ _ (mk _ _ _ rfl ?_ ?_)
          rotate_left
          · exact hWI
          · intro j hj h
            rcases j with _ | _ | _ | _ | _ | _ | _ | _ | _ | _ | _ | _ | _ | _ | _ | _ | _ | _ | _ | _ | _ | _ | _ | _ | _ | _ | j
            all_goals first | (rw [hvv]; rfl) | exact hy _ (by omega) (by simpa [put1] using h) | (exfalso; omega)
        · obtain rfl := Option.some.inj ho
          have d1 : L 1 = true := hdep ⟨1, .data⟩ (by simp) rfl
          have d3 : L 3 = true := hdep ⟨3, .data⟩ (by simp) rfl
          have e1 : y 1 = .int .i64 (ix : Int) := (hy 1 (by omega) d1).trans (by rw [hvv]; rfl)
          have e3 : y 3 = .int .i64 (ix : Int) := (hy 3 (by omega) d3).trans (by rw [hvv]; rfl)
          clear hdep ho
          rw [e1, e3]
          go_simp
          refine hK _ _ (mk _ _ _ rfl ?_ ?_)
          rotate_left
          · exact hWI
          · intro j hj h
            rcases j with _ | _ | _ | _ | _ | _ | _ | _ | _ | _ | _ | _ | _ | _ | _ | _ | _ | _ | _ | _ | _ | _ | _ | _ | _ | _ | j
            all_goals first | (rw [hvv]; rfl) | exact hy _ (by omega) (by simpa [put1] using h) | (exfalso; omega)
        · obtain rfl := Option.some.inj ho
          have d4 : L 4 = true := hdep ⟨4, .data⟩ (by simp) rfl
          have e4 : y 4 = .bool true := (hy 4 (by omega) d4).trans (by rw [hvv]; rfl)
          clear hdep ho
          rw [e4]
          go_simp
          refine hK _ _ (mk _ _ _ rfl ?_ ?_)
          rotate_left
          · exact hWI
          · intro j hj h
            rcases j with _ | _ | _ | _ | _ | _ | _ | _ | _ | _ | _ | _ | _ | _ | _ | _ | _ | _ | _ | _ | _ | _ | _ | _ | _ | _ | j
            all_goals first | (rw [hvv]; rfl) | exact hy _ (by omega) (by simpa [put1] using h) | (exfalso; omega)
        · obtain rfl := Option.some.inj ho
          have d5 : L 5 = true := hdep ⟨5, .guard⟩ (by simp) rfl
          have e5 : y 5 = .bool true := (hy 5 (by omega) d5).trans (by rw [hvv]; rfl)
          clear hdep ho
          rw [e5]
          rw [if_pos (by rfl)]
          obtain ⟨k0, k1, k2, k3⟩ := HP.out _ hWI
          go_simp
          refine hK _ _ (mk _ _ _ rfl ?_ ?_)
          rotate_left
          · exact hWI
          · intro j hj h
            rcases j with _ | _ | _ | _ | _ | _ | _ | _ | _ | _ | _ | _ | _ | _ | _ | _ | _ | _ | _ | _ | _ | _ | _ | _ | _ | _ | j
            all_goals first | (rw [hvv]; rfl) | exact hy _ (by omega) (by simpa [put1] using h) | (exfalso; omega)
        · obtain rfl := Option.some.inj ho
          have d5 : L 5 = true := hdep ⟨5, .guard⟩ (by simp) rfl
          have d6 : L 6 = true := hdep ⟨6, .data⟩ (by simp) rfl
          have e5 : y 5 = .bool true := (hy 5 (by omega) d5).trans (by rw [hvv]; rfl)
          have e6 : y 6 = .agg #[.int .i64 ix, .slice A bs.length c, .int .i64 D, .int .i64 E] := (hy 6 (by omega) d6).trans (by rw [hvv]; rfl)
          clear hdep ho
          rw [e5, e6]
          rw [if_pos (by rfl)]
          go_simp
          gi_wp2_with (refine ⟨trivial, ?_⟩; gi_at_call 7; refine (callsIn_wide.2 (SL2.out _ hWI)).mono ?_; rintro e w' ⟨rfl, hbx⟩)
          refine mk _ _ _ rfl ?_ ?_
          rotate_left
          · exact below_then hWI hWI.size hbx
          · intro j hj h
            rcases j with _ | _ | _ | _ | _ | _ | _ | _ | _ | _ | _ | _ | _ | _ | _ | _ | _ | _ | _ | _ | _ | _ | _ | _ | _ | _ | j
            all_goals first | (rw [hvv]; rfl) | exact hy _ (by omega) (by simpa [put1] using h) | (exfalso; omega)
        · obtain rfl := Option.some.inj ho
          have d5 : L 5 = true := hdep ⟨5, .guard⟩ (by simp) rfl
          have e5 : y 5 = .bool true := (hy 5 (by omega) d5).trans (by rw [hvv]; rfl)
          clear hdep ho
          rw [e5]
          rw [if_pos (by rfl)]
          go_simp
          refine hK _ _ (mk _ _ _ rfl ?_ ?_)
          rotate_left
          · exact hWI
          · intro j hj h
            rcases j with _ | _ | _ | _ | _ | _ | _ | _ | _ | _ | _ | _ | _ | _ | _ | _ | _ | _ | _ | _ | _ | _ | _ | _ | _ | _ | j
            all_goals first | (rw [hvv]; rfl) | exact hy _ (by omega) (by simpa [put1] using h) | (exfalso; omega)
        · obtain rfl := Option.some.inj ho
          have d5 : L 5 = true := hdep ⟨5, .guard⟩ (by simp) rfl
          have e5 : y 5 = .bool true := (hy 5 (by omega) d5).trans (by rw [hvv]; rfl)
          clear hdep ho
          rw [e5]
          rw [if_pos (by rfl)]
          go_simp
          refine hK _ _ (mk _ _ _ rfl ?_ ?_)
          rotate_left
          · exact hWI
          · intro j hj h
            rcases j with _ | _ | _ | _ | _ | _ | _ | _ | _ | _ | _ | _ | _ | _ | _ | _ | _ | _ | _ | _ | _ | _ | _ | _ | _ | _ | j
            all_goals first | (rw [hvv]; rfl) | exact hy _ (by omega) (by simpa [put1] using h) | (exfalso; omega)
        · obtain rfl := Option.some.inj ho
          have d5 : L 5 = true := hdep ⟨5, .guard⟩ (by simp) rfl
          have d9 : L 9 = true := hdep ⟨9, .data⟩ (by simp) rfl
          have e5 : y 5 = .bool true := (hy 5 (by omega) d5).trans (by rw [hvv]; rfl)
          have e9 : y 9 = .pointer (some ⟨w3.heap.size, 2, none⟩) := (hy 9 (by omega) d9).trans (by rw [hvv]; rfl)
          clear hdep ho
          rw [e5, e9]
          rw [if_pos (by rfl)]
          obtain ⟨k0, k1, k2, k3⟩ := HP.out _ hWI
          go_simp
          refine hK _ _ (mk _ _ _ rfl ?_ ?_)
          rotate_left
          · exact hWI
          · intro j hj h
            rcases j with _ | _ | _ | _ | _ | _ | _ | _ | _ | _ | _ | _ | _ | _ | _ | _ | _ | _ | _ | _ | _ | _ | _ | _ | _ | _ | j
            all_goals first | (rw [hvv]; rfl) | exact hy _ (by omega) (by simpa [put1] using h) | (exfalso; omega)
        · obtain rfl := Option.some.inj ho
          have d5 : L 5 = true := hdep ⟨5, .guard⟩ (by simp) rfl
          have e5 : y 5 = .bool true := (hy 5 (by omega) d5).trans (by rw [hvv]; rfl)
          clear hdep ho
          rw [e5]
          rw [if_pos (by rfl)]
          go_simp
          refine hK _ _ (mk _ _ _ rfl ?_ ?_)
          rotate_left
          · exact hWI
          · intro j hj h
            rcases j with _ | _ | _ | _ | _ | _ | _ | _ | _ | _ | _ | _ | _ | _ | _ | _ | _ | _ | _ | _ | _ | _ | _ | _ | _ | _ | j
            all_goals first | (rw [hvv]; rfl) | exact hy _ (by omega) (by simpa [put1] using h) | (exfalso; omega)
        · obtain rfl := Option.some.inj ho
          have d5 : L 5 = true := hdep ⟨5, .guard⟩ (by simp) rfl
          have d10 : L 10 = true := hdep ⟨10, .data⟩ (by simp) rfl
          have d11 : L 11 = true := hdep ⟨11, .data⟩ (by simp) rfl
          have e5 : y 5 = .bool true := (hy 5 (by omega) d5).trans (by rw [hvv]; rfl)
          have e10 : y 10 = .int .i64 (D : Int) := (hy 10 (by omega) d10).trans (by rw [hvv]; rfl)
          have e11 : y 11 = .int .i64 (most : Int) := (hy 11 (by omega) d11).trans (by rw [hvv]; rfl)
          clear hdep ho
          rw [e5, e10, e11]
          rw [if_pos (by rfl)]
          go_simp
          refine hK _ _ (mk _ _ _ rfl ?_ ?_)
          rotate_left
          · exact hWI
          · intro j hj h
            rcases j with _ | _ | _ | _ | _ | _ | _ | _ | _ | _ | _ | _ | _ | _ | _ | _ | _ | _ | _ | _ | _ | _ | _ | _ | _ | _ | j
            all_goals first | (rw [hvv]; rfl) | exact hy _ (by omega) (by simpa [put1] using h) | (exfalso; omega)
        · obtain rfl := Option.some.inj ho
          have d5 : L 5 = true := hdep ⟨5, .guard⟩ (by simp) rfl
          have d8 : L 8 = true := hdep ⟨8, .data⟩ (by simp) rfl
          have d12 : L 12 = true := hdep ⟨12, .data⟩ (by simp) rfl
          have e5 : y 5 = .bool true := (hy 5 (by omega) d5).trans (by rw [hvv]; rfl)
          have e8 : y 8 = .int .i64 (least) := (hy 8 (by omega) d8).trans (by rw [hvv]; rfl)
          have e12 : y 12 = .int .i64 (pm : Int) := (hy 12 (by omega) d12).trans (by rw [hvv]; rfl)
          clear hdep ho
          rw [e5, e8, e12]
          rw [if_pos (by rfl)]
          go_simp
          refine hK _ _ (mk _ _ _ rfl ?_ ?_)
          rotate_left
          · exact hWI
          · intro j hj h
            rcases j with _ | _ | _ | _ | _ | _ | _ | _ | _ | _ | _ | _ | _ | _ | _ | _ | _ | _ | _ | _ | _ | _ | _ | _ | _ | _ | j
            all_goals first | (rw [hvv]; rfl) | exact hy _ (by omega) (by simpa [put1] using h) | (exfalso; omega)
        · obtain rfl := Option.some.inj ho
          have d5 : L 5 = true := hdep ⟨5, .guard⟩ (by simp) rfl
          have d7 : L 7 = true := hdep ⟨7, .data⟩ (by simp) rfl
          have d13 : L 13 = true := hdep ⟨13, .data⟩ (by simp) rfl
          have e5 : y 5 = .bool true := (hy 5 (by omega) d5).trans (by rw [hvv]; rfl)
          have e7 : y 7 = .int .i64 (sp) := (hy 7 (by omega) d7).trans (by rw [hvv]; rfl)
          have e13 : y 13 = .int .i64 (least - (pm : Int)) := (hy 13 (by omega) d13).trans (by rw [hvv]; rfl)
          clear hdep ho
          rw [e5, e7, e13]
          rw [if_pos (by rfl)]
          go_simp
          refine hK _ _ (mk _ _ _ rfl ?_ ?_)
          rotate_left
          · exact hWI
          · intro j hj h
            rcases j with _ | _ | _ | _ | _ | _ | _ | _ | _ | _ | _ | _ | _ | _ | _ | _ | _ | _ | _ | _ | _ | _ | _ | _ | _ | _ | j
            all_goals first | (rw [hvv]; rfl) | exact hy _ (by omega) (by simpa [put1] using h) | (exfalso; omega)
        · obtain rfl := Option.some.inj ho
          have d5 : L 5 = true := hdep ⟨5, .data⟩ (by simp) rfl
          have d14 : L 14 = true := hdep ⟨14, .data⟩ (by simp) rfl
          have e5 : y 5 = .bool true := (hy 5 (by omega) d5).trans (by rw [hvv]; rfl)
          have e14 : y 14 = .bool true := (hy 14 (by omega) d14).trans (by rw [hvv]; rfl)
          clear hdep ho
          rw [e5, e14]
          go_simp
          refine hK _ _ (mk _ _ _ rfl ?_ ?_)
          rotate_left
          · exact hWI
          · intro j hj h
            rcases j with _ | _ | _ | _ | _ | _ | _ | _ | _ | _ | _ | _ | _ | _ | _ | _ | _ | _ | _ | _ | _ | _ | _ | _ | _ | _ | j
            all_goals first | (rw [hvv]; rfl) | exact hy _ (by omega) (by simpa [put1] using h) | (exfalso; omega)
        · obtain rfl := Option.some.inj ho
          have d15 : L 15 = true := hdep ⟨15, .data⟩ (by simp) rfl
          have e15 : y 15 = .bool true := (hy 15 (by omega) d15).trans (by rw [hvv]; rfl)
          clear hdep ho
          rw [e15]
          go_simp
          refine hK _ _ (mk _ _ _ rfl ?_ ?_)
          rotate_left
          · exact hWI
          · intro j hj h
            rcases j with _ | _ | _ | _ | _ | _ | _ | _ | _ | _ | _ | _ | _ | _ | _ | _ | _ | _ | _ | _ | _ | _ | _ | _ | _ | _ | j
            all_goals first | (rw [hvv]; rfl) | exact hy _ (by omega) (by simpa [put1] using h) | (exfalso; omega)
        · obtain rfl := Option.some.inj ho
          have d16 : L 16 = true := hdep ⟨16, .guard⟩ (by simp) rfl
          have e16 : y 16 = .bool true := (hy 16 (by omega) d16).trans (by rw [hvv]; rfl)
          clear hdep ho
          rw [e16]
          rw [if_pos (by rfl)]
          obtain ⟨k0, k1, k2, k3⟩ := HP.out _ hWI
          go_simp
          refine hK _ _ (mk _ _ _ rfl ?_ ?_)
          rotate_left
          · exact hWI
          · intro j hj h
            rcases j with _ | _ | _ | _ | _ | _ | _ | _ | _ | _ | _ | _ | _ | _ | _ | _ | _ | _ | _ | _ | _ | _ | _ | _ | _ | _ | j
            all_goals first | (rw [hvv]; rfl) | exact hy _ (by omega) (by simpa [put1] using h) | (exfalso; omega)
        · obtain rfl := Option.some.inj ho
          have d16 : L 16 = true := hdep ⟨16, .guard⟩ (by simp) rfl
          have d17 : L 17 = true := hdep ⟨17, .data⟩ (by simp) rfl
          have e16 : y 16 = .bool true := (hy 16 (by omega) d16).trans (by rw [hvv]; rfl)
          have e17 : y 17 = .agg #[.int .i64 ix, .slice A bs.length c, .int .i64 D, .int .i64 E] := (hy 17 (by omega) d17).trans (by rw [hvv]; rfl)
          clear hdep ho
          rw [e16, e17]
          rw [if_pos (by rfl)]
          go_simp
          gi_wp2_with (refine ⟨trivial, ?_⟩; gi_at_call 7; refine (callsIn_wide.2 (SL2.out _ hWI)).mono ?_; rintro e w' ⟨rfl, hbx⟩)
          refine mk _ _ _ rfl ?_ ?_
          rotate_left
          · exact below_then hWI hWI.size hbx
          · intro j hj h
            rcases j with _ | _ | _ | _ | _ | _ | _ | _ | _ | _ | _ | _ | _ | _ | _ | _ | _ | _ | _ | _ | _ | _ | _ | _ | _ | _ | j
            all_goals first | (rw [hvv]; rfl) | exact hy _ (by omega) (by simpa [put1] using h) | (exfalso; omega)
        · obtain rfl := Option.some.inj ho
          have d16 : L 16 = true := hdep ⟨16, .guard⟩ (by simp) rfl
          have e16 : y 16 = .bool true := (hy 16 (by omega) d16).trans (by rw [hvv]; rfl)
          clear hdep ho
          rw [e16]
          rw [if_pos (by rfl)]
          go_simp
          refine hK _ _ (mk _ _ _ rfl ?_ ?_)
          rotate_left
          · exact hWI
          · intro j hj h
            rcases j with _ | _ | _ | _ | _ | _ | _ | _ | _ | _ | _ | _ | _ | _ | _ | _ | _ | _ | _ | _ | _ | _ | _ | _ | _ | _ | j
            all_goals first | (rw [hvv]; rfl) | exact hy _ (by omega) (by simpa [put1] using h) | (exfalso; omega)
        · obtain rfl := Option.some.inj ho
          have d16 : L 16 = true := hdep ⟨16, .guard⟩ (by simp) rfl
          have d18 : L 18 = true := hdep ⟨18, .data⟩ (by simp) rfl
          have d19 : L 19 = true := hdep ⟨19, .data⟩ (by simp) rfl
          have e16 : y 16 = .bool true := (hy 16 (by omega) d16).trans (by rw [hvv]; rfl)
          have e18 : y 18 = .int .i64 (sp) := (hy 18 (by omega) d18).trans (by rw [hvv]; rfl)
          have e19 : y 19 = .int .i64 (least) := (hy 19 (by omega) d19).trans (by rw [hvv]; rfl)
          clear hdep ho
          rw [e16, e18, e19]
          rw [if_pos (by rfl)]
          go_simp
          refine hK _ _ (mk _ _ _ rfl ?_ ?_)
          rotate_left
          · exact hWI
          · intro j hj h
            rcases j with _ | _ | _ | _ | _ | _ | _ | _ | _ | _ | _ | _ | _ | _ | _ | _ | _ | _ | _ | _ | _ | _ | _ | _ | _ | _ | j
            all_goals first | (rw [hvv]; rfl) | exact hy _ (by omega) (by simpa [put1] using h) | (exfalso; omega)
        · obtain rfl := Option.some.inj ho
          have d16 : L 16 = true := hdep ⟨16, .data⟩ (by simp) rfl
          have d20 : L 20 = true := hdep ⟨20, .data⟩ (by simp) rfl
          have e16 : y 16 = .bool true := (hy 16 (by omega) d16).trans (by rw [hvv]; rfl)
          have e20 : y 20 = .bool true := (hy 20 (by omega) d20).trans (by rw [hvv]; rfl)
          clear hdep ho
          rw [e16, e20]
          go_simp
          refine hK _ _ (mk _ _ _ rfl ?_ ?_)
          rotate_left
          · exact hWI
          · intro j hj h
            rcases j with _ | _ | _ | _ | _ | _ | _ | _ | _ | _ | _ | _ | _ | _ | _ | _ | _ | _ | _ | _ | _ | _ | _ | _ | _ | _ | j
            all_goals first | (rw [hvv]; rfl) | exact hy _ (by omega) (by simpa [put1] using h) | (exfalso; omega)
        · obtain rfl := Option.some.inj ho
          have d21 : L 21 = true := hdep ⟨21, .data⟩ (by simp) rfl
          have e21 : y 21 = .bool true := (hy 21 (by omega) d21).trans (by rw [hvv]; rfl)
          clear hdep ho
          rw [e21]
          go_simp
          refine hK _ _ (mk _ _ _ rfl ?_ ?_)
          rotate_left
          · exact hWI
          · intro j hj h
            rcases j with _ | _ | _ | _ | _ | _ | _ | _ | _ | _ | _ | _ | _ | _ | _ | _ | _ | _ | _ | _ | _ | _ | _ | _ | _ | _ | j
            all_goals first | (rw [hvv]; rfl) | exact hy _ (by omega) (by simpa [put1] using h) | (exfalso; omega)
        · obtain rfl := Option.some.inj ho
          have d22 : L 22 = true := hdep ⟨22, .guard⟩ (by simp) rfl
          have e22 : y 22 = .bool true := (hy 22 (by omega) d22).trans (by rw [hvv]; rfl)
          clear hdep ho
          rw [e22]
          rw [if_pos (by rfl)]
          go_simp
          refine hK _ _ (mk _ _ _ rfl ?_ ?_)
          rotate_left
          · exact hWI
          · intro j hj h
            rcases j with _ | _ | _ | _ | _ | _ | _ | _ | _ | _ | _ | _ | _ | _ | _ | _ | _ | _ | _ | _ | _ | _ | _ | _ | _ | _ | j
            all_goals first | (rw [hvv]; rfl) | exact hy _ (by omega) (by simpa [put1] using h) | (exfalso; omega)
        · obtain rfl := Option.some.inj ho
          have d22 : L 22 = true := hdep ⟨22, .data⟩ (by simp) rfl
          have d23 : L 23 = true := hdep ⟨23, .data⟩ (by simp) rfl
          have e22 : y 22 = .bool true := (hy 22 (by omega) d22).trans (by rw [hvv]; rfl)
          have e23 : y 23 = .bool true := (hy 23 (by omega) d23).trans (by rw [hvv]; rfl)
          clear hdep ho
          rw [e22, e23]
          go_simp
          refine hK _ _ (mk _ _ _ rfl ?_ ?_)
          rotate_left
          · exact hWI
          · intro j hj h
            rcases j with _ | _ | _ | _ | _ | _ | _ | _ | _ | _ | _ | _ | _ | _ | _ | _ | _ | _ | _ | _ | _ | _ | _ | _ | _ | _ | j
            all_goals first | (rw [hvv]; rfl) | exact hy _ (by omega) (by simpa [put1] using h) | (exfalso; omega)
        · obtain rfl := Option.some.inj ho
          have d24 : L 24 = true := hdep ⟨24, .data⟩ (by simp) rfl
          have e24 : y 24 = .bool true := (hy 24 (by omega) d24).trans (by rw [hvv]; rfl)
          clear hdep ho
          rw [e24]
          go_simp
          refine hK _ _ (mk _ _ _ rfl ?_ ?_)
          rotate_left
          · exact hWI
          · intro j hj h
            rcases j with _ | _ | _ | _ | _ | _ | _ | _ | _ | _ | _ | _ | _ | _ | _ | _ | _ | _ | _ | _ | _ | _ | _ | _ | _ | _ | j
            all_goals first | (rw [hvv]; rfl) | exact hy _ (by omega) (by simpa [put1] using h) | (exfalso; omega)
        · exfalso; omega
      case rdone =>
        rintro L a wd hall ⟨y, rfl, hy, hWI⟩
        have e25 : y 25 = .bool true := (hy 25 (by omega) (hall 25 (by decide))).trans (by rw [hvv]; rfl)
        rw [e25]
        clear mk hvv hy hall
        go_wp2
        go_ret
        exact ⟨rfl, below_then bw4 bw4.size hWI⟩
end Go.Proofs.YtmfmlfaglemgfaaDoor
