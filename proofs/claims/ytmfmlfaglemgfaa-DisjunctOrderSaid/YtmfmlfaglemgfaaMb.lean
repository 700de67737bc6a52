/- What the printed functions of chapter 12 compute: Made gives a right pool; Best is the greatest number for which the pool is disjunct; no walk in sight. -/
import Derived.Test.YtmfmlfaglemgfaaPdx5
import Derived.Test.YtmfmlfaglemgfaaPdx7
import Derived.Test.YtmfmlfaglemgfaaWi
namespace Go.Proofs.Ytmfmlfaglemgfaa.Pd
set_option linter.unusedSimpArgs false
set_option linter.unusedVariables false
open Go.RowKit Go.Lib Go.Proofs.YtmfmlfaglemgfaaW.PrintWords Go.Proofs.Ytmfmlfaglemgfaa Go.Proofs.YtmfmlfaglemgfaaW.PrintMore

theorem limB_mem {l : List Nat} {m : Nat} (hm1 : 1 ≤ m) (hm7 : m ≤ 7) : ∀ b ∈ limB l m, b < 2 ^ limV l m := fun b hb =>
  limRaw_lt hm1 hm7 b (List.mem_of_mem_take (sortedL_mem.1 hb))
theorem limB_length {l : List Nat} {m : Nat} : (limB l m).length ≤ 10 := by
  show (sortedL ((limRaw l m).take 10)).length ≤ 10
  rw [sortedL_length, List.length_take]; omega
theorem made_f {l : List Int} (hl : l.length < 2 ^ 63) (hb : okL 256 l = true) : plexusref06_Made.f l = some (((limV (nl l) 7 : Nat) : Int), il (limB (nl l) 7)) := by
  unfold plexusref06_Made.f plexusref06_Limited.f
  rw [if_pos ⟨hl, hb, by decide, by decide⟩]; rfl
/-- A pool as Made makes it. -/
structure Mp (V : Nat) (bs : List Nat) (D E : Nat) : Prop where
  v1 : 1 ≤ V
  v7 : V ≤ 7
  bl : ∀ b ∈ bs, b < 2 ^ V
  n : bs.length ≤ 14
  d3 : D ≤ 3
  dv : D ≤ V
  e2 : E ≤ 9
theorem wrap_id {x : Int} (h1 : -9223372036854775808 ≤ x) (h2 : x ≤ 9223372036854775807) : wrap64 x = x := by unfold wrap64; omega
theorem mask_f {V : Nat} (h : V ≤ 7) : IntKind.u64.wrap ((shl .u64 1 (IntKind.u64.wrap (V : Int))) - 1) = ((2 ^ V - 1 : Nat) : Int) ∧ 0 ≤ IntKind.u64.wrap (V : Int) := by
  rcases (show V = 0 ∨ V = 1 ∨ V = 2 ∨ V = 3 ∨ V = 4 ∨ V = 5 ∨ V = 6 ∨ V = 7 by omega) with rfl | rfl | rfl | rfl | rfl | rfl | rfl | rfl <;> decide
theorem small7 {V : Nat} (h : V ≤ 7) : 2 ^ V ≤ 128 := Nat.pow_le_pow_right (by decide) h
theorem made12_loop {V D E : Nat} (hV : V ≤ 7) (l m : List Int) (a1 a2 : Int) (hm : okL 256 m = true) (y1 : List Int) :
    ∀ (n j : Nat) (bs : List Nat), j + n = 4 → (∀ b ∈ bs, b < 2 ^ V) → bs.length ≤ 10 + j →
      ∃ bs', plexusref12_Made.l0 (n + 1) j l a1 a2 m V y1 V (il bs) D E = some ((V : Int), il bs', (D : Int), (E : Int)) ∧ (∀ b ∈ bs', b < 2 ^ V) ∧ bs'.length ≤ 14 := by
  have h7 := small7 hV
  have hpos : 0 < 2 ^ V := Nat.two_pow_pos V
  intro n
  induction n with
  | zero =>
    intro j bs hj hb hl
    obtain rfl : j = 4 := by omega
    refine ⟨bs, ?_, hb, by omega⟩
    unfold plexusref12_Made.l0
    split <;> simp
  | succ n ih =>
    intro j bs hj hb hl
    unfold plexusref12_Made.l0
    by_cases h1 : (j : Int) < (m.length : Int)
    · rw [if_pos h1, if_pos (by omega), if_pos (by omega), if_pos (mask_f hV).2, (mask_f hV).1]
      have hjm : j < m.length := by omega
      obtain ⟨t, ht, ht2⟩ : ∃ t : Nat, rd m (j : Int) = t ∧ t < 256 := by
        have h := (okL_iff.1 hm) (rd m j) (by
          unfold rd
          rw [List.getD_eq_getElem?_getD, Int.toNat_natCast, List.getElem?_eq_getElem hjm]
          exact List.getElem_mem hjm)
        exact ⟨(rd m j).toNat, by omega, by omega⟩
      rw [ht, wrapU_nat (by omega), uand (by omega) (by omega)]
      have hlt : t &&& (2 ^ V - 1) < 2 ^ V := by
        rw [Nat.and_two_pow_sub_one_eq_mod]; exact Nat.mod_lt _ (by omega)
      have hw : plexusref06_With.f (il bs) ((t &&& (2 ^ V - 1) : Nat) : Int) = some (il (withL bs (t &&& (2 ^ V - 1)))) := by
        unfold plexusref06_With.f
        rw [if_pos ⟨by rw [il_length]; omega, okL_il fun b hbb => Nat.lt_of_lt_of_le (hb b hbb) (by omega), by omega, by omega⟩, nl_il, Int.toNat_natCast]
      rw [hw, Option.bind_some, wrap_id (by omega) (by omega)]
      obtain ⟨bs', h2, h3, h4⟩ := ih (j + 1) (withL bs (t &&& (2 ^ V - 1))) (by omega) (fun b hbb => by
        rcases withL_mem.1 hbb with rfl | h
        · exact hlt
        · exact hb b h) (by rw [withL_length]; omega)
      exact ⟨bs', by rw [show ((j : Int) + 1) = ((j + 1 : Nat) : Int) from by simp]; exact h2, h3, h4⟩
    · rw [if_neg h1]
      exact ⟨bs, rfl, hb, by omega⟩
theorem made12' {l m : List Int} {a1 a2 : Int} (hl : l.length < 2 ^ 63) (hb : okL 256 l = true) (hm : okL 256 m = true) (h10 : 0 ≤ a1) (h11 : a1 < 256) (h20 : 0 ≤ a2) (h21 : a2 < 256) :
    ∃ (V : Nat) (bs : List Nat) (D E : Nat), plexusref12_Made.f 5 l a1 a2 m = some ((V : Int), il bs, (D : Int), (E : Int)) ∧ Mp V bs D E ∧ E ≤ 2 := by
  obtain ⟨hv1, hv7⟩ := limV_bd (nl l) 7 (by decide)
  obtain ⟨V, hV⟩ : ∃ V, limV (nl l) 7 = V := ⟨_, rfl⟩
  have hbl := limB_mem (l := nl l) (m := 7) (by decide) (by decide)
  rw [hV] at hv1 hv7 hbl
  obtain ⟨a, rfl⟩ := Int.eq_ofNat_of_zero_le h10
  obtain ⟨c, rfl⟩ := Int.eq_ofNat_of_zero_le h20
  have e1 : wrap64 (Int.tmod (a : Int) 4) = ((a % 4 : Nat) : Int) := by
    rw [Int.tmod_eq_emod_of_nonneg (by omega), wrap_id] <;> omega
  have e2 : wrap64 (Int.tmod (c : Int) 3) = ((c % 3 : Nat) : Int) := by
    rw [Int.tmod_eq_emod_of_nonneg (by omega), wrap_id] <;> omega
  have e3 : mn ((a % 4 : Nat) : Int) (V : Int) = ((min (a % 4) V : Nat) : Int) := by
    unfold mn
    split <;> omega
  obtain ⟨bs', h2, h3, h4⟩ := made12_loop (D := min (a % 4) V) (E := c % 3) hv7 l m (a : Int) (c : Int) hm (il (limB (nl l) 7)) 4 0 (limB (nl l) 7) rfl hbl (by have := limB_length (l := nl l) (m := 7); omega)
  refine ⟨V, bs', min (a % 4) V, c % 3, ?_, ⟨hv1, hv7, h3, h4, by omega, by omega, by omega⟩, by omega⟩
  unfold plexusref12_Made.f
  rw [made_f hl hb, Option.bind_some, hV, e1, e2, e3]
  exact h2
theorem made12 {l m : List Int} {a1 a2 : Int} (hl : l.length < 2 ^ 63) (hb : okL 256 l = true) (hm : okL 256 m = true) (h10 : 0 ≤ a1) (h11 : a1 < 256) (h20 : 0 ≤ a2) (h21 : a2 < 256) :
    ∃ (V : Nat) (bs : List Nat) (D E : Nat), plexusref12_Made.f 5 l a1 a2 m = some ((V : Int), il bs, (D : Int), (E : Int)) ∧ Mp V bs D E := by
  obtain ⟨V, bs, D, E, h1, h2, _⟩ := made12' hl hb hm h10 h11 h20 h21
  exact ⟨V, bs, D, E, h1, h2⟩
theorem Mp.more {V D E : Nat} {bs : List Nat} (h : Mp V bs D E) (he : E ≤ 2) : Mp V bs D (E + 1) := ⟨h.v1, h.v7, h.bl, h.n, h.d3, h.dv, by omega⟩
theorem Mp.small {V D E : Nat} {bs : List Nat} (h : Mp V bs D E) : okL 16384 (il bs) = true :=
  okL_il fun b hb => Nat.lt_of_lt_of_le (h.bl b hb) (Nat.le_trans (small7 h.v7) (by decide))
theorem slack_f {V D E : Nat} {bs : List Nat} (h : Mp V bs D E) {d : Nat} (hd : d ≤ 16) (e : Int) : disjunct_Slack.f V (il bs) d e = some (slackN V d bs) := by
  unfold disjunct_Slack.f
  have h7 := h.v7
  rw [if_pos ⟨by omega, by omega, by omega, by omega, by rw [il_length]; have := h.n; omega, h.small⟩, nl_il, Int.toNat_natCast, Int.toNat_natCast]
theorem disj_f {V D E : Nat} {bs : List Nat} (h : Mp V bs D E) {d : Nat} (hd : d ≤ 16) : disjunct_Disjunct.f V (il bs) d E = some (decide ((2 * E : Int) < slackN V d bs)) := by
  unfold disjunct_Disjunct.f
  have := h.e2
  rw [slack_f h hd, Option.bind_some, wrap_id (by omega) (by omega)]
/-- Best: as far as the pool is disjunct. -/
theorem best_loop {V D E : Nat} {bs : List Nat} (h : Mp V bs D E) (d0 : Int) {M : Nat} (hM : M ≤ 4) :
    ∀ (n j : Nat), j + n = M → (∀ d < j, (2 * E : Int) < slackN V d bs) →
      ∃ b : Nat, disjunct_Best.l0 (n + 1) ((j : Int) - 1) M j V (il bs) d0 E = some ((b : Int) - 1) ∧ b ≤ M ∧ ∀ d < M, ((2 * E : Int) < slackN V d bs) ↔ d < b := by
  intro n
  induction n generalizing d0 with
  | zero =>
    intro j hj hd
    obtain rfl : j = M := by omega
    refine ⟨j, ?_, Nat.le_refl _, fun d hdj => ⟨fun _ => hdj, fun _ => hd d hdj⟩⟩
    unfold disjunct_Best.l0
    rw [if_neg (by omega)]
  | succ n ih =>
    intro j hj hd
    unfold disjunct_Best.l0
    rw [if_pos (by omega), disj_f h (show j ≤ 16 by omega), Option.bind_some]
    by_cases hs : (2 * E : Int) < slackN V j bs
    · rw [decide_eq_true hs, if_pos rfl, wrap_id (by omega) (by omega)]
      obtain ⟨b, h1, h2, h3⟩ := ih (d0 := (j : Int)) (j + 1) (by omega) (fun d hdj => by
        rcases Nat.lt_or_ge d j with h4 | h4
        · exact hd d h4
        · obtain rfl : d = j := by omega
          exact hs)
      refine ⟨b, ?_, h2, h3⟩
      rw [← h1]
      congr 1 <;> omega
    · rw [decide_eq_false hs, if_neg (by simp)]
      refine ⟨j, rfl, by omega, fun d hdM => ⟨fun hdd => ?_, fun hdj => hd d hdj⟩⟩
      rcases Nat.lt_or_ge d j with h4 | h4
      · exact h4
      · exact absurd (Int.lt_of_lt_of_le hdd (slackN_mono V bs h4)) hs
theorem best_f {V D E : Nat} {bs : List Nat} (h : Mp V bs D E) :
    ∃ b : Nat, disjunct_Best.f 5 V (il bs) D E = some ((b : Int) - 1) ∧ b ≤ 4 ∧ b ≤ V + 1 ∧ ∀ d, d ≤ 3 → d ≤ V → (((2 * E : Int) < slackN V d bs) ↔ d < b) := by
  have h1 := h.v1
  have h7 := h.v7
  have e1 : wrap64 (mn 3 (V : Int) + 1) = ((min 3 V + 1 : Nat) : Int) := by
    have : mn 3 (V : Int) = ((min 3 V : Nat) : Int) := by unfold mn; split <;> omega
    rw [this, wrap_id] <;> omega
  obtain ⟨b, h2, h3, h4⟩ := best_loop h (D : Int) (M := min 3 V + 1) (by omega) (min 3 V + 1) 0 (by omega) (fun d hd => by omega)
  refine ⟨b, ?_, by omega, by omega, fun d hd hv => h4 d (by omega)⟩
  unfold disjunct_Best.f
  rw [e1]
  have hmono := fun k r (hr : disjunct_Best.l0 k (-1) ((min 3 V + 1 : Nat) : Int) 0 V (il bs) D E = some r) => (disjunct_Best.mono_l k _ _ _ _ _ _ _ r hr)
  have h2' : disjunct_Best.l0 (min 3 V + 1 + 1) (-1) ((min 3 V + 1 : Nat) : Int) 0 V (il bs) D E = some ((b : Int) - 1) := by simpa using h2
  rcases (show V = 1 ∨ V = 2 ∨ 3 ≤ V by omega) with rfl | rfl | hv
  · exact hmono _ _ (hmono _ _ h2')
  · exact hmono _ _ h2'
  · rw [show min 3 V + 1 + 1 = 5 by omega] at h2'
    exact h2'
end Go.Proofs.Ytmfmlfaglemgfaa.Pd
