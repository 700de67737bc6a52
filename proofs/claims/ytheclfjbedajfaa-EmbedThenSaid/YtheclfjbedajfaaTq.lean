/- With a block more the best embedding keeps not less, and at most one block more; in plain Lean. -/
/- No embedding keeps more done blocks than the one along its own list; the lists are all lists; in plain Lean. -/
/- What Check says of any embedding, and that a right one keeps no more than the one along its list; no walk in sight. -/
/- Embeddings one after the other are an embedding, and what both keep is no more than what the best keeps; over the printed functions, no walk in sight. -/
import Derived.Test.YtheclfjbedajfaaEn
import Derived.Test.YtheclfjbedajfaaEe
import Derived.Test.YtheclfjbedajfaaPdx12
namespace Go.Proofs.Ytheclfjbedajfaa
set_option linter.unusedSimpArgs false
set_option linter.unusedVariables false
open Go.RowKit Go.Lib Go.Proofs.YtheclfjbedajfaaW.PrintWords

/-- How many blocks ahead of block i have its image. -/
def rankN (A D f : List Nat) (i : Nat) : Nat := (((queueN A.length D).take ((queueN A.length D).idxOf i)).map (fun i => movedN (A.getD i 0) f)).count (movedN (A.getD i 0) f)
def keepsN (A C D f : List Nat) (i : Nat) : Bool := decide (rankN A D f i < C.count (movedN (A.getD i 0) f))
theorem keptN_eq {A C D f : List Nat} (hD : ∀ i ∈ D, i < A.length) (hDn : D.Nodup) : keptN A C D f = D.countP (keepsN A C D f) := by
  rw [keptN, keptL, il, List.filter_map, List.length_map, ← List.countP_eq_length_filter]
  refine List.countP_congr fun i hi => ?_
  have hiA := hD i hi
  have hr : rd (embM A C D f) (i : Int) = goN A C D f i := embM_get hD hDn hiA
  have hl := embM_len A C D f
  rw [goN, alongAt_of (queueN_mem hiA)] at hr
  simp only [Function.comp_apply, keepB, keepsN, rankN, Bool.and_eq_true, decide_eq_true_eq]
  rw [hr, hl]
  split
  · rename_i h
    exact ⟨fun _ => by simpa using h, fun _ => ⟨⟨by omega, by omega⟩, by omega⟩⟩
  · rename_i h
    exact ⟨fun h' => absurd h'.2 (by decide), fun h' => absurd (by simpa using h') h⟩
end Go.Proofs.Ytheclfjbedajfaa


namespace Go.Proofs.Ytheclfjbedajfaa
set_option linter.unusedSimpArgs false
set_option linter.unusedVariables false
open Go.RowKit Go.Lib Go.Proofs.YtheclfjbedajfaaW.PrintWords

theorem lsL_all {n : Nat} : ∀ {l : Nat} {f r : List Nat}, (f ++ r).Nodup → (∀ q ∈ r, q < n) → r.length = l → f ++ r ∈ lsL n l f
  | 0, f, r, _, _, h => by
    rw [List.eq_nil_of_length_eq_zero h, List.append_nil, lsL]; simp
  | l + 1, f, [], _, _, h => by simp at h
  | l + 1, f, p :: r, hn, hq, h => by
    have hpf : p ∉ f := fun hp => (List.nodup_append.1 hn).2.2 p hp p (by simp) rfl
    rw [lsL, List.mem_flatMap]
    refine ⟨p, List.mem_range.2 (hq p (by simp)), ?_⟩
    rw [if_neg hpf]
    have := lsL_all (n := n) (l := l) (f := f ++ [p]) (r := r) (by rw [List.append_assoc]; exact hn) (fun q h => hq q (by simp [h])) (by simpa using h)
    rwa [List.append_assoc] at this
/-- How many ahead of i in L have its image. -/
def rkN (mv : Nat → Nat) (L : List Nat) (i : Nat) : Nat := ((L.take (L.idxOf i)).map mv).count (mv i)
theorem idx_app {L r : List Nat} {i : Nat} (hi : i ∈ L) : (L ++ r).idxOf i = L.idxOf i := by
  induction L with
  | nil => cases hi
  | cons x l ih =>
    by_cases h : x = i
    · subst h; simp
    · rw [List.cons_append, idx_ne h, idx_ne h, ih (by simpa [Ne.symm h] using hi)]
theorem rkN_app {mv : Nat → Nat} {L r : List Nat} {i : Nat} (hi : i ∈ L) : rkN mv (L ++ r) i = rkN mv L i := by
  have h := List.idxOf_lt_length_of_mem hi
  rw [rkN, rkN, idx_app hi, List.take_append_of_le_length (by omega)]
theorem rkN_last {mv : Nat → Nat} {L : List Nat} {a : Nat} (ha : a ∉ L) : rkN mv (L ++ [a]) a = (L.map mv).count (mv a) := by
  have : (L ++ [a]).idxOf a = L.length := by
    induction L with
    | nil => simp
    | cons x l ih =>
      have hx : x ≠ a := fun e => ha (by simp [e])
      rw [List.cons_append, idx_ne hx, ih (fun h => ha (by simp [h])), List.length_cons]
  rw [rkN, this, List.take_left]
theorem countP_upd {L : List Nat} {p : Nat → Bool} {i : Nat} (hn : L.Nodup) (hi : i ∈ L) (hp : p i = false) : L.countP (fun x => p x || x == i) = L.countP p + 1 := by
  induction L with
  | nil => cases hi
  | cons a r ih =>
    obtain ⟨h1, h2⟩ := List.nodup_cons.1 hn
    rw [List.countP_cons, List.countP_cons]
    rcases List.mem_cons.1 hi with e | e
    · subst e
      have : r.countP (fun x => p x || x == i) = r.countP p := List.countP_congr fun x hx => by
        have : x ≠ i := fun e => h1 (e ▸ hx)
        simp [this]
      rw [this]
      simp [hp]
    · have hai : a ≠ i := fun h => h1 (h ▸ e)
      rw [ih h2 e]
      have : (p a || a == i) = p a := by simp [hai]
      rw [this]
      split <;> omega
/-- What is kept, no image more often than it may be, is at most what greed keeps. -/
theorem greedy_most {mv : Nat → Nat} {c : Nat → Nat} : ∀ (n : Nat) (L : List Nat) (p : Nat → Bool), L.length = n → L.Nodup → (∀ S, L.countP (fun i => p i && mv i == S) ≤ c S) → L.countP p ≤ L.countP (fun i => decide (rkN mv L i < c (mv i)))
  | 0, L, p, h, _, _ => by rw [List.eq_nil_of_length_eq_zero h]; simp
  | n + 1, L, p, h, hn, hc => by
    obtain ⟨L', a, rfl⟩ : ∃ L' a, L = L' ++ [a] := by
      have hne : L ≠ [] := fun e => by rw [e] at h; simp at h
      exact ⟨L.dropLast, L.getLast hne, (List.dropLast_concat_getLast hne).symm⟩
    have hl : L'.length = n := by simpa using h
    obtain ⟨n1, _, n3⟩ := List.nodup_append.1 hn
    have haL : a ∉ L' := fun ha => n3 a ha a (by simp) rfl
    have hg : (L' ++ [a]).countP (fun i => decide (rkN mv (L' ++ [a]) i < c (mv i))) = L'.countP (fun i => decide (rkN mv L' i < c (mv i))) + (if (L'.map mv).count (mv a) < c (mv a) then 1 else 0) := by
      rw [List.countP_append]
      congr 1
      · exact List.countP_congr fun i hi => by rw [rkN_app hi]
      · rw [List.countP_singleton, rkN_last haL]
        simp
    have hc' : ∀ S, L'.countP (fun i => p i && mv i == S) + (if (p a && mv a == S) = true then 1 else 0) ≤ c S := fun S => by
      have := hc S
      rwa [List.countP_append, List.countP_singleton] at this
    rw [hg, List.countP_append, List.countP_singleton]
    by_cases hpa : p a = true
    · by_cases hlt : (L'.map mv).count (mv a) < c (mv a)
      · have := greedy_most (mv := mv) (c := c) n L' p hl n1 (fun S => by have := hc' S; omega)
        rw [if_pos hpa, if_pos hlt]
        omega
      · have hS := hc' (mv a)
        rw [if_pos (by simp [hpa])] at hS
        have hcnt : (L'.map mv).count (mv a) = L'.countP (fun i => mv i == mv a) := by
          rw [List.count_eq_countP, List.countP_map]
          rfl
        obtain ⟨i, hi, hi2, hi3⟩ : ∃ i, i ∈ L' ∧ p i = false ∧ mv i = mv a := by
          apply Classical.byContradiction
          intro hno
          have : L'.countP (fun i => p i && mv i == mv a) = L'.countP (fun i => mv i == mv a) := List.countP_congr fun i hi => by
            cases hp : p i with
            | true => simp
            | false =>
              have : ¬ mv i = mv a := fun e => hno ⟨i, hi, hp, e⟩
              simp [this]
          omega
        have hup := countP_upd n1 hi hi2
        have := greedy_most (mv := mv) (c := c) n L' (fun x => p x || x == i) hl n1 (fun S => by
          by_cases hSa : S = mv a
          · subst hSa
            have e : L'.countP (fun x => (p x || x == i) && mv x == mv a) = L'.countP (fun x => p x && mv x == mv a) + 1 := by
              have := countP_upd (p := fun x => p x && mv x == mv a) n1 hi (by simp [hi2])
              rw [← this]
              exact List.countP_congr fun x hx => by
                by_cases hxi : x = i
                · subst hxi; simp [hi3]
                · simp [hxi]
            rw [e]; exact hS
          · have e : L'.countP (fun x => (p x || x == i) && mv x == S) = L'.countP (fun x => p x && mv x == S) := List.countP_congr fun x hx => by
              by_cases hxi : x = i
              · subst hxi
                have : ¬ mv a = S := fun h => hSa h.symm
                simp [hi3, this]
              · simp [hxi]
            rw [e]
            have := hc' S
            omega)
        rw [hup] at this
        rw [if_pos hpa, if_neg hlt]
        omega
    · have := greedy_most (mv := mv) (c := c) n L' p hl n1 (fun S => by have := hc' S; omega)
      rw [if_neg hpa]
      omega
theorem keptN_sorted {A C D f : List Nat} (hD : ∀ i ∈ D, i < A.length) (hDn : D.Nodup) : keptN A C D f = (sortedL D).countP (fun i => decide (rkN (fun i => movedN (A.getD i 0) f) (sortedL D) i < C.count (movedN (A.getD i 0) f))) := by
  rw [keptN_eq hD hDn, ← (sortedL_permE D).countP_eq]
  refine List.countP_congr fun i hi => ?_
  rw [keepsN, rankN]
  have : rkN (fun i => movedN (A.getD i 0) f) (queueN A.length D) i = rkN (fun i => movedN (A.getD i 0) f) (sortedL D) i := rkN_app hi
  rw [rkN] at this

  rw [this]
end Go.Proofs.Ytheclfjbedajfaa


namespace Go.Proofs.Ytheclfjbedajfaa.Pd
set_option linter.unusedSimpArgs false
set_option linter.unusedVariables false
open Go.RowKit Go.Lib Go.Proofs.YtheclfjbedajfaaW.PrintWords Go.Proofs.Ytheclfjbedajfaa Go.Proofs.YtheclfjbedajfaaW.PrintMore

theorem places_len {S : Nat} : ∀ (C : List Nat) (k : Nat), ((List.range' k C.length).filter fun j => C.getD (j - k) 0 == S).length = C.count S
  | [], k => by simp
  | c :: r, k => by
    have ih := places_len (S := S) r (k + 1)
    rw [List.length_cons, List.range'_succ, List.filter_cons]
    have e : (List.range' (k + 1) r.length).filter (fun j => (c :: r).getD (j - k) 0 == S) = (List.range' (k + 1) r.length).filter (fun j => r.getD (j - (k + 1)) 0 == S) := List.filter_congr fun j hj => by
      have := (List.mem_range'_1.1 hj).1
      obtain ⟨d, rfl⟩ : ∃ d, j = k + 1 + d := ⟨j - (k + 1), by omega⟩
      rw [show k + 1 + d - k = d + 1 from by omega, show k + 1 + d - (k + 1) = d from by omega, List.getD_cons_succ]
    rw [e, Nat.sub_self, List.getD_cons_zero]
    by_cases h : c = S
    · subst h
      rw [if_pos (by simp), List.length_cons, ih, List.count_cons_self]
    · rw [if_neg (by simpa using h), ih, List.count_cons_of_ne h]
theorem fit_kept {A C D F : List Nat} {M : List Int} (h : Fit A C F M) (hD : ∀ i ∈ D, i < A.length) (hDn : D.Nodup) : (keptL M (il D)).length ≤ keptN A C D F := by
  have hlen := h.len
  have e1 : (keptL M (il D)).length = (sortedL D).countP (fun i : Nat => decide (0 ≤ rd M (i : Int))) := by
    rw [keptL, il, List.filter_map, List.length_map, ← List.countP_eq_length_filter, (sortedL_permE D).countP_eq]
    refine List.countP_congr fun i hi => ?_
    have := hD i hi
    simp only [Function.comp_apply, keepB, Bool.and_eq_true, decide_eq_true_eq]
    exact ⟨fun h => h.2, fun h => ⟨⟨by omega, by omega⟩, h⟩⟩
  have hsm : ∀ i ∈ sortedL D, i < A.length := fun i hi => hD i ((sortedL_permE D).mem_iff.1 hi)
  have hsn : (sortedL D).Nodup := (sortedL_permE D).nodup_iff.2 hDn
  rw [e1, keptN_sorted hD hDn]
  refine greedy_most (mv := fun i => movedN (A.getD i 0) F) (c := fun S => C.count S) _ (sortedL D) _ rfl hsn fun S => ?_
  rw [List.countP_eq_length_filter, ← places_len C 0, ← List.length_map (f := fun i : Nat => (rd M (i : Int)).toNat)]
  refine nodup_len ?_ ?_
  · rw [List.Nodup, List.pairwise_map]
    have hsub := hsn.sublist (List.filter_sublist (p := fun i : Nat => decide (0 ≤ rd M (i : Int)) && movedN (A.getD i 0) F == S))
    rw [List.Nodup] at hsub
    refine List.Pairwise.imp_of_mem ?_ hsub
    intro a b ha hb hab e
    obtain ⟨a1, a2⟩ := List.mem_filter.1 ha
    obtain ⟨b1, b2⟩ := List.mem_filter.1 hb
    simp only [Bool.and_eq_true, decide_eq_true_eq] at a2 b2
    exact h.inj a b (hsm a a1) (hsm b b1) hab (by omega) (by omega)
  · intro j hj
    obtain ⟨i, hi, rfl⟩ := List.mem_map.1 hj
    obtain ⟨i1, i2⟩ := List.mem_filter.1 hi
    simp only [Bool.and_eq_true, decide_eq_true_eq, beq_iff_eq] at i2
    rcases h.img i (hsm i i1) with e | ⟨q, e, hq⟩
    · omega
    · obtain ⟨hq1, hq2⟩ := List.getElem?_eq_some_iff.1 hq
      rw [e, Int.toNat_natCast]
      refine List.mem_filter.2 ⟨List.mem_range'_1.2 ⟨by omega, by omega⟩, ?_⟩
      rw [Nat.sub_zero, List.getD_eq_getElem?_getD, hq, ← i2.2]
      simp
theorem best_is_most {V U : Nat} {A C D F F2 : List Nat} {M : List Int} (h : Fit A C F M) (hD : ∀ i ∈ D, i < A.length) (hDn : D.Nodup) (hFV : F.length = V) (hF : ∀ q ∈ F, q < U) (hFn : F.Nodup) (hg : ∀ g ∈ lsL U V [], keptN A C D g ≤ keptN A C D F2) : (keptL M (il D)).length ≤ keptN A C D F2 :=
  Nat.le_trans (fit_kept h hD hDn) (hg F (by have := lsL_all (n := U) (l := V) (f := []) (r := F) (by simpa using hFn) hF hFV; simpa using this))
end Go.Proofs.Ytheclfjbedajfaa.Pd


namespace Go.Proofs.Ytheclfjbedajfaa.Pd
set_option linter.unusedSimpArgs false
set_option linter.unusedVariables false
open Go.RowKit Go.Lib Go.Proofs.YtheclfjbedajfaaW.PrintWords Go.Proofs.Ytheclfjbedajfaa Go.Proofs.YtheclfjbedajfaaW.PrintMore

theorem mvK_bit {s : Nat} {fs : List Nat} (q : Nat) : ∀ k, k ≤ fs.length → ((mvK s fs k).testBit q = true ↔ ∃ p, p < k ∧ s.testBit p = true ∧ fs[p]? = some q)
  | 0, _ => by simp [mvK]
  | k + 1, hk => by
    have hg : fs[k]? = some (fs[k]) := List.getElem?_eq_getElem hk
    have hd : fs.getD k 0 = fs[k] := by rw [List.getD_eq_getElem?_getD, hg]; rfl
    rw [mvK, Nat.testBit_or, Bool.or_eq_true, mvK_bit q k (by omega)]
    constructor
    · rintro (⟨p, h1, h2, h3⟩ | h)
      · exact ⟨p, by omega, h2, h3⟩
      · by_cases hs : s.testBit k = true
        · rw [if_pos hs, Nat.testBit_two_pow, decide_eq_true_eq] at h
          exact ⟨k, by omega, hs, by rw [hg, ← hd, h]⟩
        · rw [if_neg hs] at h; simp at h
    · rintro ⟨p, h1, h2, h3⟩
      rcases Nat.lt_or_ge p k with h | h
      · exact .inl ⟨p, h, h2, h3⟩
      · obtain rfl : p = k := by omega
        right
        rw [if_pos h2, Nat.testBit_two_pow, decide_eq_true_eq, hd]
        rw [hg] at h3
        exact Option.some.inj h3
theorem moved_bit {s q : Nat} {fs : List Nat} : (movedN s fs).testBit q = true ↔ ∃ p, s.testBit p = true ∧ fs[p]? = some q := by
  rw [movedN, mvK_bit q _ (Nat.le_refl _)]
  exact ⟨fun ⟨p, _, h⟩ => ⟨p, h⟩, fun ⟨p, h1, h2⟩ => ⟨p, (List.getElem?_eq_some_iff.1 h2).1, h1, h2⟩⟩
/-- One list of points after the other. -/
def compN (F G : List Nat) : List Nat := F.map fun p => G.getD p 0
theorem moved_comp {s : Nat} {F G : List Nat} (h : ∀ p ∈ F, p < G.length) : movedN s (compN F G) = movedN (movedN s F) G := by
  apply Nat.eq_of_testBit_eq
  intro q
  rw [Bool.eq_iff_iff, moved_bit, moved_bit]
  constructor
  · rintro ⟨p, h1, h2⟩
    rw [compN, List.getElem?_map] at h2
    obtain ⟨r, hr, hq⟩ := Option.map_eq_some_iff.1 h2
    refine ⟨r, moved_bit.2 ⟨p, h1, hr⟩, ?_⟩
    have hlt := h r (List.mem_of_getElem? hr)
    rw [← hq, List.getD_eq_getElem?_getD, List.getElem?_eq_getElem hlt]
    rfl
  · rintro ⟨r, h1, h2⟩
    obtain ⟨p, h3, h4⟩ := moved_bit.1 h1
    exact ⟨p, h3, by rw [compN, List.getElem?_map, h4]; simp [List.getD_eq_getElem?_getD, h2]⟩
theorem compN_len (F G : List Nat) : (compN F G).length = F.length := by simp [compN]
theorem compN_lt {F G : List Nat} {W : Nat} (h : ∀ p ∈ F, p < G.length) (hG : ∀ q ∈ G, q < W) : ∀ q ∈ compN F G, q < W := by
  intro q hq
  obtain ⟨p, hp, rfl⟩ := List.mem_map.1 hq
  exact hG _ (getD_mem (h p hp))
theorem compN_nodup {F G : List Nat} (h : ∀ p ∈ F, p < G.length) (hF : F.Nodup) (hG : G.Nodup) : (compN F G).Nodup := by
  rw [compN, List.Nodup, List.pairwise_map]
  rw [List.Nodup] at hF
  refine List.Pairwise.imp_of_mem ?_ hF
  intro a b ha hb hab e
  have h1 := h a ha
  have h2 := h b hb
  rw [List.getD_eq_getElem?_getD, List.getD_eq_getElem?_getD, List.getElem?_eq_getElem h1, List.getElem?_eq_getElem h2] at e
  exact hab ((List.getElem_inj hG).1 (by simpa using e))
/-- One list of blocks after the other. -/
def thenM (M M3 : List Int) : List Int := M.map fun j => if j ≥ 0 then rd M3 j else j
theorem thenM_len (M M3 : List Int) : (thenM M M3).length = M.length := by simp [thenM]
theorem rd_thenM {M M3 : List Int} {i : Nat} (hi : i < M.length) : rd (thenM M M3) (i : Int) = if rd M (i : Int) ≥ 0 then rd M3 (rd M (i : Int)) else rd M (i : Int) := by
  have h1 : M[i]? = some (M[i]) := List.getElem?_eq_getElem hi
  rw [rd_get h1]
  exact rd_get (by rw [thenM, List.getElem?_map, h1]; rfl)
theorem fit_comp {A C X F G : List Nat} {M M3 : List Int} (h1 : Fit A C F M) (h2 : Fit C X G M3) (hF : ∀ p ∈ F, p < G.length) : Fit A X (compN F G) (thenM M M3) := by
  have hl := h1.len
  have rdA : ∀ i, i < A.length → rd (thenM M M3) (i : Int) = -1 ∨ ∃ a : Nat, rd M (i : Int) = a ∧ a < C.length ∧ C[a]? = some (movedN (A.getD i 0) F) ∧ rd (thenM M M3) (i : Int) = rd M3 (a : Int) := fun i hi => by
    have e := rd_thenM (M := M) (M3 := M3) (i := i) (by omega)
    rcases h1.img i hi with h | ⟨a, h, hc⟩
    · left; rw [e, h]; rfl
    · right
      exact ⟨a, h, (List.getElem?_eq_some_iff.1 hc).1, hc, by rw [e, h, if_pos (nnI a)]⟩
  refine ⟨by rw [thenM_len, hl], fun i hi => ?_, fun i j hi hj hij hne => ?_⟩
  · rcases rdA i hi with h | ⟨a, _, ha, hc, e⟩
    · exact .inl h
    · rcases h2.img a ha with h | ⟨q, h, hq⟩
      · left; rw [e, h]
      · right
        refine ⟨q, by rw [e, h], ?_⟩
        rw [hq, moved_comp hF, List.getD_eq_getElem?_getD, hc]
        rfl
  · rcases rdA i hi with h | ⟨a, ha0, ha, _, e⟩
    · exact absurd h hne
    · rcases rdA j hj with h | ⟨b, hb0, hb, _, e'⟩
      · rw [h]; exact hne
      · rw [e, e']
        rw [e] at hne
        refine h2.inj a b ha hb (fun hab => ?_) hne
        have := h1.inj i j hi hj hij (by rw [ha0]; omega)
        rw [ha0, hb0, hab] at this
        exact this rfl
theorem take_snoc {α : Type} {l : List α} {i : Nat} {x : α} (h : l[i]? = some x) : l.take (i + 1) = l.take i ++ [x] := by
  rw [List.take_add_one, h]; rfl
theorem then_l1 {G M3 M F' : List Int} (hM : M.length < 1000) (hj : ∀ i, i < M.length → rd M (i : Int) = -1 ∨ (0 ≤ rd M (i : Int) ∧ rd M (i : Int) < (M3.length : Int))) :
    ∀ (n i : Nat), i + n = M.length → embed_Then.l1 (2 * n + 1) M (M.length : Int) (i : Int) G M3 F' ((thenM M M3).take i) = some (F', thenM M M3, 0) := by
  intro n
  induction n with
  | zero =>
    intro i hi
    obtain rfl : i = M.length := by omega
    rw [embed_Then.l1, if_neg (Int.lt_irrefl _), ← thenM_len M M3, List.take_length]
  | succ n ih =>
    intro i hi
    have hiM : i < M.length := by omega
    have hw := wrap_succ (j := i) (by omega)
    have IH := ih (i + 1) (by omega)
    have hg : (thenM M M3)[i]? = some ((thenM M M3)[i]'(by rw [thenM_len]; exact hiM)) := List.getElem?_eq_getElem _
    have hr := rd_get hg
    rw [take_snoc hg, ← hr, rd_thenM hiM] at IH
    have hT : ((thenM M M3).take i).length < 17592186044416 := by rw [List.length_take, thenM_len]; omega
    rw [show 2 * (n + 1) + 1 = 2 * n + 1 + 1 + 1 from rfl, embed_Then.l1, if_pos (ltI hiM), if_pos (nnI i), if_pos (ltI hiM)]
    rcases hj i hiM with h | ⟨h1, h2⟩
    · rw [h] at IH ⊢
      rw [if_neg (by decide : ¬ ((-1 : Int) ≥ 0))] at IH
      rw [if_neg (by decide : ¬ ((-1 : Int) < -1)), show decide ((-1 : Int) ≥ (M3.length : Int)) = false from by simp; omega, embed_Then.j2, if_neg (by decide), if_neg (by decide : ¬ ((-1 : Int) ≥ 0)), if_pos hT, hw]
      exact IH
    · rw [if_pos h1] at IH
      rw [if_neg (by omega), show decide (rd M (i : Int) ≥ (M3.length : Int)) = false from by simp; omega, embed_Then.j2, if_neg (by decide), if_pos h1, if_pos h1, if_pos h2, if_pos hT, hw]
      exact IH
theorem then_l0 {F G : List Nat} {M3 M : List Int} (hF : F.length < 1000) (hFG : ∀ p ∈ F, p < G.length) (hM : M.length < 1000) (hj : ∀ i, i < M.length → rd M (i : Int) = -1 ∨ (0 ≤ rd M (i : Int) ∧ rd M (i : Int) < (M3.length : Int))) :
    ∀ (n i : Nat), i + n = F.length → embed_Then.l0 (n + 1 + (2 * M.length + 1)) (il F) (F.length : Int) (i : Int) (il F) M (il G) M3 (il ((compN F G).take i)) = some (il (compN F G), thenM M M3, 0) := by
  intro n
  induction n with
  | zero =>
    intro i hi
    obtain rfl : i = F.length := by omega
    rw [show 0 + 1 + (2 * M.length + 1) = 2 * M.length + 1 + 1 from by omega, embed_Then.l0, if_neg (Int.lt_irrefl _), ← compN_len F G, List.take_length]
    exact then_l1 hM hj M.length 0 (by omega)
  | succ n ih =>
    intro i hi
    have hiF : i < F.length := by omega
    have hw := wrap_succ (j := i) (by omega)
    have IH := ih (i + 1) (by omega)
    have hgF : F[i]? = some (F[i]) := List.getElem?_eq_getElem hiF
    have hr : rd (il F) (i : Int) = ((F[i] : Nat) : Int) := rd_get (il_get hgF)
    have hp := hFG _ (List.getElem_mem hiF)
    have hgG : G[F[i]]? = some (G[F[i]]) := List.getElem?_eq_getElem hp
    have hr2 : rd (il G) ((F[i] : Nat) : Int) = ((G[F[i]] : Nat) : Int) := rd_get (il_get hgG)
    have hc : (compN F G)[i]? = some (G[F[i]]) := by rw [compN, List.getElem?_map, hgF]; simp [List.getD_eq_getElem?_getD, hgG]
    have hT : (il ((compN F G).take i)).length < 17592186044416 := by rw [il_length, List.length_take, compN_len]; omega
    have hl : (i : Int) < ((il F).length : Int) := by rw [il_length]; omega
    have hlG : ((F[i] : Nat) : Int) < ((il G).length : Int) := by rw [il_length]; omega
    rw [take_snoc hc, ← il_app] at IH
    rw [show n + 1 + 1 + (2 * M.length + 1) = n + 1 + (2 * M.length + 1) + 1 from by omega, embed_Then.l0, if_pos (ltI hiF), if_pos (nnI i), if_pos hl, hr, if_neg (by omega), if_neg (by omega), if_pos (nnI _), if_pos hlG, if_pos hT, hw, hr2]
    exact IH
theorem then_f {F G : List Nat} {M3 M : List Int} (hF : F.length < 1000) (hFG : ∀ p ∈ F, p < G.length) (hM : M.length < 1000) (hj : ∀ i, i < M.length → rd M (i : Int) = -1 ∨ (0 ≤ rd M (i : Int) ∧ rd M (i : Int) < (M3.length : Int))) :
    Ev (fun K => plexuslaw42_then.f K (il F) M (il G) M3) (il (compN F G), thenM M M3, 0) := by
  have h := then_l0 hF hFG hM hj F.length 0 (by omega)
  refine Ev.of_mono (K0 := F.length + 1 + (2 * M.length + 1)) (fun k => plexuslaw42_then.mono _ _ _ _ k) ?_
  unfold plexuslaw42_then.f embed_Then.f
  rw [il_length]
  have h' : embed_Then.l0 (F.length + 1 + (2 * M.length + 1)) (il F) (F.length : Int) 0 (il F) M (il G) M3 [] = some (il (compN F G), thenM M M3, 0) := h
  rw [h']
  rfl
/-- A structure of at most 7 points. -/
structure CpE (W : Nat) (X : List Nat) : Prop where
  w7 : W ≤ 7
  xl : X.length ≤ 14
  xb : ∀ b ∈ X, b < 2 ^ W
  sx : X.Pairwise (· ≤ ·)
theorem best_gen7 {V U : Nat} {A C D : List Nat} (hv : V ≤ 4) (hu : U ≤ 7) (hal : A.length ≤ 10) (hab : ∀ b ∈ A, b < 2 ^ V) (hcl : C.length ≤ 1000) (hcb : ∀ b ∈ C, b < 2 ^ U) (hD : ∀ i ∈ D, i < A.length) (hDn : D.Nodup) (hDl : D.length ≤ A.length) (hVU : V ≤ U) :
    ∃ F, plexuslaw42_best.f V (il A) U (il C) (il D) = some (il F, embM A C D F, 0) ∧ F.length = V ∧ (∀ q ∈ F, q < U) ∧ F.Nodup ∧ ∀ g ∈ lsL U V [], keptN A C D g ≤ keptN A C D F := by
  have h1 : (il A).length ≤ 12 := by rw [il_length]; exact Nat.le_trans hal (by decide)
  have h2 : (il C).length ≤ 1000 := by rw [il_length]; exact hcl
  have h3 : (il D).length < 1099511627776 := by rw [il_length]; exact Nat.lt_of_le_of_lt (Nat.le_trans hDl hal) (by decide)
  have h4 : okL 18446744073709551616 (il A) = true := okL_il fun b hb => Nat.lt_of_lt_of_le (hab b hb) (Nat.le_trans (Nat.pow_le_pow_right (by decide) hv) (by decide))
  have h5 : okL 18446744073709551616 (il C) = true := okL_il fun b hb => Nat.lt_of_lt_of_le (hcb b hb) (Nat.le_trans (Nat.pow_le_pow_right (by decide) hu) (by decide))
  have h6 : okI (il D) = true := okI_il fun q hq => Nat.lt_trans (hD q hq) (Nat.lt_of_le_of_lt hal (by decide))
  have e1 : diffB (il D) ((il A).length : Int) = true := by rw [il_length]; exact diffB_nat hD hDn
  obtain ⟨F, hF, he, hg⟩ := foldB_mem A C D (lsL U V []) (lsL_ne (fun _ h => by cases h) List.nodup_nil (by simpa using hVU))
  obtain ⟨g1, g2, g3⟩ := lsL_mem hF (fun _ h => by cases h) List.nodup_nil
  refine ⟨F, ?_, by simpa using g1, g2, g3, hg⟩
  unfold plexuslaw42_best.f embed_Best.f
  rw [if_pos ⟨h1, h2, h3, h4, h5, h6, nnI V, nnI U⟩, Option.bind_some]
  unfold bestF
  rw [if_neg (by omega), e1, if_neg (by decide), if_neg (by omega), nl_il, nl_il, nl_il, Int.toNat_natCast, Int.toNat_natCast, he]
theorem of_nil {U W : Nat} {C X G : List Nat} (hu : U ≤ 6) (hcl : C.length ≤ 14) (hcb : ∀ b ∈ C, b < 2 ^ U) (hx : CpE W X) (hGU : G.length = U) (hG : ∀ q ∈ G, q < W) (hGn : G.Nodup) : plexuslaw42_of.f U (il C) W (il X) (il G) [] = some (il G, embM C X [] G, 0) := by
  have hw := hx.w7
  have h1 : (il C).length ≤ 1000 := by rw [il_length]; exact Nat.le_trans hcl (by decide)
  have h2 : (il X).length ≤ 1000 := by rw [il_length]; exact Nat.le_trans hx.xl (by decide)
  have h3 : (il G).length < 1099511627776 := by rw [il_length, hGU]; exact Nat.lt_of_le_of_lt hu (by decide)
  have h4 : okL 18446744073709551616 (il C) = true := okL_il fun b hb => Nat.lt_of_lt_of_le (hcb b hb) (Nat.le_trans (Nat.pow_le_pow_right (by decide) hu) (by decide))
  have h5 : okL 18446744073709551616 (il X) = true := okL_il fun b hb => Nat.lt_of_lt_of_le (hx.xb b hb) (Nat.le_trans (Nat.pow_le_pow_right (by decide) hw) (by decide))
  have h7 : okI (il G) = true := okI_il fun q hq => Nat.lt_trans (hG q hq) (Nat.lt_of_le_of_lt hw (by decide))
  have h8 : (W : Int) ≤ 60 := by omega
  have g1 : ((il G).length : Int) = (U : Int) := by rw [il_length, hGU]
  have g2 : diffB (il G) (W : Int) = true := diffB_nat hG hGn
  have g3 : diffB [] ((il C).length : Int) = true := by simp [diffB_iff]
  have e0 : nl ([] : List Int) = [] := rfl
  unfold plexuslaw42_of.f embed_Of.f
  rw [if_pos ⟨.inr (by decide), h1, h2, h3, by decide, h4, h5, h7, rfl, nnI W, h8⟩, Option.bind_some]
  unfold ofF
  rw [if_pos ⟨g1, g2, g3⟩, nl_il, nl_il, nl_il, e0]
theorem fit_range {A C F : List Nat} {M : List Int} (h : Fit A C F M) {n : Nat} (hn : C.length = n) : ∀ i, i < M.length → rd M (i : Int) = -1 ∨ (0 ≤ rd M (i : Int) ∧ rd M (i : Int) < (n : Int)) := fun i hi => by
  rcases h.img i (by have := h.len; omega) with e | ⟨q, e, hq⟩
  · exact .inl e
  · have := (List.getElem?_eq_some_iff.1 hq).1
    right; rw [e]; omega
theorem then_plain {V U W : Nat} {A C D X : List Nat} (l : List Nat) (hp : MpE V U A C) (hx : CpE W X) (hD : ∀ i ∈ D, i < A.length) (hDn : D.Nodup) (hDl : D.length ≤ A.length) (hVU : V ≤ U) (hUW : U ≤ W) :
    ∃ (F2 F3 : List Nat) (K : Nat), F2.length = V ∧ F3.length = V ∧ ((shL l W).take U).length = U ∧
      plexuslaw42_best.f V (il A) U (il C) (il D) = some (il F2, embM A C D F2, 0) ∧ plexuslaw42_of.f U (il C) W (il X) (il ((shL l W).take U)) [] = some (il ((shL l W).take U), embM C X [] ((shL l W).take U), 0) ∧
      plexuslaw42_then.f K (il F2) (embM A C D F2) (il ((shL l W).take U)) (embM C X [] ((shL l W).take U)) = some (il (compN F2 ((shL l W).take U)), thenM (embM A C D F2) (embM C X [] ((shL l W).take U)), 0) ∧
      plexuslaw42_best.f V (il A) W (il X) (il D) = some (il F3, embM A X D F3, 0) ∧
      embed_Check.f K V (il A) W (il X) (il (compN F2 ((shL l W).take U))) (thenM (embM A C D F2) (embM C X [] ((shL l W).take U))) = some 0 ∧
      (keptL (thenM (embM A C D F2) (embM C X [] ((shL l W).take U))) (il D)).length ≤ (keptL (embM A X D F3) (il D)).length := by
  have hal := hp.al
  have hcl := hp.cl
  have hv4 := hp.v4
  have hu6 := hp.u6
  have hw7 := hx.w7
  have hxl := hx.xl
  obtain ⟨G, hGe⟩ : ∃ G, (shL l W).take U = G := ⟨_, rfl⟩
  have hGl : G.length = U := by rw [← hGe, List.length_take, shL_len]; omega
  have hGb : ∀ q ∈ G, q < W := by rw [← hGe]; exact fun q hq => shL_lt l W q (List.mem_of_mem_take hq)
  have hGn : G.Nodup := by rw [← hGe]; exact (shL_nodup l W).sublist (List.take_sublist _ _)
  rw [hGe]
  clear hGe
  obtain ⟨F2, b2, f1, f2, f3, _⟩ := best_gen7 hp.v4 (by omega : U ≤ 7) hp.al hp.ab (by omega) hp.cb hD hDn hDl hVU
  obtain ⟨F3, b3, _, _, _, g3⟩ := best_gen7 hp.v4 hx.w7 hp.al hp.ab (by omega : X.length ≤ 1000) hx.xb hD hDn hDl (Nat.le_trans hVU hUW)
  have hF3 : F3.length = V := by assumption
  have t1 : Fit A C F2 (embM A C D F2) := embM_fit hp.sc hD hDn
  have t2 : Fit C X G (embM C X [] G) := embM_fit hx.sx (fun i hi => by cases hi) List.nodup_nil
  have hFG : ∀ p ∈ F2, p < G.length := fun p hp => by rw [hGl]; exact f2 p hp
  have t3 := fit_comp t1 t2 hFG
  have c1 := compN_len F2 G
  have c2 := compN_lt hFG hGb
  have c3 := compN_nodup hFG f3 hGn
  obtain ⟨K1, k1⟩ := then_f (F := F2) (G := G) (M := embM A C D F2) (M3 := embM C X [] G) (by omega) hFG (by rw [embM_len]; omega) (fit_range t1 (by rw [embM_len]))
  obtain ⟨K2, k2⟩ := check_f t3 hp.v4 hp.ab (by omega) c2 c3 (by omega) (by omega) (by omega : X.length ≤ 500)
  refine ⟨F2, F3, max K1 K2, f1, hF3, hGl, b2, of_nil hp.u6 hp.cl hp.cb hx hGl hGb hGn, k1 _ (Nat.le_max_left _ _), b3, k2 _ (Nat.le_max_right _ _), ?_⟩
  have := best_is_most t3 hD hDn (by omega : (compN F2 G).length = V) c2 c3 g3
  rwa [keptN] at this
theorem made06 {l : List Int} (g : l.length < 2 ^ 63) (h : okL 256 l = true) : ∃ (W : Nat) (X : List Nat), plexusref06_Made.f l = some ((W : Int), il X) ∧ CpE W X := by
  obtain ⟨hu1, hu7⟩ := limV_bd (nl l) 7 (by decide)
  refine ⟨limV (nl l) 7, limB (nl l) 7, ?_, hu7, Nat.le_trans (limB_lenE (l := nl l) (m := 7)) (by decide), limB_memE (by decide) (by decide), limB_sorted⟩
  unfold plexusref06_Made.f plexusref06_Limited.f
  rw [if_pos ⟨g, h, by decide, by decide⟩]
  rfl
theorem image06 {V U : Nat} {A C : List Nat} (l : List Nat) (hp : MpE V U A C) : plexusref06_Image.f (U : Int) (il C) (il (shL l U)) = some ((U : Int), il (imL C (shL l U))) ∧ CpE U (imL C (shL l U)) := by
  have hu := hp.u6
  have hcl := hp.cl
  refine ⟨image_fE (by omega) (by omega) (fun b hb => Nat.lt_of_lt_of_le (hp.cb b hb) (Nat.pow_le_pow_right (by decide) (by omega))) (shL_len l U) (shL_lt l U) (shL_nodup l U), by omega, by rw [imL_len]; omega, fun b hb => ?_, sortedL_sorted _⟩
  obtain ⟨x, _, rfl⟩ := List.mem_map.1 ((sortedL_permE _).mem_iff.1 hb)
  exact mvK_lt (shL_lt l U) _ (Nat.le_refl _)
end Go.Proofs.Ytheclfjbedajfaa.Pd
