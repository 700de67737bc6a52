/- With a block more the best embedding keeps not less, and at most one block more; in plain Lean. -/
/- No embedding keeps more done blocks than the one along its own list; the lists are all lists; in plain Lean. -/
/- What Check says of any embedding, and that a right one keeps no more than the one along its list; no walk in sight. -/
import Derived.Test.YtheclfjbedajfaaEn
import Derived.Test.YtheclfjbedajfaaEe
namespace Go.Proofs.Ytheclfjbedajfaa
set_option linter.unusedSimpArgs false
set_option linter.unusedVariables false
open Go.RowKit Go.Lib Go.Proofs.YtheclfjbedajfaaW.PrintWords

/-- How many blocks ahead of block i have its image. -/
def rankN (A D f : List Nat) (i : Nat) : Nat := (((queueN A.length D).take ((queueN A.length D).idxOf i)).map (fun i => movedN (A.getD i 0) f)).count (movedN (A.getD i 0) f)
def keepsN (A C D f : List Nat) (i : Nat) : Bool := decide (rankN A D f i < C.count (movedN (A.getD i 0) f))
theorem keptN_eq {A C D f : List Nat} (hD : ∀ i ∈ D, i < A.length) (hDn : D.Nodup) : keptN A C D f = D.countP (keepsN A C D f) := by
  rw [keptN, keptL, il, List.filter_map, List.length_map, ← List.countP_eq_length_filter]
  refine List.countP_congr fun i hi => ?_
  have hiA := hD i hi
  have hr : rd (embM A C D f) (i : Int) = goN A C D f i := embM_get hD hDn hiA
  have hl := embM_len A C D f
  rw [goN, alongAt_of (queueN_mem hiA)] at hr
  simp only [Function.comp_apply, keepB, keepsN, rankN, Bool.and_eq_true, decide_eq_true_eq]
  rw [hr, hl]
  split
  · rename_i h
    exact ⟨fun _ => by simpa using h, fun _ => ⟨⟨by omega, by omega⟩, by omega⟩⟩
  · rename_i h
    exact ⟨fun h' => absurd h'.2 (by decide), fun h' => absurd (by simpa using h') h⟩
end Go.Proofs.Ytheclfjbedajfaa


namespace Go.Proofs.Ytheclfjbedajfaa
set_option linter.unusedSimpArgs false
set_option linter.unusedVariables false
open Go.RowKit Go.Lib Go.Proofs.YtheclfjbedajfaaW.PrintWords

theorem lsL_all {n : Nat} : ∀ {l : Nat} {f r : List Nat}, (f ++ r).Nodup → (∀ q ∈ r, q < n) → r.length = l → f ++ r ∈ lsL n l f
  | 0, f, r, _, _, h => by
    rw [List.eq_nil_of_length_eq_zero h, List.append_nil, lsL]; simp
  | l + 1, f, [], _, _, h => by simp at h
  | l + 1, f, p :: r, hn, hq, h => by
    have hpf : p ∉ f := fun hp => (List.nodup_append.1 hn).2.2 p hp p (by simp) rfl
    rw [lsL, List.mem_flatMap]
    refine ⟨p, List.mem_range.2 (hq p (by simp)), ?_⟩
    rw [if_neg hpf]
    have := lsL_all (n := n) (l := l) (f := f ++ [p]) (r := r) (by rw [List.append_assoc]; exact hn) (fun q h => hq q (by simp [h])) (by simpa using h)
    rwa [List.append_assoc] at this
/-- How many ahead of i in L have its image. -/
def rkN (mv : Nat → Nat) (L : List Nat) (i : Nat) : Nat := ((L.take (L.idxOf i)).map mv).count (mv i)
theorem idx_app {L r : List Nat} {i : Nat} (hi : i ∈ L) : (L ++ r).idxOf i = L.idxOf i := by
  induction L with
  | nil => cases hi
  | cons x l ih =>
    by_cases h : x = i
    · subst h; simp
    · rw [List.cons_append, idx_ne h, idx_ne h, ih (by simpa [Ne.symm h] using hi)]
theorem rkN_app {mv : Nat → Nat} {L r : List Nat} {i : Nat} (hi : i ∈ L) : rkN mv (L ++ r) i = rkN mv L i := by
  have h := List.idxOf_lt_length_of_mem hi
  rw [rkN, rkN, idx_app hi, List.take_append_of_le_length (by omega)]
theorem rkN_last {mv : Nat → Nat} {L : List Nat} {a : Nat} (ha : a ∉ L) : rkN mv (L ++ [a]) a = (L.map mv).count (mv a) := by
  have : (L ++ [a]).idxOf a = L.length := by
    induction L with
    | nil => simp
    | cons x l ih =>
      have hx : x ≠ a := fun e => ha (by simp [e])
      rw [List.cons_append, idx_ne hx, ih (fun h => ha (by simp [h])), List.length_cons]
  rw [rkN, this, List.take_left]
theorem countP_upd {L : List Nat} {p : Nat → Bool} {i : Nat} (hn : L.Nodup) (hi : i ∈ L) (hp : p i = false) : L.countP (fun x => p x || x == i) = L.countP p + 1 := by
  induction L with
  | nil => cases hi
  | cons a r ih =>
    obtain ⟨h1, h2⟩ := List.nodup_cons.1 hn
    rw [List.countP_cons, List.countP_cons]
    rcases List.mem_cons.1 hi with e | e
    · subst e
      have : r.countP (fun x => p x || x == i) = r.countP p := List.countP_congr fun x hx => by
        have : x ≠ i := fun e => h1 (e ▸ hx)
        simp [this]
      rw [this]
      simp [hp]
    · have hai : a ≠ i := fun h => h1 (h ▸ e)
      rw [ih h2 e]
      have : (p a || a == i) = p a := by simp [hai]
      rw [this]
      split <;> omega
/-- What is kept, no image more often than it may be, is at most what greed keeps. -/
theorem greedy_most {mv : Nat → Nat} {c : Nat → Nat} : ∀ (n : Nat) (L : List Nat) (p : Nat → Bool), L.length = n → L.Nodup → (∀ S, L.countP (fun i => p i && mv i == S) ≤ c S) → L.countP p ≤ L.countP (fun i => decide (rkN mv L i < c (mv i)))
  | 0, L, p, h, _, _ => by rw [List.eq_nil_of_length_eq_zero h]; simp
  | n + 1, L, p, h, hn, hc => by
    obtain ⟨L', a, rfl⟩ : ∃ L' a, L = L' ++ [a] := by
      have hne : L ≠ [] := fun e => by rw [e] at h; simp at h
      exact ⟨L.dropLast, L.getLast hne, (List.dropLast_concat_getLast hne).symm⟩
    have hl : L'.length = n := by simpa using h
    obtain ⟨n1, _, n3⟩ := List.nodup_append.1 hn
    have haL : a ∉ L' := fun ha => n3 a ha a (by simp) rfl
    have hg : (L' ++ [a]).countP (fun i => decide (rkN mv (L' ++ [a]) i < c (mv i))) = L'.countP (fun i => decide (rkN mv L' i < c (mv i))) + (if (L'.map mv).count (mv a) < c (mv a) then 1 else 0) := by
      rw [List.countP_append]
      congr 1
      · exact List.countP_congr fun i hi => by rw [rkN_app hi]
      · rw [List.countP_singleton, rkN_last haL]
        simp
    have hc' : ∀ S, L'.countP (fun i => p i && mv i == S) + (if (p a && mv a == S) = true then 1 else 0) ≤ c S := fun S => by
      have := hc S
      rwa [List.countP_append, List.countP_singleton] at this
    rw [hg, List.countP_append, List.countP_singleton]
    by_cases hpa : p a = true
    · by_cases hlt : (L'.map mv).count (mv a) < c (mv a)
      · have := greedy_most (mv := mv) (c := c) n L' p hl n1 (fun S => by have := hc' S; omega)
        rw [if_pos hpa, if_pos hlt]
        omega
      · have hS := hc' (mv a)
        rw [if_pos (by simp [hpa])] at hS
        have hcnt : (L'.map mv).count (mv a) = L'.countP (fun i => mv i == mv a) := by
          rw [List.count_eq_countP, List.countP_map]
          rfl
        obtain ⟨i, hi, hi2, hi3⟩ : ∃ i, i ∈ L' ∧ p i = false ∧ mv i = mv a := by
          apply Classical.byContradiction
          intro hno
          have : L'.countP (fun i => p i && mv i == mv a) = L'.countP (fun i => mv i == mv a) := List.countP_congr fun i hi => by
            cases hp : p i with
            | true => simp
            | false =>
              have : ¬ mv i = mv a := fun e => hno ⟨i, hi, hp, e⟩
              simp [this]
          omega
        have hup := countP_upd n1 hi hi2
        have := greedy_most (mv := mv) (c := c) n L' (fun x => p x || x == i) hl n1 (fun S => by
          by_cases hSa : S = mv a
          · subst hSa
            have e : L'.countP (fun x => (p x || x == i) && mv x == mv a) = L'.countP (fun x => p x && mv x == mv a) + 1 := by
              have := countP_upd (p := fun x => p x && mv x == mv a) n1 hi (by simp [hi2])
              rw [← this]
              exact List.countP_congr fun x hx => by
                by_cases hxi : x = i
                · subst hxi; simp [hi3]
                · simp [hxi]
            rw [e]; exact hS
          · have e : L'.countP (fun x => (p x || x == i) && mv x == S) = L'.countP (fun x => p x && mv x == S) := List.countP_congr fun x hx => by
              by_cases hxi : x = i
              · subst hxi
                have : ¬ mv a = S := fun h => hSa h.symm
                simp [hi3, this]
              · simp [hxi]
            rw [e]
            have := hc' S
            omega)
        rw [hup] at this
        rw [if_pos hpa, if_neg hlt]
        omega
    · have := greedy_most (mv := mv) (c := c) n L' p hl n1 (fun S => by have := hc' S; omega)
      rw [if_neg hpa]
      omega
theorem keptN_sorted {A C D f : List Nat} (hD : ∀ i ∈ D, i < A.length) (hDn : D.Nodup) : keptN A C D f = (sortedL D).countP (fun i => decide (rkN (fun i => movedN (A.getD i 0) f) (sortedL D) i < C.count (movedN (A.getD i 0) f))) := by
  rw [keptN_eq hD hDn, ← (sortedL_permE D).countP_eq]
  refine List.countP_congr fun i hi => ?_
  rw [keepsN, rankN]
  have : rkN (fun i => movedN (A.getD i 0) f) (queueN A.length D) i = rkN (fun i => movedN (A.getD i 0) f) (sortedL D) i := rkN_app hi
  rw [rkN] at this

  rw [this]
end Go.Proofs.Ytheclfjbedajfaa


namespace Go.Proofs.Ytheclfjbedajfaa.Pd
set_option linter.unusedSimpArgs false
set_option linter.unusedVariables false
open Go.RowKit Go.Lib Go.Proofs.YtheclfjbedajfaaW.PrintWords Go.Proofs.Ytheclfjbedajfaa Go.Proofs.YtheclfjbedajfaaW.PrintMore

theorem places_len {S : Nat} : ∀ (C : List Nat) (k : Nat), ((List.range' k C.length).filter fun j => C.getD (j - k) 0 == S).length = C.count S
  | [], k => by simp
  | c :: r, k => by
    have ih := places_len (S := S) r (k + 1)
    rw [List.length_cons, List.range'_succ, List.filter_cons]
    have e : (List.range' (k + 1) r.length).filter (fun j => (c :: r).getD (j - k) 0 == S) = (List.range' (k + 1) r.length).filter (fun j => r.getD (j - (k + 1)) 0 == S) := List.filter_congr fun j hj => by
      have := (List.mem_range'_1.1 hj).1
      obtain ⟨d, rfl⟩ : ∃ d, j = k + 1 + d := ⟨j - (k + 1), by omega⟩
      rw [show k + 1 + d - k = d + 1 from by omega, show k + 1 + d - (k + 1) = d from by omega, List.getD_cons_succ]
    rw [e, Nat.sub_self, List.getD_cons_zero]
    by_cases h : c = S
    · subst h
      rw [if_pos (by simp), List.length_cons, ih, List.count_cons_self]
    · rw [if_neg (by simpa using h), ih, List.count_cons_of_ne h]
theorem fit_kept {A C D F : List Nat} {M : List Int} (h : Fit A C F M) (hD : ∀ i ∈ D, i < A.length) (hDn : D.Nodup) : (keptL M (il D)).length ≤ keptN A C D F := by
  have hlen := h.len
  have e1 : (keptL M (il D)).length = (sortedL D).countP (fun i : Nat => decide (0 ≤ rd M (i : Int))) := by
    rw [keptL, il, List.filter_map, List.length_map, ← List.countP_eq_length_filter, (sortedL_permE D).countP_eq]
    refine List.countP_congr fun i hi => ?_
    have := hD i hi
    simp only [Function.comp_apply, keepB, Bool.and_eq_true, decide_eq_true_eq]
    exact ⟨fun h => h.2, fun h => ⟨⟨by omega, by omega⟩, h⟩⟩
  have hsm : ∀ i ∈ sortedL D, i < A.length := fun i hi => hD i ((sortedL_permE D).mem_iff.1 hi)
  have hsn : (sortedL D).Nodup := (sortedL_permE D).nodup_iff.2 hDn
  rw [e1, keptN_sorted hD hDn]
  refine greedy_most (mv := fun i => movedN (A.getD i 0) F) (c := fun S => C.count S) _ (sortedL D) _ rfl hsn fun S => ?_
  rw [List.countP_eq_length_filter, ← places_len C 0, ← List.length_map (f := fun i : Nat => (rd M (i : Int)).toNat)]
  refine nodup_len ?_ ?_
  · rw [List.Nodup, List.pairwise_map]
    have hsub := hsn.sublist (List.filter_sublist (p := fun i : Nat => decide (0 ≤ rd M (i : Int)) && movedN (A.getD i 0) F == S))
    rw [List.Nodup] at hsub
    refine List.Pairwise.imp_of_mem ?_ hsub
    intro a b ha hb hab e
    obtain ⟨a1, a2⟩ := List.mem_filter.1 ha
    obtain ⟨b1, b2⟩ := List.mem_filter.1 hb
    simp only [Bool.and_eq_true, decide_eq_true_eq] at a2 b2
    exact h.inj a b (hsm a a1) (hsm b b1) hab (by omega) (by omega)
  · intro j hj
    obtain ⟨i, hi, rfl⟩ := List.mem_map.1 hj
    obtain ⟨i1, i2⟩ := List.mem_filter.1 hi
    simp only [Bool.and_eq_true, decide_eq_true_eq, beq_iff_eq] at i2
    rcases h.img i (hsm i i1) with e | ⟨q, e, hq⟩
    · omega
    · obtain ⟨hq1, hq2⟩ := List.getElem?_eq_some_iff.1 hq
      rw [e, Int.toNat_natCast]
      refine List.mem_filter.2 ⟨List.mem_range'_1.2 ⟨by omega, by omega⟩, ?_⟩
      rw [Nat.sub_zero, List.getD_eq_getElem?_getD, hq, ← i2.2]
      simp
theorem best_is_most {V U : Nat} {A C D F F2 : List Nat} {M : List Int} (h : Fit A C F M) (hD : ∀ i ∈ D, i < A.length) (hDn : D.Nodup) (hFV : F.length = V) (hF : ∀ q ∈ F, q < U) (hFn : F.Nodup) (hg : ∀ g ∈ lsL U V [], keptN A C D g ≤ keptN A C D F2) : (keptL M (il D)).length ≤ keptN A C D F2 :=
  Nat.le_trans (fit_kept h hD hDn) (hg F (by have := lsL_all (n := U) (l := V) (f := []) (r := F) (by simpa using hFn) hF hFV; simpa using this))
theorem okI_sub {M : List Int} (h : okI M = true) (i : Nat) : okI (takenL M i) = true := okI_iff.2 fun x hx => okI_iff.1 h x (List.mem_of_mem_take (List.mem_filter.1 hx).1)
theorem check_any_loop {A C F : List Nat} {M : List Int} {V U : Nat} (hlen : M.length = A.length) (hM : okI M = true) (hV : V ≤ 4) (hab : ∀ b ∈ A, b < 2 ^ V) (hF : ∀ q ∈ F, q < U) (hU : U ≤ 60) (hFl : F.length ≤ 60) (hA : A.length ≤ 100) (hC : C.length ≤ 500) (a0 u0 : Int) :
    ∀ (n i : Nat), i + n = M.length → ∃ r, embed_Check.l0 (n + 1) (takenL M i) M (M.length : Int) (i : Int) a0 (il A) u0 (il C) (il F) M = some r ∧
      (r = 0 → (∀ j, i ≤ j → j < A.length → rd M (j : Int) = -1 ∨ ∃ q : Nat, rd M (j : Int) = q ∧ C[q]? = some (movedN (A.getD j 0) F)) ∧ diffB (takenL M M.length) (C.length : Int) = true) := by
  intro n
  induction n with
  | zero =>
    intro i hi
    obtain rfl : i = M.length := by omega
    have hl := takenL_len (M := M) (i := M.length)
    have hd := diff_f (l := takenL M M.length) (n := (C.length : Int)) (by omega) (okI_sub hM _)
    unfold embed_Check.l0
    rw [if_neg (Int.lt_irrefl _), il_length, hd, Option.bind_some]
    cases hb : diffB (takenL M M.length) (C.length : Int) with
    | true => exact ⟨0, by rw [if_pos rfl], fun _ => ⟨fun j h1 h2 => by omega, rfl⟩⟩
    | false => exact ⟨420, by rw [if_neg (by decide)], fun h => by cases h⟩
  | succ n ih =>
    intro i hi
    have hiM : i < M.length := by omega
    have hiA : i < A.length := by omega
    have hw := wrap_succ (j := i) (by omega)
    have hg : M[i]? = some (M[i]) := List.getElem?_eq_getElem hiM
    have hr := rd_get hg
    have hts := takenL_succ hg
    obtain ⟨r, hl, hr0⟩ := ih (i + 1) (by omega)
    have hT : (takenL M i).length < 17592186044416 := by have := takenL_len (M := M) (i := i); omega
    have step : ∀ (P : rd M (i : Int) = -1 ∨ ∃ q : Nat, rd M (i : Int) = q ∧ C[q]? = some (movedN (A.getD i 0) F)), r = 0 → (∀ j, i ≤ j → j < A.length → rd M (j : Int) = -1 ∨ ∃ q : Nat, rd M (j : Int) = q ∧ C[q]? = some (movedN (A.getD j 0) F)) ∧ diffB (takenL M M.length) (C.length : Int) = true := fun P h0 =>
      ⟨fun j h1 h2 => by
        rcases Nat.eq_or_lt_of_le h1 with e | e
        · subst e; exact P
        · exact (hr0 h0).1 j e h2, (hr0 h0).2⟩
    unfold embed_Check.l0
    rw [if_pos (ltI hiM), if_pos (nnI i), if_pos (ltI hiM), hw]
    by_cases h1 : rd M (i : Int) = -1
    · rw [if_pos h1]
      rw [hts, if_neg (by rw [← hr, h1]; simp), List.append_nil] at hl
      exact ⟨r, hl, step (.inl h1)⟩
    · rw [if_neg h1]
      by_cases h2 : rd M (i : Int) < 0
      · rw [if_pos h2]
        exact ⟨420, rfl, fun h => by cases h⟩
      · rw [if_neg h2]
        by_cases h3 : rd M (i : Int) ≥ ((il C).length : Int)
        · rw [if_pos h3]
          exact ⟨420, rfl, fun h => by cases h⟩
        · obtain ⟨q, hq⟩ : ∃ q : Nat, rd M (i : Int) = q := ⟨(rd M (i : Int)).toNat, by omega⟩
          have hqC : q < C.length := by rw [il_length] at h3; omega
          have hcl2 : (q : Int) < ((il C).length : Int) := by rw [il_length]; omega
          have hAl : (i : Int) < ((il A).length : Int) := by rw [il_length]; omega
          have hC2 : rd (il C) (q : Int) = ((C[q] : Nat) : Int) := rd_get (il_get (List.getElem?_eq_getElem hqC))
          rw [if_neg h3, hq, if_pos (nnI q), if_pos hcl2, if_pos hAl, moved_fE hV hab hF hU hFl hiA, Option.bind_some, hC2]
          by_cases h4 : ((C[q] : Nat) : Int) = ((movedN (A.getD i 0) F : Nat) : Int)
          · rw [if_pos h4, if_pos hT]
            rw [hts, if_pos (by rw [← hr]; exact h1), ← hr, hq] at hl
            exact ⟨r, hl, step (.inr ⟨q, hq, by rw [List.getElem?_eq_getElem hqC]; congr 1; omega⟩)⟩
          · rw [if_neg h4]
            exact ⟨420, rfl, fun h => by cases h⟩
theorem check_any {A C : List Nat} {E M : List Int} {V U : Nat} (hE : okI E = true) (hM : okI M = true) (hEl : E.length ≤ 20) (hMl : M.length ≤ 20) (hV : V ≤ 4) (hab : ∀ b ∈ A, b < 2 ^ V) (hU : U ≤ 60) (hA : A.length ≤ 100) (hC : C.length ≤ 500) :
    ∃ K r, embed_Check.f K V (il A) U (il C) E M = some r ∧ (r = 0 → ∃ F, E = il F ∧ F.length = V ∧ (∀ q ∈ F, q < U) ∧ F.Nodup ∧ Fit A C F M) := by
  have bad : ∀ r : Int, r = 420 → (r = 0 → ∃ F, E = il F ∧ F.length = V ∧ (∀ q ∈ F, q < U) ∧ F.Nodup ∧ Fit A C F M) := fun r h h0 => by omega
  have j0 : embed_Check.j0 (0 + 1) true V (il A) U (il C) E M = some 420 := by rw [embed_Check.j0, if_pos rfl]
  by_cases h1 : (E.length : Int) = (V : Int)
  · by_cases h2 : (M.length : Int) = ((il A).length : Int)
    · have hd := diff_f (l := E) (n := (U : Int)) (by omega) hE
      cases hb : diffB E (U : Int) with
      | false =>
        refine ⟨1, 420, ?_, bad 420 rfl⟩
        unfold embed_Check.f
        rw [if_pos h1, if_pos h2, hd, hb, Option.bind_some]
        exact j0
      | true =>
        obtain ⟨e1, e2, e3, _⟩ := diff_nl hb
        have hlen : M.length = A.length := by rw [il_length] at h2; omega
        have hF : ∀ q ∈ nl E, q < U := fun q hq => by have := e2 q hq; omega
        obtain ⟨r, hl, hr⟩ := check_any_loop hlen hM hV hab hF hU (by rw [nl_length]; omega) hA hC (V : Int) (U : Int) M.length 0 (by omega)
        rw [e1] at hl
        refine ⟨M.length + 2, r, ?_, fun h0 => ⟨nl E, e1.symm, by rw [nl_length]; omega, hF, e3, hlen, fun i hi => (hr h0).1 i (Nat.zero_le _) hi, fun i j hi hj hij h0' => ?_⟩⟩
        · unfold embed_Check.f
          rw [if_pos h1, if_pos h2, hd, hb, Option.bind_some, show M.length + 2 = (M.length + 1) + 1 from rfl, embed_Check.j0, if_neg (by decide)]
          exact hl
        · have hnd := (diffB_iff.1 (hr h0).2).2
          rw [takenL, List.take_length, List.Nodup, List.pairwise_filter] at hnd
          have hp := List.pairwise_iff_getElem.1 hnd
          have r1 := rd_get (List.getElem?_eq_getElem (show i < M.length by omega))
          have r2 := rd_get (List.getElem?_eq_getElem (show j < M.length by omega))
          rw [r1] at h0' ⊢
          rw [r2]
          rcases Nat.lt_or_gt_of_ne hij with h | h
          · intro e
            exact hp i j (by omega) (by omega) h (by simpa using h0') (by rw [← e]; simpa using h0') e
          · intro e
            exact hp j i (by omega) (by omega) h (by rw [← e]; simpa using h0') (by simpa using h0') e.symm
    · refine ⟨1, 420, ?_, bad 420 rfl⟩
      unfold embed_Check.f
      rw [if_pos h1, if_neg h2]
      exact j0
  · refine ⟨1, 420, ?_, bad 420 rfl⟩
    unfold embed_Check.f
    rw [if_neg h1]
    exact j0
end Go.Proofs.Ytheclfjbedajfaa.Pd
