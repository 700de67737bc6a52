/- EmbedFits answers true for whatever bytes: what the printed law computes, put together; no walk in sight. -/
import Derived.Test.YtheclfjbedajfaaEn
import Derived.Test.YtheclfjbedajfaaPdx11
namespace Go.Proofs.Ytheclfjbedajfaa.Pd
set_option linter.unusedSimpArgs false
set_option linter.unusedVariables false
open Go.RowKit Go.Lib Go.Proofs.YtheclfjbedajfaaW.PrintWords Go.Proofs.Ytheclfjbedajfaa Go.Proofs.YtheclfjbedajfaaW.PrintMore

/-- From some number of rounds on, the same answer. -/
def Ev {α : Type} (g : Nat → Option α) (r : α) : Prop := ∃ K0, ∀ K, K0 ≤ K → g K = some r
theorem Ev.const {α : Type} {g : Nat → Option α} {r : α} (h : ∀ K, g K = some r) : Ev g r := ⟨0, fun K _ => h K⟩
theorem Ev.of_mono {α : Type} {g : Nat → Option α} {r : α} {K0 : Nat} (hm : ∀ k, LeO (g k) (g (k + 1))) (h : g K0 = some r) : Ev g r :=
  ⟨K0, fun K hK => by
    obtain ⟨d, rfl⟩ : ∃ d, K = K0 + d := ⟨K - K0, by omega⟩
    clear hK
    induction d with
    | zero => exact h
    | succ d ih => exact hm _ _ ih⟩
theorem Ev.succ {α : Type} {g g' : Nat → Option α} {r : α} (hs : ∀ k, g (k + 1) = g' k) (h : Ev g' r) : Ev g r := by
  obtain ⟨K0, h⟩ := h
  refine ⟨K0 + 1, fun K hK => ?_⟩
  obtain ⟨k, rfl⟩ : ∃ k, K = k + 1 := ⟨K - 1, by omega⟩
  rw [hs]
  exact h k (by omega)
theorem Ev.bind {α β : Type} {g : Nat → Option α} {f : Nat → α → Option β} {a : α} {r : β} (h : Ev g a) (hf : Ev (fun k => f k a) r) : Ev (fun k => (g k).bind (f k)) r := by
  obtain ⟨K0, h⟩ := h
  obtain ⟨K1, hf⟩ := hf
  exact ⟨max K0 K1, fun K hK => by show (g K).bind (f K) = _; rw [h K (by omega), Option.bind_some]; exact hf K (by omega)⟩
theorem Ev.eq {α : Type} {g g' : Nat → Option α} {r : α} (he : ∀ k, g k = g' k) (h : Ev g' r) : Ev g r := by
  obtain ⟨K0, h⟩ := h
  exact ⟨K0, fun K hK => (he K).trans (h K hK)⟩

theorem okI_il {l : List Nat} (h : ∀ q ∈ l, q < 1000) : okI (il l) = true := okI_iff.2 fun x hx => by
  obtain ⟨i, hi, rfl⟩ := List.mem_map.1 hx
  have := h i hi
  simp [Lit.wf, IntKind.min, IntKind.max, IntKind.signed, IntKind.bits]
  omega
theorem doneL_lt {s n : Nat} : ∀ i ∈ doneL s n, i < n := fun i hi => List.mem_range.1 (List.mem_filter.1 hi).1
theorem doneL_nodup {s n : Nat} : (doneL s n).Nodup := List.nodup_range.sublist List.filter_sublist
theorem doneL_len {s n : Nat} : (doneL s n).length ≤ n := by
  have := List.length_filter_le (fun i => s.testBit i) (List.range n)
  rwa [List.length_range] at this
theorem rd_get {l : List Int} {i : Nat} {x : Int} (h : l[i]? = some x) : rd l (i : Int) = x := by
  unfold rd
  rw [List.getD_eq_getElem?_getD, Int.toNat_natCast, h]
  rfl
theorem il_get {l : List Nat} {i x : Nat} (h : l[i]? = some x) : (il l)[i]? = some (x : Int) := by simp [il, h]
/-- What Check takes for an embedding's list of blocks. -/
structure Fit (A C F : List Nat) (M : List Int) : Prop where
  len : M.length = A.length
  img : ∀ i, i < A.length → rd M (i : Int) = -1 ∨ ∃ j : Nat, rd M (i : Int) = j ∧ C[j]? = some (movedN (A.getD i 0) F)
  inj : ∀ i j, i < A.length → j < A.length → i ≠ j → rd M (i : Int) ≠ -1 → rd M (i : Int) ≠ rd M (j : Int)
theorem embM_fit {A C ds F : List Nat} (hs : C.Pairwise (· ≤ ·)) (h1 : ∀ i ∈ ds, i < A.length) (h2 : ds.Nodup) : Fit A C F (embM A C ds F) :=
  ⟨embM_len A C ds F, fun i hi => by rw [embM_get h1 h2 hi]; exact goN_img hs hi, fun i j hi hj hij h => by rw [embM_get h1 h2 hi] at h ⊢; rw [embM_get h1 h2 hj]; exact goN_inj hs h2 hi hj hij h⟩
def takenL (M : List Int) (i : Nat) : List Int := (M.take i).filter fun x => decide (x ≠ -1)
theorem takenL_succ {M : List Int} {i : Nat} {x : Int} (h : M[i]? = some x) : takenL M (i + 1) = takenL M i ++ (if x ≠ -1 then [x] else []) := by
  rw [takenL, List.take_add_one, h, takenL, List.filter_append]
  congr 1
  by_cases hx : x = -1 <;> simp [hx]
theorem takenL_diff {A C F : List Nat} {M : List Int} (h : Fit A C F M) : diffB (takenL M M.length) (C.length : Int) = true := by
  rw [takenL, List.take_length]
  refine diffB_iff.2 ⟨fun x hx => ?_, ?_⟩
  · obtain ⟨h1, h2⟩ := List.mem_filter.1 hx
    obtain ⟨i, hi, hie⟩ := List.getElem_of_mem h1
    have hg : M[i]? = some x := by rw [List.getElem?_eq_getElem hi, hie]
    have hr := rd_get hg
    have hx1 : x ≠ -1 := by simpa using h2
    rcases h.img i (by have := h.len; omega) with e | ⟨j, e, hj⟩
    · rw [hr] at e; exact absurd e hx1
    · rw [hr] at e
      obtain ⟨hj1, _⟩ := List.getElem?_eq_some_iff.1 hj
      omega
  · have hp : M.Pairwise (fun a b => a ≠ -1 → a ≠ b) := by
      rw [List.pairwise_iff_getElem]
      intro i j hi hj hij h0
      have e1 := rd_get (List.getElem?_eq_getElem hi)
      have e2 := rd_get (List.getElem?_eq_getElem hj)
      rw [← e1, ← e2]
      rw [← e1] at h0
      have := h.len
      exact h.inj i j (by omega) (by omega) (by omega) h0
    have hf := hp.filter (fun x => decide (x ≠ -1))
    rw [List.Nodup]
    refine List.Pairwise.imp_of_mem ?_ hf
    intro a b ha _ hab
    exact hab (by simpa using (List.mem_filter.1 ha).2)
theorem takenL_len {M : List Int} {i : Nat} : (takenL M i).length ≤ M.length := by
  rw [takenL]
  exact Nat.le_trans (List.length_filter_le _ _) (by rw [List.length_take]; omega)
theorem moved_fE {A F : List Nat} {V U i : Nat} (hV : V ≤ 4) (hab : ∀ b ∈ A, b < 2 ^ V) (hF : ∀ q ∈ F, q < U) (hU : U ≤ 60) (hFl : F.length ≤ 60) (hi : i < A.length) : embed_moved.f (rd (il A) (i : Int)) (il F) = some ((movedN (A.getD i 0) F : Nat) : Int) := by
  have hb := hab _ (getD_mem hi)
  have h16 : 2 ^ V ≤ 2 ^ 4 := Nat.pow_le_pow_right (by decide) hV
  have h1 : ((A.getD i 0 : Nat) : Int) < 18446744073709551616 := by omega
  rw [rd_il hi]
  unfold embed_moved.f
  rw [if_pos ⟨nnI _, h1, by rw [il_length]; exact hFl, okL_il fun q hq => Nat.lt_of_lt_of_le (hF q hq) hU⟩, nl_il, Int.toNat_natCast]
theorem diff_f {l : List Int} {n : Int} (h1 : l.length < 1000) (h2 : okI l = true) : embed_different.f l n = some (diffB l n) := by
  unfold embed_different.f
  exact if_pos ⟨Nat.lt_trans h1 (by decide), h2⟩
theorem check_loop {A C F : List Nat} {M : List Int} {V U : Nat} (h : Fit A C F M) (hV : V ≤ 4) (hab : ∀ b ∈ A, b < 2 ^ V) (hF : ∀ q ∈ F, q < U) (hU : U ≤ 60) (hFl : F.length ≤ 60) (hA : A.length ≤ 100) (hC : C.length ≤ 500) (a0 u0 : Int) :
    ∀ (n i : Nat), i + n = M.length → embed_Check.l0 (n + 1) (takenL M i) M (M.length : Int) (i : Int) a0 (il A) u0 (il C) (il F) M = some 0 := by
  intro n
  induction n with
  | zero =>
    intro i hi
    obtain rfl : i = M.length := by omega
    have hl := takenL_len (M := M) (i := M.length)
    have hd := takenL_diff h
    have hok : okI (takenL M M.length) = true := okI_iff.2 fun x hx => by
      have := (diffB_iff.1 hd).1 x hx
      simp [Lit.wf, IntKind.min, IntKind.max, IntKind.signed, IntKind.bits]
      omega
    unfold embed_Check.l0
    rw [if_neg (Int.lt_irrefl _), il_length, diff_f (by have := h.len; omega) hok, hd, Option.bind_some, if_pos rfl]
  | succ n ih =>
    intro i hi
    have hlen := h.len
    have hiM : i < M.length := by omega
    have hiA : i < A.length := by omega
    have hw := wrap_succ (j := i) (by omega)
    have hg : M[i]? = some (M[i]) := List.getElem?_eq_getElem hiM
    have hr := rd_get hg
    have hts := takenL_succ hg
    have IH := ih (i + 1) (by omega)
    have hT : (takenL M i).length < 17592186044416 := by have := takenL_len (M := M) (i := i); omega
    unfold embed_Check.l0
    rw [if_pos (ltI hiM), if_pos (nnI i), if_pos (ltI hiM), hw]
    rcases h.img i hiA with e | ⟨j, e, hj⟩
    · rw [if_pos e]
      rw [hts, if_neg (by rw [← hr, e]; simp), List.append_nil] at IH
      exact IH
    · obtain ⟨hj1, _⟩ := List.getElem?_eq_some_iff.1 hj
      have hne : ¬ (rd M (i : Int) = -1) := by rw [e]; omega
      have hcl : ¬ ((j : Int) ≥ ((il C).length : Int)) := by rw [il_length]; omega
      have hcl2 : (j : Int) < ((il C).length : Int) := by rw [il_length]; omega
      have hnn : ¬ ((j : Int) < 0) := by omega
      have hAl : (i : Int) < ((il A).length : Int) := by rw [il_length]; omega
      have hC2 : rd (il C) (j : Int) = ((movedN (A.getD i 0) F : Nat) : Int) := rd_get (il_get hj)
      rw [hts, if_pos (by rw [← hr]; exact hne), ← hr, e] at IH
      rw [if_neg hne, e, if_neg hnn, if_neg hcl, if_pos (nnI j), if_pos hcl2, if_pos hAl, moved_fE hV hab hF hU hFl hiA, Option.bind_some, hC2, if_pos rfl, if_pos hT]
      exact IH
theorem check_f {A C F : List Nat} {M : List Int} {V U : Nat} (h : Fit A C F M) (hV : V ≤ 4) (hab : ∀ b ∈ A, b < 2 ^ V) (hFV : F.length = V) (hF : ∀ q ∈ F, q < U) (hFn : F.Nodup) (hU : U ≤ 60) (hA : A.length ≤ 100) (hC : C.length ≤ 500) :
    Ev (fun K => embed_Check.f K V (il A) U (il C) (il F) M) 0 := by
  have hl := check_loop h hV hab hF hU (by omega) hA hC (V : Int) (U : Int) M.length 0 (by omega)
  have e1 : ((il F).length : Int) = (V : Int) := by rw [il_length, hFV]
  have e2 : (M.length : Int) = ((il A).length : Int) := by rw [il_length, h.len]
  have e3 := diff_f (l := il F) (n := (U : Int)) (by rw [il_length]; omega) (okI_il fun q hq => by have := hF q hq; omega)
  rw [diffB_nat hF hFn] at e3
  refine Ev.of_mono (K0 := M.length + 2) (fun k => embed_Check.mono _ _ _ _ _ _ k) ?_
  unfold embed_Check.f
  rw [if_pos e1, if_pos e2, e3, Option.bind_some]
  rw [show M.length + 2 = (M.length + 1) + 1 from rfl, embed_Check.j0, if_neg (by decide)]
  exact hl
theorem sameInts_self (l : List Int) (hl : l.length < 1000) : ∀ (n i : Nat), i + n = l.length → plexusref06_SameInts.l0 (n + 1) l l i = some true := by
  intro n
  induction n with
  | zero =>
    intro i hi
    unfold plexusref06_SameInts.l0
    rw [if_neg (by omega)]
  | succ n ih =>
    intro i hi
    unfold plexusref06_SameInts.l0
    rw [if_pos (by omega), if_pos (by omega), if_pos (by omega), if_pos rfl, wrap_succ (by omega)]
    exact ih (i + 1) (by omega)
theorem sameInts_f (l : List Int) (hl : l.length < 1000) : Ev (fun K => plexusref06_SameInts.f K l l) true :=
  Ev.of_mono (K0 := l.length + 1) (fun k => plexusref06_SameInts.mono _ _ k) (by
    unfold plexusref06_SameInts.f
    rw [if_pos rfl]
    exact sameInts_self l hl l.length 0 (by omega))
theorem same_f (F M : List Int) (e : Int) (hF : F.length < 1000) (hM : M.length < 1000) : Ev (fun K => plexuslaw42_same.f K F M e F M e) true := by
  refine Ev.eq (fun k => by unfold plexuslaw42_same.f; rw [if_pos rfl]) ?_
  refine Ev.bind (a := true) ?_ (Ev.const fun K => rfl)
  refine Ev.eq (fun k => by unfold plexusref42_Same.f; rfl) ?_
  refine Ev.bind (sameInts_f F hF) ?_
  refine Ev.eq (fun k => by rw [if_pos rfl]) ?_
  exact Ev.bind (sameInts_f M hM) (Ev.const fun K => rfl)
theorem best_fE {V U : Nat} {A C D : List Nat} (h : MpE V U A C) (hD : ∀ i ∈ D, i < A.length) (hDn : D.Nodup) (hDl : D.length ≤ A.length) : plexuslaw42_best.f V (il A) U (il C) (il D) = some (bestF V U (il A) (il C) (il D)) := by
  have h1 : (il A).length ≤ 12 := by rw [il_length]; exact Nat.le_trans h.al (by decide)
  have h2 : (il C).length ≤ 1000 := by rw [il_length]; exact Nat.le_trans h.cl (by decide)
  have h3 : (il D).length < 1099511627776 := by rw [il_length]; exact Nat.lt_of_le_of_lt (Nat.le_trans hDl h.al) (by decide)
  have h4 : okL 18446744073709551616 (il A) = true := okL_il fun b hb => Nat.lt_of_lt_of_le (h.ab b hb) (Nat.le_trans (Nat.pow_le_pow_right (by decide) h.v4) (by decide))
  have h5 : okL 18446744073709551616 (il C) = true := okL_il fun b hb => Nat.lt_of_lt_of_le (h.cb b hb) (Nat.le_trans (Nat.pow_le_pow_right (by decide) h.u6) (by decide))
  have h6 : okI (il D) = true := okI_il fun q hq => Nat.lt_trans (hD q hq) (Nat.lt_of_le_of_lt h.al (by decide))
  unfold plexuslaw42_best.f embed_Best.f
  rw [if_pos ⟨h1, h2, h3, h4, h5, h6, nnI V, nnI U⟩, Option.bind_some]
theorem bestF_none {V U : Nat} {A C D : List Nat} (h : MpE V U A C) (hD : ∀ i ∈ D, i < A.length) (hDn : D.Nodup) (hVU : U < V) : bestF V U (il A) (il C) (il D) = ([], [], 4) := by
  have h1 := h.v4
  have h2 := h.u6
  have e1 : diffB (il D) ((il A).length : Int) = true := by rw [il_length]; exact diffB_nat hD hDn
  unfold bestF
  rw [if_neg (by omega), e1, if_neg (by decide), if_pos (by omega)]
theorem bestF_some {V U : Nat} {A C D : List Nat} (h : MpE V U A C) (hD : ∀ i ∈ D, i < A.length) (hDn : D.Nodup) (hVU : V ≤ U) :
    ∃ F, bestF V U (il A) (il C) (il D) = (il F, embM A C D F, 0) ∧ F ∈ lsL U V [] ∧ F.length = V ∧ (∀ q ∈ F, q < U) ∧ F.Nodup ∧ ∀ g ∈ lsL U V [], keptN A C D g ≤ keptN A C D F := by
  have h1 := h.v4
  have h2 := h.u6
  have e1 : diffB (il D) ((il A).length : Int) = true := by rw [il_length]; exact diffB_nat hD hDn
  obtain ⟨F, hF, he, hg⟩ := foldB_mem A C D (lsL U V []) (lsL_ne (fun _ h => by cases h) List.nodup_nil (by simpa using hVU))
  obtain ⟨g1, g2, g3⟩ := lsL_mem hF (fun _ h => by cases h) List.nodup_nil
  refine ⟨F, ?_, hF, by simpa using g1, g2, g3, hg⟩
  unfold bestF
  rw [if_neg (by omega), e1, if_neg (by decide), if_neg (by omega), nl_il, nl_il, nl_il, Int.toNat_natCast, Int.toNat_natCast, he]
theorem of_fE {V U : Nat} {A C D F : List Nat} (h : MpE V U A C) (hD : ∀ i ∈ D, i < A.length) (hDn : D.Nodup) (hDl : D.length ≤ A.length) (hFV : F.length = V) (hF : ∀ q ∈ F, q < U) (hFn : F.Nodup) : plexuslaw42_of.f V (il A) U (il C) (il F) (il D) = some (il F, embM A C D F, 0) := by
  have hv := h.v4
  have hu := h.u6
  have h1 : (il A).length ≤ 12 := by rw [il_length]; exact Nat.le_trans h.al (by decide)
  have h2 : (il C).length ≤ 1000 := by rw [il_length]; exact Nat.le_trans h.cl (by decide)
  have h3 : (il D).length < 1099511627776 := by rw [il_length]; exact Nat.lt_of_le_of_lt (Nat.le_trans hDl h.al) (by decide)
  have h3' : (il F).length < 1099511627776 := by rw [il_length, hFV]; exact Nat.lt_of_le_of_lt hv (by decide)
  have h4 : okL 18446744073709551616 (il A) = true := okL_il fun b hb => Nat.lt_of_lt_of_le (h.ab b hb) (Nat.le_trans (Nat.pow_le_pow_right (by decide) h.v4) (by decide))
  have h5 : okL 18446744073709551616 (il C) = true := okL_il fun b hb => Nat.lt_of_lt_of_le (h.cb b hb) (Nat.le_trans (Nat.pow_le_pow_right (by decide) h.u6) (by decide))
  have h6 : okI (il D) = true := okI_il fun q hq => Nat.lt_trans (hD q hq) (Nat.lt_of_le_of_lt h.al (by decide))
  have h7 : okI (il F) = true := okI_il fun q hq => Nat.lt_trans (hF q hq) (Nat.lt_of_le_of_lt hu (by decide))
  have h8 : (U : Int) ≤ 60 := by omega
  have g1 : ((il F).length : Int) = (V : Int) := by rw [il_length, hFV]
  have g2 : diffB (il F) (U : Int) = true := diffB_nat hF hFn
  have g3 : diffB (il D) ((il A).length : Int) = true := by rw [il_length]; exact diffB_nat hD hDn
  unfold plexuslaw42_of.f embed_Of.f
  rw [if_pos ⟨h1, h2, h3', h3, h4, h5, h7, h6, nnI U, h8⟩, Option.bind_some]
  unfold ofF
  rw [if_pos ⟨g1, g2, g3⟩, nl_il, nl_il, nl_il, nl_il]
theorem kept_fE {F M D : List Int} (hM : M.length < 1000) (hD : D.length < 1000) : embed_Kept.f F M D = some (keptL M D) := by
  unfold embed_Kept.f
  exact if_pos ⟨Nat.lt_trans hM (by decide), Nat.lt_trans hD (by decide)⟩

theorem fits_l1 {x5 : Bool} {D kept F M : List Int} {e : Int} {i di : Nat} {r : Bool} (hk : kept.length < 1000) (hiD : i < D.length) (hD : D.length < 1000) (hd : rd D (i : Int) = di) (hdM : di < M.length) (hr : Ev (fun K => plexuslaw42_EmbedFits.l0 K x5 D kept ((i + 1 : Nat) : Int) F M e) r) :
    ∀ (n j : Nat) (b : Bool), j + n = kept.length → (b || (kept.drop j).any (fun x => x == (di : Int))) = decide (rd M (di : Int) ≥ 0) → Ev (fun K => plexuslaw42_EmbedFits.l1 K x5 D kept i b j F M e) r := by
  have hw := wrap_succ (j := i) (by omega)
  intro n
  induction n with
  | zero =>
    intro j b hj hb
    obtain rfl : j = kept.length := by omega
    rw [List.drop_length, List.any_nil, Bool.or_false] at hb
    have hne : ¬ ((b != decide (rd M (di : Int) ≥ 0)) = true) := by rw [hb]; simp
    refine Ev.succ (fun k => ?_) hr
    rw [plexuslaw42_EmbedFits.l1, if_neg (Int.lt_irrefl _), if_pos (nnI i), if_pos (ltI hiD), hd, if_pos (nnI di), if_pos (ltI hdM), if_neg hne, hw]
  | succ n ih =>
    intro j b hj hb
    have hjk : j < kept.length := by omega
    have hwj := wrap_succ (j := j) (by omega)
    have hg : kept[j]? = some kept[j] := List.getElem?_eq_getElem hjk
    have hrj := rd_get hg
    rw [List.drop_eq_getElem_cons hjk, List.any_cons] at hb
    cases b with
    | true =>
      refine Ev.succ (fun k => ?_) (ih (j + 1) true (by omega) (by simpa using hb))
      rw [plexuslaw42_EmbedFits.l1, if_pos (ltI hjk), if_pos rfl, hwj]
    | false =>
      refine Ev.succ (fun k => ?_) (ih (j + 1) (kept[j] == (di : Int)) (by omega) (by simpa using hb))
      rw [plexuslaw42_EmbedFits.l1, if_pos (ltI hjk), if_neg (by decide), if_pos (nnI j), if_pos (nnI i), if_pos (ltI hiD), hwj, hrj, hd]
theorem fits_l0 {D : List Nat} {F M : List Int} {e : Int} (hM : M.length < 1000) (hDM : ∀ d ∈ D, d < M.length) (hD : D.length < 1000) :
    ∀ (n i : Nat), i + n = D.length → Ev (fun K => plexuslaw42_EmbedFits.l0 K true (il D) (keptL M (il D)) i F M e) true := by
  have hkl : (keptL M (il D)).length ≤ D.length := by
    have := List.length_filter_le (keepB M) (il D)
    rwa [il_length] at this
  intro n
  induction n with
  | zero =>
    intro i hi
    obtain rfl : i = D.length := by omega
    refine Ev.succ (g' := fun _ => some true) (fun k => ?_) (Ev.const fun _ => rfl)
    rw [plexuslaw42_EmbedFits.l0, if_neg (by rw [il_length]; omega), if_pos (by rw [il_length]; exact leI hkl)]
  | succ n ih =>
    intro i hi
    have hiD : i < D.length := by omega
    have hg : (il D)[i]? = some ((D[i] : Nat) : Int) := il_get (List.getElem?_eq_getElem hiD)
    have hd := rd_get hg
    have hmem : D[i] ∈ D := List.getElem_mem hiD
    have hdM := hDM _ hmem
    obtain ⟨di, hdi⟩ : ∃ di, D[i] = di := ⟨_, rfl⟩
    rw [hdi] at hd hmem hdM
    refine Ev.succ (fun k => ?_) (fits_l1 (x5 := true) (D := il D) (kept := keptL M (il D)) (F := F) (M := M) (e := e) (i := i) (di := di) (by omega) (by rw [il_length]; exact hiD) (by rw [il_length]; exact hD) hd hdM (ih (i + 1) (by omega)) (keptL M (il D)).length 0 false (by omega) ?_)
    · rw [plexuslaw42_EmbedFits.l0, if_pos (by rw [il_length]; exact ltI hiD)]
      rfl
    · rw [List.drop_zero, Bool.false_or, Bool.eq_iff_iff, List.any_eq_true, decide_eq_true_eq]
      constructor
      · rintro ⟨x, hx, hxe⟩
        obtain ⟨h1, h2⟩ := List.mem_filter.1 hx
        have hxd : x = (di : Int) := by simpa using hxe
        subst hxd
        have := h2
        simp only [keepB, Bool.and_eq_true, decide_eq_true_eq] at this
        exact this.2
      · intro hge
        refine ⟨(di : Int), List.mem_filter.2 ⟨List.mem_map.2 ⟨di, hmem, rfl⟩, ?_⟩, by simp⟩
        simp only [keepB, Bool.and_eq_true, decide_eq_true_eq]
        exact ⟨⟨nnI di, ltI hdM⟩, hge⟩
theorem fits_true {l0 l1 l3 l4 : List Int} {a s : Int} (g0 : l0.length < 2 ^ 63) (g1 : l1.length < 2 ^ 63) (g3 : l3.length < 2 ^ 63) (h0 : okL 256 l0 = true) (h1 : okL 256 l1 = true) (h3 : okL 256 l3 = true) (h4 : okL 256 l4 = true) (ha : 0 ≤ a) (ha2 : a < 256) (hs : 0 ≤ s) (hs2 : s < 65536) :
    ∃ k, plexuslaw42_EmbedFits.f k l0 l1 a l3 l4 s = some true := by
  obtain ⟨V, U, A, C, hm, hp⟩ := made42 g0 g1 g3 h0 h1 h3 h4 ha ha2
  have hMade : Ev (fun K => plexusref42_Made.f K l0 l1 a l3 l4) ((V : Int), il A, (U : Int), il C) := Ev.of_mono (fun k => plexusref42_Made.mono _ _ _ _ _ k) hm
  have hDone : Ev (fun K => plexusref42_Done.f K V (il A) s) (il (doneL s.toNat A.length)) := done42 hs hs2 V A (Nat.le_trans hp.al (by decide))
  obtain ⟨D, hDe⟩ : ∃ D, doneL s.toNat A.length = D := ⟨_, rfl⟩
  have hD : ∀ i ∈ D, i < A.length := by rw [← hDe]; exact doneL_lt
  have hDn : D.Nodup := by rw [← hDe]; exact doneL_nodup
  have hDl : D.length ≤ A.length := by rw [← hDe]; exact doneL_len
  rw [hDe] at hDone
  have hal := hp.al
  have hcl := hp.cl
  have hv := hp.v4
  have hu := hp.u6
  suffices Ev (fun K => plexuslaw42_EmbedFits.f K l0 l1 a l3 l4 s) true by
    obtain ⟨K0, h⟩ := this
    exact ⟨K0, h K0 (Nat.le_refl _)⟩
  refine Ev.eq (fun k => by unfold plexuslaw42_EmbedFits.f plexuslaw42_examples.f; rw [Option.bind_some, if_pos rfl]) ?_
  refine Ev.bind hMade ?_
  refine Ev.bind hDone ?_
  refine Ev.eq (fun k => by rw [best_fE hp hD hDn hDl, Option.bind_some]) ?_
  by_cases hVU : U < V
  · refine Ev.eq (fun k => by rw [if_pos (ltI hVU), bestF_none hp hD hDn hVU, if_pos rfl]; rfl) (Ev.const (g := fun _ => some true) fun _ => rfl)
  · obtain ⟨F, hb, _, f2, f3, f4, _⟩ := bestF_some hp hD hDn (Nat.le_of_not_lt hVU)
    have hML := embM_len A C D F
    have hfit := embM_fit (F := F) hp.sc hD hDn
    have hgt : ¬ ((V : Int) > (U : Int)) := by omega
    have hM1 : (embM A C D F).length < 1000 := by omega
    have hD1 : (il D).length < 1000 := by rw [il_length]; omega
    refine Ev.eq (fun k => by rw [if_neg hgt, hb, show embed_Kept.f (il F, embM A C D F, (0 : Int)).1 (il F, embM A C D F, (0 : Int)).2.1 (il D) = some (keptL (embM A C D F) (il D)) from kept_fE hM1 hD1, Option.bind_some, if_pos rfl]) ?_
    refine Ev.bind (check_f hfit hv hp.ab f2 f3 f4 (by omega) (by omega) (by omega)) ?_
    refine Ev.eq (fun k => by rw [if_pos rfl, of_fE hp hD hDn hDl f2 f3 f4, Option.bind_some]) ?_
    refine Ev.bind (same_f (il F) (embM A C D F) 0 (by rw [il_length]; omega) hM1) ?_
    refine Ev.succ (fun k => by rw [plexuslaw42_EmbedFits.j0, if_neg (by decide)]) ?_
    exact fits_l0 hM1 (fun d hd => by rw [hML]; exact hD d hd) (by omega) D.length 0 (by omega)
end Go.Proofs.Ytheclfjbedajfaa.Pd
