/- What the printed functions of chapter 42 compute, Check and best among them; no walk in sight. -/
import Derived.Test.YtheclfjbedajfaaEn
import Derived.Test.YtheclfjbedajfaaPdx3
import Derived.Test.YtheclfjbedajfaaPdx8
namespace Go.Proofs.Ytheclfjbedajfaa.Pd
set_option linter.unusedSimpArgs false
set_option linter.unusedVariables false
open Go.RowKit Go.Lib Go.Proofs.YtheclfjbedajfaaW.PrintWords Go.Proofs.Ytheclfjbedajfaa Go.Proofs.YtheclfjbedajfaaW.PrintMore

/-- From some number of rounds on, the same answer. -/
def Ev {α : Type} (g : Nat → Option α) (r : α) : Prop := ∃ K0, ∀ K, K0 ≤ K → g K = some r
theorem Ev.of_mono {α : Type} {g : Nat → Option α} {r : α} {K0 : Nat} (hm : ∀ k, LeO (g k) (g (k + 1))) (h : g K0 = some r) : Ev g r :=
  ⟨K0, fun K hK => by
    obtain ⟨d, rfl⟩ : ∃ d, K = K0 + d := ⟨K - K0, by omega⟩
    clear hK
    induction d with
    | zero => exact h
    | succ d ih => exact hm _ _ ih⟩
theorem Ev.succ {α : Type} {g g' : Nat → Option α} {r : α} (hs : ∀ k, g (k + 1) = g' k) (h : Ev g' r) : Ev g r := by
  obtain ⟨K0, h⟩ := h
  refine ⟨K0 + 1, fun K hK => ?_⟩
  obtain ⟨k, rfl⟩ : ∃ k, K = k + 1 := ⟨K - 1, by omega⟩
  rw [hs]
  exact h k (by omega)
theorem Ev.bind {α β : Type} {g : Nat → Option α} {f : Nat → α → Option β} {a : α} {r : β} (h : Ev g a) (hf : Ev (fun k => f k a) r) : Ev (fun k => (g k).bind (f k)) r := by
  obtain ⟨K0, h⟩ := h
  obtain ⟨K1, hf⟩ := hf
  exact ⟨max K0 K1, fun K hK => by show (g K).bind (f K) = _; rw [h K (by omega), Option.bind_some]; exact hf K (by omega)⟩
theorem okI_il {l : List Nat} (h : ∀ q ∈ l, q < 1000) : okI (il l) = true := okI_iff.2 fun x hx => by
  obtain ⟨i, hi, rfl⟩ := List.mem_map.1 hx
  have := h i hi
  simp [Lit.wf, IntKind.min, IntKind.max, IntKind.signed, IntKind.bits]
  omega
theorem doneL_lt {s n : Nat} : ∀ i ∈ doneL s n, i < n := fun i hi => List.mem_range.1 (List.mem_filter.1 hi).1
theorem doneL_nodup {s n : Nat} : (doneL s n).Nodup := List.nodup_range.sublist List.filter_sublist
theorem doneL_len {s n : Nat} : (doneL s n).length ≤ n := by
  have := List.length_filter_le (fun i => s.testBit i) (List.range n)
  rwa [List.length_range] at this
theorem rd_get {l : List Int} {i : Nat} {x : Int} (h : l[i]? = some x) : rd l (i : Int) = x := by
  unfold rd
  rw [List.getD_eq_getElem?_getD, Int.toNat_natCast, h]
  rfl
theorem il_get {l : List Nat} {i x : Nat} (h : l[i]? = some x) : (il l)[i]? = some (x : Int) := by simp [il, h]
/-- What Check takes for an embedding's list of blocks. -/
structure Fit (A C F : List Nat) (M : List Int) : Prop where
  len : M.length = A.length
  img : ∀ i, i < A.length → rd M (i : Int) = -1 ∨ ∃ j : Nat, rd M (i : Int) = j ∧ C[j]? = some (movedN (A.getD i 0) F)
  inj : ∀ i j, i < A.length → j < A.length → i ≠ j → rd M (i : Int) ≠ -1 → rd M (i : Int) ≠ rd M (j : Int)
theorem embM_fit {A C ds F : List Nat} (hs : C.Pairwise (· ≤ ·)) (h1 : ∀ i ∈ ds, i < A.length) (h2 : ds.Nodup) : Fit A C F (embM A C ds F) :=
  ⟨embM_len A C ds F, fun i hi => by rw [embM_get h1 h2 hi]; exact goN_img hs hi, fun i j hi hj hij h => by rw [embM_get h1 h2 hi] at h ⊢; rw [embM_get h1 h2 hj]; exact goN_inj hs h2 hi hj hij h⟩
def takenL (M : List Int) (i : Nat) : List Int := (M.take i).filter fun x => decide (x ≠ -1)
theorem takenL_succ {M : List Int} {i : Nat} {x : Int} (h : M[i]? = some x) : takenL M (i + 1) = takenL M i ++ (if x ≠ -1 then [x] else []) := by
  rw [takenL, List.take_add_one, h, takenL, List.filter_append]
  congr 1
  by_cases hx : x = -1 <;> simp [hx]
theorem takenL_diff {A C F : List Nat} {M : List Int} (h : Fit A C F M) : diffB (takenL M M.length) (C.length : Int) = true := by
  rw [takenL, List.take_length]
  refine diffB_iff.2 ⟨fun x hx => ?_, ?_⟩
  · obtain ⟨h1, h2⟩ := List.mem_filter.1 hx
    obtain ⟨i, hi, hie⟩ := List.getElem_of_mem h1
    have hg : M[i]? = some x := by rw [List.getElem?_eq_getElem hi, hie]
    have hr := rd_get hg
    have hx1 : x ≠ -1 := by simpa using h2
    rcases h.img i (by have := h.len; omega) with e | ⟨j, e, hj⟩
    · rw [hr] at e; exact absurd e hx1
    · rw [hr] at e
      obtain ⟨hj1, _⟩ := List.getElem?_eq_some_iff.1 hj
      omega
  · have hp : M.Pairwise (fun a b => a ≠ -1 → a ≠ b) := by
      rw [List.pairwise_iff_getElem]
      intro i j hi hj hij h0
      have e1 := rd_get (List.getElem?_eq_getElem hi)
      have e2 := rd_get (List.getElem?_eq_getElem hj)
      rw [← e1, ← e2]
      rw [← e1] at h0
      have := h.len
      exact h.inj i j (by omega) (by omega) (by omega) h0
    have hf := hp.filter (fun x => decide (x ≠ -1))
    rw [List.Nodup]
    refine List.Pairwise.imp_of_mem ?_ hf
    intro a b ha _ hab
    exact hab (by simpa using (List.mem_filter.1 ha).2)
theorem takenL_len {M : List Int} {i : Nat} : (takenL M i).length ≤ M.length := by
  rw [takenL]
  exact Nat.le_trans (List.length_filter_le _ _) (by rw [List.length_take]; omega)
theorem moved_fE {A F : List Nat} {V U i : Nat} (hV : V ≤ 4) (hab : ∀ b ∈ A, b < 2 ^ V) (hF : ∀ q ∈ F, q < U) (hU : U ≤ 60) (hFl : F.length ≤ 60) (hi : i < A.length) : embed_moved.f (rd (il A) (i : Int)) (il F) = some ((movedN (A.getD i 0) F : Nat) : Int) := by
  have hb := hab _ (getD_mem hi)
  have h16 : 2 ^ V ≤ 2 ^ 4 := Nat.pow_le_pow_right (by decide) hV
  have h1 : ((A.getD i 0 : Nat) : Int) < 18446744073709551616 := by omega
  rw [rd_il hi]
  unfold embed_moved.f
  rw [if_pos ⟨nnI _, h1, by rw [il_length]; exact hFl, okL_il fun q hq => Nat.lt_of_lt_of_le (hF q hq) hU⟩, nl_il, Int.toNat_natCast]
theorem diff_f {l : List Int} {n : Int} (h1 : l.length < 1000) (h2 : okI l = true) : embed_different.f l n = some (diffB l n) := by
  unfold embed_different.f
  exact if_pos ⟨Nat.lt_trans h1 (by decide), h2⟩
theorem check_loop {A C F : List Nat} {M : List Int} {V U : Nat} (h : Fit A C F M) (hV : V ≤ 4) (hab : ∀ b ∈ A, b < 2 ^ V) (hF : ∀ q ∈ F, q < U) (hU : U ≤ 60) (hFl : F.length ≤ 60) (hA : A.length ≤ 100) (hC : C.length ≤ 500) (a0 u0 : Int) :
    ∀ (n i : Nat), i + n = M.length → embed_Check.l0 (n + 1) (takenL M i) M (M.length : Int) (i : Int) a0 (il A) u0 (il C) (il F) M = some 0 := by
  intro n
  induction n with
  | zero =>
    intro i hi
    obtain rfl : i = M.length := by omega
    have hl := takenL_len (M := M) (i := M.length)
    have hd := takenL_diff h
    have hok : okI (takenL M M.length) = true := okI_iff.2 fun x hx => by
      have := (diffB_iff.1 hd).1 x hx
      simp [Lit.wf, IntKind.min, IntKind.max, IntKind.signed, IntKind.bits]
      omega
    unfold embed_Check.l0
    rw [if_neg (Int.lt_irrefl _), il_length, diff_f (by have := h.len; omega) hok, hd, Option.bind_some, if_pos rfl]
  | succ n ih =>
    intro i hi
    have hlen := h.len
    have hiM : i < M.length := by omega
    have hiA : i < A.length := by omega
    have hw := wrap_succ (j := i) (by omega)
    have hg : M[i]? = some (M[i]) := List.getElem?_eq_getElem hiM
    have hr := rd_get hg
    have hts := takenL_succ hg
    have IH := ih (i + 1) (by omega)
    have hT : (takenL M i).length < 17592186044416 := by have := takenL_len (M := M) (i := i); omega
    unfold embed_Check.l0
    rw [if_pos (ltI hiM), if_pos (nnI i), if_pos (ltI hiM), hw]
    rcases h.img i hiA with e | ⟨j, e, hj⟩
    · rw [if_pos e]
      rw [hts, if_neg (by rw [← hr, e]; simp), List.append_nil] at IH
      exact IH
    · obtain ⟨hj1, _⟩ := List.getElem?_eq_some_iff.1 hj
      have hne : ¬ (rd M (i : Int) = -1) := by rw [e]; omega
      have hcl : ¬ ((j : Int) ≥ ((il C).length : Int)) := by rw [il_length]; omega
      have hcl2 : (j : Int) < ((il C).length : Int) := by rw [il_length]; omega
      have hnn : ¬ ((j : Int) < 0) := by omega
      have hAl : (i : Int) < ((il A).length : Int) := by rw [il_length]; omega
      have hC2 : rd (il C) (j : Int) = ((movedN (A.getD i 0) F : Nat) : Int) := rd_get (il_get hj)
      rw [hts, if_pos (by rw [← hr]; exact hne), ← hr, e] at IH
      rw [if_neg hne, e, if_neg hnn, if_neg hcl, if_pos (nnI j), if_pos hcl2, if_pos hAl, moved_fE hV hab hF hU hFl hiA, Option.bind_some, hC2, if_pos rfl, if_pos hT]
      exact IH
theorem check_f {A C F : List Nat} {M : List Int} {V U : Nat} (h : Fit A C F M) (hV : V ≤ 4) (hab : ∀ b ∈ A, b < 2 ^ V) (hFV : F.length = V) (hF : ∀ q ∈ F, q < U) (hFn : F.Nodup) (hU : U ≤ 60) (hA : A.length ≤ 100) (hC : C.length ≤ 500) :
    Ev (fun K => embed_Check.f K V (il A) U (il C) (il F) M) 0 := by
  have hl := check_loop h hV hab hF hU (by omega) hA hC (V : Int) (U : Int) M.length 0 (by omega)
  have e1 : ((il F).length : Int) = (V : Int) := by rw [il_length, hFV]
  have e2 : (M.length : Int) = ((il A).length : Int) := by rw [il_length, h.len]
  have e3 := diff_f (l := il F) (n := (U : Int)) (by rw [il_length]; omega) (okI_il fun q hq => by have := hF q hq; omega)
  rw [diffB_nat hF hFn] at e3
  refine Ev.of_mono (K0 := M.length + 2) (fun k => embed_Check.mono _ _ _ _ _ _ k) ?_
  unfold embed_Check.f
  rw [if_pos e1, if_pos e2, e3, Option.bind_some]
  rw [show M.length + 2 = (M.length + 1) + 1 from rfl, embed_Check.j0, if_neg (by decide)]
  exact hl
theorem kept_fE {F M D : List Int} (hM : M.length < 1000) (hD : D.length < 1000) : embed_Kept.f F M D = some (keptL M D) := by
  unfold embed_Kept.f
  exact if_pos ⟨Nat.lt_trans hM (by decide), Nat.lt_trans hD (by decide)⟩
end Go.Proofs.Ytheclfjbedajfaa.Pd
