/- A slice of slices of numbers that are the call's own, each in a block of its own: what each step of the search for a resolution does to it; no condition. -/
import Derived.Test.YtoiahjncpngkeaaDoorGl
namespace Go.Proofs.YtoiahjncpngkeaaDoor
set_option linter.unusedSimpArgs false
set_option linter.unusedVariables false
open Go.RowKit Go.Lib Go.Proofs.YtoiahjncpngkeaaDoorW.PrintWords

/-- v is a slice of slices of the call's own (from block B on): vs are its elements, rs the lists that these lead to. -/
def OutC (W : World) (B : Nat) (v : Value) (vs : List Value) (rs : List (List Int)) : Prop :=
  W.ownsRow B 50 1 v vs.length vs ∧ vs.length = rs.length ∧
  (∀ (k : Nat) (u : Value) (r : List Int), vs[k]? = some u → rs[k]? = some r → W.ownsRow B 3 1 u r.length (nums .i64 r)) ∧
  (∀ (i j : Nat) (u u' : Value) (b : Nat), vs[i]? = some u → vs[j]? = some u' → u.ownBlock = some b → u'.ownBlock = some b → i = j)

theorem OutC.nil (W : World) (B : Nat) : OutC W B (.slice none 0 0) [] [] := ⟨own_nil _ _ _ _, rfl, fun k u r h => by simp at h, fun i j u u' b h => by simp at h⟩
theorem OutC.move {W W1 : World} {B : Nat} {v : Value} {vs : List Value} {rs : List (List Int)} (h : OutC W B v vs rs)
    (hm : ∀ (k t : Nat) (cells : Array Value), W.heap[k]? = some (Obj.cells cells t (0, 0)) → t = 50 ∨ t = 3 → W1.heap[k]? = W.heap[k]?) : OutC W1 B v vs rs := by
  obtain ⟨h1, h2, h3, h4⟩ := h
  refine ⟨own_move h1 fun k hk => ?_, h2, fun k u r hu hr => own_move (h3 k u r hu hr) fun b hb => ?_, h4⟩
  · obtain ⟨cells, hc⟩ := own_typed h1 k hk; exact hm k _ cells hc (.inl rfl)
  · obtain ⟨cells, hc⟩ := own_typed (h3 k u r hu hr) b hb; exact hm b _ cells hc (.inr rfl)
theorem OutC.below {W W1 : World} {B : Nat} {v : Value} {vs : List Value} {rs : List (List Int)} (h : OutC W B v vs rs) (hb : Below W.heap.size W W1) : OutC W1 B v vs rs :=
  h.move fun k t cells hc _ => hb.block k (blk_lt hc)
theorem OutC.other {W : World} {B : Nat} {v : Value} {vs : List Value} {rs : List (List Int)} (h : OutC W B v vs rs) {g t : Nat} {cells : Array Value} (hg : W.heap[g]? = some (.cells cells t (0, 0)))
    (ht : t ≠ 50 ∧ t ≠ 3) (i : Nat) (u : Value) : OutC (W.setCell ⟨g, i, none⟩ u) B v vs rs :=
  h.move fun k t' cells' hc ht' => Below.heap_setCell W _ u k (fun e => by
    subst e; rw [hg] at hc; injection hc with hc; injection hc with _ hc; subst hc; rcases ht' with e | e <;> simp [e] at ht)
theorem OutC.push {W W1 : World} {B : Nat} {v v1 : Value} {vs : List Value} {rs : List (List Int)} (h : OutC W B v vs rs)
    (hown : W1.ownsRow B 50 1 v1 (vs ++ [Value.slice none 0 0]).length (vs ++ [Value.slice none 0 0])) (hg : W.grownBy W1 v.ownBlock) : OutC W1 B v1 (vs ++ [Value.slice none 0 0]) (rs ++ [[]]) := by
  obtain ⟨h1, h2, h3, h4⟩ := h
  have last : ∀ k u, (vs ++ [Value.slice none 0 0])[k]? = some u → (k < vs.length ∧ vs[k]? = some u) ∨ (k = vs.length ∧ u = .slice none 0 0) := by
    intro k u hu
    rcases Nat.lt_trichotomy k vs.length with hk | hk | hk
    · rw [List.getElem?_append_left hk] at hu; exact .inl ⟨hk, hu⟩
    · subst hk; rw [List.getElem?_append_right (Nat.le_refl _)] at hu; simp at hu; exact .inr ⟨rfl, hu.symm⟩
    · rw [List.getElem?_eq_none (by simp; omega)] at hu; cases hu
  refine ⟨hown, by simp [h2], fun k u r hu hr => ?_, fun i j u u' b hi hj hb hb' => ?_⟩
  · rcases last k u hu with ⟨hk, hu⟩ | ⟨rfl, rfl⟩
    · rw [List.getElem?_append_left (by omega)] at hr
      have hi := h3 k u r hu hr
      exact own_other hi hg (own_type_ne hi h1 (by decide))
    · rw [h2, List.getElem?_append_right (Nat.le_refl _)] at hr
      simp at hr
      subst hr
      exact own_nil _ _ _ _
  · rcases last i u hi with ⟨hk, hu⟩ | ⟨rfl, rfl⟩
    · rcases last j u' hj with ⟨hk', hu'⟩ | ⟨rfl, rfl⟩
      · exact h4 i j u u' b hu hu' hb hb'
      · simp [Value.ownBlock] at hb'
    · simp [Value.ownBlock] at hb
theorem OutC.take {W : World} {B m cap k : Nat} {A : Option Addr} {vs : List Value} {rs : List (List Int)} (h : OutC W B (.slice A m cap) vs rs) (hk : k ≤ rs.length) : OutC W B (.slice A k cap) (vs.take k) (rs.take k) := by
  obtain ⟨h1, h2, h3, h4⟩ := h
  have hm : m = vs.length := by rcases h1.2 with ⟨e, e2⟩ | ⟨g, cap', cur, e, _⟩ <;> (injection e with _ e _; try omega)
  subst hm
  have ho := own_take h1 (m := k) (by omega)
  have hl : (vs.take k).length = k := by simp; omega
  refine ⟨by rw [hl]; simpa using ho, by simp [h2], fun i u r hu hr => ?_, fun i j u u' b hi hj => ?_⟩
  · rw [List.getElem?_take] at hu hr
    split at hu
    · exact h3 i u r hu (by simpa [*] using hr)
    · cases hu
  · rw [List.getElem?_take] at hi hj
    split at hi
    · split at hj
      · exact h4 i j u u' b hi hj
      · cases hj
    · cases hi
theorem OutC.form {W : World} {B : Nat} {v : Value} {vs : List Value} {rs : List (List Int)} (h : OutC W B v vs rs) (h0 : 0 < rs.length) :
    ∃ go cap, v = .slice (some ⟨go, 0, none⟩) rs.length cap ∧ B ≤ go ∧ go < W.heap.size ∧ rs.length ≤ cap ∧ cap ≤ 9223372036854775807 ∧ ∃ cells, W.heap[go]? = some (.cells cells 50 (0, 0)) := by
  obtain ⟨h1, h2, _⟩ := h
  rcases h1.2 with ⟨_, e⟩ | ⟨g, cap, cur, rfl, hB, hg, hn, hm, _⟩
  · omega
  · exact ⟨g, cap, by rw [h2], hB, blk_lt hg, by omega, by simpa [maxLen] using hm, cur, hg⟩
theorem OutC.cell {W : World} {B go n cap : Nat} {vs : List Value} {rs : List (List Int)} (h : OutC W B (.slice (some ⟨go, 0, none⟩) n cap) vs rs) {k : Nat} (hk : k < rs.length) :
    ∃ u, vs[k]? = some u ∧ W.cell? ⟨go, k, none⟩ = some u ∧ W.frozen? ⟨go, k, none⟩ = false := by
  obtain ⟨h1, h2, _⟩ := h
  have hn : n = vs.length := by rcases h1.2 with ⟨e, e2⟩ | ⟨g, cap', cur, e, _⟩ <;> (injection e with _ e _; try omega)
  subst hn
  have hk2 : k < vs.length := by omega
  exact ⟨vs[k], List.getElem?_eq_getElem hk2, (h1.cellAt k (by omega)).trans (List.getElem?_eq_getElem hk2), h1.frozenAt k⟩
theorem OutC.put {W W1 : World} {B go n cap : Nat} {vs : List Value} {rs : List (List Int)} (h : OutC W B (.slice (some ⟨go, 0, none⟩) n cap) vs rs) {k : Nat} {u u1 : Value} {r1 : List Int} (hu : vs[k]? = some u)
    (hown : W1.ownsRow B 3 1 u1 r1.length (nums .i64 r1)) (hg : W.grownBy W1 u.ownBlock) (hat : u1.ownBlock = u.ownBlock ∨ ∃ b, u1.ownBlock = some b ∧ W.heap.size ≤ b) :
    OutC (W1.setCell ⟨go, k, none⟩ u1) B (.slice (some ⟨go, 0, none⟩) n cap) (vs.set k u1) (rs.set k r1) ∧ W1.heap[go]? = W.heap[go]? := by
  obtain ⟨h1, h2, h3, h4⟩ := h
  have hn : n = vs.length := by rcases h1.2 with ⟨e, e2⟩ | ⟨g, cap', cur, e, _⟩ <;> (injection e with _ e _; try omega)
  subst hn
  have hkl : k < vs.length := (List.getElem?_eq_some_iff.1 hu).1
  obtain ⟨r, hr⟩ : ∃ r, rs[k]? = some r := ⟨_, List.getElem?_eq_getElem (by omega)⟩
  have hi := h3 k u r hu hr
  have hne : (Value.slice (some ⟨go, 0, none⟩) vs.length cap).ownBlock = none ∨ (Value.slice (some ⟨go, 0, none⟩) vs.length cap).ownBlock ≠ u.ownBlock := own_type_ne h1 hi (by decide)
  have hgo : some go ≠ u.ownBlock := by
    rcases hne with e | e
    · simp [Value.ownBlock] at e
    · simpa [Value.ownBlock] using e
  obtain ⟨cells, hc⟩ := own_typed h1 go rfl
  have h1' := own_other h1 hg hne
  obtain ⟨hst, hgs⟩ := h1'.stored k u1
  have hgo1 : W1.heap[go]? = W.heap[go]? := hg.block go (blk_lt hc) hgo
  have hlt : go < W.heap.size := blk_lt hc
  have hne1 : ∀ b, u1.ownBlock = some b → b ≠ go := by
    intro b hb e
    subst e
    obtain ⟨c2, hc2⟩ := own_typed hown b hb
    rw [hgo1, hc] at hc2
    injection hc2 with hc2
    injection hc2 with _ hc2
    exact absurd hc2 (by decide)
  refine ⟨⟨by simpa using hst, by simp [h2], fun j v r' hv hr' => ?_, fun i j v v' b hvi hvj hb hb' => ?_⟩, hgo1⟩
  · rw [List.getElem?_set] at hv hr'
    by_cases hj : k = j
    · subst hj
      rw [if_pos rfl, if_pos (by omega)] at hv hr'
      injection hv with hv
      injection hr' with hr'
      subst hv hr'
      exact own_setCell hown (fun e => by cases hb : u1.ownBlock with | none => rw [hb] at e; cases e | some b => rw [hb] at e; injection e with e; exact hne1 b hb e.symm) _
    · rw [if_neg hj] at hv hr'
      have hj3 := h3 j v r' hv hr'
      have hd : v.ownBlock = none ∨ v.ownBlock ≠ u.ownBlock := by
        cases hb : v.ownBlock with
        | none => exact .inl rfl
        | some b => exact .inr fun e => hj (h4 j k v u b hv hu hb e.symm).symm
      refine own_setCell (own_other hj3 hg hd) (fun e => ?_) _
      obtain ⟨c2, hc2⟩ := own_typed hj3 go e.symm
      rw [hc] at hc2
      injection hc2 with hc2
      injection hc2 with _ hc2
      exact absurd hc2 (by decide)
  · have old : ∀ i v, i ≠ k → (vs.set k u1)[i]? = some v → vs[i]? = some v := fun i v hik hv => by rwa [List.getElem?_set, if_neg (fun e => hik e.symm)] at hv
    have new : ∀ v, (vs.set k u1)[k]? = some v → v = u1 := fun v hv => by rw [List.getElem?_set, if_pos rfl, if_pos hkl] at hv; injection hv with hv; exact hv.symm
    have apart : ∀ i v b, i ≠ k → vs[i]? = some v → v.ownBlock = some b → u1.ownBlock = some b → False := by
      intro i v b hik hv hb hb1
      have hil : i < vs.length := (List.getElem?_eq_some_iff.1 hv).1
      obtain ⟨ri, hri⟩ : ∃ r, rs[i]? = some r := ⟨_, List.getElem?_eq_getElem (by omega)⟩
      rcases hat with e | ⟨b2, e, hle⟩
      · exact hik (h4 i k v u b hv hu hb (e ▸ hb1))
      · rw [e] at hb1
        injection hb1 with hb1
        subst hb1
        have := own_lt (h3 i v ri hv hri) b2 hb
        omega
    by_cases hik : i = k <;> by_cases hjk : j = k
    · omega
    · subst hik; rw [new v hvi] at hb; exact absurd (apart j v' b hjk (old j v' hjk hvj) hb' hb) id
    · subst hjk; rw [new v' hvj] at hb'; exact absurd (apart i v b hik (old i v hik hvi) hb hb') id
    · exact h4 i j v v' b (old i v hik hvi) (old j v' hjk hvj) hb hb'
theorem OutC.inner {W : World} {B : Nat} {v u : Value} {vs : List Value} {rs : List (List Int)} {k : Nat} {r : List Int} (h : OutC W B v vs rs) (hu : vs[k]? = some u) (hr : rs[k]? = some r) : W.ownsRow B 3 1 u r.length (nums .i64 r) := h.2.2.1 k u r hu hr
end Go.Proofs.YtoiahjncpngkeaaDoor
