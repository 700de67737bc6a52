/- What DesignLesser says, in plain words: double counting; no program in sight. -/
import Derived.Test.YtoiahjncpngkeaaDoorSt
namespace Go.Proofs.YtoiahjncpngkeaaDoor
set_option linter.unusedSimpArgs false
set_option linter.unusedVariables false
open Go.RowKit Go.Lib Go.Proofs.YtoiahjncpngkeaaDoorW.PrintWords

def sumL (l : List Nat) (f : Nat → Nat) : Nat := l.foldr (fun x a => f x + a) 0
theorem sumL_add (l : List Nat) (f g : Nat → Nat) : sumL l (fun x => f x + g x) = sumL l f + sumL l g := by
  induction l with
  | nil => rfl
  | cons x r ih => simp only [sumL, List.foldr_cons] at ih ⊢; omega
theorem sumL_const {l : List Nat} {f : Nat → Nat} {c : Nat} (h : ∀ x ∈ l, f x = c) : sumL l f = l.length * c := by
  induction l with
  | nil => simp [sumL]
  | cons x r ih =>
    have h1 := ih fun y hy => h y (by simp [hy])
    have h2 := h x (by simp)
    simp only [sumL, List.foldr_cons, List.length_cons] at h1 ⊢
    rw [h1, h2, Nat.add_mul]; omega
theorem thr_cons (b : Nat) (r : List Nat) (s : Nat) : thr (b :: r) s = (if b &&& s == s then 1 else 0) + thr r s := by
  unfold thr; rw [List.filter_cons]; split <;> simp; omega
/-- The pairs of a block and a set in it, counted in both orders. -/
theorem thr_swap (D : List Nat) (bs : List Nat) : sumL D (thr bs) = sumL bs fun b => (D.filter fun s => b &&& s == s).length := by
  induction bs with
  | nil =>
    rw [show (sumL [] fun b => (D.filter fun s => b &&& s == s).length) = D.length * 0 from rfl]
    exact sumL_const fun x _ => rfl
  | cons b r ih =>
    rw [show thr (b :: r) = fun s => (if b &&& s == s then 1 else 0) + thr r s from funext fun s => thr_cons b r s, sumL_add, ih]
    show _ = (D.filter fun s => b &&& s == s).length + _
    congr 1
    clear ih
    induction D with
    | nil => rfl
    | cons s D ih =>
      simp only [sumL, List.foldr_cons, List.filter_cons] at ih ⊢
      rw [ih]
      by_cases h : (b &&& s == s) = true
      · rw [if_pos h, if_pos h, List.length_cons]; omega
      · rw [if_neg h, if_neg h]; omega
/-- The sets of T points that hold the first t. -/
def upD (V T t : Nat) : List Nat := (dnL V T 0 0).filter fun s => s &&& (2 ^ t - 1) == 2 ^ t - 1
def okCount (V T t : Nat) : Bool :=
  Nat.beq (upD V T t).length (chT (V - t) (T - t)) && (dnL V t 0 0).contains (2 ^ t - 1) &&
  (List.range (2 ^ V)).all fun b =>
    if cnt b 64 < T then true
    else Nat.ble 1 (chT (cnt b 64 - t) (T - t)) && Nat.beq ((upD V T t).filter fun s => b &&& s == s).length (if b &&& (2 ^ t - 1) == 2 ^ t - 1 then chT (cnt b 64 - t) (T - t) else 0)
def okCounts : Bool := (List.range 8).all fun V => (List.range 4).all fun T => (List.range (T + 1)).all fun t => if T ≤ V then okCount V T t else true
set_option maxRecDepth 1000000 in
theorem okCounts_true : okCounts = true := by kernel_rfl
theorem okCount_of {V T t : Nat} (hV : V ≤ 7) (hT : T ≤ 3) (ht : t ≤ T) (hTV : T ≤ V) : okCount V T t = true := by
  have h := okCounts_true
  simp only [okCounts, List.all_eq_true, List.mem_range] at h
  have := h V (by omega) T (by omega) t (by omega)
  rwa [if_pos hTV] at this
theorem count_of {V T t b : Nat} (hV : V ≤ 7) (hT : T ≤ 3) (ht : t ≤ T) (hTV : T ≤ V) (hb : b < 2 ^ V) (hk : T ≤ cnt b 64) :
    1 ≤ chT (cnt b 64 - t) (T - t) ∧ ((upD V T t).filter fun s => b &&& s == s).length = if b &&& (2 ^ t - 1) == 2 ^ t - 1 then chT (cnt b 64 - t) (T - t) else 0 := by
  have h := okCount_of hV hT ht hTV
  simp only [okCount, Bool.and_eq_true, List.all_eq_true, List.mem_range] at h
  have := h.2 b hb
  rw [if_neg (by omega)] at this
  simp only [Bool.and_eq_true, Nat.beq_eq_true_eq, Nat.ble_eq] at this
  exact ⟨this.1, by first | exact this.2 | simpa using this.2⟩
theorem up_length {V T t : Nat} (hV : V ≤ 7) (hT : T ≤ 3) (ht : t ≤ T) (hTV : T ≤ V) : (upD V T t).length = chT (V - t) (T - t) ∧ 2 ^ t - 1 ∈ dnL V t 0 0 := by
  have h := okCount_of hV hT ht hTV
  simp only [okCount, Bool.and_eq_true, Nat.beq_eq_true_eq] at h
  exact ⟨by first | exact h.1.1 | simpa using h.1.1, by have := h.1.2; simpa using this⟩
theorem sumL_thr (bs : List Nat) (s c : Nat) : (sumL bs fun b => if b &&& s == s then c else 0) = thr bs s * c := by
  induction bs with
  | nil => simp [sumL, thr]
  | cons b r ih =>
    rw [thr_cons, Nat.add_mul]
    simp only [sumL, List.foldr_cons] at ih ⊢
    rw [ih]; split <;> simp
theorem sumL_congr {l : List Nat} {f g : Nat → Nat} (h : ∀ x ∈ l, f x = g x) : sumL l f = sumL l g := by
  induction l with
  | nil => rfl
  | cons x r ih => simp only [sumL, List.foldr_cons]; rw [h x (by simp)]; congr 1; exact ih fun y hy => h y (by simp [hy])

theorem chkL_zero {xV : Int} {bs : List Nat} {T V K L : Int} : chkL xV bs T V K L = 0 ↔
    rightB T V K L = true ∧ xV = V ∧ (∀ b ∈ bs, ((cnt b 64 : Nat) : Int) = K) ∧ ∀ s ∈ dnL V.toNat T.toNat 0 0, ((thr bs s : Nat) : Int) = L := by
  unfold chkL
  by_cases h : rightB T V K L = true
  · rw [if_pos h]
    by_cases h2 : xV = V ∧ (∀ b ∈ bs, ((cnt b 64 : Nat) : Int) = K) ∧ ∀ s ∈ dnL V.toNat T.toNat 0 0, ((thr bs s : Nat) : Int) = L
    · rw [if_pos h2]; exact ⟨fun _ => ⟨h, h2⟩, fun _ => rfl⟩
    · rw [if_neg h2]; simp [h]; intro a b; have := fun c => h2 ⟨a, b, c⟩; simpa using this
  · rw [if_neg h]; simp [h]
/-- **The number of blocks through t points of a design.** -/
theorem lesser_count {V T t K L : Nat} {bs : List Nat} (hV : V ≤ 7) (hT : T ≤ 3) (ht : t ≤ T) (hb : ∀ b ∈ bs, b < 2 ^ V) (h : chkL V bs T V K L = 0) :
    lamN V T K L t = thr bs (2 ^ t - 1) * lamD K T t ∧ 1 ≤ lamD K T t := by
  obtain ⟨hr, -, hk, hs⟩ := chkL_zero.1 h
  have hr' := rightB_iff.1 hr
  have hTV : T ≤ V := by omega
  have hk' : ∀ b ∈ bs, cnt b 64 = K := fun b m => by have := hk b m; omega
  simp only [Int.toNat_natCast] at hs
  have hs' : ∀ s ∈ dnL V T 0 0, thr bs s = L := fun s m => by have := hs s m; omega
  have e := thr_swap (upD V T t) bs
  have e1 : sumL (upD V T t) (thr bs) = (upD V T t).length * L := sumL_const fun x hx => hs' x (List.mem_filter.1 hx).1
  rw [e1, (up_length hV hT ht hTV).1] at e
  have e2 : (sumL bs fun b => ((upD V T t).filter fun s => b &&& s == s).length) = thr bs (2 ^ t - 1) * chT (K - t) (T - t) := by
    rw [← sumL_thr]
    refine sumL_congr fun b m => ?_
    have := (count_of hV hT ht hTV (hb b m) (by rw [hk' b m]; omega)).2
    rw [hk' b m] at this; exact this
  constructor
  · unfold lamN lamD; rw [← e2, ← e, Nat.mul_comm]
  · obtain ⟨b, m⟩ : ∃ b, b ∈ bs := by
      cases bs with
      | nil => have := hs' _ (up_length hV hT (Nat.le_refl T) hTV).2; simp [thr] at this; omega
      | cons b r => exact ⟨b, by simp⟩
    have := (count_of hV hT ht hTV (hb b m) (by rw [hk' b m]; omega)).1
    rwa [hk' b m] at this
theorem strF_cases (V : Nat) (bs : List Nat) (k : Nat) : ∀ m t cur, strF V bs k m t cur = cur ∨
    ∃ j, t ≤ j ∧ j < t + m ∧ strF V bs k m t cur = ⟨j, V, k, thr bs (2 ^ j - 1), 0⟩ ∧ ∀ i, t ≤ i → i ≤ j → chkL V bs i V k (thr bs (2 ^ i - 1)) = 0 := by
  intro m
  induction m with
  | zero => intro t cur; exact .inl rfl
  | succ m ih =>
    intro t cur
    rw [strF]
    by_cases h : chkL V bs t V k (thr bs (2 ^ t - 1)) = 0
    · rw [if_pos h]
      rcases ih (t + 1) ⟨t, V, k, thr bs (2 ^ t - 1), 0⟩ with h1 | ⟨j, h1, h2, h3, h4⟩
      · exact .inr ⟨t, Nat.le_refl _, by omega, h1, fun i a b => by rw [show i = t by omega]; exact h⟩
      · refine .inr ⟨j, by omega, by omega, h3, fun i a b => ?_⟩
        rcases Nat.lt_or_ge t i with h5 | h5
        · exact h4 i h5 b
        · rw [show i = t by omega]; exact h
    · rw [if_neg h]; exact .inl rfl
/-- What design.Strength finds: nothing, or the greatest T, of which all lesser ones are right. -/
theorem strL_cases (V : Nat) (bs : List Nat) : strL V bs = ⟨0, 0, 0, 0, 90⟩ ∨
    ∃ T K : Nat, T ≤ 3 ∧ T ≤ K ∧ strL V bs = ⟨T, V, K, thr bs (2 ^ T - 1), 0⟩ ∧ ∀ t ≤ T, chkL V bs t V K (thr bs (2 ^ t - 1)) = 0 := by
  unfold strL
  cases bs with
  | nil => exact .inl rfl
  | cons b r =>
    rcases strF_cases V (b :: r) (cnt b 64) (min 3 (cnt b 64) + 1) 0 ⟨0, 0, 0, 0, 90⟩ with h | ⟨j, h1, h2, h3, h4⟩
    · exact .inl h
    · exact .inr ⟨j, cnt b 64, by omega, by omega, h3, fun t ht => h4 t (by omega) ht⟩
/-- A design has one number of blocks through t points. -/
theorem lesser_one {V t K : Nat} {bs : List Nat} {L : Int} (hV : V ≤ 7) (ht : t ≤ 3) (htV : t ≤ V) (h : chkL V bs t V K L = 0) : ((thr bs (2 ^ t - 1) : Nat) : Int) = L := by
  obtain ⟨-, -, -, hs⟩ := chkL_zero.1 h
  simp only [Int.toNat_natCast] at hs
  exact hs _ (up_length hV ht (Nat.le_refl t) htV).2
end Go.Proofs.YtoiahjncpngkeaaDoor
