/- What DesignLesser says, in plain words: double counting; no program in sight. -/
/- What the printed DesignLesser computes is true, whatever the bytes; no walk in sight. -/
import Derived.Test.YtoiahjncpngkeaaDoorSt
import Derived.Test.YtoiahjncpngkeaaDoorPdx10
namespace Go.Proofs.YtoiahjncpngkeaaDoor
set_option linter.unusedSimpArgs false
set_option linter.unusedVariables false
open Go.RowKit Go.Lib Go.Proofs.YtoiahjncpngkeaaDoorW.PrintWords

def sumL (l : List Nat) (f : Nat → Nat) : Nat := l.foldr (fun x a => f x + a) 0
theorem sumL_add (l : List Nat) (f g : Nat → Nat) : sumL l (fun x => f x + g x) = sumL l f + sumL l g := by
  induction l with
  | nil => rfl
  | cons x r ih => simp only [sumL, List.foldr_cons] at ih ⊢; omega
theorem sumL_const {l : List Nat} {f : Nat → Nat} {c : Nat} (h : ∀ x ∈ l, f x = c) : sumL l f = l.length * c := by
  induction l with
  | nil => simp [sumL]
  | cons x r ih =>
    have h1 := ih fun y hy => h y (by simp [hy])
    have h2 := h x (by simp)
    simp only [sumL, List.foldr_cons, List.length_cons] at h1 ⊢
    rw [h1, h2, Nat.add_mul]; omega
theorem thr_cons (b : Nat) (r : List Nat) (s : Nat) : thr (b :: r) s = (if b &&& s == s then 1 else 0) + thr r s := by
  unfold thr; rw [List.filter_cons]; split <;> simp; omega
/-- The pairs of a block and a set in it, counted in both orders. -/
theorem thr_swap (D : List Nat) (bs : List Nat) : sumL D (thr bs) = sumL bs fun b => (D.filter fun s => b &&& s == s).length := by
  induction bs with
  | nil =>
    rw [show (sumL [] fun b => (D.filter fun s => b &&& s == s).length) = D.length * 0 from rfl]
    exact sumL_const fun x _ => rfl
  | cons b r ih =>
    rw [show thr (b :: r) = fun s => (if b &&& s == s then 1 else 0) + thr r s from funext fun s => thr_cons b r s, sumL_add, ih]
    show _ = (D.filter fun s => b &&& s == s).length + _
    congr 1
    clear ih
    induction D with
    | nil => rfl
    | cons s D ih =>
      simp only [sumL, List.foldr_cons, List.filter_cons] at ih ⊢
      rw [ih]
      by_cases h : (b &&& s == s) = true
      · rw [if_pos h, if_pos h, List.length_cons]; omega
      · rw [if_neg h, if_neg h]; omega
/-- The sets of T points that hold the first t. -/
def upD (V T t : Nat) : List Nat := (dnL V T 0 0).filter fun s => s &&& (2 ^ t - 1) == 2 ^ t - 1
def okCount (V T t : Nat) : Bool :=
  Nat.beq (upD V T t).length (chT (V - t) (T - t)) && (dnL V t 0 0).contains (2 ^ t - 1) &&
  (List.range (2 ^ V)).all fun b =>
    if cnt b 64 < T then true
    else Nat.ble 1 (chT (cnt b 64 - t) (T - t)) && Nat.beq ((upD V T t).filter fun s => b &&& s == s).length (if b &&& (2 ^ t - 1) == 2 ^ t - 1 then chT (cnt b 64 - t) (T - t) else 0)
def okCounts : Bool := (List.range 8).all fun V => (List.range 4).all fun T => (List.range (T + 1)).all fun t => if T ≤ V then okCount V T t else true
set_option maxRecDepth 1000000 in
theorem okCounts_true : okCounts = true := by kernel_rfl
theorem okCount_of {V T t : Nat} (hV : V ≤ 7) (hT : T ≤ 3) (ht : t ≤ T) (hTV : T ≤ V) : okCount V T t = true := by
  have h := okCounts_true
  simp only [okCounts, List.all_eq_true, List.mem_range] at h
  have := h V (by omega) T (by omega) t (by omega)
  rwa [if_pos hTV] at this
theorem count_of {V T t b : Nat} (hV : V ≤ 7) (hT : T ≤ 3) (ht : t ≤ T) (hTV : T ≤ V) (hb : b < 2 ^ V) (hk : T ≤ cnt b 64) :
    1 ≤ chT (cnt b 64 - t) (T - t) ∧ ((upD V T t).filter fun s => b &&& s == s).length = if b &&& (2 ^ t - 1) == 2 ^ t - 1 then chT (cnt b 64 - t) (T - t) else 0 := by
  have h := okCount_of hV hT ht hTV
  simp only [okCount, Bool.and_eq_true, List.all_eq_true, List.mem_range] at h
  have := h.2 b hb
  rw [if_neg (by omega)] at this
  simp only [Bool.and_eq_true, Nat.beq_eq_true_eq, Nat.ble_eq] at this
  exact ⟨this.1, by first | exact this.2 | simpa using this.2⟩
theorem up_length {V T t : Nat} (hV : V ≤ 7) (hT : T ≤ 3) (ht : t ≤ T) (hTV : T ≤ V) : (upD V T t).length = chT (V - t) (T - t) ∧ 2 ^ t - 1 ∈ dnL V t 0 0 := by
  have h := okCount_of hV hT ht hTV
  simp only [okCount, Bool.and_eq_true, Nat.beq_eq_true_eq] at h
  exact ⟨by first | exact h.1.1 | simpa using h.1.1, by have := h.1.2; simpa using this⟩
theorem sumL_thr (bs : List Nat) (s c : Nat) : (sumL bs fun b => if b &&& s == s then c else 0) = thr bs s * c := by
  induction bs with
  | nil => simp [sumL, thr]
  | cons b r ih =>
    rw [thr_cons, Nat.add_mul]
    simp only [sumL, List.foldr_cons] at ih ⊢
    rw [ih]; split <;> simp
theorem sumL_congr {l : List Nat} {f g : Nat → Nat} (h : ∀ x ∈ l, f x = g x) : sumL l f = sumL l g := by
  induction l with
  | nil => rfl
  | cons x r ih => simp only [sumL, List.foldr_cons]; rw [h x (by simp)]; congr 1; exact ih fun y hy => h y (by simp [hy])

theorem chkL_zero {xV : Int} {bs : List Nat} {T V K L : Int} : chkL xV bs T V K L = 0 ↔
    rightB T V K L = true ∧ xV = V ∧ (∀ b ∈ bs, ((cnt b 64 : Nat) : Int) = K) ∧ ∀ s ∈ dnL V.toNat T.toNat 0 0, ((thr bs s : Nat) : Int) = L := by
  unfold chkL
  by_cases h : rightB T V K L = true
  · rw [if_pos h]
    by_cases h2 : xV = V ∧ (∀ b ∈ bs, ((cnt b 64 : Nat) : Int) = K) ∧ ∀ s ∈ dnL V.toNat T.toNat 0 0, ((thr bs s : Nat) : Int) = L
    · rw [if_pos h2]; exact ⟨fun _ => ⟨h, h2⟩, fun _ => rfl⟩
    · rw [if_neg h2]; simp [h]; intro a b; have := fun c => h2 ⟨a, b, c⟩; simpa using this
  · rw [if_neg h]; simp [h]
/-- **The number of blocks through t points of a design.** -/
theorem lesser_count {V T t K L : Nat} {bs : List Nat} (hV : V ≤ 7) (hT : T ≤ 3) (ht : t ≤ T) (hb : ∀ b ∈ bs, b < 2 ^ V) (h : chkL V bs T V K L = 0) :
    lamN V T K L t = thr bs (2 ^ t - 1) * lamD K T t ∧ 1 ≤ lamD K T t := by
  obtain ⟨hr, -, hk, hs⟩ := chkL_zero.1 h
  have hr' := rightB_iff.1 hr
  have hTV : T ≤ V := by omega
  have hk' : ∀ b ∈ bs, cnt b 64 = K := fun b m => by have := hk b m; omega
  simp only [Int.toNat_natCast] at hs
  have hs' : ∀ s ∈ dnL V T 0 0, thr bs s = L := fun s m => by have := hs s m; omega
  have e := thr_swap (upD V T t) bs
  have e1 : sumL (upD V T t) (thr bs) = (upD V T t).length * L := sumL_const fun x hx => hs' x (List.mem_filter.1 hx).1
  rw [e1, (up_length hV hT ht hTV).1] at e
  have e2 : (sumL bs fun b => ((upD V T t).filter fun s => b &&& s == s).length) = thr bs (2 ^ t - 1) * chT (K - t) (T - t) := by
    rw [← sumL_thr]
    refine sumL_congr fun b m => ?_
    have := (count_of hV hT ht hTV (hb b m) (by rw [hk' b m]; omega)).2
    rw [hk' b m] at this; exact this
  constructor
  · unfold lamN lamD; rw [← e2, ← e, Nat.mul_comm]
  · obtain ⟨b, m⟩ : ∃ b, b ∈ bs := by
      cases bs with
      | nil => have := hs' _ (up_length hV hT (Nat.le_refl T) hTV).2; simp [thr] at this; omega
      | cons b r => exact ⟨b, by simp⟩
    have := (count_of hV hT ht hTV (hb b m) (by rw [hk' b m]; omega)).1
    rwa [hk' b m] at this
theorem strF_cases (V : Nat) (bs : List Nat) (k : Nat) : ∀ m t cur, strF V bs k m t cur = cur ∨
    ∃ j, t ≤ j ∧ j < t + m ∧ strF V bs k m t cur = ⟨j, V, k, thr bs (2 ^ j - 1), 0⟩ ∧ ∀ i, t ≤ i → i ≤ j → chkL V bs i V k (thr bs (2 ^ i - 1)) = 0 := by
  intro m
  induction m with
  | zero => intro t cur; exact .inl rfl
  | succ m ih =>
    intro t cur
    rw [strF]
    by_cases h : chkL V bs t V k (thr bs (2 ^ t - 1)) = 0
    · rw [if_pos h]
      rcases ih (t + 1) ⟨t, V, k, thr bs (2 ^ t - 1), 0⟩ with h1 | ⟨j, h1, h2, h3, h4⟩
      · exact .inr ⟨t, Nat.le_refl _, by omega, h1, fun i a b => by rw [show i = t by omega]; exact h⟩
      · refine .inr ⟨j, by omega, by omega, h3, fun i a b => ?_⟩
        rcases Nat.lt_or_ge t i with h5 | h5
        · exact h4 i h5 b
        · rw [show i = t by omega]; exact h
    · rw [if_neg h]; exact .inl rfl
/-- What design.Strength finds: nothing, or the greatest T, of which all lesser ones are right. -/
theorem strL_cases (V : Nat) (bs : List Nat) : strL V bs = ⟨0, 0, 0, 0, 90⟩ ∨
    ∃ T K : Nat, T ≤ 3 ∧ T ≤ K ∧ strL V bs = ⟨T, V, K, thr bs (2 ^ T - 1), 0⟩ ∧ ∀ t ≤ T, chkL V bs t V K (thr bs (2 ^ t - 1)) = 0 := by
  unfold strL
  cases bs with
  | nil => exact .inl rfl
  | cons b r =>
    rcases strF_cases V (b :: r) (cnt b 64) (min 3 (cnt b 64) + 1) 0 ⟨0, 0, 0, 0, 90⟩ with h | ⟨j, h1, h2, h3, h4⟩
    · exact .inl h
    · exact .inr ⟨j, cnt b 64, by omega, by omega, h3, fun t ht => h4 t (by omega) ht⟩
/-- A design has one number of blocks through t points. -/
theorem lesser_one {V t K : Nat} {bs : List Nat} {L : Int} (hV : V ≤ 7) (ht : t ≤ 3) (htV : t ≤ V) (h : chkL V bs t V K L = 0) : ((thr bs (2 ^ t - 1) : Nat) : Int) = L := by
  obtain ⟨-, -, -, hs⟩ := chkL_zero.1 h
  simp only [Int.toNat_natCast] at hs
  exact hs _ (up_length hV ht (Nat.le_refl t) htV).2
end Go.Proofs.YtoiahjncpngkeaaDoor


namespace Go.Proofs.YtoiahjncpngkeaaDoor.Pd
set_option linter.unusedSimpArgs false
set_option linter.unusedVariables false
open Go.RowKit Go.Lib Go.Proofs.YtoiahjncpngkeaaDoorW.PrintWords Go.Proofs.YtoiahjncpngkeaaDoor

theorem limB_mem {l : List Nat} {m : Nat} (hm1 : 1 ≤ m) (hm7 : m ≤ 7) : ∀ b ∈ limB l m, b < 2 ^ limV l m := fun b hb =>
  limRaw_lt hm1 hm7 b (List.mem_of_mem_take (sortedL_mem.1 hb))
theorem limB_length {l : List Nat} {m : Nat} : (limB l m).length ≤ 10 := by
  have h : ∀ (xs acc : List Nat), (xs.foldl withL acc).length = acc.length + xs.length := by
    intro xs
    induction xs with
    | nil => intro acc; simp
    | cons x r ih => intro acc; rw [List.foldl_cons, ih, withL_length, List.length_cons]; omega
  show ((((limRaw l m).take 10).foldl withL []).length) ≤ 10
  rw [h, List.length_take]; simp; omega
theorem nl_il (bs : List Nat) : nl (il bs) = bs := by
  induction bs with
  | nil => rfl
  | cons b r ih => simp only [nl, il, List.map_cons, Int.toNat_natCast] at ih ⊢; rw [ih]
theorem made_f {l : List Int} (hl : l.length < 2 ^ 63) (hb : okL 256 l = true) : plexusref06_Made.f l = some (((limV (nl l) 7 : Nat) : Int), il (limB (nl l) 7)) := by
  unfold plexusref06_Made.f plexusref06_Limited.f
  rw [if_pos ⟨hl, hb, by decide, by decide⟩]; rfl

/-- A structure as Made makes it. -/
structure Mk (V : Nat) (bs : List Nat) : Prop where
  v1 : 1 ≤ V
  v7 : V ≤ 7
  bl : ∀ b ∈ bs, b < 2 ^ V
  n : bs.length ≤ 10
theorem mk_lim (l : List Nat) : Mk (limV l 7) (limB l 7) := ⟨(limV_bd l 7 (by decide)).1, (limV_bd l 7 (by decide)).2, limB_mem (by decide) (by decide), limB_length⟩
theorem Mk.small {V : Nat} {bs : List Nat} (h : Mk V bs) : okL 16384 (il bs) = true :=
  okL_il fun b hb => Nat.lt_of_lt_of_le (h.bl b hb) (Nat.le_trans (Nat.pow_le_pow_right (by decide) h.v7) (by decide))
theorem check_f {V : Nat} {bs : List Nat} (h : Mk V bs) (a b c d : Int) : design_Check.f V (il bs) a b c d = some (chkL V bs a b c d) := by
  unfold design_Check.f
  rw [if_pos ⟨by rw [il_length]; have := h.n; omega, h.small⟩, nl_il]
theorem strength_f {V : Nat} {bs : List Nat} (h : Mk V bs) : plexuslaw09_strength.f V (il bs) = some ((strL V bs).T, (strL V bs).V, (strL V bs).K, (strL V bs).L, (strL V bs).E) := by
  unfold plexuslaw09_strength.f design_Strength.f
  rw [if_pos ⟨by rw [il_length]; have := h.n; omega, h.small, by omega⟩, nl_il]; rfl
/-- The number of blocks through t points, as design.Lambda finds it. -/
theorem lambda_f {V T K L t : Nat} {bs : List Nat} (h : Mk V bs) (hT : T ≤ 3) (ht : t ≤ T) (hc : chkL V bs T V K L = 0) :
    plexuslaw09_lambda.f T V K L t = some (((thr bs (2 ^ t - 1) : Nat) : Int), 1, 0) := by
  obtain ⟨e1, e2⟩ := lesser_count h.v7 hT ht h.bl hc
  unfold plexuslaw09_lambda.f design_Lambda.f
  rw [if_pos ⟨(chkL_zero.1 hc).1, by omega, by omega⟩]
  simp only [Int.toNat_natCast, e1, Nat.gcd_mul_left_left, Option.bind_some]
  rw [Nat.mul_div_cancel _ (by omega), Nat.div_self (by omega)]; rfl

theorem wrap_id {x : Int} (h1 : -9223372036854775808 ≤ x) (h2 : x ≤ 9223372036854775807) : wrap64 x = x := by unfold wrap64; omega
theorem lesser_loop {V T K L : Nat} {bs : List Nat} (h : Mk V bs) (hT : T ≤ 3) (hTK : T ≤ K) (hc : ∀ t ≤ T, chkL V bs t V K (thr bs (2 ^ t - 1)) = 0) (hL : L = thr bs (2 ^ T - 1)) :
    ∀ m t, t + m = T + 1 → plexuslaw09_DesignLesser.l0 (m + 1) true t V (il bs) T V K L 0 = some true := by
  intro m
  induction m with
  | zero => intro t e; rw [plexuslaw09_DesignLesser.l0, if_neg (by omega)]
  | succ m ih =>
    intro t e
    have hct := hc t (by omega)
    have hTV : T ≤ V := by have := rightB_iff.1 (chkL_zero.1 (hc T (Nat.le_refl _))).1; omega
    have hlt : thr bs (2 ^ t - 1) ≤ 10 := Nat.le_trans (thr_le _ _) h.n
    have hnext : wrap64 ((t : Int) + 1) = ((t + 1 : Nat) : Int) := by rw [wrap_id (by omega) (by omega)]; simp
    have hlam := lambda_f h hT (show t ≤ T by omega) (show chkL V bs T V K L = 0 by rw [hL]; exact hc T (Nat.le_refl _))
    have hnx := ih (t + 1) (by omega)
    have hone : ∀ L2 : Int, chkL V bs t V K L2 = 0 → ((thr bs (2 ^ t - 1) : Nat) : Int) = L2 := fun L2 h2 => lesser_one h.v7 (by clear h2; omega) (by clear h2; omega) h2
    have hck := check_f h t V K ((thr bs (2 ^ t - 1) : Nat) : Int)
    rw [hct] at hck
    have hck2 := fun L2 : Int => check_f h t V K L2
    have h0 : ((t : Nat) : Int) ≤ ((T : Nat) : Int) := by omega
    clear hct hc hL hlt ih
    generalize ((thr bs (2 ^ t - 1) : Nat) : Int) = x1 at hone hck hlam
    generalize ((t + 1 : Nat) : Int) = t2 at hnx hnext
    rw [plexuslaw09_DesignLesser.l0, if_pos h0, hlam, Option.bind_some]
    dsimp only
    rw [if_pos (show (0 : Int) = 0 from rfl), if_pos (show (1 : Int) = 1 from rfl), hck, Option.bind_some, if_pos (show (0 : Int) = 0 from rfl), hck2, Option.bind_some, hnext, hnx]
    have hone2 := hone (wrap64 (Int.tmod x1 64 + 1))
    generalize wrap64 (Int.tmod x1 64 + 1) = x2 at hone2 ⊢
    by_cases h2 : chkL V bs t V K x2 = 0
    · rw [if_pos h2, if_pos (hone2 h2)]
    · rw [if_neg h2]
/-- **DesignLesser answers true.** -/
theorem lesser_true {l : List Int} (hl : l.length < 2 ^ 63) (hb : okL 256 l = true) : ∃ k, plexuslaw09_DesignLesser.f k l = some true := by
  have hm := mk_lim (nl l)
  have hf : ∀ k, plexuslaw09_DesignLesser.f k l = plexuslaw09_DesignLesser.f k l := fun _ => rfl
  conv at hf => intro k; rhs; unfold plexuslaw09_DesignLesser.f plexuslaw09_examples.f; rw [Option.bind_some, if_pos rfl, made_f hl hb]; simp only [Option.bind_some]; rw [strength_f hm]
  generalize limV (nl l) 7 = V at hm hf
  generalize limB (nl l) 7 = bs at hm hf
  simp only [Option.bind_some] at hf
  rcases strL_cases V bs with h | ⟨T, K, h1, h2, h, h4⟩
  · rw [h] at hf; exact ⟨0, (hf 0).trans rfl⟩
  · rw [h] at hf
    simp only [if_true] at hf
    exact ⟨T + 2, (hf _).trans (lesser_loop hm h1 h2 h4 rfl (T + 1) 0 (by omega))⟩
end Go.Proofs.YtoiahjncpngkeaaDoor.Pd
