/- What DesignLesser says, in plain words: double counting; no program in sight. -/
/- What DesignComplements says, in plain words: the blocks that avoid a set, counted by inclusion and exclusion; no program in sight. -/
/- What the printed functions that all laws of Design share compute; no walk in sight. -/
/- What the printed DesignComplements computes is true, whatever the bytes; no walk in sight. -/
import Derived.Test.YtoiahjncpngkeaaDoorSt
import Derived.Test.YtoiahjncpngkeaaDoorCo
import Derived.Test.YtoiahjncpngkeaaDoorPdx5
import Derived.Test.YtoiahjncpngkeaaDoorPdx6
import Derived.Test.YtoiahjncpngkeaaDoorPdx8
import Derived.Test.YtoiahjncpngkeaaDoorPdx16
namespace Go.Proofs.YtoiahjncpngkeaaDoor
set_option linter.unusedSimpArgs false
set_option linter.unusedVariables false
open Go.RowKit Go.Lib Go.Proofs.YtoiahjncpngkeaaDoorW.PrintWords

def sumL (l : List Nat) (f : Nat → Nat) : Nat := l.foldr (fun x a => f x + a) 0
theorem sumL_add (l : List Nat) (f g : Nat → Nat) : sumL l (fun x => f x + g x) = sumL l f + sumL l g := by
  induction l with
  | nil => rfl
  | cons x r ih => simp only [sumL, List.foldr_cons] at ih ⊢; omega
theorem sumL_const {l : List Nat} {f : Nat → Nat} {c : Nat} (h : ∀ x ∈ l, f x = c) : sumL l f = l.length * c := by
  induction l with
  | nil => simp [sumL]
  | cons x r ih =>
    have h1 := ih fun y hy => h y (by simp [hy])
    have h2 := h x (by simp)
    simp only [sumL, List.foldr_cons, List.length_cons] at h1 ⊢
    rw [h1, h2, Nat.add_mul]; omega
theorem thr_cons (b : Nat) (r : List Nat) (s : Nat) : thr (b :: r) s = (if b &&& s == s then 1 else 0) + thr r s := by
  unfold thr; rw [List.filter_cons]; split <;> simp; omega
/-- The pairs of a block and a set in it, counted in both orders. -/
theorem thr_swap (D : List Nat) (bs : List Nat) : sumL D (thr bs) = sumL bs fun b => (D.filter fun s => b &&& s == s).length := by
  induction bs with
  | nil =>
    rw [show (sumL [] fun b => (D.filter fun s => b &&& s == s).length) = D.length * 0 from rfl]
    exact sumL_const fun x _ => rfl
  | cons b r ih =>
    rw [show thr (b :: r) = fun s => (if b &&& s == s then 1 else 0) + thr r s from funext fun s => thr_cons b r s, sumL_add, ih]
    show _ = (D.filter fun s => b &&& s == s).length + _
    congr 1
    clear ih
    induction D with
    | nil => rfl
    | cons s D ih =>
      simp only [sumL, List.foldr_cons, List.filter_cons] at ih ⊢
      rw [ih]
      by_cases h : (b &&& s == s) = true
      · rw [if_pos h, if_pos h, List.length_cons]; omega
      · rw [if_neg h, if_neg h]; omega
/-- The sets of T points that hold the first t. -/
def upD (V T t : Nat) : List Nat := (dnL V T 0 0).filter fun s => s &&& (2 ^ t - 1) == 2 ^ t - 1
def okCount (V T t : Nat) : Bool :=
  Nat.beq (upD V T t).length (chT (V - t) (T - t)) && (dnL V t 0 0).contains (2 ^ t - 1) &&
  (List.range (2 ^ V)).all fun b =>
    if cnt b 64 < T then true
    else Nat.ble 1 (chT (cnt b 64 - t) (T - t)) && Nat.beq ((upD V T t).filter fun s => b &&& s == s).length (if b &&& (2 ^ t - 1) == 2 ^ t - 1 then chT (cnt b 64 - t) (T - t) else 0)
def okCounts : Bool := (List.range 8).all fun V => (List.range 4).all fun T => (List.range (T + 1)).all fun t => if T ≤ V then okCount V T t else true
set_option maxRecDepth 1000000 in
theorem okCounts_true : okCounts = true := by kernel_rfl
theorem okCount_of {V T t : Nat} (hV : V ≤ 7) (hT : T ≤ 3) (ht : t ≤ T) (hTV : T ≤ V) : okCount V T t = true := by
  have h := okCounts_true
  simp only [okCounts, List.all_eq_true, List.mem_range] at h
  have := h V (by omega) T (by omega) t (by omega)
  rwa [if_pos hTV] at this
theorem count_of {V T t b : Nat} (hV : V ≤ 7) (hT : T ≤ 3) (ht : t ≤ T) (hTV : T ≤ V) (hb : b < 2 ^ V) (hk : T ≤ cnt b 64) :
    1 ≤ chT (cnt b 64 - t) (T - t) ∧ ((upD V T t).filter fun s => b &&& s == s).length = if b &&& (2 ^ t - 1) == 2 ^ t - 1 then chT (cnt b 64 - t) (T - t) else 0 := by
  have h := okCount_of hV hT ht hTV
  simp only [okCount, Bool.and_eq_true, List.all_eq_true, List.mem_range] at h
  have := h.2 b hb
  rw [if_neg (by omega)] at this
  simp only [Bool.and_eq_true, Nat.beq_eq_true_eq, Nat.ble_eq] at this
  exact ⟨this.1, by first | exact this.2 | simpa using this.2⟩
theorem up_length {V T t : Nat} (hV : V ≤ 7) (hT : T ≤ 3) (ht : t ≤ T) (hTV : T ≤ V) : (upD V T t).length = chT (V - t) (T - t) ∧ 2 ^ t - 1 ∈ dnL V t 0 0 := by
  have h := okCount_of hV hT ht hTV
  simp only [okCount, Bool.and_eq_true, Nat.beq_eq_true_eq] at h
  exact ⟨by first | exact h.1.1 | simpa using h.1.1, by have := h.1.2; simpa using this⟩
theorem sumL_thr (bs : List Nat) (s c : Nat) : (sumL bs fun b => if b &&& s == s then c else 0) = thr bs s * c := by
  induction bs with
  | nil => simp [sumL, thr]
  | cons b r ih =>
    rw [thr_cons, Nat.add_mul]
    simp only [sumL, List.foldr_cons] at ih ⊢
    rw [ih]; split <;> simp
theorem sumL_congr {l : List Nat} {f g : Nat → Nat} (h : ∀ x ∈ l, f x = g x) : sumL l f = sumL l g := by
  induction l with
  | nil => rfl
  | cons x r ih => simp only [sumL, List.foldr_cons]; rw [h x (by simp)]; congr 1; exact ih fun y hy => h y (by simp [hy])

theorem chkL_zero {xV : Int} {bs : List Nat} {T V K L : Int} : chkL xV bs T V K L = 0 ↔
    rightB T V K L = true ∧ xV = V ∧ (∀ b ∈ bs, ((cnt b 64 : Nat) : Int) = K) ∧ ∀ s ∈ dnL V.toNat T.toNat 0 0, ((thr bs s : Nat) : Int) = L := by
  unfold chkL
  by_cases h : rightB T V K L = true
  · rw [if_pos h]
    by_cases h2 : xV = V ∧ (∀ b ∈ bs, ((cnt b 64 : Nat) : Int) = K) ∧ ∀ s ∈ dnL V.toNat T.toNat 0 0, ((thr bs s : Nat) : Int) = L
    · rw [if_pos h2]; exact ⟨fun _ => ⟨h, h2⟩, fun _ => rfl⟩
    · rw [if_neg h2]; simp [h]; intro a b; have := fun c => h2 ⟨a, b, c⟩; simpa using this
  · rw [if_neg h]; simp [h]
/-- **The number of blocks through t points of a design.** -/
theorem lesser_count {V T t K L : Nat} {bs : List Nat} (hV : V ≤ 7) (hT : T ≤ 3) (ht : t ≤ T) (hb : ∀ b ∈ bs, b < 2 ^ V) (h : chkL V bs T V K L = 0) :
    lamN V T K L t = thr bs (2 ^ t - 1) * lamD K T t ∧ 1 ≤ lamD K T t := by
  obtain ⟨hr, -, hk, hs⟩ := chkL_zero.1 h
  have hr' := rightB_iff.1 hr
  have hTV : T ≤ V := by omega
  have hk' : ∀ b ∈ bs, cnt b 64 = K := fun b m => by have := hk b m; omega
  simp only [Int.toNat_natCast] at hs
  have hs' : ∀ s ∈ dnL V T 0 0, thr bs s = L := fun s m => by have := hs s m; omega
  have e := thr_swap (upD V T t) bs
  have e1 : sumL (upD V T t) (thr bs) = (upD V T t).length * L := sumL_const fun x hx => hs' x (List.mem_filter.1 hx).1
  rw [e1, (up_length hV hT ht hTV).1] at e
  have e2 : (sumL bs fun b => ((upD V T t).filter fun s => b &&& s == s).length) = thr bs (2 ^ t - 1) * chT (K - t) (T - t) := by
    rw [← sumL_thr]
    refine sumL_congr fun b m => ?_
    have := (count_of hV hT ht hTV (hb b m) (by rw [hk' b m]; omega)).2
    rw [hk' b m] at this; exact this
  constructor
  · unfold lamN lamD; rw [← e2, ← e, Nat.mul_comm]
  · obtain ⟨b, m⟩ : ∃ b, b ∈ bs := by
      cases bs with
      | nil => have := hs' _ (up_length hV hT (Nat.le_refl T) hTV).2; simp [thr] at this; omega
      | cons b r => exact ⟨b, by simp⟩
    have := (count_of hV hT ht hTV (hb b m) (by rw [hk' b m]; omega)).1
    rwa [hk' b m] at this
theorem strF_cases (V : Nat) (bs : List Nat) (k : Nat) : ∀ m t cur, strF V bs k m t cur = cur ∨
    ∃ j, t ≤ j ∧ j < t + m ∧ strF V bs k m t cur = ⟨j, V, k, thr bs (2 ^ j - 1), 0⟩ ∧ ∀ i, t ≤ i → i ≤ j → chkL V bs i V k (thr bs (2 ^ i - 1)) = 0 := by
  intro m
  induction m with
  | zero => intro t cur; exact .inl rfl
  | succ m ih =>
    intro t cur
    rw [strF]
    by_cases h : chkL V bs t V k (thr bs (2 ^ t - 1)) = 0
    · rw [if_pos h]
      rcases ih (t + 1) ⟨t, V, k, thr bs (2 ^ t - 1), 0⟩ with h1 | ⟨j, h1, h2, h3, h4⟩
      · exact .inr ⟨t, Nat.le_refl _, by omega, h1, fun i a b => by rw [show i = t by omega]; exact h⟩
      · refine .inr ⟨j, by omega, by omega, h3, fun i a b => ?_⟩
        rcases Nat.lt_or_ge t i with h5 | h5
        · exact h4 i h5 b
        · rw [show i = t by omega]; exact h
    · rw [if_neg h]; exact .inl rfl
/-- What design.Strength finds: nothing, or the greatest T, of which all lesser ones are right. -/
theorem strL_cases (V : Nat) (bs : List Nat) : strL V bs = ⟨0, 0, 0, 0, 90⟩ ∨
    ∃ T K : Nat, T ≤ 3 ∧ T ≤ K ∧ strL V bs = ⟨T, V, K, thr bs (2 ^ T - 1), 0⟩ ∧ ∀ t ≤ T, chkL V bs t V K (thr bs (2 ^ t - 1)) = 0 := by
  unfold strL
  cases bs with
  | nil => exact .inl rfl
  | cons b r =>
    rcases strF_cases V (b :: r) (cnt b 64) (min 3 (cnt b 64) + 1) 0 ⟨0, 0, 0, 0, 90⟩ with h | ⟨j, h1, h2, h3, h4⟩
    · exact .inl h
    · exact .inr ⟨j, cnt b 64, by omega, by omega, h3, fun t ht => h4 t (by omega) ht⟩
/-- A design has one number of blocks through t points. -/
theorem lesser_one {V t K : Nat} {bs : List Nat} {L : Int} (hV : V ≤ 7) (ht : t ≤ 3) (htV : t ≤ V) (h : chkL V bs t V K L = 0) : ((thr bs (2 ^ t - 1) : Nat) : Int) = L := by
  obtain ⟨-, -, -, hs⟩ := chkL_zero.1 h
  simp only [Int.toNat_natCast] at hs
  exact hs _ (up_length hV ht (Nat.le_refl t) htV).2
end Go.Proofs.YtoiahjncpngkeaaDoor


namespace Go.Proofs.YtoiahjncpngkeaaDoor
set_option linter.unusedSimpArgs false
set_option linter.unusedVariables false
open Go.RowKit Go.Lib Go.Proofs.YtoiahjncpngkeaaDoorW.PrintWords

-- sorting moves, and no more
theorem withL_perm (bs : List Nat) (b : Nat) : (withL bs b).Perm (b :: bs) := by
  unfold withL
  rw [List.append_assoc]
  have := List.perm_middle (a := b) (l₁ := bs.take (wat bs b)) (l₂ := bs.drop (wat bs b))
  rwa [List.take_append_drop] at this
theorem sortedL_perm (l : List Nat) : (sortedL l).Perm l := by
  have : ∀ (l acc : List Nat), (l.foldl withL acc).Perm (acc ++ l) := by
    intro l
    induction l with
    | nil => intro acc; simp
    | cons x r ih =>
      intro acc
      rw [List.foldl_cons]
      refine (ih (withL acc x)).trans (((withL_perm acc x).append_right r).trans ?_)
      exact (List.perm_middle (a := x) (l₁ := acc) (l₂ := r)).symm
  have h := this l []
  rw [List.nil_append] at h
  exact h
theorem thr_perm {l l' : List Nat} (h : l.Perm l') (s : Nat) : thr l s = thr l' s := by
  unfold thr
  exact (h.filter _).length_eq
-- the points that a block lacks
theorem nbeq (a b : Nat) : Nat.beq a b = (a == b) := by rw [Bool.eq_iff_iff]; simp
def okCm : Bool := (List.range 8).all fun V => (List.range (2 ^ V)).all fun b => Nat.beq (cnt (cm V b) 64) (V - cnt b 64) && Nat.ble (cnt b 64) V && (List.range (2 ^ V)).all fun s => (Nat.beq (cm V b &&& s) s) == (Nat.beq (b &&& s) 0)
set_option maxRecDepth 1000000 in
theorem okCm_true : okCm = true := by kernel_rfl
theorem cm_of {V b : Nat} (hV : V ≤ 7) (hb : b < 2 ^ V) : cnt (cm V b) 64 = V - cnt b 64 ∧ cnt b 64 ≤ V ∧ ∀ s < 2 ^ V, (cm V b &&& s == s) = (b &&& s == 0) := by
  have h := okCm_true
  simp only [okCm, List.all_eq_true, List.mem_range, Bool.and_eq_true] at h
  have := h V (by omega) b hb
  exact ⟨Nat.eq_of_beq_eq_true this.1.1, Nat.le_of_ble_eq_true this.1.2, fun s hs => by have h2 := this.2 s hs; rw [nbeq, nbeq] at h2; exact beq_iff_eq.1 h2⟩
/-- How many blocks have no point of a set. -/
def avd (bs : List Nat) (s : Nat) : Nat := (bs.filter fun b => b &&& s == 0).length
theorem thr_cm {V : Nat} (hV : V ≤ 7) {bs : List Nat} (hb : ∀ b ∈ bs, b < 2 ^ V) {s : Nat} (hs : s < 2 ^ V) : thr (bs.map (cm V)) s = avd bs s := by
  unfold thr avd
  rw [List.filter_map, List.length_map]
  congr 1
  refine List.filter_congr fun b hm => ?_
  exact (cm_of hV (hb b hm)).2.2 s hs
theorem cm_cm {V b : Nat} (hb : b < 2 ^ V) : cm V (cm V b) = b := by unfold cm; omega
def okSubs3 : Bool := (List.range 8).all fun V => (List.range (2 ^ V)).all fun x => (List.range 4).all fun i => Nat.beq ((dnL V i 0 0).filter fun s => Nat.beq (x &&& s) s).length (chT (cnt x 64) i)
set_option maxRecDepth 1000000 in
theorem okSubs3_true : okSubs3 = true := by kernel_rfl
theorem subs3_of {V x i : Nat} (hV : V ≤ 7) (hx : x < 2 ^ V) (hi : i ≤ 3) : ((dnL V i 0 0).filter fun s => x &&& s == s).length = chT (cnt x 64) i := by
  have h := okSubs3_true
  simp only [okSubs3, List.all_eq_true, List.mem_range] at h
  have := Nat.eq_of_beq_eq_true (h V (by omega) x hx i (by omega))
  rw [← this]
  congr 1
  exact List.filter_congr fun s _ => (nbeq _ _).symm
def okSets : Bool := (List.range 8).all fun V => (List.range 4).all fun T => (dnL V T 0 0).all fun s => Nat.beq (cnt s 64) T && Nat.ble (s + 1) (2 ^ V)
set_option maxRecDepth 1000000 in
theorem okSets_true : okSets = true := by kernel_rfl
theorem sets_of {V T s : Nat} (hV : V ≤ 7) (hT : T ≤ 3) (hs : s ∈ dnL V T 0 0) : cnt s 64 = T ∧ s < 2 ^ V := by
  have h := okSets_true
  simp only [okSets, List.all_eq_true, List.mem_range, Bool.and_eq_true] at h
  have := h V (by omega) T (by omega) s hs
  exact ⟨Nat.eq_of_beq_eq_true this.1, Nat.le_of_ble_eq_true this.2⟩
theorem sub_and2 (a b s : Nat) : ((a &&& s == s) && (b &&& s == s)) = ((a &&& b) &&& s == s) := by
  rw [Bool.eq_iff_iff]
  simp only [Bool.and_eq_true, beq_iff_eq]
  constructor
  · rintro ⟨h1, h2⟩; rw [Nat.and_assoc, h2, h1]
  · intro h
    constructor
    · have : a &&& ((a &&& b) &&& s) = (a &&& b) &&& s := by rw [← Nat.and_assoc, ← Nat.and_assoc, Nat.and_self]
      rw [h] at this; exact this
    · have : b &&& ((a &&& b) &&& s) = (a &&& b) &&& s := by rw [Nat.and_comm a b, ← Nat.and_assoc, ← Nat.and_assoc, Nat.and_self]
      rw [h] at this; exact this
/-- The sets of i points that a set and the blocks have in common. -/
theorem avoid_sums {V T s i lam : Nat} {bs : List Nat} (hV : V ≤ 7) (hT : T ≤ 3) (hi : i ≤ T) (hb : ∀ b ∈ bs, b < 2 ^ V) (hs : s ∈ dnL V T 0 0) (h : ∀ u ∈ dnL V i 0 0, thr bs u = lam) :
    (sumL bs fun b => chT (cnt (s &&& b) 64) i) = chT T i * lam := by
  obtain ⟨hc, hs2⟩ := sets_of hV hT hs
  have e := thr_swap ((dnL V i 0 0).filter fun u => s &&& u == u) bs
  have e1 : sumL ((dnL V i 0 0).filter fun u => s &&& u == u) (thr bs) = ((dnL V i 0 0).filter fun u => s &&& u == u).length * lam := sumL_const fun x hx => h x (List.mem_filter.1 hx).1
  rw [e1, subs3_of hV hs2 (by omega), hc] at e
  rw [e]
  refine sumL_congr fun b hm => ?_
  rw [List.filter_filter, ← subs3_of hV (Nat.lt_of_le_of_lt Nat.and_le_left hs2 : s &&& b < 2 ^ V) (by omega)]
  congr 2
  funext u
  rw [← sub_and2 s b u, Bool.and_comm]
theorem cnt_zero_iff {V x : Nat} (hV : V ≤ 7) (hx : x < 2 ^ V) : cnt x 64 = 0 ↔ x = 0 := by
  have h : ∀ x < 128, cnt x 64 = 0 → x = 0 := by decide +kernel
  have : 2 ^ V ≤ 2 ^ 7 := Nat.pow_le_pow_right (by decide) hV
  exact ⟨h x (by omega), fun e => by subst e; decide⟩
theorem avd_sum {V s : Nat} {bs : List Nat} (hV : V ≤ 7) (hs : s < 2 ^ V) : avd bs s = sumL bs fun b => if cnt (s &&& b) 64 = 0 then 1 else 0 := by
  induction bs with
  | nil => rfl
  | cons b r ih =>
    unfold avd at ih ⊢
    rw [List.filter_cons]
    simp only [sumL, List.foldr_cons] at ih ⊢
    have hz := cnt_zero_iff hV (Nat.lt_of_le_of_lt Nat.and_le_left hs : s &&& b < 2 ^ V)
    rw [Nat.and_comm b s]
    by_cases h : s &&& b = 0
    · rw [if_pos (by simpa using h), if_pos (hz.2 h), List.length_cons, ih]; omega
    · rw [if_neg (by simpa using h), if_neg (fun c => h (hz.1 c)), ih]; omega
theorem sumL_add' {l : List Nat} {f g h : Nat → Nat} (e : ∀ x ∈ l, f x = g x + h x) : sumL l f = sumL l g + sumL l h := by
  rw [← sumL_add]; exact sumL_congr e
theorem cnt_and_le {V s b T : Nat} (hs : cnt s 64 = T) : cnt (s &&& b) 64 ≤ T := by
  rw [← hs]
  have : ∀ k, cnt (s &&& b) k ≤ cnt s k := by
    intro k
    induction k with
    | zero => simp [cnt]
    | succ k ih =>
      simp only [cnt, Nat.testBit_and]
      cases h1 : s.testBit k <;> cases h2 : b.testBit k <;> simp <;> omega
  exact this 64
/-- The signed sum of the numbers of blocks through i points. -/
def tsum (T : Nat) (lam : Nat → Nat) : Int :=
  match T with
  | 0 => lam 0
  | 1 => lam 0 - lam 1
  | 2 => lam 0 - 2 * lam 1 + lam 2
  | _ => lam 0 - 3 * lam 1 + 3 * lam 2 - lam 3
theorem avd_tsum {V T s : Nat} {bs : List Nat} {lam : Nat → Nat} (hV : V ≤ 7) (hT : T ≤ 3) (hb : ∀ b ∈ bs, b < 2 ^ V) (hs : s ∈ dnL V T 0 0) (h : ∀ i ≤ T, ∀ u ∈ dnL V i 0 0, thr bs u = lam i) :
    ((avd bs s : Nat) : Int) = tsum T lam := by
  obtain ⟨hc, hs2⟩ := sets_of hV hT hs
  have S := fun i (hi : i ≤ T) => avoid_sums hV hT hi hb hs (h i hi)
  rw [avd_sum hV hs2]
  have hle : ∀ b ∈ bs, cnt (s &&& b) 64 ≤ T := fun b _ => cnt_and_le (V := V) hc
  have id3 : ∀ c ≤ 3, (if c = 0 then 1 else 0) + chT c 1 + chT c 3 = chT c 0 + chT c 2 := by decide
  have id2 : ∀ c ≤ 2, (if c = 0 then 1 else 0) + chT c 1 = chT c 0 + chT c 2 := by decide
  have id1 : ∀ c ≤ 1, (if c = 0 then 1 else 0) + chT c 1 = chT c 0 := by decide
  have id0 : ∀ c ≤ 0, (if c = 0 then 1 else 0) = chT c 0 := by decide
  obtain rfl | rfl | rfl | rfl : T = 0 ∨ T = 1 ∨ T = 2 ∨ T = 3 := by omega
  · have e0 := S 0 (by omega)
    rw [sumL_congr fun b hm => id0 _ (hle b hm), e0]; simp [tsum, chT]
  · have e0 := S 0 (by omega); have e1 := S 1 (by omega)
    have := sumL_congr fun b hm => id1 _ (hle b hm)
    rw [sumL_add, e0, e1] at this
    simp [tsum, chT] at this ⊢; omega
  · have e0 := S 0 (by omega); have e1 := S 1 (by omega); have e2 := S 2 (by omega)
    have := sumL_congr fun b hm => id2 _ (hle b hm)
    rw [sumL_add, sumL_add, e0, e1, e2] at this
    simp [tsum, chT] at this ⊢; omega
  · have e0 := S 0 (by omega); have e1 := S 1 (by omega); have e2 := S 2 (by omega); have e3 := S 3 (by omega)
    have := sumL_congr fun b hm => id3 _ (hle b hm)
    rw [sumL_add, sumL_add, sumL_add, e0, e1, e2, e3] at this
    simp [tsum, chT] at this ⊢; omega
end Go.Proofs.YtoiahjncpngkeaaDoor


namespace Go.Proofs.YtoiahjncpngkeaaDoor.Pd
set_option linter.unusedSimpArgs false
set_option linter.unusedVariables false
open Go.RowKit Go.Lib Go.Proofs.YtoiahjncpngkeaaDoorW.PrintWords Go.Proofs.YtoiahjncpngkeaaDoor

theorem limB_mem {l : List Nat} {m : Nat} (hm1 : 1 ≤ m) (hm7 : m ≤ 7) : ∀ b ∈ limB l m, b < 2 ^ limV l m := fun b hb =>
  limRaw_lt hm1 hm7 b (List.mem_of_mem_take (sortedL_mem.1 hb))
theorem limB_length {l : List Nat} {m : Nat} : (limB l m).length ≤ 10 := by
  have h : ∀ (xs acc : List Nat), (xs.foldl withL acc).length = acc.length + xs.length := by
    intro xs
    induction xs with
    | nil => intro acc; simp
    | cons x r ih => intro acc; rw [List.foldl_cons, ih, withL_length, List.length_cons]; omega
  show ((((limRaw l m).take 10).foldl withL []).length) ≤ 10
  rw [h, List.length_take]; simp; omega
theorem nl_il (bs : List Nat) : nl (il bs) = bs := by
  induction bs with
  | nil => rfl
  | cons b r ih => simp only [nl, il, List.map_cons, Int.toNat_natCast] at ih ⊢; rw [ih]
theorem made_f {l : List Int} (hl : l.length < 2 ^ 63) (hb : okL 256 l = true) : plexusref06_Made.f l = some (((limV (nl l) 7 : Nat) : Int), il (limB (nl l) 7)) := by
  unfold plexusref06_Made.f plexusref06_Limited.f
  rw [if_pos ⟨hl, hb, by decide, by decide⟩]; rfl

/-- A structure as Made makes it. -/
structure Mk (V : Nat) (bs : List Nat) : Prop where
  v1 : 1 ≤ V
  v7 : V ≤ 7
  bl : ∀ b ∈ bs, b < 2 ^ V
  n : bs.length ≤ 10
theorem mk_lim (l : List Nat) : Mk (limV l 7) (limB l 7) := ⟨(limV_bd l 7 (by decide)).1, (limV_bd l 7 (by decide)).2, limB_mem (by decide) (by decide), limB_length⟩
theorem Mk.small {V : Nat} {bs : List Nat} (h : Mk V bs) : okL 16384 (il bs) = true :=
  okL_il fun b hb => Nat.lt_of_lt_of_le (h.bl b hb) (Nat.le_trans (Nat.pow_le_pow_right (by decide) h.v7) (by decide))
theorem check_f {V : Nat} {bs : List Nat} (h : Mk V bs) (a b c d : Int) : design_Check.f V (il bs) a b c d = some (chkL V bs a b c d) := by
  unfold design_Check.f
  rw [if_pos ⟨by rw [il_length]; have := h.n; omega, h.small⟩, nl_il]
theorem strength_f {V : Nat} {bs : List Nat} (h : Mk V bs) : plexuslaw09_strength.f V (il bs) = some ((strL V bs).T, (strL V bs).V, (strL V bs).K, (strL V bs).L, (strL V bs).E) := by
  unfold plexuslaw09_strength.f design_Strength.f
  rw [if_pos ⟨by rw [il_length]; have := h.n; omega, h.small, by omega⟩, nl_il]; rfl
/-- The number of blocks through t points, as design.Lambda finds it. -/
theorem lambda_f {V T K L t : Nat} {bs : List Nat} (h : Mk V bs) (hT : T ≤ 3) (ht : t ≤ T) (hc : chkL V bs T V K L = 0) :
    plexuslaw09_lambda.f T V K L t = some (((thr bs (2 ^ t - 1) : Nat) : Int), 1, 0) := by
  obtain ⟨e1, e2⟩ := lesser_count h.v7 hT ht h.bl hc
  unfold plexuslaw09_lambda.f design_Lambda.f
  rw [if_pos ⟨(chkL_zero.1 hc).1, by omega, by omega⟩]
  simp only [Int.toNat_natCast, e1, Nat.gcd_mul_left_left, Option.bind_some]
  rw [Nat.mul_div_cancel _ (by omega), Nat.div_self (by omega)]; rfl

theorem wrap_id {x : Int} (h1 : -9223372036854775808 ≤ x) (h2 : x ≤ 9223372036854775807) : wrap64 x = x := by unfold wrap64; omega
theorem ones_f {x : Nat} (hx : x < 16384) : bits_OnesCount64.f (x : Int) = some ((cnt x 64 : Nat) : Int) := by
  unfold bits_OnesCount64.f
  rw [oc1a x (by omega), oc1b _ (Nat.mod_lt _ (by decide)), oc2 _ (Nat.mod_lt _ (by decide)), oc3a, oc3b, oc3c, i64_and127 _ (Nat.mod_lt _ (by decide)), ← ocN_eq hx]
  rfl
theorem Mk.lt128 {V : Nat} {bs : List Nat} (h : Mk V bs) : ∀ b ∈ bs, b < 128 := fun b hb =>
  Nat.lt_of_lt_of_le (h.bl b hb) (Nat.le_trans (Nat.pow_le_pow_right (by decide) h.v7) (by decide))
end Go.Proofs.YtoiahjncpngkeaaDoor.Pd


namespace Go.Proofs.YtoiahjncpngkeaaDoor.Pd
set_option linter.unusedSimpArgs false
set_option linter.unusedVariables false
open Go.RowKit Go.Lib Go.Proofs.YtoiahjncpngkeaaDoorW.PrintWords Go.Proofs.YtoiahjncpngkeaaDoor

theorem right_f (T V K L : Int) : design_right.f T V K L = some (rightB T V K L) := by
  have hm : (T ≤ mn 5 K) = (T ≤ 5 ∧ T ≤ K) := by unfold mn; split <;> (apply propext; omega)
  unfold design_right.f rightB
  simp only [hm, ge_iff_le]
  by_cases h1 : 1 ≤ V <;> by_cases h2 : V ≤ 16 <;> by_cases h3 : 0 ≤ T <;> by_cases h4 : T ≤ 5 ∧ T ≤ K <;> by_cases h5 : K ≤ V <;> by_cases h6 : 1 ≤ L <;> simp [h1, h2, h3, h4, h5, h6]
theorem dlambda_f {V T K L t : Nat} {bs : List Nat} (h : Mk V bs) (hT : T ≤ 3) (ht : t ≤ T) (hc : chkL V bs T V K L = 0) :
    design_Lambda.f T V K L t = some (((thr bs (2 ^ t - 1) : Nat) : Int), 1, 0) := by
  obtain ⟨e1, e2⟩ := lesser_count h.v7 hT ht h.bl hc
  unfold design_Lambda.f
  rw [if_pos ⟨(chkL_zero.1 hc).1, by omega, by omega⟩]
  simp only [Int.toNat_natCast, e1, Nat.gcd_mul_left_left]
  rw [Nat.mul_div_cancel _ (by omega), Nat.div_self (by omega)]; rfl
theorem choose_f {T i : Nat} (hT : T ≤ 3) (hi : i ≤ T) (k : Nat) : design_choose.f (k + 5) T i = some ((chT T i : Nat) : Int) := by
  obtain rfl | rfl | rfl | rfl : T = 0 ∨ T = 1 ∨ T = 2 ∨ T = 3 := by omega
  all_goals
    obtain rfl | rfl | rfl | rfl : i = 0 ∨ i = 1 ∨ i = 2 ∨ i = 3 := by omega
    all_goals first
      | omega
      | rfl
      | (simp [design_choose.f, design_choose.l0, wrap64, chT]; done)
      | kernel_rfl
def tacc (T : Nat) (lam : Nat → Nat) : Nat → Nat → Int → Int
  | 0, _, acc => acc
  | m + 1, i, acc => tacc T lam m (i + 1) (if i % 2 = 0 then acc + ((chT T i : Nat) : Int) * ((lam i : Nat) : Int) else acc - ((chT T i : Nat) : Int) * ((lam i : Nat) : Int))
theorem tacc_tsum {T : Nat} (hT : T ≤ 3) (lam : Nat → Nat) : tacc T lam (T + 1) 0 0 = tsum T lam := by
  obtain rfl | rfl | rfl | rfl : T = 0 ∨ T = 1 ∨ T = 2 ∨ T = 3 := by omega
  all_goals simp [tacc, tsum, chT]
theorem chT_small : ∀ T ≤ 3, ∀ i ≤ T, chT T i ≤ 3 := by decide
theorem turned_loop {V T K : Nat} {bs : List Nat} (h : Mk V bs) (hT : T ≤ 3) (hc : ∀ t ≤ T, chkL V bs t V K (thr bs (2 ^ t - 1)) = 0) (K' : Int) :
    ∀ m i (acc : Int), i + m = T + 1 → -(30 * (i : Int)) ≤ acc → acc ≤ 30 * i → ∀ k, design_Turned.l0 (k + m + 6) i T V K ((thr bs (2 ^ T - 1) : Nat) : Int) T V K' acc =
      (design_right.f T V K' (tacc T (fun t => thr bs (2 ^ t - 1)) m i acc)).bind fun t => if t = true then some ((T : Int), (V : Int), K', tacc T (fun t => thr bs (2 ^ t - 1)) m i acc, 0) else some (0, 0, 0, 0, 90) := by
  intro m
  induction m with
  | zero =>
    intro i acc e _ _ k
    rw [show k + 0 + 6 = (k + 5) + 1 from rfl, design_Turned.l0, if_neg (show ¬ (i : Int) ≤ (T : Int) by omega)]
    rfl
  | succ m ih =>
    intro i acc e h1 h2 k
    have hi : i ≤ T := by omega
    have hlam := dlambda_f h hT hi (hc T (Nat.le_refl _))
    have hl : thr bs (2 ^ i - 1) ≤ 10 := Nat.le_trans (thr_le _ _) h.n
    have hch := chT_small T hT i hi
    have hm : chT T i * thr bs (2 ^ i - 1) ≤ 3 * 10 := Nat.mul_le_mul hch hl
    have hcf := choose_f hT hi (k + m + 1)
    rw [show k + m + 1 + 5 = k + m + 6 by omega] at hcf
    have hnext : wrap64 ((i : Int) + 1) = ((i + 1 : Nat) : Int) := by rw [wrap_id (by omega) (by omega)]; simp
    have hi3 : i ≤ 3 := by omega
    have htm : (Int.tmod (i : Int) 2 = 0) = (i % 2 = 0) := by
      apply propext
      rw [Int.tmod_eq_emod_of_nonneg (by omega)]; omega
    have hpm : ((chT T i : Nat) : Int) * ((thr bs (2 ^ i - 1) : Nat) : Int) = ((chT T i * thr bs (2 ^ i - 1) : Nat) : Int) := by simp
    have hprod : wrap64 (((chT T i : Nat) : Int) * ((thr bs (2 ^ i - 1) : Nat) : Int)) = ((chT T i : Nat) : Int) * ((thr bs (2 ^ i - 1) : Nat) : Int) := by rw [hpm]; exact wrap_id (by omega) (by omega)
    rw [show k + (m + 1) + 6 = (k + m + 6) + 1 from by omega, design_Turned.l0, if_pos (show (i : Int) ≤ (T : Int) by omega), hlam, Option.bind_some]
    dsimp only
    rw [if_pos (show (1 : Int) = 1 from rfl), hcf, Option.bind_some, hprod, hnext, tacc]
    by_cases hp : i % 2 = 0
    · rw [if_pos (htm ▸ hp), if_pos hp, wrap_id (by rw [hpm]; omega) (by rw [hpm]; omega)]
      exact ih (i + 1) _ (by omega) (by rw [hpm]; omega) (by rw [hpm]; omega) k
    · rw [if_neg (fun c => hp (htm ▸ c)), if_neg hp, Option.bind_some, hprod, wrap_id (by rw [hpm]; omega) (by rw [hpm]; omega)]
      exact ih (i + 1) _ (by omega) (by rw [hpm]; omega) (by rw [hpm]; omega) k
theorem turned_f {V T K : Nat} {bs : List Nat} (h : Mk V bs) (hT : T ≤ 3) (hc : ∀ t ≤ T, chkL V bs t V K (thr bs (2 ^ t - 1)) = 0) (k : Nat) :
    plexuslaw09_turned.f (k + (T + 1) + 6) T V K ((thr bs (2 ^ T - 1) : Nat) : Int) = some (if rightB T V ((V - K : Nat) : Int) (tsum T fun t => thr bs (2 ^ t - 1)) = true then ((T : Int), (V : Int), ((V - K : Nat) : Int), tsum T fun t => thr bs (2 ^ t - 1), 0) else (0, 0, 0, 0, 90)) := by
  have hr := (chkL_zero.1 (hc T (Nat.le_refl _))).1
  have hr' := rightB_iff.1 hr
  have hvk : wrap64 ((V : Int) - (K : Int)) = ((V - K : Nat) : Int) := by rw [wrap_id (by omega) (by omega)]; omega
  unfold plexuslaw09_turned.f design_Turned.f
  rw [right_f, hr, Option.bind_some, if_pos rfl, hvk]
  have := turned_loop h hT hc ((V - K : Nat) : Int) (T + 1) 0 0 (by omega) (by simp) (by simp) k
  rw [tacc_tsum hT, right_f, Option.bind_some] at this
  rw [show ((0 : Nat) : Int) = 0 from rfl] at this
  rw [this]
  split <;> rfl
theorem thr_anti {bs : List Nat} {t T : Nat} (h : t ≤ T) : thr bs (2 ^ T - 1) ≤ thr bs (2 ^ t - 1) := by
  unfold thr
  rw [← List.countP_eq_length_filter, ← List.countP_eq_length_filter]
  refine List.countP_mono_left fun b _ hb => ?_
  have e : (2 ^ T - 1) &&& (2 ^ t - 1) = 2 ^ t - 1 := by
    apply Nat.eq_of_testBit_eq
    intro i
    rw [Nat.testBit_and, Nat.testBit_two_pow_sub_one, Nat.testBit_two_pow_sub_one]
    by_cases h1 : i < t
    · simp [h1, show i < T by omega]
    · simp [h1]
  have hb' : b &&& (2 ^ T - 1) = 2 ^ T - 1 := by simpa using hb
  have : b &&& (2 ^ t - 1) = 2 ^ t - 1 := by
    conv => lhs; rw [← e, ← Nat.and_assoc, hb', e]
  simpa using this
/-- The complement's blocks. -/
def cmB (V : Nat) (bs : List Nat) : List Nat := sortedL (bs.map (cm V))
theorem Mk.cm {V : Nat} {bs : List Nat} (h : Mk V bs) : Mk V (cmB V bs) :=
  ⟨h.v1, h.v7, fun b hb => by
    obtain ⟨x, _, rfl⟩ := List.mem_map.1 (sortedL_mem.1 hb); exact cm_lt, by rw [cmB, sortedL_length, List.length_map]; exact h.n⟩
theorem thr_cmB {V s : Nat} {bs : List Nat} (h : Mk V bs) (hs : s < 2 ^ V) : thr (cmB V bs) s = avd bs s := by
  rw [cmB, thr_perm (sortedL_perm _), thr_cm h.v7 h.bl hs]
theorem avd_cmB {V s : Nat} {bs : List Nat} (h : Mk V bs) (hs : s < 2 ^ V) : avd (cmB V bs) s = thr bs s := by
  unfold avd cmB thr
  rw [((sortedL_perm (bs.map (Go.Proofs.YtoiahjncpngkeaaDoor.cm V))).filter _).length_eq, List.filter_map, List.length_map]
  congr 1
  refine List.filter_congr fun b hm => ?_
  have hb := h.bl b hm
  have := (cm_of h.v7 (b := Go.Proofs.YtoiahjncpngkeaaDoor.cm V b) cm_lt).2.2 s hs
  rw [cm_cm hb] at this
  exact this.symm
theorem first_lt {V t : Nat} (h : t ≤ V) : 2 ^ t - 1 < 2 ^ V := by
  have h1 : 2 ^ t ≤ 2 ^ V := Nat.pow_le_pow_right (by decide) h
  have := Nat.one_le_two_pow (n := t); omega
/-- **DesignComplements answers true.** -/
theorem complements_true {l : List Int} (hl : l.length < 2 ^ 63) (hb : okL 256 l = true) : ∃ k, plexuslaw09_DesignComplements.f k l = some true := by
  have hm := mk_lim (nl l)
  have hf : ∀ k, plexuslaw09_DesignComplements.f k l = plexuslaw09_DesignComplements.f k l := fun _ => rfl
  conv at hf => intro k; rhs; unfold plexuslaw09_DesignComplements.f plexuslaw09_examples.f; rw [Option.bind_some, if_pos rfl, made_f hl hb]; simp only [Option.bind_some]; rw [strength_f hm]
  generalize limV (nl l) 7 = V at hm hf
  generalize limB (nl l) 7 = bs at hm hf
  simp only [Option.bind_some] at hf
  have hn := hm.n
  have hv := hm.v7
  have hv1 := hm.v1
  clear hl hb
  rcases strL_cases V bs with h | ⟨T, K, h1, h2, h, h4⟩
  · rw [h] at hf; exact ⟨1, (hf 1).trans rfl⟩
  rw [h] at hf
  dsimp only at hf
  simp only [if_true] at hf
  refine ⟨0 + (T + 1) + 6, (hf _).trans ?_⟩
  clear hf
  have hr := rightB_iff.1 (chkL_zero.1 (h4 T (Nat.le_refl _))).1
  rw [turned_f hm h1 h4 0, Option.bind_some]
  by_cases hz : rightB T V ((V - K : Nat) : Int) (tsum T fun t => thr bs (2 ^ t - 1)) = true
  · rw [if_pos hz]
    dsimp only
    rw [if_pos (show (0 : Int) = 0 from rfl)]
    have hz' := rightB_iff.1 hz
    have hthr : ∀ t ≤ T, ∀ u ∈ dnL V t 0 0, thr bs u = thr bs (2 ^ t - 1) := fun t ht u hu => by
      obtain ⟨-, -, -, hs⟩ := chkL_zero.1 (h4 t ht)
      have := hs u (by simpa using hu); omega
    have hsum : ∀ t ≤ T, ∀ u ∈ dnL V t 0 0, ((thr (cmB V bs) u : Nat) : Int) = tsum t fun i => thr bs (2 ^ i - 1) := fun t ht u hu => by
      rw [thr_cmB hm (sets_of hv (by omega) hu).2]
      exact avd_tsum hv (by omega) hm.bl hu fun i hi u hu => hthr i (by omega) u hu
    have hmem : ∀ t ≤ T, 2 ^ t - 1 ∈ dnL V t 0 0 := fun t ht => (up_length (T := t) hv (by omega) (Nat.le_refl t) (by omega)).2
    have hL := hsum T (Nat.le_refl _) _ (hmem T (Nat.le_refl _))
    have hk : ∀ b ∈ bs, cnt b 64 = K := fun b hb => by have := (chkL_zero.1 (h4 T (Nat.le_refl _))).2.2.1 b hb; omega
    have hc2 : ∀ t ≤ T, chkL V (cmB V bs) t V ((V - K : Nat) : Int) (thr (cmB V bs) (2 ^ t - 1)) = 0 := fun t ht => by
      refine chkL_zero.2 ⟨rightB_iff.2 ?_, rfl, fun b hb => ?_, fun s hs => ?_⟩
      · have h5 := thr_anti (bs := cmB V bs) ht
        have h6 : thr (cmB V bs) (2 ^ t - 1) ≤ (cmB V bs).length := thr_le _ _
        have h7 := hm.cm.n
        omega
      · obtain ⟨x, hx, rfl⟩ := List.mem_map.1 (sortedL_mem.1 hb)
        have := (cm_of hv (hm.bl x hx)).1
        rw [this, hk x hx]
      · have e1 := hsum t ht s (by simpa using hs)
        have e2 := hsum t ht _ (hmem t ht)
        rw [e1, e2]
    rw [← hL]
    have hsum2 : tsum T (fun t => thr (cmB V bs) (2 ^ t - 1)) = ((thr bs (2 ^ T - 1) : Nat) : Int) := by
      rw [← avd_cmB hm (first_lt (show T ≤ V by omega))]
      refine (avd_tsum hv h1 hm.cm.bl (hmem T (Nat.le_refl _)) fun i hi u hu => ?_).symm
      have e1 := hsum i hi u hu
      have e2 := hsum i hi _ (hmem i hi)
      omega
    have hVK : ((V - (V - K) : Nat) : Int) = (K : Int) := by omega
    have hr2 := (chkL_zero.1 (h4 T (Nat.le_refl _))).1
    have hcf : incidence_Complement.f V (il bs) = some ((V : Int), il (cmB V bs)) := by
      unfold incidence_Complement.f
      rw [if_pos ⟨by omega, by omega, by rw [il_length]; omega, okL_il (by simpa using hm.bl)⟩, nl_il]; rfl
    rw [turned_f hm.cm h1 hc2 0, hsum2, hVK, if_pos hr2, Option.bind_some, hcf, Option.bind_some]
    dsimp only
    rw [check_f hm.cm, hc2 T (Nat.le_refl _), Option.bind_some, if_pos (show (0 : Int) = 0 from rfl), if_pos (show (0 : Int) = 0 from rfl)]
    simp
  · rw [if_neg hz]; rfl
end Go.Proofs.YtoiahjncpngkeaaDoor.Pd
