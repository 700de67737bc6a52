/- What DesignLesser says, in plain words: double counting; no program in sight. -/
/- What DesignComplements says, in plain words: the blocks that avoid a set, counted by inclusion and exclusion; no program in sight. -/
/- What DesignParts says, in plain words: blocks through a point, and others, without it; no program in sight. -/
/- What the printed functions that all laws of Design share compute; no walk in sight. -/
/- What the printed DesignParts computes is true, whatever the bytes; no walk in sight. -/
import Derived.Test.YtoiahjncpngkeaaDoorSt
import Derived.Test.YtoiahjncpngkeaaDoorCo
import Derived.Test.YtoiahjncpngkeaaDoorPr
import Derived.Test.YtoiahjncpngkeaaDoorPdx5
import Derived.Test.YtoiahjncpngkeaaDoorPdx6
import Derived.Test.YtoiahjncpngkeaaDoorPdx8
import Derived.Test.YtoiahjncpngkeaaDoorPdx18
namespace Go.Proofs.YtoiahjncpngkeaaDoor
set_option linter.unusedSimpArgs false
set_option linter.unusedVariables false
open Go.RowKit Go.Lib Go.Proofs.YtoiahjncpngkeaaDoorW.PrintWords

def sumL (l : List Nat) (f : Nat → Nat) : Nat := l.foldr (fun x a => f x + a) 0
theorem sumL_add (l : List Nat) (f g : Nat → Nat) : sumL l (fun x => f x + g x) = sumL l f + sumL l g := by
  induction l with
  | nil => rfl
  | cons x r ih => simp only [sumL, List.foldr_cons] at ih ⊢; omega
theorem sumL_const {l : List Nat} {f : Nat → Nat} {c : Nat} (h : ∀ x ∈ l, f x = c) : sumL l f = l.length * c := by
  induction l with
  | nil => simp [sumL]
  | cons x r ih =>
    have h1 := ih fun y hy => h y (by simp [hy])
    have h2 := h x (by simp)
    simp only [sumL, List.foldr_cons, List.length_cons] at h1 ⊢
    rw [h1, h2, Nat.add_mul]; omega
theorem thr_cons (b : Nat) (r : List Nat) (s : Nat) : thr (b :: r) s = (if b &&& s == s then 1 else 0) + thr r s := by
  unfold thr; rw [List.filter_cons]; split <;> simp; omega
/-- The pairs of a block and a set in it, counted in both orders. -/
theorem thr_swap (D : List Nat) (bs : List Nat) : sumL D (thr bs) = sumL bs fun b => (D.filter fun s => b &&& s == s).length := by
  induction bs with
  | nil =>
    rw [show (sumL [] fun b => (D.filter fun s => b &&& s == s).length) = D.length * 0 from rfl]
    exact sumL_const fun x _ => rfl
  | cons b r ih =>
    rw [show thr (b :: r) = fun s => (if b &&& s == s then 1 else 0) + thr r s from funext fun s => thr_cons b r s, sumL_add, ih]
    show _ = (D.filter fun s => b &&& s == s).length + _
    congr 1
    clear ih
    induction D with
    | nil => rfl
    | cons s D ih =>
      simp only [sumL, List.foldr_cons, List.filter_cons] at ih ⊢
      rw [ih]
      by_cases h : (b &&& s == s) = true
      · rw [if_pos h, if_pos h, List.length_cons]; omega
      · rw [if_neg h, if_neg h]; omega
/-- The sets of T points that hold the first t. -/
def upD (V T t : Nat) : List Nat := (dnL V T 0 0).filter fun s => s &&& (2 ^ t - 1) == 2 ^ t - 1
def okCount (V T t : Nat) : Bool :=
  Nat.beq (upD V T t).length (chT (V - t) (T - t)) && (dnL V t 0 0).contains (2 ^ t - 1) &&
  (List.range (2 ^ V)).all fun b =>
    if cnt b 64 < T then true
    else Nat.ble 1 (chT (cnt b 64 - t) (T - t)) && Nat.beq ((upD V T t).filter fun s => b &&& s == s).length (if b &&& (2 ^ t - 1) == 2 ^ t - 1 then chT (cnt b 64 - t) (T - t) else 0)
def okCounts : Bool := (List.range 8).all fun V => (List.range 4).all fun T => (List.range (T + 1)).all fun t => if T ≤ V then okCount V T t else true
set_option maxRecDepth 1000000 in
theorem okCounts_true : okCounts = true := by kernel_rfl
theorem okCount_of {V T t : Nat} (hV : V ≤ 7) (hT : T ≤ 3) (ht : t ≤ T) (hTV : T ≤ V) : okCount V T t = true := by
  have h := okCounts_true
  simp only [okCounts, List.all_eq_true, List.mem_range] at h
  have := h V (by omega) T (by omega) t (by omega)
  rwa [if_pos hTV] at this
theorem count_of {V T t b : Nat} (hV : V ≤ 7) (hT : T ≤ 3) (ht : t ≤ T) (hTV : T ≤ V) (hb : b < 2 ^ V) (hk : T ≤ cnt b 64) :
    1 ≤ chT (cnt b 64 - t) (T - t) ∧ ((upD V T t).filter fun s => b &&& s == s).length = if b &&& (2 ^ t - 1) == 2 ^ t - 1 then chT (cnt b 64 - t) (T - t) else 0 := by
  have h := okCount_of hV hT ht hTV
  simp only [okCount, Bool.and_eq_true, List.all_eq_true, List.mem_range] at h
  have := h.2 b hb
  rw [if_neg (by omega)] at this
  simp only [Bool.and_eq_true, Nat.beq_eq_true_eq, Nat.ble_eq] at this
  exact ⟨this.1, by first | exact this.2 | simpa using this.2⟩
theorem up_length {V T t : Nat} (hV : V ≤ 7) (hT : T ≤ 3) (ht : t ≤ T) (hTV : T ≤ V) : (upD V T t).length = chT (V - t) (T - t) ∧ 2 ^ t - 1 ∈ dnL V t 0 0 := by
  have h := okCount_of hV hT ht hTV
  simp only [okCount, Bool.and_eq_true, Nat.beq_eq_true_eq] at h
  exact ⟨by first | exact h.1.1 | simpa using h.1.1, by have := h.1.2; simpa using this⟩
theorem sumL_thr (bs : List Nat) (s c : Nat) : (sumL bs fun b => if b &&& s == s then c else 0) = thr bs s * c := by
  induction bs with
  | nil => simp [sumL, thr]
  | cons b r ih =>
    rw [thr_cons, Nat.add_mul]
    simp only [sumL, List.foldr_cons] at ih ⊢
    rw [ih]; split <;> simp
theorem sumL_congr {l : List Nat} {f g : Nat → Nat} (h : ∀ x ∈ l, f x = g x) : sumL l f = sumL l g := by
  induction l with
  | nil => rfl
  | cons x r ih => simp only [sumL, List.foldr_cons]; rw [h x (by simp)]; congr 1; exact ih fun y hy => h y (by simp [hy])

theorem chkL_zero {xV : Int} {bs : List Nat} {T V K L : Int} : chkL xV bs T V K L = 0 ↔
    rightB T V K L = true ∧ xV = V ∧ (∀ b ∈ bs, ((cnt b 64 : Nat) : Int) = K) ∧ ∀ s ∈ dnL V.toNat T.toNat 0 0, ((thr bs s : Nat) : Int) = L := by
  unfold chkL
  by_cases h : rightB T V K L = true
  · rw [if_pos h]
    by_cases h2 : xV = V ∧ (∀ b ∈ bs, ((cnt b 64 : Nat) : Int) = K) ∧ ∀ s ∈ dnL V.toNat T.toNat 0 0, ((thr bs s : Nat) : Int) = L
    · rw [if_pos h2]; exact ⟨fun _ => ⟨h, h2⟩, fun _ => rfl⟩
    · rw [if_neg h2]; simp [h]; intro a b; have := fun c => h2 ⟨a, b, c⟩; simpa using this
  · rw [if_neg h]; simp [h]
/-- **The number of blocks through t points of a design.** -/
theorem lesser_count {V T t K L : Nat} {bs : List Nat} (hV : V ≤ 7) (hT : T ≤ 3) (ht : t ≤ T) (hb : ∀ b ∈ bs, b < 2 ^ V) (h : chkL V bs T V K L = 0) :
    lamN V T K L t = thr bs (2 ^ t - 1) * lamD K T t ∧ 1 ≤ lamD K T t := by
  obtain ⟨hr, -, hk, hs⟩ := chkL_zero.1 h
  have hr' := rightB_iff.1 hr
  have hTV : T ≤ V := by omega
  have hk' : ∀ b ∈ bs, cnt b 64 = K := fun b m => by have := hk b m; omega
  simp only [Int.toNat_natCast] at hs
  have hs' : ∀ s ∈ dnL V T 0 0, thr bs s = L := fun s m => by have := hs s m; omega
  have e := thr_swap (upD V T t) bs
  have e1 : sumL (upD V T t) (thr bs) = (upD V T t).length * L := sumL_const fun x hx => hs' x (List.mem_filter.1 hx).1
  rw [e1, (up_length hV hT ht hTV).1] at e
  have e2 : (sumL bs fun b => ((upD V T t).filter fun s => b &&& s == s).length) = thr bs (2 ^ t - 1) * chT (K - t) (T - t) := by
    rw [← sumL_thr]
    refine sumL_congr fun b m => ?_
    have := (count_of hV hT ht hTV (hb b m) (by rw [hk' b m]; omega)).2
    rw [hk' b m] at this; exact this
  constructor
  · unfold lamN lamD; rw [← e2, ← e, Nat.mul_comm]
  · obtain ⟨b, m⟩ : ∃ b, b ∈ bs := by
      cases bs with
      | nil => have := hs' _ (up_length hV hT (Nat.le_refl T) hTV).2; simp [thr] at this; omega
      | cons b r => exact ⟨b, by simp⟩
    have := (count_of hV hT ht hTV (hb b m) (by rw [hk' b m]; omega)).1
    rwa [hk' b m] at this
theorem strF_cases (V : Nat) (bs : List Nat) (k : Nat) : ∀ m t cur, strF V bs k m t cur = cur ∨
    ∃ j, t ≤ j ∧ j < t + m ∧ strF V bs k m t cur = ⟨j, V, k, thr bs (2 ^ j - 1), 0⟩ ∧ ∀ i, t ≤ i → i ≤ j → chkL V bs i V k (thr bs (2 ^ i - 1)) = 0 := by
  intro m
  induction m with
  | zero => intro t cur; exact .inl rfl
  | succ m ih =>
    intro t cur
    rw [strF]
    by_cases h : chkL V bs t V k (thr bs (2 ^ t - 1)) = 0
    · rw [if_pos h]
      rcases ih (t + 1) ⟨t, V, k, thr bs (2 ^ t - 1), 0⟩ with h1 | ⟨j, h1, h2, h3, h4⟩
      · exact .inr ⟨t, Nat.le_refl _, by omega, h1, fun i a b => by rw [show i = t by omega]; exact h⟩
      · refine .inr ⟨j, by omega, by omega, h3, fun i a b => ?_⟩
        rcases Nat.lt_or_ge t i with h5 | h5
        · exact h4 i h5 b
        · rw [show i = t by omega]; exact h
    · rw [if_neg h]; exact .inl rfl
/-- What design.Strength finds: nothing, or the greatest T, of which all lesser ones are right. -/
theorem strL_cases (V : Nat) (bs : List Nat) : strL V bs = ⟨0, 0, 0, 0, 90⟩ ∨
    ∃ T K : Nat, T ≤ 3 ∧ T ≤ K ∧ strL V bs = ⟨T, V, K, thr bs (2 ^ T - 1), 0⟩ ∧ ∀ t ≤ T, chkL V bs t V K (thr bs (2 ^ t - 1)) = 0 := by
  unfold strL
  cases bs with
  | nil => exact .inl rfl
  | cons b r =>
    rcases strF_cases V (b :: r) (cnt b 64) (min 3 (cnt b 64) + 1) 0 ⟨0, 0, 0, 0, 90⟩ with h | ⟨j, h1, h2, h3, h4⟩
    · exact .inl h
    · exact .inr ⟨j, cnt b 64, by omega, by omega, h3, fun t ht => h4 t (by omega) ht⟩
/-- A design has one number of blocks through t points. -/
theorem lesser_one {V t K : Nat} {bs : List Nat} {L : Int} (hV : V ≤ 7) (ht : t ≤ 3) (htV : t ≤ V) (h : chkL V bs t V K L = 0) : ((thr bs (2 ^ t - 1) : Nat) : Int) = L := by
  obtain ⟨-, -, -, hs⟩ := chkL_zero.1 h
  simp only [Int.toNat_natCast] at hs
  exact hs _ (up_length hV ht (Nat.le_refl t) htV).2
end Go.Proofs.YtoiahjncpngkeaaDoor


namespace Go.Proofs.YtoiahjncpngkeaaDoor
set_option linter.unusedSimpArgs false
set_option linter.unusedVariables false
open Go.RowKit Go.Lib Go.Proofs.YtoiahjncpngkeaaDoorW.PrintWords

-- sorting moves, and no more
theorem withL_perm (bs : List Nat) (b : Nat) : (withL bs b).Perm (b :: bs) := by
  unfold withL
  rw [List.append_assoc]
  have := List.perm_middle (a := b) (l₁ := bs.take (wat bs b)) (l₂ := bs.drop (wat bs b))
  rwa [List.take_append_drop] at this
theorem sortedL_perm (l : List Nat) : (sortedL l).Perm l := by
  have : ∀ (l acc : List Nat), (l.foldl withL acc).Perm (acc ++ l) := by
    intro l
    induction l with
    | nil => intro acc; simp
    | cons x r ih =>
      intro acc
      rw [List.foldl_cons]
      refine (ih (withL acc x)).trans (((withL_perm acc x).append_right r).trans ?_)
      exact (List.perm_middle (a := x) (l₁ := acc) (l₂ := r)).symm
  have h := this l []
  rw [List.nil_append] at h
  exact h
theorem thr_perm {l l' : List Nat} (h : l.Perm l') (s : Nat) : thr l s = thr l' s := by
  unfold thr
  exact (h.filter _).length_eq
-- the points that a block lacks
theorem nbeq (a b : Nat) : Nat.beq a b = (a == b) := by rw [Bool.eq_iff_iff]; simp
def okCm : Bool := (List.range 8).all fun V => (List.range (2 ^ V)).all fun b => Nat.beq (cnt (cm V b) 64) (V - cnt b 64) && Nat.ble (cnt b 64) V && (List.range (2 ^ V)).all fun s => (Nat.beq (cm V b &&& s) s) == (Nat.beq (b &&& s) 0)
set_option maxRecDepth 1000000 in
theorem okCm_true : okCm = true := by kernel_rfl
theorem cm_of {V b : Nat} (hV : V ≤ 7) (hb : b < 2 ^ V) : cnt (cm V b) 64 = V - cnt b 64 ∧ cnt b 64 ≤ V ∧ ∀ s < 2 ^ V, (cm V b &&& s == s) = (b &&& s == 0) := by
  have h := okCm_true
  simp only [okCm, List.all_eq_true, List.mem_range, Bool.and_eq_true] at h
  have := h V (by omega) b hb
  exact ⟨Nat.eq_of_beq_eq_true this.1.1, Nat.le_of_ble_eq_true this.1.2, fun s hs => by have h2 := this.2 s hs; rw [nbeq, nbeq] at h2; exact beq_iff_eq.1 h2⟩
/-- How many blocks have no point of a set. -/
def avd (bs : List Nat) (s : Nat) : Nat := (bs.filter fun b => b &&& s == 0).length
theorem thr_cm {V : Nat} (hV : V ≤ 7) {bs : List Nat} (hb : ∀ b ∈ bs, b < 2 ^ V) {s : Nat} (hs : s < 2 ^ V) : thr (bs.map (cm V)) s = avd bs s := by
  unfold thr avd
  rw [List.filter_map, List.length_map]
  congr 1
  refine List.filter_congr fun b hm => ?_
  exact (cm_of hV (hb b hm)).2.2 s hs
theorem cm_cm {V b : Nat} (hb : b < 2 ^ V) : cm V (cm V b) = b := by unfold cm; omega
def okSubs3 : Bool := (List.range 8).all fun V => (List.range (2 ^ V)).all fun x => (List.range 4).all fun i => Nat.beq ((dnL V i 0 0).filter fun s => Nat.beq (x &&& s) s).length (chT (cnt x 64) i)
set_option maxRecDepth 1000000 in
theorem okSubs3_true : okSubs3 = true := by kernel_rfl
theorem subs3_of {V x i : Nat} (hV : V ≤ 7) (hx : x < 2 ^ V) (hi : i ≤ 3) : ((dnL V i 0 0).filter fun s => x &&& s == s).length = chT (cnt x 64) i := by
  have h := okSubs3_true
  simp only [okSubs3, List.all_eq_true, List.mem_range] at h
  have := Nat.eq_of_beq_eq_true (h V (by omega) x hx i (by omega))
  rw [← this]
  congr 1
  exact List.filter_congr fun s _ => (nbeq _ _).symm
def okSets : Bool := (List.range 8).all fun V => (List.range 4).all fun T => (dnL V T 0 0).all fun s => Nat.beq (cnt s 64) T && Nat.ble (s + 1) (2 ^ V)
set_option maxRecDepth 1000000 in
theorem okSets_true : okSets = true := by kernel_rfl
theorem sets_of {V T s : Nat} (hV : V ≤ 7) (hT : T ≤ 3) (hs : s ∈ dnL V T 0 0) : cnt s 64 = T ∧ s < 2 ^ V := by
  have h := okSets_true
  simp only [okSets, List.all_eq_true, List.mem_range, Bool.and_eq_true] at h
  have := h V (by omega) T (by omega) s hs
  exact ⟨Nat.eq_of_beq_eq_true this.1, Nat.le_of_ble_eq_true this.2⟩
theorem sub_and2 (a b s : Nat) : ((a &&& s == s) && (b &&& s == s)) = ((a &&& b) &&& s == s) := by
  rw [Bool.eq_iff_iff]
  simp only [Bool.and_eq_true, beq_iff_eq]
  constructor
  · rintro ⟨h1, h2⟩; rw [Nat.and_assoc, h2, h1]
  · intro h
    constructor
    · have : a &&& ((a &&& b) &&& s) = (a &&& b) &&& s := by rw [← Nat.and_assoc, ← Nat.and_assoc, Nat.and_self]
      rw [h] at this; exact this
    · have : b &&& ((a &&& b) &&& s) = (a &&& b) &&& s := by rw [Nat.and_comm a b, ← Nat.and_assoc, ← Nat.and_assoc, Nat.and_self]
      rw [h] at this; exact this
/-- The sets of i points that a set and the blocks have in common. -/
theorem avoid_sums {V T s i lam : Nat} {bs : List Nat} (hV : V ≤ 7) (hT : T ≤ 3) (hi : i ≤ T) (hb : ∀ b ∈ bs, b < 2 ^ V) (hs : s ∈ dnL V T 0 0) (h : ∀ u ∈ dnL V i 0 0, thr bs u = lam) :
    (sumL bs fun b => chT (cnt (s &&& b) 64) i) = chT T i * lam := by
  obtain ⟨hc, hs2⟩ := sets_of hV hT hs
  have e := thr_swap ((dnL V i 0 0).filter fun u => s &&& u == u) bs
  have e1 : sumL ((dnL V i 0 0).filter fun u => s &&& u == u) (thr bs) = ((dnL V i 0 0).filter fun u => s &&& u == u).length * lam := sumL_const fun x hx => h x (List.mem_filter.1 hx).1
  rw [e1, subs3_of hV hs2 (by omega), hc] at e
  rw [e]
  refine sumL_congr fun b hm => ?_
  rw [List.filter_filter, ← subs3_of hV (Nat.lt_of_le_of_lt Nat.and_le_left hs2 : s &&& b < 2 ^ V) (by omega)]
  congr 2
  funext u
  rw [← sub_and2 s b u, Bool.and_comm]
theorem cnt_zero_iff {V x : Nat} (hV : V ≤ 7) (hx : x < 2 ^ V) : cnt x 64 = 0 ↔ x = 0 := by
  have h : ∀ x < 128, cnt x 64 = 0 → x = 0 := by decide +kernel
  have : 2 ^ V ≤ 2 ^ 7 := Nat.pow_le_pow_right (by decide) hV
  exact ⟨h x (by omega), fun e => by subst e; decide⟩
theorem avd_sum {V s : Nat} {bs : List Nat} (hV : V ≤ 7) (hs : s < 2 ^ V) : avd bs s = sumL bs fun b => if cnt (s &&& b) 64 = 0 then 1 else 0 := by
  induction bs with
  | nil => rfl
  | cons b r ih =>
    unfold avd at ih ⊢
    rw [List.filter_cons]
    simp only [sumL, List.foldr_cons] at ih ⊢
    have hz := cnt_zero_iff hV (Nat.lt_of_le_of_lt Nat.and_le_left hs : s &&& b < 2 ^ V)
    rw [Nat.and_comm b s]
    by_cases h : s &&& b = 0
    · rw [if_pos (by simpa using h), if_pos (hz.2 h), List.length_cons, ih]; omega
    · rw [if_neg (by simpa using h), if_neg (fun c => h (hz.1 c)), ih]; omega
theorem sumL_add' {l : List Nat} {f g h : Nat → Nat} (e : ∀ x ∈ l, f x = g x + h x) : sumL l f = sumL l g + sumL l h := by
  rw [← sumL_add]; exact sumL_congr e
theorem cnt_and_le {V s b T : Nat} (hs : cnt s 64 = T) : cnt (s &&& b) 64 ≤ T := by
  rw [← hs]
  have : ∀ k, cnt (s &&& b) k ≤ cnt s k := by
    intro k
    induction k with
    | zero => simp [cnt]
    | succ k ih =>
      simp only [cnt, Nat.testBit_and]
      cases h1 : s.testBit k <;> cases h2 : b.testBit k <;> simp <;> omega
  exact this 64
/-- The signed sum of the numbers of blocks through i points. -/
def tsum (T : Nat) (lam : Nat → Nat) : Int :=
  match T with
  | 0 => lam 0
  | 1 => lam 0 - lam 1
  | 2 => lam 0 - 2 * lam 1 + lam 2
  | _ => lam 0 - 3 * lam 1 + 3 * lam 2 - lam 3
theorem avd_tsum {V T s : Nat} {bs : List Nat} {lam : Nat → Nat} (hV : V ≤ 7) (hT : T ≤ 3) (hb : ∀ b ∈ bs, b < 2 ^ V) (hs : s ∈ dnL V T 0 0) (h : ∀ i ≤ T, ∀ u ∈ dnL V i 0 0, thr bs u = lam i) :
    ((avd bs s : Nat) : Int) = tsum T lam := by
  obtain ⟨hc, hs2⟩ := sets_of hV hT hs
  have S := fun i (hi : i ≤ T) => avoid_sums hV hT hi hb hs (h i hi)
  rw [avd_sum hV hs2]
  have hle : ∀ b ∈ bs, cnt (s &&& b) 64 ≤ T := fun b _ => cnt_and_le (V := V) hc
  have id3 : ∀ c ≤ 3, (if c = 0 then 1 else 0) + chT c 1 + chT c 3 = chT c 0 + chT c 2 := by decide
  have id2 : ∀ c ≤ 2, (if c = 0 then 1 else 0) + chT c 1 = chT c 0 + chT c 2 := by decide
  have id1 : ∀ c ≤ 1, (if c = 0 then 1 else 0) + chT c 1 = chT c 0 := by decide
  have id0 : ∀ c ≤ 0, (if c = 0 then 1 else 0) = chT c 0 := by decide
  obtain rfl | rfl | rfl | rfl : T = 0 ∨ T = 1 ∨ T = 2 ∨ T = 3 := by omega
  · have e0 := S 0 (by omega)
    rw [sumL_congr fun b hm => id0 _ (hle b hm), e0]; simp [tsum, chT]
  · have e0 := S 0 (by omega); have e1 := S 1 (by omega)
    have := sumL_congr fun b hm => id1 _ (hle b hm)
    rw [sumL_add, e0, e1] at this
    simp [tsum, chT] at this ⊢; omega
  · have e0 := S 0 (by omega); have e1 := S 1 (by omega); have e2 := S 2 (by omega)
    have := sumL_congr fun b hm => id2 _ (hle b hm)
    rw [sumL_add, sumL_add, e0, e1, e2] at this
    simp [tsum, chT] at this ⊢; omega
  · have e0 := S 0 (by omega); have e1 := S 1 (by omega); have e2 := S 2 (by omega); have e3 := S 3 (by omega)
    have := sumL_congr fun b hm => id3 _ (hle b hm)
    rw [sumL_add, sumL_add, sumL_add, e0, e1, e2, e3] at this
    simp [tsum, chT] at this ⊢; omega
end Go.Proofs.YtoiahjncpngkeaaDoor


namespace Go.Proofs.YtoiahjncpngkeaaDoor
set_option linter.unusedSimpArgs false
set_option linter.unusedVariables false
open Go.RowKit Go.Lib Go.Proofs.YtoiahjncpngkeaaDoorW.PrintWords

/-- A set of the smaller structure, as the larger one has it. -/
def exb (p s : Nat) : Nat := (s &&& (2 ^ p - 1)) ||| (s / 2 ^ p * 2 ^ (p + 1))
def okPart (V : Nat) : Bool := (List.range V).all fun p => (List.range (2 ^ V)).all fun b =>
  Nat.beq (cnt (ptb p b) 64 + (if b.testBit p then 1 else 0)) (cnt b 64) && Nat.ble (ptb p b + 1) (2 ^ (V - 1)) &&
  (List.range (2 ^ (V - 1))).all fun s => (Nat.beq (ptb p b &&& s) s == Nat.beq (b &&& exb p s) (exb p s)) && ((b.testBit p && Nat.beq (ptb p b &&& s) s) == Nat.beq (b &&& (exb p s ||| 2 ^ p)) (exb p s ||| 2 ^ p))
def okParts : Bool := (List.range 8).all okPart
set_option maxRecDepth 1000000 in
theorem okParts_true : okParts = true := by kernel_rfl
theorem part_of {V p b : Nat} (hV : V ≤ 7) (hp : p < V) (hb : b < 2 ^ V) :
    cnt (ptb p b) 64 + (if b.testBit p then 1 else 0) = cnt b 64 ∧ ptb p b < 2 ^ (V - 1) ∧ ∀ s < 2 ^ (V - 1), (ptb p b &&& s == s) = (b &&& exb p s == exb p s) ∧ (b.testBit p && (ptb p b &&& s == s)) = (b &&& (exb p s ||| 2 ^ p) == (exb p s ||| 2 ^ p)) := by
  have h := okParts_true
  simp only [okParts, okPart, List.all_eq_true, List.mem_range, Bool.and_eq_true] at h
  have := h V (by omega) p hp b hb
  refine ⟨Nat.eq_of_beq_eq_true this.1.1, Nat.le_of_ble_eq_true this.1.2, fun s hs => ?_⟩
  have h2 := this.2 s hs
  simp only [nbeq] at h2
  exact ⟨beq_iff_eq.1 h2.1, beq_iff_eq.1 h2.2⟩
def okExs : Bool := (List.range 8).all fun V => (List.range V).all fun p => (List.range 3).all fun t => (dnL (V - 1) t 0 0).all fun s => (dnL V t 0 0).contains (exb p s) && (dnL V (t + 1) 0 0).contains (exb p s ||| 2 ^ p)
set_option maxRecDepth 1000000 in
theorem okExs_true : okExs = true := by kernel_rfl
theorem exs_of {V p t s : Nat} (hV : V ≤ 7) (hp : p < V) (ht : t ≤ 2) (hs : s ∈ dnL (V - 1) t 0 0) : exb p s ∈ dnL V t 0 0 ∧ (exb p s ||| 2 ^ p) ∈ dnL V (t + 1) 0 0 := by
  have h := okExs_true
  simp only [okExs, List.all_eq_true, List.mem_range, Bool.and_eq_true] at h
  have := h V (by omega) p hp t (by omega) s hs
  exact ⟨by simpa using this.1, by simpa using this.2⟩
/-- The smaller structure's blocks. -/
def prB (p : Nat) (wi : Bool) (bs : List Nat) : List Nat := sortedL ((kpB p wi bs).map (ptb p))
theorem kpB_mem {p : Nat} {wi : Bool} {bs : List Nat} {b : Nat} : b ∈ kpB p wi bs ↔ b ∈ bs ∧ b.testBit p = wi := by
  unfold kpB
  rw [List.mem_filter]
  cases h1 : b.testBit p <;> cases wi <;> simp
theorem filter_two (l : List Nat) (f g : Nat → Bool) : (l.filter fun b => f b && g b).length + (l.filter fun b => f b && !g b).length = (l.filter f).length := by
  induction l with
  | nil => rfl
  | cons b r ih =>
    simp only [List.filter_cons]
    cases h1 : f b <;> cases h2 : g b <;> simp [List.length_cons] <;> omega
theorem thr_prB {V p : Nat} {bs : List Nat} (hV : V ≤ 7) (hp : p < V) (hb : ∀ b ∈ bs, b < 2 ^ V) {s : Nat} (hs : s < 2 ^ (V - 1)) :
    thr (prB p true bs) s = thr bs (exb p s ||| 2 ^ p) ∧ thr (prB p true bs) s + thr (prB p false bs) s = thr bs (exb p s) := by
  have e : ∀ wi, thr (prB p wi bs) s = (bs.filter fun b => (ptb p b &&& s == s) && !(b.testBit p != wi)).length := fun wi => by
    unfold prB
    rw [thr_perm (sortedL_perm _)]
    unfold thr kpB
    rw [List.filter_map, List.length_map, List.filter_filter]
    rfl
  constructor
  · rw [e]
    unfold thr
    congr 1
    refine List.filter_congr fun b hm => ?_
    rw [← ((part_of hV hp (hb b hm)).2.2 s hs).2, Bool.and_comm]
    cases b.testBit p <;> simp
  · rw [e, e]
    have key : ∀ b ∈ bs, (b &&& exb p s == exb p s) = (ptb p b &&& s == s) := fun b hm => ((part_of hV hp (hb b hm)).2.2 s hs).1.symm
    unfold thr
    rw [List.filter_congr key]
    rw [← filter_two bs (fun b => ptb p b &&& s == s) (fun b => b.testBit p)]
    congr 2
    · exact List.filter_congr fun b _ => by cases b.testBit p <;> simp
    · exact List.filter_congr fun b _ => by cases b.testBit p <;> simp
theorem prB_lt {V p : Nat} {wi : Bool} {bs : List Nat} (hV : V ≤ 7) (hp : p < V) (hb : ∀ b ∈ bs, b < 2 ^ V) : ∀ b ∈ prB p wi bs, b < 2 ^ (V - 1) := fun b hm => by
  obtain ⟨x, hx, rfl⟩ := List.mem_map.1 (sortedL_mem.1 hm)
  exact (part_of hV hp (hb x (kpB_mem.1 hx).1)).2.1
theorem cnt_le_of_lt {V b : Nat} (h : b < 2 ^ V) (hV : V ≤ 7) : cnt b 64 ≤ V := (cm_of hV h).2.1
theorem prB_length {p : Nat} {wi : Bool} {bs : List Nat} : (prB p wi bs).length ≤ bs.length := by
  unfold prB kpB
  rw [sortedL_length, List.length_map]
  exact List.length_filter_le _ _
theorem prB_cnt {V p K : Nat} {wi : Bool} {bs : List Nat} (hV : V ≤ 7) (hp : p < V) (hb : ∀ b ∈ bs, b < 2 ^ V) (hk : ∀ b ∈ bs, cnt b 64 = K) : ∀ b ∈ prB p wi bs, cnt b 64 + (if wi then 1 else 0) = K := fun b hm => by
  obtain ⟨x, hx, rfl⟩ := List.mem_map.1 (sortedL_mem.1 hm)
  obtain ⟨h1, h2⟩ := kpB_mem.1 hx
  have := (part_of hV hp (hb x h1)).1
  rw [h2] at this
  rw [this, hk x h1]
end Go.Proofs.YtoiahjncpngkeaaDoor


namespace Go.Proofs.YtoiahjncpngkeaaDoor.Pd
set_option linter.unusedSimpArgs false
set_option linter.unusedVariables false
open Go.RowKit Go.Lib Go.Proofs.YtoiahjncpngkeaaDoorW.PrintWords Go.Proofs.YtoiahjncpngkeaaDoor

theorem limB_mem {l : List Nat} {m : Nat} (hm1 : 1 ≤ m) (hm7 : m ≤ 7) : ∀ b ∈ limB l m, b < 2 ^ limV l m := fun b hb =>
  limRaw_lt hm1 hm7 b (List.mem_of_mem_take (sortedL_mem.1 hb))
theorem limB_length {l : List Nat} {m : Nat} : (limB l m).length ≤ 10 := by
  have h : ∀ (xs acc : List Nat), (xs.foldl withL acc).length = acc.length + xs.length := by
    intro xs
    induction xs with
    | nil => intro acc; simp
    | cons x r ih => intro acc; rw [List.foldl_cons, ih, withL_length, List.length_cons]; omega
  show ((((limRaw l m).take 10).foldl withL []).length) ≤ 10
  rw [h, List.length_take]; simp; omega
theorem nl_il (bs : List Nat) : nl (il bs) = bs := by
  induction bs with
  | nil => rfl
  | cons b r ih => simp only [nl, il, List.map_cons, Int.toNat_natCast] at ih ⊢; rw [ih]
theorem made_f {l : List Int} (hl : l.length < 2 ^ 63) (hb : okL 256 l = true) : plexusref06_Made.f l = some (((limV (nl l) 7 : Nat) : Int), il (limB (nl l) 7)) := by
  unfold plexusref06_Made.f plexusref06_Limited.f
  rw [if_pos ⟨hl, hb, by decide, by decide⟩]; rfl

/-- A structure as Made makes it. -/
structure Mk (V : Nat) (bs : List Nat) : Prop where
  v1 : 1 ≤ V
  v7 : V ≤ 7
  bl : ∀ b ∈ bs, b < 2 ^ V
  n : bs.length ≤ 10
theorem mk_lim (l : List Nat) : Mk (limV l 7) (limB l 7) := ⟨(limV_bd l 7 (by decide)).1, (limV_bd l 7 (by decide)).2, limB_mem (by decide) (by decide), limB_length⟩
theorem Mk.small {V : Nat} {bs : List Nat} (h : Mk V bs) : okL 16384 (il bs) = true :=
  okL_il fun b hb => Nat.lt_of_lt_of_le (h.bl b hb) (Nat.le_trans (Nat.pow_le_pow_right (by decide) h.v7) (by decide))
theorem check_f {V : Nat} {bs : List Nat} (h : Mk V bs) (a b c d : Int) : design_Check.f V (il bs) a b c d = some (chkL V bs a b c d) := by
  unfold design_Check.f
  rw [if_pos ⟨by rw [il_length]; have := h.n; omega, h.small⟩, nl_il]
theorem strength_f {V : Nat} {bs : List Nat} (h : Mk V bs) : plexuslaw09_strength.f V (il bs) = some ((strL V bs).T, (strL V bs).V, (strL V bs).K, (strL V bs).L, (strL V bs).E) := by
  unfold plexuslaw09_strength.f design_Strength.f
  rw [if_pos ⟨by rw [il_length]; have := h.n; omega, h.small, by omega⟩, nl_il]; rfl
/-- The number of blocks through t points, as design.Lambda finds it. -/
theorem lambda_f {V T K L t : Nat} {bs : List Nat} (h : Mk V bs) (hT : T ≤ 3) (ht : t ≤ T) (hc : chkL V bs T V K L = 0) :
    plexuslaw09_lambda.f T V K L t = some (((thr bs (2 ^ t - 1) : Nat) : Int), 1, 0) := by
  obtain ⟨e1, e2⟩ := lesser_count h.v7 hT ht h.bl hc
  unfold plexuslaw09_lambda.f design_Lambda.f
  rw [if_pos ⟨(chkL_zero.1 hc).1, by omega, by omega⟩]
  simp only [Int.toNat_natCast, e1, Nat.gcd_mul_left_left, Option.bind_some]
  rw [Nat.mul_div_cancel _ (by omega), Nat.div_self (by omega)]; rfl

theorem wrap_id {x : Int} (h1 : -9223372036854775808 ≤ x) (h2 : x ≤ 9223372036854775807) : wrap64 x = x := by unfold wrap64; omega
theorem ones_f {x : Nat} (hx : x < 16384) : bits_OnesCount64.f (x : Int) = some ((cnt x 64 : Nat) : Int) := by
  unfold bits_OnesCount64.f
  rw [oc1a x (by omega), oc1b _ (Nat.mod_lt _ (by decide)), oc2 _ (Nat.mod_lt _ (by decide)), oc3a, oc3b, oc3c, i64_and127 _ (Nat.mod_lt _ (by decide)), ← ocN_eq hx]
  rfl
theorem Mk.lt128 {V : Nat} {bs : List Nat} (h : Mk V bs) : ∀ b ∈ bs, b < 128 := fun b hb =>
  Nat.lt_of_lt_of_le (h.bl b hb) (Nat.le_trans (Nat.pow_le_pow_right (by decide) h.v7) (by decide))
end Go.Proofs.YtoiahjncpngkeaaDoor.Pd


namespace Go.Proofs.YtoiahjncpngkeaaDoor.Pd
set_option linter.unusedSimpArgs false
set_option linter.unusedVariables false
open Go.RowKit Go.Lib Go.Proofs.YtoiahjncpngkeaaDoorW.PrintWords Go.Proofs.YtoiahjncpngkeaaDoor

theorem derived_f {V p : Nat} {bs : List Nat} (h : Mk V bs) (hV2 : 2 ≤ V) (hp : p < V) : incidence_Derived.f V (il bs) p = some (((V - 1 : Nat) : Int), il (prB p true bs), 0) := by
  have := h.v7; have := h.n
  unfold incidence_Derived.f
  rw [if_pos ⟨by omega, by omega, by omega, by omega, by rw [il_length]; omega, okL_il (by simpa using h.bl)⟩, nl_il]
  simp only [Int.toNat_natCast]; rfl
theorem residual_f {V p : Nat} {bs : List Nat} (h : Mk V bs) (hV2 : 2 ≤ V) (hp : p < V) : incidence_Residual.f V (il bs) p = some (((V - 1 : Nat) : Int), il (prB p false bs), 0) := by
  have := h.v7; have := h.n
  unfold incidence_Residual.f
  rw [if_pos ⟨by omega, by omega, by omega, by omega, by rw [il_length]; omega, okL_il (by simpa using h.bl)⟩, nl_il]
  simp only [Int.toNat_natCast]; rfl
theorem Mk.part {V p : Nat} {wi : Bool} {bs : List Nat} (h : Mk V bs) (hV2 : 2 ≤ V) (hp : p < V) : Mk (V - 1) (prB p wi bs) :=
  ⟨by omega, by have := h.v7; omega, prB_lt h.v7 hp h.bl, Nat.le_trans prB_length h.n⟩
theorem chT_one' (n : Nat) : chT n 1 = n := by simp [chT]
/-- **DesignParts answers true.** -/
theorem parts_true {l : List Int} (hl : l.length < 2 ^ 63) (hb : okL 256 l = true) {a : Int} (ha0 : 0 ≤ a) (ha1 : a ≤ 255) : ∃ k, plexuslaw09_DesignParts.f k l a = some true := by
  have hm := mk_lim (nl l)
  have hf : ∀ k, plexuslaw09_DesignParts.f k l a = plexuslaw09_DesignParts.f k l a := fun _ => rfl
  conv at hf => intro k; rhs; unfold plexuslaw09_DesignParts.f plexuslaw09_examples.f; rw [Option.bind_some, if_pos rfl, made_f hl hb]; simp only [Option.bind_some]; rw [strength_f hm]
  generalize limV (nl l) 7 = V at hm hf
  generalize limB (nl l) 7 = bs at hm hf
  simp only [Option.bind_some] at hf
  have hn := hm.n
  have hv := hm.v7
  have hv1 := hm.v1
  clear hl hb
  rcases strL_cases V bs with h | ⟨T, K, h1, h2, h, h4⟩
  · rw [h] at hf; exact ⟨1, (hf 1).trans rfl⟩
  rw [h] at hf
  dsimp only at hf
  simp only [if_true] at hf
  by_cases t1 : T < 1
  · refine ⟨1, (hf 1).trans ?_⟩
    rw [if_pos (show (T : Int) < 1 by omega), plexuslaw09_DesignParts.j0, if_pos rfl]
  by_cases hV2 : V < 2
  · refine ⟨1, (hf 1).trans ?_⟩
    rw [if_neg (show ¬ (T : Int) < 1 by omega), plexuslaw09_DesignParts.j0, if_pos (show decide ((V : Int) < 2) = true by simp; omega)]
  refine ⟨2, (hf 2).trans ?_⟩
  clear hf
  obtain ⟨t, rfl⟩ : ∃ t, T = t + 1 := ⟨T - 1, by omega⟩
  rw [if_neg (show ¬ ((t + 1 : Nat) : Int) < 1 by omega), plexuslaw09_DesignParts.j0, if_neg (show ¬ decide ((V : Int) < 2) = true by simp; omega), if_neg (show ¬ (V : Int) = 0 by omega)]
  obtain ⟨p, hp⟩ : ∃ p, p = a.toNat % V := ⟨_, rfl⟩
  have hpV : p < V := by rw [hp]; exact Nat.mod_lt _ (by omega)
  have hat : Int.tmod (wrap64 a) (V : Int) = (p : Int) := by
    rw [wrap_id (by omega) (by omega), hp, Int.tmod_eq_emod_of_nonneg ha0]
    obtain ⟨n, rfl⟩ := Int.eq_ofNat_of_zero_le ha0
    simp
  rw [hat, derived_f hm (by omega) hpV, Option.bind_some, residual_f hm (by omega) hpV, Option.bind_some]
  have hcT := h4 (t + 1) (Nat.le_refl _)
  have hct := h4 t (by omega)
  obtain ⟨hr, -, hk0, hsT⟩ := chkL_zero.1 hcT
  obtain ⟨hrt, -, -, hst⟩ := chkL_zero.1 hct
  have hr' := rightB_iff.1 hr
  have hrt' := rightB_iff.1 hrt
  have hk : ∀ b ∈ bs, cnt b 64 = K := fun b m => by have := hk0 b m; omega
  have w1 : wrap64 (((t + 1 : Nat) : Int) - 1) = (t : Int) := by rw [wrap_id (by omega) (by omega)]; omega
  have w2 : wrap64 ((V : Int) - 1) = ((V - 1 : Nat) : Int) := by rw [wrap_id (by omega) (by omega)]; omega
  have w3 : wrap64 ((K : Int) - 1) = ((K - 1 : Nat) : Int) := by rw [wrap_id (by omega) (by omega)]; omega
  have hlam := lambda_f hm h1 (show t ≤ t + 1 by omega) hcT
  rw [w1, hlam, Option.bind_some]
  dsimp only
  have hML : thr bs (2 ^ t - 1) ≤ 10 := Nat.le_trans (thr_le _ _) hn
  have hLM : thr bs (2 ^ (t + 1) - 1) ≤ 10 := Nat.le_trans (thr_le _ _) hn
  have hcount := (lesser_count (V := V) (K := K) (T := t + 1) (t := t) (L := thr bs (2 ^ (t + 1) - 1)) hv h1 (by omega) hm.bl hcT).1
  simp only [lamN, lamD, show t + 1 - t = 1 by omega, chT_one'] at hcount
  have hD : ∀ s ∈ dnL (V - 1) t 0 0, thr (prB p true bs) s = thr bs (2 ^ (t + 1) - 1) ∧ thr (prB p true bs) s + thr (prB p false bs) s = thr bs (2 ^ t - 1) := fun s hs => by
    obtain ⟨e1, e2⟩ := exs_of hv hpV (by omega) hs
    obtain ⟨f1, f2⟩ := thr_prB hv hpV hm.bl (sets_of (V := V - 1) (by omega) (by omega) hs).2
    have g1 := hsT _ (by simpa using e2)
    have g2 := hst _ (by simpa using e1)
    omega
  generalize thr bs (2 ^ t - 1) = M at *
  generalize thr bs (2 ^ (t + 1) - 1) = L at *
  have hcD : chkL ((V - 1 : Nat) : Int) (prB p true bs) t ((V - 1 : Nat) : Int) ((K - 1 : Nat) : Int) L = 0 := by
    refine chkL_zero.2 ⟨rightB_iff.2 (by omega), rfl, fun b hb => ?_, fun s hs => ?_⟩
    · have := prB_cnt hv hpV hm.bl hk b hb
      simp at this; omega
    · have := (hD s (by simpa using hs)).1; omega
  rw [if_pos (show (0 : Int) = 0 from rfl), if_pos (show (0 : Int) = 0 from rfl), if_pos (show (0 : Int) = 0 from rfl), if_pos (show (1 : Int) = 1 from rfl), w2, w3, check_f (hm.part (by omega) hpV), hcD, Option.bind_some, plexuslaw09_DesignParts.j1,
    if_neg (show ¬ ((0 : Int) != 0) = true by decide)]
  have w4 : wrap64 ((M : Int) - (L : Int)) = (M : Int) - (L : Int) := wrap_id (by omega) (by omega)
  rw [w4, w2, w1]
  by_cases hKV : K = V
  · rw [if_pos (show (K : Int) = (V : Int) by omega)]
    have hML2 : M = L := by
      have hpos : 0 < V - t := by omega
      rw [hKV] at hcount
      exact (Nat.eq_of_mul_eq_mul_right hpos (hcount.symm))
    have hnil : prB p false bs = [] := by
      cases hc : prB p false bs with
      | nil => rfl
      | cons b r =>
        have := prB_cnt hv hpV hm.bl hk b (by rw [hc]; simp)
        have h2 := cnt_le_of_lt (prB_lt hv hpV hm.bl b (by rw [hc]; simp : b ∈ prB p false bs)) (show V - 1 ≤ 7 by omega)
        simp at this; omega
    rw [if_pos (show (M : Int) - (L : Int) = 0 by omega), hnil]; rfl
  · rw [if_neg (show ¬ (K : Int) = (V : Int) by omega)]
    have hgt : L < M := by
      rcases Nat.lt_or_ge L M with h5 | h5
      · exact h5
      · exfalso
        have h6 : M * (K - t) ≤ L * (K - t) := Nat.mul_le_mul_right _ h5
        have h7 : L * (K - t) < L * (V - t) := Nat.mul_lt_mul_of_pos_left (by omega) (by omega)
        omega
    have hcR : chkL ((V - 1 : Nat) : Int) (prB p false bs) t ((V - 1 : Nat) : Int) K ((M : Int) - (L : Int)) = 0 := by
      refine chkL_zero.2 ⟨rightB_iff.2 (by omega), rfl, fun b hb => ?_, fun s hs => ?_⟩
      · have := prB_cnt hv hpV hm.bl hk b hb
        simp at this; omega
      · have := hD s (by simpa using hs); omega
    rw [if_pos (show (M : Int) - (L : Int) > 0 by omega), check_f (hm.part (by omega) hpV), hcR, Option.bind_some, if_pos (show (0 : Int) = 0 from rfl)]
end Go.Proofs.YtoiahjncpngkeaaDoor.Pd
