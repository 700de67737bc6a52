/- What DesignCounts says, in plain words: the counts, Fisher's inequality, the symmetric case; no program in sight. -/
/- What the printed DesignCounts computes is true, whatever the bytes; no walk in sight. -/
import Derived.Test.YtoiahjncpngkeaaDoorLw
import Derived.Test.YtoiahjncpngkeaaDoorPdx12
import Derived.Test.YtoiahjncpngkeaaDoorLg
namespace Go.Proofs.YtoiahjncpngkeaaDoor
set_option linter.unusedSimpArgs false
set_option linter.unusedVariables false
open Go.RowKit Go.Lib Go.Proofs.YtoiahjncpngkeaaDoorW.PrintWords

theorem sub_and (a b s : Nat) : ((a &&& s == s) && (b &&& s == s)) = ((a &&& b) &&& s == s) := by
  rw [Bool.eq_iff_iff]
  simp only [Bool.and_eq_true, beq_iff_eq]
  constructor
  · rintro ⟨h1, h2⟩; rw [Nat.and_assoc, h2, h1]
  · intro h
    constructor
    · have : a &&& ((a &&& b) &&& s) = (a &&& b) &&& s := by rw [← Nat.and_assoc, ← Nat.and_assoc, Nat.and_self]
      rw [h] at this; exact this
    · have : b &&& ((a &&& b) &&& s) = (a &&& b) &&& s := by rw [Nat.and_comm a b, ← Nat.and_assoc, ← Nat.and_assoc, Nat.and_self]
      rw [h] at this; exact this
theorem sumL_mul (l : List Nat) (n : Nat) (f : Nat → Nat) : (sumL l fun x => n * f x) = n * sumL l f := by
  induction l with
  | nil => rfl
  | cons x r ih => simp only [sumL, List.foldr_cons] at ih ⊢; rw [ih, Nat.mul_add]
def okSubs : Bool := (List.range 8).all fun V => (List.range (2 ^ V)).all fun x =>
  Nat.beq ((dnL V 1 0 0).filter fun s => x &&& s == s).length (cnt x 64) && Nat.beq (2 * ((dnL V 2 0 0).filter fun s => x &&& s == s).length) (cnt x 64 * (cnt x 64 - 1))
set_option maxRecDepth 1000000 in
theorem okSubs_true : okSubs = true := by kernel_rfl
theorem subs_of {V x : Nat} (hV : V ≤ 7) (hx : x < 2 ^ V) : ((dnL V 1 0 0).filter fun s => x &&& s == s).length = cnt x 64 ∧ 2 * ((dnL V 2 0 0).filter fun s => x &&& s == s).length = cnt x 64 * (cnt x 64 - 1) := by
  have h := okSubs_true
  simp only [okSubs, List.all_eq_true, List.mem_range, Bool.and_eq_true] at h
  have := h V (by omega) x hx
  exact ⟨Nat.eq_of_beq_eq_true this.1, Nat.eq_of_beq_eq_true this.2⟩
/-- The points that a block has in common with the others, and the pairs. -/
theorem meet_sums {V r c B : Nat} {bs : List Nat} (hV : V ≤ 7) (hb : ∀ b ∈ bs, b < 2 ^ V) (hB : B < 2 ^ V) (h1 : ∀ s ∈ dnL V 1 0 0, thr bs s = r) (h2 : ∀ s ∈ dnL V 2 0 0, thr bs s = c) :
    (sumL bs fun b => cnt (B &&& b) 64) = cnt B 64 * r ∧ (sumL bs fun b => cnt (B &&& b) 64 * (cnt (B &&& b) 64 - 1)) = cnt B 64 * (cnt B 64 - 1) * c := by
  have hlt : ∀ b, B &&& b < 2 ^ V := fun b => Nat.lt_of_le_of_lt Nat.and_le_left hB
  have key : ∀ D : List Nat, ∀ n, (∀ s ∈ D, thr bs s = n) → (sumL bs fun b => (D.filter fun s => (B &&& b) &&& s == s).length) = (D.filter fun s => B &&& s == s).length * n := by
    intro D n hD
    have e := thr_swap (D.filter fun s => B &&& s == s) bs
    have e1 : sumL (D.filter fun s => B &&& s == s) (thr bs) = (D.filter fun s => B &&& s == s).length * n := sumL_const fun x hx => hD x (List.mem_filter.1 hx).1
    rw [← e1, e]
    refine sumL_congr fun b _ => ?_
    rw [List.filter_filter]
    congr 2
    funext s
    rw [← sub_and B b s, Bool.and_comm]
  constructor
  · have := key _ _ h1
    rw [(subs_of hV hB).1] at this
    rw [← this]
    exact sumL_congr fun b _ => ((subs_of hV (hlt b)).1).symm
  · have := key _ _ h2
    have e2 : (sumL bs fun b => cnt (B &&& b) 64 * (cnt (B &&& b) 64 - 1)) = 2 * sumL bs fun b => ((dnL V 2 0 0).filter fun s => (B &&& b) &&& s == s).length := by
      rw [sumL_congr (fun b _ => ((subs_of hV (hlt b)).2).symm), sumL_mul]
    rw [e2, this, ← (subs_of hV hB).2, Nat.mul_assoc]
/-- Sums over whole numbers. -/
def sumI (l : List Nat) (f : Nat → Int) : Int := l.foldr (fun x a => f x + a) 0
theorem sumI_nonneg {l : List Nat} {f : Nat → Int} (h : ∀ x ∈ l, 0 ≤ f x) : 0 ≤ sumI l f := by
  induction l with
  | nil => simp [sumI]
  | cons x r ih => have := ih fun y hy => h y (by simp [hy]); have := h x (by simp); simp only [sumI, List.foldr_cons] at *; omega
theorem sumI_zero {l : List Nat} {f : Nat → Int} (h : ∀ x ∈ l, 0 ≤ f x) (hz : sumI l f = 0) : ∀ x ∈ l, f x = 0 := by
  induction l with
  | nil => intro x hx; cases hx
  | cons y r ih =>
    have h1 := sumI_nonneg (l := r) (f := f) fun z m => h z (List.mem_cons_of_mem _ m)
    have h2 := h y (by simp)
    simp only [sumI, List.foldr_cons] at hz h1
    intro x hx
    rcases List.mem_cons.1 hx with rfl | hx
    · omega
    · exact ih (fun z m => h z (List.mem_cons_of_mem _ m)) (by simp only [sumI]; omega) x hx
/-- A sum of squares, opened: f x = a*x*(x-1) + b*x + c. -/
theorem sumI_open (l : List Nat) (g : Nat → Nat) (u v : Int) :
    (sumI l fun x => (u * g x - v) * (u * g x - v)) = u * u * (sumL l fun x => g x * (g x - 1) : Nat) + (u * u - 2 * u * v) * (sumL l g : Nat) + v * v * (l.length : Nat) := by
  induction l with
  | nil => simp [sumI, sumL]
  | cons x r ih =>
    simp only [sumI, sumL, List.foldr_cons, List.length_cons] at ih ⊢
    rw [ih]
    have h1 : ((g x * (g x - 1) : Nat) : Int) = (g x : Int) * g x - g x := by
      cases h : g x with
      | zero => simp
      | succ n => simp only [Nat.add_sub_cancel]; push_cast; grind
    push_cast
    push_cast at h1
    rw [show ((g x : Nat) : Int) * (((g x - 1 : Nat)) : Int) = (g x : Int) * g x - g x from by simpa using h1]
    grind
theorem sumL_append (l1 l2 : List Nat) (f : Nat → Nat) : sumL (l1 ++ l2) f = sumL l1 f + sumL l2 f := by
  induction l1 with
  | nil => simp [sumL]
  | cons x r ih => simp only [sumL, List.cons_append, List.foldr_cons] at ih ⊢; omega
theorem sumL_cons (x : Nat) (r : List Nat) (f : Nat → Nat) : sumL (x :: r) f = f x + sumL r f := rfl
def okFisher : Bool := (List.range 8).all fun V => (List.range V).all fun K => (List.range 11).all fun b => (List.range 11).all fun r => (List.range 11).all fun c =>
  if 2 ≤ K ∧ 1 ≤ c ∧ 1 ≤ b ∧ b * K = V * r ∧ r * (K - 1) = c * (V - 1) then
    let Q : Int := K * (K - 1) * (c - 1)
    let P : Int := K * (r - 1)
    let u : Int := b - 1
    let v : Int := K * (r - 1)
    decide (V ≤ b ∨ u * u * Q + (u * u - 2 * u * v) * P + v * v * (b - 1) < 0) && decide (b ≠ V ∨ Q + (1 - 2 * c) * P + c * c * (b - 1) = 0)
  else true
set_option maxRecDepth 1000000 in
theorem okFisher_true : okFisher = true := by kernel_rfl
theorem fisher_num {V K b r c : Nat} (hV : V ≤ 7) (hK : K < V) (hb : b ≤ 10) (hr : r ≤ 10) (hc : c ≤ 10) (h2 : 2 ≤ K) (hc1 : 1 ≤ c) (hb1 : 1 ≤ b) (e1 : b * K = V * r) (e2 : r * (K - 1) = c * (V - 1)) :
    (V ≤ b ∨ ((b : Int) - 1) * (b - 1) * (K * (K - 1) * (c - 1)) + (((b : Int) - 1) * (b - 1) - 2 * (b - 1) * (K * (r - 1))) * (K * (r - 1)) + (K * (r - 1)) * (K * (r - 1)) * (b - 1) < 0) ∧
    (b ≠ V ∨ ((K : Int) * (K - 1) * (c - 1)) + (1 - 2 * c) * (K * (r - 1)) + c * c * (b - 1) = 0) := by
  have h := okFisher_true
  simp only [okFisher, List.all_eq_true, List.mem_range] at h
  have := h V (by omega) K hK b (by omega) r (by omega) c (by omega)
  rw [if_pos ⟨h2, hc1, hb1, e1, e2⟩] at this
  simp only [Bool.and_eq_true, decide_eq_true_eq] at this
  exact this
theorem thr_zero (bs : List Nat) : thr bs 0 = bs.length := by unfold thr; rw [List.filter_eq_self.2]; intro b _; simp
theorem chT_one (n : Nat) : chT n 1 = n := by simp [chT]
/-- **Fisher's inequality, and the symmetric case.** -/
theorem fisher {V K r c : Nat} {bs : List Nat} (hV : V ≤ 7) (hn : bs.length ≤ 10) (hb : ∀ b ∈ bs, b < 2 ^ V) (hKV : K < V) (h1 : chkL V bs 1 V K r = 0) (h2 : chkL V bs 2 V K c = 0) :
    V ≤ bs.length ∧ (bs.length = V → ∀ l1 B l2, bs = l1 ++ B :: l2 → ∀ x ∈ l1 ++ l2, cnt (B &&& x) 64 = c) := by
  obtain ⟨hr1, -, hk, hs1⟩ := chkL_zero.1 h1
  obtain ⟨hr2, -, -, hs2⟩ := chkL_zero.1 h2
  have q1 := rightB_iff.1 hr1
  have q2 := rightB_iff.1 hr2
  have hk' : ∀ b ∈ bs, cnt b 64 = K := fun b m => by have := hk b m; omega
  have t1 : ∀ s ∈ dnL V 1 0 0, thr bs s = r := fun s m => by have := hs1 s (by simpa using m); omega
  have t2 : ∀ s ∈ dnL V 2 0 0, thr bs s = c := fun s m => by have := hs2 s (by simpa using m); omega
  have e1 := (lesser_count (V := V) (K := K) (T := 1) (t := 0) (L := r) hV (by omega) (by omega) hb h1).1
  have e2 := (lesser_count (V := V) (K := K) (T := 2) (t := 1) (L := c) hV (by omega) (by omega) hb h2).1
  have hrr : thr bs 1 = r := t1 _ (up_length (t := 1) hV (by omega) (Nat.le_refl 1) (by omega)).2
  simp only [lamN, lamD, Nat.sub_zero, Nat.pow_zero, Nat.sub_self, thr_zero, chT_one, Nat.pow_one, hrr] at e1 e2
  rw [chT_one, chT_one] at e2
  have hrl : r ≤ bs.length := by rw [← hrr]; exact thr_le _ _
  have hcl : c ≤ bs.length := by rw [← t2 _ (up_length (t := 2) hV (by omega) (Nat.le_refl 2) (by omega)).2]; exact thr_le _ _
  have hnum := fisher_num (b := bs.length) hV hKV hn (by omega) (by omega) (by omega) (by omega) (by omega) (by rw [Nat.mul_comm V r, e1]) e2.symm
  have split : ∀ l1 B l2, bs = l1 ++ B :: l2 → ∀ u v : Int, (sumI (l1 ++ l2) fun x => (u * (cnt (B &&& x) 64 : Nat) - v) * (u * (cnt (B &&& x) 64 : Nat) - v)) =
      u * u * (K * (K - 1) * (c - 1)) + (u * u - 2 * u * v) * (K * (r - 1)) + v * v * (bs.length - 1) := by
    intro l1 B l2 e u v
    have hB : B ∈ bs := by rw [e]; simp
    obtain ⟨s1, s2⟩ := meet_sums (B := B) hV hb (hb B hB) t1 t2
    have hBB : cnt (B &&& B) 64 = K := by rw [Nat.and_self]; exact hk' B hB
    have hlen : ((l1 ++ l2).length : Int) = bs.length - 1 := by rw [e]; simp; omega
    rw [hk' B hB, e] at s1 s2
    simp only [sumL_append, sumL_cons, hBB] at s1 s2
    rw [sumI_open, sumL_append, sumL_append, hlen]
    generalize (sumL l1 fun x => cnt (B &&& x) 64) = a1 at s1 ⊢
    generalize (sumL l2 fun x => cnt (B &&& x) 64) = a2 at s1 ⊢
    generalize (sumL l1 fun x => cnt (B &&& x) 64 * (cnt (B &&& x) 64 - 1)) = b1 at s2 ⊢
    generalize (sumL l2 fun x => cnt (B &&& x) 64 * (cnt (B &&& x) 64 - 1)) = b2 at s2 ⊢
    have hK1 : ((K - 1 : Nat) : Int) = (K : Int) - 1 := by omega
    have z1 : ((a1 + a2 : Nat) : Int) = K * (r - 1) := by
      have := congrArg (fun n : Nat => (n : Int)) s1
      simp only [Int.natCast_add, Int.natCast_mul] at this ⊢
      grind
    have z2 : ((b1 + b2 : Nat) : Int) = K * (K - 1) * (c - 1) := by
      have := congrArg (fun n : Nat => (n : Int)) s2
      simp only [Int.natCast_add, Int.natCast_mul, hK1] at this ⊢
      grind
    rw [z1, z2]
  constructor
  · rcases hnum.1 with h | h
    · exact h
    · exfalso
      obtain ⟨B, l2, e⟩ : ∃ B l2, bs = B :: l2 := by
        cases bs with
        | nil => simp at hrl; omega
        | cons B l2 => exact ⟨B, l2, rfl⟩
      have := split [] B l2 e ((bs.length : Int) - 1) (K * (r - 1))
      have h0 := sumI_nonneg (l := [] ++ l2) (f := fun x => ((((bs.length : Int) - 1)) * (cnt (B &&& x) 64 : Nat) - (K * (r - 1))) * ((((bs.length : Int) - 1)) * (cnt (B &&& x) 64 : Nat) - (K * (r - 1)))) (fun x _ => by
        rcases Int.le_total 0 ((((bs.length : Int) - 1)) * (cnt (B &&& x) 64 : Nat) - (K * (r - 1))) with h | h
        · exact Int.mul_nonneg h h
        · exact Int.mul_nonneg_of_nonpos_of_nonpos h h)
      rw [this] at h0
      omega
  · intro hbV l1 B l2 e x hx
    have h3 := hnum.2.resolve_left (by omega)
    have h4 := split l1 B l2 e 1 c
    rw [show (1 : Int) * 1 * (K * (K - 1) * (c - 1)) + (1 * 1 - 2 * 1 * c) * (K * (r - 1)) + c * c * (bs.length - 1) = 0 from by rw [← h3]; grind] at h4
    have h5 := sumI_zero (fun x _ => by
        rcases Int.le_total 0 ((1 : Int) * (cnt (B &&& x) 64 : Nat) - c) with h | h
        · exact Int.mul_nonneg h h
        · exact Int.mul_nonneg_of_nonpos_of_nonpos h h) h4 x hx
    have h6 := Int.mul_eq_zero.1 h5
    omega
end Go.Proofs.YtoiahjncpngkeaaDoor


namespace Go.Proofs.YtoiahjncpngkeaaDoor.Pd
set_option linter.unusedSimpArgs false
set_option linter.unusedVariables false
open Go.RowKit Go.Lib Go.Proofs.YtoiahjncpngkeaaDoorW.PrintWords Go.Proofs.YtoiahjncpngkeaaDoor

theorem size_f {x : Nat} (hx : x < 16384) : incidence_set_size.f (x : Int) = some ((cnt x 64 : Nat) : Int) := by
  unfold incidence_set_size.f; rw [ones_f hx]; rfl
/-- How many points a block has in common with each. -/
def mrow (bs : List Nat) (a : Nat) : List Int := bs.map fun b => ((cnt (a &&& b) 64 : Nat) : Int)
theorem mrow_length (bs : List Nat) (a : Nat) : (mrow bs a).length = bs.length := by simp [mrow]
theorem rd_mrow {bs : List Nat} {a j : Nat} (hj : j < bs.length) : rd (mrow bs a) (j : Int) = ((cnt (a &&& bs.getD j 0) 64 : Nat) : Int) := by
  simp [rd, mrow, List.getD_eq_getElem?_getD, hj]
theorem rd_at (P Q : List (List Int)) (r : List Int) : rd_L2 (P ++ r :: Q) ((P.length : Nat) : Int) = r := by simp [rd_L2]
theorem set_at (P Q : List (List Int)) (r r' : List Int) : (P ++ r :: Q).set (((P.length : Nat) : Int)).toNat r' = P ++ r' :: Q := by simp
theorem take_mrow {bs : List Nat} {a j : Nat} (hj : j < bs.length) : (mrow bs a).take j ++ [((cnt (a &&& bs.getD j 0) 64 : Nat) : Int)] = (mrow bs a).take (j + 1) := by
  rw [List.take_succ_eq_append_getElem (by rw [mrow_length]; exact hj)]
  simp [mrow, List.getD_eq_getElem?_getD, hj]
theorem meets_inner {V : Nat} {bs : List Nat} (h : Mk V bs) (P Q : List (List Int)) (a : Nat) (ha : a < 128) :
    ∀ m j, j + m = bs.length → ∀ k, incidence_Meets.l1 (k + m + 1) (P ++ (mrow bs a).take j :: Q) ((P.length : Nat) : Int) (a : Int) (il bs) (bs.length : Int) ((P.length : Nat) : Int) (il bs) (bs.length : Int) (j : Int) V (il bs) =
      incidence_Meets.l0 k (P ++ mrow bs a :: Q) (il bs) (bs.length : Int) (wrap64 (((P.length : Nat) : Int) + 1)) V (il bs) := by
  intro m
  induction m with
  | zero =>
    intro j e k
    rw [show k + 0 + 1 = k + 1 from rfl, incidence_Meets.l1, if_neg (show ¬ (j : Int) < (bs.length : Int) by omega), List.take_of_length_le (by rw [mrow_length]; omega)]
  | succ m ih =>
    intro j e k
    have hj : j < bs.length := by omega
    have hn := h.n
    have hb := h.lt128 _ (getD_mem hj)
    have hl : ((mrow bs a).take j).length < 17592186044416 := by have := List.length_take_le j (mrow bs a); omega
    have hnext : wrap64 ((j : Int) + 1) = ((j + 1 : Nat) : Int) := by rw [wrap_id (by omega) (by omega)]; simp
    rw [show k + (m + 1) + 1 = (k + m + 1) + 1 from rfl, incidence_Meets.l1, if_pos (show (j : Int) < (bs.length : Int) by omega), if_pos (show (0 : Int) ≤ (j : Int) by omega),
      if_pos (show (j : Int) < ((il bs).length : Int) by rw [il_length]; omega), if_pos (show (0 : Int) ≤ ((P.length : Nat) : Int) by omega),
      if_pos (show ((P.length : Nat) : Int) < ((P ++ (mrow bs a).take j :: Q).length : Int) by simp; omega), rd_il hj, uand (by omega) (by omega),
      size_f (Nat.lt_of_le_of_lt Nat.and_le_left (by omega)), Option.bind_some, rd_at, if_pos hl, set_at, take_mrow hj, hnext]
    exact ih (j + 1) (by omega) k
theorem meets_outer {V : Nat} {bs : List Nat} (h : Mk V bs) :
    ∀ m i, i + m = bs.length → ∀ k, incidence_Meets.l0 (k + m * (bs.length + 2) + 1) ((bs.take i).map (mrow bs) ++ List.replicate m []) (il bs) (bs.length : Int) (i : Int) V (il bs) = some (bs.map (mrow bs)) := by
  intro m
  induction m with
  | zero =>
    intro i e k
    rw [incidence_Meets.l0, if_neg (show ¬ (i : Int) < (bs.length : Int) by omega), List.take_of_length_le (by omega)]; simp
  | succ m ih =>
    intro i e k
    have hi : i < bs.length := by omega
    have hn := h.n
    have hb := h.lt128 _ (getD_mem hi)
    have hnext : wrap64 ((i : Int) + 1) = ((i + 1 : Nat) : Int) := by rw [wrap_id (by omega) (by omega)]; simp
    have hP : ((bs.take i).map (mrow bs)).length = i := by simp; omega
    have e1 : k + (m + 1) * (bs.length + 2) + 1 = ((k + m * (bs.length + 2) + 1) + bs.length + 1) + 1 := by rw [Nat.add_mul]; omega
    have hin := meets_inner h ((bs.take i).map (mrow bs)) (List.replicate m []) (bs.getD i 0) hb bs.length 0 (by omega) (k + m * (bs.length + 2) + 1)
    rw [hP, hnext] at hin
    have hst : (bs.take i).map (mrow bs) ++ mrow bs (bs.getD i 0) :: List.replicate m [] = (bs.take (i + 1)).map (mrow bs) ++ List.replicate m [] := by
      rw [List.take_succ_eq_append_getElem hi, List.map_append, List.append_assoc]
      simp only [List.map_cons, List.map_nil, List.cons_append, List.nil_append, List.getD_eq_getElem?_getD, List.getElem?_eq_getElem hi, Option.getD_some]
    rw [hst, ih (i + 1) (by omega) k] at hin
    rw [e1, incidence_Meets.l0, if_pos (show (i : Int) < (bs.length : Int) by omega), if_pos (show (0 : Int) ≤ (i : Int) by omega), if_pos (show (i : Int) < ((il bs).length : Int) by rw [il_length]; omega), rd_il hi, il_length]
    exact hin
theorem meets_f {V : Nat} {bs : List Nat} (h : Mk V bs) (k : Nat) : incidence_Meets.f (k + bs.length * (bs.length + 2) + 1) V (il bs) = some (bs.map (mrow bs)) := by
  have hn := h.n
  unfold incidence_Meets.f
  rw [il_length, if_pos (show (0 : Int) ≤ (bs.length : Int) by omega), if_pos (show ((bs.length : Int)).toNat ≤ 11728124029610 by omega), Int.toNat_natCast]
  have := meets_outer h bs.length 0 (by omega) k
  simpa using this

section
variable {V c : Nat} {bs : List Nat} (h : Mk V bs) (hM : ∀ i j, i < bs.length → j < bs.length → i ≠ j → cnt (bs.getD i 0 &&& bs.getD j 0) 64 = c)
include h hM
theorem counts_inner (i : Nat) (hi : i < bs.length) :
    ∀ m j, j + m = bs.length → ∀ k, plexuslaw09_DesignCounts.l1 (k + m + 1) true (bs.map (mrow bs)) (i : Int) (j : Int) V (il bs) (c : Int) 1 0 =
      plexuslaw09_DesignCounts.l0 k true (bs.map (mrow bs)) (wrap64 ((i : Int) + 1)) V (il bs) (c : Int) 1 0 := by
  have hr : rd_L2 (bs.map (mrow bs)) (i : Int) = mrow bs (bs.getD i 0) := by simp [rd_L2, List.getD_eq_getElem?_getD, hi]
  have hn := h.n
  intro m
  induction m with
  | zero =>
    intro j e k
    rw [show k + 0 + 1 = k + 1 from rfl, plexuslaw09_DesignCounts.l1, if_pos (show (0 : Int) ≤ (i : Int) by omega), if_pos (show (i : Int) < ((bs.map (mrow bs)).length : Int) by simp; omega), hr,
      if_neg (show ¬ (j : Int) < ((mrow bs (bs.getD i 0)).length : Int) by rw [mrow_length]; omega)]
  | succ m ih =>
    intro j e k
    have hj : j < bs.length := by omega
    have hnext : wrap64 ((j : Int) + 1) = ((j + 1 : Nat) : Int) := by rw [wrap_id (by omega) (by omega)]; simp
    rw [show k + (m + 1) + 1 = (k + m + 1) + 1 from rfl, plexuslaw09_DesignCounts.l1, if_pos (show (0 : Int) ≤ (i : Int) by omega), if_pos (show (i : Int) < ((bs.map (mrow bs)).length : Int) by simp; omega), hr,
      if_pos (show (j : Int) < ((mrow bs (bs.getD i 0)).length : Int) by rw [mrow_length]; omega), hnext]
    by_cases hij : i = j
    · rw [if_pos (show (i : Int) = (j : Int) by omega)]
      exact ih (j + 1) (by omega) k
    · rw [if_neg (show ¬ (i : Int) = (j : Int) by omega), if_pos (show (0 : Int) ≤ (j : Int) by omega), rd_mrow hj, hM i j hi hj hij, if_pos (show (c : Int) = (c : Int) from rfl)]
      exact ih (j + 1) (by omega) k
theorem counts_outer :
    ∀ m i, i + m = bs.length → ∀ k, plexuslaw09_DesignCounts.l0 (k + m * (bs.length + 2) + 1) true (bs.map (mrow bs)) (i : Int) V (il bs) (c : Int) 1 0 = some true := by
  have hn := h.n
  intro m
  induction m with
  | zero =>
    intro i e k
    rw [plexuslaw09_DesignCounts.l0, if_neg (show ¬ (i : Int) < ((bs.map (mrow bs)).length : Int) by simp; omega), if_pos (show ((bs.map (mrow bs)).length : Int) = ((il bs).length : Int) by simp [il_length])]
  | succ m ih =>
    intro i e k
    have hi : i < bs.length := by omega
    have hnext : wrap64 ((i : Int) + 1) = ((i + 1 : Nat) : Int) := by rw [wrap_id (by omega) (by omega)]; simp
    have e1 : k + (m + 1) * (bs.length + 2) + 1 = ((k + m * (bs.length + 2) + 1) + bs.length + 1) + 1 := by rw [Nat.add_mul]; omega
    have hin := counts_inner h hM i hi bs.length 0 (by omega) (k + m * (bs.length + 2) + 1)
    rw [hnext, ih (i + 1) (by omega) k] at hin
    rw [e1, plexuslaw09_DesignCounts.l0, if_pos (show (i : Int) < ((bs.map (mrow bs)).length : Int) by simp; omega)]
    exact hin
end
theorem at_split {bs : List Nat} {i j : Nat} (hi : i < bs.length) (hj : j < bs.length) (hij : i ≠ j) : bs = bs.take i ++ bs.getD i 0 :: bs.drop (i + 1) ∧ bs.getD j 0 ∈ bs.take i ++ bs.drop (i + 1) := by
  have hb : bs.getD i 0 = bs[i] := by rw [List.getD_eq_getElem?_getD, List.getElem?_eq_getElem hi]; rfl
  have hb2 : bs.getD j 0 = bs[j] := by rw [List.getD_eq_getElem?_getD, List.getElem?_eq_getElem hj]; rfl
  rw [hb, hb2]
  refine ⟨by rw [← List.drop_eq_getElem_cons hi, List.take_append_drop], ?_⟩
  rw [List.mem_append]
  rcases Nat.lt_or_gt_of_ne hij with h | h
  · refine .inr ?_
    rw [List.mem_iff_getElem]
    exact ⟨j - (i + 1), by simp; omega, by simp; congr 1; omega⟩
  · refine .inl ?_
    rw [List.mem_iff_getElem]
    exact ⟨j, by simp; omega, by simp⟩
/-- **DesignCounts answers true.** -/
theorem counts_true {l : List Int} (hl : l.length < 2 ^ 63) (hb : okL 256 l = true) : ∃ k, plexuslaw09_DesignCounts.f k l = some true := by
  have hm := mk_lim (nl l)
  have hf : ∀ k, plexuslaw09_DesignCounts.f k l = plexuslaw09_DesignCounts.f k l := fun _ => rfl
  conv at hf => intro k; rhs; unfold plexuslaw09_DesignCounts.f plexuslaw09_examples.f; rw [Option.bind_some, if_pos rfl, made_f hl hb]; simp only [Option.bind_some]; rw [strength_f hm]
  generalize limV (nl l) 7 = V at hm hf
  generalize limB (nl l) 7 = bs at hm hf
  simp only [Option.bind_some] at hf
  rcases strL_cases V bs with h | ⟨T, K, h1, h2, h, h4⟩
  · rw [h] at hf; exact ⟨1, (hf 1).trans rfl⟩
  rw [h] at hf
  dsimp only at hf
  simp only [if_true] at hf
  have hn := hm.n
  have hv := hm.v7
  refine ⟨bs.length * (bs.length + 2) + 1 + 1 + 1 + 1 + 1, (hf _).trans ?_⟩
  clear hf hl hb
  by_cases t1 : T < 1
  · rw [plexuslaw09_DesignCounts.j0, if_pos (show decide ((T : Int) < 1) = true by simp; omega)]
  have hcT := h4 T (Nat.le_refl _)
  have hTV := rightB_iff.1 (chkL_zero.1 hcT).1
  have l1 := lambda_f hm h1 (show 1 ≤ T by omega) hcT
  have hc1 := h4 1 (by omega)
  have e1 := (lesser_count (V := V) (K := K) (T := 1) (t := 0) (L := thr bs 1) hv (by omega) (by omega) hm.bl hc1).1
  simp only [lamN, lamD, Nat.sub_zero, Nat.pow_zero, Nat.sub_self, thr_zero, chT_one] at e1
  have hr : thr bs 1 ≤ bs.length := thr_le _ _
  have hK7 : K ≤ 7 := by omega
  have m1 : bs.length * K ≤ 10 * 7 := Nat.mul_le_mul hn hK7
  have m2 : V * thr bs 1 ≤ 7 * 10 := Nat.mul_le_mul hv (by omega)
  have hne : ((wrap64 ((((il bs).length : Nat) : Int) * (K : Int))) != (wrap64 ((V : Int) * ((thr bs 1 : Nat) : Int)))) = false := by
    rw [il_length, ← Int.natCast_mul, ← Int.natCast_mul, wrap_id (by omega) (by omega), wrap_id (by omega) (by omega)]
    simp only [bne_eq_false_iff_eq]
    rw [← e1, Nat.mul_comm]
  rw [plexuslaw09_DesignCounts.j0, if_neg (show ¬ decide ((T : Int) < 1) = true by simp; omega)]
  rw [show ((1 : Nat) : Int) = 1 from rfl, show 2 ^ 1 - 1 = 1 from rfl] at l1
  rw [l1, Option.bind_some]
  dsimp only
  rw [if_pos (show (0 : Int) = 0 from rfl), if_pos (show (1 : Int) = 1 from rfl), hne, plexuslaw09_DesignCounts.j1, if_neg (show ¬ false = true by simp)]
  by_cases t2 : T < 2
  · rw [if_pos (show (T : Int) < 2 by omega), plexuslaw09_DesignCounts.j2, if_pos (show true = true from rfl)]
  rw [if_neg (show ¬ (T : Int) < 2 by omega), plexuslaw09_DesignCounts.j2]
  by_cases hKV : K = V
  · rw [if_pos (show ((K : Int) == (V : Int)) = true by simp [hKV])]
  rw [if_neg (show ¬ ((K : Int) == (V : Int)) = true by simp; omega)]
  have hc2 := h4 2 (by omega)
  have l2 := lambda_f hm h1 (show 2 ≤ T by omega) hcT
  rw [show ((2 : Nat) : Int) = 2 from rfl, show 2 ^ 2 - 1 = 3 from rfl] at l2
  obtain ⟨f1, f2⟩ := fisher hv hn hm.bl (show K < V by omega) hc1 hc2
  rw [show 2 ^ 2 - 1 = 3 from rfl] at f2
  rw [l2, Option.bind_some]
  dsimp only
  rw [il_length, if_neg (show ¬ (bs.length : Int) < (V : Int) by omega), plexuslaw09_DesignCounts.j3, if_neg (show ¬ ((0 : Int) != 0) = true by decide), il_length]
  by_cases hbV : bs.length > V
  · rw [if_pos (show (bs.length : Int) > (V : Int) by omega)]
  rw [if_neg (show ¬ (bs.length : Int) > (V : Int) by omega)]
  have f3 := f2 (by omega)
  have mf := meets_f hm 0
  rw [Nat.zero_add] at mf
  rw [mf, Option.bind_some]
  have := counts_outer hm (c := thr bs 3) (fun i j hi hj hij => f3 _ _ _ (at_split hi hj hij).1 _ (at_split hi hj hij).2) bs.length 0 (by omega) 0
  rw [Nat.zero_add] at this
  exact this
end Go.Proofs.YtoiahjncpngkeaaDoor.Pd
