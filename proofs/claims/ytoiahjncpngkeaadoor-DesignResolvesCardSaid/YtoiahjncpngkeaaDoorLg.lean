/- What the printed functions that all laws of Design share compute; no walk in sight. -/
import Derived.Test.YtoiahjncpngkeaaDoorPdx5
import Derived.Test.YtoiahjncpngkeaaDoorPdx6
import Derived.Test.YtoiahjncpngkeaaDoorPdx8
import Derived.Test.YtoiahjncpngkeaaDoorLw
namespace Go.Proofs.YtoiahjncpngkeaaDoor.Pd
set_option linter.unusedSimpArgs false
set_option linter.unusedVariables false
open Go.RowKit Go.Lib Go.Proofs.YtoiahjncpngkeaaDoorW.PrintWords Go.Proofs.YtoiahjncpngkeaaDoor

theorem limB_mem {l : List Nat} {m : Nat} (hm1 : 1 ≤ m) (hm7 : m ≤ 7) : ∀ b ∈ limB l m, b < 2 ^ limV l m := fun b hb =>
  limRaw_lt hm1 hm7 b (List.mem_of_mem_take (sortedL_mem.1 hb))
theorem limB_length {l : List Nat} {m : Nat} : (limB l m).length ≤ 10 := by
  have h : ∀ (xs acc : List Nat), (xs.foldl withL acc).length = acc.length + xs.length := by
    intro xs
    induction xs with
    | nil => intro acc; simp
    | cons x r ih => intro acc; rw [List.foldl_cons, ih, withL_length, List.length_cons]; omega
  show ((((limRaw l m).take 10).foldl withL []).length) ≤ 10
  rw [h, List.length_take]; simp; omega
theorem nl_il (bs : List Nat) : nl (il bs) = bs := by
  induction bs with
  | nil => rfl
  | cons b r ih => simp only [nl, il, List.map_cons, Int.toNat_natCast] at ih ⊢; rw [ih]
theorem made_f {l : List Int} (hl : l.length < 2 ^ 63) (hb : okL 256 l = true) : plexusref06_Made.f l = some (((limV (nl l) 7 : Nat) : Int), il (limB (nl l) 7)) := by
  unfold plexusref06_Made.f plexusref06_Limited.f
  rw [if_pos ⟨hl, hb, by decide, by decide⟩]; rfl

/-- A structure as Made makes it. -/
structure Mk (V : Nat) (bs : List Nat) : Prop where
  v1 : 1 ≤ V
  v7 : V ≤ 7
  bl : ∀ b ∈ bs, b < 2 ^ V
  n : bs.length ≤ 10
theorem mk_lim (l : List Nat) : Mk (limV l 7) (limB l 7) := ⟨(limV_bd l 7 (by decide)).1, (limV_bd l 7 (by decide)).2, limB_mem (by decide) (by decide), limB_length⟩
theorem Mk.small {V : Nat} {bs : List Nat} (h : Mk V bs) : okL 16384 (il bs) = true :=
  okL_il fun b hb => Nat.lt_of_lt_of_le (h.bl b hb) (Nat.le_trans (Nat.pow_le_pow_right (by decide) h.v7) (by decide))
theorem check_f {V : Nat} {bs : List Nat} (h : Mk V bs) (a b c d : Int) : design_Check.f V (il bs) a b c d = some (chkL V bs a b c d) := by
  unfold design_Check.f
  rw [if_pos ⟨by rw [il_length]; have := h.n; omega, h.small⟩, nl_il]
theorem strength_f {V : Nat} {bs : List Nat} (h : Mk V bs) : plexuslaw09_strength.f V (il bs) = some ((strL V bs).T, (strL V bs).V, (strL V bs).K, (strL V bs).L, (strL V bs).E) := by
  unfold plexuslaw09_strength.f design_Strength.f
  rw [if_pos ⟨by rw [il_length]; have := h.n; omega, h.small, by omega⟩, nl_il]; rfl
/-- The number of blocks through t points, as design.Lambda finds it. -/
theorem lambda_f {V T K L t : Nat} {bs : List Nat} (h : Mk V bs) (hT : T ≤ 3) (ht : t ≤ T) (hc : chkL V bs T V K L = 0) :
    plexuslaw09_lambda.f T V K L t = some (((thr bs (2 ^ t - 1) : Nat) : Int), 1, 0) := by
  obtain ⟨e1, e2⟩ := lesser_count h.v7 hT ht h.bl hc
  unfold plexuslaw09_lambda.f design_Lambda.f
  rw [if_pos ⟨(chkL_zero.1 hc).1, by omega, by omega⟩]
  simp only [Int.toNat_natCast, e1, Nat.gcd_mul_left_left, Option.bind_some]
  rw [Nat.mul_div_cancel _ (by omega), Nat.div_self (by omega)]; rfl

theorem wrap_id {x : Int} (h1 : -9223372036854775808 ≤ x) (h2 : x ≤ 9223372036854775807) : wrap64 x = x := by unfold wrap64; omega
theorem ones_f {x : Nat} (hx : x < 16384) : bits_OnesCount64.f (x : Int) = some ((cnt x 64 : Nat) : Int) := by
  unfold bits_OnesCount64.f
  rw [oc1a x (by omega), oc1b _ (Nat.mod_lt _ (by decide)), oc2 _ (Nat.mod_lt _ (by decide)), oc3a, oc3b, oc3c, i64_and127 _ (Nat.mod_lt _ (by decide)), ← ocN_eq hx]
  rfl
theorem Mk.lt128 {V : Nat} {bs : List Nat} (h : Mk V bs) : ∀ b ∈ bs, b < 128 := fun b hb =>
  Nat.lt_of_lt_of_le (h.bl b hb) (Nat.le_trans (Nat.pow_le_pow_right (by decide) h.v7) (by decide))
end Go.Proofs.YtoiahjncpngkeaaDoor.Pd
