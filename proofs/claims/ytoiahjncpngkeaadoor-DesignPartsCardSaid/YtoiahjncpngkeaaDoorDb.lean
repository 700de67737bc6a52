/- Package design, walked. -/
/- Package design, walked: right parameters, numbers of subsets, greatest common divisors, Lambda. -/
import Derived.Test.YtoiahjncpngkeaaDoorR6
import Derived.Deep.DeepCutAuto
namespace Go.Proofs.YtoiahjncpngkeaaDoor
set_option linter.unusedSimpArgs false
set_option linter.unusedVariables false
open Go.RowKit Go.Lib Go.Proofs.YtoiahjncpngkeaaDoorW.PrintWords

/-- In how many blocks a set is. -/
def thr (bs : List Nat) (s : Nat) : Nat := (bs.filter fun b => b &&& s == s).length
theorem thr_snoc (l : List Nat) (b s : Nat) : thr (l ++ [b]) s = thr l s + if b &&& s == s then 1 else 0 := by
  unfold thr; rw [List.filter_append]; by_cases h : (b &&& s == s) = true <;> simp [h]
theorem thr_le (l : List Nat) (s : Nat) : thr l s ≤ l.length := List.length_filter_le _ _

set_option maxHeartbeats 400000 in
set_option maxRecDepth 100000 in
theorem through_any (v : Int) (A : Option Addr) (n c : Nat) (bs : List Nat) (s : Nat) (hs : s < 2 ^ 64) (w : World) (hB : BlC w A n bs) (hn : n < 2 ^ 62) :
    Calls Tryd.prog 36 #[.agg #[.int .i64 v, .slice A n c], .int .u64 s] w fun e w' => e = .returned (.int .i64 (thr bs s)) ∧ Below w.heap.size w w' := by
  have hu31 := Tryd.underlying31
  obtain ⟨hn1, hB'⟩ := id hB
  subst hn1
  clear hB'
  go_enter Tryd.func36, Tryd.ntmps36
  go_wp2
  go_loopw [5, 7, 11] (fun m _ i wr => Below w.heap.size w wr ∧ ∃ k : Nat, k ≤ bs.length ∧ i = .int .i64 k ∧ m = .int .i64 (thr (bs.take k) s)) (fun _ _ i _ => bs.length - (intOf i).toNat)
  case atStart => exact ⟨(Below.refl _ _).alloc (Nat.le_refl _) _, 0, by omega, rfl, rfl⟩
  case round =>
    obtain ⟨hb0, k, hk, rfl, rfl⟩ := hrel
    have hl := thr_le (bs.take k) s
    have hl2 : (bs.take k).length ≤ k := List.length_take_le _ _
    by_cases hlt : k < bs.length
    · obtain ⟨ad, b, rfl, hc, hb, HT⟩ := (hB.below hb0).at_ hlt
      cases hx : b &&& s == s
      all_goals
        have HX := hid hx
        have hA := (uand_eq (c := s) hb hs).trans hx
        clear hx
        go_wp2
        go_roundw
        case rel => exact ⟨hb0, k + 1, by omega, by go_num, by rw [HT.1, thr_snoc, HX]; first | rfl | simp⟩
        case measure => simp [intOf]; omega
    · have : k = bs.length := by omega
      subst this
      go_wp2
      go_ret
      exact ⟨ret_i64 (by simp), hb0⟩
end Go.Proofs.YtoiahjncpngkeaaDoor


namespace Go.Proofs.YtoiahjncpngkeaaDoor
set_option linter.unusedSimpArgs false
set_option linter.unusedVariables false
open Go.RowKit Go.Lib Go.Proofs.YtoiahjncpngkeaaDoorW.PrintWords

/-- Parameters T, V, K, L are right. -/
def rightB (T V K L : Int) : Bool := decide (1 ≤ V) && (decide (V ≤ 16) && (decide (0 ≤ T) && (decide (T ≤ 5 ∧ T ≤ K) && (decide (K ≤ V) && (decide (1 ≤ L) && decide (L ≤ 64))))))
theorem rightB_iff {T V K L : Int} : rightB T V K L = true ↔ 1 ≤ V ∧ V ≤ 16 ∧ 0 ≤ T ∧ (T ≤ 5 ∧ T ≤ K) ∧ K ≤ V ∧ 1 ≤ L ∧ L ≤ 64 := by simp [rightB]
set_option maxHeartbeats 400000 in
set_option maxRecDepth 100000 in
theorem right_any (T V K L : Int) (w : World) :
    Calls Tryd.prog 33 #[.agg #[.int .i64 T, .int .i64 V, .int .i64 K, .int .i64 L]] w fun e w' => e = .returned (.bool (rightB T V K L)) ∧ Below w.heap.size w w' := by
  have hu := Tryd.underlying26
  have hf := hid (rightB_iff (T := T) (V := V) (K := K) (L := L))
  have hft : Hid (¬ (1 ≤ V ∧ V ≤ 16 ∧ 0 ≤ T ∧ (T ≤ 5 ∧ T ≤ K) ∧ K ≤ V ∧ 1 ≤ L ∧ L ≤ 64) → rightB T V K L = false) := fun h => by
    cases hr : rightB T V K L
    · rfl
    · exact absurd (hf.1 hr) h
  go_enter Tryd.func33, Tryd.ntmps33
  go_wp2
  all_goals
    go_ret
    refine ⟨ret_bool ?_, below_alloc (Below.refl _ _) _⟩
    rw [Bool.eq_iff_iff, rightB_iff]
    first | (simp; done) | (simp; omega)

/-- The number of k of n, as the loop reckons it. -/
def chT (n : Nat) : Nat → Nat
  | 0 => 1
  | i + 1 => chT n i * (n - i) / (i + 1)
theorem chT_le : ∀ n ≤ 16, ∀ i ≤ n, chT n i ≤ 12870 := by decide
set_option maxHeartbeats 400000 in
theorem choose_any (n k : Nat) (hn : n ≤ 16) (hk : k ≤ n) (w : World) :
    Calls Tryd.prog 60 #[.int .i64 n, .int .i64 k] w fun e w' => e = .returned (.int .i64 (chT n k)) ∧ w' = w := by
  go_enter Tryd.func60, Tryd.ntmps60
  go_wp2
  go_loop [5, 6, 8] (fun o _ i => ∃ j : Nat, j ≤ k ∧ i = .int .i64 j ∧ o = .int .i64 (chT n j)) (fun _ _ i => k - (intOf i).toNat)
  case atStart => exact ⟨0, by omega, rfl, rfl⟩
  case round =>
    obtain ⟨j, hj, rfl, rfl⟩ := hrel
    have hl := chT_le n hn j (by omega)
    by_cases hlt : j < k
    · have hm : chT n j * (n - j) ≤ 12870 * 16 := Nat.mul_le_mul hl (by omega)
      have HE := hid (show ((chT n j : Nat) : Int) * ((n : Int) - (j : Int)) = ((chT n j * (n - j) : Nat) : Int) from by rw [Int.natCast_mul, Int.natCast_sub (by omega)])
      have hm0 : 0 ≤ ((chT n j : Nat) : Int) * ((n : Int) - (j : Int)) := by rw [HE.out]; omega
      have hm1 : ((chT n j : Nat) : Int) * ((n : Int) - (j : Int)) ≤ 205920 := by rw [HE.out]; omega
      go_wp2
      go_round
      case rel => exact ⟨j + 1, by omega, by go_num, by rw [HE.out]; simp [chT]⟩
      case measure => simp [intOf]; omega
    · have : j = k := by omega
      subst this
      go_wp2
      go_ret
      exact ⟨rfl, rfl⟩
set_option maxHeartbeats 400000 in
theorem divisor_any (a b : Nat) (ha : a < 2 ^ 40) (hb : b < 2 ^ 40) (w : World) :
    Calls Tryd.prog 61 #[.int .i64 a, .int .i64 b] w fun e w' => e = .returned (.int .i64 (Nat.gcd a b)) ∧ Below w.heap.size w w' := by
  go_enter Tryd.func61, Tryd.ntmps61
  go_wp2
  go_loopw [0, 1] (fun x y wr => Below w.heap.size w wr ∧ ∃ c d : Nat, x = .int .i64 c ∧ y = .int .i64 d ∧ c < 2 ^ 40 ∧ d < 2 ^ 40 ∧ Hid (Nat.gcd c d = Nat.gcd a b)) (fun _ y _ => (intOf y).toNat)
  case atStart => exact ⟨Below.refl _ _, a, b, rfl, rfl, ha, hb, rfl⟩
  case round =>
    obtain ⟨hb0, c, d, rfl, rfl, hc, hd, HG⟩ := hrel
    by_cases hz : d = 0
    · subst hz
      go_wp2
      go_ret
      exact ⟨ret_i64 (by rw [← HG.out]; simp), hb0⟩
    · have hne : ((d : Int) != 0) = true := by simp; omega
      have hpos : 0 < (d : Int) := by omega
      have hz' : ¬ ((d : Int) = 0) := by omega
      have hmod := Nat.mod_lt c (show 0 < d by omega)
      clear hz
      go_wp2
      go_region
      all_goals
        go_wp2
        go_roundw
        case rel => exact ⟨below_drew hb0, d, c % d, rfl, by simp, hd, by omega, (show Nat.gcd d (c % d) = Nat.gcd a b from by rw [← HG.out, Nat.gcd_comm d, ← Nat.gcd_rec, Nat.gcd_comm])⟩
        case measure => simp [intOf]; omega

/-- The number of blocks through i points. -/
def lamN (V T K L i : Nat) : Nat := L * chT (V - i) (T - i)
def lamD (K T i : Nat) : Nat := chT (K - i) (T - i)
set_option maxHeartbeats 1000000 in
set_option maxRecDepth 100000 in
theorem lambda_no (T V K L i : Int) (h : rightB T V K L = false ∨ i < 0 ∨ T < i) (w : World) :
    Calls Tryd.prog 41 #[.agg #[.int .i64 T, .int .i64 V, .int .i64 K, .int .i64 L], .int .i64 i] w fun e w' => e = .returned (.tuple #[.agg #[.int .i64 0, .int .i64 0], .int .i64 1]) ∧ Below w.heap.size w w' := by
  have hu := Tryd.underlying26
  have hu2 := Tryd.underlying41
  have H : rightB T V K L = false ∨ (rightB T V K L = true ∧ i < 0) ∨ (rightB T V K L = true ∧ ¬ i < 0 ∧ T < i) := by
    cases hr : rightB T V K L
    · exact .inl rfl
    · rcases h with h | h | h
      · rw [h] at hr; cases hr
      · exact .inr (.inl ⟨rfl, h⟩)
      · by_cases h0 : i < 0
        · exact .inr (.inl ⟨rfl, h0⟩)
        · exact .inr (.inr ⟨rfl, h0, h⟩)
  clear h
  rcases H with hr | ⟨hr, h0⟩ | ⟨hr, h0, h1⟩
  all_goals
    have HR := hid hr
    clear hr
    go_enter Tryd.func41, Tryd.ntmps41
    go_wp2_with (go_at_call 33; refine (right_any T V K L _).mono ?_; rintro e w' ⟨rfl, hb1⟩; rw [HR.out]; obtain ⟨hc1, hf1⟩ := bcell hb1; have hz1 : w.heap.size + 1 < w'.heap.size := by have := hb1.size; simp at this; omega)
    refine bodyPost_ret (v := .tuple #[.agg #[.int .i64 0, .int .i64 0], .int .i64 1]) (by simp [results, Tryd.results41, go_sem, hc1, hz1]) rfl ⟨rfl, ?_⟩
    exact ((below_then (below_alloc (below_alloc (Below.refl _ _) _) _) (by simp; omega) hb1).setCell (by simp) _).setCell (by simp) _

theorem chT_pos : ∀ n ≤ 16, ∀ i ≤ n, 0 < chT n i := by decide
set_option maxHeartbeats 1000000 in
set_option maxRecDepth 100000 in
theorem lambda_yes (T V K L i : Nat) (hr : rightB T V K L = true) (hi : i ≤ T) (w : World) :
    Calls Tryd.prog 41 #[.agg #[.int .i64 T, .int .i64 V, .int .i64 K, .int .i64 L], .int .i64 i] w fun e w' =>
      e = .returned (.tuple #[.agg #[.int .i64 (lamN V T K L i / Nat.gcd (lamN V T K L i) (lamD K T i) : Nat), .int .i64 (lamD K T i / Nat.gcd (lamN V T K L i) (lamD K T i) : Nat)], .int .i64 0]) ∧ Below w.heap.size w w' := by
  have hu := Tryd.underlying26
  have hu2 := Tryd.underlying41
  have hb := rightB_iff.1 hr
  have HR := hid hr
  clear hr
  obtain ⟨b1, b2, b3, ⟨b4, b5⟩, b6, b7, b8⟩ := hb
  have hV : V ≤ 16 := by omega
  have hTK : T ≤ K := by omega
  have hKV : K ≤ V := by omega
  have hL : L ≤ 64 := by omega
  clear b1 b2 b3 b4 b5 b6 b7 b8
  have c1 := chT_le (V - i) (by omega) (T - i) (by omega)
  have c2 := chT_le (K - i) (by omega) (T - i) (by omega)
  have p2 := chT_pos (K - i) (by omega) (T - i) (by omega)
  have hN : lamN V T K L i ≤ 64 * 12870 := Nat.mul_le_mul hL c1
  have hg : 0 < Nat.gcd (lamN V T K L i) (lamD K T i) := Nat.gcd_pos_of_pos_right _ p2
  have hgd : Nat.gcd (lamN V T K L i) (lamD K T i) ≤ lamD K T i := Nat.gcd_le_right _ p2
  have hD : lamD K T i ≤ 12870 := c2
  have CH1 := fun W => hid (choose_any (V - i) (T - i) (by omega) (by omega) W)
  have CH2 := fun W => hid (choose_any (K - i) (T - i) (by omega) (by omega) W)
  have E1 := hid (show ((V - i : Nat) : Int) = (V : Int) - (i : Int) from by omega)
  have E2 := hid (show ((T - i : Nat) : Int) = (T : Int) - (i : Int) from by omega)
  have E3 := hid (show ((K - i : Nat) : Int) = (K : Int) - (i : Int) from by omega)
  have d1 : (i : Int) ≤ (T : Int) := by omega
  have d2 : (T : Int) ≤ 16 := by omega
  have d3 : (K : Int) ≤ 16 := by omega
  have EN := hid (show (L : Int) * ((chT (V - i) (T - i) : Nat) : Int) = ((lamN V T K L i : Nat) : Int) from by unfold lamN; rw [Int.natCast_mul])
  have n0 : 0 ≤ (L : Int) * ((chT (V - i) (T - i) : Nat) : Int) := by rw [EN.out]; omega
  have n1 : (L : Int) * ((chT (V - i) (T - i) : Nat) : Int) ≤ 823680 := by rw [EN.out]; omega
  go_enter Tryd.func41, Tryd.ntmps41
  go_wp2_with (go_at_call 33; refine (right_any T V K L _).mono ?_; rintro e w' ⟨rfl, hb1⟩; rw [HR.out]; obtain ⟨hc1, hf1⟩ := bcell hb1; have hz1 : w.heap.size + 1 < w'.heap.size := by have := hb1.size; simp at this; omega)
  go_quiet ((first
    | (go_at_call_of 60 (Value.int .i64 ((V : Int) - (i : Int))); rw [← E1.out, ← E2.out]; exact Calls.quiet_of_same (CH1 _))
    | (go_at_call_of 60 (Value.int .i64 ((K : Int) - (i : Int))); rw [← E3.out, ← E2.out]; exact Calls.quiet_of_same (CH2 _))))
  have g0 : 0 < ((Nat.gcd (lamN V T K L i) (lamD K T i) : Nat) : Int) := by omega
  have g1 : ((Nat.gcd (lamN V T K L i) (lamD K T i) : Nat) : Int) ≤ 12870 := by omega
  have g2 : (((Nat.gcd (lamN V T K L i) (lamD K T i) : Nat) : Int) == 0) = false := by simp; omega
  go_wp2_with (go_at_call 61; rw [EN.out]; refine (divisor_any (lamN V T K L i) (lamD K T i) (by omega) (by omega) _).mono ?_; rintro e w2 ⟨rfl, hb2⟩; obtain ⟨hc2, hf2⟩ := bcell hb2; have hz2 : w.heap.size + 1 < w2.heap.size := by have := hb2.size; simp at this; omega)
  have hb3 : Below w.heap.size w w2 := below_then (pw_below_drewN (below_then (below_alloc (below_alloc (Below.refl _ _) _) _) (by simp; omega) hb1) _) (by have := hb1.size; simp at this ⊢; omega) hb2
  have hd : ((chT (K - i) (T - i) : Nat) : Int) = ((lamD K T i : Nat) : Int) := rfl
  have HD := hid hd
  clear hd
  have q0 : w2.cell? ⟨w.heap.size + 1, 0, none⟩ = some (.int .i64 0) := by
    rw [hc2 _ _ (by have := hb1.size; simp at this ⊢; omega)]; simp [hc1, go_sem]
  have q1 : w2.cell? ⟨w.heap.size + 1, 1, none⟩ = some (.int .i64 0) := by
    rw [hc2 _ _ (by have := hb1.size; simp at this ⊢; omega)]; simp [hc1, go_sem]
  have r0 : w2.frozen? ⟨w.heap.size + 1, 0, none⟩ = false := by
    rw [hf2 _ _ (by have := hb1.size; simp at this ⊢; omega)]; simp [hf1, go_sem]
  have r1 : w2.frozen? ⟨w.heap.size + 1, 1, none⟩ = false := by
    rw [hf2 _ _ (by have := hb1.size; simp at this ⊢; omega)]; simp [hf1, go_sem]
  have HW1 := hid (show wrap64 (((lamN V T K L i : Nat) : Int) / ((Nat.gcd (lamN V T K L i) (lamD K T i) : Nat) : Int)) = ((lamN V T K L i / Nat.gcd (lamN V T K L i) (lamD K T i) : Nat) : Int) from by
    rw [← Int.natCast_ediv, wrap64_nat]; exact Nat.lt_of_le_of_lt (Nat.div_le_self _ _) (by omega))
  have HW2 := hid (show wrap64 (((chT (K - i) (T - i) : Nat) : Int) / ((Nat.gcd (lamN V T K L i) (lamD K T i) : Nat) : Int)) = ((lamD K T i / Nat.gcd (lamN V T K L i) (lamD K T i) : Nat) : Int) from by
    rw [HD.out, ← Int.natCast_ediv, wrap64_nat]; exact Nat.lt_of_le_of_lt (Nat.div_le_self _ _) (by omega))
  clear hc1 hf1 hc2 hf2
  go_region
  all_goals
    go_wp2
    rw [HW1.out, HW2.out]
    refine bodyPost_ret (v := .tuple #[.agg #[.int .i64 (lamN V T K L i / Nat.gcd (lamN V T K L i) (lamD K T i) : Nat), .int .i64 (lamD K T i / Nat.gcd (lamN V T K L i) (lamD K T i) : Nat)], .int .i64 0]) (by simp [results, Tryd.results41, go_sem, q0, q1, r0, r1]) rfl ⟨rfl, ?_⟩
    exact ((below_drew hb3).setCell (by simp) _).setCell (by simp) _
end Go.Proofs.YtoiahjncpngkeaaDoor
