/- The points of a set (package incidence), walked: an iterator; the numbers of blocks through each point. -/
import Derived.Test.YtoiahjncpngkeaaDoorRg
namespace Go.Proofs.YtoiahjncpngkeaaDoor
set_option linter.unusedSimpArgs false
set_option linter.unusedVariables false
open Go.RowKit Go.Lib Go.Shelf Go.Proofs.YtoiahjncpngkeaaDoorW.PrintWords
attribute [local go_sem] Oper.semAt_some

/-- The points of a set, increasing. -/
def ptsF : Nat → Nat → List Nat
  | 0, _ => []
  | k + 1, s => if s = 0 then [] else ctz 64 s :: ptsF k (s &&& (s - 1))
def ptsL (s : Nat) : List Nat := ptsF s s
theorem and_pred_lt {s : Nat} (h : 0 < s) : s &&& (s - 1) < s := Nat.lt_of_le_of_lt Nat.and_le_right (by omega)
theorem ptsF_fuel : ∀ (k s : Nat), s ≤ k → ptsF k s = ptsF s s := by
  intro k
  induction k using Nat.strongRecOn with
  | _ k ih =>
    intro s hs
    rcases Nat.eq_zero_or_pos s with rfl | h0
    · cases k <;> simp [ptsF]
    · obtain ⟨k, rfl⟩ : ∃ m, k = m + 1 := ⟨k - 1, by omega⟩
      obtain ⟨n, hn⟩ : ∃ n, s = n + 1 := ⟨s - 1, by omega⟩
      have hlt := and_pred_lt h0
      have e1 : ptsF (k + 1) s = ctz 64 s :: ptsF k (s &&& (s - 1)) := by rw [ptsF, if_neg (by omega)]
      have e2 : ptsF s s = ctz 64 s :: ptsF n (s &&& (s - 1)) := by
        conv => lhs; arg 1; rw [hn]
        rw [ptsF, if_neg (by omega)]
      rw [e1, e2, ih k (by omega) _ (by omega)]
      by_cases hkn : n = k
      · subst hkn; rw [ih n (by omega) _ (by omega)]
      · rw [ih n (by omega) _ (by omega)]
theorem ptsL_zero : ptsL 0 = [] := rfl
theorem ptsL_cons {s : Nat} (h : 0 < s) : ptsL s = ctz 64 s :: ptsL (s &&& (s - 1)) := by
  obtain ⟨n, hn⟩ : ∃ n, s = n + 1 := ⟨s - 1, by omega⟩
  have hlt := and_pred_lt h
  unfold ptsL
  conv => lhs; arg 1; rw [hn]
  rw [ptsF, if_neg (by omega), ptsF_fuel n _ (by omega)]
theorem TabOk.put {W : World} {l : Nat} {o o' : Obj} (h : TabOk W) (hl : W.heap[l]? = some o) (ho : o.isCells = false) : TabOk (W.putObj l o') := fun i hi => cell_kept (h i hi) (grownBy_putObj' W l o') (fun r e => by cases e; exact ⟨o, hl, ho⟩)
/-- What a round keeps: the iterator's own cells, and the library's table. -/
def KT (B : Nat) (W W' : World) : Prop := KC B W W' ∧ (TabOk W → TabOk W')
theorem KT.trans {B : Nat} {X Y Z : World} (h : KT B X Y) (k : KT B Y Z) : KT B X Z := ⟨h.1.trans k.1, fun t => k.2 (h.2 t)⟩

set_option maxHeartbeats 2000000 in
set_option maxRecDepth 100000 in
theorem points_iter (s B : Nat) (hs : s < 2 ^ 64) (w : World) (hT : TabOk w) :
    Iter Tryd.prog 47 (fun y => #[.int .u64 s] ++ #[y] ++ #[]) (fun p : Nat => #[.int .i64 p]) (KT B) (ptsL s) w := by
  intro l J Jx W hW hJ hJx hY h0
  have hT0 := hT.below hW
  refine (callsIn_wide (n := 8)).1 ?_
  refine callsIn_of_wp Tryd.func47 rfl trivial ?_ rfl
  simp only [Tryd.ntmps47, List.size_toArray, List.length_cons, List.length_nil, Nat.reduceAdd, Nat.reduceSub, Array.replicate_succ, Array.replicate_zero, List.push_toArray, List.append_toArray, List.nil_append, List.cons_append, List.append_nil]
  gi_wp2
  gi_loopw [4] (fun r wr => ∃ (pre : List Nat) (q : Nat), r = .int .u64 q ∧ q ≤ s ∧ Hid (pre ++ ptsL q = ptsL s) ∧ J pre wr ∧ TabOk wr) (fun r _ => (intOf r).toNat)
  case atStart => exact ⟨[], s, rfl, Nat.le_refl _, rfl, h0, hT0⟩
  case round =>
    obtain ⟨pre, q, rfl, hq, HP, hj, ht⟩ := hrel
    by_cases h0 : q = 0
    · subst h0
      gi_wp2
      go_end0
      exact ⟨⟨_, rfl⟩, .inl (by have := HP.out; rw [ptsL_zero, List.append_nil] at this; rw [← this]; exact hj)⟩
    · have hq0 : 0 < q := by omega
      have hq64 : q < 2 ^ 64 := by omega
      have hne : ((q : Int) != 0) = true := by simp; omega
      have hpre : pre ++ [ctz 64 q] <+: ptsL s := ⟨ptsL (q &&& (q - 1)), by rw [← HP.out, ptsL_cons hq0]; simp⟩
      obtain ⟨fn, tmps, assign, body, hy, hR⟩ := hY 7 pre (ctz 64 q) wr hpre hj
      have HQ := hid (show bits BinOp.and IntKind.u64 (q : Int) ((q : Int) - 1) = ((q &&& (q - 1) : Nat) : Int) from by
        rw [show (q : Int) - 1 = ((q - 1 : Nat) : Int) from by omega, uand hq64 (by omega)])
      have hlt := and_pred_lt hq0
      have q1 : 1 ≤ (q : Int) := by omega
      clear hY hJ hJx h0
      gi_wp2_with (refine ⟨trivial, ?_⟩; gi_at_call 64; refine (callsIn_wide.2 (tz_any q hq64 hq0 _ ht)).mono ?_; rintro e w' ⟨rfl, rfl⟩)
      refine hR.mono ?_
      rintro e W' (⟨rfl, hJ', hk⟩ | ⟨rfl, hJx'⟩)
      · gi_wp2
        rw [HQ.out]
        go_roundw
        case rel => exact ⟨pre ++ [ctz 64 q], q &&& (q - 1), rfl, by omega, (show _ = _ from by rw [← HP.out, ptsL_cons hq0]; simp), hJ', hk.2 ht⟩
        case measure => simp [intOf]; omega
      · gi_wp2
        refine bodyPost_ret (results_none rfl _ _ _) rfl ?_
        exact ⟨⟨_, rfl⟩, .inr ⟨pre ++ [ctz 64 q], hpre, hJx'⟩⟩
end Go.Proofs.YtoiahjncpngkeaaDoor
