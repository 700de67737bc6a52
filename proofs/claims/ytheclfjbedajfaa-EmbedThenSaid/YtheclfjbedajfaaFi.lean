/- embed.find, walked: a map from sets to where they begin and how often they are there. -/
import Derived.Test.YtheclfjbedajfaaIc
import Derived.Maps.Views
import Derived.Maps.OwnSet
namespace Go.Proofs.Ytheclfjbedajfaa
set_option linter.unusedSimpArgs false
set_option linter.unusedVariables false
open Go.RowKit Go.Lib Go.Shelf Go.Proofs.YtheclfjbedajfaaW.PrintWords
attribute [local go_sem] Oper.semAt_some

/-- A pair of ints in a map. -/
def pairR : Value → Option (DataW Unit × List MemPlace)
  | .agg cs => match cs.toList with
    | [.int .i64 a, .int .i64 b] => some (.agg [.lit (.int .i64 a), .lit (.int .i64 b)], [])
    | _ => none
  | _ => none
def pairD (a b : Int) : DataW Unit := .agg [.lit (.int .i64 a), .lit (.int .i64 b)]
theorem pairR_mk (a b : Int) : pairR (.agg #[.int .i64 a, .int .i64 b]) = some (pairD a b, []) := rfl
theorem pairR_inv {v : Value} {a b : Int} {ps : List MemPlace} (h : pairR v = some (pairD a b, ps)) : v = .agg #[.int .i64 a, .int .i64 b] := by
  cases v with
  | agg cs =>
    rcases cs with ⟨l⟩
    unfold pairR at h
    simp only at h
    split at h
    · rename_i e
      have h1 := congrArg Prod.fst (Option.some.inj h)
      simp only [pairD, DataW.agg.injEq, List.cons.injEq, DataW.lit.injEq, Lit.int.injEq, true_and, and_true] at h1
      obtain ⟨rfl, rfl⟩ := h1
      congr
    · cases h
  | _ => cases h
theorem keyedU : Maps.Keyed Try.prog 60 := Maps.int_keyed Try.underlying60
theorem zeroP (w : World) : (zeroValue 92).run Try.prog w = .ok (.agg #[.int .i64 0, .int .i64 0]) w := by kernel_rfl
/-- What the map of places holds when the first k blocks are in. -/
def PlK (W : World) (b k : Nat) (bs : List Nat) : Prop := ∃ D, W.ownsMap (H := Unit) Try.prog 60 pairR b k D ∧ ∀ (s : Nat) (z : DataW Unit), D.atKey (.int .u64 s) z = if s ∈ bs.take k then pairD (bs.idxOf s) ((bs.take k).count s) else z
abbrev Pl (W : World) (b : Nat) (bs : List Nat) : Prop := PlK W b bs.length bs
theorem keyU {s : Nat} (hs : s < 2 ^ 64) : keyOf Try.prog 60 (.int .u64 s) = some (.int .u64 s) :=
  Maps.keyOf_int_mk Try.underlying60 (by simp [Lit.wf, IntKind.min, IntKind.max, IntKind.signed, IntKind.bits]; omega)
theorem PlK.kept {W W' : World} {b k : Nat} {bs : List Nat} {row : Option Nat} (h : PlK W b k bs) (hg : W.grownBy W' row) (hne : some b ≠ row) : PlK W' b k bs := by
  obtain ⟨D, h1, h2⟩ := h
  exact ⟨D, h1.kept hg hne, h2⟩
theorem idx_new {bs : List Nat} {k x : Nat} (h : bs[k]? = some x) (hn : x ∉ bs.take k) : bs.idxOf x = k := by
  induction bs generalizing k with
  | nil => cases h
  | cons a r ih =>
    cases k with
    | zero => simp at h; simp [h]
    | succ k =>
      simp at h hn
      have hax : (a == x) = false := by simpa using fun e => hn.1 e.symm
      simp [List.idxOf_cons, hax, ih h hn.2]
theorem pl_next {bs : List Nat} {k x J C : Nat} {D : DataW Unit} (hD : ∀ (s : Nat) (z : DataW Unit), D.atKey (.int .u64 s) z = if s ∈ bs.take k then pairD (bs.idxOf s) ((bs.take k).count s) else z) (hM : Maps.IsMap D)
    (ht : bs.take (k + 1) = bs.take k ++ [x]) (hJ : bs.idxOf x = J) (hC : (bs.take k).count x = C) :
    ∀ (s : Nat) (z : DataW Unit), (D.put (.int .u64 x) (pairD J (C + 1))).atKey (.int .u64 s) z = if s ∈ bs.take (k + 1) then pairD (bs.idxOf s) ((bs.take (k + 1)).count s) else z := by
  intro s z
  rw [ht]
  by_cases hs : s = x
  · subst hs
    rw [Maps.atKey_put_same hM (show WideAt.IsKeyLit (.int .u64 (s : Int)) from trivial), if_pos (by simp), hJ, List.count_append, hC]
    simp
  · rw [Maps.atKey_put_other (fun e => hs (by injection e with _ e; exact Int.ofNat.inj e)), hD s z]
    have h1 : (s ∈ bs.take k ++ [x]) ↔ s ∈ bs.take k := by simp [hs]
    simp only [h1, List.count_append, List.count_singleton]
    have h2 : (x == s) = false := by simpa using fun e => hs e.symm
    simp [h2]
set_option maxHeartbeats 2000000 in
set_option maxRecDepth 100000 in
theorem find_any (V : Value) (A : Option Addr) (c : Nat) (bs : List Nat) (w : World) (hV : V.oneCell' = true) (hB : BlC w A bs.length bs) (hn : bs.length ≤ 2 ^ 20) :
    Calls Try.prog 47 #[.agg #[V, .slice A bs.length c]] w fun e w' => ∃ b, e = .returned (.map (some b)) ∧ w.heap.size ≤ b ∧ b < w'.heap.size ∧ Pl w' b bs ∧ Below w.heap.size w w' := by
  have hmm := @run_makeMap Try.prog
  have hui := Try.underlying36
  go_enter Try.func47, Try.ntmps47
  go_upto_region 2 with (fail)
  obtain ⟨w1, hw1⟩ : ∃ w1, ((w.alloc (.cells #[V, .slice A bs.length c] 36)).alloc (.map #[] 0)) = w1 := ⟨_, rfl⟩
  have hc1 : w1.cell? ⟨w.heap.size, 1, none⟩ = some (.slice A bs.length c) := by
    rw [← hw1]
    exact (((Blk.new w 36 #[V, .slice A bs.length c]).alloc (.map #[] 0)).cell 1).trans rfl
  have hb1 : Below w.heap.size w w1 := by rw [← hw1]; exact below_alloc (below_alloc (Below.refl _ _) _) _
  have hmo : PlK w1 (w.heap.size + 1) 0 bs := by
    refine ⟨.map [], ?_, fun s z => by simp; rfl⟩
    rw [← hw1]
    have := World.ownsMap_made (H := Unit) (w.alloc (.cells #[V, .slice A bs.length c] 36)) Try.prog 60 pairR
    simpa using this
  have hz1 : w.heap.size + 2 ≤ w1.heap.size := by rw [← hw1]; simp
  rw [hw1]
  clear hw1 hmm
  go_wp2
  clear hc1
  have HM := hid hmo
  clear hmo
  go_loopw [12] (fun i wr => ∃ k : Nat, k ≤ bs.length ∧ i = .int .i64 k ∧ Hid (PlK wr (w.heap.size + 1) k bs) ∧ Below w.heap.size w wr ∧ w.heap.size + 2 ≤ wr.heap.size) (fun i _ => bs.length - (intOf i).toNat)
  case atStart => exact ⟨0, by omega, rfl, HM, hb1, hz1⟩
  case round =>
    clear HM hb1 hz1
    obtain ⟨k, hk, rfl, HM, hb, hz⟩ := hrel
    by_cases hlt : k < bs.length
    · obtain ⟨ad, x, rfl, hcx, HX⟩ := NlC.at_ (hB.below hb) hlt
      obtain ⟨hx64, HX⟩ := HX
      obtain ⟨D, hmo, hD⟩ := HM.out
      obtain ⟨v, ps, hlk, hv⟩ := hmo.look_ok (t := 82) keyedU Try.underlying82 (zeroP wr) (pairR_mk 0 0) (keyU hx64)
      by_cases hin : x ∈ bs.take k
      · have hhas : Maps.has D (.int .u64 x) = true := Maps.has_true_of_atKey (y := pairD (bs.idxOf x) ((bs.take k).count x)) fun z => by rw [hD x z, if_pos hin]
        rw [hD x _, if_pos hin] at hv
        obtain rfl := pairR_inv hv
        rw [hhas] at hlk
        obtain ⟨J, hJ⟩ : ∃ J, bs.idxOf x = J := ⟨_, rfl⟩
        obtain ⟨C, hC⟩ : ∃ C, (bs.take k).count x = C := ⟨_, rfl⟩
        have hCl : C ≤ k := by
          rw [← hC]
          have := List.count_le_length (a := x) (l := bs.take k)
          rw [List.length_take] at this
          omega
        rw [hJ, hC] at hlk
        have HN := hid (pl_next (k := k) (x := x) (J := J) (C := C) hD hmo.isMap HX.out.1 hJ hC)
        have hkey := keyU hx64
        have HO := hid hmo
        clear hv hhas hD hin hmo hJ hC
        go_wp2_with (first
          | (at_mapUpdate; refine wpList_mapUpdate_own _ rfl _ _ _ 82 rfl 60 92 keyedU Try.underlying82 pairR (w.heap.size + 1) k D rfl (HO.out.alloc _) (by unfold maxLen; omega) _ _ _ rfl rfl hkey _ [] (pairR_mk _ _) ?_; intro w2 hown2 hgrow2)
          | go_in)
        go_roundw
        case rel =>
          refine ⟨k + 1, by omega, by go_num, (show PlK _ _ _ _ from ⟨_, hown2, ?_⟩), (below_alloc hb _).grown hgrow2 (by simp; omega) (fun r hr => by cases hr; omega), Nat.le_trans hz (Nat.le_trans (by simp) hgrow2.size)⟩
          exact HN.out
        case measure => simp [intOf]; omega
      · have hhas : Maps.has D (.int .u64 x) = false := Maps.has_false_of_atKey fun z => by rw [hD x z, if_neg hin]
        rw [hD x _, if_neg hin] at hv
        obtain rfl := pairR_inv hv
        rw [hhas] at hlk
        have hJ : bs.idxOf x = k := idx_new HX.out.2.1 hin
        have HN := hid (pl_next (k := k) (x := x) (J := k) (C := 0) hD hmo.isMap HX.out.1 hJ (List.count_eq_zero.2 hin))
        have hkey := keyU hx64
        have HO := hid hmo
        clear hv hhas hD hin hmo hJ 
        go_wp2_with (first
          | (at_mapUpdate; refine wpList_mapUpdate_own _ rfl _ _ _ 82 rfl 60 92 keyedU Try.underlying82 pairR (w.heap.size + 1) k D rfl (HO.out.alloc _) (by unfold maxLen; omega) _ _ _ rfl rfl hkey _ [] (pairR_mk _ _) ?_; intro w2 hown2 hgrow2)
          | go_in)
        go_roundw
        case rel =>
          refine ⟨k + 1, by omega, by go_num, (show PlK _ _ _ _ from ⟨_, hown2, ?_⟩), (below_alloc hb _).grown hgrow2 (by simp; omega) (fun r hr => by cases hr; omega), Nat.le_trans hz (Nat.le_trans (by simp) hgrow2.size)⟩
          exact HN.out
        case measure => simp [intOf]; omega
    · obtain rfl : k = bs.length := by omega
      go_wp2
      go_ret
      exact ⟨w.heap.size + 1, rfl, by omega, by omega, HM.out, hb⟩
end Go.Proofs.Ytheclfjbedajfaa
