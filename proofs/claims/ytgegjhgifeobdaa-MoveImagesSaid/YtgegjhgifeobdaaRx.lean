/- embed.find, walked: a map from sets to where they begin and how often they are there. -/
/- embed.moved, walked: the set to which a list takes a set. -/
/- embed.along, walked. -/
/- embed.Kept, walked: slices.IndexFunc, slices.DeleteFunc at ints with its closure, and Kept itself. -/
/- A region that draws its order, walked by an invariant, where an edge that does not bind may point ahead. -/
import Derived.Test.YtgegjhgifeobdaaLu
import Derived.Maps.Views
import Derived.Maps.OwnSet
import Derived.Lib.SliceRun
import Derived.OrdersIn
import Derived.StillTail
namespace Go.Proofs.Ytgegjhgifeobdaa
set_option linter.unusedSimpArgs false
set_option linter.unusedVariables false
open Go.RowKit Go.Lib Go.Shelf Go.Proofs.YtgegjhgifeobdaaW.PrintWords
attribute [local go_sem] Oper.semAt_some

/-- A pair of ints in a map. -/
def pairR : Value → Option (DataW Unit × List MemPlace)
  | .agg cs => match cs.toList with
    | [.int .i64 a, .int .i64 b] => some (.agg [.lit (.int .i64 a), .lit (.int .i64 b)], [])
    | _ => none
  | _ => none
def pairD (a b : Int) : DataW Unit := .agg [.lit (.int .i64 a), .lit (.int .i64 b)]
theorem pairR_mk (a b : Int) : pairR (.agg #[.int .i64 a, .int .i64 b]) = some (pairD a b, []) := rfl
theorem pairR_inv {v : Value} {a b : Int} {ps : List MemPlace} (h : pairR v = some (pairD a b, ps)) : v = .agg #[.int .i64 a, .int .i64 b] := by
  cases v with
  | agg cs =>
    rcases cs with ⟨l⟩
    unfold pairR at h
    simp only at h
    split at h
    · rename_i e
      have h1 := congrArg Prod.fst (Option.some.inj h)
      simp only [pairD, DataW.agg.injEq, List.cons.injEq, DataW.lit.injEq, Lit.int.injEq, true_and, and_true] at h1
      obtain ⟨rfl, rfl⟩ := h1
      congr
    · cases h
  | _ => cases h
theorem keyedU : Maps.Keyed Try.prog 57 := Maps.int_keyed Try.underlying57
theorem zeroP (w : World) : (zeroValue 98).run Try.prog w = .ok (.agg #[.int .i64 0, .int .i64 0]) w := by kernel_rfl
/-- What the map of places holds when the first k blocks are in. -/
def PlK (W : World) (b k : Nat) (bs : List Nat) : Prop := ∃ D, W.ownsMap (H := Unit) Try.prog 57 pairR b k D ∧ ∀ (s : Nat) (z : DataW Unit), D.atKey (.int .u64 s) z = if s ∈ bs.take k then pairD (bs.idxOf s) ((bs.take k).count s) else z
abbrev Pl (W : World) (b : Nat) (bs : List Nat) : Prop := PlK W b bs.length bs
theorem keyU {s : Nat} (hs : s < 2 ^ 64) : keyOf Try.prog 57 (.int .u64 s) = some (.int .u64 s) :=
  Maps.keyOf_int_mk Try.underlying57 (by simp [Lit.wf, IntKind.min, IntKind.max, IntKind.signed, IntKind.bits]; omega)
theorem PlK.kept {W W' : World} {b k : Nat} {bs : List Nat} {row : Option Nat} (h : PlK W b k bs) (hg : W.grownBy W' row) (hne : some b ≠ row) : PlK W' b k bs := by
  obtain ⟨D, h1, h2⟩ := h
  exact ⟨D, h1.kept hg hne, h2⟩
theorem idx_new {bs : List Nat} {k x : Nat} (h : bs[k]? = some x) (hn : x ∉ bs.take k) : bs.idxOf x = k := by
  induction bs generalizing k with
  | nil => cases h
  | cons a r ih =>
    cases k with
    | zero => simp at h; simp [h]
    | succ k =>
      simp at h hn
      have hax : (a == x) = false := by simpa using fun e => hn.1 e.symm
      simp [List.idxOf_cons, hax, ih h hn.2]
theorem pl_next {bs : List Nat} {k x J C : Nat} {D : DataW Unit} (hD : ∀ (s : Nat) (z : DataW Unit), D.atKey (.int .u64 s) z = if s ∈ bs.take k then pairD (bs.idxOf s) ((bs.take k).count s) else z) (hM : Maps.IsMap D)
    (ht : bs.take (k + 1) = bs.take k ++ [x]) (hJ : bs.idxOf x = J) (hC : (bs.take k).count x = C) :
    ∀ (s : Nat) (z : DataW Unit), (D.put (.int .u64 x) (pairD J (C + 1))).atKey (.int .u64 s) z = if s ∈ bs.take (k + 1) then pairD (bs.idxOf s) ((bs.take (k + 1)).count s) else z := by
  intro s z
  rw [ht]
  by_cases hs : s = x
  · subst hs
    rw [Maps.atKey_put_same hM (show WideAt.IsKeyLit (.int .u64 (s : Int)) from trivial), if_pos (by simp), hJ, List.count_append, hC]
    simp
  · rw [Maps.atKey_put_other (fun e => hs (by injection e with _ e; exact Int.ofNat.inj e)), hD s z]
    have h1 : (s ∈ bs.take k ++ [x]) ↔ s ∈ bs.take k := by simp [hs]
    simp only [h1, List.count_append, List.count_singleton]
    have h2 : (x == s) = false := by simpa using fun e => hs e.symm
    simp [h2]
set_option maxHeartbeats 2000000 in
set_option maxRecDepth 100000 in
theorem find_any (V : Value) (A : Option Addr) (c : Nat) (bs : List Nat) (w : World) (hV : V.oneCell' = true) (hB : BlC w A bs.length bs) (hn : bs.length ≤ 2 ^ 20) :
    Calls Try.prog 30 #[.agg #[V, .slice A bs.length c]] w fun e w' => ∃ b, e = .returned (.map (some b)) ∧ w.heap.size ≤ b ∧ b < w'.heap.size ∧ Pl w' b bs ∧ Below w.heap.size w w' := by
  have hmm := @run_makeMap Try.prog
  have hui := Try.underlying29
  go_enter Try.func30, Try.ntmps30
  go_upto_region 2 with (fail)
  obtain ⟨w1, hw1⟩ : ∃ w1, ((w.alloc (.cells #[V, .slice A bs.length c] 29)).alloc (.map #[] 0)) = w1 := ⟨_, rfl⟩
  have hc1 : w1.cell? ⟨w.heap.size, 1, none⟩ = some (.slice A bs.length c) := by
    rw [← hw1]
    exact (((Blk.new w 29 #[V, .slice A bs.length c]).alloc (.map #[] 0)).cell 1).trans rfl
  have hb1 : Below w.heap.size w w1 := by rw [← hw1]; exact below_alloc (below_alloc (Below.refl _ _) _) _
  have hmo : PlK w1 (w.heap.size + 1) 0 bs := by
    refine ⟨.map [], ?_, fun s z => by simp; rfl⟩
    rw [← hw1]
    have := World.ownsMap_made (H := Unit) (w.alloc (.cells #[V, .slice A bs.length c] 29)) Try.prog 57 pairR
    simpa using this
  have hz1 : w.heap.size + 2 ≤ w1.heap.size := by rw [← hw1]; simp
  rw [hw1]
  clear hw1 hmm
  go_wp2
  clear hc1
  have HM := hid hmo
  clear hmo
  go_loopw [12] (fun i wr => ∃ k : Nat, k ≤ bs.length ∧ i = .int .i64 k ∧ Hid (PlK wr (w.heap.size + 1) k bs) ∧ Below w.heap.size w wr ∧ w.heap.size + 2 ≤ wr.heap.size) (fun i _ => bs.length - (intOf i).toNat)
  case atStart => exact ⟨0, by omega, rfl, HM, hb1, hz1⟩
  case round =>
    clear HM hb1 hz1
    obtain ⟨k, hk, rfl, HM, hb, hz⟩ := hrel
    by_cases hlt : k < bs.length
    · obtain ⟨ad, x, rfl, hcx, HX⟩ := NlC.at_ (hB.below hb) hlt
      obtain ⟨hx64, HX⟩ := HX
      obtain ⟨D, hmo, hD⟩ := HM.out
      obtain ⟨v, ps, hlk, hv⟩ := hmo.look_ok (t := 74) keyedU Try.underlying74 (zeroP wr) (pairR_mk 0 0) (keyU hx64)
      by_cases hin : x ∈ bs.take k
      · have hhas : Maps.has D (.int .u64 x) = true := Maps.has_true_of_atKey (y := pairD (bs.idxOf x) ((bs.take k).count x)) fun z => by rw [hD x z, if_pos hin]
        rw [hD x _, if_pos hin] at hv
        obtain rfl := pairR_inv hv
        rw [hhas] at hlk
        obtain ⟨J, hJ⟩ : ∃ J, bs.idxOf x = J := ⟨_, rfl⟩
        obtain ⟨C, hC⟩ : ∃ C, (bs.take k).count x = C := ⟨_, rfl⟩
        have hCl : C ≤ k := by
          rw [← hC]
          have := List.count_le_length (a := x) (l := bs.take k)
          rw [List.length_take] at this
          omega
        rw [hJ, hC] at hlk
        have HN := hid (pl_next (k := k) (x := x) (J := J) (C := C) hD hmo.isMap HX.out.1 hJ hC)
        have hkey := keyU hx64
        have HO := hid hmo
        clear hv hhas hD hin hmo hJ hC
        go_wp2_with (first
          | (at_mapUpdate; refine wpList_mapUpdate_own _ rfl _ _ _ 74 rfl 57 98 keyedU Try.underlying74 pairR (w.heap.size + 1) k D rfl (HO.out.alloc _) (by unfold maxLen; omega) _ _ _ rfl rfl hkey _ [] (pairR_mk _ _) ?_; intro w2 hown2 hgrow2)
          | go_in)
        go_roundw
        case rel =>
          refine ⟨k + 1, by omega, by go_num, (show PlK _ _ _ _ from ⟨_, hown2, ?_⟩), (below_alloc hb _).grown hgrow2 (by simp; omega) (fun r hr => by cases hr; omega), Nat.le_trans hz (Nat.le_trans (by simp) hgrow2.size)⟩
          exact HN.out
        case measure => simp [intOf]; omega
      · have hhas : Maps.has D (.int .u64 x) = false := Maps.has_false_of_atKey fun z => by rw [hD x z, if_neg hin]
        rw [hD x _, if_neg hin] at hv
        obtain rfl := pairR_inv hv
        rw [hhas] at hlk
        have hJ : bs.idxOf x = k := idx_new HX.out.2.1 hin
        have HN := hid (pl_next (k := k) (x := x) (J := k) (C := 0) hD hmo.isMap HX.out.1 hJ (List.count_eq_zero.2 hin))
        have hkey := keyU hx64
        have HO := hid hmo
        clear hv hhas hD hin hmo hJ 
        go_wp2_with (first
          | (at_mapUpdate; refine wpList_mapUpdate_own _ rfl _ _ _ 74 rfl 57 98 keyedU Try.underlying74 pairR (w.heap.size + 1) k D rfl (HO.out.alloc _) (by unfold maxLen; omega) _ _ _ rfl rfl hkey _ [] (pairR_mk _ _) ?_; intro w2 hown2 hgrow2)
          | go_in)
        go_roundw
        case rel =>
          refine ⟨k + 1, by omega, by go_num, (show PlK _ _ _ _ from ⟨_, hown2, ?_⟩), (below_alloc hb _).grown hgrow2 (by simp; omega) (fun r hr => by cases hr; omega), Nat.le_trans hz (Nat.le_trans (by simp) hgrow2.size)⟩
          exact HN.out
        case measure => simp [intOf]; omega
    · obtain rfl : k = bs.length := by omega
      go_wp2
      go_ret
      exact ⟨w.heap.size + 1, rfl, by omega, by omega, HM.out, hb⟩
end Go.Proofs.Ytgegjhgifeobdaa


namespace Go.Proofs.Ytgegjhgifeobdaa
set_option linter.unusedSimpArgs false
set_option linter.unusedVariables false
open Go.RowKit Go.Lib Go.Shelf Go.Proofs.YtgegjhgifeobdaaW.PrintWords
attribute [local go_sem] Oper.semAt_some

def mvK (s : Nat) (fs : List Nat) : Nat → Nat
  | 0 => 0
  | k + 1 => mvK s fs k ||| (if s.testBit k then 2 ^ fs.getD k 0 else 0)
def movedN (s : Nat) (fs : List Nat) : Nat := mvK s fs fs.length
theorem mvK_lt {s B : Nat} {fs : List Nat} (h : ∀ q ∈ fs, q < B) : ∀ k ≤ fs.length, mvK s fs k < 2 ^ B
  | 0, _ => Nat.two_pow_pos _
  | k + 1, hk => by
    refine Nat.or_lt_two_pow (mvK_lt h k (by omega)) ?_
    split
    · exact Nat.pow_lt_pow_right (by decide) (h _ (getD_mem hk))
    · exact Nat.two_pow_pos _
theorem movedN_lt {s B : Nat} {fs : List Nat} (h : ∀ q ∈ fs, q < B) : movedN s fs < 2 ^ B := mvK_lt h _ (Nat.le_refl _)
theorem mv_step {s k q M : Nat} (hs : s < 2 ^ 64) (hq : q < 60) (hM : M < 2 ^ 64) :
    bits BinOp.or IntKind.u64 (M : Int) (IntKind.u64.wrap (bits BinOp.and IntKind.u64 ((s : Int) / 2 ^ k) 1 * 2 ^ q)) = ((M ||| (if s.testBit k then 2 ^ q else 0) : Nat) : Int) := by
  have e1 : ((s : Int) / 2 ^ k) = ((s / 2 ^ k : Nat) : Int) := by simp
  have e2 : bits BinOp.and IntKind.u64 ((s : Int) / 2 ^ k) 1 = ((s / 2 ^ k % 2 : Nat) : Int) := by
    rw [e1]
    have := uand (a := s / 2 ^ k) (b := 1) (Nat.lt_of_le_of_lt (Nat.div_le_self _ _) hs) (by decide)
    rw [Nat.and_one_is_mod] at this
    exact this
  have hq2 : 2 ^ q < 2 ^ 64 := Nat.pow_lt_pow_right (by decide) (by omega)
  have e3 : IntKind.u64.wrap (((s / 2 ^ k % 2 : Nat) : Int) * 2 ^ q) = (((if s.testBit k then 2 ^ q else 0) : Nat) : Int) := by
    rw [Nat.testBit_eq_decide_div_mod_eq]
    rcases Nat.mod_two_eq_zero_or_one (s / 2 ^ k) with h | h
    · rw [h]; simp; exact wrapU_nat (p := 0) (by decide)
    · rw [h]; simp
      have := wrapU_nat hq2
      simpa using this
  rw [e2, e3]
  refine uor hM ?_
  split
  · exact hq2
  · decide
set_option maxHeartbeats 1000000 in
theorem moved_any (s : Nat) (A : Option Addr) (c : Nat) (fs : List Nat) (w : World) (hs : s < 2 ^ 64) (hF : IC w A fs.length (il fs)) (hl : fs.length ≤ 60) (hq : ∀ q ∈ fs, q < 60) :
    Calls Try.prog 51 #[.int .u64 s, .slice A fs.length c] w fun e w' => e = .returned (.int .u64 (movedN s fs)) ∧ w' = w := by
  go_enter Try.func51, Try.ntmps51
  go_wp2
  have HQ := hid hq
  clear hq
  go_loopw [5, 10] (fun o i wr => ∃ k : Nat, k ≤ fs.length ∧ o = .int .u64 (mvK s fs k) ∧ i = .int .i64 k ∧ wr = w) (fun _ i _ => fs.length - (intOf i).toNat)
  case atStart => exact ⟨0, by omega, rfl, rfl, by first | rfl | trivial⟩
  case round =>
    obtain ⟨k, hk, rfl, rfl, rfl⟩ := hrel
    by_cases hlt : k < fs.length
    · obtain ⟨ad, x, rfl, hcx, HX⟩ := IC.at_ hF (show k < fs.length from hlt)
      obtain ⟨q, hq, rfl⟩ : ∃ q, fs.getD k 0 = q ∧ x = (q : Int) := ⟨_, rfl, by rw [← HX.out.2]; exact rd_il hlt⟩
      have hq60 : q < 60 := hq ▸ HQ.out _ (getD_mem hlt)
      obtain ⟨M, hM⟩ : ∃ M, mvK s fs k = M := ⟨_, rfl⟩
      rw [hM]
      have hM64 : M < 2 ^ 64 := by rw [← hM]; exact Nat.lt_trans (mvK_lt HQ.out k hk) (by decide)
      have HST := hid (mv_step (k := k) hs hq60 hM64)
      have HMK : Hid (mvK s fs (k + 1) = M ||| (if s.testBit k then 2 ^ q else 0)) := (show _ = _ by rw [mvK, hM, hq])
      clear hM hq hM64
      go_wp2
      go_roundw
      case rel => exact ⟨k + 1, by omega, by rw [HST.out, HMK.out], by go_num, by first | rfl | trivial⟩
      case measure => simp [intOf]; omega
    · obtain rfl : k = fs.length := by omega
      go_wp2
      go_ret
      exact ⟨rfl, by first | rfl | trivial⟩
end Go.Proofs.Ytgegjhgifeobdaa


namespace Go.Proofs.Ytgegjhgifeobdaa
set_option linter.unusedSimpArgs false
set_option linter.unusedVariables false
open Go.RowKit Go.Lib Go.Shelf Go.Proofs.YtgegjhgifeobdaaW.PrintWords
attribute [local go_sem] Oper.semAt_some

/-- What a block becomes, which is the k-th that takes one. -/
def alongAt (mv : Nat → Nat) (cs os : List Nat) (k : Nat) : Int :=
  if ((os.take k).map mv).count (mv (os.getD k 0)) < cs.count (mv (os.getD k 0)) then ((cs.idxOf (mv (os.getD k 0)) + ((os.take k).map mv).count (mv (os.getD k 0)) : Nat) : Int) else -1
def alongK (n : Nat) (mv : Nat → Nat) (cs os : List Nat) : Nat → List Int
  | 0 => List.replicate n 0
  | k + 1 => (alongK n mv cs os k).set (os.getD k 0) (alongAt mv cs os k)
theorem alongK_length (n : Nat) (mv : Nat → Nat) (cs os : List Nat) : ∀ k, (alongK n mv cs os k).length = n
  | 0 => by simp [alongK]
  | k + 1 => by simp [alongK, alongK_length n mv cs os k]
def alongM (bs cs fs os : List Nat) : List Int := alongK bs.length (fun i => movedN (bs.getD i 0) fs) cs os os.length
/-- What the map of used blocks holds behind the first k. -/
def UsK (W : World) (b k : Nat) (mv : Nat → Nat) (cs os : List Nat) : Prop := ∃ D, W.ownsMap (H := Unit) Try.prog 57 (plainElem Try.prog 3) b k D ∧
  ∀ s : Nat, D.atKey (.int .u64 s) (.lit (.int .i64 0)) = .lit (.int .i64 (min (((os.take k).map mv).count s) (cs.count s) : Nat))
theorem ownsMap_block {W W' : World} {k : TypeId} {R : Value → Option (DataW Unit × List MemPlace)} {b n : Nat} {D : DataW Unit} (h : W.ownsMap Try.prog k R b n D) (hb : W'.heap[b]? = W.heap[b]?) : W'.ownsMap Try.prog k R b n D := by
  obtain ⟨es, clock, h1, h2⟩ := h
  exact ⟨es, clock, hb.trans h1, h2⟩
section
variable {w1 W w2 : World} {p : Addr} {v : Value}
theorem sk_drew (h : W.cell? p = some v ∧ Below w1.heap.size w1 W) : W.drew.cell? p = some v ∧ Below w1.heap.size w1 W.drew := ⟨h.1, below_drew h.2⟩
theorem sk_below (h : W.cell? p = some v ∧ Below w1.heap.size w1 W) : Below w1.heap.size w1 W := h.2
theorem sk_alloc (h : W.cell? p = some v ∧ Below w1.heap.size w1 W) (o : Obj) : (W.alloc o).cell? p = some v ∧ Below w1.heap.size w1 (W.alloc o) := ⟨cell?_alloc_some o h.1, Below.alloc h.2 h.2.size o⟩
theorem lt_of_cell {W : World} {p : Addr} {v : Value} (h : W.cell? p = some v) : p.block < W.heap.size := by
  rcases Nat.lt_or_ge p.block W.heap.size with h' | h'
  · exact h'
  · simp [World.cell?, Array.getElem?_eq_none h'] at h
theorem sk_call (h : W.cell? p = some v ∧ Below w1.heap.size w1 W) (hb : Below W.heap.size W w2) : w2.cell? p = some v ∧ Below w1.heap.size w1 w2 := ⟨(hb.cell (lt_of_cell h.1)).trans h.1, h.2.trans (hb.mono h.2.size)⟩
theorem al_bcell (hb : Below W.heap.size W w2) : ∃ N, N = W.heap.size ∧ (∀ b o, b < N → w2.cell? ⟨b, o, none⟩ = W.cell? ⟨b, o, none⟩) ∧ (∀ b o, b < N → w2.frozen? ⟨b, o, none⟩ = W.frozen? ⟨b, o, none⟩) ∧ (∀ b, b < N → b < w2.heap.size) :=
  ⟨_, rfl, fun b o hb' => hb.cell (show b < _ by omega), fun b o hb' => hb.frozen (show b < _ by omega), fun b h => Nat.lt_of_lt_of_le h hb.size⟩
theorem sk_set {a : Addr} (h : W.cell? p = some v ∧ Below w1.heap.size w1 W) (ha : w1.heap.size ≤ a.block) (hp : p.block < w1.heap.size) (u : Value) : (W.setCell a u).cell? p = some v ∧ Below w1.heap.size w1 (W.setCell a u) :=
  ⟨by rw [← h.1]; exact World.cell?_setCell_far W a p u (by omega), Below.setCell h.2 ha u⟩
end
theorem own_bd {w w2 : World} {base : Nat} {e : TypeId} {size n : Nat} {v : Value} {xs : List Value} (h : w.ownsRow base e size v n xs) (hb : Below w.drew.heap.size w.drew w2) : w2.ownsRow base e size v n xs := pw_own_below h ⟨hb.os, hb.tape, hb.output, hb.size, hb.block⟩
theorem blk_set2 {W w2 : World} {g : Nat} {t : TypeId} {a b x y : Value} (h : Blk W g t #[a, b]) (hb : Below W.drew.heap.size W.drew w2) : Blk ((w2.setCell ⟨g, 0, none⟩ x).setCell ⟨g, 1, none⟩ y) g t #[x, y] := by
  have h0 : Blk w2 g t #[a, b] := (hb.block g h.lt).trans h
  exact ((h0.set_ 0 x).set_ 1 y)
theorem own_set2 {w2 : World} {base n size g : Nat} {e : TypeId} {v x y : Value} {xs : List Value} (h : w2.ownsRow base e size v n xs) (hne : v.ownBlock ≠ some g) : ((w2.setCell ⟨g, 0, none⟩ x).setCell ⟨g, 1, none⟩ y).ownsRow base e size v n xs :=
  own_setCell (own_setCell h (fun e => hne e.symm) x) (fun e => hne e.symm) y
theorem own_ne_ge {W : World} {base n size g : Nat} {e : TypeId} {v : Value} {xs : List Value} (h : W.ownsRow base e size v n xs) (hg : W.heap.size ≤ g) : v.ownBlock ≠ some g := fun e => by have := own_lt h g e; omega
theorem own_ne_base {W : World} {base n size g : Nat} {e : TypeId} {v : Value} {xs : List Value} (h : W.ownsRow base e size v n xs) (hg : g < base) : v.ownBlock ≠ some g := fun e => by have := own_base h g e; omega
theorem own_made_at {W : World} {base g m : Nat} {e : TypeId} (hg : g = W.heap.size) (hb : base ≤ W.heap.size) (hm : m ≤ 9223372036854775807) :
    (W.alloc (.cells (madeCells #[.int .i64 0] m) e)).ownsRow base e 1 (.slice (some ⟨g, 0, none⟩) m m) m (nums .i64 (List.replicate m 0)) := by subst hg; exact own_made W base e .i64 m hb hm
/-- What stands in the world behind the first k of along's rounds. -/
structure AlSt (b0 : Nat) (w1 : World) (v17 : Value) (gM gE n : Nat) (fs : List Nat) (mv : Nat → Nat) (cs os : List Nat) (M : List Int) (k : Nat) (W : World) : Prop where
  below : Below (b0 + 2) w1 W
  size : w1.heap.size ≤ W.heap.size
  own17 : W.ownsRow w1.heap.size 3 1 v17 fs.length (nums .i64 (il fs))
  blk : Blk W gE 38 #[v17, .slice (some ⟨gM, 0, none⟩) n n]
  ownM : W.ownsRow w1.heap.size 3 1 (.slice (some ⟨gM, 0, none⟩) n n) n (nums .i64 M)
  us : UsK W (b0 + 2) k mv cs os
section
variable {b0 : Nat} {w1 W W' : World} {v17 : Value} {gM gE n k : Nat} {fs : List Nat} {mv : Nat → Nat} {cs os : List Nat} {M : List Int}
theorem AlSt.store (h : AlSt b0 w1 v17 gM gE n fs mv cs os M k W) (hne : v17.ownBlock ≠ some gM) (hEM : gE ≠ gM) (hg : w1.heap.size ≤ gM) (hb0 : b0 + 2 < w1.heap.size) (i : Nat) (x : Int) : AlSt b0 w1 v17 gM gE n fs mv cs os (M.set i x) k (W.setCell ⟨gM, i, none⟩ (.int .i64 x)) := by
  have hs := own_store h.ownM (i : Int) x
  rw [Int.toNat_natCast] at hs
  refine ⟨h.below.setCell (show b0 + 2 ≤ gM by omega) _, Nat.le_trans h.size hs.2.size, own_setCell h.own17 (fun e => hne e.symm) _, h.blk.far hEM _, hs.1, ?_⟩
  obtain ⟨D, h1, h2⟩ := h.us
  exact ⟨D, h1.kept hs.2 (by intro e; injection e with e; omega), h2⟩
theorem AlSt.alloc (h : AlSt b0 w1 v17 gM gE n fs mv cs os M k W) (hb0 : b0 + 2 < w1.heap.size) (o : Obj) : AlSt b0 w1 v17 gM gE n fs mv cs os M k (W.alloc o) := by
  refine ⟨h.below.alloc (by have := h.size; omega) o, Nat.le_trans h.size (by simp), own_alloc h.own17 o, h.blk.alloc o, own_alloc h.ownM o, ?_⟩
  obtain ⟨D, h1, h2⟩ := h.us
  exact ⟨D, h1.alloc o, h2⟩
theorem AlSt.upd (h : AlSt b0 w1 v17 gM gE n fs mv cs os M k W) (hg : W.grownBy W' (some (b0 + 2))) (hb0 : b0 + 2 < w1.heap.size) (hE : w1.heap.size ≤ gE) (hu : UsK W' (b0 + 2) (k + 1) mv cs os) : AlSt b0 w1 v17 gM gE n fs mv cs os M (k + 1) W' :=
  ⟨h.below.grown hg (by have := h.size; omega) (fun r hr => by cases hr; omega), Nat.le_trans h.size hg.size, own_other h.own17 hg (Classical.or_iff_not_imp_left.2 fun _ e => by have := own_base h.own17 _ e; omega), h.blk.grown hg (by intro e; injection e with e; omega),
    own_other h.ownM hg (.inr (by intro e; have := own_base h.ownM _ e; omega)), hu⟩
theorem AlSt.skip (h : AlSt b0 w1 v17 gM gE n fs mv cs os M k W) (hu : UsK W (b0 + 2) (k + 1) mv cs os) : AlSt b0 w1 v17 gM gE n fs mv cs os M (k + 1) W := ⟨h.below, h.size, h.own17, h.blk, h.ownM, hu⟩
end
theorem al_num {J U C e L : Nat} (hJ : J < L) (hC : C ≤ L) (hL : L ≤ 2 ^ 20) (hU : min e C = U) (h : U < C) :
    wrap64 ((J : Int) + (U : Int)) = ((J + U : Nat) : Int) ∧ U = e ∧ e < C ∧ (Lit.int .i64 ((U : Int) + 1)).wf = true :=
  ⟨by rw [← Int.natCast_add]; exact wrap64_nat (by omega), by omega, by omega, by simp [Lit.wf, IntKind.min, IntKind.max, IntKind.signed, IntKind.bits]; omega⟩
theorem al_num2 {U C L : Nat} (hC : C ≤ L) (hL : L ≤ 2 ^ 20) (h : U < C) : U ≤ 2 ^ 20 := by omega
theorem us_next {D : DataW Unit} {k S e C U : Nat} {mv : Nat → Nat} {cs os : List Nat} (hD : ∀ s : Nat, D.atKey (.int .u64 s) (.lit (.int .i64 0)) = .lit (.int .i64 (min (((os.take k).map mv).count s) (cs.count s) : Nat))) (hM : Maps.IsMap D)
    (he : ((os.take k).map mv).count S = e) (hC : cs.count S = C) (hU : min e C = U) (hUC : U < C) (hUS : ∀ s : Nat, (((os.take (k + 1)).map mv).count s) = ((os.take k).map mv).count s + if S = s then 1 else 0) (s : Nat) :
    (D.put (.int .u64 S) (.lit (.int .i64 ((U : Int) + 1)))).atKey (.int .u64 s) (.lit (.int .i64 0)) = .lit (.int .i64 (min (((os.take (k + 1)).map mv).count s) (cs.count s) : Nat)) := by
  rw [hUS s]
  by_cases hs : S = s
  · subst hs
    rw [Maps.atKey_put_same hM (show WideAt.IsKeyLit (.int .u64 (S : Int)) from trivial), he, hC, if_pos rfl]
    simp only [DataW.lit.injEq, Lit.int.injEq, true_and]
    omega
  · rw [Maps.atKey_put_other (fun e => hs (by injection e with _ e; exact (Int.ofNat.inj e).symm)), hD s, if_neg hs, Nat.add_zero]
theorem zeroIz (w : World) : (zeroValue 3).run Try.prog w = .ok (.int .i64 0) w := by kernel_rfl
/-- Where a set begins, 0 if it is not there. -/
def atJ (cs : List Nat) (S : Nat) : Nat := if S ∈ cs then cs.idxOf S else 0
theorem pl_look {w W : World} {b : Nat} {cs : List Nat} (h : Pl w b cs) (hW : W.heap[b]? = w.heap[b]?) {S : Nat} (hS : S < 2 ^ 64) :
    (Instr.lookup 74 (.map (some b)) (.int .u64 S) false).run Try.prog W = .ok (.agg #[.int .i64 (atJ cs S), .int .i64 (cs.count S)]) W := by
  obtain ⟨D, h1, h2⟩ := h
  obtain ⟨v, ps, hrun, hv⟩ := (ownsMap_block h1 hW).lookup (t := 74) keyedU Try.underlying74 (zeroP W) (pairR_mk 0 0) (keyU hS)
  rw [h2 S, List.take_length] at hv
  rw [hrun]
  by_cases hin : S ∈ cs
  · rw [if_pos hin] at hv
    rw [pairR_inv hv, atJ, if_pos hin]
  · rw [if_neg hin] at hv
    rw [pairR_inv hv, atJ, if_neg hin, List.count_eq_zero.2 hin]
    rfl
theorem us_look {W : World} {b k : Nat} {mv : Nat → Nat} {cs os : List Nat} (h : UsK W b k mv cs os) {S : Nat} (hS : S < 2 ^ 64) :
    (Instr.lookup 96 (.map (some b)) (.int .u64 S) false).run Try.prog W = .ok (.int .i64 (min (((os.take k).map mv).count S) (cs.count S) : Nat)) W := by
  obtain ⟨D, h1, h2⟩ := h
  obtain ⟨c, hrun, hat, hwc⟩ := h1.lookup_int (t := 96) keyedU Try.underlying96 Try.underlying3 (zeroIz W) (keyU hS)
  rw [h2 S] at hat
  rw [hrun]
  simp only [DataW.lit.injEq, Lit.int.injEq, true_and] at hat
  rw [hat]
/-- Two rows in memory that do not share a block. -/
def ND (v1 v2 : Value) : Prop := v1.ownBlock = none ∨ v1.ownBlock ≠ v2.ownBlock
set_option maxHeartbeats 4000000 in
set_option maxRecDepth 100000 in
theorem along_any (V : Value) (A F O : Option Addr) (cA cF cO b : Nat) (bs cs fs os : List Nat) (w : World) (hV : V.oneCell' = true) (hB : BlC w A bs.length bs) (hP : Pl w b cs) (hbw0 : b < w.heap.size)
    (hF : IC w F fs.length (il fs)) (hf60 : fs.length ≤ 60) (hq : ∀ q ∈ fs, q < 60) (hO : IC w O os.length (il os)) (hos : ∀ i ∈ os, i < bs.length) (hol : os.length ≤ 2 ^ 20) (hbl : bs.length ≤ 2 ^ 20) (hcl : cs.length ≤ 2 ^ 20) :
    Calls Try.prog 29 #[.agg #[V, .slice A bs.length cA], .map (some b), .slice F fs.length cF, .slice O os.length cO] w fun e w' =>
      ∃ v1 v2, e = .returned (.agg #[v1, v2]) ∧ w'.ownsRow w.heap.size 3 1 v1 fs.length (nums .i64 (il fs)) ∧ w'.ownsRow w.heap.size 3 1 v2 bs.length (nums .i64 (alongM bs cs fs os)) ∧ Below w.heap.size w w' ∧ ND v1 v2 := by
  have hmm := @run_makeMap Try.prog
  have hui := Try.underlying29
  have hue := Try.underlying38
  have hmk := print_make (P := Try.prog) 32 3 .i64 8 Try.underlying32 infoI (by decide) bs.length (by omega)
  have HCL : Hid (∀ W, Below w.heap.size w W → Calls Try.prog 50 #[.slice F fs.length cF] W fun e w' => ∃ v, e = .returned v ∧ w'.ownsRow W.heap.size 3 1 v fs.length (nums .i64 (il fs)) ∧ Below W.heap.size W w') :=
    (show ∀ W, _ from fun W hb => clonei_any F fs.length cF (il fs) W (Kd.C_below hF hb) (by omega))
  go_enter Try.func29, Try.ntmps29
  go_upto_region 2 with (fail)
  obtain ⟨w1, hw1⟩ : ∃ w1, (((w.alloc (.cells #[V, .slice A bs.length cA] 29)).alloc (.cells #[.slice none 0 0, .slice none 0 0] 38)).alloc (.map #[] 0)) = w1 := ⟨_, rfl⟩
  have hBa : Blk w1 w.heap.size 29 #[V, .slice A bs.length cA] := by rw [← hw1]; exact ((Blk.new _ _ _).alloc _).alloc _
  have hBr : Blk w1 (w.heap.size + 1) 38 #[.slice none 0 0, .slice none 0 0] := by
    rw [← hw1]
    have := (Blk.new (w.alloc (.cells #[V, .slice A bs.length cA] 29)) 38 #[.slice none 0 0, .slice none 0 0]).alloc (.map #[] 0)
    simpa using this
  have hmo : w1.ownsMap (H := Unit) Try.prog 57 (plainElem Try.prog 3) (w.heap.size + 2) 0 (.map []) := by
    rw [← hw1]
    have := World.ownsMap_made (H := Unit) ((w.alloc (.cells #[V, .slice A bs.length cA] 29)).alloc (.cells #[.slice none 0 0, .slice none 0 0] 38)) Try.prog 57 (plainElem Try.prog 3)
    simpa using this
  have hb1 : Below w.heap.size w w1 := by rw [← hw1]; exact below_alloc (below_alloc (below_alloc (Below.refl _ _) _) _) _
  have hz1 : w.heap.size + 3 ≤ w1.heap.size := by rw [← hw1]; simp
  have hc1 : w1.cell? ⟨w.heap.size, 1, none⟩ = some (.slice A bs.length cA) := (hBa.cell 1).trans rfl
  rw [hw1]
  clear hw1 hmm
  have HC1 : Hid (∀ W, Below w1.heap.size w1 W → W.cell? ⟨w.heap.size, 1, none⟩ = some (.slice A bs.length cA)) := (show ∀ W, _ from fun W h => (h.cell (p := ⟨w.heap.size, 1, none⟩) (show w.heap.size < _ by omega)).trans hc1)
  have hdr : ∀ (cs : Array Value) (t : TypeId) (o : Nat), (w1.drew.alloc (.cells cs t)).cell? ⟨w1.heap.size, o, none⟩ = cs[o]? := fun cs t o => (Blk.new w1.drew t cs).cell o
  have hdf : ∀ (cs : Array Value) (t : TypeId) (o : Nat), (w1.drew.alloc (.cells cs t)).frozen? ⟨w1.heap.size, o, none⟩ = false := fun cs t o => (Blk.new w1.drew t cs).frozen o
  have hdr1 : ∀ (cs cs' : Array Value) (t t' : TypeId) (o : Nat), ((w1.drew.alloc (.cells cs' t')).alloc (.cells cs t)).cell? ⟨w1.heap.size + 1, o, none⟩ = cs[o]? := fun cs cs' t t' o => by
    have := (Blk.new (w1.drew.alloc (.cells cs' t')) t cs).cell o
    simpa using this
  have hdf1 : ∀ (cs cs' : Array Value) (t t' : TypeId) (o : Nat), ((w1.drew.alloc (.cells cs' t')).alloc (.cells cs t)).frozen? ⟨w1.heap.size + 1, o, none⟩ = false := fun cs cs' t t' o => by
    have := (Blk.new (w1.drew.alloc (.cells cs' t')) t cs).frozen o
    simpa using this
  rename_i K hK
  obtain ⟨mv, hmv⟩ : ∃ mv, (fun i => movedN (bs.getD i 0) fs) = mv := ⟨_, rfl⟩
  have REST : ∀ (A1 : Option Addr) (c1 gM gE : Nat) (W : World), Below w1.heap.size w1 W → Blk W gE 38 #[.slice A1 fs.length c1, .slice (some ⟨gM, 0, none⟩) bs.length bs.length] → w1.heap.size ≤ gE →
      W.ownsRow w1.heap.size 3 1 (.slice A1 fs.length c1) fs.length (nums .i64 (il fs)) → W.ownsRow w1.heap.size 3 1 (.slice (some ⟨gM, 0, none⟩) bs.length bs.length) bs.length (nums .i64 (List.replicate bs.length 0)) →
      (Value.slice A1 fs.length c1).ownBlock ≠ some gM →
      K { tmps := #[.agg #[V, .slice A bs.length cA], .map (some b), .slice F fs.length cF, .slice O os.length cO, .pointer (some ⟨w.heap.size, 0, none⟩), undef, undef, undef, .pointer (some ⟨w.heap.size + 1, 0, none⟩), .map (some (w.heap.size + 1 + 1)), .pointer (some ⟨gE, 0, none⟩), undef, undef, undef, undef, .map (some (w.heap.size + 1 + 1)), .slice F fs.length cF, .slice A1 fs.length c1, .pointer (some ⟨w.heap.size, 1, none⟩), .slice A bs.length cA, .int .i64 bs.length, .slice (some ⟨gM, 0, none⟩) bs.length bs.length, .agg #[.slice A1 fs.length c1, .slice (some ⟨gM, 0, none⟩) bs.length bs.length], undef, undef, undef, undef, undef, undef, undef, undef, undef, undef, undef, undef, undef, undef, undef, undef, undef, undef, undef, undef, undef, undef, undef, undef, undef, undef, undef, undef, undef, undef, undef, undef, undef, undef, undef, undef, undef, undef, undef, undef, undef, undef], defers := [] } W := by
    intro A1 c1 gM gE W hbW hE hgE hO17 hM0 hne
    have HND : Hid (ND (.slice A1 fs.length c1) (.slice (some ⟨gM, 0, none⟩) bs.length bs.length)) := (show ND _ _ from .inr hne)
    apply hK
    have hgM := own_base hM0 gM rfl
    have hEM : gE ≠ gM := fun e => by
      obtain ⟨cells, hcc⟩ := own_typed hM0 gM rfl
      rw [← e, hE] at hcc
      cases hcc
    have hmoW : W.ownsMap (H := Unit) Try.prog 57 (plainElem Try.prog 3) (w.heap.size + 2) 0 (.map []) := hmo.kept (grown_of_below hbW none) (by simp)
    have hb0 : w.heap.size + 2 < w1.heap.size := by omega
    have HS := hid (show AlSt w.heap.size w1 (.slice A1 fs.length c1) gM gE bs.length fs mv cs os (alongK bs.length mv cs os 0) 0 W from
      ⟨hbW.mono (by omega), hbW.size, hO17, hE, hM0, ⟨_, hmoW, fun s => by simp; rfl⟩⟩)
    clear hmoW hM0 hO17 hE hbW
    go_wp2
    go_loopw [25] (fun i wr => ∃ k : Nat, k ≤ os.length ∧ i = .int .i64 k ∧ Hid (AlSt w.heap.size w1 (.slice A1 fs.length c1) gM gE bs.length fs mv cs os (alongK bs.length mv cs os k) k wr)) (fun i _ => os.length - (intOf i).toNat)
    case atStart => exact ⟨0, by omega, rfl, HS⟩
    case round =>
      clear HS
      obtain ⟨k, hk, rfl, HS⟩ := hrel
      have hbw : Below w.heap.size w wr := hb1.trans (HS.out.below.mono (by omega))
      by_cases hlt : k < os.length
      · obtain ⟨ado, xi, rfl, hcxo, HXo⟩ := IC.at_ (Kd.C_below hO hbw) hlt
        obtain ⟨i, hi, rfl⟩ : ∃ i, os.getD k 0 = i ∧ xi = (i : Int) := ⟨_, rfl, by rw [← HXo.out.2]; exact rd_il hlt⟩
        have hib : i < bs.length := hi ▸ hos _ (getD_mem hlt)
        obtain ⟨ada, s, rfl, hcs, hs64, HXa⟩ := NlC.at_ (hB.below hbw) hib
        have hSv : mv i = movedN s fs := by rw [← hmv]; show movedN (bs.getD i 0) fs = _; rw [List.getD_eq_getElem?_getD, HXa.out.2.1]; rfl
        obtain ⟨S, hS⟩ : ∃ S, movedN s fs = S := ⟨_, rfl⟩
        have hS64 : S < 2 ^ 64 := by rw [← hS]; exact Nat.lt_trans (movedN_lt hq) (by decide)
        have MV := hid (moved_any s F cF fs wr hs64 (Kd.C_below hF hbw) hf60 hq)
        rw [hS] at MV
        obtain ⟨e, he⟩ : ∃ e, ((os.take k).map mv).count S = e := ⟨_, rfl⟩
        obtain ⟨C, hC⟩ : ∃ C, cs.count S = C := ⟨_, rfl⟩
        have HV : Hid (∀ x : Int, (if e < C then ((cs.idxOf S + e : Nat) : Int) else -1) = x → (alongK bs.length mv cs os k).set i x = alongK bs.length mv cs os (k + 1)) := (show ∀ x, _ from by
          rintro x rfl
          rw [alongK, hi, alongAt, hi, hSv, hS, he, hC])
        have hUS : Hid (∀ s : Nat, (((os.take (k + 1)).map mv).count s) = ((os.take k).map mv).count s + if S = s then 1 else 0) := (show ∀ s, _ from fun s' => by
          have ht : os.take (k + 1) = os.take k ++ [i] := by rw [List.take_succ_eq_append_getElem hlt, ← hi, List.getD_eq_getElem?_getD, List.getElem?_eq_getElem hlt]; rfl
          rw [ht, List.map_append, List.count_append]
          simp [hSv, hS, List.count_singleton])
        have hc7 : wr.cell? ⟨w.heap.size, 1, none⟩ = some (.slice (some ada) bs.length cA) := (HS.out.below.cell (p := ⟨w.heap.size, 1, none⟩) (show w.heap.size < _ by omega)).trans hc1
        have hE1 : wr.cell? ⟨gE, 1, none⟩ = some (.slice (some ⟨gM, 0, none⟩) bs.length bs.length) := (HS.out.blk.cell 1).trans rfl
        obtain ⟨hM1, hM2⟩ := own_at HS.out.ownM (i : Int) (by omega) (by omega)
        rw [Int.toNat_natCast] at hM1 hM2
        have H0 := hid (And.intro hi (And.intro hSv hS))
        clear hi hSv hS hc1
        go_upto_region 8 with (go_at_call 51; refine MV.out.mono ?_; rintro e w' ⟨rfl, rfl⟩)
        obtain ⟨W8, hW8⟩ : ∃ W8, w'.setCell ⟨gM, i, none⟩ (.int .i64 (-1)) = W8 := ⟨_, rfl⟩
        have HS8 := hid (show AlSt w.heap.size w1 (.slice A1 fs.length c1) gM gE bs.length fs mv cs os ((alongK bs.length mv cs os k).set i (-1)) k W8 from by rw [← hW8]; exact HS.out.store hne hEM hgM hb0 i (-1))
        rw [hW8]
        have hlk := pl_look hP (W := W8) ((HS8.out.below.block b (by omega)).trans (hb1.block b hbw0)) hS64
        rw [hC] at hlk
        obtain ⟨J, hJ⟩ : ∃ J, atJ cs S = J := ⟨_, rfl⟩
        rw [hJ] at hlk
        clear hW8 hM1 hM2 hE1 hc7 hcxo hcs HS
        go_upto_region 9 with (fail)
        clear hlk
        obtain ⟨W9, hW9⟩ : ∃ W9, W8.alloc (.cells #[.int .i64 J, .int .i64 C] 98) = W9 := ⟨_, rfl⟩
        have HS9 := hid (show AlSt w.heap.size w1 (.slice A1 fs.length c1) gM gE bs.length fs mv cs os ((alongK bs.length mv cs os k).set i (-1)) k W9 from by rw [← hW9]; exact HS8.out.alloc hb0 _)
        have hB9 : Blk W9 W8.heap.size 98 #[.int .i64 J, .int .i64 C] := by rw [← hW9]; exact Blk.new _ _ _
        have hJ9 : W9.cell? ⟨W8.heap.size, 0, none⟩ = some (.int .i64 J) := (hB9.cell 0).trans rfl
        have hC9 : W9.cell? ⟨W8.heap.size, 1, none⟩ = some (.int .i64 C) := (hB9.cell 1).trans rfl
        rw [hW9]
        have hlk := us_look HS9.out.us hS64
        rw [he, hC] at hlk
        have hw811 : w.heap.size + 1 + 1 = w.heap.size + 2 := rfl
        rw [← hw811] at hlk
        clear hw811
        obtain ⟨U, hU⟩ : ∃ U, min e C = U := ⟨_, rfl⟩
        rw [hU] at hlk
        clear hW9 HS8
        by_cases hUC : U < C
        · have q0 : (U : Int) < (C : Int) := by omega
          have hc7 : W9.cell? ⟨gE, 1, none⟩ = some (.slice (some ⟨gM, 0, none⟩) bs.length bs.length) := (HS9.out.blk.cell 1).trans rfl
          obtain ⟨hM1, hM2⟩ := own_at HS9.out.ownM (i : Int) (by omega) (by omega)
          rw [Int.toNat_natCast] at hM1 hM2
          have hS1 : S ∈ cs := List.count_pos_iff.1 (by rw [hC]; omega)
          have hJi : cs.idxOf S = J := by rw [← hJ, atJ, if_pos hS1]
          have hJl : J < cs.length := by rw [← hJi]; exact List.idxOf_lt_length_of_mem hS1
          have hCl : C ≤ cs.length := by rw [← hC]; exact List.count_le_length
          obtain ⟨hwr, hUe, heC, hwU⟩ := al_num hJl hCl hcl hU hUC
          have HVV := hid (HV.out ((J : Int) + (U : Int)) (by rw [hUe, hJi, if_pos heC, Int.natCast_add]))
          have HWU := hid hwU
          clear hS1 hJi hwr hUe heC hwU
          go_upto_region 11 with (fail)
          obtain ⟨W11, hW11⟩ : ∃ W11, W9.setCell ⟨gM, i, none⟩ (.int .i64 ((J : Int) + (U : Int))) = W11 := ⟨_, rfl⟩
          have HS11 := hid (show AlSt w.heap.size w1 (.slice A1 fs.length c1) gM gE bs.length fs mv cs os (((alongK bs.length mv cs os k).set i (-1)).set i ((J : Int) + (U : Int))) k W11 from by rw [← hW11]; exact HS9.out.store hne hEM hgM hb0 i _)
          rw [hW11]
          clear hlk
          have hlk := us_look HS11.out.us hS64
          rw [he, hC, hU] at hlk
          have hw811 : w.heap.size + 1 + 1 = w.heap.size + 2 := rfl
          rw [← hw811] at hlk
          clear hw811 hW11 HS9 hM1 hM2 hc7
          obtain ⟨D, hmo, hD⟩ := HS11.out.us
          have hkey := keyU hS64
          have HD := hid hD
          have HMO := hid hmo
          clear hmo hD
          have hUb : U ≤ 2 ^ 20 := al_num2 hCl hcl hUC
          go_wp2_with (first
            | (at_mapUpdate; refine wpList_mapUpdate_own _ rfl _ _ _ 96 rfl 57 3 keyedU Try.underlying96 _ (w.heap.size + 2) k D rfl HMO.out (by unfold maxLen; omega) _ _ _ rfl rfl hkey _ [] (plainElem_int Try.underlying3 HWU.out) ?_; intro w12 hown12 hgrow12)
            | go_in)
          go_roundw
          case rel =>
            refine ⟨k + 1, by omega, by go_num, (show AlSt _ _ _ _ _ _ _ _ _ _ _ _ _ from ?_)⟩
            have hME := HVV.out
            rw [← hME]
            have hx := HS11.out
            rw [List.set_set] at hx
            refine hx.upd hgrow12 hb0 hgE ⟨_, hown12, fun s => ?_⟩
            exact us_next HD.out HMO.out.isMap he hC hU hUC hUS.out s
          case measure => simp [intOf]; omega
        · have q0 : ¬ (U : Int) < (C : Int) := by omega
          have HVV := hid (HV.out (-1) (by rw [if_neg (by omega)]))
          have hus : Hid (UsK W9 (w.heap.size + 2) (k + 1) mv cs os) := (show UsK _ _ _ _ _ _ from by
            obtain ⟨D, h1, h2⟩ := HS9.out.us
            refine ⟨D, h1.mono (Nat.le_succ k), fun s => ?_⟩
            rw [h2 s, hUS.out s]
            by_cases hs : S = s
            · subst hs
              rw [he, hC, if_pos rfl]
              congr 2
              omega
            · rw [if_neg hs]; rfl)
          go_wp2
          go_roundw
          case rel =>
            refine ⟨k + 1, by omega, by go_num, (show AlSt _ _ _ _ _ _ _ _ _ _ _ _ _ from ?_)⟩
            rw [← HVV.out]
            exact HS9.out.skip hus.out
          case measure => simp [intOf]; omega
      · obtain rfl : k = os.length := by omega
        have hE0 : wr.cell? ⟨gE, 0, none⟩ = some (.slice A1 fs.length c1) := (HS.out.blk.cell 0).trans rfl
        have hE1 : wr.cell? ⟨gE, 1, none⟩ = some (.slice (some ⟨gM, 0, none⟩) bs.length bs.length) := (HS.out.blk.cell 1).trans rfl
        have hBr1 : Blk wr (w.heap.size + 1) 38 #[.slice none 0 0, .slice none 0 0] := hBr.below HS.out.below (by omega)
        have r0 : wr.cell? ⟨w.heap.size + 1, 0, none⟩ = some (.slice none 0 0) := (hBr1.cell 0).trans rfl
        have r1 : wr.cell? ⟨w.heap.size + 1, 1, none⟩ = some (.slice none 0 0) := (hBr1.cell 1).trans rfl
        have f0 := hBr1.frozen 0
        have f1 := hBr1.frozen 1
        have hM : alongK bs.length mv cs os os.length = alongM bs cs fs os := by rw [alongM, hmv]
        have HMM := hid hM
        clear hM
        have HBL := hid ((((Below.refl w.heap.size wr).setCell (p := ⟨w.heap.size + 1, 0, none⟩) (Nat.le_succ _) (.slice A1 fs.length c1)).setCell (p := ⟨w.heap.size + 1, 1, none⟩) (Nat.le_succ _) (.slice (some ⟨gM, 0, none⟩) bs.length bs.length)))
        have HR1 := hid (own_setCell (p := ⟨w.heap.size + 1, 1, none⟩) (own_setCell (p := ⟨w.heap.size + 1, 0, none⟩) HS.out.own17 (fun e => by have := own_base HS.out.own17 _ e.symm; simp at this; omega) (.slice A1 fs.length c1)) (fun e => by have := own_base HS.out.own17 _ e.symm; simp at this; omega) (.slice (some ⟨gM, 0, none⟩) bs.length bs.length))
        have HR2 := hid (own_setCell (p := ⟨w.heap.size + 1, 1, none⟩) (own_setCell (p := ⟨w.heap.size + 1, 0, none⟩) HS.out.ownM (fun e => by have := own_base HS.out.ownM _ e.symm; simp at this; omega) (.slice A1 fs.length c1)) (fun e => by have := own_base HS.out.ownM _ e.symm; simp at this; omega) (.slice (some ⟨gM, 0, none⟩) bs.length bs.length))
        go_wp2
        refine bodyPost_ret (v := .agg #[.slice A1 fs.length c1, .slice (some ⟨gM, 0, none⟩) bs.length bs.length]) (by simp [results, Try.results29, go_sem, r0, r1, f0, f1]) rfl ⟨_, _, rfl, own_less HR1.out (by omega), ?_, hbw.trans HBL.out, HND.out⟩
        rw [← HMM.out]
        exact own_less HR2.out (by omega)
  have HREST := hid REST
  clear REST
  go_region_held3 (fun W => W.cell? ⟨w.heap.size, 1, none⟩ = some (.slice A bs.length cA) ∧ Below w1.heap.size w1 W)
    (first | exact sk_alloc (by assumption) _ | exact HS2.out | exact sk_call (by assumption) (by assumption) | exact sk_drew ⟨hc1, Below.refl _ _⟩ | exact sk_alloc (sk_alloc HS2.out _) _ | exact sk_alloc HS2.out _ | exact sk_alloc (sk_set (sk_set HS2.out (by simp <;> omega) (by show w.heap.size < _; omega) _) (by simp <;> omega) (by show w.heap.size < _; omega) _) _ | exact sk_set (sk_set HS2.out (by simp <;> omega) (by show w.heap.size < _; omega) _) (by simp <;> omega) (by show w.heap.size < _; omega) _ | exact sk_drew ⟨hc1, Below.refl _ _⟩)
    (first | (go_at_call 50; refine (HCL.out _ (hb1.trans (Below.mono (B := w1.heap.size) (sk_below (by assumption)) (by omega)))).mono ?_; rintro e w2 ⟨v17, rfl, ho2, hb2⟩; have HS2 := hid (sk_call (by assumption) hb2); obtain ⟨A1, c1, rfl⟩ := own_slice ho2; have HO2 := hid ho2; clear ho2; obtain ⟨N3, hN3, hc3, hf3, hs3⟩ := al_bcell hb2; simp at hN3; subst hN3))
  · refine HREST.out A1 c1 w2.heap.size (w2.heap.size + 1) _ (sk_below (by assumption)) (heap_new (by simp)) (by have := HS2.out.2.size; omega) (own_alloc (own_alloc HO2.out _) _) (own_alloc (own_made w2 w1.heap.size _ .i64 bs.length HS2.out.2.size (by omega)) _) (own_ne_ge HO2.out (Nat.le_refl _))
  · refine HREST.out A1 c1 (w2.heap.size + 1) w2.heap.size _ (sk_below (by assumption)) ((Blk.new w2 _ _).alloc _) HS2.out.2.size (own_alloc (own_alloc HO2.out _) _) (own_made_at (by simp) (by have := HS2.out.2.size; simp; omega) (by omega)) (own_ne_ge HO2.out (Nat.le_succ _))
  · refine HREST.out A1 c1 w1.heap.size w2.heap.size _ (sk_below (by assumption)) (Blk.new w2 _ _) HS2.out.2.size (own_alloc (own_less HO2.out (by simp)) _) (own_alloc (own_bd (own_made_at (W := w1) rfl (Nat.le_refl _) (by omega)) hb2) _) (own_ne_base HO2.out (by simp))
  · refine HREST.out A1 c1 w1.heap.size (w1.heap.size + 1) _ (sk_below (by assumption)) (blk_set2 (a := .slice none 0 0) (b := .slice none 0 0) (heap_new (by simp)) hb2) (Nat.le_succ _) (own_set2 (own_less HO2.out (by simp; omega)) (own_ne_base HO2.out (by simp))) (own_set2 (own_bd (own_alloc (own_made_at (W := w1) rfl (Nat.le_refl _) (by omega)) _) hb2) (by simp [Value.ownBlock])) (own_ne_base HO2.out (by simp; omega))
  · refine HREST.out A1 c1 w2.heap.size w1.heap.size _ (sk_below (by assumption)) ((blk_set2 (a := .slice none 0 0) (b := .slice none 0 0) (heap_new rfl) hb2).alloc _) (Nat.le_refl _) (own_alloc (own_set2 (own_less HO2.out (by simp)) (own_ne_base HO2.out (by simp))) _) (own_made_at (by simp) (by simp; have := HS2.out.2.size; omega) (by omega)) (own_ne_ge HO2.out (Nat.le_refl _))
  · refine HREST.out A1 c1 (w1.heap.size + 1) w1.heap.size _ (sk_below (by assumption)) (blk_set2 (a := .slice none 0 0) (b := .slice none 0 0) (Blk.alloc (w := w1.alloc _) (heap_new rfl) _) hb2) (Nat.le_refl _) (own_set2 (own_less HO2.out (by simp; omega)) (own_ne_base HO2.out (by simp; omega))) (own_set2 (own_bd (own_made_at (W := w1.alloc _) (by simp) (by simp) (by omega)) hb2) (by simp [Value.ownBlock])) (own_ne_base HO2.out (by simp))
end Go.Proofs.Ytgegjhgifeobdaa


namespace Go.Proofs.Ytgegjhgifeobdaa
set_option linter.unusedSimpArgs false
set_option linter.unusedVariables false
open Go.RowKit Go.Lib Go.Shelf Go.Proofs.YtgegjhgifeobdaaW.PrintWords
attribute [local go_sem] Oper.semAt_some

/-- Whether a block is kept, by the list of images. -/
def keepB (M : List Int) (i : Int) : Bool := decide (0 ≤ i) && decide (i < M.length) && decide (0 ≤ rd M i)
def keptL (M done : List Int) : List Int := done.filter (keepB M)
theorem rd_of {l : List Int} {k : Nat} {x : Int} (h : l[k]? = some x) : rd l (k : Int) = x := by
  unfold rd; rw [List.getD_eq_getElem?_getD, Int.toNat_natCast, h]; rfl
/-- The closure's own answer. -/
theorem strike_any (g : Nat) (F : Value) (A : Option Addr) (c : Nat) (M : List Int) (i : Int) (w : World) (hB : Blk w g 38 #[F, .slice A M.length c]) (hM : IC w A M.length M) :
    Calls Try.prog 58 #[.int .i64 i, .pointer (some ⟨g, 0, none⟩)] w fun e w' => e = .returned (.bool (!keepB M i)) ∧ w' = w := by
  have hc1 : w.cell? ⟨g, 1, none⟩ = some (.slice A M.length c) := by rw [hB.cell 1]; rfl
  go_enter Try.func58, Try.ntmps58
  by_cases h0 : i < 0
  · have q0 : decide (i < 0) = true := by simp [h0]
    have HF : Hid (keepB M i = false) := by show _ = _; unfold keepB; simp; omega
    go_wp2
    go_ret
    exact ⟨ret_bool (by rw [HF.out]; rfl), rfl⟩
  · have q0 : decide (i < 0) = false := by simp [h0]
    by_cases h1 : (M.length : Int) ≤ i
    · have q1 : decide ((M.length : Int) ≤ i) = true := by simp [h1]
      have HF : Hid (keepB M i = false) := by show _ = _; unfold keepB; simp; omega
      go_wp2
      go_ret
      exact ⟨ret_bool (by rw [HF.out]; rfl), rfl⟩
    · have q1 : decide ((M.length : Int) ≤ i) = false := by simp [h1]
      obtain ⟨k, rfl⟩ := Int.eq_ofNat_of_zero_le (show 0 ≤ i by omega)
      have hk : k < M.length := by omega
      obtain ⟨ad, x, rfl, hcx, HX⟩ := IC.at_ hM hk
      by_cases hx : x < 0
      · have q2 : decide (x < 0) = true := by simp [hx]
        have HF : Hid (keepB M k = false) := by show _ = _; unfold keepB; rw [rd_of HX.out.1]; simp; omega
        go_wp2
        go_ret
        exact ⟨ret_bool (by rw [HF.out]; rfl), rfl⟩
      · have q2 : decide (x < 0) = false := by simp [hx]
        have HF : Hid (keepB M k = true) := by show _ = _; unfold keepB; rw [rd_of HX.out.1]; simp; omega
        go_wp2
        go_ret
        exact ⟨ret_bool (by rw [HF.out]; rfl), rfl⟩
/-- The closure asked in whatever world lies on the first one. -/
abbrev Asks (B g : Nat) (q : Int → Bool) (w0 : World) : Prop := ∀ (W : World) (i : Int), Below B w0 W → Calls Try.prog 58 #[.int .i64 i, .pointer (some ⟨g, 0, none⟩)] W fun e w' => e = .returned (.bool (q i)) ∧ w' = W
theorem hit_or (q : Int → Bool) (xs : List Int) : (∀ x ∈ xs, q x = false) ∨ ∃ (k : Nat) (x : Int), xs[k]? = some x ∧ q x = true ∧ ∀ y ∈ xs.take k, q y = false := by
  induction xs with
  | nil => exact .inl (by simp)
  | cons a r ih =>
    cases ha : q a with
    | true => exact .inr ⟨0, a, rfl, ha, by simp⟩
    | false =>
      rcases ih with h | ⟨k, x, h1, h2, h3⟩
      · exact .inl fun x hx => by rcases List.mem_cons.1 hx with rfl | hx; exact ha; exact h x hx
      · exact .inr ⟨k + 1, x, by simpa using h1, h2, fun y hy => by
          rw [List.take_succ_cons] at hy
          rcases List.mem_cons.1 hy with rfl | hy
          · exact ha
          · exact h3 y hy⟩
theorem hit_one {q : Int → Bool} {xs : List Int} {k k' : Nat} {x x' : Int} (h1 : xs[k]? = some x) (h2 : q x = true) (h3 : ∀ y ∈ xs.take k, q y = false) (h1' : xs[k']? = some x') (h2' : q x' = true) (h3' : ∀ y ∈ xs.take k', q y = false) : k = k' := by
  rcases Nat.lt_trichotomy k k' with h | h | h
  · have := h3' x (List.mem_of_getElem? (show (xs.take k')[k]? = some x by rw [List.getElem?_take, if_pos h, h1]))
    rw [h2] at this; cases this
  · exact h
  · have := h3 x' (List.mem_of_getElem? (show (xs.take k)[k']? = some x' by rw [List.getElem?_take, if_pos h, h1']))
    rw [h2'] at this; cases this
set_option maxHeartbeats 1000000 in
theorem indexf_any (A : Option Addr) (c : Nat) (xs : List Int) (B g : Nat) (q : Int → Bool) (w0 w : World) (hb : Below B w0 w) (hq : Asks B g q w0) (hC : IC w A xs.length xs) (hl : xs.length < 2 ^ 40) :
    Calls Try.prog 62 #[.slice A xs.length c, .func (.func 58) #[] #[.pointer (some ⟨g, 0, none⟩)]] w fun e w' =>
      ∃ r : Int, e = .returned (.int .i64 r) ∧ w' = w ∧ ((r = -1 ∧ ∀ x ∈ xs, q x = false) ∨ ∃ (k : Nat) (x : Int), r = k ∧ xs[k]? = some x ∧ q x = true ∧ ∀ y ∈ xs.take k, q y = false) := by
  have HQ := hid hq
  clear hq
  go_enter Try.func62, Try.ntmps62
  go_wp2
  go_loopw [5, 8] (fun _ i wr => ∃ k : Nat, k ≤ xs.length ∧ i = .int .i64 k ∧ wr = w ∧ Hid (∀ y ∈ xs.take k, q y = false)) (fun _ i _ => xs.length - (intOf i).toNat)
  case atStart => exact ⟨0, by omega, rfl, by first | rfl | trivial, (show ∀ _ ∈ _, _ from by simp)⟩
  case round =>
    obtain ⟨k, hk, rfl, rfl, HG⟩ := hrel
    by_cases hlt : k < xs.length
    · obtain ⟨ad, x, rfl, hcx, HX⟩ := IC.at_ hC hlt
      cases hqx : q x with
      | true =>
        go_wp2_with (go_at_call 58; refine (HQ.out _ x hb).mono ?_; rw [hqx]; rintro e w' ⟨rfl, rfl⟩)
        go_ret
        exact ⟨k, rfl, rfl, .inr ⟨k, x, rfl, HX.out.1, hqx, HG.out⟩⟩
      | false =>
        go_wp2_with (go_at_call 58; refine (HQ.out _ x hb).mono ?_; rw [hqx]; rintro e w' ⟨rfl, rfl⟩)
        go_roundw
        case rel =>
          refine ⟨k + 1, by omega, by go_num, by first | rfl | trivial, (show ∀ y ∈ _, _ from fun y hy => ?_)⟩
          rw [List.take_add_one, HX.out.1] at hy
          rcases List.mem_append.1 hy with h | h
          · exact HG.out y h
          · have : y = x := by simpa using h
            rw [this]; exact hqx
        case measure => simp [intOf]; omega
    · obtain rfl : k = xs.length := by omega
      go_wp2
      go_ret
      exact ⟨-1, rfl, rfl, .inl ⟨rfl, by simpa using HG.out⟩⟩
theorem own_cleared {W : World} {base g n cap : Nat} {e : TypeId} {xs : List Value} (h : W.ownsRow base e 1 (.slice (some ⟨g, 0, none⟩) n cap) n xs) {i : Nat} (hi : i ≤ n) (vs : List Value) (hv : i + vs.length ≤ n) :
    (W.setCells g i vs).ownsRow base e 1 (.slice (some ⟨g, 0, none⟩) i cap) i (xs.take i) ∧ W.grownBy (W.setCells g i vs) (some g) := by
  obtain ⟨hl, h2⟩ := h
  rcases h2 with ⟨he, _⟩ | ⟨g', cap', cur, he, hb, hh, hnc, hcm, hcs, ht⟩
  · cases he
  · injection he with ha _ hc
    injection ha with ha
    injection ha with ha
    subst ha; subst hc
    obtain ⟨cur', h3, h4, h5⟩ := setCells_row vs i W cur hh (by omega)
    obtain ⟨s1, s2, s3, s4⟩ := setCells_same g vs i W
    refine ⟨⟨by rw [List.length_take, hl]; omega, .inr ⟨g, cap, cur', rfl, hb, h3, by omega, hcm, by rw [h4]; exact hcs, ?_⟩⟩, ⟨s1, s2, s3, by omega, fun k hk hne => setCells_far vs i k (fun e => hne (by rw [e]))⟩⟩
    have hcl : i ≤ cur.toList.length := by rw [Array.length_toList]; omega
    rw [h5, ← ht, Nat.mul_one, Nat.mul_one, List.append_assoc, List.take_append_of_le_length (by rw [List.length_take]; omega), List.take_take, List.take_take, Nat.min_self, Nat.min_eq_left hi]
/-- What DeleteFunc's loop has in its row at j, i elements kept. -/
structure Sift (q : Int → Bool) (xs : List Int) (i j : Nat) (ys : List Int) : Prop where
  le : i ≤ j
  jle : j ≤ xs.length
  size : ys.length = xs.length
  low : ys.take i = (xs.take j).filter fun x => !q x
  len : i = ((xs.take j).filter fun x => !q x).length
  high : ys.drop j = xs.drop j
theorem Sift.at_ {q : Int → Bool} {xs ys : List Int} {i j : Nat} (h : Sift q xs i j ys) (hj : j < xs.length) : ∃ x, xs[j]? = some x ∧ rd ys j = x ∧ xs.take (j + 1) = xs.take j ++ [x] := by
  refine ⟨xs[j], List.getElem?_eq_getElem hj, rd_of ?_, by rw [List.take_add_one, List.getElem?_eq_getElem hj]; rfl⟩
  have := congrArg (fun l => l[0]?) h.high
  simp only [List.getElem?_drop, Nat.add_zero] at this
  rw [this, List.getElem?_eq_getElem hj]
theorem Sift.strike {q : Int → Bool} {xs ys : List Int} {i j : Nat} {x : Int} (h : Sift q xs i j ys) (hj : j < xs.length) (ht : xs.take (j + 1) = xs.take j ++ [x]) (hq : q x = true) : Sift q xs i (j + 1) ys :=
  ⟨by have := h.le; omega, by omega, h.size, by rw [ht, List.filter_append, h.low]; simp [hq], by rw [ht, List.filter_append]; simp [hq]; exact h.len, by
    have := congrArg (List.drop 1) h.high
    simpa [List.drop_drop] using this⟩
theorem Sift.keep {q : Int → Bool} {xs ys : List Int} {i j : Nat} {x : Int} (h : Sift q xs i j ys) (hj : j < xs.length) (ht : xs.take (j + 1) = xs.take j ++ [x]) (hq : q x = false) : Sift q xs (i + 1) (j + 1) (ys.set i x) := by
  have hi := h.le
  have hs := h.size
  refine ⟨by omega, by omega, by simp [hs], ?_, ?_, ?_⟩
  · rw [ht, List.filter_append, ← h.low, List.take_add_one, List.getElem?_set_self (by omega), List.take_set_of_le (Nat.le_refl _)]
    simp [hq]
  · rw [ht, List.filter_append, List.length_append, ← h.len]; simp [hq]
  · have := congrArg (List.drop 1) h.high
    rw [List.drop_set_of_lt (by omega)]
    simpa [List.drop_drop] using this
theorem Sift.all {q : Int → Bool} {xs ys : List Int} {i : Nat} (h : Sift q xs i xs.length ys) : ys.take i = (xs.filter fun x => !q x) ∧ i = (xs.filter fun x => !q x).length := by
  have h1 := h.low; have h2 := h.len
  rw [List.take_length] at h1 h2
  exact ⟨h1, h2⟩
theorem Sift.start {q : Int → Bool} {xs : List Int} {k : Nat} {x : Int} (hk : xs[k]? = some x) (hq : q x = true) (h : ∀ y ∈ xs.take k, q y = false) : Sift q xs k (k + 1) xs := by
  have hl : k < xs.length := (List.getElem?_eq_some_iff.1 hk).1
  have hf : (xs.take k).filter (fun x => !q x) = xs.take k := List.filter_eq_self.2 fun y hy => by simp [h y hy]
  have h0 : Sift q xs k k xs := ⟨Nat.le_refl _, by omega, rfl, hf.symm, by rw [hf, List.length_take]; omega, rfl⟩
  exact h0.strike hl (by rw [List.take_add_one, hk]; rfl) hq
theorem zeroI (w : World) : (zeroValue 3).run Try.prog w = .ok (.int .i64 0) w := by kernel_rfl
set_option maxHeartbeats 2000000 in
set_option maxRecDepth 100000 in
theorem deletef_any (base : Nat) (v : Value) (xs : List Int) (B g : Nat) (q : Int → Bool) (w0 w : World) (hb : Below B w0 w) (hBb : B ≤ base) (hq : Asks B g q w0) (ho : w.ownsRow base 3 1 v xs.length (nums .i64 xs)) (hl : xs.length < 2 ^ 40) :
    Calls Try.prog 57 #[v, .func (.func 58) #[] #[.pointer (some ⟨g, 0, none⟩)]] w fun e w' =>
      ∃ v', e = .returned v' ∧ w'.ownsRow base 3 1 v' (xs.filter fun x => !q x).length (nums .i64 (xs.filter fun x => !q x)) ∧ Below B w0 w' := by
  obtain ⟨A, c, rfl, hcc, hcm0, hC⟩ := own_IC ho
  have HX := hid (fun c => indexf_any A c xs B g q w0 w hb hq hC hl)
  have HQ := hid hq
  clear hq
  rcases ho.2 with ⟨he, h0⟩ | ⟨g1, cap, cur, he, hgb, -, hcap, hcm, -⟩
  · obtain rfl : xs = [] := List.eq_nil_of_length_eq_zero h0
    injection he with hA _ hc
    subst hA hc
    have HO := hid ho
    clear ho hC
    go_enter Try.func57, Try.ntmps57
    go_wp2_with (go_at_call 62; refine (HX.out _).mono ?_; rintro e w' ⟨r, rfl, rfl, (⟨rfl, -⟩ | ⟨k, x, -, hk, -⟩)⟩; rotate_left 1; exact nomatch hk)
    go_ret
    exact ⟨_, rfl, HO.out, hb⟩
  · injection he with hA _ hc
    subst hA hc
    have HO := hid ho
    clear ho hC
    go_enter Try.func57, Try.ntmps57
    have hcl : ∀ (ty : TypeId) (W : World) (ys : List Int) (i : Nat), i < xs.length → W.ownsRow base 3 1 (.slice (some ⟨g1, 0, none⟩) xs.length c) xs.length (nums .i64 ys) →
        (Builtin.clear_ #[32] ty #[.slice (some ⟨g1, i, none⟩) (xs.length - i) (c - i)]).run Try.prog W = .ok (.tuple #[]) (W.setCells g1 i (List.replicate (xs.length - i) (.int .i64 0))) := by
      intro ty W ys i hi h
      refine Lib.run_clear_slice W 32 3 ty _ Try.underlying32 zeroI rfl rfl g1 i _ _ (by omega) (fun j hj => ?_) fun j hj => ?_
      · have := (own_at h ((i + j : Nat) : Int) (by omega) (by omega)).1
        rw [Int.toNat_natCast] at this
        rw [this]; rfl
      · have := (own_at h ((i + j : Nat) : Int) (by omega) (by omega)).2
        rwa [Int.toNat_natCast] at this
    have HCL := hid hcl
    clear hcl
    rcases hit_or q xs with hall | ⟨k, x, hk, hqx, hbef⟩
    · have HX1 := hid (fun c => (HX.out c).mono (show ∀ e w', _ → (e = Ending.returned (.int .i64 (-1)) ∧ w' = w) by
        rintro e w' ⟨r, rfl, rfl, (⟨rfl, -⟩ | ⟨k, x, -, hk, hqx, -⟩)⟩
        · exact ⟨rfl, rfl⟩
        · have := hall x (List.mem_of_getElem? hk); rw [hqx] at this; cases this))
      clear HX
      go_wp2_with (go_at_call 62; refine (HX1.out _).mono ?_; rintro e w' ⟨rfl, rfl⟩)
      go_ret
      have hf : xs.filter (fun x => !q x) = xs := List.filter_eq_self.2 fun y hy => by simp [hall y hy]
      rw [hf]
      exact ⟨_, rfl, HO.out, hb⟩
    · have HX1 := hid (fun c => (HX.out c).mono (show ∀ e w', _ → (e = Ending.returned (.int .i64 k) ∧ w' = w) by
        rintro e w' ⟨r, rfl, rfl, (⟨-, hall⟩ | ⟨k', x', rfl, hk', hqx', hb'⟩)⟩
        · have := hall x (List.mem_of_getElem? hk); rw [hqx] at this; cases this
        · exact ⟨by rw [hit_one hk' hqx' hb' hk hqx hbef], rfl⟩))
      clear HX
      have hne : ((k : Int) == -1) = false := beq_eq_false_iff_ne.2 (by omega)
      have HS0 := hid (Sift.start hk hqx hbef)
      have hkl := HS0.out.jle
      clear hk hqx hbef
      go_wp2_with (go_at_call 62; refine (HX1.out _).mono ?_; rintro e w' ⟨rfl, rfl⟩)
      clear hne
      go_loopw [5, 6, 7] (fun i j _ wr => ∃ (I J : Nat) (ys : List Int), I < J ∧ J ≤ xs.length ∧ i = .int .i64 I ∧ j = .int .i64 J ∧ Hid (Sift q xs I J ys) ∧ Hid (wr.ownsRow base 3 1 (.slice (some ⟨g1, 0, none⟩) xs.length c) xs.length (nums .i64 ys)) ∧ Below B w0 wr) (fun _ j _ _ => xs.length - (intOf j).toNat)
      case atStart => exact ⟨k, k + 1, xs, by omega, HS0.out.jle, rfl, by go_num, HS0, HO, hb⟩
      case round =>
        clear HO hb HX1
        obtain ⟨I, J, ys, hIJ, hJ, rfl, rfl, HS, HO, hb⟩ := hrel
        have hgl : Hid (B ≤ wr.heap.size) := (show _ ≤ _ from by have := own_lt HO.out g1 rfl; omega)
        by_cases hlt : J < xs.length
        · obtain ⟨x, hx, hrx, htk⟩ := HS.out.at_ hlt
          obtain ⟨hcx, -⟩ := own_at HO.out (J : Int) (by omega) (by omega)
          rw [hrx, Int.toNat_natCast] at hcx
          obtain ⟨hci, hfi⟩ := own_at HO.out (I : Int) (by omega) (by omega)
          rw [Int.toNat_natCast] at hci hfi
          have HT := hid htk
          clear htk hrx hx
          cases hqx : q x with
          | true =>
            go_wp2_with (go_at_call 58; refine (HQ.out _ x hb).mono ?_; rw [hqx]; rintro e w' ⟨rfl, rfl⟩)
            go_roundw
            case rel => exact ⟨I, J + 1, ys, by omega, by omega, rfl, by go_num, HS.out.strike hlt HT.out hqx, HO, hb⟩
            case measure => simp [intOf]; omega
          | false =>
            go_wp2_with (go_at_call 58; refine (HQ.out _ x hb).mono ?_; rw [hqx]; rintro e w' ⟨rfl, rfl⟩)
            go_roundw
            case rel =>
              obtain ⟨h1, h2⟩ := own_store HO.out (I : Int) x
              rw [Int.toNat_natCast] at h1 h2
              exact ⟨I + 1, J + 1, ys.set I x, by omega, by omega, by go_num, by go_num, HS.out.keep hlt HT.out hqx, h1, hb.grown h2 hgl.out (fun r hr => by cases hr; omega)⟩
            case measure => simp [intOf]; omega
        · obtain rfl : J = xs.length := by omega
          have HS1 := hid HS.out.all
          have hcl := fun ty => HCL.out ty wr ys I hIJ HO.out
          go_wp2
          go_ret
          obtain ⟨hs1, hs2⟩ := HS1.out
          obtain ⟨h1, h2⟩ := own_cleared HO.out (show I ≤ xs.length by omega) (List.replicate (xs.length - I) (.int .i64 0)) (by simp; omega)
          refine ⟨_, rfl, ?_, hb.grown h2 hgl.out (fun r hr => by cases hr; omega)⟩
          rw [show (nums IntKind.i64 ys).take I = nums .i64 (ys.take I) by simp [nums, List.map_take], hs1] at h1
          rw [← hs2]
          exact h1

set_option maxHeartbeats 1000000 in
theorem kept_any (F : Value) (A : Option Addr) (c : Nat) (M : List Int) (D : Option Addr) (cd : Nat) (done : List Int) (w : World) (hF : F.oneCell' = true) (hM : IC w A M.length M) (hD : IC w D done.length done) (hl : done.length < 2 ^ 40) :
    Calls Try.prog 48 #[.agg #[F, .slice A M.length c], .slice D done.length cd] w fun e w' =>
      ∃ v, e = .returned v ∧ w'.ownsRow w.heap.size 3 1 v (keptL M done).length (nums .i64 (keptL M done)) ∧ Below w.heap.size w w' := by
  go_enter Try.func48, Try.ntmps48
  go_upto_region 1 with (fail)
  obtain ⟨w1, hw1⟩ : ∃ w1, w.alloc (.cells #[F, .slice A M.length c] 38) = w1 := ⟨_, rfl⟩
  have hBl : Blk w1 w.heap.size 38 #[F, .slice A M.length c] := by rw [← hw1]; exact Blk.new _ _ _
  have hb1 : Below w.heap.size w w1 := by rw [← hw1]; exact below_alloc (Below.refl _ _) _
  have hsz : w1.heap.size = w.heap.size + 1 := by rw [← hw1]; simp
  rw [hw1]
  clear hw1
  have HASK : Hid (Asks (w.heap.size + 1) w.heap.size (fun i => !keepB M i) w1) := (show Asks _ _ _ _ from fun W i hb =>
    strike_any w.heap.size F A c M i W (hBl.below hb (by omega)) (Kd.C_below hM (hb1.trans (hb.mono (by omega)) )))
  have hD1 : IC w1 D done.length done := Kd.C_below hD hb1
  have hnn : (fun i => !!keepB M i) = keepB M := by funext i; simp
  go_wp2_with (first
    | (go_at_call 50; refine (clonei_any D done.length cd done _ hD1 hl).mono ?_; rintro e w2 ⟨v2, rfl, ho2, hb2⟩; replace hb2 := hid hb2; have HO := hid ho2; clear ho2)
    | (go_at_call 57; refine (deletef_any w1.heap.size _ done (w.heap.size + 1) w.heap.size (fun i => !keepB M i) w1 _ (by rw [← hsz]; exact hb2.out) (by omega) HASK.out HO.out hl).mono ?_; rintro e w3 ⟨v3, rfl, ho3, hb3⟩))
  go_ret
  rw [hnn] at ho3
  exact ⟨v3, rfl, own_less ho3 (by omega), hb1.trans (hb3.mono (by omega))⟩
end Go.Proofs.Ytgegjhgifeobdaa


namespace Go.Proofs.Ytgegjhgifeobdaa
set_option linter.unusedSimpArgs false
set_option linter.unusedVariables false
open Go.RowKit Go.Lib Go.Shelf Go.Proofs.YtgegjhgifeobdaaW.PrintWords

section
variable {F : Fence} {n : Nat} {P : Program} {ops : Array Oper} {md : Region.Mode} {Q : Exit → Act → World → Prop}

theorem wpAnyIn_inv2 (Inv : (Nat → Bool) → Act → World → Prop)
    (acyc : ∀ (i : Nat) (o : Oper), ops[i]? = some o → ∀ e ∈ o.after, Region.binds md e = true → e.on < i)
    (step : ∀ (i : Nat) (o : Oper) (L : Nat → Bool) (a : Act) (w : World), ops[i]? = some o → L i = false → (∀ e ∈ o.after, Region.binds md e = true → L e.on = true) → Inv L a w →
      ∀ K : Act → World → Prop, (∀ a' w', Inv (put1 L i) a' w' → K a' w') → if Region.wanted o (yielded ops a.tmps) = true then Oper.wpIn F n P o a w K Q else (∀ f, o.about P w a.eval = some f → F.fn f) ∧ K (a.put o.dst undef) w)
    (done : ∀ L a w, (∀ i < ops.size, L i = true) → Inv L a w → Q .normal a w) :
    ∀ (fuel : Nat) (listed : Array Bool) (a : Act) (w : World), listed.size = ops.size → (List.range ops.size).countP (fun i => !listedOf listed i) ≤ fuel → Inv (listedOf listed) a w → wpAnyIn F n P md ops Q fuel listed a w := by
  have allIn : ∀ listed : Array Bool, listed.size = ops.size → Region.ready md ops listed = [] → ∀ i < ops.size, listedOf listed i = true := by
    intro listed hs hr i
    induction i using Nat.strongRecOn with
    | _ i ih =>
      intro hi
      cases hl : listedOf listed i
      · exfalso
        have : i ∈ Region.ready md ops listed := by
          rw [mem_ready]
          refine ⟨getD_in (by omega) hl, ops[i], by simp [hi], fun e he hbd => ?_⟩
          have h1 := acyc i ops[i] (by simp [hi]) e he hbd
          exact ih e.on h1 (by omega)
        rw [hr] at this
        cases this
      · rfl
  intro fuel
  induction fuel with
  | zero =>
    intro listed a w hs hc hi
    have h0 : ∀ i < ops.size, listedOf listed i = true := by
      intro i hi
      have := List.countP_eq_zero.1 (Nat.le_zero.1 hc) i (List.mem_range.2 hi)
      simpa using this
    refine ⟨?_, done _ _ _ h0 hi⟩
    rw [List.eq_nil_iff_forall_not_mem]
    intro j hj
    rw [mem_ready] at hj
    obtain ⟨h1, o, ho, _⟩ := hj
    have hlt : j < ops.size := (Array.getElem?_eq_some_iff.1 ho).1
    have := h0 j hlt
    have h2 := getD_both h1
    rw [listedOf, h2] at this
    cases this
  | succ fuel ih =>
    intro listed a w hs hc hi
    refine ⟨fun hr => done _ _ _ (allIn listed hs hr) hi, fun i hir => ?_⟩
    obtain ⟨h1, o, ho, hall⟩ := mem_ready.1 hir
    have hlt : i < ops.size := (Array.getElem?_eq_some_iff.1 ho).1
    refine wpOpIn_step ho (fun K hK => step i o (listedOf listed) a w ho (getD_both h1) hall hi K (fun a' w' h' => hK a' w' (ih _ a' w' (by simp [hs]) ?_ ?_)))
    · have h3 : listedOf listed i = false := getD_both h1
      have : (List.range ops.size).countP (fun j => !listedOf (listed.setIfInBounds i true) j) + 1 ≤ (List.range ops.size).countP (fun j => !listedOf listed j) := by
        rw [listedOf_set (by omega)]
        exact countP_put1 _ (List.mem_range.2 hlt) h3
      omega
    · rw [listedOf_set (by omega)]; exact h'

theorem wpIn_region_inv2 {id : Nat} {a : Act} {w : World} (hm : P.follows .mixedOrders = true) (Inv : (Nat → Bool) → Act → World → Prop)
    (acyc : ∀ (i : Nat) (o : Oper), ops[i]? = some o → ∀ e ∈ o.after, Region.binds .any e = true → e.on < i)
    (h0 : Inv (fun _ => false) a w.drew)
    (step : ∀ (i : Nat) (o : Oper) (L : Nat → Bool) (a : Act) (w : World), ops[i]? = some o → L i = false → (∀ e ∈ o.after, Region.binds .any e = true → L e.on = true) → Inv L a w →
      ∀ K : Act → World → Prop, (∀ a' w', Inv (put1 L i) a' w' → K a' w') → if Region.wanted o (yielded ops a.tmps) = true then Oper.wpIn F n P o a w K Q else (∀ f, o.about P w a.eval = some f → F.fn f) ∧ K (a.put o.dst undef) w)
    (done : ∀ L a w, (∀ i < ops.size, L i = true) → Inv L a w → Q .normal a w) : (Code.region id ops true).wpIn F n P Q a w := by
  refine wpIn_region_any hm (wpAnyIn_inv2 Inv acyc step done ops.size _ a _ (by simp) ?_ ?_)
  · exact Nat.le_trans (List.countP_le_length) (by simp)
  · have : listedOf (Array.replicate ops.size false) = fun _ => false := by funext j; exact getD_replicate_false _ _
    rw [this]; exact h0
end
/-- Each operation waits for earlier ones alone, as far as an edge binds. -/
def acycOk2 (ops : Array Oper) : Bool := (List.range ops.size).all fun i => match ops[i]? with | some o => o.after.toList.all fun e => !Region.binds .any e || decide (e.on < i) | none => true
theorem acyc_of2 {ops : Array Oper} (h : acycOk2 ops = true) (i : Nat) (o : Oper) (ho : ops[i]? = some o) : ∀ e ∈ o.after, Region.binds .any e = true → e.on < i := by
  have hi : i < ops.size := (Array.getElem?_eq_some_iff.1 ho).1
  have h1 := List.all_eq_true.1 h i (List.mem_range.2 hi)
  rw [ho] at h1
  intro e he hb
  have h2 := List.all_eq_true.1 h1 e (Array.mem_toList_iff.2 he)
  rw [hb] at h2
  exact of_decide_eq_true (by simpa using h2)
end Go.Proofs.Ytgegjhgifeobdaa
