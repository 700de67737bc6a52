/- math/bits.OnesCount64, walked; it counts the points of a set below 2 ^ 14. -/
/- Iterators of this program, walked: words, and design.sets. -/
import Derived.Test.YtoiahjncpngkeaaDoorR6
import Derived.KernelRfl
import Derived.Test.YtoiahjncpngkeaaDoorDb
import Derived.RangeFuncNested
import Derived.RangeFuncBound
import Derived.RangeFuncCalls
import Derived.RangeFuncLeaves
import Derived.RangeFuncKeeps
import Derived.Shelf.Abstract
import Derived.Shelf.RegionOpen
import Derived.OwnWalkIn
import Derived.TacticsInMore
import Derived.LoopNIn
import Derived.LoopIn
import Derived.Deep.RegionWith
import Derived.Laws.EntriesVeiled
namespace Go.Proofs.YtoiahjncpngkeaaDoor
set_option linter.unusedSimpArgs false
set_option linter.unusedVariables false
open Go.RowKit Go.Lib Go.Proofs.YtoiahjncpngkeaaDoorW.PrintWords

/-- The sum over bits as the library reckons it, over Nat. -/
def ocN (x : Nat) : Nat :=
  let a := (((x / 2) &&& 6148914691236517205) + (x &&& 6148914691236517205)) % 18446744073709551616
  let b := (((a / 4) &&& 3689348814741910323) + (a &&& 3689348814741910323)) % 18446744073709551616
  let c := (((b / 16) + b) % 18446744073709551616) &&& 1085102592571150095
  let d := (c + c / 256) % 18446744073709551616
  let e := (d + d / 65536) % 18446744073709551616
  let f := (e + e / 4294967296) % 18446744073709551616
  f &&& 127
/-- The same count, by halving. -/
def pcN : Nat → Nat → Nat
  | 0, _ => 0
  | k + 1, x => x % 2 + pcN k (x / 2)
def ocOk : Bool := (List.range 128).all fun h => (List.range 128).all fun l => Nat.beq (ocN (h * 128 + l)) (pcN 14 (h * 128 + l))
theorem ocOk_true : ocOk = true := by kernel_rfl
theorem cnt_half (x : Nat) : ∀ k, cnt x (k + 1) = x % 2 + cnt (x / 2) k := by
  intro k
  induction k with
  | zero =>
    simp only [cnt, Nat.testBit_zero]
    rcases Nat.mod_two_eq_zero_or_one x with h | h <;> simp [h]
  | succ k ih =>
    rw [cnt, ih]
    conv => rhs; rw [cnt]
    rw [Nat.testBit_succ]; omega
theorem pcN_cnt : ∀ k x, pcN k x = cnt x k
  | 0, _ => rfl
  | k + 1, x => by rw [pcN, cnt_half, pcN_cnt k]
theorem cnt_more {x k : Nat} (h : x < 2 ^ k) (j : Nat) : cnt x (k + j) = cnt x k := by
  induction j with
  | zero => rfl
  | succ j ih =>
    rw [← Nat.add_assoc, cnt, ih, Nat.testBit_lt_two_pow (Nat.lt_of_lt_of_le h (Nat.pow_le_pow_right (by omega) (by omega)))]
    simp
theorem ocN_eq {x : Nat} (h : x < 16384) : ocN x = cnt x 64 := by
  have h1 := ocOk_true
  unfold ocOk at h1
  simp only [List.all_eq_true, List.mem_range] at h1
  have h2 := h1 (x / 128) (by omega) (x % 128) (Nat.mod_lt _ (by decide))
  rw [Nat.mul_comm, Nat.div_add_mod] at h2
  rw [Nat.eq_of_beq_eq_true h2, pcN_cnt]
  exact (cnt_more (k := 14) h 50).symm
theorem wrapU_mod (a : Nat) : IntKind.u64.wrap (a : Int) = ((a % 18446744073709551616 : Nat) : Int) := by
  simp [IntKind.wrap, IntKind.bits, IntKind.signed]
theorem oc1 (x d m : Nat) (hx : x < 2 ^ 64) (hm : m < 2 ^ 64) : IntKind.u64.wrap (bits .and .u64 ((x : Int) / (d : Int)) (m : Int) + bits .and .u64 (x : Int) (m : Int)) = (((((x / d) &&& m) + (x &&& m)) % 18446744073709551616 : Nat) : Int) := by
  rw [← Int.natCast_ediv, uand (Nat.lt_of_le_of_lt (Nat.div_le_self _ _) hx) hm, uand hx hm, ← Int.natCast_add, wrapU_mod]
theorem oc1a (x : Nat) (hx : x < 2 ^ 64) : IntKind.u64.wrap (bits .and .u64 ((x : Int) / 2) 6148914691236517205 + bits .and .u64 (x : Int) 6148914691236517205) = (((((x / 2) &&& 6148914691236517205) + (x &&& 6148914691236517205)) % 18446744073709551616 : Nat) : Int) :=
  oc1 x 2 6148914691236517205 hx (by decide)
theorem oc1b (x : Nat) (hx : x < 2 ^ 64) : IntKind.u64.wrap (bits .and .u64 ((x : Int) / 4) 3689348814741910323 + bits .and .u64 (x : Int) 3689348814741910323) = (((((x / 4) &&& 3689348814741910323) + (x &&& 3689348814741910323)) % 18446744073709551616 : Nat) : Int) :=
  oc1 x 4 3689348814741910323 hx (by decide)
theorem oc2 (x : Nat) (hx : x < 2 ^ 64) : bits .and .u64 (IntKind.u64.wrap ((x : Int) / 16 + (x : Int))) 1085102592571150095 = ((((x / 16 + x) % 18446744073709551616) &&& 1085102592571150095 : Nat) : Int) := by
  rw [show (x : Int) / 16 + (x : Int) = ((x / 16 + x : Nat) : Int) from by simp, wrapU_mod]
  exact uand (by omega) (by decide)
theorem oc3 (x d : Nat) : IntKind.u64.wrap ((x : Int) + (x : Int) / (d : Int)) = ((((x + x / d) % 18446744073709551616) : Nat) : Int) := by
  rw [show (x : Int) + (x : Int) / (d : Int) = ((x + x / d : Nat) : Int) from by simp, wrapU_mod]
theorem oc3a (x : Nat) : IntKind.u64.wrap ((x : Int) + (x : Int) / 256) = ((((x + x / 256) % 18446744073709551616) : Nat) : Int) := oc3 x 256
theorem oc3b (x : Nat) : IntKind.u64.wrap ((x : Int) + (x : Int) / 65536) = ((((x + x / 65536) % 18446744073709551616) : Nat) : Int) := oc3 x 65536
theorem oc3c (x : Nat) : IntKind.u64.wrap ((x : Int) + (x : Int) / 4294967296) = ((((x + x / 4294967296) % 18446744073709551616) : Nat) : Int) := oc3 x 4294967296
theorem i64_and127 (x : Nat) (hx : x < 2 ^ 64) : bits .and .i64 (wrap64 (x : Int)) 127 = ((x &&& 127 : Nat) : Int) := by
  show IntKind.i64.wrap ((BitVec.ofInt 64 (wrap64 (x : Int)) &&& BitVec.ofInt 64 127).toNat : Int) = _
  have e : (BitVec.ofInt 64 (wrap64 (x : Int))).toNat = x := by
    rw [BitVec.toNat_ofInt]
    unfold wrap64
    omega
  have e2 : (BitVec.ofInt 64 127).toNat = 127 := by decide
  rw [BitVec.toNat_and, e, e2, IntKind.wrap_i64]
  have : x &&& 127 ≤ 127 := Nat.and_le_right
  omega
set_option maxHeartbeats 1000000 in
set_option maxRecDepth 100000 in
theorem ones_any (x : Nat) (hx : x < 16384) (w : World) :
    Calls Tryd.prog 34 #[.int .u64 x] w fun e w' => e = .returned (.int .i64 (cnt x 64)) ∧ w' = w := by
  go_enter Tryd.func34, Tryd.ntmps34
  go_wp2
  go_ret
  refine ⟨ret_i64 ?_, rfl⟩
  rw [oc1a x (by omega), oc1b _ (Nat.mod_lt _ (by decide)), oc2 _ (Nat.mod_lt _ (by decide)), oc3a, oc3b, oc3c, i64_and127 _ (Nat.mod_lt _ (by decide)), ← ocN_eq hx]
  rfl
end Go.Proofs.YtoiahjncpngkeaaDoor


namespace Go.Proofs.YtoiahjncpngkeaaDoor
set_option linter.unusedSimpArgs false
set_option linter.unusedVariables false
open Go.RowKit Go.Lib Go.Shelf Go.Proofs.YtoiahjncpngkeaaDoorW.PrintWords
attribute [local go_sem] Oper.semAt_some

/-- What a round keeps of the iterator's own cells: all cells from block B on. -/
def KC (B : Nat) (W W' : World) : Prop := W.heap.size ≤ W'.heap.size ∧ ∀ k c t f, B ≤ k → W.heap[k]? = some (.cells c t f) → W'.heap[k]? = some (.cells c t f)
theorem KC.refl (B : Nat) (W : World) : KC B W W := ⟨Nat.le_refl _, fun _ _ _ _ _ h => h⟩
theorem KC.trans {B : Nat} {X Y Z : World} (h : KC B X Y) (k : KC B Y Z) : KC B X Z := ⟨Nat.le_trans h.1 k.1, fun j c t f hj hc => k.2 j c t f hj (h.2 j c t f hj hc)⟩
theorem KC.of_grown {B : Nat} {W W' : World} {row : Option Nat} (h : W.grownBy W' row) (hr : ∀ r, row = some r → r < B) : KC B W W' :=
  ⟨h.size, fun k c t f hk hc => (h.block k (by
    rcases Nat.lt_or_ge k W.heap.size with h1 | h1
    · exact h1
    · rw [Array.getElem?_eq_none h1] at hc; cases hc) (fun e => by have := hr k e.symm; omega)).trans hc⟩
theorem KC.of_below {B : Nat} {W W' : World} (h : Below W.heap.size W W') : KC B W W' := KC.of_grown (row := none) (grown_of_below h none) (by rintro r ⟨⟩)
theorem KC.set {B : Nat} (W : World) {p : Addr} (h : p.block < B) (v : Value) : KC B W (W.setCell p v) :=
  ⟨by simp [World.setCell], fun k c t f hk hc => (Below.heap_setCell W p v k (by omega)).trans hc⟩
theorem KC.put {B : Nat} {W : World} {l : Nat} {o o' : Obj} (hl : W.heap[l]? = some o) (ho : o.isCells = false) : KC B W (W.putObj l o') :=
  ⟨by simp, fun k c t f _ hc => by
    rw [World.putObj_heap_other (fun e => by subst e; rw [hl] at hc; cases hc; simp [Obj.isCells] at ho)]
    exact hc⟩
theorem KC.cell {B b o : Nat} {v : Value} {W W' : World} (h : KC B W W') (hb : B ≤ b) (hc : W.cell? ⟨b, o, none⟩ = some v) : W'.cell? ⟨b, o, none⟩ = some v := by
  unfold World.cell? at hc ⊢
  dsimp only at hc ⊢
  split at hc
  · rename_i c e f hh
    rw [h.2 b c e f hb hh]
    exact hc
  · cases hc
theorem room_of_none {F : Fence} (hd : F.depth = none) (k : Nat) : F.room k := fun d h => by rw [hd] at h; cases h
theorem RoundIn.anyDepth {F : Fence} (hd : F.depth = none) {m m' : Nat} {P : Program} {l : Nat} {f : FuncId} {tmps : Array Value} {assign body : Code} {w : World} {R : Ending → World → Prop}
    (h : RoundIn F m P l f tmps assign body w R) : RoundIn F m' P l f tmps assign body w R := ⟨h.1, fun c cs _ => h.2 c cs (room_of_none hd _)⟩
theorem YieldAt.anyDepth {F : Fence} (hd : F.depth = none) {m : Nat} (m' : Nat) {P : Program} {l : Nat} {args : Array Value} {W : World} {R : Ending → World → Prop} (h : YieldAt F m P l args W R) : YieldAt F m' P l args W R := by
  obtain ⟨fn, tmps, assign, body, hy, hR⟩ := h
  exact ⟨fn, tmps, assign, body, hy, RoundIn.anyDepth hd hR⟩
theorem grown_drew (W : World) : W.grownBy W.drew none := ⟨rfl, rfl, rfl, Nat.le_refl _, fun _ _ _ => rfl⟩

/-- How a call that yields ends: all has come, or a part, and a round has said 'no more'. -/
def YEnd (B : Nat) (J Jx : List Nat → World → Prop) (pre xs : List Nat) (W : World) (b : Bool) (W' : World) : Prop :=
  (b = true ∧ J (pre ++ xs) W' ∧ KC B W W') ∨ (b = false ∧ ∃ q, q <+: xs ∧ Jx (pre ++ q) W')
/-- The sets that are yielded below a set s: those with so many points more, from a point on. -/
def dnL (n : Nat) : Nat → Nat → Nat → List Nat
  | 0, _, s => [s]
  | l + 1, f, s => (List.range (n - l - f)).flatMap fun j => dnL n l (f + j + 1) (s ||| 2 ^ (f + j))

set_option maxHeartbeats 1000000 in
set_option maxRecDepth 100000 in
theorem down_any (l B n N : Nat) (hn : n ≤ 16) (J Jx : List Nat → World → Prop) (hJd : ∀ s W, J s W → J s W.drew)
    (hY : ∀ m pre x W, x < 2 ^ n → pre.length < N → J pre W → YieldAt Fence.wide m Tryd.prog l #[.int .u64 (x : Nat)] W fun e W' =>
      (e = .returned (.bool true) ∧ J (pre ++ [x]) W' ∧ KC B W W') ∨ (e = .returned (.bool false) ∧ Jx (pre ++ [x]) W'))
    (B3 B1 B4 : Nat) (h3 : B ≤ B3) (h1 : B ≤ B1) (h4 : B ≤ B4) (left : Nat) :
    ∀ (f s : Nat) (pre : List Nat) (W : World), s < 2 ^ n → f ≤ n → left ≤ 16 → pre.length + (dnL n left f s).length ≤ N → J pre W → W.cell? ⟨B3, 0, none⟩ = some (.func (.yield l) #[] #[]) → W.cell? ⟨B1, 0, none⟩ = some (.int .i64 n) →
      W.cell? ⟨B4, 0, none⟩ = some (.func (.func 58) #[] #[.pointer (some ⟨B3, 0, none⟩), .pointer (some ⟨B1, 0, none⟩), .pointer (some ⟨B4, 0, none⟩)]) →
      Calls Tryd.prog 58 #[.int .u64 s, .int .i64 f, .int .i64 left, .pointer (some ⟨B3, 0, none⟩), .pointer (some ⟨B1, 0, none⟩), .pointer (some ⟨B4, 0, none⟩)] W fun e W' =>
        ∃ b : Bool, e = .returned (.bool b) ∧ YEnd B J Jx pre (dnL n left f s) W b W' := by
  induction left with
  | zero =>
    intro f s pre W hs hf _ hN hJ c3 c1 c4
    have hs64 : s < 2 ^ 64 := Nat.lt_of_lt_of_le hs (Nat.pow_le_pow_right (by omega) (by omega))
    refine (callsIn_wide (n := 3)).1 ?_
    refine callsIn_of_wp Tryd.func58 rfl trivial ?_ rfl
    simp only [Tryd.ntmps58, List.size_toArray, List.length_cons, List.length_nil, Nat.reduceAdd, Nat.reduceSub, Array.replicate_succ, Array.replicate_zero, List.push_toArray, List.append_toArray, List.nil_append, List.cons_append]
    obtain ⟨fn, tmps, assign, body, hy, hR⟩ := hY 2 pre s W hs (by simp [dnL] at hN; omega) hJ
    gi_wp2
    refine hR.mono ?_
    rintro e W' (⟨rfl, hJ', hk⟩ | ⟨rfl, hJx'⟩)
    · gi_wp2
      go_ret
      exact ⟨true, rfl, .inl ⟨rfl, hJ', hk⟩⟩
    · gi_wp2
      go_ret
      exact ⟨false, rfl, .inr ⟨rfl, [s], List.prefix_refl _, hJx'⟩⟩
  | succ left ih =>
    intro f s pre W hs hf hl16 hN hJ c3 c1 c4
    have hz : (((left + 1 : Nat) : Int) == 0) = false := by simp; omega
    have hs64 : s < 2 ^ 64 := Nat.lt_of_lt_of_le hs (Nat.pow_le_pow_right (by omega) (by omega))
    have HR := hid (show ∀ j, j < n - left - f → List.range (n - left - f) = List.range j ++ (j :: (List.range' (j + 1) (n - left - f - j - 1))) from by
      intro j hlt
      have h1 : n - left - f = j + ((n - left - f - j - 1) + 1) := by omega
      conv => lhs; rw [h1, List.range_add]
      congr 1
      rw [List.range_succ_eq_map, List.map_cons, List.map_map]
      congr 1
      rw [List.range'_eq_map_range]
      apply List.map_congr_left
      intro a _
      simp; omega)
    have HN := hid (show ∀ j, j < n - left - f → (pre ++ (List.range j).flatMap fun j => dnL n left (f + j + 1) (s ||| 2 ^ (f + j))).length + (dnL n left (f + j + 1) (s ||| 2 ^ (f + j))).length ≤ N from by
      intro j hlt
      refine Nat.le_trans ?_ hN
      simp only [dnL]
      rw [HR.out j hlt, List.flatMap_append, List.flatMap_cons]
      simp only [List.length_append]
      omega)
    clear hN
    have HS := hid hs
    have HS64 := hid hs64
    have HJD := hid hJd
    clear hs hs64 hJd hY
    have IH := fun (j : Nat) (pre : List Nat) (W : World) (hj : f + j < n) => hid (ih (f + j + 1) (s ||| 2 ^ (f + j)) pre W (Nat.or_lt_two_pow HS.out (Nat.pow_lt_pow_right (by omega) hj)) (by omega) (by omega))
    clear ih
    rw [show ((left + 1 : Nat) : Int) = (left : Int) + 1 from by simp] at hz ⊢
    go_enter Tryd.func58, Tryd.ntmps58
    go_wp2
    go_loopw [10] (fun p wr => ∃ j : Nat, j ≤ n - left - f ∧ p = .int .i64 ((f + j : Nat) : Int) ∧ J (pre ++ (List.range j).flatMap fun j => dnL n left (f + j + 1) (s ||| 2 ^ (f + j))) wr ∧ KC B W wr) (fun p _ => n + 1 - (intOf p).toNat)
    case atStart => exact ⟨0, by omega, rfl, by simpa using hJ, KC.refl _ _⟩
    case round =>
      obtain ⟨j, hj, rfl, hJ', hk⟩ := hrel
      have c3' := hk.cell h3 c3
      have c1' := hk.cell h1 c1
      have c4' := hk.cell h4 c4
      by_cases hlt : j < n - left - f
      · have hfj : f + j < n := by omega
        have hle : decide ((f : Int) + (j : Int) + ((left : Int) + 1) ≤ (n : Int)) = true := by simp; omega
        have hT : ((f : Int) + (j : Int)).toNat = f + j := by omega
        have hp64 : 2 ^ (f + j) < 2 ^ 64 := Nat.pow_lt_pow_right (by omega) (by omega)
        have HA := hid (show bits BinOp.or IntKind.u64 (s : Int) (IntKind.u64.wrap (2 ^ ((f : Int) + (j : Int)).toNat)) = ((s ||| 2 ^ (f + j) : Nat) : Int) from by
          rw [hT, show ((2 : Int) ^ (f + j)) = ((2 ^ (f + j) : Nat) : Int) from by simp, wrapU_nat hp64, uor HS64.out hp64])
        have HB := hid (show IntKind.i64.wrap ((f : Int) + (j : Int) + 1) = ((f + j + 1 : Nat) : Int) from by rw [IntWalk.i64_in _ (by omega)]; omega)
        have HC := hid (show IntKind.i64.wrap (left : Int) = (left : Int) from IntWalk.i64_in _ (by omega))
        clear hT hp64
        go_wp2
        go_region_with (go_at_call 58; rw [HA.out, HB.out, HC.out]; refine ((IH j _ _ hfj).out (HN.out j hlt) (HJD.out _ _ hJ') c3' c1' c4').mono ?_; rintro e w2 ⟨b, rfl, hp⟩)
        all_goals
          rcases hp with ⟨rfl, hJ2, hk2⟩ | ⟨rfl, q, hq, hx⟩
          · go_wp2
            go_roundw
            case rel => exact ⟨j + 1, by omega, by go_num, by rw [List.range_succ, List.flatMap_append, ← List.append_assoc]; simpa using hJ2, hk.trans ((KC.of_below (below_drew (Below.refl _ _))).trans hk2)⟩
            case measure => simp [intOf]; omega
          · go_wp2
            go_ret
            refine ⟨false, rfl, .inr ⟨rfl, ((List.range j).flatMap fun j => dnL n left (f + j + 1) (s ||| 2 ^ (f + j))) ++ q, ?_, by simpa using hx⟩⟩
            obtain ⟨r, hr'⟩ := hq
            refine ⟨r ++ (List.range' (j + 1) (n - left - f - j - 1)).flatMap fun j => dnL n left (f + j + 1) (s ||| 2 ^ (f + j)), ?_⟩
            simp only [dnL]
            rw [HR.out j hlt, List.flatMap_append, List.flatMap_cons, ← hr']
            simp
      · have : j = n - left - f := by omega
        subst this
        have hle : decide ((f : Int) + ((n - left - f : Nat) : Int) + ((left : Int) + 1) ≤ (n : Int)) = false := by simp; omega
        go_wp2
        go_ret
        exact ⟨true, rfl, .inl ⟨rfl, hJ', hk⟩⟩

abbrev U64 := { x : Nat // x < 2 ^ 64 }
/-- A loop's word, over the bare numbers. -/
def OverNat (J : List U64 → World → Prop) (xs : List Nat) (W : World) : Prop := ∃ ys : List U64, ys.map (·.1) = xs ∧ J ys W
set_option maxHeartbeats 1000000 in
set_option maxRecDepth 100000 in
/-- **'range sets(n, k)': for every loop body that keeps the iterator's own cells.** -/
theorem sets_stops (n k m B B1 B2 : Nat) (hn : n ≤ 16) (hk : k ≤ 16) (hm : 1 ≤ m) (w : World) (hB : B ≤ w.heap.size) (h1 : B ≤ B1) (h2 : B ≤ B2)
    (c1 : w.cell? ⟨B1, 0, none⟩ = some (.int .i64 n)) (c2 : w.cell? ⟨B2, 0, none⟩ = some (.int .i64 k)) :
    SeqStopsK Fence.wide m Tryd.prog 57 #[.pointer (some ⟨B1, 0, none⟩), .pointer (some ⟨B2, 0, none⟩)] (fun x : U64 => #[.int .u64 ((x.1 : Nat) : Int)]) (KC B)
      (fun xs => xs.map (·.1) = dnL n k 0 0) (fun pre => pre.map (·.1) <+: dnL n k 0 0) (dnL n k 0 0).length w := by
  intro l J Jx W hW hJ hJx hY h0
  have hb1 : B1 < w.heap.size := World.block_lt_of_cell? w _ c1
  have hb2 : B2 < w.heap.size := World.block_lt_of_cell? w _ c2
  have c1' := (hW.cell (p := ⟨B1, 0, none⟩) hb1).trans c1
  have c2' := (hW.cell (p := ⟨B2, 0, none⟩) hb2).trans c2
  have hsz := hW.size
  have hg : ∀ s W1 W2, J s W1 → W1.grownBy W2 none → J s W2 := fun s W1 W2 hs hg => hJ s W1 W2 none hs hg (by rintro r ⟨⟩)
  have hd := down_any l B n (dnL n k 0 0).length hn (OverNat J) (OverNat Jx)
    (fun s W ⟨ys, e, h⟩ => ⟨ys, e, hg _ _ _ h (grown_drew W)⟩)
    (fun m' pre x W' hx hl ⟨ys, e, h⟩ => by
      have hx64 : x < 2 ^ 64 := Nat.lt_of_lt_of_le hx (Nat.pow_le_pow_right (by omega) (by omega))
      refine YieldAt.anyDepth rfl m' (YieldAt.mono (hY ys ⟨x, hx64⟩ W' h (by rw [← e] at hl; simpa using hl)) ?_)
      rintro e' W2 (⟨rfl, hj, hk⟩ | ⟨rfl, hj⟩)
      · exact .inl ⟨rfl, ⟨ys ++ [⟨x, hx64⟩], by simp [e], hj⟩, hk⟩
      · exact .inr ⟨rfl, ⟨ys ++ [⟨x, hx64⟩], by simp [e], hj⟩⟩)
  refine callsIn_wide.2 ?_
  have l2 : B2 < W.heap.size := by omega
  have l1 : B1 < W.heap.size := by omega
  have l2' : B2 < W.heap.size + 1 := by omega
  have l1' : B1 < W.heap.size + 1 := by omega
  have n2 : ¬ B2 = W.heap.size + 1 := by omega
  have n1 : ¬ B1 = W.heap.size + 1 := by omega
  have n2' : ¬ W.heap.size + 1 = B2 := by omega
  have n1' : ¬ W.heap.size + 1 = B1 := by omega
  have HD := hid (hd W.heap.size B1 (W.heap.size + 1) (by omega) h1 (by omega) k 0 0 [])
  have HG := hid hg
  clear hd hg hY hJ hJx
  go_enter Tryd.func57, Tryd.ntmps57
  have HJ0 := hid (show ∀ W', Below W.heap.size W W' → OverNat J [] W' from fun W' hb => ⟨[], rfl, HG.out _ _ _ h0 (grown_of_below hb none)⟩)
  go_wp2_with (go_at_call 58; go_must (refine (HD.out _ (Nat.two_pow_pos _) (Nat.zero_le _) hk (Nat.le_of_eq (Nat.zero_add _)) (HJ0.out _ (by exact below_alloc (below_alloc (Below.refl _ _) _) _)) (by simp [go_sem]) (by simp [go_sem, c1', n1, n1', l1, l1']) (by simp [go_sem])).mono ?_; rintro e w' ⟨b, rfl, hp⟩))
  go_end0
  refine ⟨⟨_, rfl⟩, ?_⟩
  rcases hp with ⟨rfl, ⟨ys, e, hj⟩, _⟩ | ⟨rfl, q, hq, ⟨ys, e, hj⟩⟩
  · exact .inl ⟨ys, by simpa using e, hj⟩
  · exact .inr ⟨ys, by rw [e]; simpa using hq, hj⟩
end Go.Proofs.YtoiahjncpngkeaaDoor
