/- embed.along, walked. -/
/- embed.Kept, walked: slices.IndexFunc, slices.DeleteFunc at ints with its closure, and Kept itself. -/
/- A region that draws its order, walked by an invariant, where an edge that does not bind may point ahead. -/
/- embed.Best where there is a best embedding. -/
/- embed.Best where there is none. -/
import Derived.Test.YtheclfjbedajfaaDoorMv
import Derived.Test.YtheclfjbedajfaaDoorSi
import Derived.Lib.SliceRun
import Derived.OrdersIn
import Derived.StillTail
namespace Go.Proofs.YtheclfjbedajfaaDoor
set_option linter.unusedSimpArgs false
set_option linter.unusedVariables false
open Go.RowKit Go.Lib Go.Shelf Go.Proofs.YtheclfjbedajfaaDoorW.PrintWords
attribute [local go_sem] Oper.semAt_some

/-- What a block becomes, which is the k-th that takes one. -/
def alongAt (mv : Nat → Nat) (cs os : List Nat) (k : Nat) : Int :=
  if ((os.take k).map mv).count (mv (os.getD k 0)) < cs.count (mv (os.getD k 0)) then ((cs.idxOf (mv (os.getD k 0)) + ((os.take k).map mv).count (mv (os.getD k 0)) : Nat) : Int) else -1
def alongK (n : Nat) (mv : Nat → Nat) (cs os : List Nat) : Nat → List Int
  | 0 => List.replicate n 0
  | k + 1 => (alongK n mv cs os k).set (os.getD k 0) (alongAt mv cs os k)
theorem alongK_length (n : Nat) (mv : Nat → Nat) (cs os : List Nat) : ∀ k, (alongK n mv cs os k).length = n
  | 0 => by simp [alongK]
  | k + 1 => by simp [alongK, alongK_length n mv cs os k]
def alongM (bs cs fs os : List Nat) : List Int := alongK bs.length (fun i => movedN (bs.getD i 0) fs) cs os os.length
/-- What the map of used blocks holds behind the first k. -/
def UsK (W : World) (b k : Nat) (mv : Nat → Nat) (cs os : List Nat) : Prop := ∃ D, W.ownsMap (H := Unit) Tryd.prog 25 (plainElem Tryd.prog 3) b k D ∧
  ∀ s : Nat, D.atKey (.int .u64 s) (.lit (.int .i64 0)) = .lit (.int .i64 (min (((os.take k).map mv).count s) (cs.count s) : Nat))
theorem ownsMap_block {W W' : World} {k : TypeId} {R : Value → Option (DataW Unit × List MemPlace)} {b n : Nat} {D : DataW Unit} (h : W.ownsMap Tryd.prog k R b n D) (hb : W'.heap[b]? = W.heap[b]?) : W'.ownsMap Tryd.prog k R b n D := by
  obtain ⟨es, clock, h1, h2⟩ := h
  exact ⟨es, clock, hb.trans h1, h2⟩
section
variable {w1 W w2 : World} {p : Addr} {v : Value}
theorem sk_drew (h : W.cell? p = some v ∧ Below w1.heap.size w1 W) : W.drew.cell? p = some v ∧ Below w1.heap.size w1 W.drew := ⟨h.1, below_drew h.2⟩
theorem sk_below (h : W.cell? p = some v ∧ Below w1.heap.size w1 W) : Below w1.heap.size w1 W := h.2
theorem sk_alloc (h : W.cell? p = some v ∧ Below w1.heap.size w1 W) (o : Obj) : (W.alloc o).cell? p = some v ∧ Below w1.heap.size w1 (W.alloc o) := ⟨cell?_alloc_some o h.1, Below.alloc h.2 h.2.size o⟩
theorem lt_of_cell {W : World} {p : Addr} {v : Value} (h : W.cell? p = some v) : p.block < W.heap.size := by
  rcases Nat.lt_or_ge p.block W.heap.size with h' | h'
  · exact h'
  · simp [World.cell?, Array.getElem?_eq_none h'] at h
theorem sk_call (h : W.cell? p = some v ∧ Below w1.heap.size w1 W) (hb : Below W.heap.size W w2) : w2.cell? p = some v ∧ Below w1.heap.size w1 w2 := ⟨(hb.cell (lt_of_cell h.1)).trans h.1, h.2.trans (hb.mono h.2.size)⟩
theorem al_bcell (hb : Below W.heap.size W w2) : ∃ N, N = W.heap.size ∧ (∀ b o, b < N → w2.cell? ⟨b, o, none⟩ = W.cell? ⟨b, o, none⟩) ∧ (∀ b o, b < N → w2.frozen? ⟨b, o, none⟩ = W.frozen? ⟨b, o, none⟩) ∧ (∀ b, b < N → b < w2.heap.size) :=
  ⟨_, rfl, fun b o hb' => hb.cell (show b < _ by omega), fun b o hb' => hb.frozen (show b < _ by omega), fun b h => Nat.lt_of_lt_of_le h hb.size⟩
theorem sk_set {a : Addr} (h : W.cell? p = some v ∧ Below w1.heap.size w1 W) (ha : w1.heap.size ≤ a.block) (hp : p.block < w1.heap.size) (u : Value) : (W.setCell a u).cell? p = some v ∧ Below w1.heap.size w1 (W.setCell a u) :=
  ⟨by rw [← h.1]; exact World.cell?_setCell_far W a p u (by omega), Below.setCell h.2 ha u⟩
end
theorem own_bd {w w2 : World} {base : Nat} {e : TypeId} {size n : Nat} {v : Value} {xs : List Value} (h : w.ownsRow base e size v n xs) (hb : Below w.drew.heap.size w.drew w2) : w2.ownsRow base e size v n xs := pw_own_below h ⟨hb.os, hb.tape, hb.output, hb.size, hb.block⟩
theorem blk_set2 {W w2 : World} {g : Nat} {t : TypeId} {a b x y : Value} (h : Blk W g t #[a, b]) (hb : Below W.drew.heap.size W.drew w2) : Blk ((w2.setCell ⟨g, 0, none⟩ x).setCell ⟨g, 1, none⟩ y) g t #[x, y] := by
  have h0 : Blk w2 g t #[a, b] := (hb.block g h.lt).trans h
  exact ((h0.set_ 0 x).set_ 1 y)
theorem own_set2 {w2 : World} {base n size g : Nat} {e : TypeId} {v x y : Value} {xs : List Value} (h : w2.ownsRow base e size v n xs) (hne : v.ownBlock ≠ some g) : ((w2.setCell ⟨g, 0, none⟩ x).setCell ⟨g, 1, none⟩ y).ownsRow base e size v n xs :=
  own_setCell (own_setCell h (fun e => hne e.symm) x) (fun e => hne e.symm) y
theorem own_ne_ge {W : World} {base n size g : Nat} {e : TypeId} {v : Value} {xs : List Value} (h : W.ownsRow base e size v n xs) (hg : W.heap.size ≤ g) : v.ownBlock ≠ some g := fun e => by have := own_lt h g e; omega
theorem own_ne_base {W : World} {base n size g : Nat} {e : TypeId} {v : Value} {xs : List Value} (h : W.ownsRow base e size v n xs) (hg : g < base) : v.ownBlock ≠ some g := fun e => by have := own_base h g e; omega
theorem own_made_at {W : World} {base g m : Nat} {e : TypeId} (hg : g = W.heap.size) (hb : base ≤ W.heap.size) (hm : m ≤ 9223372036854775807) :
    (W.alloc (.cells (madeCells #[.int .i64 0] m) e)).ownsRow base e 1 (.slice (some ⟨g, 0, none⟩) m m) m (nums .i64 (List.replicate m 0)) := by subst hg; exact own_made W base e .i64 m hb hm
/-- What stands in the world behind the first k of along's rounds. -/
structure AlSt (b0 : Nat) (w1 : World) (v17 : Value) (gM gE n : Nat) (fs : List Nat) (mv : Nat → Nat) (cs os : List Nat) (M : List Int) (k : Nat) (W : World) : Prop where
  below : Below (b0 + 2) w1 W
  size : w1.heap.size ≤ W.heap.size
  own17 : W.ownsRow w1.heap.size 3 1 v17 fs.length (nums .i64 (il fs))
  blk : Blk W gE 39 #[v17, .slice (some ⟨gM, 0, none⟩) n n]
  ownM : W.ownsRow w1.heap.size 3 1 (.slice (some ⟨gM, 0, none⟩) n n) n (nums .i64 M)
  us : UsK W (b0 + 2) k mv cs os
section
variable {b0 : Nat} {w1 W W' : World} {v17 : Value} {gM gE n k : Nat} {fs : List Nat} {mv : Nat → Nat} {cs os : List Nat} {M : List Int}
theorem AlSt.store (h : AlSt b0 w1 v17 gM gE n fs mv cs os M k W) (hne : v17.ownBlock ≠ some gM) (hEM : gE ≠ gM) (hg : w1.heap.size ≤ gM) (hb0 : b0 + 2 < w1.heap.size) (i : Nat) (x : Int) : AlSt b0 w1 v17 gM gE n fs mv cs os (M.set i x) k (W.setCell ⟨gM, i, none⟩ (.int .i64 x)) := by
  have hs := own_store h.ownM (i : Int) x
  rw [Int.toNat_natCast] at hs
  refine ⟨h.below.setCell (show b0 + 2 ≤ gM by omega) _, Nat.le_trans h.size hs.2.size, own_setCell h.own17 (fun e => hne e.symm) _, h.blk.far hEM _, hs.1, ?_⟩
  obtain ⟨D, h1, h2⟩ := h.us
  exact ⟨D, h1.kept hs.2 (by intro e; injection e with e; omega), h2⟩
theorem AlSt.alloc (h : AlSt b0 w1 v17 gM gE n fs mv cs os M k W) (hb0 : b0 + 2 < w1.heap.size) (o : Obj) : AlSt b0 w1 v17 gM gE n fs mv cs os M k (W.alloc o) := by
  refine ⟨h.below.alloc (by have := h.size; omega) o, Nat.le_trans h.size (by simp), own_alloc h.own17 o, h.blk.alloc o, own_alloc h.ownM o, ?_⟩
  obtain ⟨D, h1, h2⟩ := h.us
  exact ⟨D, h1.alloc o, h2⟩
theorem AlSt.upd (h : AlSt b0 w1 v17 gM gE n fs mv cs os M k W) (hg : W.grownBy W' (some (b0 + 2))) (hb0 : b0 + 2 < w1.heap.size) (hE : w1.heap.size ≤ gE) (hu : UsK W' (b0 + 2) (k + 1) mv cs os) : AlSt b0 w1 v17 gM gE n fs mv cs os M (k + 1) W' :=
  ⟨h.below.grown hg (by have := h.size; omega) (fun r hr => by cases hr; omega), Nat.le_trans h.size hg.size, own_other h.own17 hg (Classical.or_iff_not_imp_left.2 fun _ e => by have := own_base h.own17 _ e; omega), h.blk.grown hg (by intro e; injection e with e; omega),
    own_other h.ownM hg (.inr (by intro e; have := own_base h.ownM _ e; omega)), hu⟩
theorem AlSt.skip (h : AlSt b0 w1 v17 gM gE n fs mv cs os M k W) (hu : UsK W (b0 + 2) (k + 1) mv cs os) : AlSt b0 w1 v17 gM gE n fs mv cs os M (k + 1) W := ⟨h.below, h.size, h.own17, h.blk, h.ownM, hu⟩
end
theorem al_num {J U C e L : Nat} (hJ : J < L) (hC : C ≤ L) (hL : L ≤ 2 ^ 20) (hU : min e C = U) (h : U < C) :
    wrap64 ((J : Int) + (U : Int)) = ((J + U : Nat) : Int) ∧ U = e ∧ e < C ∧ (Lit.int .i64 ((U : Int) + 1)).wf = true :=
  ⟨by rw [← Int.natCast_add]; exact wrap64_nat (by omega), by omega, by omega, by simp [Lit.wf, IntKind.min, IntKind.max, IntKind.signed, IntKind.bits]; omega⟩
theorem al_num2 {U C L : Nat} (hC : C ≤ L) (hL : L ≤ 2 ^ 20) (h : U < C) : U ≤ 2 ^ 20 := by omega
theorem us_next {D : DataW Unit} {k S e C U : Nat} {mv : Nat → Nat} {cs os : List Nat} (hD : ∀ s : Nat, D.atKey (.int .u64 s) (.lit (.int .i64 0)) = .lit (.int .i64 (min (((os.take k).map mv).count s) (cs.count s) : Nat))) (hM : Maps.IsMap D)
    (he : ((os.take k).map mv).count S = e) (hC : cs.count S = C) (hU : min e C = U) (hUC : U < C) (hUS : ∀ s : Nat, (((os.take (k + 1)).map mv).count s) = ((os.take k).map mv).count s + if S = s then 1 else 0) (s : Nat) :
    (D.put (.int .u64 S) (.lit (.int .i64 ((U : Int) + 1)))).atKey (.int .u64 s) (.lit (.int .i64 0)) = .lit (.int .i64 (min (((os.take (k + 1)).map mv).count s) (cs.count s) : Nat)) := by
  rw [hUS s]
  by_cases hs : S = s
  · subst hs
    rw [Maps.atKey_put_same hM (show WideAt.IsKeyLit (.int .u64 (S : Int)) from trivial), he, hC, if_pos rfl]
    simp only [DataW.lit.injEq, Lit.int.injEq, true_and]
    omega
  · rw [Maps.atKey_put_other (fun e => hs (by injection e with _ e; exact (Int.ofNat.inj e).symm)), hD s, if_neg hs, Nat.add_zero]
theorem zeroIz (w : World) : (zeroValue 3).run Tryd.prog w = .ok (.int .i64 0) w := by kernel_rfl
/-- Where a set begins, 0 if it is not there. -/
def atJ (cs : List Nat) (S : Nat) : Nat := if S ∈ cs then cs.idxOf S else 0
theorem pl_look {w W : World} {b : Nat} {cs : List Nat} (h : Pl w b cs) (hW : W.heap[b]? = w.heap[b]?) {S : Nat} (hS : S < 2 ^ 64) :
    (Instr.lookup 76 (.map (some b)) (.int .u64 S) false).run Tryd.prog W = .ok (.agg #[.int .i64 (atJ cs S), .int .i64 (cs.count S)]) W := by
  obtain ⟨D, h1, h2⟩ := h
  obtain ⟨v, ps, hrun, hv⟩ := (ownsMap_block h1 hW).lookup (t := 76) keyedU Tryd.underlying76 (zeroP W) (pairR_mk 0 0) (keyU hS)
  rw [h2 S, List.take_length] at hv
  rw [hrun]
  by_cases hin : S ∈ cs
  · rw [if_pos hin] at hv
    rw [pairR_inv hv, atJ, if_pos hin]
  · rw [if_neg hin] at hv
    rw [pairR_inv hv, atJ, if_neg hin, List.count_eq_zero.2 hin]
    rfl
theorem us_look {W : World} {b k : Nat} {mv : Nat → Nat} {cs os : List Nat} (h : UsK W b k mv cs os) {S : Nat} (hS : S < 2 ^ 64) :
    (Instr.lookup 91 (.map (some b)) (.int .u64 S) false).run Tryd.prog W = .ok (.int .i64 (min (((os.take k).map mv).count S) (cs.count S) : Nat)) W := by
  obtain ⟨D, h1, h2⟩ := h
  obtain ⟨c, hrun, hat, hwc⟩ := h1.lookup_int (t := 91) keyedU Tryd.underlying91 Tryd.underlying3 (zeroIz W) (keyU hS)
  rw [h2 S] at hat
  rw [hrun]
  simp only [DataW.lit.injEq, Lit.int.injEq, true_and] at hat
  rw [hat]
/-- Two rows in memory that do not share a block. -/
def ND (v1 v2 : Value) : Prop := v1.ownBlock = none ∨ v1.ownBlock ≠ v2.ownBlock
set_option maxHeartbeats 4000000 in
set_option maxRecDepth 100000 in
theorem along_any (V : Value) (A F O : Option Addr) (cA cF cO b : Nat) (bs cs fs os : List Nat) (w : World) (hV : V.oneCell' = true) (hB : BlC w A bs.length bs) (hP : Pl w b cs) (hbw0 : b < w.heap.size)
    (hF : IC w F fs.length (il fs)) (hf60 : fs.length ≤ 60) (hq : ∀ q ∈ fs, q < 60) (hO : IC w O os.length (il os)) (hos : ∀ i ∈ os, i < bs.length) (hol : os.length ≤ 2 ^ 20) (hbl : bs.length ≤ 2 ^ 20) (hcl : cs.length ≤ 2 ^ 20) :
    Calls Tryd.prog 43 #[.agg #[V, .slice A bs.length cA], .map (some b), .slice F fs.length cF, .slice O os.length cO] w fun e w' =>
      ∃ v1 v2, e = .returned (.agg #[v1, v2]) ∧ w'.ownsRow w.heap.size 3 1 v1 fs.length (nums .i64 (il fs)) ∧ w'.ownsRow w.heap.size 3 1 v2 bs.length (nums .i64 (alongM bs cs fs os)) ∧ Below w.heap.size w w' ∧ ND v1 v2 := by
  have hmm := @run_makeMap Tryd.prog
  have hui := Tryd.underlying29
  have hue := Tryd.underlying39
  have hmk := print_make (P := Tryd.prog) 32 3 .i64 8 Tryd.underlying32 infoI (by decide) bs.length (by omega)
  have HCL : Hid (∀ W, Below w.heap.size w W → Calls Tryd.prog 28 #[.slice F fs.length cF] W fun e w' => ∃ v, e = .returned v ∧ w'.ownsRow W.heap.size 3 1 v fs.length (nums .i64 (il fs)) ∧ Below W.heap.size W w') :=
    (show ∀ W, _ from fun W hb => clonei_any F fs.length cF (il fs) W (Kd.C_below hF hb) (by omega))
  go_enter Tryd.func43, Tryd.ntmps43
  go_upto_region 2 with (fail)
  obtain ⟨w1, hw1⟩ : ∃ w1, (((w.alloc (.cells #[V, .slice A bs.length cA] 29)).alloc (.cells #[.slice none 0 0, .slice none 0 0] 39)).alloc (.map #[] 0)) = w1 := ⟨_, rfl⟩
  have hBa : Blk w1 w.heap.size 29 #[V, .slice A bs.length cA] := by rw [← hw1]; exact ((Blk.new _ _ _).alloc _).alloc _
  have hBr : Blk w1 (w.heap.size + 1) 39 #[.slice none 0 0, .slice none 0 0] := by
    rw [← hw1]
    have := (Blk.new (w.alloc (.cells #[V, .slice A bs.length cA] 29)) 39 #[.slice none 0 0, .slice none 0 0]).alloc (.map #[] 0)
    simpa using this
  have hmo : w1.ownsMap (H := Unit) Tryd.prog 25 (plainElem Tryd.prog 3) (w.heap.size + 2) 0 (.map []) := by
    rw [← hw1]
    have := World.ownsMap_made (H := Unit) ((w.alloc (.cells #[V, .slice A bs.length cA] 29)).alloc (.cells #[.slice none 0 0, .slice none 0 0] 39)) Tryd.prog 25 (plainElem Tryd.prog 3)
    simpa using this
  have hb1 : Below w.heap.size w w1 := by rw [← hw1]; exact below_alloc (below_alloc (below_alloc (Below.refl _ _) _) _) _
  have hz1 : w.heap.size + 3 ≤ w1.heap.size := by rw [← hw1]; simp
  have hc1 : w1.cell? ⟨w.heap.size, 1, none⟩ = some (.slice A bs.length cA) := (hBa.cell 1).trans rfl
  rw [hw1]
  clear hw1 hmm
  have HC1 : Hid (∀ W, Below w1.heap.size w1 W → W.cell? ⟨w.heap.size, 1, none⟩ = some (.slice A bs.length cA)) := (show ∀ W, _ from fun W h => (h.cell (p := ⟨w.heap.size, 1, none⟩) (show w.heap.size < _ by omega)).trans hc1)
  have hdr : ∀ (cs : Array Value) (t : TypeId) (o : Nat), (w1.drew.alloc (.cells cs t)).cell? ⟨w1.heap.size, o, none⟩ = cs[o]? := fun cs t o => (Blk.new w1.drew t cs).cell o
  have hdf : ∀ (cs : Array Value) (t : TypeId) (o : Nat), (w1.drew.alloc (.cells cs t)).frozen? ⟨w1.heap.size, o, none⟩ = false := fun cs t o => (Blk.new w1.drew t cs).frozen o
  have hdr1 : ∀ (cs cs' : Array Value) (t t' : TypeId) (o : Nat), ((w1.drew.alloc (.cells cs' t')).alloc (.cells cs t)).cell? ⟨w1.heap.size + 1, o, none⟩ = cs[o]? := fun cs cs' t t' o => by
    have := (Blk.new (w1.drew.alloc (.cells cs' t')) t cs).cell o
    simpa using this
  have hdf1 : ∀ (cs cs' : Array Value) (t t' : TypeId) (o : Nat), ((w1.drew.alloc (.cells cs' t')).alloc (.cells cs t)).frozen? ⟨w1.heap.size + 1, o, none⟩ = false := fun cs cs' t t' o => by
    have := (Blk.new (w1.drew.alloc (.cells cs' t')) t cs).frozen o
    simpa using this
  rename_i K hK
  obtain ⟨mv, hmv⟩ : ∃ mv, (fun i => movedN (bs.getD i 0) fs) = mv := ⟨_, rfl⟩
  have REST : ∀ (A1 : Option Addr) (c1 gM gE : Nat) (W : World), Below w1.heap.size w1 W → Blk W gE 39 #[.slice A1 fs.length c1, .slice (some ⟨gM, 0, none⟩) bs.length bs.length] → w1.heap.size ≤ gE →
      W.ownsRow w1.heap.size 3 1 (.slice A1 fs.length c1) fs.length (nums .i64 (il fs)) → W.ownsRow w1.heap.size 3 1 (.slice (some ⟨gM, 0, none⟩) bs.length bs.length) bs.length (nums .i64 (List.replicate bs.length 0)) →
      (Value.slice A1 fs.length c1).ownBlock ≠ some gM →
      K { tmps := #[.agg #[V, .slice A bs.length cA], .map (some b), .slice F fs.length cF, .slice O os.length cO, .pointer (some ⟨w.heap.size, 0, none⟩), undef, undef, undef, .pointer (some ⟨w.heap.size + 1, 0, none⟩), .map (some (w.heap.size + 1 + 1)), .pointer (some ⟨gE, 0, none⟩), undef, undef, undef, undef, .map (some (w.heap.size + 1 + 1)), .slice F fs.length cF, .slice A1 fs.length c1, .pointer (some ⟨w.heap.size, 1, none⟩), .slice A bs.length cA, .int .i64 bs.length, .slice (some ⟨gM, 0, none⟩) bs.length bs.length, .agg #[.slice A1 fs.length c1, .slice (some ⟨gM, 0, none⟩) bs.length bs.length], undef, undef, undef, undef, undef, undef, undef, undef, undef, undef, undef, undef, undef, undef, undef, undef, undef, undef, undef, undef, undef, undef, undef, undef, undef, undef, undef, undef, undef, undef, undef, undef, undef, undef, undef, undef, undef, undef, undef, undef, undef, undef], defers := [] } W := by
    intro A1 c1 gM gE W hbW hE hgE hO17 hM0 hne
    have HND : Hid (ND (.slice A1 fs.length c1) (.slice (some ⟨gM, 0, none⟩) bs.length bs.length)) := (show ND _ _ from .inr hne)
    apply hK
    have hgM := own_base hM0 gM rfl
    have hEM : gE ≠ gM := fun e => by
      obtain ⟨cells, hcc⟩ := own_typed hM0 gM rfl
      rw [← e, hE] at hcc
      cases hcc
    have hmoW : W.ownsMap (H := Unit) Tryd.prog 25 (plainElem Tryd.prog 3) (w.heap.size + 2) 0 (.map []) := hmo.kept (grown_of_below hbW none) (by simp)
    have hb0 : w.heap.size + 2 < w1.heap.size := by omega
    have HS := hid (show AlSt w.heap.size w1 (.slice A1 fs.length c1) gM gE bs.length fs mv cs os (alongK bs.length mv cs os 0) 0 W from
      ⟨hbW.mono (by omega), hbW.size, hO17, hE, hM0, ⟨_, hmoW, fun s => by simp; rfl⟩⟩)
    clear hmoW hM0 hO17 hE hbW
    go_wp2
    go_loopw [25] (fun i wr => ∃ k : Nat, k ≤ os.length ∧ i = .int .i64 k ∧ Hid (AlSt w.heap.size w1 (.slice A1 fs.length c1) gM gE bs.length fs mv cs os (alongK bs.length mv cs os k) k wr)) (fun i _ => os.length - (intOf i).toNat)
    case atStart => exact ⟨0, by omega, rfl, HS⟩
    case round =>
      clear HS
      obtain ⟨k, hk, rfl, HS⟩ := hrel
      have hbw : Below w.heap.size w wr := hb1.trans (HS.out.below.mono (by omega))
      by_cases hlt : k < os.length
      · obtain ⟨ado, xi, rfl, hcxo, HXo⟩ := IC.at_ (Kd.C_below hO hbw) hlt
        obtain ⟨i, hi, rfl⟩ : ∃ i, os.getD k 0 = i ∧ xi = (i : Int) := ⟨_, rfl, by rw [← HXo.out.2]; exact rd_il hlt⟩
        have hib : i < bs.length := hi ▸ hos _ (getD_mem hlt)
        obtain ⟨ada, s, rfl, hcs, hs64, HXa⟩ := NlC.at_ (hB.below hbw) hib
        have hSv : mv i = movedN s fs := by rw [← hmv]; show movedN (bs.getD i 0) fs = _; rw [List.getD_eq_getElem?_getD, HXa.out.2.1]; rfl
        obtain ⟨S, hS⟩ : ∃ S, movedN s fs = S := ⟨_, rfl⟩
        have hS64 : S < 2 ^ 64 := by rw [← hS]; exact Nat.lt_trans (movedN_lt hq) (by decide)
        have MV := hid (moved_any s F cF fs wr hs64 (Kd.C_below hF hbw) hf60 hq)
        rw [hS] at MV
        obtain ⟨e, he⟩ : ∃ e, ((os.take k).map mv).count S = e := ⟨_, rfl⟩
        obtain ⟨C, hC⟩ : ∃ C, cs.count S = C := ⟨_, rfl⟩
        have HV : Hid (∀ x : Int, (if e < C then ((cs.idxOf S + e : Nat) : Int) else -1) = x → (alongK bs.length mv cs os k).set i x = alongK bs.length mv cs os (k + 1)) := (show ∀ x, _ from by
          rintro x rfl
          rw [alongK, hi, alongAt, hi, hSv, hS, he, hC])
        have hUS : Hid (∀ s : Nat, (((os.take (k + 1)).map mv).count s) = ((os.take k).map mv).count s + if S = s then 1 else 0) := (show ∀ s, _ from fun s' => by
          have ht : os.take (k + 1) = os.take k ++ [i] := by rw [List.take_succ_eq_append_getElem hlt, ← hi, List.getD_eq_getElem?_getD, List.getElem?_eq_getElem hlt]; rfl
          rw [ht, List.map_append, List.count_append]
          simp [hSv, hS, List.count_singleton])
        have hc7 : wr.cell? ⟨w.heap.size, 1, none⟩ = some (.slice (some ada) bs.length cA) := (HS.out.below.cell (p := ⟨w.heap.size, 1, none⟩) (show w.heap.size < _ by omega)).trans hc1
        have hE1 : wr.cell? ⟨gE, 1, none⟩ = some (.slice (some ⟨gM, 0, none⟩) bs.length bs.length) := (HS.out.blk.cell 1).trans rfl
        obtain ⟨hM1, hM2⟩ := own_at HS.out.ownM (i : Int) (by omega) (by omega)
        rw [Int.toNat_natCast] at hM1 hM2
        have H0 := hid (And.intro hi (And.intro hSv hS))
        clear hi hSv hS hc1
        go_upto_region 8 with (go_at_call 33; refine MV.out.mono ?_; rintro e w' ⟨rfl, rfl⟩)
        obtain ⟨W8, hW8⟩ : ∃ W8, w'.setCell ⟨gM, i, none⟩ (.int .i64 (-1)) = W8 := ⟨_, rfl⟩
        have HS8 := hid (show AlSt w.heap.size w1 (.slice A1 fs.length c1) gM gE bs.length fs mv cs os ((alongK bs.length mv cs os k).set i (-1)) k W8 from by rw [← hW8]; exact HS.out.store hne hEM hgM hb0 i (-1))
        rw [hW8]
        have hlk := pl_look hP (W := W8) ((HS8.out.below.block b (by omega)).trans (hb1.block b hbw0)) hS64
        rw [hC] at hlk
        obtain ⟨J, hJ⟩ : ∃ J, atJ cs S = J := ⟨_, rfl⟩
        rw [hJ] at hlk
        clear hW8 hM1 hM2 hE1 hc7 hcxo hcs HS
        go_upto_region 9 with (fail)
        clear hlk
        obtain ⟨W9, hW9⟩ : ∃ W9, W8.alloc (.cells #[.int .i64 J, .int .i64 C] 87) = W9 := ⟨_, rfl⟩
        have HS9 := hid (show AlSt w.heap.size w1 (.slice A1 fs.length c1) gM gE bs.length fs mv cs os ((alongK bs.length mv cs os k).set i (-1)) k W9 from by rw [← hW9]; exact HS8.out.alloc hb0 _)
        have hB9 : Blk W9 W8.heap.size 87 #[.int .i64 J, .int .i64 C] := by rw [← hW9]; exact Blk.new _ _ _
        have hJ9 : W9.cell? ⟨W8.heap.size, 0, none⟩ = some (.int .i64 J) := (hB9.cell 0).trans rfl
        have hC9 : W9.cell? ⟨W8.heap.size, 1, none⟩ = some (.int .i64 C) := (hB9.cell 1).trans rfl
        rw [hW9]
        have hlk := us_look HS9.out.us hS64
        rw [he, hC] at hlk
        have hw811 : w.heap.size + 1 + 1 = w.heap.size + 2 := rfl
        rw [← hw811] at hlk
        clear hw811
        obtain ⟨U, hU⟩ : ∃ U, min e C = U := ⟨_, rfl⟩
        rw [hU] at hlk
        clear hW9 HS8
        by_cases hUC : U < C
        · have q0 : (U : Int) < (C : Int) := by omega
          have hc7 : W9.cell? ⟨gE, 1, none⟩ = some (.slice (some ⟨gM, 0, none⟩) bs.length bs.length) := (HS9.out.blk.cell 1).trans rfl
          obtain ⟨hM1, hM2⟩ := own_at HS9.out.ownM (i : Int) (by omega) (by omega)
          rw [Int.toNat_natCast] at hM1 hM2
          have hS1 : S ∈ cs := List.count_pos_iff.1 (by rw [hC]; omega)
          have hJi : cs.idxOf S = J := by rw [← hJ, atJ, if_pos hS1]
          have hJl : J < cs.length := by rw [← hJi]; exact List.idxOf_lt_length_of_mem hS1
          have hCl : C ≤ cs.length := by rw [← hC]; exact List.count_le_length
          obtain ⟨hwr, hUe, heC, hwU⟩ := al_num hJl hCl hcl hU hUC
          have HVV := hid (HV.out ((J : Int) + (U : Int)) (by rw [hUe, hJi, if_pos heC, Int.natCast_add]))
          have HWU := hid hwU
          clear hS1 hJi hwr hUe heC hwU
          go_upto_region 11 with (fail)
          obtain ⟨W11, hW11⟩ : ∃ W11, W9.setCell ⟨gM, i, none⟩ (.int .i64 ((J : Int) + (U : Int))) = W11 := ⟨_, rfl⟩
          have HS11 := hid (show AlSt w.heap.size w1 (.slice A1 fs.length c1) gM gE bs.length fs mv cs os (((alongK bs.length mv cs os k).set i (-1)).set i ((J : Int) + (U : Int))) k W11 from by rw [← hW11]; exact HS9.out.store hne hEM hgM hb0 i _)
          rw [hW11]
          clear hlk
          have hlk := us_look HS11.out.us hS64
          rw [he, hC, hU] at hlk
          have hw811 : w.heap.size + 1 + 1 = w.heap.size + 2 := rfl
          rw [← hw811] at hlk
          clear hw811 hW11 HS9 hM1 hM2 hc7
          obtain ⟨D, hmo, hD⟩ := HS11.out.us
          have hkey := keyU hS64
          have HD := hid hD
          have HMO := hid hmo
          clear hmo hD
          have hUb : U ≤ 2 ^ 20 := al_num2 hCl hcl hUC
          go_wp2_with (first
            | (at_mapUpdate; refine wpList_mapUpdate_own _ rfl _ _ _ 91 rfl 25 3 keyedU Tryd.underlying91 _ (w.heap.size + 2) k D rfl HMO.out (by unfold maxLen; omega) _ _ _ rfl rfl hkey _ [] (plainElem_int Tryd.underlying3 HWU.out) ?_; intro w12 hown12 hgrow12)
            | go_in)
          go_roundw
          case rel =>
            refine ⟨k + 1, by omega, by go_num, (show AlSt _ _ _ _ _ _ _ _ _ _ _ _ _ from ?_)⟩
            have hME := HVV.out
            rw [← hME]
            have hx := HS11.out
            rw [List.set_set] at hx
            refine hx.upd hgrow12 hb0 hgE ⟨_, hown12, fun s => ?_⟩
            exact us_next HD.out HMO.out.isMap he hC hU hUC hUS.out s
          case measure => simp [intOf]; omega
        · have q0 : ¬ (U : Int) < (C : Int) := by omega
          have HVV := hid (HV.out (-1) (by rw [if_neg (by omega)]))
          have hus : Hid (UsK W9 (w.heap.size + 2) (k + 1) mv cs os) := (show UsK _ _ _ _ _ _ from by
            obtain ⟨D, h1, h2⟩ := HS9.out.us
            refine ⟨D, h1.mono (Nat.le_succ k), fun s => ?_⟩
            rw [h2 s, hUS.out s]
            by_cases hs : S = s
            · subst hs
              rw [he, hC, if_pos rfl]
              congr 2
              omega
            · rw [if_neg hs]; rfl)
          go_wp2
          go_roundw
          case rel =>
            refine ⟨k + 1, by omega, by go_num, (show AlSt _ _ _ _ _ _ _ _ _ _ _ _ _ from ?_)⟩
            rw [← HVV.out]
            exact HS9.out.skip hus.out
          case measure => simp [intOf]; omega
      · obtain rfl : k = os.length := by omega
        have hE0 : wr.cell? ⟨gE, 0, none⟩ = some (.slice A1 fs.length c1) := (HS.out.blk.cell 0).trans rfl
        have hE1 : wr.cell? ⟨gE, 1, none⟩ = some (.slice (some ⟨gM, 0, none⟩) bs.length bs.length) := (HS.out.blk.cell 1).trans rfl
        have hBr1 : Blk wr (w.heap.size + 1) 39 #[.slice none 0 0, .slice none 0 0] := hBr.below HS.out.below (by omega)
        have r0 : wr.cell? ⟨w.heap.size + 1, 0, none⟩ = some (.slice none 0 0) := (hBr1.cell 0).trans rfl
        have r1 : wr.cell? ⟨w.heap.size + 1, 1, none⟩ = some (.slice none 0 0) := (hBr1.cell 1).trans rfl
        have f0 := hBr1.frozen 0
        have f1 := hBr1.frozen 1
        have hM : alongK bs.length mv cs os os.length = alongM bs cs fs os := by rw [alongM, hmv]
        have HMM := hid hM
        clear hM
        have HBL := hid ((((Below.refl w.heap.size wr).setCell (p := ⟨w.heap.size + 1, 0, none⟩) (Nat.le_succ _) (.slice A1 fs.length c1)).setCell (p := ⟨w.heap.size + 1, 1, none⟩) (Nat.le_succ _) (.slice (some ⟨gM, 0, none⟩) bs.length bs.length)))
        have HR1 := hid (own_setCell (p := ⟨w.heap.size + 1, 1, none⟩) (own_setCell (p := ⟨w.heap.size + 1, 0, none⟩) HS.out.own17 (fun e => by have := own_base HS.out.own17 _ e.symm; simp at this; omega) (.slice A1 fs.length c1)) (fun e => by have := own_base HS.out.own17 _ e.symm; simp at this; omega) (.slice (some ⟨gM, 0, none⟩) bs.length bs.length))
        have HR2 := hid (own_setCell (p := ⟨w.heap.size + 1, 1, none⟩) (own_setCell (p := ⟨w.heap.size + 1, 0, none⟩) HS.out.ownM (fun e => by have := own_base HS.out.ownM _ e.symm; simp at this; omega) (.slice A1 fs.length c1)) (fun e => by have := own_base HS.out.ownM _ e.symm; simp at this; omega) (.slice (some ⟨gM, 0, none⟩) bs.length bs.length))
        go_wp2
        refine bodyPost_ret (v := .agg #[.slice A1 fs.length c1, .slice (some ⟨gM, 0, none⟩) bs.length bs.length]) (by simp [results, Tryd.results43, go_sem, r0, r1, f0, f1]) rfl ⟨_, _, rfl, own_less HR1.out (by omega), ?_, hbw.trans HBL.out, HND.out⟩
        rw [← HMM.out]
        exact own_less HR2.out (by omega)
  have HREST := hid REST
  clear REST
  go_region_held3 (fun W => W.cell? ⟨w.heap.size, 1, none⟩ = some (.slice A bs.length cA) ∧ Below w1.heap.size w1 W)
    (first | exact sk_alloc (by assumption) _ | exact HS2.out | exact sk_call (by assumption) (by assumption) | exact sk_drew ⟨hc1, Below.refl _ _⟩ | exact sk_alloc (sk_alloc HS2.out _) _ | exact sk_alloc HS2.out _ | exact sk_alloc (sk_set (sk_set HS2.out (by simp <;> omega) (by show w.heap.size < _; omega) _) (by simp <;> omega) (by show w.heap.size < _; omega) _) _ | exact sk_set (sk_set HS2.out (by simp <;> omega) (by show w.heap.size < _; omega) _) (by simp <;> omega) (by show w.heap.size < _; omega) _ | exact sk_drew ⟨hc1, Below.refl _ _⟩)
    (first | (go_at_call 28; refine (HCL.out _ (hb1.trans (Below.mono (B := w1.heap.size) (sk_below (by assumption)) (by omega)))).mono ?_; rintro e w2 ⟨v17, rfl, ho2, hb2⟩; have HS2 := hid (sk_call (by assumption) hb2); obtain ⟨A1, c1, rfl⟩ := own_slice ho2; have HO2 := hid ho2; clear ho2; obtain ⟨N3, hN3, hc3, hf3, hs3⟩ := al_bcell hb2; simp at hN3; subst hN3))
  · refine HREST.out A1 c1 w2.heap.size (w2.heap.size + 1) _ (sk_below (by assumption)) (heap_new (by simp)) (by have := HS2.out.2.size; omega) (own_alloc (own_alloc HO2.out _) _) (own_alloc (own_made w2 w1.heap.size _ .i64 bs.length HS2.out.2.size (by omega)) _) (own_ne_ge HO2.out (Nat.le_refl _))
  · refine HREST.out A1 c1 (w2.heap.size + 1) w2.heap.size _ (sk_below (by assumption)) ((Blk.new w2 _ _).alloc _) HS2.out.2.size (own_alloc (own_alloc HO2.out _) _) (own_made_at (by simp) (by have := HS2.out.2.size; simp; omega) (by omega)) (own_ne_ge HO2.out (Nat.le_succ _))
  · refine HREST.out A1 c1 w1.heap.size w2.heap.size _ (sk_below (by assumption)) (Blk.new w2 _ _) HS2.out.2.size (own_alloc (own_less HO2.out (by simp)) _) (own_alloc (own_bd (own_made_at (W := w1) rfl (Nat.le_refl _) (by omega)) hb2) _) (own_ne_base HO2.out (by simp))
  · refine HREST.out A1 c1 w1.heap.size (w1.heap.size + 1) _ (sk_below (by assumption)) (blk_set2 (a := .slice none 0 0) (b := .slice none 0 0) (heap_new (by simp)) hb2) (Nat.le_succ _) (own_set2 (own_less HO2.out (by simp; omega)) (own_ne_base HO2.out (by simp))) (own_set2 (own_bd (own_alloc (own_made_at (W := w1) rfl (Nat.le_refl _) (by omega)) _) hb2) (by simp [Value.ownBlock])) (own_ne_base HO2.out (by simp; omega))
  · refine HREST.out A1 c1 w2.heap.size w1.heap.size _ (sk_below (by assumption)) ((blk_set2 (a := .slice none 0 0) (b := .slice none 0 0) (heap_new rfl) hb2).alloc _) (Nat.le_refl _) (own_alloc (own_set2 (own_less HO2.out (by simp)) (own_ne_base HO2.out (by simp))) _) (own_made_at (by simp) (by simp; have := HS2.out.2.size; omega) (by omega)) (own_ne_ge HO2.out (Nat.le_refl _))
  · refine HREST.out A1 c1 (w1.heap.size + 1) w1.heap.size _ (sk_below (by assumption)) (blk_set2 (a := .slice none 0 0) (b := .slice none 0 0) (Blk.alloc (w := w1.alloc _) (heap_new rfl) _) hb2) (Nat.le_refl _) (own_set2 (own_less HO2.out (by simp; omega)) (own_ne_base HO2.out (by simp; omega))) (own_set2 (own_bd (own_made_at (W := w1.alloc _) (by simp) (by simp) (by omega)) hb2) (by simp [Value.ownBlock])) (own_ne_base HO2.out (by simp))
end Go.Proofs.YtheclfjbedajfaaDoor


namespace Go.Proofs.YtheclfjbedajfaaDoor
set_option linter.unusedSimpArgs false
set_option linter.unusedVariables false
open Go.RowKit Go.Lib Go.Shelf Go.Proofs.YtheclfjbedajfaaDoorW.PrintWords
attribute [local go_sem] Oper.semAt_some

/-- Whether a block is kept, by the list of images. -/
def keepB (M : List Int) (i : Int) : Bool := decide (0 ≤ i) && decide (i < M.length) && decide (0 ≤ rd M i)
def keptL (M done : List Int) : List Int := done.filter (keepB M)
theorem rd_of {l : List Int} {k : Nat} {x : Int} (h : l[k]? = some x) : rd l (k : Int) = x := by
  unfold rd; rw [List.getD_eq_getElem?_getD, Int.toNat_natCast, h]; rfl
/-- The closure's own answer. -/
theorem strike_any (g : Nat) (F : Value) (A : Option Addr) (c : Nat) (M : List Int) (i : Int) (w : World) (hB : Blk w g 39 #[F, .slice A M.length c]) (hM : IC w A M.length M) :
    Calls Tryd.prog 29 #[.int .i64 i, .pointer (some ⟨g, 0, none⟩)] w fun e w' => e = .returned (.bool (!keepB M i)) ∧ w' = w := by
  have hc1 : w.cell? ⟨g, 1, none⟩ = some (.slice A M.length c) := by rw [hB.cell 1]; rfl
  go_enter Tryd.func29, Tryd.ntmps29
  by_cases h0 : i < 0
  · have q0 : decide (i < 0) = true := by simp [h0]
    have HF : Hid (keepB M i = false) := by show _ = _; unfold keepB; simp; omega
    go_wp2
    go_ret
    exact ⟨ret_bool (by rw [HF.out]; rfl), rfl⟩
  · have q0 : decide (i < 0) = false := by simp [h0]
    by_cases h1 : (M.length : Int) ≤ i
    · have q1 : decide ((M.length : Int) ≤ i) = true := by simp [h1]
      have HF : Hid (keepB M i = false) := by show _ = _; unfold keepB; simp; omega
      go_wp2
      go_ret
      exact ⟨ret_bool (by rw [HF.out]; rfl), rfl⟩
    · have q1 : decide ((M.length : Int) ≤ i) = false := by simp [h1]
      obtain ⟨k, rfl⟩ := Int.eq_ofNat_of_zero_le (show 0 ≤ i by omega)
      have hk : k < M.length := by omega
      obtain ⟨ad, x, rfl, hcx, HX⟩ := IC.at_ hM hk
      by_cases hx : x < 0
      · have q2 : decide (x < 0) = true := by simp [hx]
        have HF : Hid (keepB M k = false) := by show _ = _; unfold keepB; rw [rd_of HX.out.1]; simp; omega
        go_wp2
        go_ret
        exact ⟨ret_bool (by rw [HF.out]; rfl), rfl⟩
      · have q2 : decide (x < 0) = false := by simp [hx]
        have HF : Hid (keepB M k = true) := by show _ = _; unfold keepB; rw [rd_of HX.out.1]; simp; omega
        go_wp2
        go_ret
        exact ⟨ret_bool (by rw [HF.out]; rfl), rfl⟩
/-- The closure asked in whatever world lies on the first one. -/
abbrev Asks (B g : Nat) (q : Int → Bool) (w0 : World) : Prop := ∀ (W : World) (i : Int), Below B w0 W → Calls Tryd.prog 29 #[.int .i64 i, .pointer (some ⟨g, 0, none⟩)] W fun e w' => e = .returned (.bool (q i)) ∧ w' = W
theorem hit_or (q : Int → Bool) (xs : List Int) : (∀ x ∈ xs, q x = false) ∨ ∃ (k : Nat) (x : Int), xs[k]? = some x ∧ q x = true ∧ ∀ y ∈ xs.take k, q y = false := by
  induction xs with
  | nil => exact .inl (by simp)
  | cons a r ih =>
    cases ha : q a with
    | true => exact .inr ⟨0, a, rfl, ha, by simp⟩
    | false =>
      rcases ih with h | ⟨k, x, h1, h2, h3⟩
      · exact .inl fun x hx => by rcases List.mem_cons.1 hx with rfl | hx; exact ha; exact h x hx
      · exact .inr ⟨k + 1, x, by simpa using h1, h2, fun y hy => by
          rw [List.take_succ_cons] at hy
          rcases List.mem_cons.1 hy with rfl | hy
          · exact ha
          · exact h3 y hy⟩
theorem hit_one {q : Int → Bool} {xs : List Int} {k k' : Nat} {x x' : Int} (h1 : xs[k]? = some x) (h2 : q x = true) (h3 : ∀ y ∈ xs.take k, q y = false) (h1' : xs[k']? = some x') (h2' : q x' = true) (h3' : ∀ y ∈ xs.take k', q y = false) : k = k' := by
  rcases Nat.lt_trichotomy k k' with h | h | h
  · have := h3' x (List.mem_of_getElem? (show (xs.take k')[k]? = some x by rw [List.getElem?_take, if_pos h, h1]))
    rw [h2] at this; cases this
  · exact h
  · have := h3 x' (List.mem_of_getElem? (show (xs.take k)[k']? = some x' by rw [List.getElem?_take, if_pos h, h1']))
    rw [h2'] at this; cases this
set_option maxHeartbeats 1000000 in
theorem indexf_any (A : Option Addr) (c : Nat) (xs : List Int) (B g : Nat) (q : Int → Bool) (w0 w : World) (hb : Below B w0 w) (hq : Asks B g q w0) (hC : IC w A xs.length xs) (hl : xs.length < 2 ^ 40) :
    Calls Tryd.prog 44 #[.slice A xs.length c, .func (.func 29) #[] #[.pointer (some ⟨g, 0, none⟩)]] w fun e w' =>
      ∃ r : Int, e = .returned (.int .i64 r) ∧ w' = w ∧ ((r = -1 ∧ ∀ x ∈ xs, q x = false) ∨ ∃ (k : Nat) (x : Int), r = k ∧ xs[k]? = some x ∧ q x = true ∧ ∀ y ∈ xs.take k, q y = false) := by
  have HQ := hid hq
  clear hq
  go_enter Tryd.func44, Tryd.ntmps44
  go_wp2
  go_loopw [5, 8] (fun _ i wr => ∃ k : Nat, k ≤ xs.length ∧ i = .int .i64 k ∧ wr = w ∧ Hid (∀ y ∈ xs.take k, q y = false)) (fun _ i _ => xs.length - (intOf i).toNat)
  case atStart => exact ⟨0, by omega, rfl, by first | rfl | trivial, (show ∀ _ ∈ _, _ from by simp)⟩
  case round =>
    obtain ⟨k, hk, rfl, rfl, HG⟩ := hrel
    by_cases hlt : k < xs.length
    · obtain ⟨ad, x, rfl, hcx, HX⟩ := IC.at_ hC hlt
      cases hqx : q x with
      | true =>
        go_wp2_with (go_at_call 29; refine (HQ.out _ x hb).mono ?_; rw [hqx]; rintro e w' ⟨rfl, rfl⟩)
        go_ret
        exact ⟨k, rfl, rfl, .inr ⟨k, x, rfl, HX.out.1, hqx, HG.out⟩⟩
      | false =>
        go_wp2_with (go_at_call 29; refine (HQ.out _ x hb).mono ?_; rw [hqx]; rintro e w' ⟨rfl, rfl⟩)
        go_roundw
        case rel =>
          refine ⟨k + 1, by omega, by go_num, by first | rfl | trivial, (show ∀ y ∈ _, _ from fun y hy => ?_)⟩
          rw [List.take_add_one, HX.out.1] at hy
          rcases List.mem_append.1 hy with h | h
          · exact HG.out y h
          · have : y = x := by simpa using h
            rw [this]; exact hqx
        case measure => simp [intOf]; omega
    · obtain rfl : k = xs.length := by omega
      go_wp2
      go_ret
      exact ⟨-1, rfl, rfl, .inl ⟨rfl, by simpa using HG.out⟩⟩
theorem own_cleared {W : World} {base g n cap : Nat} {e : TypeId} {xs : List Value} (h : W.ownsRow base e 1 (.slice (some ⟨g, 0, none⟩) n cap) n xs) {i : Nat} (hi : i ≤ n) (vs : List Value) (hv : i + vs.length ≤ n) :
    (W.setCells g i vs).ownsRow base e 1 (.slice (some ⟨g, 0, none⟩) i cap) i (xs.take i) ∧ W.grownBy (W.setCells g i vs) (some g) := by
  obtain ⟨hl, h2⟩ := h
  rcases h2 with ⟨he, _⟩ | ⟨g', cap', cur, he, hb, hh, hnc, hcm, hcs, ht⟩
  · cases he
  · injection he with ha _ hc
    injection ha with ha
    injection ha with ha
    subst ha; subst hc
    obtain ⟨cur', h3, h4, h5⟩ := setCells_row vs i W cur hh (by omega)
    obtain ⟨s1, s2, s3, s4⟩ := setCells_same g vs i W
    refine ⟨⟨by rw [List.length_take, hl]; omega, .inr ⟨g, cap, cur', rfl, hb, h3, by omega, hcm, by rw [h4]; exact hcs, ?_⟩⟩, ⟨s1, s2, s3, by omega, fun k hk hne => setCells_far vs i k (fun e => hne (by rw [e]))⟩⟩
    have hcl : i ≤ cur.toList.length := by rw [Array.length_toList]; omega
    rw [h5, ← ht, Nat.mul_one, Nat.mul_one, List.append_assoc, List.take_append_of_le_length (by rw [List.length_take]; omega), List.take_take, List.take_take, Nat.min_self, Nat.min_eq_left hi]
/-- What DeleteFunc's loop has in its row at j, i elements kept. -/
structure Sift (q : Int → Bool) (xs : List Int) (i j : Nat) (ys : List Int) : Prop where
  le : i ≤ j
  jle : j ≤ xs.length
  size : ys.length = xs.length
  low : ys.take i = (xs.take j).filter fun x => !q x
  len : i = ((xs.take j).filter fun x => !q x).length
  high : ys.drop j = xs.drop j
theorem Sift.at_ {q : Int → Bool} {xs ys : List Int} {i j : Nat} (h : Sift q xs i j ys) (hj : j < xs.length) : ∃ x, xs[j]? = some x ∧ rd ys j = x ∧ xs.take (j + 1) = xs.take j ++ [x] := by
  refine ⟨xs[j], List.getElem?_eq_getElem hj, rd_of ?_, by rw [List.take_add_one, List.getElem?_eq_getElem hj]; rfl⟩
  have := congrArg (fun l => l[0]?) h.high
  simp only [List.getElem?_drop, Nat.add_zero] at this
  rw [this, List.getElem?_eq_getElem hj]
theorem Sift.strike {q : Int → Bool} {xs ys : List Int} {i j : Nat} {x : Int} (h : Sift q xs i j ys) (hj : j < xs.length) (ht : xs.take (j + 1) = xs.take j ++ [x]) (hq : q x = true) : Sift q xs i (j + 1) ys :=
  ⟨by have := h.le; omega, by omega, h.size, by rw [ht, List.filter_append, h.low]; simp [hq], by rw [ht, List.filter_append]; simp [hq]; exact h.len, by
    have := congrArg (List.drop 1) h.high
    simpa [List.drop_drop] using this⟩
theorem Sift.keep {q : Int → Bool} {xs ys : List Int} {i j : Nat} {x : Int} (h : Sift q xs i j ys) (hj : j < xs.length) (ht : xs.take (j + 1) = xs.take j ++ [x]) (hq : q x = false) : Sift q xs (i + 1) (j + 1) (ys.set i x) := by
  have hi := h.le
  have hs := h.size
  refine ⟨by omega, by omega, by simp [hs], ?_, ?_, ?_⟩
  · rw [ht, List.filter_append, ← h.low, List.take_add_one, List.getElem?_set_self (by omega), List.take_set_of_le (Nat.le_refl _)]
    simp [hq]
  · rw [ht, List.filter_append, List.length_append, ← h.len]; simp [hq]
  · have := congrArg (List.drop 1) h.high
    rw [List.drop_set_of_lt (by omega)]
    simpa [List.drop_drop] using this
theorem Sift.all {q : Int → Bool} {xs ys : List Int} {i : Nat} (h : Sift q xs i xs.length ys) : ys.take i = (xs.filter fun x => !q x) ∧ i = (xs.filter fun x => !q x).length := by
  have h1 := h.low; have h2 := h.len
  rw [List.take_length] at h1 h2
  exact ⟨h1, h2⟩
theorem Sift.start {q : Int → Bool} {xs : List Int} {k : Nat} {x : Int} (hk : xs[k]? = some x) (hq : q x = true) (h : ∀ y ∈ xs.take k, q y = false) : Sift q xs k (k + 1) xs := by
  have hl : k < xs.length := (List.getElem?_eq_some_iff.1 hk).1
  have hf : (xs.take k).filter (fun x => !q x) = xs.take k := List.filter_eq_self.2 fun y hy => by simp [h y hy]
  have h0 : Sift q xs k k xs := ⟨Nat.le_refl _, by omega, rfl, hf.symm, by rw [hf, List.length_take]; omega, rfl⟩
  exact h0.strike hl (by rw [List.take_add_one, hk]; rfl) hq
theorem zeroI (w : World) : (zeroValue 3).run Tryd.prog w = .ok (.int .i64 0) w := by kernel_rfl
set_option maxHeartbeats 2000000 in
set_option maxRecDepth 100000 in
theorem deletef_any (base : Nat) (v : Value) (xs : List Int) (B g : Nat) (q : Int → Bool) (w0 w : World) (hb : Below B w0 w) (hBb : B ≤ base) (hq : Asks B g q w0) (ho : w.ownsRow base 3 1 v xs.length (nums .i64 xs)) (hl : xs.length < 2 ^ 40) :
    Calls Tryd.prog 27 #[v, .func (.func 29) #[] #[.pointer (some ⟨g, 0, none⟩)]] w fun e w' =>
      ∃ v', e = .returned v' ∧ w'.ownsRow base 3 1 v' (xs.filter fun x => !q x).length (nums .i64 (xs.filter fun x => !q x)) ∧ Below B w0 w' := by
  obtain ⟨A, c, rfl, hcc, hcm0, hC⟩ := own_IC ho
  have HX := hid (fun c => indexf_any A c xs B g q w0 w hb hq hC hl)
  have HQ := hid hq
  clear hq
  rcases ho.2 with ⟨he, h0⟩ | ⟨g1, cap, cur, he, hgb, -, hcap, hcm, -⟩
  · obtain rfl : xs = [] := List.eq_nil_of_length_eq_zero h0
    injection he with hA _ hc
    subst hA hc
    have HO := hid ho
    clear ho hC
    go_enter Tryd.func27, Tryd.ntmps27
    go_wp2_with (go_at_call 44; refine (HX.out _).mono ?_; rintro e w' ⟨r, rfl, rfl, (⟨rfl, -⟩ | ⟨k, x, -, hk, -⟩)⟩; rotate_left 1; exact nomatch hk)
    go_ret
    exact ⟨_, rfl, HO.out, hb⟩
  · injection he with hA _ hc
    subst hA hc
    have HO := hid ho
    clear ho hC
    go_enter Tryd.func27, Tryd.ntmps27
    have hcl : ∀ (ty : TypeId) (W : World) (ys : List Int) (i : Nat), i < xs.length → W.ownsRow base 3 1 (.slice (some ⟨g1, 0, none⟩) xs.length c) xs.length (nums .i64 ys) →
        (Builtin.clear_ #[32] ty #[.slice (some ⟨g1, i, none⟩) (xs.length - i) (c - i)]).run Tryd.prog W = .ok (.tuple #[]) (W.setCells g1 i (List.replicate (xs.length - i) (.int .i64 0))) := by
      intro ty W ys i hi h
      refine Lib.run_clear_slice W 32 3 ty _ Tryd.underlying32 zeroI rfl rfl g1 i _ _ (by omega) (fun j hj => ?_) fun j hj => ?_
      · have := (own_at h ((i + j : Nat) : Int) (by omega) (by omega)).1
        rw [Int.toNat_natCast] at this
        rw [this]; rfl
      · have := (own_at h ((i + j : Nat) : Int) (by omega) (by omega)).2
        rwa [Int.toNat_natCast] at this
    have HCL := hid hcl
    clear hcl
    rcases hit_or q xs with hall | ⟨k, x, hk, hqx, hbef⟩
    · have HX1 := hid (fun c => (HX.out c).mono (show ∀ e w', _ → (e = Ending.returned (.int .i64 (-1)) ∧ w' = w) by
        rintro e w' ⟨r, rfl, rfl, (⟨rfl, -⟩ | ⟨k, x, -, hk, hqx, -⟩)⟩
        · exact ⟨rfl, rfl⟩
        · have := hall x (List.mem_of_getElem? hk); rw [hqx] at this; cases this))
      clear HX
      go_wp2_with (go_at_call 44; refine (HX1.out _).mono ?_; rintro e w' ⟨rfl, rfl⟩)
      go_ret
      have hf : xs.filter (fun x => !q x) = xs := List.filter_eq_self.2 fun y hy => by simp [hall y hy]
      rw [hf]
      exact ⟨_, rfl, HO.out, hb⟩
    · have HX1 := hid (fun c => (HX.out c).mono (show ∀ e w', _ → (e = Ending.returned (.int .i64 k) ∧ w' = w) by
        rintro e w' ⟨r, rfl, rfl, (⟨-, hall⟩ | ⟨k', x', rfl, hk', hqx', hb'⟩)⟩
        · have := hall x (List.mem_of_getElem? hk); rw [hqx] at this; cases this
        · exact ⟨by rw [hit_one hk' hqx' hb' hk hqx hbef], rfl⟩))
      clear HX
      have hne : ((k : Int) == -1) = false := beq_eq_false_iff_ne.2 (by omega)
      have HS0 := hid (Sift.start hk hqx hbef)
      have hkl := HS0.out.jle
      clear hk hqx hbef
      go_wp2_with (go_at_call 44; refine (HX1.out _).mono ?_; rintro e w' ⟨rfl, rfl⟩)
      clear hne
      go_loopw [5, 6, 7] (fun i j _ wr => ∃ (I J : Nat) (ys : List Int), I < J ∧ J ≤ xs.length ∧ i = .int .i64 I ∧ j = .int .i64 J ∧ Hid (Sift q xs I J ys) ∧ Hid (wr.ownsRow base 3 1 (.slice (some ⟨g1, 0, none⟩) xs.length c) xs.length (nums .i64 ys)) ∧ Below B w0 wr) (fun _ j _ _ => xs.length - (intOf j).toNat)
      case atStart => exact ⟨k, k + 1, xs, by omega, HS0.out.jle, rfl, by go_num, HS0, HO, hb⟩
      case round =>
        clear HO hb HX1
        obtain ⟨I, J, ys, hIJ, hJ, rfl, rfl, HS, HO, hb⟩ := hrel
        have hgl : Hid (B ≤ wr.heap.size) := (show _ ≤ _ from by have := own_lt HO.out g1 rfl; omega)
        by_cases hlt : J < xs.length
        · obtain ⟨x, hx, hrx, htk⟩ := HS.out.at_ hlt
          obtain ⟨hcx, -⟩ := own_at HO.out (J : Int) (by omega) (by omega)
          rw [hrx, Int.toNat_natCast] at hcx
          obtain ⟨hci, hfi⟩ := own_at HO.out (I : Int) (by omega) (by omega)
          rw [Int.toNat_natCast] at hci hfi
          have HT := hid htk
          clear htk hrx hx
          cases hqx : q x with
          | true =>
            go_wp2_with (go_at_call 29; refine (HQ.out _ x hb).mono ?_; rw [hqx]; rintro e w' ⟨rfl, rfl⟩)
            go_roundw
            case rel => exact ⟨I, J + 1, ys, by omega, by omega, rfl, by go_num, HS.out.strike hlt HT.out hqx, HO, hb⟩
            case measure => simp [intOf]; omega
          | false =>
            go_wp2_with (go_at_call 29; refine (HQ.out _ x hb).mono ?_; rw [hqx]; rintro e w' ⟨rfl, rfl⟩)
            go_roundw
            case rel =>
              obtain ⟨h1, h2⟩ := own_store HO.out (I : Int) x
              rw [Int.toNat_natCast] at h1 h2
              exact ⟨I + 1, J + 1, ys.set I x, by omega, by omega, by go_num, by go_num, HS.out.keep hlt HT.out hqx, h1, hb.grown h2 hgl.out (fun r hr => by cases hr; omega)⟩
            case measure => simp [intOf]; omega
        · obtain rfl : J = xs.length := by omega
          have HS1 := hid HS.out.all
          have hcl := fun ty => HCL.out ty wr ys I hIJ HO.out
          go_wp2
          go_ret
          obtain ⟨hs1, hs2⟩ := HS1.out
          obtain ⟨h1, h2⟩ := own_cleared HO.out (show I ≤ xs.length by omega) (List.replicate (xs.length - I) (.int .i64 0)) (by simp; omega)
          refine ⟨_, rfl, ?_, hb.grown h2 hgl.out (fun r hr => by cases hr; omega)⟩
          rw [show (nums IntKind.i64 ys).take I = nums .i64 (ys.take I) by simp [nums, List.map_take], hs1] at h1
          rw [← hs2]
          exact h1

set_option maxHeartbeats 1000000 in
theorem kept_any (F : Value) (A : Option Addr) (c : Nat) (M : List Int) (D : Option Addr) (cd : Nat) (done : List Int) (w : World) (hF : F.oneCell' = true) (hM : IC w A M.length M) (hD : IC w D done.length done) (hl : done.length < 2 ^ 40) :
    Calls Tryd.prog 11 #[.agg #[F, .slice A M.length c], .slice D done.length cd] w fun e w' =>
      ∃ v, e = .returned v ∧ w'.ownsRow w.heap.size 3 1 v (keptL M done).length (nums .i64 (keptL M done)) ∧ Below w.heap.size w w' := by
  go_enter Tryd.func11, Tryd.ntmps11
  go_upto_region 1 with (fail)
  obtain ⟨w1, hw1⟩ : ∃ w1, w.alloc (.cells #[F, .slice A M.length c] 39) = w1 := ⟨_, rfl⟩
  have hBl : Blk w1 w.heap.size 39 #[F, .slice A M.length c] := by rw [← hw1]; exact Blk.new _ _ _
  have hb1 : Below w.heap.size w w1 := by rw [← hw1]; exact below_alloc (Below.refl _ _) _
  have hsz : w1.heap.size = w.heap.size + 1 := by rw [← hw1]; simp
  rw [hw1]
  clear hw1
  have HASK : Hid (Asks (w.heap.size + 1) w.heap.size (fun i => !keepB M i) w1) := (show Asks _ _ _ _ from fun W i hb =>
    strike_any w.heap.size F A c M i W (hBl.below hb (by omega)) (Kd.C_below hM (hb1.trans (hb.mono (by omega)) )))
  have hD1 : IC w1 D done.length done := Kd.C_below hD hb1
  have hnn : (fun i => !!keepB M i) = keepB M := by funext i; simp
  go_wp2_with (first
    | (go_at_call 28; refine (clonei_any D done.length cd done _ hD1 hl).mono ?_; rintro e w2 ⟨v2, rfl, ho2, hb2⟩; replace hb2 := hid hb2; have HO := hid ho2; clear ho2)
    | (go_at_call 27; refine (deletef_any w1.heap.size _ done (w.heap.size + 1) w.heap.size (fun i => !keepB M i) w1 _ (by rw [← hsz]; exact hb2.out) (by omega) HASK.out HO.out hl).mono ?_; rintro e w3 ⟨v3, rfl, ho3, hb3⟩))
  go_ret
  rw [hnn] at ho3
  exact ⟨v3, rfl, own_less ho3 (by omega), hb1.trans (hb3.mono (by omega))⟩
end Go.Proofs.YtheclfjbedajfaaDoor


namespace Go.Proofs.YtheclfjbedajfaaDoor
set_option linter.unusedSimpArgs false
set_option linter.unusedVariables false
open Go.RowKit Go.Lib Go.Shelf Go.Proofs.YtheclfjbedajfaaDoorW.PrintWords

section
variable {F : Fence} {n : Nat} {P : Program} {ops : Array Oper} {md : Region.Mode} {Q : Exit → Act → World → Prop}

theorem wpAnyIn_inv2 (Inv : (Nat → Bool) → Act → World → Prop)
    (acyc : ∀ (i : Nat) (o : Oper), ops[i]? = some o → ∀ e ∈ o.after, Region.binds md e = true → e.on < i)
    (step : ∀ (i : Nat) (o : Oper) (L : Nat → Bool) (a : Act) (w : World), ops[i]? = some o → L i = false → (∀ e ∈ o.after, Region.binds md e = true → L e.on = true) → Inv L a w →
      ∀ K : Act → World → Prop, (∀ a' w', Inv (put1 L i) a' w' → K a' w') → if Region.wanted o (yielded ops a.tmps) = true then Oper.wpIn F n P o a w K Q else (∀ f, o.about P w a.eval = some f → F.fn f) ∧ K (a.put o.dst undef) w)
    (done : ∀ L a w, (∀ i < ops.size, L i = true) → Inv L a w → Q .normal a w) :
    ∀ (fuel : Nat) (listed : Array Bool) (a : Act) (w : World), listed.size = ops.size → (List.range ops.size).countP (fun i => !listedOf listed i) ≤ fuel → Inv (listedOf listed) a w → wpAnyIn F n P md ops Q fuel listed a w := by
  have allIn : ∀ listed : Array Bool, listed.size = ops.size → Region.ready md ops listed = [] → ∀ i < ops.size, listedOf listed i = true := by
    intro listed hs hr i
    induction i using Nat.strongRecOn with
    | _ i ih =>
      intro hi
      cases hl : listedOf listed i
      · exfalso
        have : i ∈ Region.ready md ops listed := by
          rw [mem_ready]
          refine ⟨getD_in (by omega) hl, ops[i], by simp [hi], fun e he hbd => ?_⟩
          have h1 := acyc i ops[i] (by simp [hi]) e he hbd
          exact ih e.on h1 (by omega)
        rw [hr] at this
        cases this
      · rfl
  intro fuel
  induction fuel with
  | zero =>
    intro listed a w hs hc hi
    have h0 : ∀ i < ops.size, listedOf listed i = true := by
      intro i hi
      have := List.countP_eq_zero.1 (Nat.le_zero.1 hc) i (List.mem_range.2 hi)
      simpa using this
    refine ⟨?_, done _ _ _ h0 hi⟩
    rw [List.eq_nil_iff_forall_not_mem]
    intro j hj
    rw [mem_ready] at hj
    obtain ⟨h1, o, ho, _⟩ := hj
    have hlt : j < ops.size := (Array.getElem?_eq_some_iff.1 ho).1
    have := h0 j hlt
    have h2 := getD_both h1
    rw [listedOf, h2] at this
    cases this
  | succ fuel ih =>
    intro listed a w hs hc hi
    refine ⟨fun hr => done _ _ _ (allIn listed hs hr) hi, fun i hir => ?_⟩
    obtain ⟨h1, o, ho, hall⟩ := mem_ready.1 hir
    have hlt : i < ops.size := (Array.getElem?_eq_some_iff.1 ho).1
    refine wpOpIn_step ho (fun K hK => step i o (listedOf listed) a w ho (getD_both h1) hall hi K (fun a' w' h' => hK a' w' (ih _ a' w' (by simp [hs]) ?_ ?_)))
    · have h3 : listedOf listed i = false := getD_both h1
      have : (List.range ops.size).countP (fun j => !listedOf (listed.setIfInBounds i true) j) + 1 ≤ (List.range ops.size).countP (fun j => !listedOf listed j) := by
        rw [listedOf_set (by omega)]
        exact countP_put1 _ (List.mem_range.2 hlt) h3
      omega
    · rw [listedOf_set (by omega)]; exact h'

theorem wpIn_region_inv2 {id : Nat} {a : Act} {w : World} (hm : P.follows .mixedOrders = true) (Inv : (Nat → Bool) → Act → World → Prop)
    (acyc : ∀ (i : Nat) (o : Oper), ops[i]? = some o → ∀ e ∈ o.after, Region.binds .any e = true → e.on < i)
    (h0 : Inv (fun _ => false) a w.drew)
    (step : ∀ (i : Nat) (o : Oper) (L : Nat → Bool) (a : Act) (w : World), ops[i]? = some o → L i = false → (∀ e ∈ o.after, Region.binds .any e = true → L e.on = true) → Inv L a w →
      ∀ K : Act → World → Prop, (∀ a' w', Inv (put1 L i) a' w' → K a' w') → if Region.wanted o (yielded ops a.tmps) = true then Oper.wpIn F n P o a w K Q else (∀ f, o.about P w a.eval = some f → F.fn f) ∧ K (a.put o.dst undef) w)
    (done : ∀ L a w, (∀ i < ops.size, L i = true) → Inv L a w → Q .normal a w) : (Code.region id ops true).wpIn F n P Q a w := by
  refine wpIn_region_any hm (wpAnyIn_inv2 Inv acyc step done ops.size _ a _ (by simp) ?_ ?_)
  · exact Nat.le_trans (List.countP_le_length) (by simp)
  · have : listedOf (Array.replicate ops.size false) = fun _ => false := by funext j; exact getD_replicate_false _ _
    rw [this]; exact h0
end
/-- Each operation waits for earlier ones alone, as far as an edge binds. -/
def acycOk2 (ops : Array Oper) : Bool := (List.range ops.size).all fun i => match ops[i]? with | some o => o.after.toList.all fun e => !Region.binds .any e || decide (e.on < i) | none => true
theorem acyc_of2 {ops : Array Oper} (h : acycOk2 ops = true) (i : Nat) (o : Oper) (ho : ops[i]? = some o) : ∀ e ∈ o.after, Region.binds .any e = true → e.on < i := by
  have hi : i < ops.size := (Array.getElem?_eq_some_iff.1 ho).1
  have h1 := List.all_eq_true.1 h i (List.mem_range.2 hi)
  rw [ho] at h1
  intro e he hb
  have h2 := List.all_eq_true.1 h1 e (Array.mem_toList_iff.2 he)
  rw [hb] at h2
  exact of_decide_eq_true (by simpa using h2)
end Go.Proofs.YtheclfjbedajfaaDoor


namespace Go.Proofs.YtheclfjbedajfaaDoor
set_option linter.unusedSimpArgs false
set_option linter.unusedVariables false
open Go.RowKit Go.Lib Go.Shelf Go.Proofs.YtheclfjbedajfaaDoorW.PrintWords
attribute [local go_sem] Oper.semAt_some

def embM (bs cs ds f : List Nat) : List Int := alongM bs cs f (queueN bs.length ds)
def keptN (bs cs ds f : List Nat) : Nat := (keptL (embM bs cs ds f) (il ds)).length
def stepB (bs cs ds : List Nat) (s : (List Nat × List Int) × Int) (f : List Nat) : (List Nat × List Int) × Int :=
  if s.2 < (keptN bs cs ds f : Int) then ((f, embM bs cs ds f), (keptN bs cs ds f : Int)) else s
def foldB (bs cs ds : List Nat) (fs : List (List Nat)) : (List Nat × List Int) × Int := fs.foldl (stepB bs cs ds) (([], []), -1)

def isMap (B : Nat) (cs : List Nat) (W : World) (v : Value) : Prop := ∃ bl, v = .map (some bl) ∧ B ≤ bl ∧ bl < W.heap.size ∧ Pl W bl cs
def isCell (B : Nat) (t : TypeId) (u : Value) (W : World) (v : Value) : Prop := ∃ g, v = .pointer (some ⟨g, 0, none⟩) ∧ B ≤ g ∧ Blk W g t #[u]
theorem isMap.below {B : Nat} {cs : List Nat} {W W' : World} {v : Value} (h : isMap B cs W v) (hb : Below W.heap.size W W') : isMap B cs W' v := by
  obtain ⟨bl, h1, h2, h3, h4⟩ := h
  exact ⟨bl, h1, h2, Nat.lt_of_lt_of_le h3 hb.size, h4.kept (grown_of_below hb none) (by simp)⟩
theorem isCell.below {B : Nat} {t : TypeId} {u : Value} {W W' : World} {v : Value} (h : isCell B t u W v) (hb : Below W.heap.size W W') : isCell B t u W' v := by
  obtain ⟨g, h1, h2, h3⟩ := h
  exact ⟨g, h1, h2, h3.below hb h3.lt⟩
theorem isMap.set {B g : Nat} {cs : List Nat} {W : World} {v : Value} {t : TypeId} {c : Array Value} (h : isMap B cs W v) (hg : Blk W g t c) (u : Value) : isMap B cs (W.setCell ⟨g, 0, none⟩ u) v := by
  obtain ⟨bl, h1, h2, h3, h4⟩ := h
  refine ⟨bl, h1, h2, by simpa [go_sem] using h3, h4.kept (grownBy_setCell' W g u) ?_⟩
  intro e
  injection e with e
  subst e
  obtain ⟨D, ⟨es, ck, hh, _⟩, _⟩ := h4
  rw [hg] at hh
  cases hh
theorem isCell.set {B g : Nat} {t t' : TypeId} {u' : Value} {W : World} {v : Value} {c : Array Value} (h : isCell B t u' W v) (hg : Blk W g t' c) (ht : t ≠ t') (u : Value) : isCell B t u' (W.setCell ⟨g, 0, none⟩ u) v := by
  obtain ⟨g', h1, h2, h3⟩ := h
  exact ⟨g', h1, h2, h3.far (h3.ne_ hg ht) u⟩
theorem row_set {B g n : Nat} {e t : TypeId} {W : World} {v : Value} {xs : List Value} {c : Array Value} (h : W.ownsRow B e 1 v n xs) (hg : Blk W g t c) (ht : e ≠ t) (u : Value) : (W.setCell ⟨g, 0, none⟩ u).ownsRow B e 1 v n xs :=
  own_other h (grownBy_setCell' W g u) (.inr (own_blk_ne h hg ht))

theorem own_ownFrom0 {w W' : World} {C base : Nat} {e : TypeId} {size : Nat} {v : Value} {n : Nat} {xs : List Value} {row : Option Nat} (hs : w.ownsRow base e size v n xs) (hg : w.grownBy W' row) (hr : ∀ r, row = some r → C ≤ r ∧ ∃ o : Obj, w.heap[r]? = some o ∧ o.isCells = false) : W'.ownsRow base e size v n xs := by
  refine own_other hs hg ?_
  cases hv : v.ownBlock with
  | none => exact .inl rfl
  | some k =>
    refine .inr (fun e' => ?_)
    obtain ⟨_, o, ho, hc⟩ := hr k (by rw [← hv, ← e', hv])
    rcases hs.2 with ⟨rfl, _⟩ | ⟨g, cap, cur, rfl, _, hh, _⟩
    · simp [Value.ownBlock] at hv
    · have : g = k := by simpa [Value.ownBlock] using hv
      subst this
      rw [hh] at ho
      cases ho
      cases hc
/-- What stands between two rounds: the best embedding so far. -/
def InvB (bs cs ds : List Nat) (w4 : World) (pre : List (List Nat)) (W : World) : Prop :=
  Below w4.heap.size w4 W ∧ ∃ v1 v2, Blk W w4.heap.size 39 #[v1, v2] ∧ Blk W (w4.heap.size + 1) 3 #[.int .i64 (foldB bs cs ds pre).2] ∧
    W.ownsRow w4.heap.size 3 1 v1 (foldB bs cs ds pre).1.1.length (nums .i64 (il (foldB bs cs ds pre).1.1)) ∧ W.ownsRow w4.heap.size 3 1 v2 (foldB bs cs ds pre).1.2.length (nums .i64 (foldB bs cs ds pre).1.2) ∧ ND v1 v2
theorem InvB.own {bs cs ds : List Nat} {w4 : World} {C : Nat} (hC : w4.heap.size ≤ C) : OwnFrom C (InvB bs cs ds w4) := by
  rintro s W W' row ⟨h1, v1, v2, h2, h3, h4, h5, h6⟩ hg hr
  have hne : ∀ (g : Nat) (t : TypeId) (c : Array Value), Blk W g t c → some g ≠ row := fun g t c hb e => by
    obtain ⟨_, o, ho, hc⟩ := hr g e.symm
    rw [hb] at ho
    cases ho
    cases hc
  exact ⟨h1.grown hg h1.size (fun k e => Nat.le_trans hC (hr k e).1), v1, v2, h2.grown hg (hne _ _ _ h2), h3.grown hg (hne _ _ _ h3), own_ownFrom0 h4 hg hr, own_ownFrom0 h5 hg hr, h6⟩
theorem foldB_snoc (bs cs ds : List Nat) (pre : List (List Nat)) (x : List Nat) : foldB bs cs ds (pre ++ [x]) = stepB bs cs ds (foldB bs cs ds pre) x := by simp [foldB]
theorem InvB.take {bs cs ds x : List Nat} {w4 W w9 : World} {pre : List (List Nat)} {v1 v2 v3 v4 : Value} (hbW : Below w4.heap.size w4 W) (kb : Blk W w4.heap.size 39 #[v1, v2]) (km : Blk W (w4.heap.size + 1) 3 #[.int .i64 (foldB bs cs ds pre).2])
    (hb : Below W.heap.size W w9) (r3 : w9.ownsRow W.heap.size 3 1 v3 x.length (nums .i64 (il x))) (r4 : w9.ownsRow W.heap.size 3 1 v4 bs.length (nums .i64 (embM bs cs ds x))) (hlt : (foldB bs cs ds pre).2 < (keptN bs cs ds x : Int)) (hnd : ND v3 v4) :
    InvB bs cs ds w4 (pre ++ [x]) (((w9.setCell ⟨w4.heap.size, 0, none⟩ v3).setCell ⟨w4.heap.size, 1, none⟩ v4).setCell ⟨w4.heap.size + 1, 0, none⟩ (.int .i64 (keptN bs cs ds x))) := by
  have hl : (embM bs cs ds x).length = bs.length := by have := r4.1; simpa [nums] using this
  have h1 := kb.below hb kb.lt
  have h2 := km.below hb km.lt
  have hG : w4.heap.size < W.heap.size := kb.lt
  have hG1 : w4.heap.size + 1 < W.heap.size := km.lt
  have hbw9 : Below w4.heap.size w4 w9 := below_then hbW hbW.size hb
  have own : ∀ (v : Value) (n : Nat) (xs : List Value), w9.ownsRow W.heap.size 3 1 v n xs → (((w9.setCell ⟨w4.heap.size, 0, none⟩ v3).setCell ⟨w4.heap.size, 1, none⟩ v4).setCell ⟨w4.heap.size + 1, 0, none⟩ (.int .i64 (keptN bs cs ds x))).ownsRow w4.heap.size 3 1 v n xs := fun v n xs h => by
    have n0 : some w4.heap.size ≠ v.ownBlock := fun e => by have := (h.lt _ e.symm).1; omega
    have n1 : some (w4.heap.size + 1) ≠ v.ownBlock := fun e => by have := (h.lt _ e.symm).1; omega
    exact own_less (own_other (own_other (own_other h (grownBy_setCell _ _ _ _) (.inr n0.symm)) (grownBy_setCell _ _ _ _) (.inr n0.symm)) (grownBy_setCell _ _ _ _) (.inr n1.symm)) (by omega)
  rw [InvB, foldB_snoc, stepB, if_pos hlt]
  refine ⟨((hbw9.setCell (p := ⟨w4.heap.size, 0, none⟩) (Nat.le_refl _) _).setCell (p := ⟨w4.heap.size, 1, none⟩) (Nat.le_refl _) _).setCell (p := ⟨w4.heap.size + 1, 0, none⟩) (Nat.le_succ _) _, v3, v4, ?_, ?_, own _ _ _ r3, by rw [hl]; exact own _ _ _ r4, hnd⟩
  · have := ((h1.set_ 0 v3).set_ 1 v4).far (p := ⟨w4.heap.size + 1, 0, none⟩) (by simp) (.int .i64 (keptN bs cs ds x))
    simpa using this
  · have := (((h2.far (p := ⟨w4.heap.size, 0, none⟩) (by simp) v3).far (p := ⟨w4.heap.size, 1, none⟩) (by simp) v4)).set_ 0 (.int .i64 (keptN bs cs ds x))
    simpa using this
theorem InvB.skip {bs cs ds x : List Nat} {w4 W w9 : World} {pre : List (List Nat)} (h : InvB bs cs ds w4 pre W) (hb : Below W.heap.size W w9) (hlt : ¬ (foldB bs cs ds pre).2 < (keptN bs cs ds x : Int)) : InvB bs cs ds w4 (pre ++ [x]) w9 := by
  obtain ⟨h1, v1, v2, h2, h3, h4, h5, h6⟩ := h
  rw [InvB, foldB_snoc, stepB, if_neg hlt]
  exact ⟨below_then h1 h1.size hb, v1, v2, h2.below hb h2.lt, h3.below hb h3.lt, pw_own_below h4 hb, pw_own_below h5 hb, h6⟩
theorem keeps_take {B G : Nat} {W w9 : World} (hG : G + 1 < B) (hb : Below W.heap.size W w9) (v3 v4 v5 : Value) :
    KeepsFrom B W (((w9.setCell ⟨G, 0, none⟩ v3).setCell ⟨G, 1, none⟩ v4).setCell ⟨G + 1, 0, none⟩ v5) :=
  (((KeepsFrom.of_grownBy (grown_of_below hb none) (by rintro j ⟨⟩)).trans (KeepsFrom.of_grownBy (grownBy_setCell _ _ _ _) (by rintro j ⟨⟩; omega))).trans (KeepsFrom.of_grownBy (grownBy_setCell _ _ _ _) (by rintro j ⟨⟩; omega))).trans (KeepsFrom.of_grownBy (grownBy_setCell _ _ _ _) (by rintro j ⟨⟩; omega))
theorem KC_take {B G : Nat} {W w9 : World} (hG : G + 1 < B) (hb : Below W.heap.size W w9) (v3 v4 v5 : Value) :
    KC B W (((w9.setCell ⟨G, 0, none⟩ v3).setCell ⟨G, 1, none⟩ v4).setCell ⟨G + 1, 0, none⟩ v5) :=
  (((KC.of_below hb).trans (KC.set _ (show G < _ by omega) _)).trans (KC.set _ (show G < _ by omega) _)).trans (KC.set _ (show G + 1 < _ by omega) _)
theorem withL_permE (bs : List Nat) (b : Nat) : (withL bs b).Perm (b :: bs) := by
  unfold withL
  rw [List.append_assoc]
  have := List.perm_middle (a := b) (l₁ := bs.take (wat bs b)) (l₂ := bs.drop (wat bs b))
  rwa [List.take_append_drop] at this
theorem sortedL_permE (l : List Nat) : (sortedL l).Perm l := by
  have : ∀ (l acc : List Nat), (l.foldl withL acc).Perm (l ++ acc) := by
    intro l
    induction l with
    | nil => intro acc; exact List.Perm.refl _
    | cons x r ih =>
      intro acc
      refine (ih _).trans ?_
      refine (List.Perm.append_left r (withL_permE acc x)).trans ?_
      exact List.perm_middle
  simpa [sortedL] using this l []
theorem sortedL_len (bs : List Nat) : (sortedL bs).length = bs.length := (sortedL_permE bs).length_eq
theorem queueN_lt {n : Nat} {ds : List Nat} (h : ∀ i ∈ ds, i < n) : ∀ i ∈ queueN n ds, i < n := by
  intro i hi
  rw [queueN, List.mem_append] at hi
  rcases hi with hi | hi
  · exact h i ((sortedL_permE ds).mem_iff.1 hi)
  · exact List.mem_range.1 ((List.mem_filter.1 hi).1)
theorem queueN_len {n : Nat} {ds : List Nat} : (queueN n ds).length ≤ ds.length + n := by
  rw [queueN, List.length_append, sortedL_len]
  have := List.length_filter_le (fun i => !decide (i ∈ ds)) (List.range n)
  rw [List.length_range] at this
  omega
theorem kept_own {M : List Int} {ds : List Nat} {A D : Option Addr} {n c cD base : Nat} {F : Value} {W : World} (hF : F.oneCell' = true) (r : W.ownsRow base 3 1 (.slice A n c) n (nums .i64 M)) (hD : IC W D ds.length (il ds)) (hl : ds.length < 2 ^ 40) :
    Calls Tryd.prog 11 #[.agg #[F, .slice A n c], .slice D ds.length cD] W fun e w' =>
      ∃ v, e = .returned v ∧ w'.ownsRow W.heap.size 3 1 v (keptL M (il ds)).length (nums .i64 (keptL M (il ds))) ∧ Below W.heap.size W w' := by
  obtain ⟨A', c', e', _, _, hC⟩ := own_IC r
  injection e' with e1 _ e2
  subst e1 e2
  have hln := hC.len
  subst hln
  have := kept_any F A c M D cD (il ds) W hF hC (by rw [il_length]; exact hD) (by rw [il_length]; exact hl)
  rwa [il_length] at this
abbrev tM : TypeId := 76
abbrev tS : TypeId := 32
/-- What stands while region 7 is carried out in any order. -/
structure S7 (w2 : World) (AGA AGB SLD : Value) (cs qs : List Nat) (L : Nat → Bool) (w : World) (y0 y1 y2 y3 y4 y5 y6 : Value) : Prop where
  bel : Below w2.heap.size w2 w
  h0 : L 0 = true → y0 = AGB
  h1 : L 1 = true → isMap w2.heap.size cs w y1
  h2 : L 2 = true → y2 = AGA
  h3 : L 3 = true → y3 = SLD
  h4 : L 4 = true → w.ownsRow w2.heap.size 3 1 y4 qs.length (nums .i64 (il qs))
  h5 : L 5 = true → isCell w2.heap.size tM (if L 7 then y1 else .map none) w y5
  h6 : L 6 = true → isCell w2.heap.size tS (if L 8 then y4 else .slice none 0 0) w y6
  h7 : L 7 = true → L 1 = true ∧ L 5 = true
  h8 : L 8 = true → L 4 = true ∧ L 6 = true
section
variable {w2 w w' : World} {AGA AGB SLD : Value} {cs qs : List Nat} {L : Nat → Bool} {y0 y1 y2 y3 y4 y5 y6 v : Value}
theorem S7.op0 (h : S7 w2 AGA AGB SLD cs qs L w y0 y1 y2 y3 y4 y5 y6) : S7 w2 AGA AGB SLD cs qs (put1 L 0) w AGB y1 y2 y3 y4 y5 y6 := ⟨h.bel, fun _ => rfl, h.h1, h.h2, h.h3, h.h4, h.h5, h.h6, h.h7, h.h8⟩
theorem S7.op2 (h : S7 w2 AGA AGB SLD cs qs L w y0 y1 y2 y3 y4 y5 y6) : S7 w2 AGA AGB SLD cs qs (put1 L 2) w y0 y1 AGA y3 y4 y5 y6 := ⟨h.bel, h.h0, h.h1, fun _ => rfl, h.h3, h.h4, h.h5, h.h6, h.h7, h.h8⟩
theorem S7.op3 (h : S7 w2 AGA AGB SLD cs qs L w y0 y1 y2 y3 y4 y5 y6) : S7 w2 AGA AGB SLD cs qs (put1 L 3) w y0 y1 y2 SLD y4 y5 y6 := ⟨h.bel, h.h0, h.h1, h.h2, fun _ => rfl, h.h4, h.h5, h.h6, h.h7, h.h8⟩
theorem S7.n7 (h : S7 w2 AGA AGB SLD cs qs L w y0 y1 y2 y3 y4 y5 y6) (hf : L 1 = false ∨ L 5 = false) : L 7 = false := by
  cases e : L 7
  · rfl
  · obtain ⟨h1, h2⟩ := h.h7 e
    rcases hf with hf | hf <;> simp_all
theorem S7.n8 (h : S7 w2 AGA AGB SLD cs qs L w y0 y1 y2 y3 y4 y5 y6) (hf : L 4 = false ∨ L 6 = false) : L 8 = false := by
  cases e : L 8
  · rfl
  · obtain ⟨h1, h2⟩ := h.h8 e
    rcases hf with hf | hf <;> simp_all
theorem S7.call1 (h : S7 w2 AGA AGB SLD cs qs L w y0 y1 y2 y3 y4 y5 y6) (hf : L 1 = false) (hb : Below w.heap.size w w') (hm : isMap w2.heap.size cs w' v) : S7 w2 AGA AGB SLD cs qs (put1 L 1) w' y0 v y2 y3 y4 y5 y6 :=
  ⟨below_then h.bel h.bel.size hb, h.h0, fun _ => hm, h.h2, h.h3, fun e => pw_own_below (h.h4 e) hb, fun e => by
    have := (h.h5 e).below hb
    show isCell _ _ (if L 7 then _ else _) _ _
    rw [h.n7 (.inl hf)] at this ⊢
    exact this, fun e => (h.h6 e).below hb, fun e => ⟨rfl, (h.h7 e).2⟩, h.h8⟩
theorem S7.call4 (h : S7 w2 AGA AGB SLD cs qs L w y0 y1 y2 y3 y4 y5 y6) (hf : L 4 = false) (hb : Below w.heap.size w w') (hm : w'.ownsRow w2.heap.size 3 1 v qs.length (nums .i64 (il qs))) : S7 w2 AGA AGB SLD cs qs (put1 L 4) w' y0 y1 y2 y3 v y5 y6 :=
  ⟨below_then h.bel h.bel.size hb, h.h0, fun e => (h.h1 e).below hb, h.h2, h.h3, fun _ => hm, fun e => (h.h5 e).below hb, fun e => by
    have := (h.h6 e).below hb
    show isCell _ _ (if L 8 then _ else _) _ _
    rw [h.n8 (.inl hf)] at this ⊢
    exact this, h.h7, fun e => ⟨rfl, (h.h8 e).2⟩⟩
theorem S7.alloc5 (h : S7 w2 AGA AGB SLD cs qs L w y0 y1 y2 y3 y4 y5 y6) (hf : L 5 = false) : S7 w2 AGA AGB SLD cs qs (put1 L 5) (w.alloc (.cells #[.map none] tM)) y0 y1 y2 y3 y4 (.pointer (some ⟨w.heap.size, 0, none⟩)) y6 :=
  have hb := below_alloc (Below.refl w.heap.size w) (.cells #[Value.map none] tM)
  ⟨below_then h.bel h.bel.size hb, h.h0, fun e => (h.h1 e).below hb, h.h2, h.h3, fun e => pw_own_below (h.h4 e) hb, fun _ => by
    show isCell _ _ (if L 7 then _ else _) _ _
    rw [h.n7 (.inr hf)]
    exact ⟨_, rfl, h.bel.size, Blk.new _ _ _⟩, fun e => (h.h6 e).below hb, fun e => ⟨(h.h7 e).1, rfl⟩, h.h8⟩
theorem S7.alloc6 (h : S7 w2 AGA AGB SLD cs qs L w y0 y1 y2 y3 y4 y5 y6) (hf : L 6 = false) : S7 w2 AGA AGB SLD cs qs (put1 L 6) (w.alloc (.cells #[.slice none 0 0] tS)) y0 y1 y2 y3 y4 y5 (.pointer (some ⟨w.heap.size, 0, none⟩)) :=
  have hb := below_alloc (Below.refl w.heap.size w) (.cells #[Value.slice none 0 0] tS)
  ⟨below_then h.bel h.bel.size hb, h.h0, fun e => (h.h1 e).below hb, h.h2, h.h3, fun e => pw_own_below (h.h4 e) hb, fun e => (h.h5 e).below hb, fun _ => by
    show isCell _ _ (if L 8 then _ else _) _ _
    rw [h.n8 (.inr hf)]
    exact ⟨_, rfl, h.bel.size, Blk.new _ _ _⟩, h.h7, fun e => ⟨(h.h8 e).1, rfl⟩⟩
theorem S7.store7 {g : Nat} {c : Array Value} (h : S7 w2 AGA AGB SLD cs qs L w y0 y1 y2 y3 y4 y5 y6) (d1 : L 1 = true) (d5 : L 5 = true) (hg : y5 = .pointer (some ⟨g, 0, none⟩)) (hgB : w2.heap.size ≤ g) (hc : Blk w g tM #[.map none]) : S7 w2 AGA AGB SLD cs qs (put1 L 7) (w.setCell ⟨g, 0, none⟩ y1) y0 y1 y2 y3 y4 y5 y6 :=
  ⟨h.bel.setCell (p := ⟨g, 0, none⟩) hgB _, h.h0, fun e => (h.h1 e).set hc _, h.h2, h.h3, fun e => row_set (h.h4 e) hc (by decide) _, fun _ => ⟨g, hg, hgB, hc.set_ 0 y1⟩, fun e => (h.h6 e).set hc (by decide) _, fun _ => ⟨d1, d5⟩, h.h8⟩
theorem S7.store8 {g : Nat} {c : Array Value} (h : S7 w2 AGA AGB SLD cs qs L w y0 y1 y2 y3 y4 y5 y6) (d1 : L 4 = true) (d5 : L 6 = true) (hg : y6 = .pointer (some ⟨g, 0, none⟩)) (hgB : w2.heap.size ≤ g) (hc : Blk w g tS #[.slice none 0 0]) : S7 w2 AGA AGB SLD cs qs (put1 L 8) (w.setCell ⟨g, 0, none⟩ y4) y0 y1 y2 y3 y4 y5 y6 :=
  ⟨h.bel.setCell (p := ⟨g, 0, none⟩) hgB _, h.h0, fun e => (h.h1 e).set hc _, h.h2, h.h3, fun e => row_set (h.h4 e) hc (by decide) _, fun e => (h.h5 e).set hc (by decide) _, fun _ => ⟨g, hg, hgB, hc.set_ 0 y4⟩, h.h7, fun _ => ⟨d1, d5⟩⟩
end

theorem best_end {W w w4 : World} {r D n1 n2 : Nat} {A1 A2 : Option Addr} {c1 c2 : Nat} {xs1 xs2 : List Value} {cs : Array Value} {a : Act} (hr : Blk W r 39 cs) (hdef : W.heap[D]? = some (.deferred (some []))) (hbW : Below w4.heap.size w4 W) (hrw : w.heap.size ≤ r) (hr4 : r < w4.heap.size) (hrD : w4.heap.size ≤ D)
    (r1 : W.ownsRow w4.heap.size 3 1 (.slice A1 n1 c1) n1 xs1) (r2 : W.ownsRow w4.heap.size 3 1 (.slice A2 n2 c2) n2 xs2) (hd : a.defers = [{ target := .collected D, args := #[] }]) (ht6 : a.tmps.getD 6 undef = .pointer (some ⟨r, 0, none⟩)) (ht7 : a.tmps.getD 7 undef = .int .i64 0) (hb04 : Below w.heap.size w w4) (hnd : ND (.slice A1 n1 c1) (.slice A2 n2 c2)) (hcs : cs = #[.slice none 0 0, .slice none 0 0] := by rfl) :
    bodyPostM Fence.wide 8 Tryd.prog Tryd.f26 (fun e w' => ∃ v1 v2, e = .returned (.tuple #[.agg #[v1, v2], .int .i64 0]) ∧ w'.ownsRow w.heap.size 3 1 v1 n1 xs1 ∧ w'.ownsRow w.heap.size 3 1 v2 n2 xs2 ∧ Below w.heap.size w w' ∧ ND v1 v2) .ret a ((W.setCell ⟨r, 0, none⟩ (.slice A1 n1 c1)).setCell ⟨r, 1, none⟩ (.slice A2 n2 c2)) := by
  subst hcs
  have hue := Tryd.underlying39
  have hK2 := deferred_set (p := ⟨r, 1, none⟩) (.slice A2 n2 c2) (deferred_set (p := ⟨r, 0, none⟩) (.slice A1 n1 c1) hdef (show r ≠ D by omega)) (show r ≠ D by omega)
  have hr2 := (hr.set_ 0 (.slice A1 n1 c1)).set_ 1 (.slice A2 n2 c2)
  obtain ⟨W2, hW2⟩ : ∃ W2, (W.setCell ⟨r, 0, none⟩ (.slice A1 n1 c1)).setCell ⟨r, 1, none⟩ (.slice A2 n2 c2) = W2 := ⟨_, rfl⟩
  have own : ∀ (v : Value) (n : Nat) (xs : List Value), W.ownsRow w4.heap.size 3 1 v n xs → (W2.putObj D (.deferred none)).ownsRow w.heap.size 3 1 v n xs := fun v n xs h => by
    have n0 : some r ≠ v.ownBlock := fun e => by have := (h.lt _ e.symm).1; omega
    have h2 : W2.ownsRow w4.heap.size 3 1 v n xs := by rw [← hW2]; exact own_other (own_other h (grownBy_setCell _ _ _ _) (.inr n0.symm)) (grownBy_setCell _ _ _ _) (.inr n0.symm)
    exact own_less (own_ownFrom0 (C := 0) h2 (grownBy_putObj' W2 D _) (fun q e => by cases e; exact ⟨Nat.zero_le _, _, by rw [← hW2]; exact hK2, rfl⟩)) (by have := hb04.size; omega)
  have hbelow : Below w.heap.size w (W2.putObj D (.deferred none)) := by
    refine below_put ?_ (by have := hb04.size; omega)
    rw [← hW2]
    exact ((below_then hb04 hb04.size hbW).setCell (p := ⟨r, 0, none⟩) hrw _).setCell (p := ⟨r, 1, none⟩) hrw _
  rw [hW2] at hK2 hr2 ⊢
  have e0 := cell_put (o' := .deferred none) hK2 rfl ((hr2.cell 0).trans rfl)
  have e1 := cell_put (o' := .deferred none) hK2 rfl ((hr2.cell 1).trans rfl)
  refine m_ret1 (v := .tuple #[.agg #[.slice A1 n1 c1, .slice A2 n2 c2], .int .i64 0]) (D := D) hd hK2 ?_ ⟨_, _, rfl, own _ _ _ r1, own _ _ _ r2, hbelow, hnd⟩
  simp at ht6 ht7
  simp at e0 e1
  simp [results, Tryd.results26, go_sem, ht6, ht7, e0, e1, hue]
set_option maxHeartbeats 2000000 in
set_option maxRecDepth 100000 in
theorem best_ok (V U cA cC cD : Nat) (A C D : Option Addr) (bs cs ds : List Nat) (w : World) (hV : V ≤ 5) (hU : U ≤ 7) (hVU : V ≤ U) (hB : BlC w A bs.length bs) (hC : BlC w C cs.length cs) (hD : IC w D ds.length (il ds))
    (hdb : ∀ i ∈ ds, i < bs.length) (hdn : ds.Nodup) (hd12 : ds.length ≤ 12) (hdl : ds.length ≤ bs.length) (hbl : bs.length ≤ 2 ^ 19) (hcl : cs.length ≤ 2 ^ 20) :
    Calls Tryd.prog 26 #[.agg #[.int .i64 V, .slice A bs.length cA], .agg #[.int .i64 U, .slice C cs.length cC], .slice D ds.length cD] w fun e w' =>
      ∃ v1 v2, e = .returned (.tuple #[.agg #[v1, v2], .int .i64 0]) ∧ w'.ownsRow w.heap.size 3 1 v1 (foldB bs cs ds (lsL U V [])).1.1.length (nums .i64 (il (foldB bs cs ds (lsL U V [])).1.1)) ∧
        w'.ownsRow w.heap.size 3 1 v2 (foldB bs cs ds (lsL U V [])).1.2.length (nums .i64 (foldB bs cs ds (lsL U V [])).1.2) ∧ Below w.heap.size w w' ∧ ND v1 v2 := by
  have hui := Tryd.underlying29
  have hue := Tryd.underlying39
  have hdiff : diffB (il ds) (bs.length : Int) = true := diffB_iff.2 ⟨fun x hx => by obtain ⟨i, hi, rfl⟩ := List.mem_map.1 hx; have := hdb i hi; exact ⟨by simp, by simpa using this⟩, by
    unfold il List.Nodup; rw [List.pairwise_map]; exact hdn.imp (fun h e => h (by omega))⟩
  have DIF := hid (show ∀ W, Below w.heap.size w W → _ from fun W hb => different_any D cD (il ds) (bs.length : Int) W (by rw [il_length]; exact Kd.C_below hD hb) (by rw [il_length]; omega) (fun x hx => by obtain ⟨i, hi, rfl⟩ := List.mem_map.1 hx; have := hdb i hi; simp [Lit.wf, IntKind.min, IntKind.max, IntKind.signed, IntKind.bits]; omega))
  rw [hdiff, il_length] at DIF
  have g5 : ¬ (5 : Int) < V := by omega
  have g7 : ¬ (7 : Int) < U := by omega
  have gV : ¬ (U : Int) < V := by omega
  refine calls_marks 8 Tryd.func26 rfl ?_
  simp only [Tryd.ntmps26, List.size_toArray, List.length_cons, List.length_nil, Nat.reduceAdd, Nat.reduceSub, Array.replicate_succ, Array.replicate_zero, List.push_toArray, List.append_toArray, List.nil_append, List.cons_append]
  go_upto_region 3 with (fail)
  obtain ⟨w1, hw1⟩ : ∃ w1, ((((w.alloc (.cells #[.int .i64 V, .slice A bs.length cA] 29)).alloc (.cells #[.int .i64 U, .slice C cs.length cC] 29)).alloc (.cells #[.slice D ds.length cD] 32)).alloc (.cells #[.slice none 0 0, .slice none 0 0] 39)) = w1 := ⟨_, rfl⟩
  have hb1 : Below w.heap.size w w1 := by rw [← hw1]; exact below_alloc (below_alloc (below_alloc (below_alloc (Below.refl _ _) _) _) _) _
  have hz1 : w1.heap.size = w.heap.size + 4 := by rw [← hw1]; simp
  have ka : Blk w1 w.heap.size 29 #[.int .i64 V, .slice A bs.length cA] := by rw [← hw1]; exact (((Blk.new _ _ _).alloc _).alloc _).alloc _
  have kb : Blk w1 (w.heap.size + 1) 29 #[.int .i64 U, .slice C cs.length cC] := by rw [← hw1]; refine (Blk.alloc (Blk.alloc (g := w.heap.size + 1) ?_ _) _); simpa using Blk.new (w.alloc (.cells #[.int .i64 V, .slice A bs.length cA] 29)) 29 #[.int .i64 U, .slice C cs.length cC]
  have kd : Blk w1 (w.heap.size + 1 + 1) 32 #[.slice D ds.length cD] := by rw [← hw1]; refine (Blk.alloc (g := w.heap.size + 1 + 1) ?_ _); simpa using Blk.new ((w.alloc (.cells #[.int .i64 V, .slice A bs.length cA] 29)).alloc (.cells #[.int .i64 U, .slice C cs.length cC] 29)) 32 #[.slice D ds.length cD]
  have kr : Blk w1 (w.heap.size + 1 + 1 + 1) 39 #[.slice none 0 0, .slice none 0 0] := by rw [← hw1]; simpa using Blk.new (((w.alloc (.cells #[.int .i64 V, .slice A bs.length cA] 29)).alloc (.cells #[.int .i64 U, .slice C cs.length cC] 29)).alloc (.cells #[.slice D ds.length cD] 32)) 39 #[.slice none 0 0, .slice none 0 0]
  have a0 : w1.cell? ⟨w.heap.size, 0, none⟩ = some (.int .i64 V) := (ka.cell 0).trans rfl
  have a1 : w1.cell? ⟨w.heap.size, 1, none⟩ = some (.slice A bs.length cA) := (ka.cell 1).trans rfl
  have b0 : w1.cell? ⟨w.heap.size + 1, 0, none⟩ = some (.int .i64 U) := (kb.cell 0).trans rfl
  have b1 : w1.cell? ⟨w.heap.size + 1, 1, none⟩ = some (.slice C cs.length cC) := (kb.cell 1).trans rfl
  have d0 : w1.cell? ⟨w.heap.size + 1 + 1, 0, none⟩ = some (.slice D ds.length cD) := (kd.cell 0).trans rfl
  have KA := hid ka
  have KB := hid kb
  have KD := hid kd
  have KR := hid kr
  have HB := hid hB
  have HC := hid hC
  have HD := hid hD
  rw [hw1]
  clear hw1 ka kb kd kr hB hC hD hdiff
  go_upto_region 7 with (go_at_call 32; refine (DIF.out _ (by exact hb1)).mono ?_; rintro e w2 ⟨rfl, hb2⟩; have a0' := (hb2.cell (p := ⟨w.heap.size, 0, none⟩) (show w.heap.size < _ by omega)).trans a0; have b0' := (hb2.cell (p := ⟨w.heap.size + 1, 0, none⟩) (show w.heap.size + 1 < _ by omega)).trans b0)
  have hb02 : Below w.heap.size w w2 := below_then hb1 (by omega) hb2
  have hz2 : w.heap.size + 4 ≤ w2.heap.size := by have := hb2.size; omega
  have HCELL : Hid (∀ W, Below w2.heap.size w2 W → W.cell? ⟨w.heap.size, 0, none⟩ = some (.int .i64 V) ∧ W.cell? ⟨w.heap.size, 1, none⟩ = some (.slice A bs.length cA) ∧ W.cell? ⟨w.heap.size + 1, 0, none⟩ = some (.int .i64 U) ∧ W.cell? ⟨w.heap.size + 1, 1, none⟩ = some (.slice C cs.length cC) ∧ W.cell? ⟨w.heap.size + 1 + 1, 0, none⟩ = some (.slice D ds.length cD)) :=
    (show ∀ W, _ from fun W hb => by
      have kc : ∀ b o, b < w1.heap.size → W.cell? ⟨b, o, none⟩ = w1.cell? ⟨b, o, none⟩ := fun b o h => (hb.cell (p := ⟨b, o, none⟩) (Nat.lt_of_lt_of_le h hb2.size)).trans (hb2.cell (p := ⟨b, o, none⟩) h)
      exact ⟨(kc _ _ (by omega)).trans a0, (kc _ _ (by omega)).trans a1, (kc _ _ (by omega)).trans b0, (kc _ _ (by omega)).trans b1, (kc _ _ (by omega)).trans d0⟩)
  have FIND := hid (fun W (h : Below w2.heap.size w2 W) => find_any (.int .i64 U) C cC cs W rfl (HC.out.below (below_then hb02 hb02.size h)) hcl)
  have QUE := hid (fun W (h : Below w2.heap.size w2 W) => queue_any (.int .i64 V) A cA bs.length D cD ds W rfl (Kd.C_below HD.out (below_then hb02 hb02.size h)) hdl hd12 (by omega))
  clear a0 a1 b0 b1 d0 a0' b0' DIF
  generalize decide (U < V) = bq
  refine (wpIn_wide (n := 8)).1 ?_
  obtain ⟨vv, hvv⟩ : ∃ vv : Nat → Value, vv = fun i => (#[] : Array Value).getD i undef := ⟨_, rfl⟩
  have mk : ∀ (L : Nat → Bool) (a' : Act) (w' : World), a' = ({ tmps := #[.agg #[.int .i64 V, .slice A bs.length cA], .agg #[.int .i64 U, .slice C cs.length cC], .slice D ds.length cD, .pointer (some ⟨w.heap.size, 0, none⟩), .pointer (some ⟨w.heap.size + 1, 0, none⟩), .pointer (some ⟨w.heap.size + 1 + 1, 0, none⟩), .pointer (some ⟨w.heap.size + 1 + 1 + 1, 0, none⟩), .int .i64 0, a'.tmps.getD ((#[37, 38, 39, 40, 41, 8, 9, 64, 65] : Array Nat).getD (5) 0) undef, a'.tmps.getD ((#[37, 38, 39, 40, 41, 8, 9, 64, 65] : Array Nat).getD (6) 0) undef, undef, undef, undef, undef, undef, .pointer (some ⟨w.heap.size, 0, none⟩), .int .i64 V, .bool false, .bool false, .pointer (some ⟨w.heap.size + 1, 0, none⟩), .int .i64 U, .bool false, .bool false, undef, .slice D ds.length cD, .pointer (some ⟨w.heap.size, 1, none⟩), .slice A bs.length cA, .int .i64 bs.length, .bool true, .bool false, undef, .pointer (some ⟨w.heap.size, 0, none⟩), .int .i64 V, .pointer (some ⟨w.heap.size + 1, 0, none⟩), .int .i64 U, .bool bq, undef, a'.tmps.getD ((#[37, 38, 39, 40, 41, 8, 9, 64, 65] : Array Nat).getD (0) 0) undef, a'.tmps.getD ((#[37, 38, 39, 40, 41, 8, 9, 64, 65] : Array Nat).getD (1) 0) undef, a'.tmps.getD ((#[37, 38, 39, 40, 41, 8, 9, 64, 65] : Array Nat).getD (2) 0) undef, a'.tmps.getD ((#[37, 38, 39, 40, 41, 8, 9, 64, 65] : Array Nat).getD (3) 0) undef, a'.tmps.getD ((#[37, 38, 39, 40, 41, 8, 9, 64, 65] : Array Nat).getD (4) 0) undef, undef, undef, undef, undef, undef, undef, undef, undef, undef, undef, undef, undef, undef, undef, undef, undef, undef, undef, undef, undef, undef, undef], defers := [] } : Act) → (∀ j < 0, L j = true → a'.tmps.getD ((#[37, 38, 39, 40, 41, 8, 9, 64, 65] : Array Nat).getD (j) 0) undef = vv j) → (fun (L : Nat → Bool) (wz : World) (y : Nat → Value) => S7 w2 (.agg #[.int .i64 V, .slice A bs.length cA]) (.agg #[.int .i64 U, .slice C cs.length cC]) (.slice D ds.length cD) cs (queueN bs.length ds) L wz (y 0) (y 1) (y 2) (y 3) (y 4) (y 5) (y 6)) L w' (fun m => a'.tmps.getD ((#[37, 38, 39, 40, 41, 8, 9, 64, 65] : Array Nat).getD (m) 0) undef) → ∃ y : Nat → Value, a' = ({ tmps := #[.agg #[.int .i64 V, .slice A bs.length cA], .agg #[.int .i64 U, .slice C cs.length cC], .slice D ds.length cD, .pointer (some ⟨w.heap.size, 0, none⟩), .pointer (some ⟨w.heap.size + 1, 0, none⟩), .pointer (some ⟨w.heap.size + 1 + 1, 0, none⟩), .pointer (some ⟨w.heap.size + 1 + 1 + 1, 0, none⟩), .int .i64 0, y 5, y 6, undef, undef, undef, undef, undef, .pointer (some ⟨w.heap.size, 0, none⟩), .int .i64 V, .bool false, .bool false, .pointer (some ⟨w.heap.size + 1, 0, none⟩), .int .i64 U, .bool false, .bool false, undef, .slice D ds.length cD, .pointer (some ⟨w.heap.size, 1, none⟩), .slice A bs.length cA, .int .i64 bs.length, .bool true, .bool false, undef, .pointer (some ⟨w.heap.size, 0, none⟩), .int .i64 V, .pointer (some ⟨w.heap.size + 1, 0, none⟩), .int .i64 U, .bool bq, undef, y 0, y 1, y 2, y 3, y 4, undef, undef, undef, undef, undef, undef, undef, undef, undef, undef, undef, undef, undef, undef, undef, undef, undef, undef, undef, undef, undef, undef], defers := [] } : Act) ∧ (∀ j < 0, L j = true → y j = vv j) ∧ (fun (L : Nat → Bool) (wz : World) (y : Nat → Value) => S7 w2 (.agg #[.int .i64 V, .slice A bs.length cA]) (.agg #[.int .i64 U, .slice C cs.length cC]) (.slice D ds.length cD) cs (queueN bs.length ds) L wz (y 0) (y 1) (y 2) (y 3) (y 4) (y 5) (y 6)) L w' y := fun L a' w' h1 h2 h3 => ⟨fun m => a'.tmps.getD ((#[37, 38, 39, 40, 41, 8, 9, 64, 65] : Array Nat).getD (m) 0) undef, h1, h2, h3⟩
  refine wpIn_region_inv2 (by kernel_rfl) (fun L aI wI => ∃ y : Nat → Value, aI = ({ tmps := #[.agg #[.int .i64 V, .slice A bs.length cA], .agg #[.int .i64 U, .slice C cs.length cC], .slice D ds.length cD, .pointer (some ⟨w.heap.size, 0, none⟩), .pointer (some ⟨w.heap.size + 1, 0, none⟩), .pointer (some ⟨w.heap.size + 1 + 1, 0, none⟩), .pointer (some ⟨w.heap.size + 1 + 1 + 1, 0, none⟩), .int .i64 0, y 5, y 6, undef, undef, undef, undef, undef, .pointer (some ⟨w.heap.size, 0, none⟩), .int .i64 V, .bool false, .bool false, .pointer (some ⟨w.heap.size + 1, 0, none⟩), .int .i64 U, .bool false, .bool false, undef, .slice D ds.length cD, .pointer (some ⟨w.heap.size, 1, none⟩), .slice A bs.length cA, .int .i64 bs.length, .bool true, .bool false, undef, .pointer (some ⟨w.heap.size, 0, none⟩), .int .i64 V, .pointer (some ⟨w.heap.size + 1, 0, none⟩), .int .i64 U, .bool bq, undef, y 0, y 1, y 2, y 3, y 4, undef, undef, undef, undef, undef, undef, undef, undef, undef, undef, undef, undef, undef, undef, undef, undef, undef, undef, undef, undef, undef, undef], defers := [] } : Act) ∧ (∀ j < 0, L j = true → y j = vv j) ∧ (fun (L : Nat → Bool) (wz : World) (y : Nat → Value) => S7 w2 (.agg #[.int .i64 V, .slice A bs.length cA]) (.agg #[.int .i64 U, .slice C cs.length cC]) (.slice D ds.length cD) cs (queueN bs.length ds) L wz (y 0) (y 1) (y 2) (y 3) (y 4) (y 5) (y 6)) L wI y) ?acyc ?start ?step ?rdone
  case acyc => exact fun i o ho => acyc_of2 (by kernel_rfl) i o ho
  case start => exact mk (fun _ => false) _ _ rfl (fun _ _ h => by cases h) (by exact ⟨below_drew (Below.refl _ _), (fun h => nomatch h), (fun h => nomatch h), (fun h => nomatch h), (fun h => nomatch h), (fun h => nomatch h), (fun h => nomatch h), (fun h => nomatch h), (fun h => nomatch h), (fun h => nomatch h)⟩)
  case step =>
    rintro i o L a wx ho hLi hdep ⟨y, rfl, hy, hWI⟩ K hK
    have hi : i < 9 := (Array.getElem?_eq_some_iff.1 ho).1
    rcases i with _ | _ | _ | _ | _ | _ | _ | _ | _ | i
    · obtain rfl := Option.some.inj ho
      clear hdep ho
      obtain ⟨qa0, qa1, qb0, qb1, qd0⟩ := HCELL.out _ hWI.bel
      go_simp
      refine hK _ _ (mk _ _ _ rfl ?_ ?_)
      rotate_left
      · exact hWI.op0
      · intro j hj h
        rcases j with j
        all_goals first | (rw [hvv]; rfl) | exact hy _ (by omega) (by simpa [put1] using h) | (exfalso; omega)
    · obtain rfl := Option.some.inj ho
      have d0 : L 0 = true := hdep ⟨0, .data⟩ (by simp) rfl
      clear hdep ho
      rw [hWI.h0 d0]
      go_simp
      gi_wp2_with (refine ⟨trivial, ?_⟩; gi_at_call 40; refine (callsIn_wide.2 (FIND.out _ hWI.bel)).mono ?_; rintro e w' ⟨b, rfl, hbb, hbl', hpl, hbw⟩)
      refine mk _ _ _ rfl ?_ ?_
      rotate_left
      · exact (by have hh := hWI.call1 hLi hbw ⟨b, rfl, Nat.le_trans hWI.bel.size hbb, hbl', hpl⟩; rw [hWI.h0 d0] at hh; exact hh)
      · intro j hj h
        rcases j with j
        all_goals first | (rw [hvv]; rfl) | exact hy _ (by omega) (by simpa [put1] using h) | (exfalso; omega)
    · obtain rfl := Option.some.inj ho
      clear hdep ho
      obtain ⟨qa0, qa1, qb0, qb1, qd0⟩ := HCELL.out _ hWI.bel
      go_simp
      refine hK _ _ (mk _ _ _ rfl ?_ ?_)
      rotate_left
      · exact hWI.op2
      · intro j hj h
        rcases j with j
        all_goals first | (rw [hvv]; rfl) | exact hy _ (by omega) (by simpa [put1] using h) | (exfalso; omega)
    · obtain rfl := Option.some.inj ho
      clear hdep ho
      obtain ⟨qa0, qa1, qb0, qb1, qd0⟩ := HCELL.out _ hWI.bel
      go_simp
      refine hK _ _ (mk _ _ _ rfl ?_ ?_)
      rotate_left
      · exact hWI.op3
      · intro j hj h
        rcases j with j
        all_goals first | (rw [hvv]; rfl) | exact hy _ (by omega) (by simpa [put1] using h) | (exfalso; omega)
    · obtain rfl := Option.some.inj ho
      have d2 : L 2 = true := hdep ⟨2, .data⟩ (by simp) rfl
      have d3 : L 3 = true := hdep ⟨3, .data⟩ (by simp) rfl
      have d1 : L 1 = true := hdep ⟨1, .chain⟩ (by simp) rfl
      clear hdep ho
      rw [hWI.h2 d2, hWI.h3 d3]
      go_simp
      gi_wp2_with (refine ⟨trivial, ?_⟩; gi_at_call 41; refine (callsIn_wide.2 (QUE.out _ hWI.bel)).mono ?_; rintro e w' ⟨v, rfl, hrow, hbw⟩)
      refine mk _ _ _ rfl ?_ ?_
      rotate_left
      · exact (by have hh := hWI.call4 hLi hbw (own_less hrow hWI.bel.size); rw [hWI.h2 d2, hWI.h3 d3] at hh; exact hh)
      · intro j hj h
        rcases j with j
        all_goals first | (rw [hvv]; rfl) | exact hy _ (by omega) (by simpa [put1] using h) | (exfalso; omega)
    · obtain rfl := Option.some.inj ho
      clear hdep ho
      go_simp
      refine hK _ _ (mk _ _ _ rfl ?_ ?_)
      rotate_left
      · exact hWI.alloc5 hLi
      · intro j hj h
        rcases j with j
        all_goals first | (rw [hvv]; rfl) | exact hy _ (by omega) (by simpa [put1] using h) | (exfalso; omega)
    · obtain rfl := Option.some.inj ho
      clear hdep ho
      go_simp
      refine hK _ _ (mk _ _ _ rfl ?_ ?_)
      rotate_left
      · exact hWI.alloc6 hLi
      · intro j hj h
        rcases j with j
        all_goals first | (rw [hvv]; rfl) | exact hy _ (by omega) (by simpa [put1] using h) | (exfalso; omega)
    · obtain rfl := Option.some.inj ho
      have d5 : L 5 = true := hdep ⟨5, .data⟩ (by simp) rfl
      have d1 : L 1 = true := hdep ⟨1, .data⟩ (by simp) rfl
      have d4 : L 4 = true := hdep ⟨4, .chain⟩ (by simp) rfl
      clear hdep ho
      have n7 : L 7 = false := hLi
      obtain ⟨g, hg, hgB, hblk⟩ := hWI.h5 d5
      rw [n7] at hblk
      obtain ⟨bl, hy1, _⟩ := hWI.h1 d1
      have hcg := (hblk.cell 0).trans rfl
      have hfg := hblk.frozen 0
      rw [hg, hy1]
      go_simp
      refine hK _ _ (mk _ _ _ rfl ?_ ?_)
      rotate_left
      · exact (by have hh := hWI.store7 (c := #[]) d1 d5 hg hgB hblk; rw [hg, hy1] at hh; exact hh)
      · intro j hj h
        rcases j with j
        all_goals first | (rw [hvv]; rfl) | exact hy _ (by omega) (by simpa [put1] using h) | (exfalso; omega)
    · obtain rfl := Option.some.inj ho
      have d6 : L 6 = true := hdep ⟨6, .data⟩ (by simp) rfl
      have d4 : L 4 = true := hdep ⟨4, .data⟩ (by simp) rfl
      have d7 : L 7 = true := hdep ⟨7, .chain⟩ (by simp) rfl
      clear hdep ho
      have n8 : L 8 = false := hLi
      obtain ⟨g, hg, hgB, hblk⟩ := hWI.h6 d6
      rw [n8] at hblk
      obtain ⟨A4, c4, hy4⟩ := own_slice (hWI.h4 d4)
      have hcg := (hblk.cell 0).trans rfl
      have hfg := hblk.frozen 0
      rw [hg, hy4]
      go_simp
      refine hK _ _ (mk _ _ _ rfl ?_ ?_)
      rotate_left
      · exact (by have hh := hWI.store8 (c := #[]) d4 d6 hg hgB hblk; rw [hg, hy4] at hh; exact hh)
      · intro j hj h
        rcases j with j
        all_goals first | (rw [hvv]; rfl) | exact hy _ (by omega) (by simpa [put1] using h) | (exfalso; omega)
    · exfalso; omega
  case rdone =>
    rintro L a w4 hall ⟨y, rfl, hy, hWI⟩
    obtain ⟨bl, hy1, hblB, hbls, hpl⟩ := hWI.h1 (hall 1 (by decide))
    have hro := hWI.h4 (hall 4 (by decide))
    obtain ⟨g8, hy5, hg8, k8⟩ := hWI.h5 (hall 5 (by decide))
    rw [if_pos (hall 7 (by decide)), hy1] at k8
    obtain ⟨g9, hy6, hg9, k9⟩ := hWI.h6 (hall 6 (by decide))
    rw [if_pos (hall 8 (by decide))] at k9
    obtain ⟨AO, cO, hy4⟩ := own_slice hro
    rw [hy4] at k9 hro
    have hb4 := hWI.bel
    have hz4 : w.heap.size + 4 ≤ w4.heap.size := by have := hb4.size; omega
    have hb04 : Below w.heap.size w w4 := below_then hb02 hb02.size hb4
    obtain ⟨qa0, qa1, qb0, qb1, qd0⟩ := HCELL.out _ hb4
    rw [hy1, hy4, hy5, hy6]
    generalize y 0 = y0
    generalize y 2 = y2
    generalize y 3 = y3
    clear mk hvv hy hall hWI hy1 hy4 hy5 hy6
    go_upto_region 9 with (fail)
    obtain ⟨w5, hw5⟩ : ∃ w5, ((w4.alloc (.cells #[.slice none 0 0, .slice none 0 0] 39)).alloc (.cells #[.int .i64 (-1)] 3)) = w5 := ⟨_, rfl⟩
    have hb45 : Below w4.heap.size w4 w5 := by rw [← hw5]; exact below_alloc (below_alloc (Below.refl _ _) _) _
    have hz5 : w4.heap.size + 2 ≤ w5.heap.size := by rw [← hw5]; simp
    have kbest : Blk w5 w4.heap.size 39 #[.slice none 0 0, .slice none 0 0] := by rw [← hw5]; exact (Blk.new _ _ _).alloc _
    have kmost : Blk w5 (w4.heap.size + 1) 3 #[.int .i64 (-1)] := by rw [← hw5]; simpa using Blk.new (w4.alloc (.cells #[.slice none 0 0, .slice none 0 0] 39)) 3 #[.int .i64 (-1)]
    rw [hw5]
    clear hw5
    have pa0 := (hb45.cell (p := ⟨w.heap.size, 0, none⟩) (show w.heap.size < _ by omega)).trans qa0
    have pb0 := (hb45.cell (p := ⟨w.heap.size + 1, 0, none⟩) (show w.heap.size + 1 < _ by omega)).trans qb0
    go_wp2_with (go_at_call 42; refine (lists_any U V w5).mono ?_; rintro e w6 ⟨rfl, hck, hcn, hb6, hz6⟩; replace hz6 := Nat.le_of_eq hz6.symm)
    have hb46 : Below w4.heap.size w4 w6 := below_then hb45 (by omega) hb6
    have l8 := k8.lt
    have l9 := k9.lt
    have HC4 : Hid (∀ W, Below w4.heap.size w4 W → W.cell? ⟨w.heap.size, 0, none⟩ = some (.int .i64 V) ∧ W.cell? ⟨w.heap.size, 1, none⟩ = some (.slice A bs.length cA) ∧ W.cell? ⟨w.heap.size + 1 + 1, 0, none⟩ = some (.slice D ds.length cD) ∧ W.cell? ⟨g8, 0, none⟩ = some (.map (some bl)) ∧ W.cell? ⟨g9, 0, none⟩ = some (.slice AO (queueN bs.length ds).length cO)) :=
      (show ∀ W, _ from fun W hb => by
        have kc : ∀ b o, b < w4.heap.size → W.cell? ⟨b, o, none⟩ = w4.cell? ⟨b, o, none⟩ := fun b o h => (hb.cell (p := ⟨b, o, none⟩) h)
        exact ⟨(kc _ _ (by omega)).trans qa0, (kc _ _ (by omega)).trans qa1, (kc _ _ (by omega)).trans qd0, (kc _ _ l8).trans ((k8.cell 0).trans rfl), (kc _ _ l9).trans ((k9.cell 0).trans rfl)⟩)
    have HI6 : Hid (InvB bs cs ds w4 [] w6) := (show InvB _ _ _ _ _ _ from ⟨hb46, _, _, kbest.below hb6 kbest.lt, kmost.below hb6 kmost.lt, World.ownsRow_nil _ _ _ _, World.ownsRow_nil _ _ _ _, .inl rfl⟩)
    have HALONG : Hid (∀ (W : World) (x : List Nat) (AF : Option Addr) (cF : Nat), Below w4.heap.size w4 W → W.ownsRow w5.heap.size 3 1 (.slice AF x.length cF) x.length (nums .i64 (il x)) → x.length ≤ 60 → (∀ q ∈ x, q < 60) →
        Calls Tryd.prog 43 #[.agg #[.int .i64 V, .slice A bs.length cA], .map (some bl), .slice AF x.length cF, .slice AO (queueN bs.length ds).length cO] W fun e w' =>
          ∃ v1 v2, e = .returned (.agg #[v1, v2]) ∧ w'.ownsRow W.heap.size 3 1 v1 x.length (nums .i64 (il x)) ∧ w'.ownsRow W.heap.size 3 1 v2 bs.length (nums .i64 (embM bs cs ds x)) ∧ Below W.heap.size W w' ∧ ND v1 v2) :=
      (show ∀ (W : World) (x : List Nat) (AF : Option Addr) (cF : Nat), _ from fun W x AF cF hb hR hx1 hx2 => by
        obtain ⟨_, _, e1, _, _, hF⟩ := own_IC hR
        injection e1 with e1 _ e2
        subst e1 e2
        obtain ⟨_, _, e1, _, _, hO⟩ := own_IC (pw_own_below hro hb)
        injection e1 with e1 _ e2
        subst e1 e2
        exact along_any (.int .i64 V) A AF AO cA cF cO bl bs cs x (queueN bs.length ds) W rfl (HB.out.below (below_then hb04 hb04.size hb)) (hpl.kept (grown_of_below hb none) (by simp)) (Nat.lt_of_lt_of_le hbls hb.size) hF hx1 hx2 hO (queueN_lt hdb) (by have := queueN_len (n := bs.length) (ds := ds); omega) (by omega) hcl)
    have HIC : Hid (∀ W, Below w4.heap.size w4 W → IC W D ds.length (il ds)) := (show ∀ W, _ from fun W hb => Kd.C_below HD.out (below_then hb04 hb04.size hb))
    have hr0 : Blk w4 (w.heap.size + 1 + 1 + 1) 39 #[.slice none 0 0, .slice none 0 0] := (KR.out.below hb2 (by omega)).below hb4 (by omega)
    have HR0 := hid hr0
    clear k8 k9 kbest kmost qa0 qa1 qb0 qb1 qd0 hro hpl HCELL FIND QUE pa0 pb0 hr0
    refine wp_rangeM (gf := 49) (first := #[]) (lb := #[.pointer (some ⟨w5.heap.size + 1, 0, none⟩), .pointer (some ⟨w5.heap.size, 0, none⟩)]) rfl (enters_of Tryd.func49 (by kernel_rfl) rfl)
      (lists_iter U V w5.heap.size (w5.heap.size + 1) w5.heap.size w6 (by omega) (by omega) (Nat.le_succ _) (Nat.le_refl _) (by omega) (by omega) hck hcn) KC.trans ?hKb ?hR
      (InvB bs cs ds w4) ?hI HI6.out ?a1 ?assign ?body ?done
    case assign => intro l v W K hK; gi_wp2; exact hK
    case hKb => exact fun W o o' hl ho => KC.put hl ho
    case hR => exact fun x v W o o' h hl ho => own_KC h (KC.put (B := w5.heap.size) hl ho) (Nat.le_refl _)
    case hI => exact InvB.own (by omega)
    case body =>
      intro l pre x v W hpre hRx hInv
      have HInv := hid hInv
      obtain ⟨hbW, v1, v2, kb, km, r1, r2, hnd0⟩ := hInv
      obtain ⟨AF, cF, rfl⟩ := own_slice hRx
      obtain ⟨hxl, hxU, _⟩ := lsL_mem (hpre.subset (List.mem_append_right pre (List.mem_singleton_self x))) (fun _ h => by cases h) List.nodup_nil
      have hxl' : x.length = V := by simpa using hxl
      have AL := hid (HALONG.out W x AF cF hbW hRx (by omega) (fun q hq => by have := hxU q hq; omega))
      obtain ⟨c0, c1, c2, c8, c9⟩ := HC4.out W hbW
      obtain ⟨mo, hmo⟩ : ∃ mo, (foldB bs cs ds pre).2 = mo := ⟨_, rfl⟩
      obtain ⟨kn, hkn⟩ : ∃ kn, keptN bs cs ds x = kn := ⟨_, rfl⟩
      clear hxl hxl' hxU hnd0
      have hWz : w4.heap.size ≤ W.heap.size := hbW.size
      have HIC4 := hid (fun (w8 : World) (h : Below W.heap.size W w8) => HIC.out w8 (below_then hbW hWz h))
      have hG : w4.heap.size < W.heap.size := kb.lt
      have hG1 : w4.heap.size + 1 < W.heap.size := km.lt
      have hkb0 : W.cell? ⟨w4.heap.size, 0, none⟩ = some v1 := (kb.cell 0).trans rfl
      have hkb1 : W.cell? ⟨w4.heap.size, 1, none⟩ = some v2 := (kb.cell 1).trans rfl
      have hkm0 : W.cell? ⟨w4.heap.size + 1, 0, none⟩ = some (.int .i64 mo) := (km.cell 0).trans (by rw [hmo]; rfl)
      have fkb0 := kb.frozen 0
      have fkb1 := kb.frozen 1
      have fkm0 := km.frozen 0
      have HKB := hid kb
      have HKM := hid km
      have HMO := hid hmo
      have HKN := hid hkn
      clear kb km hmo hkn
      by_cases hlt : mo < (kn : Int)
      · gi_wp2_with (first | (refine ⟨trivial, ?_⟩; gi_at_call 43; refine (CallsIn.inRound l (callsIn_wide.2 AL.out)).mono ?_; rintro e w7 ⟨v3, v4, rfl, r3, r4, hb7, hnd⟩; obtain ⟨A3, c3, rfl⟩ := own_slice r3; obtain ⟨A4, c4, rfl⟩ := own_slice r4; have R3 := hid r3; have R4 := hid r4; have HND := hid hnd; clear r3 r4 hnd; have c2' := (hb7.cell (p := ⟨w.heap.size + 1 + 1, 0, none⟩) (show w.heap.size + 1 + 1 < _ by omega)).trans c2; have l27 : w.heap.size + 1 + 1 < w7.heap.size := Nat.lt_of_lt_of_le (show _ < W.heap.size by omega) hb7.size) | (refine ⟨trivial, ?_⟩; gi_at_call 11; refine (CallsIn.inRound l (callsIn_wide.2 (kept_own (M := embM bs cs ds x) rfl (R4.out.alloc _) (HIC4.out _ (below_alloc hb7 _)) (by omega)))).mono ?_; rintro e w9 ⟨v5, rfl, r5, hb9⟩; rw [show (keptL (embM bs cs ds x) (il ds)).length = kn from HKN.out] at r5; obtain ⟨A5, c5, rfl⟩ := own_slice r5; have hE : Blk w9 w7.heap.size 39 #[.slice A3 x.length c3, .slice A4 bs.length c4] := (Blk.new w7 _ _).below hb9 (by simp); have hE0 := (hE.cell 0).trans rfl; have hE1 := (hE.cell 1).trans rfl; have HB9 := hid (show Below W.heap.size W w9 from below_then (below_alloc hb7 _) (by have := hb7.size; simp; omega) hb9); have R39 := hid (pw_own_below (R3.out.alloc _) hb9); have R49 := hid (pw_own_below (R4.out.alloc _) hb9); have z0 := (HB9.out.cell (p := ⟨w4.heap.size, 0, none⟩) hG).trans hkb0; have z1 := (HB9.out.cell (p := ⟨w4.heap.size, 1, none⟩) hG).trans hkb1; have z2 := (HB9.out.cell (p := ⟨w4.heap.size + 1, 0, none⟩) hG1).trans hkm0; have y0f := (HB9.out.frozen (p := ⟨w4.heap.size, 0, none⟩) hG).trans fkb0; have y1f := (HB9.out.frozen (p := ⟨w4.heap.size, 1, none⟩) hG).trans fkb1; have y2f := (HB9.out.frozen (p := ⟨w4.heap.size + 1, 0, none⟩) hG1).trans fkm0; clear hb9 r5 hE))
        exact ⟨keeps_take (by omega) HB9.out _ _ _, KC_take (by omega) HB9.out _ _ _, by have := InvB.take hbW HKB.out HKM.out HB9.out R39.out R49.out (by rw [HMO.out, HKN.out]; exact hlt) HND.out; rwa [HKN.out] at this⟩
      · gi_wp2_with (first | (refine ⟨trivial, ?_⟩; gi_at_call 43; refine (CallsIn.inRound l (callsIn_wide.2 AL.out)).mono ?_; rintro e w7 ⟨v3, v4, rfl, r3, r4, hb7, hnd⟩; obtain ⟨A3, c3, rfl⟩ := own_slice r3; obtain ⟨A4, c4, rfl⟩ := own_slice r4; have R3 := hid r3; have R4 := hid r4; have HND := hid hnd; clear r3 r4 hnd; have c2' := (hb7.cell (p := ⟨w.heap.size + 1 + 1, 0, none⟩) (show w.heap.size + 1 + 1 < _ by omega)).trans c2; have l27 : w.heap.size + 1 + 1 < w7.heap.size := Nat.lt_of_lt_of_le (show _ < W.heap.size by omega) hb7.size) | (refine ⟨trivial, ?_⟩; gi_at_call 11; refine (CallsIn.inRound l (callsIn_wide.2 (kept_own (M := embM bs cs ds x) rfl (R4.out.alloc _) (HIC4.out _ (below_alloc hb7 _)) (by omega)))).mono ?_; rintro e w9 ⟨v5, rfl, r5, hb9⟩; rw [show (keptL (embM bs cs ds x) (il ds)).length = kn from HKN.out] at r5; obtain ⟨A5, c5, rfl⟩ := own_slice r5; have hE : Blk w9 w7.heap.size 39 #[.slice A3 x.length c3, .slice A4 bs.length c4] := (Blk.new w7 _ _).below hb9 (by simp); have hE0 := (hE.cell 0).trans rfl; have hE1 := (hE.cell 1).trans rfl; have HB9 := hid (show Below W.heap.size W w9 from below_then (below_alloc hb7 _) (by have := hb7.size; simp; omega) hb9); have R39 := hid (pw_own_below (R3.out.alloc _) hb9); have R49 := hid (pw_own_below (R4.out.alloc _) hb9); have z0 := (HB9.out.cell (p := ⟨w4.heap.size, 0, none⟩) hG).trans hkb0; have z1 := (HB9.out.cell (p := ⟨w4.heap.size, 1, none⟩) hG).trans hkb1; have z2 := (HB9.out.cell (p := ⟨w4.heap.size + 1, 0, none⟩) hG1).trans hkm0; have y0f := (HB9.out.frozen (p := ⟨w4.heap.size, 0, none⟩) hG).trans fkb0; have y1f := (HB9.out.frozen (p := ⟨w4.heap.size, 1, none⟩) hG).trans fkb1; have y2f := (HB9.out.frozen (p := ⟨w4.heap.size + 1, 0, none⟩) hG1).trans fkm0; clear hb9 r5 hE))
        exact ⟨KeepsFrom.of_grownBy (grown_of_below HB9.out none) (by rintro j ⟨⟩), KC.of_below HB9.out, InvB.skip HInv.out HB9.out (by rw [HMO.out, HKN.out]; omega)⟩
    case done =>
      intro D1 W hD1 hI hdef
      obtain ⟨hbW, v1, v2, kb, km, r1, r2, hnd⟩ := hI
      obtain ⟨A1, c1, rfl⟩ := own_slice r1
      obtain ⟨A2, c2, rfl⟩ := own_slice r2
      have q0 := (kb.cell 0).trans rfl
      have q1 := (kb.cell 1).trans rfl
      have hr := HR0.out.below hbW (by omega)
      have q2 := (hr.cell 0).trans rfl
      have q3 := (hr.cell 1).trans rfl
      have f2 := hr.frozen 0
      have f3 := hr.frozen 1
      have R1 := hid r1
      have R2 := hid r2
      have HK := hid hdef
      have HR := hid hr
      have HW := hid hbW
      have HND := hid hnd
      clear r1 r2 hdef kb km hr hbW hnd
      go_wp2
      exact best_end HR.out HK.out HW.out (by omega) (by omega) (by omega) R1.out R2.out rfl rfl rfl hb04 HND.out
end Go.Proofs.YtheclfjbedajfaaDoor


namespace Go.Proofs.YtheclfjbedajfaaDoor
set_option linter.unusedSimpArgs false
set_option linter.unusedVariables false
open Go.RowKit Go.Lib Go.Shelf Go.Proofs.YtheclfjbedajfaaDoorW.PrintWords

abbrev nilE : Value := .agg #[.slice none 0 0, .slice none 0 0]
set_option maxHeartbeats 1000000 in
set_option maxRecDepth 100000 in
theorem best_big (V U : Int) (n m k cA cC cD : Nat) (A C D : Option Addr) (w : World) (h : 5 < V ∨ 7 < U) :
    Calls Tryd.prog 26 #[.agg #[.int .i64 V, .slice A n cA], .agg #[.int .i64 U, .slice C m cC], .slice D k cD] w fun e w' =>
      e = .returned (.tuple #[nilE, .int .i64 2]) ∧ Below w.heap.size w w' := by
  have hui := Tryd.underlying29
  have hue := Tryd.underlying39
  go_enter Tryd.func26, Tryd.ntmps26
  by_cases h5 : 5 < V
  · clear h
    go_wp2
    exact bodyPost_ret (v := .tuple #[nilE, .int .i64 2]) (by simp [results, Tryd.results26, go_sem, hue, nilE]) rfl ⟨rfl, below_alloc (below_alloc (below_alloc (below_alloc (Below.refl _ _) _) _) _) _⟩
  · have h7 : 7 < U := by omega
    clear h
    go_wp2
    exact bodyPost_ret (v := .tuple #[nilE, .int .i64 2]) (by simp [results, Tryd.results26, go_sem, hue, nilE]) rfl ⟨rfl, below_alloc (below_alloc (below_alloc (below_alloc (Below.refl _ _) _) _) _) _⟩
set_option maxHeartbeats 1000000 in
set_option maxRecDepth 100000 in
theorem best_bad (V U : Int) (n m cA cC cD : Nat) (A C D : Option Addr) (ds : List Int) (w : World) (h5 : ¬ 5 < V) (h7 : ¬ 7 < U) (hD : IC w D ds.length ds) (hl : ds.length < 2 ^ 40) (hwf : ∀ x ∈ ds, (Lit.int .i64 x).wf = true) (bq : Bool) (hq : diffB ds n = bq) (hqU : bq = true → U < V) :
    Calls Tryd.prog 26 #[.agg #[.int .i64 V, .slice A n cA], .agg #[.int .i64 U, .slice C m cC], .slice D ds.length cD] w fun e w' =>
      e = .returned (.tuple #[nilE, .int .i64 (if bq then 4 else 1)]) ∧ Below w.heap.size w w' := by
  have hui := Tryd.underlying29
  have hue := Tryd.underlying39
  have DIF := hid (show ∀ W, Below w.heap.size w W → _ from fun W hb => different_any D cD ds (n : Int) W (Kd.C_below hD hb) hl hwf)
  rw [hq] at DIF
  clear hD hwf hl hq
  go_enter Tryd.func26, Tryd.ntmps26
  go_upto_region 3 with (fail)
  obtain ⟨w1, hw1⟩ : ∃ w1, ((((w.alloc (.cells #[.int .i64 V, .slice A n cA] 29)).alloc (.cells #[.int .i64 U, .slice C m cC] 29)).alloc (.cells #[.slice D ds.length cD] 32)).alloc (.cells #[.slice none 0 0, .slice none 0 0] 39)) = w1 := ⟨_, rfl⟩
  have hb1 : Below w.heap.size w w1 := by rw [← hw1]; exact below_alloc (below_alloc (below_alloc (below_alloc (Below.refl _ _) _) _) _) _
  have hz1 : w.heap.size + 4 ≤ w1.heap.size := by rw [← hw1]; simp
  have a0 : w1.cell? ⟨w.heap.size, 0, none⟩ = some (.int .i64 V) := by rw [← hw1]; simp [go_sem]
  have a1 : w1.cell? ⟨w.heap.size, 1, none⟩ = some (.slice A n cA) := by rw [← hw1]; simp [go_sem]
  have b0 : w1.cell? ⟨w.heap.size + 1, 0, none⟩ = some (.int .i64 U) := by rw [← hw1]; simp [go_sem]
  have d0 : w1.cell? ⟨w.heap.size + 1 + 1, 0, none⟩ = some (.slice D ds.length cD) := by rw [← hw1]; simp [go_sem]
  have hr : Blk w1 (w.heap.size + 1 + 1 + 1) 39 #[.slice none 0 0, .slice none 0 0] := by rw [← hw1]; simpa using Blk.new (((w.alloc (.cells #[.int .i64 V, .slice A n cA] 29)).alloc (.cells #[.int .i64 U, .slice C m cC] 29)).alloc (.cells #[.slice D ds.length cD] 32)) 39 #[.slice none 0 0, .slice none 0 0]
  have HR := hid hr
  rw [hw1]
  clear hw1 hr
  have fin : ∀ (w2 : World) (k : Int), Below w1.heap.size w1 w2 → ∃ W3, (w2.setCell ⟨w.heap.size + 1 + 1 + 1, 0, none⟩ (.slice none 0 0)).setCell ⟨w.heap.size + 1 + 1 + 1, 1, none⟩ (.slice none 0 0) = W3 ∧ W3.cell? ⟨w.heap.size + 1 + 1 + 1, 0, none⟩ = some (.slice none 0 0) ∧ W3.cell? ⟨w.heap.size + 1 + 1 + 1, 1, none⟩ = some (.slice none 0 0) ∧ Below w.heap.size w W3 := fun w2 k hb => by
    have h2 := ((HR.out.below hb (by omega)).set_ 0 (.slice none 0 0)).set_ 1 (.slice none 0 0)
    exact ⟨_, rfl, (h2.cell 0).trans rfl, (h2.cell 1).trans rfl, ((below_then hb1 (by omega) hb).setCell (p := ⟨w.heap.size + 1 + 1 + 1, 0, none⟩) (by show _ ≤ w.heap.size + 1 + 1 + 1; omega) _).setCell (p := ⟨w.heap.size + 1 + 1 + 1, 1, none⟩) (by show _ ≤ w.heap.size + 1 + 1 + 1; omega) _⟩
  have FIN := hid fin
  clear fin
  cases bq with
  | false =>
    clear hqU
    go_wp2_with (go_at_call 32; refine (DIF.out _ (by exact hb1)).mono ?_; rintro e w2 ⟨rfl, hb2⟩; have hr2 := HR.out.below hb2 (by omega); have f0 := hr2.frozen 0; have f1 := hr2.frozen 1; have r0 := (hr2.cell 0).trans rfl; have r1 := (hr2.cell 1).trans rfl; clear hr2; obtain ⟨W3, hW3, q0, q1, hb3⟩ := FIN.out w2 1 hb2)
    exact bodyPost_ret (v := .tuple #[nilE, .int .i64 1]) (by simp [results, Tryd.results26, go_sem, hue, nilE, q0, q1]) rfl ⟨rfl, hb3⟩
  | true =>
    have hUV := hqU rfl
    clear hqU
    go_wp2_with (go_at_call 32; refine (DIF.out _ (by exact hb1)).mono ?_; rintro e w2 ⟨rfl, hb2⟩; have hr2 := HR.out.below hb2 (by omega); have f0 := hr2.frozen 0; have f1 := hr2.frozen 1; have r0 := (hr2.cell 0).trans rfl; have r1 := (hr2.cell 1).trans rfl; clear hr2; have a0' := (hb2.cell (p := ⟨w.heap.size, 0, none⟩) (show w.heap.size < _ by omega)).trans a0; have b0' := (hb2.cell (p := ⟨w.heap.size + 1, 0, none⟩) (show w.heap.size + 1 < _ by omega)).trans b0; obtain ⟨W3, hW3, q0, q1, hb3⟩ := FIN.out w2 4 hb2)
    exact bodyPost_ret (v := .tuple #[nilE, .int .i64 4]) (by simp [results, Tryd.results26, go_sem, hue, nilE, q0, q1]) rfl ⟨rfl, hb3⟩
end Go.Proofs.YtheclfjbedajfaaDoor
