/- embed.moved, walked: the set to which a list takes a set. -/
/- embed.along, walked. -/
import Derived.Test.YtheclfjbedajfaaIc
import Derived.Test.YtheclfjbedajfaaFi
import Derived.Test.YtheclfjbedajfaaCi
namespace Go.Proofs.Ytheclfjbedajfaa
set_option linter.unusedSimpArgs false
set_option linter.unusedVariables false
open Go.RowKit Go.Lib Go.Shelf Go.Proofs.YtheclfjbedajfaaW.PrintWords
attribute [local go_sem] Oper.semAt_some

def mvK (s : Nat) (fs : List Nat) : Nat → Nat
  | 0 => 0
  | k + 1 => mvK s fs k ||| (if s.testBit k then 2 ^ fs.getD k 0 else 0)
def movedN (s : Nat) (fs : List Nat) : Nat := mvK s fs fs.length
theorem mvK_lt {s B : Nat} {fs : List Nat} (h : ∀ q ∈ fs, q < B) : ∀ k ≤ fs.length, mvK s fs k < 2 ^ B
  | 0, _ => Nat.two_pow_pos _
  | k + 1, hk => by
    refine Nat.or_lt_two_pow (mvK_lt h k (by omega)) ?_
    split
    · exact Nat.pow_lt_pow_right (by decide) (h _ (getD_mem hk))
    · exact Nat.two_pow_pos _
theorem movedN_lt {s B : Nat} {fs : List Nat} (h : ∀ q ∈ fs, q < B) : movedN s fs < 2 ^ B := mvK_lt h _ (Nat.le_refl _)
theorem mv_step {s k q M : Nat} (hs : s < 2 ^ 64) (hq : q < 60) (hM : M < 2 ^ 64) :
    bits BinOp.or IntKind.u64 (M : Int) (IntKind.u64.wrap (bits BinOp.and IntKind.u64 ((s : Int) / 2 ^ k) 1 * 2 ^ q)) = ((M ||| (if s.testBit k then 2 ^ q else 0) : Nat) : Int) := by
  have e1 : ((s : Int) / 2 ^ k) = ((s / 2 ^ k : Nat) : Int) := by simp
  have e2 : bits BinOp.and IntKind.u64 ((s : Int) / 2 ^ k) 1 = ((s / 2 ^ k % 2 : Nat) : Int) := by
    rw [e1]
    have := uand (a := s / 2 ^ k) (b := 1) (Nat.lt_of_le_of_lt (Nat.div_le_self _ _) hs) (by decide)
    rw [Nat.and_one_is_mod] at this
    exact this
  have hq2 : 2 ^ q < 2 ^ 64 := Nat.pow_lt_pow_right (by decide) (by omega)
  have e3 : IntKind.u64.wrap (((s / 2 ^ k % 2 : Nat) : Int) * 2 ^ q) = (((if s.testBit k then 2 ^ q else 0) : Nat) : Int) := by
    rw [Nat.testBit_eq_decide_div_mod_eq]
    rcases Nat.mod_two_eq_zero_or_one (s / 2 ^ k) with h | h
    · rw [h]; simp; exact wrapU_nat (p := 0) (by decide)
    · rw [h]; simp
      have := wrapU_nat hq2
      simpa using this
  rw [e2, e3]
  refine uor hM ?_
  split
  · exact hq2
  · decide
set_option maxHeartbeats 1000000 in
theorem moved_any (s : Nat) (A : Option Addr) (c : Nat) (fs : List Nat) (w : World) (hs : s < 2 ^ 64) (hF : IC w A fs.length (il fs)) (hl : fs.length ≤ 60) (hq : ∀ q ∈ fs, q < 60) :
    Calls Try.prog 35 #[.int .u64 s, .slice A fs.length c] w fun e w' => e = .returned (.int .u64 (movedN s fs)) ∧ w' = w := by
  go_enter Try.func35, Try.ntmps35
  go_wp2
  have HQ := hid hq
  clear hq
  go_loopw [5, 10] (fun o i wr => ∃ k : Nat, k ≤ fs.length ∧ o = .int .u64 (mvK s fs k) ∧ i = .int .i64 k ∧ wr = w) (fun _ i _ => fs.length - (intOf i).toNat)
  case atStart => exact ⟨0, by omega, rfl, rfl, by first | rfl | trivial⟩
  case round =>
    obtain ⟨k, hk, rfl, rfl, rfl⟩ := hrel
    by_cases hlt : k < fs.length
    · obtain ⟨ad, x, rfl, hcx, HX⟩ := IC.at_ hF (show k < fs.length from hlt)
      obtain ⟨q, hq, rfl⟩ : ∃ q, fs.getD k 0 = q ∧ x = (q : Int) := ⟨_, rfl, by rw [← HX.out.2]; exact rd_il hlt⟩
      have hq60 : q < 60 := hq ▸ HQ.out _ (getD_mem hlt)
      obtain ⟨M, hM⟩ : ∃ M, mvK s fs k = M := ⟨_, rfl⟩
      rw [hM]
      have hM64 : M < 2 ^ 64 := by rw [← hM]; exact Nat.lt_trans (mvK_lt HQ.out k hk) (by decide)
      have HST := hid (mv_step (k := k) hs hq60 hM64)
      have HMK : Hid (mvK s fs (k + 1) = M ||| (if s.testBit k then 2 ^ q else 0)) := (show _ = _ by rw [mvK, hM, hq])
      clear hM hq hM64
      go_wp2
      go_roundw
      case rel => exact ⟨k + 1, by omega, by rw [HST.out, HMK.out], by go_num, by first | rfl | trivial⟩
      case measure => simp [intOf]; omega
    · obtain rfl : k = fs.length := by omega
      go_wp2
      go_ret
      exact ⟨rfl, by first | rfl | trivial⟩
end Go.Proofs.Ytheclfjbedajfaa


namespace Go.Proofs.Ytheclfjbedajfaa
set_option linter.unusedSimpArgs false
set_option linter.unusedVariables false
open Go.RowKit Go.Lib Go.Shelf Go.Proofs.YtheclfjbedajfaaW.PrintWords
attribute [local go_sem] Oper.semAt_some

/-- What a block becomes, which is the k-th that takes one. -/
def alongAt (mv : Nat → Nat) (cs os : List Nat) (k : Nat) : Int :=
  if ((os.take k).map mv).count (mv (os.getD k 0)) < cs.count (mv (os.getD k 0)) then ((cs.idxOf (mv (os.getD k 0)) + ((os.take k).map mv).count (mv (os.getD k 0)) : Nat) : Int) else -1
def alongK (n : Nat) (mv : Nat → Nat) (cs os : List Nat) : Nat → List Int
  | 0 => List.replicate n 0
  | k + 1 => (alongK n mv cs os k).set (os.getD k 0) (alongAt mv cs os k)
theorem alongK_length (n : Nat) (mv : Nat → Nat) (cs os : List Nat) : ∀ k, (alongK n mv cs os k).length = n
  | 0 => by simp [alongK]
  | k + 1 => by simp [alongK, alongK_length n mv cs os k]
def alongM (bs cs fs os : List Nat) : List Int := alongK bs.length (fun i => movedN (bs.getD i 0) fs) cs os os.length
/-- What the map of used blocks holds behind the first k. -/
def UsK (W : World) (b k : Nat) (mv : Nat → Nat) (cs os : List Nat) : Prop := ∃ D, W.ownsMap (H := Unit) Try.prog 60 (plainElem Try.prog 3) b k D ∧
  ∀ s : Nat, D.atKey (.int .u64 s) (.lit (.int .i64 0)) = .lit (.int .i64 (min (((os.take k).map mv).count s) (cs.count s) : Nat))
theorem ownsMap_block {W W' : World} {k : TypeId} {R : Value → Option (DataW Unit × List MemPlace)} {b n : Nat} {D : DataW Unit} (h : W.ownsMap Try.prog k R b n D) (hb : W'.heap[b]? = W.heap[b]?) : W'.ownsMap Try.prog k R b n D := by
  obtain ⟨es, clock, h1, h2⟩ := h
  exact ⟨es, clock, hb.trans h1, h2⟩
section
variable {w1 W w2 : World} {p : Addr} {v : Value}
theorem sk_drew (h : W.cell? p = some v ∧ Below w1.heap.size w1 W) : W.drew.cell? p = some v ∧ Below w1.heap.size w1 W.drew := ⟨h.1, below_drew h.2⟩
theorem sk_below (h : W.cell? p = some v ∧ Below w1.heap.size w1 W) : Below w1.heap.size w1 W := h.2
theorem sk_alloc (h : W.cell? p = some v ∧ Below w1.heap.size w1 W) (o : Obj) : (W.alloc o).cell? p = some v ∧ Below w1.heap.size w1 (W.alloc o) := ⟨cell?_alloc_some o h.1, Below.alloc h.2 h.2.size o⟩
theorem lt_of_cell {W : World} {p : Addr} {v : Value} (h : W.cell? p = some v) : p.block < W.heap.size := by
  rcases Nat.lt_or_ge p.block W.heap.size with h' | h'
  · exact h'
  · simp [World.cell?, Array.getElem?_eq_none h'] at h
theorem sk_call (h : W.cell? p = some v ∧ Below w1.heap.size w1 W) (hb : Below W.heap.size W w2) : w2.cell? p = some v ∧ Below w1.heap.size w1 w2 := ⟨(hb.cell (lt_of_cell h.1)).trans h.1, h.2.trans (hb.mono h.2.size)⟩
theorem al_bcell (hb : Below W.heap.size W w2) : ∃ N, N = W.heap.size ∧ (∀ b o, b < N → w2.cell? ⟨b, o, none⟩ = W.cell? ⟨b, o, none⟩) ∧ (∀ b o, b < N → w2.frozen? ⟨b, o, none⟩ = W.frozen? ⟨b, o, none⟩) ∧ (∀ b, b < N → b < w2.heap.size) :=
  ⟨_, rfl, fun b o hb' => hb.cell (show b < _ by omega), fun b o hb' => hb.frozen (show b < _ by omega), fun b h => Nat.lt_of_lt_of_le h hb.size⟩
theorem sk_set {a : Addr} (h : W.cell? p = some v ∧ Below w1.heap.size w1 W) (ha : w1.heap.size ≤ a.block) (hp : p.block < w1.heap.size) (u : Value) : (W.setCell a u).cell? p = some v ∧ Below w1.heap.size w1 (W.setCell a u) :=
  ⟨by rw [← h.1]; exact World.cell?_setCell_far W a p u (by omega), Below.setCell h.2 ha u⟩
end
theorem own_bd {w w2 : World} {base : Nat} {e : TypeId} {size n : Nat} {v : Value} {xs : List Value} (h : w.ownsRow base e size v n xs) (hb : Below w.drew.heap.size w.drew w2) : w2.ownsRow base e size v n xs := pw_own_below h ⟨hb.os, hb.tape, hb.output, hb.size, hb.block⟩
theorem blk_set2 {W w2 : World} {g : Nat} {t : TypeId} {a b x y : Value} (h : Blk W g t #[a, b]) (hb : Below W.drew.heap.size W.drew w2) : Blk ((w2.setCell ⟨g, 0, none⟩ x).setCell ⟨g, 1, none⟩ y) g t #[x, y] := by
  have h0 : Blk w2 g t #[a, b] := (hb.block g h.lt).trans h
  exact ((h0.set_ 0 x).set_ 1 y)
theorem own_set2 {w2 : World} {base n size g : Nat} {e : TypeId} {v x y : Value} {xs : List Value} (h : w2.ownsRow base e size v n xs) (hne : v.ownBlock ≠ some g) : ((w2.setCell ⟨g, 0, none⟩ x).setCell ⟨g, 1, none⟩ y).ownsRow base e size v n xs :=
  own_setCell (own_setCell h (fun e => hne e.symm) x) (fun e => hne e.symm) y
theorem own_ne_ge {W : World} {base n size g : Nat} {e : TypeId} {v : Value} {xs : List Value} (h : W.ownsRow base e size v n xs) (hg : W.heap.size ≤ g) : v.ownBlock ≠ some g := fun e => by have := own_lt h g e; omega
theorem own_ne_base {W : World} {base n size g : Nat} {e : TypeId} {v : Value} {xs : List Value} (h : W.ownsRow base e size v n xs) (hg : g < base) : v.ownBlock ≠ some g := fun e => by have := own_base h g e; omega
theorem own_made_at {W : World} {base g m : Nat} {e : TypeId} (hg : g = W.heap.size) (hb : base ≤ W.heap.size) (hm : m ≤ 9223372036854775807) :
    (W.alloc (.cells (madeCells #[.int .i64 0] m) e)).ownsRow base e 1 (.slice (some ⟨g, 0, none⟩) m m) m (nums .i64 (List.replicate m 0)) := by subst hg; exact own_made W base e .i64 m hb hm
/-- What stands in the world behind the first k of along's rounds. -/
structure AlSt (b0 : Nat) (w1 : World) (v17 : Value) (gM gE n : Nat) (fs : List Nat) (mv : Nat → Nat) (cs os : List Nat) (M : List Int) (k : Nat) (W : World) : Prop where
  below : Below (b0 + 2) w1 W
  size : w1.heap.size ≤ W.heap.size
  own17 : W.ownsRow w1.heap.size 3 1 v17 fs.length (nums .i64 (il fs))
  blk : Blk W gE 29 #[v17, .slice (some ⟨gM, 0, none⟩) n n]
  ownM : W.ownsRow w1.heap.size 3 1 (.slice (some ⟨gM, 0, none⟩) n n) n (nums .i64 M)
  us : UsK W (b0 + 2) k mv cs os
section
variable {b0 : Nat} {w1 W W' : World} {v17 : Value} {gM gE n k : Nat} {fs : List Nat} {mv : Nat → Nat} {cs os : List Nat} {M : List Int}
theorem AlSt.store (h : AlSt b0 w1 v17 gM gE n fs mv cs os M k W) (hne : v17.ownBlock ≠ some gM) (hEM : gE ≠ gM) (hg : w1.heap.size ≤ gM) (hb0 : b0 + 2 < w1.heap.size) (i : Nat) (x : Int) : AlSt b0 w1 v17 gM gE n fs mv cs os (M.set i x) k (W.setCell ⟨gM, i, none⟩ (.int .i64 x)) := by
  have hs := own_store h.ownM (i : Int) x
  rw [Int.toNat_natCast] at hs
  refine ⟨h.below.setCell (show b0 + 2 ≤ gM by omega) _, Nat.le_trans h.size hs.2.size, own_setCell h.own17 (fun e => hne e.symm) _, h.blk.far hEM _, hs.1, ?_⟩
  obtain ⟨D, h1, h2⟩ := h.us
  exact ⟨D, h1.kept hs.2 (by intro e; injection e with e; omega), h2⟩
theorem AlSt.alloc (h : AlSt b0 w1 v17 gM gE n fs mv cs os M k W) (hb0 : b0 + 2 < w1.heap.size) (o : Obj) : AlSt b0 w1 v17 gM gE n fs mv cs os M k (W.alloc o) := by
  refine ⟨h.below.alloc (by have := h.size; omega) o, Nat.le_trans h.size (by simp), own_alloc h.own17 o, h.blk.alloc o, own_alloc h.ownM o, ?_⟩
  obtain ⟨D, h1, h2⟩ := h.us
  exact ⟨D, h1.alloc o, h2⟩
theorem AlSt.upd (h : AlSt b0 w1 v17 gM gE n fs mv cs os M k W) (hg : W.grownBy W' (some (b0 + 2))) (hb0 : b0 + 2 < w1.heap.size) (hE : w1.heap.size ≤ gE) (hu : UsK W' (b0 + 2) (k + 1) mv cs os) : AlSt b0 w1 v17 gM gE n fs mv cs os M (k + 1) W' :=
  ⟨h.below.grown hg (by have := h.size; omega) (fun r hr => by cases hr; omega), Nat.le_trans h.size hg.size, own_other h.own17 hg (Classical.or_iff_not_imp_left.2 fun _ e => by have := own_base h.own17 _ e; omega), h.blk.grown hg (by intro e; injection e with e; omega),
    own_other h.ownM hg (.inr (by intro e; have := own_base h.ownM _ e; omega)), hu⟩
theorem AlSt.skip (h : AlSt b0 w1 v17 gM gE n fs mv cs os M k W) (hu : UsK W (b0 + 2) (k + 1) mv cs os) : AlSt b0 w1 v17 gM gE n fs mv cs os M (k + 1) W := ⟨h.below, h.size, h.own17, h.blk, h.ownM, hu⟩
end
theorem al_num {J U C e L : Nat} (hJ : J < L) (hC : C ≤ L) (hL : L ≤ 2 ^ 20) (hU : min e C = U) (h : U < C) :
    wrap64 ((J : Int) + (U : Int)) = ((J + U : Nat) : Int) ∧ U = e ∧ e < C ∧ (Lit.int .i64 ((U : Int) + 1)).wf = true :=
  ⟨by rw [← Int.natCast_add]; exact wrap64_nat (by omega), by omega, by omega, by simp [Lit.wf, IntKind.min, IntKind.max, IntKind.signed, IntKind.bits]; omega⟩
theorem al_num2 {U C L : Nat} (hC : C ≤ L) (hL : L ≤ 2 ^ 20) (h : U < C) : U ≤ 2 ^ 20 := by omega
theorem us_next {D : DataW Unit} {k S e C U : Nat} {mv : Nat → Nat} {cs os : List Nat} (hD : ∀ s : Nat, D.atKey (.int .u64 s) (.lit (.int .i64 0)) = .lit (.int .i64 (min (((os.take k).map mv).count s) (cs.count s) : Nat))) (hM : Maps.IsMap D)
    (he : ((os.take k).map mv).count S = e) (hC : cs.count S = C) (hU : min e C = U) (hUC : U < C) (hUS : ∀ s : Nat, (((os.take (k + 1)).map mv).count s) = ((os.take k).map mv).count s + if S = s then 1 else 0) (s : Nat) :
    (D.put (.int .u64 S) (.lit (.int .i64 ((U : Int) + 1)))).atKey (.int .u64 s) (.lit (.int .i64 0)) = .lit (.int .i64 (min (((os.take (k + 1)).map mv).count s) (cs.count s) : Nat)) := by
  rw [hUS s]
  by_cases hs : S = s
  · subst hs
    rw [Maps.atKey_put_same hM (show WideAt.IsKeyLit (.int .u64 (S : Int)) from trivial), he, hC, if_pos rfl]
    simp only [DataW.lit.injEq, Lit.int.injEq, true_and]
    omega
  · rw [Maps.atKey_put_other (fun e => hs (by injection e with _ e; exact (Int.ofNat.inj e).symm)), hD s, if_neg hs, Nat.add_zero]
theorem zeroIz (w : World) : (zeroValue 3).run Try.prog w = .ok (.int .i64 0) w := by kernel_rfl
/-- Where a set begins, 0 if it is not there. -/
def atJ (cs : List Nat) (S : Nat) : Nat := if S ∈ cs then cs.idxOf S else 0
theorem pl_look {w W : World} {b : Nat} {cs : List Nat} (h : Pl w b cs) (hW : W.heap[b]? = w.heap[b]?) {S : Nat} (hS : S < 2 ^ 64) :
    (Instr.lookup 82 (.map (some b)) (.int .u64 S) false).run Try.prog W = .ok (.agg #[.int .i64 (atJ cs S), .int .i64 (cs.count S)]) W := by
  obtain ⟨D, h1, h2⟩ := h
  obtain ⟨v, ps, hrun, hv⟩ := (ownsMap_block h1 hW).lookup (t := 82) keyedU Try.underlying82 (zeroP W) (pairR_mk 0 0) (keyU hS)
  rw [h2 S, List.take_length] at hv
  rw [hrun]
  by_cases hin : S ∈ cs
  · rw [if_pos hin] at hv
    rw [pairR_inv hv, atJ, if_pos hin]
  · rw [if_neg hin] at hv
    rw [pairR_inv hv, atJ, if_neg hin, List.count_eq_zero.2 hin]
    rfl
theorem us_look {W : World} {b k : Nat} {mv : Nat → Nat} {cs os : List Nat} (h : UsK W b k mv cs os) {S : Nat} (hS : S < 2 ^ 64) :
    (Instr.lookup 91 (.map (some b)) (.int .u64 S) false).run Try.prog W = .ok (.int .i64 (min (((os.take k).map mv).count S) (cs.count S) : Nat)) W := by
  obtain ⟨D, h1, h2⟩ := h
  obtain ⟨c, hrun, hat, hwc⟩ := h1.lookup_int (t := 91) keyedU Try.underlying91 Try.underlying3 (zeroIz W) (keyU hS)
  rw [h2 S] at hat
  rw [hrun]
  simp only [DataW.lit.injEq, Lit.int.injEq, true_and] at hat
  rw [hat]
/-- Two rows in memory that do not share a block. -/
def ND (v1 v2 : Value) : Prop := v1.ownBlock = none ∨ v1.ownBlock ≠ v2.ownBlock
set_option maxHeartbeats 4000000 in
set_option maxRecDepth 100000 in
theorem along_any (V : Value) (A F O : Option Addr) (cA cF cO b : Nat) (bs cs fs os : List Nat) (w : World) (hV : V.oneCell' = true) (hB : BlC w A bs.length bs) (hP : Pl w b cs) (hbw0 : b < w.heap.size)
    (hF : IC w F fs.length (il fs)) (hf60 : fs.length ≤ 60) (hq : ∀ q ∈ fs, q < 60) (hO : IC w O os.length (il os)) (hos : ∀ i ∈ os, i < bs.length) (hol : os.length ≤ 2 ^ 20) (hbl : bs.length ≤ 2 ^ 20) (hcl : cs.length ≤ 2 ^ 20) :
    Calls Try.prog 46 #[.agg #[V, .slice A bs.length cA], .map (some b), .slice F fs.length cF, .slice O os.length cO] w fun e w' =>
      ∃ v1 v2, e = .returned (.agg #[v1, v2]) ∧ w'.ownsRow w.heap.size 3 1 v1 fs.length (nums .i64 (il fs)) ∧ w'.ownsRow w.heap.size 3 1 v2 bs.length (nums .i64 (alongM bs cs fs os)) ∧ Below w.heap.size w w' ∧ ND v1 v2 := by
  have hmm := @run_makeMap Try.prog
  have hui := Try.underlying36
  have hue := Try.underlying29
  have hmk := print_make (P := Try.prog) 27 3 .i64 8 Try.underlying27 infoI (by decide) bs.length (by omega)
  have HCL : Hid (∀ W, Below w.heap.size w W → Calls Try.prog 38 #[.slice F fs.length cF] W fun e w' => ∃ v, e = .returned v ∧ w'.ownsRow W.heap.size 3 1 v fs.length (nums .i64 (il fs)) ∧ Below W.heap.size W w') :=
    (show ∀ W, _ from fun W hb => clonei_any F fs.length cF (il fs) W (Kd.C_below hF hb) (by omega))
  go_enter Try.func46, Try.ntmps46
  go_upto_region 2 with (fail)
  obtain ⟨w1, hw1⟩ : ∃ w1, (((w.alloc (.cells #[V, .slice A bs.length cA] 36)).alloc (.cells #[.slice none 0 0, .slice none 0 0] 29)).alloc (.map #[] 0)) = w1 := ⟨_, rfl⟩
  have hBa : Blk w1 w.heap.size 36 #[V, .slice A bs.length cA] := by rw [← hw1]; exact ((Blk.new _ _ _).alloc _).alloc _
  have hBr : Blk w1 (w.heap.size + 1) 29 #[.slice none 0 0, .slice none 0 0] := by
    rw [← hw1]
    have := (Blk.new (w.alloc (.cells #[V, .slice A bs.length cA] 36)) 29 #[.slice none 0 0, .slice none 0 0]).alloc (.map #[] 0)
    simpa using this
  have hmo : w1.ownsMap (H := Unit) Try.prog 60 (plainElem Try.prog 3) (w.heap.size + 2) 0 (.map []) := by
    rw [← hw1]
    have := World.ownsMap_made (H := Unit) ((w.alloc (.cells #[V, .slice A bs.length cA] 36)).alloc (.cells #[.slice none 0 0, .slice none 0 0] 29)) Try.prog 60 (plainElem Try.prog 3)
    simpa using this
  have hb1 : Below w.heap.size w w1 := by rw [← hw1]; exact below_alloc (below_alloc (below_alloc (Below.refl _ _) _) _) _
  have hz1 : w.heap.size + 3 ≤ w1.heap.size := by rw [← hw1]; simp
  have hc1 : w1.cell? ⟨w.heap.size, 1, none⟩ = some (.slice A bs.length cA) := (hBa.cell 1).trans rfl
  rw [hw1]
  clear hw1 hmm
  have HC1 : Hid (∀ W, Below w1.heap.size w1 W → W.cell? ⟨w.heap.size, 1, none⟩ = some (.slice A bs.length cA)) := (show ∀ W, _ from fun W h => (h.cell (p := ⟨w.heap.size, 1, none⟩) (show w.heap.size < _ by omega)).trans hc1)
  have hdr : ∀ (cs : Array Value) (t : TypeId) (o : Nat), (w1.drew.alloc (.cells cs t)).cell? ⟨w1.heap.size, o, none⟩ = cs[o]? := fun cs t o => (Blk.new w1.drew t cs).cell o
  have hdf : ∀ (cs : Array Value) (t : TypeId) (o : Nat), (w1.drew.alloc (.cells cs t)).frozen? ⟨w1.heap.size, o, none⟩ = false := fun cs t o => (Blk.new w1.drew t cs).frozen o
  have hdr1 : ∀ (cs cs' : Array Value) (t t' : TypeId) (o : Nat), ((w1.drew.alloc (.cells cs' t')).alloc (.cells cs t)).cell? ⟨w1.heap.size + 1, o, none⟩ = cs[o]? := fun cs cs' t t' o => by
    have := (Blk.new (w1.drew.alloc (.cells cs' t')) t cs).cell o
    simpa using this
  have hdf1 : ∀ (cs cs' : Array Value) (t t' : TypeId) (o : Nat), ((w1.drew.alloc (.cells cs' t')).alloc (.cells cs t)).frozen? ⟨w1.heap.size + 1, o, none⟩ = false := fun cs cs' t t' o => by
    have := (Blk.new (w1.drew.alloc (.cells cs' t')) t cs).frozen o
    simpa using this
  rename_i K hK
  obtain ⟨mv, hmv⟩ : ∃ mv, (fun i => movedN (bs.getD i 0) fs) = mv := ⟨_, rfl⟩
  have REST : ∀ (A1 : Option Addr) (c1 gM gE : Nat) (W : World), Below w1.heap.size w1 W → Blk W gE 29 #[.slice A1 fs.length c1, .slice (some ⟨gM, 0, none⟩) bs.length bs.length] → w1.heap.size ≤ gE →
      W.ownsRow w1.heap.size 3 1 (.slice A1 fs.length c1) fs.length (nums .i64 (il fs)) → W.ownsRow w1.heap.size 3 1 (.slice (some ⟨gM, 0, none⟩) bs.length bs.length) bs.length (nums .i64 (List.replicate bs.length 0)) →
      (Value.slice A1 fs.length c1).ownBlock ≠ some gM →
      K { tmps := #[.agg #[V, .slice A bs.length cA], .map (some b), .slice F fs.length cF, .slice O os.length cO, .pointer (some ⟨w.heap.size, 0, none⟩), undef, undef, undef, .pointer (some ⟨w.heap.size + 1, 0, none⟩), .map (some (w.heap.size + 1 + 1)), .pointer (some ⟨gE, 0, none⟩), undef, undef, undef, undef, .map (some (w.heap.size + 1 + 1)), .slice F fs.length cF, .slice A1 fs.length c1, .pointer (some ⟨w.heap.size, 1, none⟩), .slice A bs.length cA, .int .i64 bs.length, .slice (some ⟨gM, 0, none⟩) bs.length bs.length, .agg #[.slice A1 fs.length c1, .slice (some ⟨gM, 0, none⟩) bs.length bs.length], undef, undef, undef, undef, undef, undef, undef, undef, undef, undef, undef, undef, undef, undef, undef, undef, undef, undef, undef, undef, undef, undef, undef, undef, undef, undef, undef, undef, undef, undef, undef, undef, undef, undef, undef, undef, undef, undef, undef, undef, undef, undef], defers := [] } W := by
    intro A1 c1 gM gE W hbW hE hgE hO17 hM0 hne
    have HND : Hid (ND (.slice A1 fs.length c1) (.slice (some ⟨gM, 0, none⟩) bs.length bs.length)) := (show ND _ _ from .inr hne)
    apply hK
    have hgM := own_base hM0 gM rfl
    have hEM : gE ≠ gM := fun e => by
      obtain ⟨cells, hcc⟩ := own_typed hM0 gM rfl
      rw [← e, hE] at hcc
      cases hcc
    have hmoW : W.ownsMap (H := Unit) Try.prog 60 (plainElem Try.prog 3) (w.heap.size + 2) 0 (.map []) := hmo.kept (grown_of_below hbW none) (by simp)
    have hb0 : w.heap.size + 2 < w1.heap.size := by omega
    have HS := hid (show AlSt w.heap.size w1 (.slice A1 fs.length c1) gM gE bs.length fs mv cs os (alongK bs.length mv cs os 0) 0 W from
      ⟨hbW.mono (by omega), hbW.size, hO17, hE, hM0, ⟨_, hmoW, fun s => by simp; rfl⟩⟩)
    clear hmoW hM0 hO17 hE hbW
    go_wp2
    go_loopw [25] (fun i wr => ∃ k : Nat, k ≤ os.length ∧ i = .int .i64 k ∧ Hid (AlSt w.heap.size w1 (.slice A1 fs.length c1) gM gE bs.length fs mv cs os (alongK bs.length mv cs os k) k wr)) (fun i _ => os.length - (intOf i).toNat)
    case atStart => exact ⟨0, by omega, rfl, HS⟩
    case round =>
      clear HS
      obtain ⟨k, hk, rfl, HS⟩ := hrel
      have hbw : Below w.heap.size w wr := hb1.trans (HS.out.below.mono (by omega))
      by_cases hlt : k < os.length
      · obtain ⟨ado, xi, rfl, hcxo, HXo⟩ := IC.at_ (Kd.C_below hO hbw) hlt
        obtain ⟨i, hi, rfl⟩ : ∃ i, os.getD k 0 = i ∧ xi = (i : Int) := ⟨_, rfl, by rw [← HXo.out.2]; exact rd_il hlt⟩
        have hib : i < bs.length := hi ▸ hos _ (getD_mem hlt)
        obtain ⟨ada, s, rfl, hcs, hs64, HXa⟩ := NlC.at_ (hB.below hbw) hib
        have hSv : mv i = movedN s fs := by rw [← hmv]; show movedN (bs.getD i 0) fs = _; rw [List.getD_eq_getElem?_getD, HXa.out.2.1]; rfl
        obtain ⟨S, hS⟩ : ∃ S, movedN s fs = S := ⟨_, rfl⟩
        have hS64 : S < 2 ^ 64 := by rw [← hS]; exact Nat.lt_trans (movedN_lt hq) (by decide)
        have MV := hid (moved_any s F cF fs wr hs64 (Kd.C_below hF hbw) hf60 hq)
        rw [hS] at MV
        obtain ⟨e, he⟩ : ∃ e, ((os.take k).map mv).count S = e := ⟨_, rfl⟩
        obtain ⟨C, hC⟩ : ∃ C, cs.count S = C := ⟨_, rfl⟩
        have HV : Hid (∀ x : Int, (if e < C then ((cs.idxOf S + e : Nat) : Int) else -1) = x → (alongK bs.length mv cs os k).set i x = alongK bs.length mv cs os (k + 1)) := (show ∀ x, _ from by
          rintro x rfl
          rw [alongK, hi, alongAt, hi, hSv, hS, he, hC])
        have hUS : Hid (∀ s : Nat, (((os.take (k + 1)).map mv).count s) = ((os.take k).map mv).count s + if S = s then 1 else 0) := (show ∀ s, _ from fun s' => by
          have ht : os.take (k + 1) = os.take k ++ [i] := by rw [List.take_succ_eq_append_getElem hlt, ← hi, List.getD_eq_getElem?_getD, List.getElem?_eq_getElem hlt]; rfl
          rw [ht, List.map_append, List.count_append]
          simp [hSv, hS, List.count_singleton])
        have hc7 : wr.cell? ⟨w.heap.size, 1, none⟩ = some (.slice (some ada) bs.length cA) := (HS.out.below.cell (p := ⟨w.heap.size, 1, none⟩) (show w.heap.size < _ by omega)).trans hc1
        have hE1 : wr.cell? ⟨gE, 1, none⟩ = some (.slice (some ⟨gM, 0, none⟩) bs.length bs.length) := (HS.out.blk.cell 1).trans rfl
        obtain ⟨hM1, hM2⟩ := own_at HS.out.ownM (i : Int) (by omega) (by omega)
        rw [Int.toNat_natCast] at hM1 hM2
        have H0 := hid (And.intro hi (And.intro hSv hS))
        clear hi hSv hS hc1
        go_upto_region 8 with (go_at_call 35; refine MV.out.mono ?_; rintro e w' ⟨rfl, rfl⟩)
        obtain ⟨W8, hW8⟩ : ∃ W8, w'.setCell ⟨gM, i, none⟩ (.int .i64 (-1)) = W8 := ⟨_, rfl⟩
        have HS8 := hid (show AlSt w.heap.size w1 (.slice A1 fs.length c1) gM gE bs.length fs mv cs os ((alongK bs.length mv cs os k).set i (-1)) k W8 from by rw [← hW8]; exact HS.out.store hne hEM hgM hb0 i (-1))
        rw [hW8]
        have hlk := pl_look hP (W := W8) ((HS8.out.below.block b (by omega)).trans (hb1.block b hbw0)) hS64
        rw [hC] at hlk
        obtain ⟨J, hJ⟩ : ∃ J, atJ cs S = J := ⟨_, rfl⟩
        rw [hJ] at hlk
        clear hW8 hM1 hM2 hE1 hc7 hcxo hcs HS
        go_upto_region 9 with (fail)
        clear hlk
        obtain ⟨W9, hW9⟩ : ∃ W9, W8.alloc (.cells #[.int .i64 J, .int .i64 C] 92) = W9 := ⟨_, rfl⟩
        have HS9 := hid (show AlSt w.heap.size w1 (.slice A1 fs.length c1) gM gE bs.length fs mv cs os ((alongK bs.length mv cs os k).set i (-1)) k W9 from by rw [← hW9]; exact HS8.out.alloc hb0 _)
        have hB9 : Blk W9 W8.heap.size 92 #[.int .i64 J, .int .i64 C] := by rw [← hW9]; exact Blk.new _ _ _
        have hJ9 : W9.cell? ⟨W8.heap.size, 0, none⟩ = some (.int .i64 J) := (hB9.cell 0).trans rfl
        have hC9 : W9.cell? ⟨W8.heap.size, 1, none⟩ = some (.int .i64 C) := (hB9.cell 1).trans rfl
        rw [hW9]
        have hlk := us_look HS9.out.us hS64
        rw [he, hC] at hlk
        have hw811 : w.heap.size + 1 + 1 = w.heap.size + 2 := rfl
        rw [← hw811] at hlk
        clear hw811
        obtain ⟨U, hU⟩ : ∃ U, min e C = U := ⟨_, rfl⟩
        rw [hU] at hlk
        clear hW9 HS8
        by_cases hUC : U < C
        · have q0 : (U : Int) < (C : Int) := by omega
          have hc7 : W9.cell? ⟨gE, 1, none⟩ = some (.slice (some ⟨gM, 0, none⟩) bs.length bs.length) := (HS9.out.blk.cell 1).trans rfl
          obtain ⟨hM1, hM2⟩ := own_at HS9.out.ownM (i : Int) (by omega) (by omega)
          rw [Int.toNat_natCast] at hM1 hM2
          have hS1 : S ∈ cs := List.count_pos_iff.1 (by rw [hC]; omega)
          have hJi : cs.idxOf S = J := by rw [← hJ, atJ, if_pos hS1]
          have hJl : J < cs.length := by rw [← hJi]; exact List.idxOf_lt_length_of_mem hS1
          have hCl : C ≤ cs.length := by rw [← hC]; exact List.count_le_length
          obtain ⟨hwr, hUe, heC, hwU⟩ := al_num hJl hCl hcl hU hUC
          have HVV := hid (HV.out ((J : Int) + (U : Int)) (by rw [hUe, hJi, if_pos heC, Int.natCast_add]))
          have HWU := hid hwU
          clear hS1 hJi hwr hUe heC hwU
          go_upto_region 11 with (fail)
          obtain ⟨W11, hW11⟩ : ∃ W11, W9.setCell ⟨gM, i, none⟩ (.int .i64 ((J : Int) + (U : Int))) = W11 := ⟨_, rfl⟩
          have HS11 := hid (show AlSt w.heap.size w1 (.slice A1 fs.length c1) gM gE bs.length fs mv cs os (((alongK bs.length mv cs os k).set i (-1)).set i ((J : Int) + (U : Int))) k W11 from by rw [← hW11]; exact HS9.out.store hne hEM hgM hb0 i _)
          rw [hW11]
          clear hlk
          have hlk := us_look HS11.out.us hS64
          rw [he, hC, hU] at hlk
          have hw811 : w.heap.size + 1 + 1 = w.heap.size + 2 := rfl
          rw [← hw811] at hlk
          clear hw811 hW11 HS9 hM1 hM2 hc7
          obtain ⟨D, hmo, hD⟩ := HS11.out.us
          have hkey := keyU hS64
          have HD := hid hD
          have HMO := hid hmo
          clear hmo hD
          have hUb : U ≤ 2 ^ 20 := al_num2 hCl hcl hUC
          go_wp2_with (first
            | (at_mapUpdate; refine wpList_mapUpdate_own _ rfl _ _ _ 91 rfl 60 3 keyedU Try.underlying91 _ (w.heap.size + 2) k D rfl HMO.out (by unfold maxLen; omega) _ _ _ rfl rfl hkey _ [] (plainElem_int Try.underlying3 HWU.out) ?_; intro w12 hown12 hgrow12)
            | go_in)
          go_roundw
          case rel =>
            refine ⟨k + 1, by omega, by go_num, (show AlSt _ _ _ _ _ _ _ _ _ _ _ _ _ from ?_)⟩
            have hME := HVV.out
            rw [← hME]
            have hx := HS11.out
            rw [List.set_set] at hx
            refine hx.upd hgrow12 hb0 hgE ⟨_, hown12, fun s => ?_⟩
            exact us_next HD.out HMO.out.isMap he hC hU hUC hUS.out s
          case measure => simp [intOf]; omega
        · have q0 : ¬ (U : Int) < (C : Int) := by omega
          have HVV := hid (HV.out (-1) (by rw [if_neg (by omega)]))
          have hus : Hid (UsK W9 (w.heap.size + 2) (k + 1) mv cs os) := (show UsK _ _ _ _ _ _ from by
            obtain ⟨D, h1, h2⟩ := HS9.out.us
            refine ⟨D, h1.mono (Nat.le_succ k), fun s => ?_⟩
            rw [h2 s, hUS.out s]
            by_cases hs : S = s
            · subst hs
              rw [he, hC, if_pos rfl]
              congr 2
              omega
            · rw [if_neg hs]; rfl)
          go_wp2
          go_roundw
          case rel =>
            refine ⟨k + 1, by omega, by go_num, (show AlSt _ _ _ _ _ _ _ _ _ _ _ _ _ from ?_)⟩
            rw [← HVV.out]
            exact HS9.out.skip hus.out
          case measure => simp [intOf]; omega
      · obtain rfl : k = os.length := by omega
        have hE0 : wr.cell? ⟨gE, 0, none⟩ = some (.slice A1 fs.length c1) := (HS.out.blk.cell 0).trans rfl
        have hE1 : wr.cell? ⟨gE, 1, none⟩ = some (.slice (some ⟨gM, 0, none⟩) bs.length bs.length) := (HS.out.blk.cell 1).trans rfl
        have hBr1 : Blk wr (w.heap.size + 1) 29 #[.slice none 0 0, .slice none 0 0] := hBr.below HS.out.below (by omega)
        have r0 : wr.cell? ⟨w.heap.size + 1, 0, none⟩ = some (.slice none 0 0) := (hBr1.cell 0).trans rfl
        have r1 : wr.cell? ⟨w.heap.size + 1, 1, none⟩ = some (.slice none 0 0) := (hBr1.cell 1).trans rfl
        have f0 := hBr1.frozen 0
        have f1 := hBr1.frozen 1
        have hM : alongK bs.length mv cs os os.length = alongM bs cs fs os := by rw [alongM, hmv]
        have HMM := hid hM
        clear hM
        have HBL := hid ((((Below.refl w.heap.size wr).setCell (p := ⟨w.heap.size + 1, 0, none⟩) (Nat.le_succ _) (.slice A1 fs.length c1)).setCell (p := ⟨w.heap.size + 1, 1, none⟩) (Nat.le_succ _) (.slice (some ⟨gM, 0, none⟩) bs.length bs.length)))
        have HR1 := hid (own_setCell (p := ⟨w.heap.size + 1, 1, none⟩) (own_setCell (p := ⟨w.heap.size + 1, 0, none⟩) HS.out.own17 (fun e => by have := own_base HS.out.own17 _ e.symm; simp at this; omega) (.slice A1 fs.length c1)) (fun e => by have := own_base HS.out.own17 _ e.symm; simp at this; omega) (.slice (some ⟨gM, 0, none⟩) bs.length bs.length))
        have HR2 := hid (own_setCell (p := ⟨w.heap.size + 1, 1, none⟩) (own_setCell (p := ⟨w.heap.size + 1, 0, none⟩) HS.out.ownM (fun e => by have := own_base HS.out.ownM _ e.symm; simp at this; omega) (.slice A1 fs.length c1)) (fun e => by have := own_base HS.out.ownM _ e.symm; simp at this; omega) (.slice (some ⟨gM, 0, none⟩) bs.length bs.length))
        go_wp2
        refine bodyPost_ret (v := .agg #[.slice A1 fs.length c1, .slice (some ⟨gM, 0, none⟩) bs.length bs.length]) (by simp [results, Try.results46, go_sem, r0, r1, f0, f1]) rfl ⟨_, _, rfl, own_less HR1.out (by omega), ?_, hbw.trans HBL.out, HND.out⟩
        rw [← HMM.out]
        exact own_less HR2.out (by omega)
  have HREST := hid REST
  clear REST
  go_region_held3 (fun W => W.cell? ⟨w.heap.size, 1, none⟩ = some (.slice A bs.length cA) ∧ Below w1.heap.size w1 W)
    (first | exact sk_alloc (by assumption) _ | exact HS2.out | exact sk_call (by assumption) (by assumption) | exact sk_drew ⟨hc1, Below.refl _ _⟩ | exact sk_alloc (sk_alloc HS2.out _) _ | exact sk_alloc HS2.out _ | exact sk_alloc (sk_set (sk_set HS2.out (by simp <;> omega) (by show w.heap.size < _; omega) _) (by simp <;> omega) (by show w.heap.size < _; omega) _) _ | exact sk_set (sk_set HS2.out (by simp <;> omega) (by show w.heap.size < _; omega) _) (by simp <;> omega) (by show w.heap.size < _; omega) _ | exact sk_drew ⟨hc1, Below.refl _ _⟩)
    (first | (go_at_call 38; refine (HCL.out _ (hb1.trans (Below.mono (B := w1.heap.size) (sk_below (by assumption)) (by omega)))).mono ?_; rintro e w2 ⟨v17, rfl, ho2, hb2⟩; have HS2 := hid (sk_call (by assumption) hb2); obtain ⟨A1, c1, rfl⟩ := own_slice ho2; have HO2 := hid ho2; clear ho2; obtain ⟨N3, hN3, hc3, hf3, hs3⟩ := al_bcell hb2; simp at hN3; subst hN3))
  · refine HREST.out A1 c1 w2.heap.size (w2.heap.size + 1) _ (sk_below (by assumption)) (heap_new (by simp)) (by have := HS2.out.2.size; omega) (own_alloc (own_alloc HO2.out _) _) (own_alloc (own_made w2 w1.heap.size _ .i64 bs.length HS2.out.2.size (by omega)) _) (own_ne_ge HO2.out (Nat.le_refl _))
  · refine HREST.out A1 c1 (w2.heap.size + 1) w2.heap.size _ (sk_below (by assumption)) ((Blk.new w2 _ _).alloc _) HS2.out.2.size (own_alloc (own_alloc HO2.out _) _) (own_made_at (by simp) (by have := HS2.out.2.size; simp; omega) (by omega)) (own_ne_ge HO2.out (Nat.le_succ _))
  · refine HREST.out A1 c1 w1.heap.size w2.heap.size _ (sk_below (by assumption)) (Blk.new w2 _ _) HS2.out.2.size (own_alloc (own_less HO2.out (by simp)) _) (own_alloc (own_bd (own_made_at (W := w1) rfl (Nat.le_refl _) (by omega)) hb2) _) (own_ne_base HO2.out (by simp))
  · refine HREST.out A1 c1 w1.heap.size (w1.heap.size + 1) _ (sk_below (by assumption)) (blk_set2 (a := .slice none 0 0) (b := .slice none 0 0) (heap_new (by simp)) hb2) (Nat.le_succ _) (own_set2 (own_less HO2.out (by simp; omega)) (own_ne_base HO2.out (by simp))) (own_set2 (own_bd (own_alloc (own_made_at (W := w1) rfl (Nat.le_refl _) (by omega)) _) hb2) (by simp [Value.ownBlock])) (own_ne_base HO2.out (by simp; omega))
  · refine HREST.out A1 c1 w2.heap.size w1.heap.size _ (sk_below (by assumption)) ((blk_set2 (a := .slice none 0 0) (b := .slice none 0 0) (heap_new rfl) hb2).alloc _) (Nat.le_refl _) (own_alloc (own_set2 (own_less HO2.out (by simp)) (own_ne_base HO2.out (by simp))) _) (own_made_at (by simp) (by simp; have := HS2.out.2.size; omega) (by omega)) (own_ne_ge HO2.out (Nat.le_refl _))
  · refine HREST.out A1 c1 (w1.heap.size + 1) w1.heap.size _ (sk_below (by assumption)) (blk_set2 (a := .slice none 0 0) (b := .slice none 0 0) (Blk.alloc (w := w1.alloc _) (heap_new rfl) _) hb2) (Nat.le_refl _) (own_set2 (own_less HO2.out (by simp; omega)) (own_ne_base HO2.out (by simp; omega))) (own_set2 (own_bd (own_made_at (W := w1.alloc _) (by simp) (by simp) (by omega)) hb2) (by simp [Value.ownBlock])) (own_ne_base HO2.out (by simp))
end Go.Proofs.Ytheclfjbedajfaa
