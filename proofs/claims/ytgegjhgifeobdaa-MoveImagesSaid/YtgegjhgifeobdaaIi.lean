-- Written by this session's program xprint.py: it drives the kit's print with contracts of this session's own.
/- Base words of this claim's walks: numbers, bits, and lists of blocks in memory; no condition. -/
/- The reference of layer 6, walked: what its small functions compute; blocks below 2 ^ 64. -/
/- The reference's made structures (layer 6): what Limited makes, in plain words. -/
/- The reference's made structures (layer 6), walked: what Limited returns. -/
/- Words for ranges over functions; no condition. -/
/- A law for a range over a function whose yields are a known list, at whatever bound receiver; in the plain calculus. -/
/- Sorted lists: plain lemmas; no condition. -/
/- slices.Sort at []uint64, walked for at most 12 elements of a row of the call's own. -/
import Derived.Test.YtgegjhgifeobdaaProg
import Derived.Below
import Derived.Deep.Draws
import Derived.Deep.AppendLies
import Derived.Maps.AppendAt
import Derived.OwnWalk
import Derived.Laws.BytesArg
import Derived.Laws.MakeOwn
import Derived.Laws.OwnMore
import Derived.Deep.OwnRows
import Derived.Tactics
import Derived.Lib.ConvBytes
import Derived.Laws.Slices
import Derived.WalkKit
import Derived.KernelRfl
import Derived.RowKit3
import Derived.Deep.LoopGhost
import Derived.Deep.QuietTactic
import Derived.BigQuiet
import Derived.WideLaws
import Derived.Deep.DeepCutAuto
import Derived.Deep.CutBlock
import Derived.Deep.RegionHeld3
import Derived.Laws.Rows
import Derived.Lib.AppendStr
import Derived.ArgAppend
import Derived.Laws.IdiomCopy
import Derived.OrdersHeld
import Derived.Laws.BitsLemmas
import Derived.RowKit
import Derived.Test.YtgegjhgifeobdaaWWords
import Derived.Test.YtgegjhgifeobdaaWLast
import Derived.Test.YtgegjhgifeobdaaWTab
import Derived.Test.YtgegjhgifeobdaaWQPut
import Derived.Test.YtgegjhgifeobdaaWNEv
import Derived.Test.YtgegjhgifeobdaaWEqStruct
import Derived.Test.YtgegjhgifeobdaaWRepsOne
import Derived.Test.YtgegjhgifeobdaaWInv
import Derived.Test.YtgegjhgifeobdaaWInvWords
import Derived.Test.YtgegjhgifeobdaaWGuard
import Derived.Test.YtgegjhgifeobdaaWMore
import Derived.WalkSpells
import Derived.WalkLawsBesides
import Derived.Lib.Hide
import Derived.IntWalk
import Derived.Laws.BitsAllLaws
import Derived.RegionTactic
import Derived.Deep.RegionLaw
import Derived.RangeFuncNested
import Derived.RangeFuncBound
import Derived.RangeFuncCalls
import Derived.RangeFuncLeaves
import Derived.RangeFuncKeeps
import Derived.Shelf.Abstract
import Derived.Shelf.RegionOpen
import Derived.OwnWalkIn
import Derived.TacticsInMore
import Derived.LoopNIn
import Derived.LoopIn
import Derived.Deep.RegionWith
import Derived.Laws.EntriesVeiled
import Derived.RangeFuncWrites
import Derived.Stop.RegionWithIn
import Derived.Lib.BufferOwn
import Derived.BigRegion
namespace Go.Proofs.Ytgegjhgifeobdaa.Pd
open Go.RowKit Go.Proofs.YtgegjhgifeobdaaW.PrintWords Go.Proofs.YtgegjhgifeobdaaW.PrintLast Go.Proofs.YtgegjhgifeobdaaW.PrintMore
attribute [local go_sem] max2_int min2_int max_two min_two max_three min_three max_four min_four   -- for this text's walks alone
set_option linter.unusedVariables false
set_option linter.unusedSimpArgs false



def errW : Option Int → Value
  | none => .nilIface
  | some c => .iface 0 (.int .i64 c)
theorem errW_none : errW none = .nilIface := rfl
theorem errW_some (c : Int) : errW (some c) = .iface 0 (.int .i64 c) := rfl

theorem info3 : (Try.prog.info? 3).map (fun i => (i.zero, i.size, i.bytes)) = some (some (.int .i64 0), 1, 8) := by kernel_rfl
theorem info4 : (Try.prog.info? 4).map (fun i => (i.zero, i.size, i.bytes)) = some (some (.bool false), 1, 1) := by kernel_rfl
theorem info57 : (Try.prog.info? 57).map (fun i => (i.zero, i.size, i.bytes)) = some (some (.int .u64 0), 1, 8) := by kernel_rfl
theorem info59 : (Try.prog.info? 59).map (fun i => (i.zero, i.size, i.bytes)) = some (some (.agg #[(.int .i64 0), (.int .i64 0), (.int .i64 0), (.int .i64 0), (.int .i64 0), (.int .i64 0)]), 6, 48) := by kernel_rfl
-- the values' own types
/-! #### struct type 59 -/
structure S59 where
  f0 : Int
  f1 : Int
  f2 : Int
  f3 : Int
  f4 : Int
  f5 : Int
def z59 : S59 := ⟨(0 : Int), (0 : Int), (0 : Int), (0 : Int), (0 : Int), (0 : Int)⟩
def k59 : Kd S59 := Kd.iso (Kd.pair (Kd.int .i64) (Kd.pair (Kd.int .i64) (Kd.pair (Kd.int .i64) (Kd.pair (Kd.int .i64) (Kd.pair (Kd.int .i64) (Kd.int .i64)))))) (fun x : S59 => (x.f0, x.f1, x.f2, x.f3, x.f4, x.f5))
theorem k59_open {w : World} {x : S59} {cs : List Value} (h : k59.K w x cs) : cs = [.int .i64 x.f0, .int .i64 x.f1, .int .i64 x.f2, .int .i64 x.f3, .int .i64 x.f4, .int .i64 x.f5] := by
  obtain ⟨_, _, rfl, rfl, ⟨_, _, rfl, rfl, ⟨_, _, rfl, rfl, ⟨_, _, rfl, rfl, ⟨_, _, rfl, rfl, rfl⟩⟩⟩⟩⟩ := h
  exact rfl
theorem k59_openM {w : World} {base : Nat} {ok : Nat → Prop} {x : S59} {cs : List Value} (h : k59.M w base ok x cs) : cs = [.int .i64 x.f0, .int .i64 x.f1, .int .i64 x.f2, .int .i64 x.f3, .int .i64 x.f4, .int .i64 x.f5] := by
  obtain ⟨_, _, rfl, rfl, ⟨_, _, rfl, rfl, ⟨_, _, rfl, rfl, ⟨_, _, rfl, rfl, ⟨_, _, rfl, rfl, rfl⟩⟩⟩⟩⟩ := h
  exact rfl
theorem k59_mk (w : World) (x : S59)  : k59.K w x [.int .i64 x.f0, .int .i64 x.f1, .int .i64 x.f2, .int .i64 x.f3, .int .i64 x.f4, .int .i64 x.f5] := ⟨[.int .i64 x.f0], [.int .i64 x.f1, .int .i64 x.f2, .int .i64 x.f3, .int .i64 x.f4, .int .i64 x.f5], rfl, rfl, ⟨[.int .i64 x.f1], [.int .i64 x.f2, .int .i64 x.f3, .int .i64 x.f4, .int .i64 x.f5], rfl, rfl, ⟨[.int .i64 x.f2], [.int .i64 x.f3, .int .i64 x.f4, .int .i64 x.f5], rfl, rfl, ⟨[.int .i64 x.f3], [.int .i64 x.f4, .int .i64 x.f5], rfl, rfl, ⟨[.int .i64 x.f4], [.int .i64 x.f5], rfl, rfl, rfl⟩⟩⟩⟩⟩
theorem k59_mkM (w : World) (base : Nat) (ok : Nat → Prop) (x : S59)  : k59.M w base ok x [.int .i64 x.f0, .int .i64 x.f1, .int .i64 x.f2, .int .i64 x.f3, .int .i64 x.f4, .int .i64 x.f5] := ⟨[.int .i64 x.f0], [.int .i64 x.f1, .int .i64 x.f2, .int .i64 x.f3, .int .i64 x.f4, .int .i64 x.f5], rfl, rfl, ⟨[.int .i64 x.f1], [.int .i64 x.f2, .int .i64 x.f3, .int .i64 x.f4, .int .i64 x.f5], rfl, rfl, ⟨[.int .i64 x.f2], [.int .i64 x.f3, .int .i64 x.f4, .int .i64 x.f5], rfl, rfl, ⟨[.int .i64 x.f3], [.int .i64 x.f4, .int .i64 x.f5], rfl, rfl, ⟨[.int .i64 x.f4], [.int .i64 x.f5], rfl, rfl, rfl⟩⟩⟩⟩⟩
def rd_T59 (xs : List S59) (i : Int) : S59 := xs.getD i.toNat z59
theorem at_T59 {w : World} {A : Option Addr} {n : Nat} {xs : List S59} (h : Kd.C k59 w A n xs) (i : Int) (h0 : 0 ≤ i) (h1 : i < n) : ∃ ad , A = some ad ∧ w.cell? (ad.add (i.toNat * 6)) = some (.int .i64 (rd_T59 xs i).f0) ∧ w.cell? ⟨(ad.add (i.toNat * 6)).block, (ad.add (i.toNat * 6)).off + 1, none⟩ = some (.int .i64 (rd_T59 xs i).f1) ∧ w.cell? ⟨(ad.add (i.toNat * 6)).block, (ad.add (i.toNat * 6)).off + 2, none⟩ = some (.int .i64 (rd_T59 xs i).f2) ∧ w.cell? ⟨(ad.add (i.toNat * 6)).block, (ad.add (i.toNat * 6)).off + 3, none⟩ = some (.int .i64 (rd_T59 xs i).f3) ∧ w.cell? ⟨(ad.add (i.toNat * 6)).block, (ad.add (i.toNat * 6)).off + 4, none⟩ = some (.int .i64 (rd_T59 xs i).f4) ∧ w.cell? ⟨(ad.add (i.toNat * 6)).block, (ad.add (i.toNat * 6)).off + 5, none⟩ = some (.int .i64 (rd_T59 xs i).f5) := by
  obtain ⟨ad, c, e, _, hK, hc0⟩ := Kd.C_get h z59 i h0 h1
  have hc : ∀ j u, c[j]? = some u → w.cell? (ad.add (i.toNat * 6 + j)) = some u := hc0
  obtain rfl := k59_open hK
  exact ⟨ad, e, hc 0 _ rfl, by rw [← add_field _ _ 1 (by omega)]; exact hc 1 _ rfl, by rw [← add_field _ _ 2 (by omega)]; exact hc 2 _ rfl, by rw [← add_field _ _ 3 (by omega)]; exact hc 3 _ rfl, by rw [← add_field _ _ 4 (by omega)]; exact hc 4 _ rfl, by rw [← add_field _ _ 5 (by omega)]; exact hc 5 _ rfl⟩

end Go.Proofs.Ytgegjhgifeobdaa.Pd


namespace Go.Proofs.Ytgegjhgifeobdaa
set_option linter.unusedSimpArgs false
set_option linter.unusedVariables false
open Go.RowKit Go.Lib Go.Proofs.YtgegjhgifeobdaaW.PrintWords

theorem ret_i64 {a b : Int} (h : a = b) : Ending.returned (.int .i64 a) = .returned (.int .i64 b) := by rw [h]
theorem ret_bool {a b : Bool} (h : a = b) : Ending.returned (.bool a) = .returned (.bool b) := by rw [h]
theorem wrap64_nat {n : Nat} (h : n < 2 ^ 63) : wrap64 (n : Int) = n := by unfold wrap64; omega
theorem wrapU_nat {p : Nat} (h : p < 2 ^ 64) : IntKind.u64.wrap (p : Int) = p := by
  simp [IntKind.wrap, IntKind.bits, IntKind.signed]; omega
theorem wrapU_in (n : Int) (h0 : 0 ≤ n) (h1 : n < 2 ^ 64) : IntKind.u64.wrap n = n := by
  simp [IntKind.wrap, IntKind.bits, IntKind.signed]; omega
theorem uand {a b : Nat} (ha : a < 2 ^ 64) (hb : b < 2 ^ 64) : bits .and .u64 (a : Int) (b : Int) = ((a &&& b : Nat) : Int) :=
  (bits_nat .u64 64 (by decide) wrapU_in a b ha hb).1
theorem uor {a b : Nat} (ha : a < 2 ^ 64) (hb : b < 2 ^ 64) : bits .or .u64 (a : Int) (b : Int) = ((a ||| b : Nat) : Int) :=
  (bits_nat .u64 64 (by decide) wrapU_in a b ha hb).2
theorem shl_form {q : Nat} (h : q < 64) : IntKind.u64.wrap (2 ^ min (IntKind.u64.wrap (q : Int)).toNat 64) = ((2 ^ q : Nat) : Int) := by
  rw [wrapU_nat (by omega), Int.toNat_natCast, Nat.min_eq_left (by omega)]
  have : 2 ^ q < 2 ^ 64 := Nat.pow_lt_pow_right (by omega) h
  rw [show ((2 : Int) ^ q) = ((2 ^ q : Nat) : Int) from by simp, wrapU_nat this]
theorem bit_form {a p : Nat} (ha : a < 2 ^ 64) : (bits BinOp.and IntKind.u64 ((a : Int) / 2 ^ p) 1 == 1) = a.testBit p := by
  have h1 : ((a : Int) / 2 ^ p) = ((a / 2 ^ p : Nat) : Int) := by simp
  rw [h1, show (1 : Int) = ((1 : Nat) : Int) from rfl, uand (Nat.lt_of_le_of_lt (Nat.div_le_self _ _) ha) (by decide)]
  rw [Nat.testBit_eq_decide_div_mod_eq, Nat.and_one_is_mod]
  by_cases h : a / 2 ^ p % 2 = 1 <;> simp [h] <;> omega

/-- A list of blocks, as the memory has it. -/
def il (bs : List Nat) : List Int := bs.map fun (b : Nat) => (b : Int)
theorem il_length (bs : List Nat) : (il bs).length = bs.length := by simp [il]
theorem rd_il {bs : List Nat} {k : Nat} (h : k < bs.length) : rd (il bs) (k : Int) = ((bs.getD k 0 : Nat) : Int) := by
  simp [rd, il, List.getD_eq_getElem?_getD, h]
/-- Unsigned numbers below bd that lie in memory. -/
def NlC (kd : IntKind) (bd : Nat) (w : World) (A : Option Addr) (n : Nat) (bs : List Nat) : Prop := n = bs.length ∧ (Kd.int kd).C w A n (il bs) ∧ ∀ b ∈ bs, b < bd
/-- Blocks that lie in memory. -/
abbrev BlC := NlC .u64 (2 ^ 64)
theorem getD_mem {bs : List Nat} {k : Nat} (hk : k < bs.length) : bs.getD k 0 ∈ bs := by
  rw [List.getD_eq_getElem?_getD, List.getElem?_eq_getElem hk]; exact List.getElem_mem hk
theorem NlC.at_ {kd : IntKind} {bd : Nat} {w : World} {A : Option Addr} {n : Nat} {bs : List Nat} (h : NlC kd bd w A n bs) {k : Nat} (hk : k < bs.length) :
    ∃ ad b, A = some ad ∧ w.cell? (ad.add k) = some (.int kd ((b : Nat) : Int)) ∧ b < bd ∧ Hid (bs.take (k + 1) = bs.take k ++ [b] ∧ bs[k]? = some b ∧ b ∈ bs) := by
  obtain ⟨ad, e, hc⟩ := Kd.at_int h.2.1 (k : Int) (by omega) (by have := h.1; omega)
  refine ⟨ad, bs.getD k 0, e, by rw [rd_il hk] at hc; exact hc, h.2.2 _ (getD_mem hk), ?_, ?_, getD_mem hk⟩
  · rw [List.take_succ_eq_append_getElem hk, List.getD_eq_getElem?_getD, List.getElem?_eq_getElem hk]; rfl
  · rw [List.getD_eq_getElem?_getD, List.getElem?_eq_getElem hk]; rfl
theorem NlC.below {kd : IntKind} {bd : Nat} {w w1 : World} {A : Option Addr} {n : Nat} {bs : List Nat} (h : NlC kd bd w A n bs) (hb : Below w.heap.size w w1) : NlC kd bd w1 A n bs := ⟨h.1, Kd.C_below h.2.1 hb, h.2.2⟩
theorem NlC.drewN {kd : IntKind} {bd : Nat} {w : World} {A : Option Addr} {n : Nat} {bs : List Nat} (h : NlC kd bd w A n bs) (m : Nat) : NlC kd bd (w.drewN m) A n bs := ⟨h.1, Kd.C_drewN h.2.1 m, h.2.2⟩
theorem NlC.drew {kd : IntKind} {bd : Nat} {w : World} {A : Option Addr} {n : Nat} {bs : List Nat} (h : NlC kd bd w A n bs) : NlC kd bd w.drew A n bs := ⟨h.1, Kd.C_drew h.2.1, h.2.2⟩
theorem NlC.take {kd : IntKind} {bd : Nat} {w : World} {A : Option Addr} {n k : Nat} {bs : List Nat} (h : NlC kd bd w A n bs) (hk : k ≤ n) : NlC kd bd w A k (bs.take k) := by
  have h2 := (Kd.C_of_reads (h1 := fun _ => rfl) ((Kd.reads_of_C (enc := Value.int kd) (d := (0 : Int)) (h1 := fun _ => rfl) h.2.1).take_ k hk) : (Kd.int kd).C w A k ((il bs).take k))
  exact ⟨by rw [List.length_take]; have := h.1; omega, by rw [show il (bs.take k) = (il bs).take k from by simp [il, List.map_take]]; exact h2, fun b hb => h.2.2 b (List.mem_of_mem_take hb)⟩
theorem own_BlC {w : World} {base n : Nat} {e : TypeId} {v : Value} {bs : List Nat} (h : w.ownsRow base e 1 v n (nums .u64 (il bs))) (hb : ∀ b ∈ bs, b < 2 ^ 64) :
    ∃ A c, v = .slice A n c ∧ n ≤ c ∧ c ≤ 9223372036854775807 ∧ BlC w A n bs := by
  have hl : n = bs.length := by have := h.1; simp [nums, il] at this; omega
  subst hl
  have h' : (Kd.int .u64).R e w base (fun _ => True) v (il bs) := Kd.R_of_own (enc := Value.int .u64) (by simpa [encs, nums, il_length] using h) (fun _ _ => trivial)
  obtain ⟨A, c, rfl, hc, hC⟩ := Kd.R_reads h'
  rw [il_length] at hc hC ⊢
  refine ⟨A, c, rfl, hc, ?_, rfl, hC, hb⟩
  rcases h.2 with ⟨e1, _⟩ | ⟨g, cap, cur, e1, _, _, _, hm, _⟩
  · injection e1 with _ _ e1; omega
  · injection e1 with _ _ e1; simp only [maxLen] at hm; omega

-- a slice that reads as a list of cells, and an append of it (after the kit's page of words)
theorem block_of_add (a : Addr) (n : Nat) : (a.add n).block = a.block := by unfold Addr.add; split <;> rfl
theorem add_of_add (a : Addr) (i j : Nat) : (a.add i).add j = a.add (i + j) := by
  unfold Addr.add
  by_cases hi : i = 0 <;> by_cases hj : j = 0 <;> simp [hi, hj, Nat.add_assoc]

def Reads (w : World) (B size : Nat) (A : Option Addr) (n : Nat) (xs : List Value) : Prop :=
  xs.length = n * size ∧ (0 < n → ∃ ad, A = some ad ∧ ad.block < B ∧ ∀ j u, xs[j]? = some u → w.cell? (ad.add j) = some u)

section
variable {w w' : World} {B B' size n : Nat} {A : Option Addr} {xs : List Value}
theorem Reads.none_ : Reads w B size A 0 [] := ⟨by simp, fun h => absurd h (by omega)⟩
theorem Reads.at_ {k : Nat} (h : Reads w B 1 A n xs) (hk : k < n) : ∃ ad u, A = some ad ∧ ad.block < B ∧ xs[k]? = some u ∧ w.cell? (ad.add k) = some u := by
  obtain ⟨ad, e, hb, hc⟩ := h.2 (by omega)
  have hl : k < xs.length := by have := h.1; omega
  exact ⟨ad, xs[k], e, hb, List.getElem?_eq_getElem hl, hc k _ (List.getElem?_eq_getElem hl)⟩
theorem Reads.keep (h : Reads w B size A n xs) (hk : ∀ p : Addr, p.block < B → w'.cell? p = w.cell? p) : Reads w' B size A n xs :=
  ⟨h.1, fun hn => by
    obtain ⟨ad, e, hb, hc⟩ := h.2 hn
    exact ⟨ad, e, hb, fun j u hu => (hk _ (by rw [block_of_add]; exact hb)).trans (hc j u hu)⟩⟩
theorem Reads.more (h : Reads w B size A n xs) (hB : B ≤ B') : Reads w B' size A n xs :=
  ⟨h.1, fun hn => by
    obtain ⟨ad, e, hb, hc⟩ := h.2 hn
    exact ⟨ad, e, by omega, hc⟩⟩
theorem Reads.below (h : Reads w B size A n xs) (hb : Below B w w') : Reads w' B size A n xs := h.keep fun _ hp => hb.cell hp
theorem Reads.drew (h : Reads w B size A n xs) : Reads w.drew B size A n xs := h
theorem Reads.drewN (h : Reads w B size A n xs) (k : Nat) : Reads (w.drewN k) B size A n xs := h
theorem Reads.alloc (h : Reads w B size A n xs) (hB : B ≤ w.heap.size) (o : Obj) : Reads (w.alloc o) B size A n xs := h.keep fun p hp => World.cell?_alloc_lt w o p (by omega)
theorem Reads.setCell (h : Reads w B size A n xs) {p : Addr} (hB : B ≤ p.block) (u : Value) : Reads (w.setCell p u) B size A n xs :=
  h.keep fun q hq => World.cell?_setCell_other w p q u (fun e => by subst e; omega)
theorem Reads.grown (h : Reads w B size A n xs) {row : Option Nat} (hg : w.grownBy w' row) (hB : B ≤ w.heap.size) (hr : ∀ g, row = some g → B ≤ g) : Reads w' B size A n xs :=
  h.keep fun p hp => World.cell?_of_block (hg.block p.block (by omega) (fun e => by have := hr _ e.symm; omega))
theorem Reads.cut (h : Reads w B size A n xs) {k cap : Nat} (hk : k ≤ n) (hc : n ≤ cap) :
    Reads w B size (if cap = k then A else A.map (·.add (k * size))) (n - k) (xs.drop (k * size)) := by
  refine ⟨by rw [List.length_drop, h.1, Nat.sub_mul], fun hn => ?_⟩
  obtain ⟨ad, rfl, hb, hcell⟩ := h.2 (by omega)
  rw [if_neg (by omega)]
  refine ⟨ad.add (k * size), rfl, by rw [block_of_add]; exact hb, fun j u hu => ?_⟩
  rw [add_of_add]
  exact hcell _ u (by rw [← hu, List.getElem?_drop])
theorem Reads.of_own {base : Nat} {e : TypeId} {c : Nat} (h : w.ownsRow base e size (.slice A n c) n xs) : Reads w w.heap.size size A n xs := by
  refine ⟨h.1, fun hn => ?_⟩
  obtain ⟨g, cap, hv, _, hlt⟩ := h.form hn
  have hA : A = some ⟨g, 0, none⟩ := by injection hv
  subst hA
  exact ⟨_, rfl, hlt, h.cells (g := g) rfl⟩
end
section
variable {P : Program} (w : World)

theorem run_append_of_nil (base : Nat) (t ty e : TypeId) (i : TypeInfo) (size : Nat) (ht : P.underlying t = some (.slice e)) (hi : P.info? e = some i)
    (v : Value) (n : Nat) (xs : List Value) (hown : w.ownsRow base e size v n xs) (c : Nat) : (Builtin.append_ #[t, t] ty #[v, .slice none 0 c]).run P w = .ok v w := by
  rcases hown.2 with ⟨rfl, rfl⟩ | ⟨g, cap, cur, rfl, _, _, hnc, _⟩
  · simp [Builtin.append_, run_underlying ht, sizeOf, typeInfo, hi, Builtin.lenOf, Builtin.firstCells]
  · simp [Builtin.append_, run_underlying ht, sizeOf, typeInfo, hi, Builtin.lenOf, Builtin.firstCells, hnc, storeCells]

theorem run_append_any (base : Nat) (t ty e : TypeId) (i : TypeInfo) (z : Value) (size bytes : Nat) (ht : P.underlying t = some (.slice e)) (hi : P.info? e = some i) (hz : i.zero = some z)
    (hsize : i.size = size) (hby : i.bytes = bytes) (hzs : z.cells.size = size) (hsz : 0 < size)
    (v : Value) (n : Nat) (xs : List Value) (hown : w.ownsRow base e size v n xs)
    (B : Nat) (A : Option Addr) (m c : Nat) (news : List Value) (hr : Reads w B size A m news) (h1 : ∀ u ∈ news, u.oneCell' = true)
    (h63 : n + m ≤ maxLen) (hbytes : (n + m) * bytes ≤ 140737488355328) (hbase : base ≤ w.heap.size) :
    ∃ v' w', (Builtin.append_ #[t, t] ty #[v, .slice A m c]).run P w = .ok v' w' ∧ w'.ownsRow base e size v' (n + m) (xs ++ news) ∧ w.grownBy w' v.ownBlock ∧
      (v'.ownBlock = v.ownBlock ∨ v'.ownBlock = some w.heap.size) := by
  rcases A with _ | ad
  · have hm : m = 0 := by
      rcases Nat.eq_zero_or_pos m with h0 | h0
      · exact h0
      · obtain ⟨ad, h, _⟩ := hr.2 h0
        cases h
    subst hm
    have hn : news = [] := List.eq_nil_of_length_eq_zero (by simpa using hr.1)
    subst hn
    exact ⟨v, w, run_append_of_nil w base t ty e i size ht hi v n xs hown c, by simpa using hown, World.grownBy.refl w _, .inl rfl⟩
  · have hcells : ∀ j u, news[j]? = some u → w.cell? (ad.add j) = some u := by
      intro j u hu
      rcases Nat.eq_zero_or_pos m with h0 | h0
      · subst h0
        have hn : news = [] := List.eq_nil_of_length_eq_zero (by simpa using hr.1)
        subst hn
        simp at hu
      · obtain ⟨ad', h, _, hc⟩ := hr.2 h0
        injection h with h
        subst h
        exact hc j u hu
    obtain ⟨v', w', hrun, h2, h3, _, h5⟩ := run_append_own_at (P := P) w base t ty e i z size bytes ht hi hz hsize hby hzs hsz v n xs hown ad m c news hr.1 hcells h1 h63 hbytes hbase
    exact ⟨v', w', hrun, h2, h3, h5⟩

theorem wp_append_any {o : Oper} {a : Act} {K : Act → World → Prop} {Q : Exit → Act → World → Prop} (s x : Operand) (t : TypeId)
    (ho : o.op = .call { callee := .builtin .append, args := #[s, x], argTypes := #[t, t] })
    (base : Nat) (e : TypeId) (i : TypeInfo) (z : Value) (size bytes : Nat) (ht : P.underlying t = some (.slice e)) (hi : P.info? e = some i) (hz : i.zero = some z)
    (hsize : i.size = size) (hby : i.bytes = bytes) (hzs : z.cells.size = size) (hsz : 0 < size)
    (v : Value) (n : Nat) (xs : List Value) (hs : a.eval s = v) (hown : w.ownsRow base e size v n xs)
    (B : Nat) (A : Option Addr) (m c : Nat) (news : List Value) (hx : a.eval x = .slice A m c) (hr : Reads w B size A m news) (h1 : ∀ u ∈ news, u.oneCell' = true)
    (h63 : n + m ≤ maxLen) (hbytes : (n + m) * bytes ≤ 140737488355328) (hbase : base ≤ w.heap.size)
    (h : ∀ v' w', w'.ownsRow base e size v' (n + m) (xs ++ news) → w.grownBy w' v.ownBlock → (v'.ownBlock = v.ownBlock ∨ v'.ownBlock = some w.heap.size) → K (a.put o.dst v') w') : o.wp P a w K Q := by
  obtain ⟨v', w', hrun, h2, h3, h4⟩ := run_append_any (P := P) w base t o.type e i z size bytes ht hi hz hsize hby hzs hsz v n xs hown B A m c news hr h1 h63 hbytes hbase
  unfold Oper.wp execOp
  simp only [ho, resolve, invoke, builtin, Sem.run_bind, Sem.run_pure, Result.andThen_ok, List.map_toArray, List.map_cons, List.map_nil, hs, hx, hrun]
  exact h v' w' h2 h3 h4

theorem wpList_append_any {ops : Array Oper} {rest : List Oper} {o : Oper} {a : Act} {Q : Exit → Act → World → Prop} (hgd : o.guard = none) (s x : Operand) (t : TypeId)
    (ho : o.op = .call { callee := .builtin .append, args := #[s, x], argTypes := #[t, t] })
    (base : Nat) (e : TypeId) (i : TypeInfo) (z : Value) (size bytes : Nat) (ht : P.underlying t = some (.slice e)) (hi : P.info? e = some i) (hz : i.zero = some z)
    (hsize : i.size = size) (hby : i.bytes = bytes) (hzs : z.cells.size = size) (hsz : 0 < size)
    (v : Value) (n : Nat) (xs : List Value) (hs : a.eval s = v) (hown : w.ownsRow base e size v n xs)
    (B : Nat) (A : Option Addr) (m c : Nat) (news : List Value) (hx : a.eval x = .slice A m c) (hr : Reads w B size A m news) (h1 : ∀ u ∈ news, u.oneCell' = true)
    (h63 : n + m ≤ maxLen) (hbytes : (n + m) * bytes ≤ 140737488355328) (hbase : base ≤ w.heap.size)
    (h : ∀ v' w', w'.ownsRow base e size v' (n + m) (xs ++ news) → w.grownBy w' v.ownBlock → (v'.ownBlock = v.ownBlock ∨ v'.ownBlock = some w.heap.size) → wpList P ops Q rest (a.put o.dst v') w') : wpList P ops Q (o :: rest) a w :=
  wpList_plain hgd fun _ hK => wp_append_any w s x t ho base e i z size bytes ht hi hz hsize hby hzs hsz v n xs hs hown B A m c news hx hr h1 h63 hbytes hbase fun v' w' h2 h3 h4 => hK _ _ (h v' w' h2 h3 h4)

theorem step_append_any {ops : Array Oper} {o : Oper} {a : Act} {K : Act → World → Prop} {Q : Exit → Act → World → Prop} {E : Prop} (hgd : o.guard = none) (s x : Operand) (t : TypeId)
    (ho : o.op = .call { callee := .builtin .append, args := #[s, x], argTypes := #[t, t] })
    (base : Nat) (e : TypeId) (i : TypeInfo) (z : Value) (size bytes : Nat) (ht : P.underlying t = some (.slice e)) (hi : P.info? e = some i) (hz : i.zero = some z)
    (hsize : i.size = size) (hby : i.bytes = bytes) (hzs : z.cells.size = size) (hsz : 0 < size)
    (v : Value) (n : Nat) (xs : List Value) (hs : a.eval s = v) (hown : w.ownsRow base e size v n xs)
    (B : Nat) (A : Option Addr) (m c : Nat) (news : List Value) (hx : a.eval x = .slice A m c) (hr : Reads w B size A m news) (h1 : ∀ u ∈ news, u.oneCell' = true)
    (h63 : n + m ≤ maxLen) (hbytes : (n + m) * bytes ≤ 140737488355328) (hbase : base ≤ w.heap.size)
    (h : ∀ v' w', w'.ownsRow base e size v' (n + m) (xs ++ news) → w.grownBy w' v.ownBlock → (v'.ownBlock = v.ownBlock ∨ v'.ownBlock = some w.heap.size) → K (a.put o.dst v') w') :
    if Region.wanted o (yielded ops a.tmps) = true then Oper.wp P o a w K Q else E := by
  have hw : Region.wanted o (yielded ops a.tmps) = true := by simp [Region.wanted, hgd]
  rw [if_pos hw]
  exact wp_append_any w s x t ho base e i z size bytes ht hi hz hsize hby hzs hsz v n xs hs hown B A m c news hx hr h1 h63 hbytes hbase h
end

theorem Reads.of_C {w : World} {k : IntKind} {A : Option Addr} {n : Nat} {xs : List Int} (h : (Kd.int k).C w A n xs) : Reads w w.heap.size 1 A n (nums k xs) := by
  have hl := Kd.C_len h
  refine ⟨by rw [nums_length, hl, Nat.mul_one], fun hn => ?_⟩
  obtain ⟨ad, rfl, hc⟩ := Kd.at_int h 0 (by omega) (by omega)
  refine ⟨ad, rfl, ?_, fun j u hu => ?_⟩
  · have := World.block_lt_of_cell? w _ hc
    rwa [block_of_add] at this
  · have hj : j < xs.length := by
      rcases Nat.lt_or_ge j xs.length with h1 | h1
      · exact h1
      · rw [List.getElem?_eq_none (by rw [nums_length]; exact h1)] at hu; cases hu
    obtain ⟨ad', e, hc'⟩ := Kd.at_int h (j : Int) (by omega) (by omega)
    injection e with e
    subst e
    rw [Int.toNat_natCast] at hc'
    rw [hc']
    simp only [nums, List.getElem?_map, List.getElem?_eq_getElem hj, Option.map_some] at hu
    rw [← hu]
    simp [rd, List.getD_eq_getElem?_getD, hj]

theorem heap_new {W : World} {o : Obj} {g : Nat} (h : g = W.heap.size) : (W.alloc o).heap[g]? = some o := by subst h; exact heap_alloc_new W o
theorem own_empty {W : World} {base size g : Nat} {e : TypeId} (h : W.heap[g]? = some (.cells #[] e (0, 0))) (hb : base ≤ g) : W.ownsRow base e size (.slice (some ⟨g, 0, none⟩) 0 0) 0 [] :=
  ⟨by simp, .inr ⟨g, 0, #[], rfl, hb, h, by simp, by simp, by simp⟩⟩
theorem reads_one {W : World} {B g : Nat} {e : TypeId} {u : Value} (h : W.heap[g]? = some (.cells #[u] e (0, 0))) (hb : g < B) : Reads W B 1 (some ⟨g, 0, none⟩) 1 [u] :=
  ⟨by simp, fun _ => ⟨_, rfl, hb, fun j v hv => by
    match j, hv with
    | 0, hv => simp at hv; subst hv; exact (cell_of_row W g 0 _ _ _ h).trans rfl
    | j + 1, hv => simp at hv⟩⟩

theorem Reads.take {w : World} {B size n k : Nat} {A : Option Addr} {xs : List Value} (h : Reads w B size A n xs) (hk : k ≤ n) : Reads w B size A k (xs.take (k * size)) := by
  refine ⟨by rw [List.length_take, h.1]; exact Nat.min_eq_left (Nat.mul_le_mul_right _ hk), fun hn => ?_⟩
  obtain ⟨ad, e, hb, hc⟩ := h.2 (by omega)
  refine ⟨ad, e, hb, fun j u hu => hc j u ?_⟩
  rw [List.getElem?_take] at hu
  split at hu
  · exact hu
  · cases hu
theorem nums_il_take (k : IntKind) (bs : List Nat) (j : Nat) : nums k (il (bs.take j)) = (nums k (il bs)).take j := by simp [nums, il, List.map_take]
theorem nums_il_drop (k : IntKind) (bs : List Nat) (j : Nat) : nums k (il (bs.drop j)) = (nums k (il bs)).drop j := by simp [nums, il, List.map_drop]
theorem nums_one (k : IntKind) (xs : List Int) : ∀ u ∈ nums k xs, u.oneCell' = true := by
  intro u hu
  simp only [nums, List.mem_map] at hu
  obtain ⟨x, _, rfl⟩ := hu
  rfl
theorem below_grown_own {B : Nat} {w w1 w2 : World} (h : Below B w w1) (hB : B ≤ w1.heap.size) {v : Value} (hg : w1.grownBy w2 v.ownBlock) (hr : ∀ k, v.ownBlock = some k → B ≤ k) : Below B w w2 :=
  pw_below_grown h v.ownBlock hB hg hr

-- a block that is known whole (after the kit's page of words)
def Blk (w : World) (g : Nat) (t : TypeId) (cs : Array Value) : Prop := w.heap[g]? = some (.cells cs t (0, 0))

section
variable {w w' : World} {g : Nat} {t : TypeId} {cs : Array Value}
theorem Blk.lt (h : Blk w g t cs) : g < w.heap.size := by
  rcases Nat.lt_or_ge g w.heap.size with hlt | hge
  · exact hlt
  · unfold Blk at h; rw [Array.getElem?_eq_none hge] at h; cases h
theorem Blk.cell (h : Blk w g t cs) (i : Nat) : w.cell? ⟨g, i, none⟩ = cs[i]? := cell_of_row w g i cs t (0, 0) h
theorem Blk.frozen (h : Blk w g t cs) (i : Nat) : w.frozen? ⟨g, i, none⟩ = false := by
  unfold Blk at h
  simp [World.frozen?, h]
theorem Blk.new (w : World) (t : TypeId) (cs : Array Value) : Blk (w.alloc (.cells cs t)) w.heap.size t cs := heap_alloc_new w _
theorem Blk.drew (h : Blk w g t cs) : Blk w.drew g t cs := h
theorem Blk.drewN (h : Blk w g t cs) (n : Nat) : Blk (w.drewN n) g t cs := h
theorem Blk.alloc (h : Blk w g t cs) (o : Obj) : Blk (w.alloc o) g t cs := (Below.heap_alloc w o g h.lt).trans h
theorem Blk.set_ (h : Blk w g t cs) (i : Nat) (u : Value) : Blk (w.setCell ⟨g, i, none⟩ u) g t (cs.setIfInBounds i u) := by
  unfold Blk at h ⊢
  simp [World.setCell, Array.getElem?_modify, h]
theorem Blk.far (h : Blk w g t cs) {p : Addr} (hp : g ≠ p.block) (u : Value) : Blk (w.setCell p u) g t cs := (Below.heap_setCell w p u g hp).trans h
theorem Blk.below {B : Nat} (h : Blk w g t cs) (hb : Below B w w') (hg : g < B) : Blk w' g t cs := (hb.block g hg).trans h
theorem Blk.grown {row : Option Nat} (h : Blk w g t cs) (hb : w.grownBy w' row) (hg : some g ≠ row) : Blk w' g t cs := (hb.block g h.lt hg).trans h
theorem Blk.ne_ {g' : Nat} {t' : TypeId} {cs' : Array Value} (h : Blk w g t cs) (h' : Blk w g' t' cs') (hne : t ≠ t') : g ≠ g' := by
  rintro rfl
  unfold Blk at h h'
  rw [h] at h'
  injection h' with h'
  injection h' with _ ht
  exact hne ht
theorem own_blk_ne {base : Nat} {e : TypeId} {size n : Nat} {v : Value} {xs : List Value} (h : w.ownsRow base e size v n xs) (hg : Blk w g t cs) (hne : e ≠ t) : v.ownBlock ≠ some g := by
  rcases h.2 with ⟨rfl, _⟩ | ⟨g', cap, cur, rfl, _, hh, _⟩
  · simp [Value.ownBlock]
  · intro he
    have : g' = g := by simpa [Value.ownBlock] using he
    subst this
    exact Blk.ne_ (t := e) hh hg hne rfl
end

theorem own_range {w : World} {base k : Nat} {e : TypeId} {v : Value} {f : Nat → Nat} {y : Int} (h : w.ownsRow base e 1 v (il ((List.range k).map f) ++ [y]).length (nums .u64 (il ((List.range k).map f) ++ [y]))) (hy : y = ((f k : Nat) : Int)) :
    w.ownsRow base e 1 v ((List.range (k + 1)).map f).length (nums .u64 (il ((List.range (k + 1)).map f))) := by
  subst hy
  have e : il ((List.range (k + 1)).map f) = il ((List.range k).map f) ++ [((f k : Nat) : Int)] := by simp [List.range_succ, il]
  rw [e]
  simpa [il] using h
theorem own_snoc {w : World} {base : Nat} {e : TypeId} {v : Value} {l l' : List Nat} {x : Nat} {y : Int} (h : w.ownsRow base e 1 v (il l ++ [y]).length (nums .u64 (il l ++ [y]))) (hy : y = (x : Int)) (hl : l' = l ++ [x]) :
    w.ownsRow base e 1 v l'.length (nums .u64 (il l')) := by
  subst hy hl
  have e : il (l ++ [x]) = il l ++ [(x : Int)] := by simp [il]
  rw [e]
  simpa [il] using h
theorem blk_of_heap {w : World} {g : Nat} {t : TypeId} {cs : Array Value} (h : w.heap[g]? = some (.cells cs t (0, 0))) : Blk w g t cs := h
end Go.Proofs.Ytgegjhgifeobdaa


namespace Go.Proofs.Ytgegjhgifeobdaa
set_option linter.unusedSimpArgs false
set_option linter.unusedVariables false
open Go.RowKit Go.Lib Go.Proofs.YtgegjhgifeobdaaW.PrintWords

set_option maxHeartbeats 400000 in
theorem bit_any (a p : Nat) (ha : a < 2 ^ 64) (hp : p < 64) (w : World) :
    Calls Try.prog 41 #[.int .u64 a, .int .i64 p] w fun e w' => e = .returned (.bool (a.testBit p)) ∧ w' = w := by
  go_enter Try.func41, Try.ntmps41
  go_wp2
  go_ret
  refine ⟨?_, rfl⟩
  rw [← bit_form ha]; rfl

/-- how many of the first k bits -/
def cnt (a : Nat) : Nat → Nat
  | 0 => 0
  | k + 1 => cnt a k + if a.testBit k then 1 else 0
theorem cnt_le (a k : Nat) : cnt a k ≤ k := by induction k with | zero => simp [cnt] | succ k ih => simp only [cnt]; split <;> omega

set_option maxHeartbeats 400000 in
theorem size_any (a : Nat) (ha : a < 2 ^ 64) (w : World) :
    Calls Try.prog 38 #[.int .u64 a] w fun e w' => e = .returned (.int .i64 (cnt a 64)) ∧ w' = w := by
  go_enter Try.func38, Try.ntmps38
  go_wp2
  go_loop [3, 4] (fun n i => ∃ k : Nat, k ≤ 64 ∧ i = .int .i64 k ∧ n = .int .i64 (cnt a k)) (fun _ i => 64 - (intOf i).toNat)
  case atStart => exact ⟨0, by omega, rfl, rfl⟩
  case round =>
    obtain ⟨k, hk, rfl, rfl⟩ := hrel
    have hl := cnt_le a k
    by_cases hlt : k < 64
    · cases hb : a.testBit k
      all_goals
        have H := hid hb
        have hcn := hid (show cnt a (k+1) = cnt a k + if a.testBit k then 1 else 0 from rfl)
        clear hb
        go_wp2_with (go_at_call 41; refine (bit_any _ _ ha hlt _).mono ?_; rintro e w' ⟨rfl, rfl⟩; rw [H.out])
        go_round
        case rel => exact ⟨k + 1, by omega, by go_num, by rw [hcn.out, H.out]; first | rfl | simp⟩
        case measure => simp [intOf]; omega
    · have : k = 64 := by omega
      subst this
      go_wp2
      go_ret
      exact ⟨rfl, rfl⟩

theorem infoU : (Try.prog.info? 57).map (fun i => (i.zero, i.size, i.bytes)) = some (some (.int .u64 0), 1, 8) := by kernel_rfl

/-- Where a block goes in a sorted list. -/
def wat (bs : List Nat) (b : Nat) : Nat := (bs.takeWhile (· ≤ b)).length
def withL (bs : List Nat) (b : Nat) : List Nat := bs.take (wat bs b) ++ [b] ++ bs.drop (wat bs b)
theorem wat_le (bs : List Nat) (b : Nat) : wat bs b ≤ bs.length := by
  unfold wat; exact (List.takeWhile_sublist _).length_le
theorem wat_lt {bs : List Nat} {b k x : Nat} (hk : k < wat bs b) (hx : bs[k]? = some x) : x ≤ b := by
  induction bs generalizing k with
  | nil => simp at hx
  | cons y r ih =>
    unfold wat at hk ih
    rw [List.takeWhile_cons] at hk
    split at hk
    · cases k with
      | zero => simp at hx; subst hx; simpa using ‹(decide (y ≤ b)) = true›
      | succ k => simp at hx hk; exact ih hk hx
    · simp at hk
theorem wat_at {bs : List Nat} {b x : Nat} (hx : bs[wat bs b]? = some x) : b < x := by
  induction bs with
  | nil => simp at hx
  | cons y r ih =>
    unfold wat at hx ih
    rw [List.takeWhile_cons] at hx
    split at hx
    · simp at hx; exact ih hx
    · simp at hx; subst hx; rename_i h; simpa using h

set_option maxHeartbeats 2000000 in
set_option maxRecDepth 100000 in
theorem with_any (A : Option Addr) (n c : Nat) (bs : List Nat) (b : Nat) (hb64 : b < 2 ^ 64) (w : World) (hB : BlC w A n bs) (hn : n < 2 ^ 40) (hc : n ≤ c) :
    Calls Try.prog 21 #[.slice A n c, .int .u64 b] w fun e w' => ∃ v, e = .returned v ∧ w'.ownsRow w.heap.size 57 1 v (n + 1) (nums .u64 (il (withL bs b))) ∧ Below w.heap.size w w' := by
  obtain ⟨i0, hi0, hz0, hz1, hz2⟩ := info_parts infoU
  obtain ⟨hn1, hC, _⟩ := id hB
  subst hn1
  have HR := hid (Reads.of_C hC)
  have hm := wat_le bs b
  rcases A with _ | ad
  · have hl0 : bs.length = 0 := by
      rcases Nat.eq_zero_or_pos bs.length with h0 | h0
      · exact h0
      · obtain ⟨ad, e, _⟩ := Kd.at_int hC 0 (by omega) (by omega); cases e
    obtain rfl : bs = [] := List.eq_nil_of_length_eq_zero hl0
    clear hC hl0 HR hB hm
    have HR1 := hid (show ∀ W, Below w.heap.size w W → Reads W w.heap.size 1 none 0 [] from fun W _ => Reads.none_)
    have HR3 := HR1
    go_enter Try.func21, Try.ntmps21
    go_wp2
    go_loop [5] (fun i => i = .int .i64 0) (fun i => 0)
    case atStart => rfl
    case round =>
      obtain rfl := hrel
      go_wp2
      go_region_law (first
        | (refine step_append_any _ rfl (.tmp 20) (.tmp 23) _ rfl w.heap.size 57 i0 _ 1 8 Try.underlying27 hi0 hz0 hz1 hz2 rfl (by decide) (.slice (some ⟨_, 0, none⟩) 0 0) 0 [] (by simp [Act.eval]; rfl)
            (own_empty (by first | exact blk_drew (heap_new (by simp)) | exact blk_drew (blk_alloc (heap_new rfl) _)) (by first | (simp; done) | (simp; omega))) w.heap.size none (0) c ([]) (by simp [Act.eval])
            (HR1.out _ (by first | exact Below.refl _ _ | exact below_drew (below_alloc (Below.refl _ _) _) | exact below_drew (below_alloc (below_alloc (Below.refl _ _) _) _))) (by simp) (by simp only [maxLen] <;> omega) (by omega) (by first | (simp; done) | (simp; omega)) ?_
           intro v1 w1 hown1 hg1 hat1
           have hb1 : Below w.heap.size w w1 := pw_below_grown (by first | exact Below.refl _ _ | exact below_drew (below_alloc (Below.refl _ _) _) | exact below_drew (below_alloc (below_alloc (Below.refl _ _) _) _)) _ (by first | (simp; done) | (simp; omega)) hg1 (by rintro k_ ⟨⟩; first | (simp; done) | (simp; omega) | omega)
           first
           | have hBb := blk_grown (blk_drew (blk_alloc (heap_new (o := .cells #[.int .u64 (b : Int)] 57 (0, 0)) rfl) _)) hg1 (by simp [Value.ownBlock])
           | have hBb := blk_grown (blk_drew (heap_new (g := w.heap.size + 1) (o := .cells #[.int .u64 (b : Int)] 57 (0, 0)) (by simp))) hg1 (by simp [Value.ownBlock])
           | have hBb := True.intro)
        | (refine step_append_any _ rfl (.tmp 24) (.tmp 26) _ rfl w.heap.size 57 i0 _ 1 8 Try.underlying27 hi0 hz0 hz1 hz2 rfl (by decide) v1 (0 + 0) ([] ++ []) (by simp [Act.eval])
            (by first | exact hown1 | exact hown1.alloc _) (w1.heap.size + 1) (some ⟨_, 0, none⟩) 1 1 [.int .u64 (b : Int)] (by simp [Act.eval]; rfl)
            (by first | exact reads_one hBb (by have := blk_lt hBb; omega) | exact reads_one (heap_new rfl) (by omega)) (by simp [Value.oneCell']) (by simp only [maxLen] <;> omega) (by omega) (by have := hb1.size; simp; omega) ?_
           intro v2 w2 hown2 hg2 hat2
           have hb2 : Below w.heap.size w w2 := pw_below_grown (by first | exact hb1 | exact below_alloc hb1 _) _ (by have := hb1.size; simp; omega) hg2 (own_base hown1))
        | (refine step_append_any _ rfl (.tmp 27) (.tmp 30) _ rfl w.heap.size 57 i0 _ 1 8 Try.underlying27 hi0 hz0 hz1 hz2 rfl (by decide) v2 (0 + 0 + 1) ([] ++ [] ++ [.int .u64 (b : Int)]) (by simp [Act.eval])
            hown2 w.heap.size none (0) (c - 0) ([]) (by first | (simp [Act.eval]; done) | (simp [Act.eval]; omega))
            (HR3.out _ hb2) (by simp) (by simp only [maxLen] <;> omega) (by omega) hb2.size ?_
           intro v3 w3 hown3 hg3 hat3
           have hb3 : Below w.heap.size w w3 := pw_below_grown hb2 _ hb2.size hg3 (own_base hown2)))
      all_goals
        go_wp2
        go_ret
        exact ⟨v3, rfl, by simpa [withL, wat, nums, il] using hown3, hb3⟩
  · clear hC
    go_enter Try.func21, Try.ntmps21
    go_wp2
    go_loop [5] (fun i => ∃ k : Nat, k ≤ wat bs b ∧ i = .int .i64 k) (fun i => wat bs b - (intOf i).toNat)
    case atStart => exact ⟨0, by omega, rfl⟩
    case round =>
      obtain ⟨k, hk, rfl⟩ := hrel
      by_cases hlt : k < wat bs b
      · obtain ⟨ad', x, e, hc, hx64, HT⟩ := hB.at_ (show k < bs.length by omega)
        cases e
        have hx := wat_lt hlt HT.2.1
        go_wp2
        go_round
        case rel => exact ⟨k + 1, by omega, by go_num⟩
        case measure => simp [intOf]; omega
      · have : k = wat bs b := by omega
        subst this
        have hcc : wat bs b ≤ c := by omega
        obtain ⟨A', hA'⟩ : ∃ A', (if c = wat bs b then some ad else some (ad.add (wat bs b))) = A' := ⟨_, rfl⟩
        have HR1 := hid (show ∀ W, Below w.heap.size w W → Reads W w.heap.size 1 (some ad) (wat bs b) (nums .u64 (il (bs.take (wat bs b)))) from fun W hW => by
          have := (HR.take (k := wat bs b) (by omega)).below hW
          rwa [Nat.mul_one, ← nums_il_take] at this)
        have HR3 := hid (show ∀ W, Below w.heap.size w W → Reads W w.heap.size 1 A' (bs.length - wat bs b) (nums .u64 (il (bs.drop (wat bs b)))) from fun W hW => by
          have := (HR.cut (k := wat bs b) (cap := c) (by omega) (by omega)).below hW
          rw [Nat.mul_one, ← nums_il_drop] at this
          simp only [Option.map_some] at this
          rwa [hA'] at this)
        rcases Nat.lt_or_ge (wat bs b) bs.length with hlt2 | hlt2
        case' inl =>
          obtain ⟨ad', x, e, hc', hx64, HT⟩ := hB.at_ hlt2
          cases e
          have hx := wat_at HT.2.1
        all_goals
          go_wp2
          clear hlt
          go_region_law (first
            | (refine step_append_any _ rfl (.tmp 20) (.tmp 23) _ rfl w.heap.size 57 i0 _ 1 8 Try.underlying27 hi0 hz0 hz1 hz2 rfl (by decide) (.slice (some ⟨_, 0, none⟩) 0 0) 0 [] (by simp [Act.eval]; rfl)
                (own_empty (by first | exact blk_drew (heap_new (by simp)) | exact blk_drew (blk_alloc (heap_new rfl) _)) (by first | (simp; done) | (simp; omega))) w.heap.size (some ad) (wat bs b) c (nums .u64 (il (bs.take (wat bs b)))) (by simp [Act.eval])
                (HR1.out _ (by first | exact Below.refl _ _ | exact below_drew (below_alloc (Below.refl _ _) _) | exact below_drew (below_alloc (below_alloc (Below.refl _ _) _) _))) (nums_one _ _) (by simp only [maxLen] <;> omega) (by omega) (by first | (simp; done) | (simp; omega)) ?_
               intro v1 w1 hown1 hg1 hat1
               have hb1 : Below w.heap.size w w1 := pw_below_grown (by first | exact Below.refl _ _ | exact below_drew (below_alloc (Below.refl _ _) _) | exact below_drew (below_alloc (below_alloc (Below.refl _ _) _) _)) _ (by first | (simp; done) | (simp; omega)) hg1 (by rintro k_ ⟨⟩; first | (simp; done) | (simp; omega) | omega)
               first
               | have hBb := blk_grown (blk_drew (blk_alloc (heap_new (o := .cells #[.int .u64 (b : Int)] 57 (0, 0)) rfl) _)) hg1 (by simp [Value.ownBlock])
               | have hBb := blk_grown (blk_drew (heap_new (g := w.heap.size + 1) (o := .cells #[.int .u64 (b : Int)] 57 (0, 0)) (by simp))) hg1 (by simp [Value.ownBlock])
               | have hBb := True.intro)
            | (refine step_append_any _ rfl (.tmp 24) (.tmp 26) _ rfl w.heap.size 57 i0 _ 1 8 Try.underlying27 hi0 hz0 hz1 hz2 rfl (by decide) v1 (0 + wat bs b) ([] ++ nums .u64 (il (bs.take (wat bs b)))) (by simp [Act.eval])
                (by first | exact hown1 | exact hown1.alloc _) (w1.heap.size + 1) (some ⟨_, 0, none⟩) 1 1 [.int .u64 (b : Int)] (by simp [Act.eval]; rfl)
                (by first | exact reads_one hBb (by have := blk_lt hBb; omega) | exact reads_one (heap_new rfl) (by omega)) (by simp [Value.oneCell']) (by simp only [maxLen] <;> omega) (by omega) (by have := hb1.size; simp; omega) ?_
               intro v2 w2 hown2 hg2 hat2
               have hb2 : Below w.heap.size w w2 := pw_below_grown (by first | exact hb1 | exact below_alloc hb1 _) _ (by have := hb1.size; simp; omega) hg2 (own_base hown1))
            | (refine step_append_any _ rfl (.tmp 27) (.tmp 30) _ rfl w.heap.size 57 i0 _ 1 8 Try.underlying27 hi0 hz0 hz1 hz2 rfl (by decide) v2 (0 + wat bs b + 1) ([] ++ nums .u64 (il (bs.take (wat bs b))) ++ [.int .u64 (b : Int)]) (by simp [Act.eval])
                hown2 w.heap.size A' (bs.length - wat bs b) (c - wat bs b) (nums .u64 (il (bs.drop (wat bs b)))) (by first | (simp [Act.eval]; done) | (simp [Act.eval]; omega))
                (HR3.out _ hb2) (nums_one _ _) (by simp only [maxLen] <;> omega) (by omega) hb2.size ?_
               intro v3 w3 hown3 hg3 hat3
               have hb3 : Below w.heap.size w w3 := pw_below_grown hb2 _ hb2.size hg3 (own_base hown2)))
          all_goals
            go_wp2
            go_ret
            exact ⟨v3, rfl, by have h := hown3; rw [show 0 + wat bs b + 1 + (bs.length - wat bs b) = bs.length + 1 from by omega] at h; simpa [withL, nums, il] using h, hb3⟩

def sortedL (bs : List Nat) : List Nat := bs.foldl withL []
theorem withL_length (bs : List Nat) (b : Nat) : (withL bs b).length = bs.length + 1 := by
  have := wat_le bs b; simp [withL]; omega
theorem withL_mem {bs : List Nat} {b x : Nat} : x ∈ withL bs b ↔ x = b ∨ x ∈ bs := by
  simp only [withL, List.mem_append, List.mem_singleton]
  conv => rhs; rw [← List.take_append_drop (wat bs b) bs]
  rw [List.mem_append]
  constructor
  · rintro ((h | h) | h) <;> simp [h]
  · rintro (h | h | h) <;> simp [h]
theorem sortedL_snoc (l : List Nat) (b : Nat) : sortedL (l ++ [b]) = withL (sortedL l) b := by simp [sortedL]
theorem foldl_withL_length (l : List Nat) : ∀ acc : List Nat, (l.foldl withL acc).length = acc.length + l.length := by
  induction l with
  | nil => simp
  | cons x r ih => intro acc; rw [List.foldl_cons, ih, withL_length]; simp; omega
theorem foldl_withL_mem (l : List Nat) : ∀ (acc : List Nat) (x : Nat), x ∈ l.foldl withL acc ↔ x ∈ acc ∨ x ∈ l := by
  induction l with
  | nil => simp
  | cons y r ih => intro acc x; rw [List.foldl_cons, ih, withL_mem]; simp only [List.mem_cons]; rw [or_assoc, or_left_comm]
theorem sortedL_length (l : List Nat) : (sortedL l).length = l.length := by simp [sortedL, foldl_withL_length]
theorem sortedL_mem {l : List Nat} {x : Nat} : x ∈ sortedL l ↔ x ∈ l := by simp [sortedL, foldl_withL_mem]

set_option maxHeartbeats 1000000 in
set_option maxRecDepth 100000 in
theorem sorted_any (A : Option Addr) (n c : Nat) (bs : List Nat) (w : World) (hB : BlC w A n bs) (hn : n < 2 ^ 39) :
    Calls Try.prog 39 #[.slice A n c] w fun e w' => ∃ v, e = .returned v ∧ w'.ownsRow w.heap.size 57 1 v n (nums .u64 (il (sortedL bs))) ∧ Below w.heap.size w w' := by
  obtain ⟨hn1, _⟩ := id hB
  subst hn1
  have hall : ∀ k, ∀ b ∈ sortedL (bs.take k), b < 2 ^ 64 := fun k b h => hB.2.2 b (List.mem_of_mem_take (sortedL_mem.1 h))
  have HALL := hid hall
  clear hall
  go_enter Try.func39, Try.ntmps39
  go_wp2
  go_loopw [3, 4] (fun v i wr => Below w.heap.size w wr ∧ ∃ k : Nat, k ≤ bs.length ∧ i = .int .i64 k ∧ wr.ownsRow w.heap.size 57 1 v k (nums .u64 (il (sortedL (bs.take k))))) (fun _ i _ => bs.length - (intOf i).toNat)
  case atStart => exact ⟨below_alloc (Below.refl _ _) _, 0, by omega, rfl, own_empty (heap_new rfl) (Nat.le_refl _)⟩
  case round =>
    obtain ⟨hb0, k, hk, rfl, hown⟩ := hrel
    by_cases hlt : k < bs.length
    · obtain ⟨ad, b, e, hc, hb, HT⟩ := (hB.below hb0).at_ hlt
      cases e
      obtain ⟨A1, c1, rfl, hc1, hm1, hB1⟩ := own_BlC hown (HALL.out k)
      have HO := hid hown
      clear hown
      go_wp2_with (go_at_call 21; refine (with_any A1 k c1 _ b hb _ hB1 (by omega) hc1).mono ?_; rintro e w' ⟨v, rfl, hown1, hb1⟩)
      have hb2 := below_then hb0 hb0.size hb1
      go_roundw
      case rel => exact ⟨hb2, k + 1, by omega, by go_num, by rw [HT.1, sortedL_snoc]; exact own_weaken hown1 hb0.size⟩
      case measure => simp [intOf]; omega
    · have : k = bs.length := by omega
      subst this
      go_wp2
      go_ret
      exact ⟨_, rfl, by simpa using hown, hb0⟩

theorem at_lt {l : List Nat} (hl : ∀ b ∈ l, b < 256) (i : Nat) : l.getD i 0 < 256 := by
  rcases Nat.lt_or_ge i l.length with h | h
  · exact hl _ (getD_mem h)
  · rw [List.getD_eq_getElem?_getD, List.getElem?_eq_none h]; decide
set_option maxHeartbeats 400000 in
theorem at_any (A : Option Addr) (n c : Nat) (l : List Nat) (i : Int) (hi : 0 ≤ i) (w : World) (hB : NlC .u8 256 w A n l) (hn : n < 2 ^ 63) :
    Calls Try.prog 23 #[.slice A n c, .int .i64 i] w fun e w' => e = .returned (.int .i64 (l.getD i.toNat 0 : Nat)) ∧ w' = w := by
  obtain ⟨hn1, _⟩ := id hB
  subst hn1
  obtain ⟨k, rfl⟩ := Int.eq_ofNat_of_zero_le hi
  rw [Int.toNat_natCast]
  by_cases hlt : k < l.length
  · obtain ⟨ad, b, e, hc, hb, HT⟩ := hB.at_ hlt
    cases e
    have hge : decide ((l.length : Int) ≤ (k : Int)) = false := by simp; omega
    go_enter Try.func23, Try.ntmps23
    go_wp2
    go_ret
    refine ⟨ret_i64 ?_, rfl⟩
    rw [List.getD_eq_getElem?_getD, HT.2.1, Option.getD_some]
  · have hge : decide ((l.length : Int) ≤ (k : Int)) = true := by simp; omega
    go_enter Try.func23, Try.ntmps23
    go_wp2
    go_ret
    refine ⟨ret_i64 ?_, rfl⟩
    simp [List.getD_eq_getElem?_getD, List.getElem?_eq_none (show l.length ≤ k by omega)]

def turnB (b v k : Nat) : Nat → Nat
  | 0 => 0
  | p + 1 => turnB b v k p ||| if b.testBit p then 2 ^ ((p + k) % v) else 0
theorem shl_form' {p k v : Nat} (h : (p + k) % v < 64) : IntKind.u64.wrap (2 ^ min (IntKind.u64.wrap (((p : Int) + (k : Int)) % (v : Int))).toNat 64) = ((2 ^ ((p + k) % v) : Nat) : Int) := by
  rw [show ((p : Int) + (k : Int)) % (v : Int) = (((p + k) % v : Nat) : Int) from by simp]; exact shl_form h
theorem turnB_lt (b v k p : Nat) (hv : 0 < v) (h : v ≤ 16) : turnB b v k p < 2 ^ v := by
  induction p with
  | zero => simp [turnB]; exact Nat.two_pow_pos v
  | succ p ih =>
    simp only [turnB]
    apply Nat.or_lt_two_pow ih
    split
    · exact Nat.pow_lt_pow_right (by omega) (Nat.mod_lt _ hv)
    · exact Nat.two_pow_pos v
set_option maxHeartbeats 400000 in
theorem turned_any (b v k : Nat) (hb : b < 2 ^ 64) (hv : 0 < v) (hv2 : v ≤ 16) (hk : k < 1000) (w : World) :
    Calls Try.prog 37 #[.int .u64 b, .int .i64 v, .int .i64 k] w fun e w' => e = .returned (.int .u64 (turnB b v k v)) ∧ w' = w := by
  go_enter Try.func37, Try.ntmps37
  go_wp2
  go_loop [7, 8] (fun n i => ∃ p : Nat, p ≤ v ∧ i = .int .i64 p ∧ n = .int .u64 (turnB b v k p)) (fun _ i => v - (intOf i).toNat)
  case atStart => exact ⟨0, by omega, rfl, rfl⟩
  case round =>
    obtain ⟨p, hp, rfl, rfl⟩ := hrel
    have hl := Nat.lt_of_lt_of_le (turnB_lt b v k p hv hv2) (Nat.pow_le_pow_right (by omega) (show v ≤ 64 by omega))
    by_cases hlt : p < v
    · cases hx : b.testBit p
      all_goals
        have H := hid hx
        clear hx
        go_wp2_with (go_at_call 41; refine (bit_any _ _ hb (by omega) _).mono ?_; rintro e w' ⟨rfl, rfl⟩; rw [H.out])
        go_round
        case rel => exact ⟨p + 1, by omega, by go_num, by first | (simp [turnB, H.out]; done) | (simp only [turnB, H.out, if_true]; rw [shl_form' (by have := Nat.mod_lt (p + k) hv; omega), uor (by omega) (Nat.pow_lt_pow_right (by omega) (by have := Nat.mod_lt (p + k) hv; omega))])⟩
        case measure => simp [intOf]; omega
    · have : p = v := by omega
      subst this
      go_wp2
      go_ret
      exact ⟨rfl, rfl⟩
end Go.Proofs.Ytgegjhgifeobdaa


namespace Go.Proofs.Ytgegjhgifeobdaa
set_option linter.unusedSimpArgs false
set_option linter.unusedVariables false
open Go.RowKit Go.Lib Go.Proofs.YtgegjhgifeobdaaW.PrintWords

def limV (l : List Nat) (m : Nat) : Nat := 1 + l.getD 1 0 % m
def limAll (l : List Nat) (m : Nat) : Nat := 2 ^ limV l m - 1
def limFirst (l : List Nat) (m : Nat) : Nat := l.getD 2 0 &&& limAll l m
def limN (l : List Nat) : Nat := 1 + l.getD 3 0 % 10
/-- all pairs of k points -/
def prs (k : Nat) : List Nat := (List.range k).flatMap fun p => (List.range p).map fun q => 2 ^ p ||| 2 ^ q
theorem prs_succ (k : Nat) : prs (k + 1) = prs k ++ (List.range k).map fun q => 2 ^ k ||| 2 ^ q := by simp [prs, List.range_succ, List.flatMap_append]
def limRaw (l : List Nat) (m : Nat) : List Nat :=
  match l.getD 0 0 % 8 with
  | 0 | 1 => (List.range (limV l m)).map fun k => turnB (limFirst l m) (limV l m) k (limV l m)
  | 2 => prs (limV l m)
  | 3 => (List.range 7).map fun k => turnB 11 7 k 7 &&& limAll l m
  | 4 => (List.range (limN l)).map fun k => limFirst l m >>> (l.getD (4 + k) 0 % 2)
  | 5 => ((List.range (limN l)).map fun k => l.getD (4 + k) 0 &&& limAll l m).filter fun b => cnt b 64 == 3
  | _ => (List.range (limN l)).map fun k => l.getD (4 + k) 0 &&& limAll l m
def limB (l : List Nat) (m : Nat) : List Nat := sortedL ((limRaw l m).take 10)

theorem shr_form2 {a q : Nat} : ((a : Int) / 2 ^ q) = ((a >>> q : Nat) : Int) := by rw [Nat.shiftRight_eq_div_pow]; simp
theorem cast_eq3 (x : Nat) : (((x : Nat) : Int) == 3) = (x == 3) := by rw [Bool.eq_iff_iff]; simp; omega
theorem orp_form {p q : Nat} (hp : p < 64) (hq : q < 64) : bits .or .u64 (IntKind.u64.wrap (2 ^ p)) (IntKind.u64.wrap (2 ^ q)) = ((2 ^ p ||| 2 ^ q : Nat) : Int) := by
  have h1 : (2 : Nat) ^ p < 2 ^ 64 := Nat.pow_lt_pow_right (by omega) hp
  have h2 : (2 : Nat) ^ q < 2 ^ 64 := Nat.pow_lt_pow_right (by omega) hq
  rw [show ((2 : Int) ^ p) = ((2 ^ p : Nat) : Int) from by simp, show ((2 : Int) ^ q) = ((2 ^ q : Nat) : Int) from by simp, wrapU_nat h1, wrapU_nat h2, uor h1 h2]
theorem limV_bd (l : List Nat) (m : Nat) (hm1 : 1 ≤ m) : 1 ≤ limV l m ∧ limV l m ≤ m := by
  have := Nat.mod_lt (l.getD 1 0) hm1
  unfold limV
  omega
theorem limRaw_lt {l : List Nat} {m : Nat} (hm1 : 1 ≤ m) (hm7 : m ≤ 7) : ∀ b ∈ limRaw l m, b < 2 ^ limV l m := by
  have hv := limV_bd l m hm1
  have ha : limAll l m < 2 ^ limV l m := by have := Nat.two_pow_pos (limV l m); unfold limAll; omega
  have hf : limFirst l m < 2 ^ limV l m := Nat.lt_of_le_of_lt Nat.and_le_right ha
  intro b hb
  unfold limRaw at hb
  split at hb
  · simp only [List.mem_map, List.mem_range] at hb
    obtain ⟨k, _, rfl⟩ := hb
    exact turnB_lt _ _ _ _ (by omega) (by omega)
  · simp only [List.mem_map, List.mem_range] at hb
    obtain ⟨k, _, rfl⟩ := hb
    exact turnB_lt _ _ _ _ (by omega) (by omega)
  · simp only [prs, List.mem_flatMap, List.mem_map, List.mem_range] at hb
    obtain ⟨p, hp, q, hq, rfl⟩ := hb
    exact Nat.or_lt_two_pow (Nat.pow_lt_pow_right (by omega) hp) (Nat.pow_lt_pow_right (by omega) (by omega))
  · simp only [List.mem_map, List.mem_range] at hb
    obtain ⟨k, _, rfl⟩ := hb
    exact Nat.lt_of_le_of_lt Nat.and_le_right ha
  · simp only [List.mem_map, List.mem_range] at hb
    obtain ⟨k, _, rfl⟩ := hb
    exact Nat.lt_of_le_of_lt (by rw [Nat.shiftRight_eq_div_pow]; exact Nat.div_le_self _ _) hf
  · obtain ⟨hb, _⟩ := List.mem_filter.1 hb
    simp only [List.mem_map, List.mem_range] at hb
    obtain ⟨k, _, rfl⟩ := hb
    exact Nat.lt_of_le_of_lt Nat.and_le_right ha
  · simp only [List.mem_map, List.mem_range] at hb
    obtain ⟨k, _, rfl⟩ := hb
    exact Nat.lt_of_le_of_lt Nat.and_le_right ha
theorem limRaw_len {l : List Nat} {m : Nat} (hm1 : 1 ≤ m) (hm7 : m ≤ 7) : (limRaw l m).length ≤ 100 := by
  have hv := limV_bd l m hm1
  unfold limRaw
  split
  · simp; omega
  · simp; omega
  · have : ∀ k ≤ 7, (prs k).length ≤ 100 := by decide
    exact this _ (by omega)
  · simp
  · simp [limN]; omega
  · refine Nat.le_trans (List.length_filter_le _ _) ?_
    simp [limN]; omega
  · simp [limN]; omega
theorem pairs_len : ∀ k ≤ 6, (prs k).length ≤ 100 := by decide

end Go.Proofs.Ytgegjhgifeobdaa


namespace Go.Proofs.Ytgegjhgifeobdaa
set_option linter.unusedSimpArgs false
set_option linter.unusedVariables false
open Go.RowKit Go.Lib Go.Proofs.YtgegjhgifeobdaaW.PrintWords

set_option maxHeartbeats 20000000 in
set_option maxRecDepth 100000 in
theorem limited_any (A : Option Addr) (n c : Nat) (l : List Nat) (m : Nat) (hm1 : 1 ≤ m) (hm7 : m ≤ 7) (w : World) (hB : NlC .u8 256 w A n l) (hn : n < 2 ^ 63) :
    Calls Try.prog 19 #[.agg #[.slice A n c], .int .i64 m] w fun e w' => ∃ v, e = .returned (.agg #[.int .i64 (limV l m), v]) ∧
      w'.ownsRow w.heap.size 57 1 v (limB l m).length (nums .u64 (il (limB l m))) ∧ Below w.heap.size w w' := by
  have hl0 := at_lt hB.2.2 0
  have hl1 := at_lt hB.2.2 1
  have hl2 := at_lt hB.2.2 2
  have hl3 := at_lt hB.2.2 3
  obtain ⟨k0, hk0⟩ : ∃ k0, l.getD 0 0 = k0 := ⟨_, rfl⟩
  obtain ⟨k1, hk1⟩ : ∃ k0, l.getD 1 0 = k0 := ⟨_, rfl⟩
  obtain ⟨k2, hk2⟩ : ∃ k0, l.getD 2 0 = k0 := ⟨_, rfl⟩
  obtain ⟨k3, hk3⟩ : ∃ k0, l.getD 3 0 = k0 := ⟨_, rfl⟩
  rw [hk0] at hl0
  rw [hk1] at hl1
  rw [hk2] at hl2
  rw [hk3] at hl3
  have HK := hid (show l.getD (0 : Int).toNat 0 = k0 ∧ l.getD (1 : Int).toNat 0 = k1 ∧ l.getD (2 : Int).toNat 0 = k2 ∧ l.getD (3 : Int).toNat 0 = k3 from ⟨hk0, hk1, hk2, hk3⟩)
  clear hk0 hk1 hk2 hk3
  have AT := fun (i : Int) (hi : 0 ≤ i) (W : World) (hW : Below w.heap.size w W) => hid (at_any A n c l i hi W (hB.below hW) hn)
  have HV := hid (show wrap64 (1 + (k1 : Int) % (m : Int)) = ((limV l m : Nat) : Int) from by
    unfold limV; rw [show l.getD 1 0 = k1 from HK.2.1]
    have := Nat.mod_lt k1 hm1
    rw [show 1 + (k1 : Int) % (m : Int) = ((1 + k1 % m : Nat) : Int) from by simp, wrap64_nat (by omega)])
  have HAll := hid (show IntKind.u64.wrap (IntKind.u64.wrap (2 ^ min (IntKind.u64.wrap ((limV l m : Nat) : Int)).toNat 64) - 1) = ((limAll l m : Nat) : Int) from by
    have h1 := limV_bd l m hm1
    have h2 : 2 ^ limV l m < 2 ^ 64 := Nat.pow_lt_pow_right (by omega) (by omega)
    have h3 := Nat.two_pow_pos (limV l m)
    rw [shl_form (by omega), show (((2 ^ limV l m : Nat) : Int) - 1) = ((2 ^ limV l m - 1 : Nat) : Int) from by omega, wrapU_nat (by omega)]; rfl)
  have HFi := hid (show bits BinOp.and IntKind.u64 (k2 : Int) ((limAll l m : Nat) : Int) = ((limFirst l m : Nat) : Int) from by
    have h1 := limV_bd l m hm1
    have h2 : 2 ^ limV l m < 2 ^ 64 := Nat.pow_lt_pow_right (by omega) (by omega)
    rw [uand (by omega) (by unfold limAll; omega)]; unfold limFirst; rw [show l.getD 2 0 = k2 from HK.2.2.1])
  have HNn := hid (show (1 + (k3 : Int) % 10) = ((limN l : Nat) : Int) from by unfold limN; rw [show l.getD 3 0 = k3 from HK.2.2.2]; simp)
  go_enter Try.func19, Try.ntmps19
  go_wp2
  go_quiet ((first
    | (go_at_call_of 23 (Value.int .i64 0); exact Calls.quiet_of_same ((AT 0 (by decide) _ (pw_below_drewN (below_alloc (below_alloc (Below.refl _ _) _) _) _)).mono fun _ _ ⟨h, h'⟩ => ⟨by rw [h, HK.1], h'⟩))
    | (go_at_call_of 23 (Value.int .i64 1); exact Calls.quiet_of_same ((AT 1 (by decide) _ (pw_below_drewN (below_alloc (below_alloc (Below.refl _ _) _) _) _)).mono fun _ _ ⟨h, h'⟩ => ⟨by rw [h, HK.2.1], h'⟩))))
  go_upto_region 6 with (first
    | (go_at_call_of 23 (Value.int .i64 2); refine (AT 2 (by decide) _ (pw_below_drewN (below_alloc (below_alloc (Below.refl _ _) _) _) _)).mono ?_; rintro e w' ⟨h, rfl⟩; rw [HK.2.2.1] at h; subst h)
    | (go_at_call_of 23 (Value.int .i64 3); refine (AT 3 (by decide) _ (below_alloc (pw_below_drewN (below_alloc (below_alloc (Below.refl _ _) _) _) _) _)).mono ?_; rintro e w' ⟨h, rfl⟩; rw [HK.2.2.2] at h; subst h))
  go_cut [2, 4, 6, 7, 8, 9, 10, 45] from 19 to 45 (fun s2 s4 s6 s7 s8 s9 s10 s45 wc => s45 = .int .i64 ((k0 % 8 : Nat) : Int) ∧ s6 = .int .i64 (limV l m) ∧ s7 = .int .u64 (limAll l m) ∧ s8 = .int .u64 (limFirst l m) ∧ s10 = .int .i64 (limN l) ∧
    s2 = .pointer (some ⟨w.heap.size, 0, none⟩) ∧ s4 = .pointer (some ⟨w.heap.size + 1, 0, none⟩) ∧
    Blk wc w.heap.size 24 #[.slice A n c] ∧ Blk wc (w.heap.size + 1) 29 #[.int .i64 0, .slice none 0 0] ∧ wc.ownsRow w.heap.size 57 1 s9 0 [] ∧ Below w.heap.size w wc)
  case first =>
    go_wp2
    go_meet
    exact ⟨by simp, by rw [HV.out], by rw [HV.out, HAll.out], by rw [HV.out, HAll.out, HFi.out], by rw [HNn.out], rfl, rfl,
      ((((Blk.new _ _ _).alloc _).drewN _).alloc _), (((blk_of_heap (heap_new (by simp))).drewN _).alloc _), own_empty (g := w.heap.size + 1 + 1) (heap_new (by simp)) (by omega), below_alloc (pw_below_drewN (below_alloc (below_alloc (Below.refl _ _) _) _) _) _⟩
  case rest =>
    obtain ⟨rfl, rfl, rfl, rfl, rfl, rfl, rfl, hg2, hg4, hown, hbc⟩ := hcut
    have hv0 : 0 < limV l m := by unfold limV; omega
    have hv7 : limV l m ≤ 7 := by have := Nat.mod_lt (l.getD 1 0) hm1; unfold limV; omega
    have hv16 : limV l m ≤ 16 := by omega
    have hp7 : 2 ^ limV l m ≤ 2 ^ 7 := Nat.pow_le_pow_right (by omega) hv7
    have ha64 : limAll l m < 2 ^ 64 := by unfold limAll; omega
    have hf64 : limFirst l m < 2 ^ 64 := Nat.lt_of_le_of_lt Nat.and_le_right ha64
    have hn10 : limN l ≤ 10 := by unfold limN; omega
    clear hp7
    go_upto_block 0 with fail
    go_cut [9] from 11 to 152 (fun s9 wc => wc.ownsRow w.heap.size 57 1 s9 (limRaw l m).length (nums .u64 (il (limRaw l m))) ∧ Blk wc (w.heap.size + 1) 29 #[.int .i64 0, .slice none 0 0] ∧ Below w.heap.size w wc)
    case first =>
      obtain ⟨K, hK8, HK1⟩ : ∃ K, K < 8 ∧ Hid (k0 % 8 = K) := ⟨_, Nat.mod_lt _ (by decide), rfl⟩
      have HK2 := hid (show l.getD 0 0 % 8 = K from (congrArg (· % 8) HK.1).trans HK1.out)
      rw [HK1.out]
      rcases (by omega : K = 0 ∨ K = 1 ∨ K = 2 ∨ K = 3 ∨ K = 4 ∨ K = 5 ∨ K = 6 ∨ K = 7) with rfl | rfl | rfl | rfl | rfl | rfl | rfl | rfl
      · rw [show ((0 : Nat) : Int) = (0 : Int) from rfl]
        go_wp2
        go_loopw [9, 11] (fun v i wr => ∃ k : Nat, k ≤ limV l m ∧ i = .int .i64 k ∧ wr.ownsRow w.heap.size 57 1 v ((List.range (k)).map fun k => turnB (limFirst l m) (limV l m) k (limV l m)).length (nums .u64 (il ((List.range (k)).map fun k => turnB (limFirst l m) (limV l m) k (limV l m)))) ∧ Blk wr w.heap.size 24 #[.slice A n c] ∧ Blk wr (w.heap.size + 1) 29 #[.int .i64 0, .slice none 0 0] ∧ Below w.heap.size w wr) (fun _ i _ => limV l m - (intOf i).toNat)
        case atStart => exact ⟨0, by omega, rfl, hown, hg2, hg4, hbc⟩
        case round =>
          obtain ⟨k, hk, rfl, hown', hg2, hg4, hbc⟩ := hrel
          by_cases hlt : k < limV l m
          · have hle : ((List.range (k)).map fun k => turnB (limFirst l m) (limV l m) k (limV l m)).length ≤ 100 := by simp; omega

            go_wp2_with (first
              | (go_at_call 37; refine (turned_any _ _ k hf64 hv0 hv16 (by omega) _).mono ?_; rintro e w' ⟨rfl, rfl⟩)
              | (at_builtin; refine print_append_num w.heap.size rfl (.tmp 70) (.tmp 75) _ _ .u64 8 rfl Try.underlying27 infoU (by decide) u9 (il ((List.range k).map fun k => turnB (limFirst l m) (limV l m) k (limV l m))) (_) (by simp [Act.eval]) (by simp [Act.eval]) (by rw [il_length]; exact hown') (hbc) ((hbc).size) (by rw [il_length]; omega) ?_; intro v1 w1 hown1 hb1 hg1 hat1))
            go_roundw
            case rel => exact ⟨k + 1, by omega, by go_num, own_range hown1 (rfl), hg2.grown hg1 (fun e => own_blk_ne hown' hg2 (by decide) e.symm), hg4.grown hg1 (fun e => own_blk_ne hown' hg4 (by decide) e.symm), hb1⟩
            case measure => simp [intOf]; omega
          · have : k = limV l m := by omega
            subst this
            go_wp2
            go_meet
            exact ⟨by rw [show limRaw l m = (List.range (limV l m)).map fun k => turnB (limFirst l m) (limV l m) k (limV l m) from by unfold limRaw; rw [HK2.out]; first | done | rfl]; exact hown', hg4, hbc⟩
      · rw [show ((1 : Nat) : Int) = (1 : Int) from rfl]
        go_wp2
        go_loopw [9, 11] (fun v i wr => ∃ k : Nat, k ≤ limV l m ∧ i = .int .i64 k ∧ wr.ownsRow w.heap.size 57 1 v ((List.range (k)).map fun k => turnB (limFirst l m) (limV l m) k (limV l m)).length (nums .u64 (il ((List.range (k)).map fun k => turnB (limFirst l m) (limV l m) k (limV l m)))) ∧ Blk wr w.heap.size 24 #[.slice A n c] ∧ Blk wr (w.heap.size + 1) 29 #[.int .i64 0, .slice none 0 0] ∧ Below w.heap.size w wr) (fun _ i _ => limV l m - (intOf i).toNat)
        case atStart => exact ⟨0, by omega, rfl, hown, hg2, hg4, hbc⟩
        case round =>
          obtain ⟨k, hk, rfl, hown', hg2, hg4, hbc⟩ := hrel
          by_cases hlt : k < limV l m
          · have hle : ((List.range (k)).map fun k => turnB (limFirst l m) (limV l m) k (limV l m)).length ≤ 100 := by simp; omega

            go_wp2_with (first
              | (go_at_call 37; refine (turned_any _ _ k hf64 hv0 hv16 (by omega) _).mono ?_; rintro e w' ⟨rfl, rfl⟩)
              | (at_builtin; refine print_append_num w.heap.size rfl (.tmp 70) (.tmp 75) _ _ .u64 8 rfl Try.underlying27 infoU (by decide) u9 (il ((List.range k).map fun k => turnB (limFirst l m) (limV l m) k (limV l m))) (_) (by simp [Act.eval]) (by simp [Act.eval]) (by rw [il_length]; exact hown') (hbc) ((hbc).size) (by rw [il_length]; omega) ?_; intro v1 w1 hown1 hb1 hg1 hat1))
            go_roundw
            case rel => exact ⟨k + 1, by omega, by go_num, own_range hown1 (rfl), hg2.grown hg1 (fun e => own_blk_ne hown' hg2 (by decide) e.symm), hg4.grown hg1 (fun e => own_blk_ne hown' hg4 (by decide) e.symm), hb1⟩
            case measure => simp [intOf]; omega
          · have : k = limV l m := by omega
            subst this
            go_wp2
            go_meet
            exact ⟨by rw [show limRaw l m = (List.range (limV l m)).map fun k => turnB (limFirst l m) (limV l m) k (limV l m) from by unfold limRaw; rw [HK2.out]; first | done | rfl]; exact hown', hg4, hbc⟩
      · rw [show ((2 : Nat) : Int) = (2 : Int) from rfl]
        go_wp2
        go_loopw [9, 12, 13] (fun v i _ wr => ∃ k : Nat, k ≤ limV l m ∧ i = .int .i64 k ∧ wr.ownsRow w.heap.size 57 1 v (prs (k)).length (nums .u64 (il (prs (k)))) ∧ Blk wr w.heap.size 24 #[.slice A n c] ∧ Blk wr (w.heap.size + 1) 29 #[.int .i64 0, .slice none 0 0] ∧ Below w.heap.size w wr) (fun _ i _ _ => limV l m - (intOf i).toNat)
        case atStart => exact ⟨0, by omega, rfl, hown, hg2, hg4, hbc⟩
        case round =>
          obtain ⟨k, hk, rfl, hown', hg2, hg4, hbc⟩ := hrel
          by_cases hlt : k < limV l m
          · obtain ⟨wo, rfl⟩ : ∃ wo : World, wo = wr := ⟨_, rfl⟩
            have hk6 : k ≤ 6 := by omega
            have hP2 : (prs (k)).length ≤ 100 := pairs_len k hk6
            have HP2 := hid hP2
            clear hP2
            go_wp2
            go_loopw [9, 13] (fun v i wr => ∃ q : Nat, q ≤ k ∧ i = .int .i64 q ∧ wr.ownsRow w.heap.size 57 1 v ((prs (k)) ++ (List.range (q)).map fun q => 2 ^ k ||| 2 ^ q).length (nums .u64 (il ((prs (k)) ++ (List.range (q)).map fun q => 2 ^ k ||| 2 ^ q))) ∧ Blk wr w.heap.size 24 #[.slice A n c] ∧ Blk wr (w.heap.size + 1) 29 #[.int .i64 0, .slice none 0 0] ∧ Below w.heap.size w wr) (fun _ i _ => k - (intOf i).toNat)
            case atStart => exact ⟨0, by omega, rfl, by simpa using hown', hg2, hg4, hbc⟩
            case round =>
              clear hg2 hg4 hbc hown'
              obtain ⟨q, hq, rfl, hown', hg2, hg4, hbc⟩ := hrel
              by_cases hlt2 : q < k
              · have HLE := hid (show ((prs (k)) ++ (List.range (q)).map fun q => 2 ^ k ||| 2 ^ q).length ≤ 200 from by have := HP2.out; rw [List.length_append, List.length_map, List.length_range]; omega)
                go_wp2_with (at_builtin; refine print_append_num w.heap.size rfl (.tmp 89) (.tmp 97) _ _ .u64 8 rfl Try.underlying27 infoU (by decide) u9 (il ((prs (k)) ++ (List.range (q)).map fun q => 2 ^ k ||| 2 ^ q)) (_) (by simp [Act.eval]) (by simp [Act.eval]) (by rw [il_length]; exact hown') (hbc) ((hbc).size) (by rw [il_length]; have := HLE.out; omega) ?_; intro v1 w1 hown1 hb1 hg1 hat1)
                go_roundw
                case rel => exact ⟨q + 1, by omega, by go_num, own_snoc hown1 (orp_form (by omega) (by omega)) (by rw [List.range_succ, List.map_append, ← List.append_assoc]; rfl), hg2.grown hg1 (fun e => own_blk_ne hown' hg2 (by decide) e.symm), hg4.grown hg1 (fun e => own_blk_ne hown' hg4 (by decide) e.symm), hb1⟩
                case measure => simp [intOf]; omega
              · have : q = k := by omega
                subst this
                go_wp2
                go_roundw
                case rel => exact ⟨q + 1, by omega, by go_num, by rw [prs_succ]; exact hown', hg2, hg4, hbc⟩
                case measure => simp [intOf]; omega
          · have : k = limV l m := by omega
            subst this
            go_wp2
            go_meet
            exact ⟨by rw [show limRaw l m = prs (limV l m) from by unfold limRaw; rw [HK2.out]; first | done | rfl]; exact hown', hg4, hbc⟩
      · rw [show ((3 : Nat) : Int) = (3 : Int) from rfl]
        go_wp2
        go_loopw [9, 14] (fun v i wr => ∃ k : Nat, k ≤ 7 ∧ i = .int .i64 k ∧ wr.ownsRow w.heap.size 57 1 v ((List.range (k)).map fun k => turnB 11 7 k 7 &&& limAll l m).length (nums .u64 (il ((List.range (k)).map fun k => turnB 11 7 k 7 &&& limAll l m))) ∧ Blk wr w.heap.size 24 #[.slice A n c] ∧ Blk wr (w.heap.size + 1) 29 #[.int .i64 0, .slice none 0 0] ∧ Below w.heap.size w wr) (fun _ i _ => 7 - (intOf i).toNat)
        case atStart => exact ⟨0, by omega, rfl, hown, hg2, hg4, hbc⟩
        case round =>
          obtain ⟨k, hk, rfl, hown', hg2, hg4, hbc⟩ := hrel
          by_cases hlt : k < 7
          · have hle : ((List.range (k)).map fun k => turnB 11 7 k 7 &&& limAll l m).length ≤ 100 := by simp; omega

            go_wp2_with (first
              | (go_at_call 37; refine (turned_any 11 7 k (by decide) (by decide) (by decide) (by omega) _).mono ?_; rintro e w' ⟨rfl, rfl⟩)
              | (at_builtin; refine print_append_num w.heap.size rfl (.tmp 105) (.tmp 110) _ _ .u64 8 rfl Try.underlying27 infoU (by decide) u9 (il ((List.range k).map fun k => turnB 11 7 k 7 &&& limAll l m)) (_) (by simp [Act.eval]) (by simp [Act.eval]) (by rw [il_length]; exact hown') (hbc) ((hbc).size) (by rw [il_length]; omega) ?_; intro v1 w1 hown1 hb1 hg1 hat1))
            go_roundw
            case rel => exact ⟨k + 1, by omega, by go_num, own_range hown1 (uand (by have := turnB_lt 11 7 k 7 (by decide) (by decide); omega) ha64), hg2.grown hg1 (fun e => own_blk_ne hown' hg2 (by decide) e.symm), hg4.grown hg1 (fun e => own_blk_ne hown' hg4 (by decide) e.symm), hb1⟩
            case measure => simp [intOf]; omega
          · have : k = 7 := by omega
            subst this
            go_wp2
            go_meet
            exact ⟨by rw [show limRaw l m = (List.range (7)).map fun k => turnB 11 7 k 7 &&& limAll l m from by unfold limRaw; rw [HK2.out]; first | done | rfl]; exact hown', hg4, hbc⟩
      · rw [show ((4 : Nat) : Int) = (4 : Int) from rfl]
        go_wp2
        go_loopw [9, 15] (fun v i wr => ∃ k : Nat, k ≤ limN l ∧ i = .int .i64 k ∧ wr.ownsRow w.heap.size 57 1 v ((List.range (k)).map fun k => limFirst l m >>> (l.getD (4 + k) 0 % 2)).length (nums .u64 (il ((List.range (k)).map fun k => limFirst l m >>> (l.getD (4 + k) 0 % 2)))) ∧ Blk wr w.heap.size 24 #[.slice A n c] ∧ Blk wr (w.heap.size + 1) 29 #[.int .i64 0, .slice none 0 0] ∧ Below w.heap.size w wr) (fun _ i _ => limN l - (intOf i).toNat)
        case atStart => exact ⟨0, by omega, rfl, hown, hg2, hg4, hbc⟩
        case round =>
          obtain ⟨k, hk, rfl, hown', hg2, hg4, hbc⟩ := hrel
          by_cases hlt : k < limN l
          · have hle : ((List.range (k)).map fun k => limFirst l m >>> (l.getD (4 + k) 0 % 2)).length ≤ 100 := by simp; omega
            have hx := at_lt hB.2.2 (4 + k)
            obtain ⟨x, HX⟩ : ∃ x, Hid (l.getD (4 + (k : Int)).toNat 0 = x) := ⟨_, rfl⟩
            have HX' := hid (show l.getD (4 + k) 0 = x from by have := HX.out; rwa [show (4 + (k : Int)).toNat = 4 + k from by omega] at this)
            rw [HX'.out] at hx
            have hc2 : wr.cell? ⟨w.heap.size, 0, none⟩ = some (.slice A n c) := hg2.cell 0
            go_wp2_with (first
              | (go_at_call 23; refine (AT (4 + (k : Int)) (by omega) _ hbc).mono ?_; rintro e w' ⟨rfl, rfl⟩; rw [HX.out])
              | (at_builtin; refine print_append_num w.heap.size rfl (.tmp 119) (.tmp 129) _ _ .u64 8 rfl Try.underlying27 infoU (by decide) u9 (il ((List.range k).map fun k => limFirst l m >>> (l.getD (4 + k) 0 % 2))) (_) (by simp [Act.eval]) (by simp [Act.eval]) (by rw [il_length]; exact hown') (hbc) ((hbc).size) (by rw [il_length]; omega) ?_; intro v1 w1 hown1 hb1 hg1 hat1))
            go_roundw
            case rel => exact ⟨k + 1, by omega, by go_num, own_range hown1 (by rw [HX'.out]; exact shr_form2), hg2.grown hg1 (fun e => own_blk_ne hown' hg2 (by decide) e.symm), hg4.grown hg1 (fun e => own_blk_ne hown' hg4 (by decide) e.symm), hb1⟩
            case measure => simp [intOf]; omega
          · have : k = limN l := by omega
            subst this
            go_wp2
            go_meet
            exact ⟨by rw [show limRaw l m = (List.range (limN l)).map fun k => limFirst l m >>> (l.getD (4 + k) 0 % 2) from by unfold limRaw; rw [HK2.out]; first | done | rfl]; exact hown', hg4, hbc⟩
      · rw [show ((5 : Nat) : Int) = (5 : Int) from rfl]
        go_wp2
        go_loopw [9, 16] (fun v i wr => ∃ k : Nat, k ≤ limN l ∧ i = .int .i64 k ∧ wr.ownsRow w.heap.size 57 1 v (((List.range (k)).map fun k => l.getD (4 + k) 0 &&& limAll l m).filter fun b => cnt b 64 == 3).length (nums .u64 (il (((List.range (k)).map fun k => l.getD (4 + k) 0 &&& limAll l m).filter fun b => cnt b 64 == 3))) ∧ Blk wr w.heap.size 24 #[.slice A n c] ∧ Blk wr (w.heap.size + 1) 29 #[.int .i64 0, .slice none 0 0] ∧ Below w.heap.size w wr) (fun _ i _ => limN l - (intOf i).toNat)
        case atStart => exact ⟨0, by omega, rfl, hown, hg2, hg4, hbc⟩
        case round =>
          obtain ⟨k, hk, rfl, hown', hg2, hg4, hbc⟩ := hrel
          by_cases hlt : k < limN l
          · have hle : (((List.range (k)).map fun k => l.getD (4 + k) 0 &&& limAll l m).filter fun b => cnt b 64 == 3).length ≤ 100 := by have := List.length_filter_le (fun b => cnt b 64 == 3) ((List.range k).map fun k => l.getD (4 + k) 0 &&& limAll l m); simp at this ⊢; omega
            have hx := at_lt hB.2.2 (4 + k)
            obtain ⟨x, HX⟩ : ∃ x, Hid (l.getD (4 + (k : Int)).toNat 0 = x) := ⟨_, rfl⟩
            have HX' := hid (show l.getD (4 + k) 0 = x from by have := HX.out; rwa [show (4 + (k : Int)).toNat = 4 + k from by omega] at this)
            rw [HX'.out] at hx
            have hc2 : wr.cell? ⟨w.heap.size, 0, none⟩ = some (.slice A n c) := hg2.cell 0
            have hxa : x &&& limAll l m < 2 ^ 64 := Nat.lt_of_le_of_lt Nat.and_le_right ha64
            have HF := hid (show ((List.range (k + 1)).map fun k => l.getD (4 + k) 0 &&& limAll l m) = ((List.range k).map fun k => l.getD (4 + k) 0 &&& limAll l m) ++ [x &&& limAll l m] from by rw [List.range_succ]; simp only [List.map_append, List.map_cons, List.map_nil, HX'.out])
            have HA := hid (uand (a := x) (b := limAll l m) (by omega) ha64)
            cases h3 : cnt (x &&& limAll l m) 64 == 3
            all_goals
              have H3 := hid h3
              have h3' : (((cnt (x &&& limAll l m) 64 : Nat) : Int) == 3) = _ := (cast_eq3 _).trans h3
              clear h3
              go_wp2_with (first
                | (go_at_call 23; refine (AT (4 + (k : Int)) (by omega) _ hbc).mono ?_; rintro e w' ⟨rfl, rfl⟩; rw [HX.out])
                | (go_at_call 38; rw [HA.out]; refine (size_any _ hxa _).mono ?_; rintro e w' ⟨rfl, rfl⟩)
                | (at_builtin; refine print_append_num w.heap.size rfl (.tmp 149) (.tmp 151) _ _ .u64 8 rfl Try.underlying27 infoU (by decide) u9 (il (((List.range (k)).map fun k => l.getD (4 + k) 0 &&& limAll l m).filter fun b => cnt b 64 == 3)) (_) (by simp [Act.eval]) (by simp [Act.eval]) (by rw [il_length]; exact hown') (hbc) ((hbc).size) (by rw [il_length]; omega) ?_; intro v1 w1 hown1 hb1 hg1 hat1))
              go_roundw
              case measure => simp [intOf]; omega
              case rel => first | exact ⟨k + 1, by omega, by go_num, by rw [HF.out, List.filter_append]; simpa [H3.out] using hown', hg2, hg4, hbc⟩ | exact ⟨k + 1, by omega, by go_num, own_snoc (x := x &&& limAll l m) hown1 (by first | rfl | exact HA.out) (by rw [HF.out, List.filter_append]; simp [H3.out]), hg2.grown hg1 (fun e => own_blk_ne hown' hg2 (by decide) e.symm), hg4.grown hg1 (fun e => own_blk_ne hown' hg4 (by decide) e.symm), hb1⟩
          · have : k = limN l := by omega
            subst this
            go_wp2
            go_meet
            exact ⟨by rw [show limRaw l m = ((List.range (limN l)).map fun k => l.getD (4 + k) 0 &&& limAll l m).filter fun b => cnt b 64 == 3 from by unfold limRaw; rw [HK2.out]; first | done | rfl]; exact hown', hg4, hbc⟩
      · rw [show ((6 : Nat) : Int) = (6 : Int) from rfl]
        go_wp2
        go_loopw [9, 18] (fun v i wr => ∃ k : Nat, k ≤ limN l ∧ i = .int .i64 k ∧ wr.ownsRow w.heap.size 57 1 v ((List.range (k)).map fun k => l.getD (4 + k) 0 &&& limAll l m).length (nums .u64 (il ((List.range (k)).map fun k => l.getD (4 + k) 0 &&& limAll l m))) ∧ Blk wr w.heap.size 24 #[.slice A n c] ∧ Blk wr (w.heap.size + 1) 29 #[.int .i64 0, .slice none 0 0] ∧ Below w.heap.size w wr) (fun _ i _ => limN l - (intOf i).toNat)
        case atStart => exact ⟨0, by omega, rfl, hown, hg2, hg4, hbc⟩
        case round =>
          obtain ⟨k, hk, rfl, hown', hg2, hg4, hbc⟩ := hrel
          by_cases hlt : k < limN l
          · have hle : ((List.range (k)).map fun k => l.getD (4 + k) 0 &&& limAll l m).length ≤ 100 := by simp; omega
            have hx := at_lt hB.2.2 (4 + k)
            obtain ⟨x, HX⟩ : ∃ x, Hid (l.getD (4 + (k : Int)).toNat 0 = x) := ⟨_, rfl⟩
            have HX' := hid (show l.getD (4 + k) 0 = x from by have := HX.out; rwa [show (4 + (k : Int)).toNat = 4 + k from by omega] at this)
            rw [HX'.out] at hx
            have hc2 : wr.cell? ⟨w.heap.size, 0, none⟩ = some (.slice A n c) := hg2.cell 0
            go_wp2_with (first
              | (go_at_call 23; refine (AT (4 + (k : Int)) (by omega) _ hbc).mono ?_; rintro e w' ⟨rfl, rfl⟩; rw [HX.out])
              | (at_builtin; refine print_append_num w.heap.size rfl (.tmp 51) (.tmp 60) _ _ .u64 8 rfl Try.underlying27 infoU (by decide) u9 (il ((List.range k).map fun k => l.getD (4 + k) 0 &&& limAll l m)) (_) (by simp [Act.eval]) (by simp [Act.eval]) (by rw [il_length]; exact hown') (hbc) ((hbc).size) (by rw [il_length]; omega) ?_; intro v1 w1 hown1 hb1 hg1 hat1))
            go_roundw
            case rel => exact ⟨k + 1, by omega, by go_num, own_range hown1 (by rw [HX'.out]; exact uand (by omega) ha64), hg2.grown hg1 (fun e => own_blk_ne hown' hg2 (by decide) e.symm), hg4.grown hg1 (fun e => own_blk_ne hown' hg4 (by decide) e.symm), hb1⟩
            case measure => simp [intOf]; omega
          · have : k = limN l := by omega
            subst this
            go_wp2
            go_meet
            exact ⟨by rw [show limRaw l m = (List.range (limN l)).map fun k => l.getD (4 + k) 0 &&& limAll l m from by unfold limRaw; rw [HK2.out]; first | done | rfl]; exact hown', hg4, hbc⟩
      · rw [show ((7 : Nat) : Int) = (7 : Int) from rfl]
        go_wp2
        go_loopw [9, 18] (fun v i wr => ∃ k : Nat, k ≤ limN l ∧ i = .int .i64 k ∧ wr.ownsRow w.heap.size 57 1 v ((List.range (k)).map fun k => l.getD (4 + k) 0 &&& limAll l m).length (nums .u64 (il ((List.range (k)).map fun k => l.getD (4 + k) 0 &&& limAll l m))) ∧ Blk wr w.heap.size 24 #[.slice A n c] ∧ Blk wr (w.heap.size + 1) 29 #[.int .i64 0, .slice none 0 0] ∧ Below w.heap.size w wr) (fun _ i _ => limN l - (intOf i).toNat)
        case atStart => exact ⟨0, by omega, rfl, hown, hg2, hg4, hbc⟩
        case round =>
          obtain ⟨k, hk, rfl, hown', hg2, hg4, hbc⟩ := hrel
          by_cases hlt : k < limN l
          · have hle : ((List.range (k)).map fun k => l.getD (4 + k) 0 &&& limAll l m).length ≤ 100 := by simp; omega
            have hx := at_lt hB.2.2 (4 + k)
            obtain ⟨x, HX⟩ : ∃ x, Hid (l.getD (4 + (k : Int)).toNat 0 = x) := ⟨_, rfl⟩
            have HX' := hid (show l.getD (4 + k) 0 = x from by have := HX.out; rwa [show (4 + (k : Int)).toNat = 4 + k from by omega] at this)
            rw [HX'.out] at hx
            have hc2 : wr.cell? ⟨w.heap.size, 0, none⟩ = some (.slice A n c) := hg2.cell 0
            go_wp2_with (first
              | (go_at_call 23; refine (AT (4 + (k : Int)) (by omega) _ hbc).mono ?_; rintro e w' ⟨rfl, rfl⟩; rw [HX.out])
              | (at_builtin; refine print_append_num w.heap.size rfl (.tmp 51) (.tmp 60) _ _ .u64 8 rfl Try.underlying27 infoU (by decide) u9 (il ((List.range k).map fun k => l.getD (4 + k) 0 &&& limAll l m)) (_) (by simp [Act.eval]) (by simp [Act.eval]) (by rw [il_length]; exact hown') (hbc) ((hbc).size) (by rw [il_length]; omega) ?_; intro v1 w1 hown1 hb1 hg1 hat1))
            go_roundw
            case rel => exact ⟨k + 1, by omega, by go_num, own_range hown1 (by rw [HX'.out]; exact uand (by omega) ha64), hg2.grown hg1 (fun e => own_blk_ne hown' hg2 (by decide) e.symm), hg4.grown hg1 (fun e => own_blk_ne hown' hg4 (by decide) e.symm), hb1⟩
            case measure => simp [intOf]; omega
          · have : k = limN l := by omega
            subst this
            go_wp2
            go_meet
            exact ⟨by rw [show limRaw l m = (List.range (limN l)).map fun k => l.getD (4 + k) 0 &&& limAll l m from by unfold limRaw; rw [HK2.out]; first | done | rfl]; exact hown', hg4, hbc⟩
    case rest =>
      clear hg2 hg4 hown hbc
      obtain ⟨hown, hg4, hbc⟩ := hcut
      have hlt64 : ∀ b ∈ limRaw l m, b < 2 ^ 64 := fun b hb => Nat.lt_of_lt_of_le (limRaw_lt hm1 hm7 b hb) (Nat.pow_le_pow_right (by omega) (by omega))
      obtain ⟨A1, c1, rfl, hc1, hm1', hB1⟩ := own_BlC hown hlt64
      have HLen := hid (limRaw_len (l := l) hm1 hm7)
      have hg5 := hg4.lt
      have HO := hid hown
      have HL64 := hid hlt64
      clear hown hlt64
      obtain ⟨N, HN⟩ : ∃ N, Hid ((limRaw l m).length = N) := ⟨_, rfl⟩
      rw [HN.out] at hB1 hc1 ⊢
      have SO := fun (k : Nat) (hk : k ≤ N) => hid (sorted_any A1 k c1 _ wc (NlC.take hB1 hk) (by have := HLen.out; rw [HN.out] at this; omega))
      have FIN : ∀ (k : Nat) (v : Value) (w' : World), (k = 10 ∨ k = N ∧ N ≤ 10) → k ≤ N → w'.ownsRow wc.heap.size 57 1 v k (nums .u64 (il (sortedL ((limRaw l m).take k)))) → Below wc.heap.size wc w' →
          Hid (((w'.setCell ⟨w.heap.size + 1, 0, none⟩ (.int .i64 (limV l m))).setCell ⟨w.heap.size + 1, 1, none⟩ v).ownsRow w.heap.size 57 1 v (limB l m).length (nums .u64 (il (limB l m))) ∧ Below w.heap.size w ((w'.setCell ⟨w.heap.size + 1, 0, none⟩ (.int .i64 (limV l m))).setCell ⟨w.heap.size + 1, 1, none⟩ v)) := by
        intro k v w' hk0 hkN ho hb
        have hk := hid (show (limRaw l m).take k = (limRaw l m).take 10 from by
          rcases hk0 with rfl | ⟨rfl, h10⟩
          · rfl
          · rw [List.take_of_length_le (by rw [HN.out]; omega), List.take_of_length_le (by rw [HN.out]; omega)])
        have hne : some (w.heap.size + 1) ≠ v.ownBlock := fun e => by have := own_base ho _ e.symm; omega
        have hl : k = (limB l m).length := by
          unfold limB; rw [sortedL_length, ← hk.out, List.length_take, HN.out]; omega
        refine ⟨?_, ((below_then hbc hbc.size hb).setCell (p := ⟨w.heap.size + 1, 0, none⟩) (by simp) _).setCell (p := ⟨w.heap.size + 1, 1, none⟩) (by simp) _⟩
        have h2 := own_setCell (own_setCell ho (p := ⟨w.heap.size + 1, 0, none⟩) hne (.int .i64 (limV l m))) (p := ⟨w.heap.size + 1, 1, none⟩) hne v
        rw [← hl]
        unfold limB
        rw [← hk.out]
        exact own_weaken h2 hbc.size
      have hgN : N ≤ 100 := by have := HLen.out; rwa [HN.out] at this
      rcases Nat.lt_or_ge 10 N with h10 | h10
      · have hu31 := Try.underlying29
        go_wp2_with (go_at_call 39; ((with_reducible refine (SO 10 (Nat.le_of_lt h10)).out.mono ?_); rintro e w' ⟨v, rfl, hown1, hb1⟩; obtain ⟨A3, c3, rfl⟩ := own_slice hown1; have hq := hg4.below hb1 hg5; have hq0 : w'.cell? ⟨w.heap.size + 1, 0, none⟩ = some (.int .i64 0) := hq.cell 0; have hq1 : w'.cell? ⟨w.heap.size + 1, 1, none⟩ = some (.slice none 0 0) := hq.cell 1; have hf0 := hq.frozen 0; have hf1 := hq.frozen 1; have hsz := hb1.size; have HF := FIN 10 _ w' (by omega) (Nat.le_of_lt h10) hown1 hb1; clear hown1 hb1 hq))
        refine bodyPost_ret (v := .agg #[.int .i64 (limV l m), .slice A3 10 c3]) (by simp [results, Try.results19, go_sem, hq0, hq1, hf0, hf1]) rfl ⟨_, rfl, HF.out⟩
      · have hu31 := Try.underlying29
        go_wp2_with (go_at_call 39; ((with_reducible refine (SO N (Nat.le_refl _)).out.mono ?_); rintro e w' ⟨v, rfl, hown1, hb1⟩; obtain ⟨A3, c3, rfl⟩ := own_slice hown1; have hq := hg4.below hb1 hg5; have hq0 : w'.cell? ⟨w.heap.size + 1, 0, none⟩ = some (.int .i64 0) := hq.cell 0; have hq1 : w'.cell? ⟨w.heap.size + 1, 1, none⟩ = some (.slice none 0 0) := hq.cell 1; have hf0 := hq.frozen 0; have hf1 := hq.frozen 1; have hsz := hb1.size; have HF := FIN N _ w' (by omega) (Nat.le_refl _) hown1 hb1; clear hown1 hb1 hq))
        refine bodyPost_ret (v := .agg #[.int .i64 (limV l m), .slice A3 N c3]) (by simp [results, Try.results19, go_sem, hq0, hq1, hf0, hf1]) rfl ⟨_, rfl, HF.out⟩
end Go.Proofs.Ytgegjhgifeobdaa


namespace Go.Proofs.Ytgegjhgifeobdaa
set_option linter.unusedSimpArgs false
set_option linter.unusedVariables false
open Go.RowKit Go.Lib Go.Shelf Go.Proofs.YtgegjhgifeobdaaW.PrintWords
attribute [local go_sem] Oper.semAt_some

/-- What a round keeps of the iterator's own cells: all cells from block B on. -/
def KC (B : Nat) (W W' : World) : Prop := W.heap.size ≤ W'.heap.size ∧ ∀ k c t f, B ≤ k → W.heap[k]? = some (.cells c t f) → W'.heap[k]? = some (.cells c t f)
theorem KC.refl (B : Nat) (W : World) : KC B W W := ⟨Nat.le_refl _, fun _ _ _ _ _ h => h⟩
theorem KC.trans {B : Nat} {X Y Z : World} (h : KC B X Y) (k : KC B Y Z) : KC B X Z := ⟨Nat.le_trans h.1 k.1, fun j c t f hj hc => k.2 j c t f hj (h.2 j c t f hj hc)⟩
theorem KC.of_grown {B : Nat} {W W' : World} {row : Option Nat} (h : W.grownBy W' row) (hr : ∀ r, row = some r → r < B) : KC B W W' :=
  ⟨h.size, fun k c t f hk hc => (h.block k (by
    rcases Nat.lt_or_ge k W.heap.size with h1 | h1
    · exact h1
    · rw [Array.getElem?_eq_none h1] at hc; cases hc) (fun e => by have := hr k e.symm; omega)).trans hc⟩
theorem KC.of_below {B : Nat} {W W' : World} (h : Below W.heap.size W W') : KC B W W' := KC.of_grown (row := none) (grown_of_below h none) (by rintro r ⟨⟩)
theorem KC.set {B : Nat} (W : World) {p : Addr} (h : p.block < B) (v : Value) : KC B W (W.setCell p v) :=
  ⟨by simp [World.setCell], fun k c t f hk hc => (Below.heap_setCell W p v k (by omega)).trans hc⟩
theorem KC.put {B : Nat} {W : World} {l : Nat} {o o' : Obj} (hl : W.heap[l]? = some o) (ho : o.isCells = false) : KC B W (W.putObj l o') :=
  ⟨by simp, fun k c t f _ hc => by
    rw [World.putObj_heap_other (fun e => by subst e; rw [hl] at hc; cases hc; simp [Obj.isCells] at ho)]
    exact hc⟩
theorem KC.cell {B b o : Nat} {v : Value} {W W' : World} (h : KC B W W') (hb : B ≤ b) (hc : W.cell? ⟨b, o, none⟩ = some v) : W'.cell? ⟨b, o, none⟩ = some v := by
  unfold World.cell? at hc ⊢
  dsimp only at hc ⊢
  split at hc
  · rename_i c e f hh
    rw [h.2 b c e f hb hh]
    exact hc
  · cases hc
theorem room_of_none {F : Fence} (hd : F.depth = none) (k : Nat) : F.room k := fun d h => by rw [hd] at h; cases h
theorem RoundIn.anyDepth {F : Fence} (hd : F.depth = none) {m m' : Nat} {P : Program} {l : Nat} {f : FuncId} {tmps : Array Value} {assign body : Code} {w : World} {R : Ending → World → Prop}
    (h : RoundIn F m P l f tmps assign body w R) : RoundIn F m' P l f tmps assign body w R := ⟨h.1, fun c cs _ => h.2 c cs (room_of_none hd _)⟩
theorem YieldAt.anyDepth {F : Fence} (hd : F.depth = none) {m : Nat} (m' : Nat) {P : Program} {l : Nat} {args : Array Value} {W : World} {R : Ending → World → Prop} (h : YieldAt F m P l args W R) : YieldAt F m' P l args W R := by
  obtain ⟨fn, tmps, assign, body, hy, hR⟩ := h
  exact ⟨fn, tmps, assign, body, hy, RoundIn.anyDepth hd hR⟩
theorem grown_drew (W : World) : W.grownBy W.drew none := ⟨rfl, rfl, rfl, Nat.le_refl _, fun _ _ _ => rfl⟩

theorem below_put {B D : Nat} {w W : World} {o : Obj} (h : Below B w W) (hD : B ≤ D) : Below B w (W.putObj D o) :=
  ⟨h.os, h.tape, h.output, by simpa using h.size, fun k hk => (World.putObj_heap_other (by omega)).trans (h.block k hk)⟩
theorem cell_put {W : World} {D : Nat} {o o' : Obj} {a : Addr} {v : Value} (hD : W.heap[D]? = some o) (ho : o.isCells = false) (h : W.cell? a = some v) : (W.putObj D o').cell? a = some v :=
  cell_kept h (grownBy_putObj' W D o') (fun r e => by cases e; exact ⟨o, hD, ho⟩)
theorem deferred_set {W : World} {D : Nat} {ds : Option (List Deferred)} {p : Addr} (v : Value) (hD : W.heap[D]? = some (.deferred ds)) (hp : p.block ≠ D) : (W.setCell p v).heap[D]? = some (.deferred ds) :=
  (Below.heap_setCell W p v D (fun e => hp e.symm)).trans hD
theorem calls_marks {P : Program} {f : FuncId} {fn : Func} {c : Code} {args : Array Value} {w : World} {R : Ending → World → Prop} (n : Nat) (hf : P.funcs[f]? = some fn) (hb : fn.body = some c)
    (h : c.wp P (bodyPostM Fence.wide n P fn R) { tmps := args ++ Array.replicate (fn.ntmps - args.size) undef, defers := [] } w) : Calls P f args w R :=
  callsIn_wide.1 (callsIn_of_wp_marks (n := n) hf hb trivial (wpIn_wide.2 h) rfl)
theorem m_ret1 {P : Program} {fn : Func} {n D : Nat} {R : Ending → World → Prop} {a : Act} {w : World} {v : Value} (hd : a.defers = [{ target := .collected D, args := #[] }]) (hD : w.heap[D]? = some (.deferred (some [])))
    (hr : (results fn a.tmps).run P (w.putObj D (.deferred none)) = .ok v (w.putObj D (.deferred none))) (h : R (.returned v) (w.putObj D (.deferred none))) : bodyPostM Fence.wide n P fn R .ret a w := by
  show LeavesInM Fence.wide n P fn a.tmps R a.defers .returning w
  rw [hd]
  exact ⟨by simp, .inl ⟨_, _, rfl, run_takeDeferred hD, v, hr, h⟩⟩
end Go.Proofs.Ytgegjhgifeobdaa


namespace Go.Proofs.Ytgegjhgifeobdaa
set_option linter.unusedSimpArgs false
set_option linter.unusedVariables false
open Go.RowKit Go.Lib Go.Shelf Go.Proofs.YtgegjhgifeobdaaW.PrintWords

/-- A call of f yields just xs, in this order, to whatever loop whose rounds keep Kp; `mk` lays the loop's yield among the arguments. -/
def Iter {α : Type} (P : Program) (f : FuncId) (mk : Value → Array Value) (encs : α → Array Value) (Kp : World → World → Prop) (xs : List α) (w : World) : Prop :=
  ∀ (l : Nat) (J Jx : List α → World → Prop) (W : World), Below w.heap.size w W → OwnFrom W.heap.size J → OwnFrom W.heap.size Jx →
    (∀ m pre x W1, pre ++ [x] <+: xs → J pre W1 → YieldAt Fence.wide m P l (encs x) W1 fun e W' =>
      (e = .returned (.bool true) ∧ J (pre ++ [x]) W' ∧ Kp W1 W') ∨ (e = .returned (.bool false) ∧ Jx (pre ++ [x]) W')) →
    J [] W →
    Calls P f (mk (.func (.yield l) #[] #[])) W fun e W' => (∃ v, e = .returned v) ∧ (J xs W' ∨ ∃ pre, pre <+: xs ∧ Jx pre W')

/-- The same, for a walk that begins behind the loop's own two objects. -/
def Iter2 {α : Type} (P : Program) (f : FuncId) (mk : Value → Array Value) (encs : α → Array Value) (Kp Kx : World → World → Prop) (xs : List α) (w : World) : Prop :=
  ∀ (l : Nat) (J Jx : List α → World → Prop) (W : World), Below w.heap.size w W → w.heap.size + 2 ≤ W.heap.size → OwnFrom W.heap.size J → OwnFrom W.heap.size Jx →
    (∀ m pre x W1, pre ++ [x] <+: xs → J pre W1 → YieldAt Fence.wide m P l (encs x) W1 fun e W' =>
      (e = .returned (.bool true) ∧ J (pre ++ [x]) W' ∧ Kp W1 W') ∨ (e = .returned (.bool false) ∧ Jx (pre ++ [x]) W' ∧ Kx W1 W')) →
    J [] W →
    Calls P f (mk (.func (.yield l) #[] #[])) W fun e W' => (∃ v, e = .returned v) ∧ (J xs W' ∨ ∃ pre, pre <+: xs ∧ Jx pre W')
theorem Iter.two {α : Type} {P : Program} {f : FuncId} {mk : Value → Array Value} {encs : α → Array Value} {Kp : World → World → Prop} {xs : List α} {w : World} (h : Iter P f mk encs Kp xs w) : Iter2 P f mk encs Kp (fun _ _ => True) xs w :=
  fun l J Jx W hb _ hJ hJx hY h0 => h l J Jx W hb hJ hJx (fun m pre x W1 hp hj => by
    obtain ⟨fn, tmps, assign, body, hy, hR⟩ := hY m pre x W1 hp hj
    exact ⟨fn, tmps, assign, body, hy, RoundIn.mono hR (fun e W' hh => hh.imp id (fun ⟨a, b, _⟩ => ⟨a, b⟩))⟩) h0

theorem KC.keeps {B : Nat} {W W' : World} {p : World → Prop} (h : KC B W W') (hp : p W → p W') : KC B W W' ∧ (p W → p W') := ⟨h, hp⟩

/-- The marks that several loops over functions have left, taken up at the function's end. -/
def putAll (W : World) (ds : List Nat) : World := ds.foldl (fun W D => W.putObj D (.deferred none)) W
def marks (ds : List Nat) : List Deferred := ds.map fun D => { target := .collected D, args := #[] }
def Marked (B : Nat) (ds : List Nat) (W : World) : Prop := ds.Nodup ∧ ∀ D ∈ ds, B ≤ D ∧ W.heap[D]? = some (.deferred (some []))
theorem Marked.nil (B : Nat) (W : World) : Marked B [] W := ⟨List.nodup_nil, by simp⟩
theorem Marked.put {B D : Nat} {ds : List Nat} {W : World} (h : Marked B (D :: ds) W) : Marked B ds (W.putObj D (.deferred none)) := by
  obtain ⟨hn, hm⟩ := h
  obtain ⟨hD, hn⟩ := List.nodup_cons.1 hn
  exact ⟨hn, fun E hE => ⟨(hm E (by simp [hE])).1, (World.putObj_heap_other (fun e => by subst e; exact hD hE)).trans (hm E (by simp [hE])).2⟩⟩
theorem Marked.grown {B : Nat} {ds : List Nat} {W W' : World} {row : Option Nat} (h : Marked B ds W) (hg : W.grownBy W' row) (hr : ∀ r, row = some r → ∃ o : Obj, W.heap[r]? = some o ∧ o.isCells = true) : Marked B ds W' :=
  ⟨h.1, fun D hD => ⟨(h.2 D hD).1, (hg.block D (blk_lt (h.2 D hD).2) (fun e => by
    obtain ⟨o, ho, hc⟩ := hr D e.symm
    rw [(h.2 D hD).2] at ho
    cases ho
    cases hc)).trans (h.2 D hD).2⟩⟩
end Go.Proofs.Ytgegjhgifeobdaa


namespace Go.Proofs.Ytgegjhgifeobdaa
set_option linter.unusedSimpArgs false
set_option linter.unusedVariables false
open Go.RowKit Go.Lib Go.Proofs.YtgegjhgifeobdaaW.PrintWords

-- sorted lists
theorem withL_sorted {b : Nat} : ∀ {bs : List Nat}, bs.Pairwise (· ≤ ·) → (withL bs b).Pairwise (· ≤ ·)
  | [], _ => by simp [withL, wat]
  | x :: r, h => by
    obtain ⟨h1, h2⟩ := List.pairwise_cons.1 h
    by_cases hx : x ≤ b
    · have e : withL (x :: r) b = x :: withL r b := by
        unfold withL wat
        rw [List.takeWhile_cons, if_pos (by simpa using hx)]
        simp
      rw [e]
      refine List.pairwise_cons.2 ⟨fun y hy => ?_, withL_sorted h2⟩
      rcases withL_mem.1 hy with rfl | hy
      · exact hx
      · exact h1 y hy
    · have e : withL (x :: r) b = b :: x :: r := by
        unfold withL wat
        rw [List.takeWhile_cons, if_neg (by simpa using hx)]
        simp
      rw [e]
      refine List.pairwise_cons.2 ⟨fun y hy => ?_, h⟩
      rcases List.mem_cons.1 hy with rfl | hy
      · omega
      · have := h1 y hy; omega
theorem sortedL_sorted (l : List Nat) : (sortedL l).Pairwise (· ≤ ·) := by
  have : ∀ (l acc : List Nat), acc.Pairwise (· ≤ ·) → (l.foldl withL acc).Pairwise (· ≤ ·) := by
    intro l
    induction l with
    | nil => intro acc h; exact h
    | cons x r ih => intro acc h; exact ih _ (withL_sorted h)
  exact this l [] List.Pairwise.nil
-- a number that goes down through a sorted list
def insIn (S : List Nat) (x j : Nat) : List Nat := S.take j ++ x :: S.drop j
theorem insIn_at {S R : List Nat} {x j : Nat} (h : j ≤ S.length) : (insIn S x j ++ R).getD j 0 = x := by
  simp [insIn, List.getD_eq_getElem?_getD, List.append_assoc, List.getElem?_append_right, h]
theorem insIn_parts {S : List Nat} {x p : Nat} (h : p < S.length) : insIn S x (p + 1) = S.take p ++ S.getD p 0 :: x :: S.drop (p + 1) ∧ insIn S x p = S.take p ++ x :: S.getD p 0 :: S.drop (p + 1) := by
  have e : S.getD p 0 = S[p] := by simp [List.getD_eq_getElem?_getD, h]
  unfold insIn
  rw [e]
  constructor
  · rw [List.take_succ_eq_append_getElem h, List.append_assoc]; rfl
  · rw [List.drop_eq_getElem_cons h]
theorem insIn_prev {S R : List Nat} {x p : Nat} (h : p < S.length) : (insIn S x (p + 1) ++ R).getD p 0 = S.getD p 0 := by
  rw [(insIn_parts h).1]
  have : (S.take p).length = p := by simp; omega
  simp [List.getD_eq_getElem?_getD, List.getElem?_append_right, this]
theorem insIn_swap {S R : List Nat} {x p : Nat} (h : p < S.length) : ((insIn S x (p + 1) ++ R).set (p + 1) (S.getD p 0)).set p x = insIn S x p ++ R := by
  rw [(insIn_parts h).1, (insIn_parts h).2]
  have : (S.take p).length = p := by simp; omega
  rw [List.append_assoc, List.append_assoc, List.set_append_right _ _ (by omega), List.set_append_right _ _ (by omega), this, Nat.sub_self, show p + 1 - p = 1 by omega]
  rfl
theorem insIn_stop {S : List Nat} {x j : Nat} (hs : S.Pairwise (· ≤ ·)) (hj : j ≤ S.length) (hd : ∀ y ∈ S.drop j, x < y) (h : j = 0 ∨ S.getD (j - 1) 0 ≤ x) : insIn S x j = withL S x := by
  have hw : wat S x = j := by
    have ht : ∀ y ∈ S.take j, decide (y ≤ x) = true := by
      intro y hy
      rcases h with rfl | h
      · simp at hy
      · rw [List.mem_iff_getElem] at hy
        obtain ⟨i, hi, rfl⟩ := hy
        have hi' : i < j ∧ i < S.length := by simp at hi; omega
        simp only [List.getElem_take]
        have e : S.getD (j - 1) 0 = S[j - 1]'(by omega) := by simp [List.getD_eq_getElem?_getD, show j - 1 < S.length by omega]
        rw [e] at h
        have := List.pairwise_iff_getElem.1 hs
        rcases Nat.lt_or_ge i (j - 1) with h1 | h1
        · have := this i (j - 1) (by omega) (by omega) h1
          simp; omega
        · have e2 : i = j - 1 := by omega
          subst e2
          simpa using h
    unfold wat
    conv => lhs; rw [← List.take_append_drop j S, List.takeWhile_append_of_pos ht]
    have : List.takeWhile (fun y => decide (y ≤ x)) (S.drop j) = [] := by
      cases hc : S.drop j with
      | nil => rfl
      | cons y r =>
        have := hd y (by rw [hc]; simp)
        rw [List.takeWhile_cons, if_neg (by simp; omega)]
    rw [this]; simp; omega
  unfold insIn withL
  rw [hw]; simp
theorem insIn_end (S : List Nat) (x : Nat) : insIn S x S.length = S ++ [x] := by simp [insIn]
theorem il_set (l : List Nat) (i x : Nat) : (il l).set i (x : Int) = il (l.set i x) := by simp [il, List.map_set]
theorem sorted_start {bs : List Nat} : sortedL (bs.take 1) ++ bs.drop 1 = bs := by
  cases bs with
  | nil => rfl
  | cons x r => simp [sortedL, withL, wat]
end Go.Proofs.Ytgegjhgifeobdaa


namespace Go.Proofs.Ytgegjhgifeobdaa
set_option linter.unusedSimpArgs false
set_option linter.unusedVariables false
open Go.RowKit Go.Lib Go.Proofs.YtgegjhgifeobdaaW.PrintWords
attribute [local go_sem] Oper.semAt_some

theorem own_storeUI {W : World} {base g n cap : Nat} {e : TypeId} {bs : List Nat} (h : W.ownsRow base e 1 (.slice (some ⟨g, 0, none⟩) n cap) n (nums .i64 (il bs))) (i x : Nat) :
    (W.setCell ⟨g, i, none⟩ (.int .i64 x)).ownsRow base e 1 (.slice (some ⟨g, 0, none⟩) n cap) n (nums .i64 (il (bs.set i x))) ∧ W.grownBy (W.setCell ⟨g, i, none⟩ (.int .i64 x)) (some g) := by
  have hs := h.stored i (.int .i64 x)
  have he : (nums .i64 (il bs)).set i (.int .i64 x) = nums .i64 (il (bs.set i x)) := by rw [← il_set]; simp [nums, List.map_set]
  rwa [he] at hs
theorem own_atUI {W : World} {base g n cap : Nat} {e : TypeId} {bs : List Nat} (h : W.ownsRow base e 1 (.slice (some ⟨g, 0, none⟩) n cap) n (nums .i64 (il bs))) {i : Nat} (hi : i < n) :
    W.cell? ⟨g, i, none⟩ = some (.int .i64 ((bs.getD i 0 : Nat) : Int)) ∧ W.frozen? ⟨g, i, none⟩ = false := by
  have hl : n = bs.length := by have := h.1; simp [nums, il] at this; omega
  obtain ⟨h1, h2⟩ := own_at h (i : Int) (by omega) (by omega)
  rw [Int.toNat_natCast] at h1 h2
  rw [rd_il (by omega)] at h1
  exact ⟨h1, h2⟩
set_option maxHeartbeats 400000 in
theorem isnan_anyI (a : Nat) (w : World) : Calls Try.prog 79 #[.int .i64 a] w fun e w' => e = .returned (.bool false) ∧ w' = w := by
  go_enter Try.func79, Try.ntmps79
  go_wp2
  go_ret
  exact ⟨by simp, rfl⟩
set_option maxHeartbeats 400000 in
theorem less_anyI (a b : Nat) (w : World) : Calls Try.prog 69 #[.int .i64 a, .int .i64 b] w fun e w' => e = .returned (.bool (decide ((a : Int) < b))) ∧ w' = w := by
  go_enter Try.func69, Try.ntmps69
  go_wp2_with (go_at_call 79; refine (isnan_anyI _ _).mono ?_; rintro e w' ⟨rfl, rfl⟩)
  go_ret
  exact ⟨by simp, rfl⟩
theorem less_isI (a b : Nat) (v : Bool) (h : decide ((a : Int) < b) = v) (w : World) : Calls Try.prog 69 #[.int .i64 a, .int .i64 b] w fun e w' => e = .returned (.bool v) ∧ w' = w := by
  rw [← h]; exact less_anyI a b w
theorem grown_drewNI {w W : World} {row : Option Nat} (h : w.grownBy W row) (n : Nat) : w.grownBy (W.drewN n) row := ⟨h.os, h.tape, h.output, h.size, h.block⟩
set_option maxHeartbeats 2000000 in
set_option maxRecDepth 100000 in
theorem insertion_anyI (base g cap : Nat) (bs : List Nat) (w : World) (ho : w.ownsRow base 3 1 (.slice (some ⟨g, 0, none⟩) bs.length cap) bs.length (nums .i64 (il bs))) (hn : bs.length ≤ 12) :
    Calls Try.prog 63 #[.slice (some ⟨g, 0, none⟩) bs.length cap, .int .i64 0, .int .i64 bs.length] w fun e w' =>
      e = .returned (.tuple #[]) ∧ w'.ownsRow base 3 1 (.slice (some ⟨g, 0, none⟩) bs.length cap) bs.length (nums .i64 (il (sortedL bs))) ∧ w.grownBy w' (some g) := by
  have hst : w.ownsRow base 3 1 (.slice (some ⟨g, 0, none⟩) bs.length cap) bs.length (nums .i64 (il (sortedL (bs.take 1) ++ bs.drop 1))) := by rw [sorted_start]; exact ho
  clear ho
  obtain ⟨n, hnb⟩ : ∃ n, n = bs.length := ⟨_, rfl⟩
  rw [← hnb] at hst hn ⊢
  have HNB := hid hnb
  clear hnb
  go_enter Try.func63, Try.ntmps63
  go_wp2
  go_loopw [6] (fun i wr => w.grownBy wr (some g) ∧ ∃ k : Nat, 1 ≤ k ∧ k ≤ n + 1 ∧ i = .int .i64 k ∧ wr.ownsRow base 3 1 (.slice (some ⟨g, 0, none⟩) n cap) n (nums .i64 (il (sortedL (bs.take k) ++ bs.drop k)))) (fun i _ => 20 - (intOf i).toNat)
  case atStart => exact ⟨World.grownBy.refl w _, 1, by omega, by omega, rfl, hst⟩
  case round =>
    obtain ⟨hg, k, hk1, hk2, rfl, ho⟩ := hrel
    clear hst
    by_cases hlt : k < n
    · obtain ⟨S, hS⟩ : ∃ S, sortedL (bs.take k) = S := ⟨_, rfl⟩
      obtain ⟨x, hx⟩ : ∃ x, bs.getD k 0 = x := ⟨_, rfl⟩
      have hSl : S.length = k := by rw [← hS, sortedL_length, List.length_take]; have := HNB.out; omega
      have hbk : bs.drop k = x :: bs.drop (k + 1) := by
        have := HNB.out
        rw [List.drop_eq_getElem_cons (show k < bs.length by omega), ← hx]; simp [List.getD_eq_getElem?_getD, show k < bs.length by omega]
      obtain ⟨R, hR⟩ : ∃ R, bs.drop (k + 1) = R := ⟨_, rfl⟩
      have ho2 : wr.ownsRow base 3 1 (.slice (some ⟨g, 0, none⟩) n cap) n (nums .i64 (il (insIn S x k ++ R))) := by
        have e : insIn S x k ++ R = sortedL (bs.take k) ++ bs.drop k := by rw [hS, hbk, hR, ← hSl, insIn_end]; simp
        rw [e]; exact ho
      have HSS := hid (show S.Pairwise (· ≤ ·) from by rw [← hS]; exact sortedL_sorted _)
      have HNEXT := hid (show withL S x ++ R = sortedL (bs.take (k + 1)) ++ bs.drop (k + 1) from by
        have := HNB.out
        rw [List.take_succ_eq_append_getElem (show k < bs.length by omega), sortedL_snoc, hS, hR, ← hx]; simp [List.getD_eq_getElem?_getD, show k < bs.length by omega])
      have HSL := hid hSl
      clear ho hS hx hbk hR hSl
      go_wp2
      go_loopw [7] (fun jv wr2 => w.grownBy wr2 (some g) ∧ ∃ j : Nat, j ≤ k ∧ jv = .int .i64 j ∧ wr2.ownsRow base 3 1 (.slice (some ⟨g, 0, none⟩) n cap) n (nums .i64 (il (insIn S x j ++ R))) ∧ Hid (∀ y ∈ S.drop j, x < y)) (fun jv _ => (intOf jv).toNat)
      case atStart => exact ⟨hg, k, by omega, rfl, ho2, (show ∀ y ∈ S.drop k, x < y from by have := HSL.out; intro y hy; rw [List.drop_of_length_le (by omega)] at hy; cases hy)⟩
      case round =>
        obtain ⟨hg2, j, hj, rfl, ho3, HD⟩ := hrel
        clear ho2
        have hout : (j = 0 ∨ S.getD (j - 1) 0 ≤ x) → wr.ownsRow base 3 1 (.slice (some ⟨g, 0, none⟩) n cap) n (nums .i64 (il (sortedL (bs.take (k + 1)) ++ bs.drop (k + 1)))) := fun h => by
          rw [← HNEXT.out, ← insIn_stop HSS.out (by have := HSL.out; omega) HD.out h]; exact ho3
        have HOUT := hid hout
        clear hout
        rcases Nat.eq_zero_or_pos j with hj0 | hj0
        · have HJ0 := hid hj0
          have hjv : (j : Int) = 0 := by omega
          rw [hjv]
          clear hj0 hjv
          have hgd : decide ((0 : Int) > 0) = false := by decide
          go_wp2_with fail
          go_quiet (fail)
          go_wp2
          go_round
          case rel => exact ⟨grown_drewNI hg2 _, k + 1, by omega, by omega, by go_num, HOUT.out (.inl HJ0.out)⟩
          case measure => simp [intOf]; omega
        · obtain ⟨p, hp⟩ : ∃ p, j = p + 1 := ⟨j - 1, by omega⟩
          have HP := hid hp
          have hpS : p < S.length := by have := HSL.out; omega
          obtain ⟨y, hy⟩ : ∃ y, S.getD p 0 = y := ⟨_, rfl⟩
          have hjn : p + 1 < n := by omega
          obtain ⟨ca, fa⟩ := own_atUI ho3 (i := p + 1) hjn
          obtain ⟨cb, fb⟩ := own_atUI ho3 (i := p) (by omega)
          rw [hp, insIn_at (by omega)] at ca
          rw [hp, insIn_prev hpS, hy] at cb
          have HSW := hid (show ((insIn S x j ++ R).set (p + 1) y).set p x = insIn S x p ++ R from by rw [hp, ← hy]; exact insIn_swap hpS)
          have HDN := hid (show x < y → ∀ z ∈ S.drop p, x < z from by
            intro hxy z hz
            rw [List.drop_eq_getElem_cons hpS] at hz
            rcases List.mem_cons.1 hz with rfl | hz
            · have : S.getD p 0 = S[p] := by simp [List.getD_eq_getElem?_getD, hpS]
              omega
            · exact HD.out z (by rw [hp]; exact hz))
          have HY := hid hy
          rw [show (j : Int) = (p : Int) + 1 from by omega]
          obtain ⟨iN, hiN⟩ : ∃ q, q = p + 1 := ⟨_, rfl⟩
          obtain ⟨jN, hjN⟩ : ∃ q, q = p := ⟨_, rfl⟩
          rw [← hiN] at ca fa
          rw [← hjN] at cb fb
          have ea : ((p : Int) + 1).toNat = iN := by omega
          have pa : (0 : Int) ≤ (p : Int) + 1 := by omega
          have ba : (p : Int) + 1 < (n : Int) := by omega
          have ra : IntKind.i64.wrap ((p : Int) + 1) = (p : Int) + 1 := by rw [IntKind.wrap_i64]; omega
          have ec : ((p : Int)).toNat = jN := by omega
          have pc : (0 : Int) ≤ (p : Int) := by omega
          have bc : (p : Int) < (n : Int) := by omega
          have rc : IntKind.i64.wrap ((p : Int)) = (p : Int) := by rw [IntKind.wrap_i64]; omega
          have hgd : decide ((p : Int) + 1 > (0 : Int)) = true := decide_eq_true (by omega)
          have HIN := hid hiN
          have HJN := hid hjN
          clear hp hy hiN hjN hpS
          cases hlv : decide ((x : Int) < (y : Int)) with
          | false =>
            have HLV := hid hlv
            clear hlv
            go_wp2_with fail
            go_quiet ((go_at_call 69; exact Calls.quiet_of_same (less_isI _ _ _ HLV.out _)))
            go_wp2
            go_round
            case rel => exact ⟨grown_drewNI hg2 _, k + 1, by omega, by omega, by go_num, HOUT.out (.inr (by rw [HP.out, Nat.add_sub_cancel, HY.out]; have := of_decide_eq_false HLV.out; omega))⟩
            case measure => simp [intOf]; omega
          | true =>
            have HLV := hid hlv
            clear hlv
            go_wp2_with fail
            go_quiet ((go_at_call 69; exact Calls.quiet_of_same (less_isI _ _ _ HLV.out _)))
            have ca2 : (wr.drewN nq).cell? ⟨g, iN, none⟩ = some (.int .i64 x) := ca
            have cb2 : (wr.drewN nq).cell? ⟨g, jN, none⟩ = some (.int .i64 y) := cb
            have fa2 : (wr.drewN nq).frozen? ⟨g, iN, none⟩ = false := fa
            have fb2 : (wr.drewN nq).frozen? ⟨g, jN, none⟩ = false := fb
            have ho4 : (wr.drewN nq).ownsRow base 3 1 (.slice (some ⟨g, 0, none⟩) n cap) n (nums .i64 (il (insIn S x j ++ R))) := ho3
            have hg3 := grown_drewNI hg2 nq
            clear ca cb fa fb ho3 hg2 HOUT
            generalize wr.drewN nq = w2 at *
            go_wp2_with fail
            go_region
            all_goals
              go_wp2
              go_round
              case rel =>
                rw [HIN.out, HJN.out]
                have hgA : w2.grownBy w2.drew (some g) := grown_drewNI (World.grownBy.refl w2 _) 1
                obtain ⟨s1, s2⟩ := own_storeUI (W := w2.drew) ho4 (p + 1) y
                obtain ⟨s3, s4⟩ := own_storeUI s1 p x
                rw [HSW.out] at s3
                exact ⟨grownBy_trans hg3 (grownBy_trans hgA (grownBy_trans s2 s4)), p, by have := HP.out; omega, by go_num, s3, HDN.out (by have := of_decide_eq_true HLV.out; omega)⟩
              case measure => have := HP.out; simp [intOf, rc] <;> omega
    · have e : sortedL (bs.take k) ++ bs.drop k = sortedL bs := by
        have := HNB.out
        rw [List.take_of_length_le (by omega), List.drop_of_length_le (by omega), List.append_nil]
      rw [e] at ho
      clear e
      go_wp2
      go_end0
      exact ⟨rfl, ho, hg⟩
end Go.Proofs.Ytgegjhgifeobdaa
