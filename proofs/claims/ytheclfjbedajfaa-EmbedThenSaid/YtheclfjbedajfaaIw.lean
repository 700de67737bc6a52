/- Words for ranges over functions; no condition. -/
import Derived.Test.YtheclfjbedajfaaBa
import Derived.RangeFuncNested
import Derived.RangeFuncBound
import Derived.RangeFuncCalls
import Derived.RangeFuncLeaves
import Derived.RangeFuncKeeps
import Derived.Shelf.Abstract
import Derived.Shelf.RegionOpen
import Derived.OwnWalkIn
import Derived.TacticsInMore
import Derived.LoopNIn
import Derived.LoopIn
import Derived.Deep.RegionWith
import Derived.Laws.EntriesVeiled
import Derived.RangeFuncWrites
import Derived.Stop.RegionWithIn
namespace Go.Proofs.Ytheclfjbedajfaa
set_option linter.unusedSimpArgs false
set_option linter.unusedVariables false
open Go.RowKit Go.Lib Go.Shelf Go.Proofs.YtheclfjbedajfaaW.PrintWords
attribute [local go_sem] Oper.semAt_some

/-- What a round keeps of the iterator's own cells: all cells from block B on. -/
def KC (B : Nat) (W W' : World) : Prop := W.heap.size ≤ W'.heap.size ∧ ∀ k c t f, B ≤ k → W.heap[k]? = some (.cells c t f) → W'.heap[k]? = some (.cells c t f)
theorem KC.refl (B : Nat) (W : World) : KC B W W := ⟨Nat.le_refl _, fun _ _ _ _ _ h => h⟩
theorem KC.trans {B : Nat} {X Y Z : World} (h : KC B X Y) (k : KC B Y Z) : KC B X Z := ⟨Nat.le_trans h.1 k.1, fun j c t f hj hc => k.2 j c t f hj (h.2 j c t f hj hc)⟩
theorem KC.of_grown {B : Nat} {W W' : World} {row : Option Nat} (h : W.grownBy W' row) (hr : ∀ r, row = some r → r < B) : KC B W W' :=
  ⟨h.size, fun k c t f hk hc => (h.block k (by
    rcases Nat.lt_or_ge k W.heap.size with h1 | h1
    · exact h1
    · rw [Array.getElem?_eq_none h1] at hc; cases hc) (fun e => by have := hr k e.symm; omega)).trans hc⟩
theorem KC.of_below {B : Nat} {W W' : World} (h : Below W.heap.size W W') : KC B W W' := KC.of_grown (row := none) (grown_of_below h none) (by rintro r ⟨⟩)
theorem KC.set {B : Nat} (W : World) {p : Addr} (h : p.block < B) (v : Value) : KC B W (W.setCell p v) :=
  ⟨by simp [World.setCell], fun k c t f hk hc => (Below.heap_setCell W p v k (by omega)).trans hc⟩
theorem KC.put {B : Nat} {W : World} {l : Nat} {o o' : Obj} (hl : W.heap[l]? = some o) (ho : o.isCells = false) : KC B W (W.putObj l o') :=
  ⟨by simp, fun k c t f _ hc => by
    rw [World.putObj_heap_other (fun e => by subst e; rw [hl] at hc; cases hc; simp [Obj.isCells] at ho)]
    exact hc⟩
theorem KC.cell {B b o : Nat} {v : Value} {W W' : World} (h : KC B W W') (hb : B ≤ b) (hc : W.cell? ⟨b, o, none⟩ = some v) : W'.cell? ⟨b, o, none⟩ = some v := by
  unfold World.cell? at hc ⊢
  dsimp only at hc ⊢
  split at hc
  · rename_i c e f hh
    rw [h.2 b c e f hb hh]
    exact hc
  · cases hc
theorem room_of_none {F : Fence} (hd : F.depth = none) (k : Nat) : F.room k := fun d h => by rw [hd] at h; cases h
theorem RoundIn.anyDepth {F : Fence} (hd : F.depth = none) {m m' : Nat} {P : Program} {l : Nat} {f : FuncId} {tmps : Array Value} {assign body : Code} {w : World} {R : Ending → World → Prop}
    (h : RoundIn F m P l f tmps assign body w R) : RoundIn F m' P l f tmps assign body w R := ⟨h.1, fun c cs _ => h.2 c cs (room_of_none hd _)⟩
theorem YieldAt.anyDepth {F : Fence} (hd : F.depth = none) {m : Nat} (m' : Nat) {P : Program} {l : Nat} {args : Array Value} {W : World} {R : Ending → World → Prop} (h : YieldAt F m P l args W R) : YieldAt F m' P l args W R := by
  obtain ⟨fn, tmps, assign, body, hy, hR⟩ := h
  exact ⟨fn, tmps, assign, body, hy, RoundIn.anyDepth hd hR⟩
theorem grown_drew (W : World) : W.grownBy W.drew none := ⟨rfl, rfl, rfl, Nat.le_refl _, fun _ _ _ => rfl⟩

theorem below_put {B D : Nat} {w W : World} {o : Obj} (h : Below B w W) (hD : B ≤ D) : Below B w (W.putObj D o) :=
  ⟨h.os, h.tape, h.output, by simpa using h.size, fun k hk => (World.putObj_heap_other (by omega)).trans (h.block k hk)⟩
theorem cell_put {W : World} {D : Nat} {o o' : Obj} {a : Addr} {v : Value} (hD : W.heap[D]? = some o) (ho : o.isCells = false) (h : W.cell? a = some v) : (W.putObj D o').cell? a = some v :=
  cell_kept h (grownBy_putObj' W D o') (fun r e => by cases e; exact ⟨o, hD, ho⟩)
theorem deferred_set {W : World} {D : Nat} {ds : Option (List Deferred)} {p : Addr} (v : Value) (hD : W.heap[D]? = some (.deferred ds)) (hp : p.block ≠ D) : (W.setCell p v).heap[D]? = some (.deferred ds) :=
  (Below.heap_setCell W p v D (fun e => hp e.symm)).trans hD
theorem calls_marks {P : Program} {f : FuncId} {fn : Func} {c : Code} {args : Array Value} {w : World} {R : Ending → World → Prop} (n : Nat) (hf : P.funcs[f]? = some fn) (hb : fn.body = some c)
    (h : c.wp P (bodyPostM Fence.wide n P fn R) { tmps := args ++ Array.replicate (fn.ntmps - args.size) undef, defers := [] } w) : Calls P f args w R :=
  callsIn_wide.1 (callsIn_of_wp_marks (n := n) hf hb trivial (wpIn_wide.2 h) rfl)
theorem m_ret1 {P : Program} {fn : Func} {n D : Nat} {R : Ending → World → Prop} {a : Act} {w : World} {v : Value} (hd : a.defers = [{ target := .collected D, args := #[] }]) (hD : w.heap[D]? = some (.deferred (some [])))
    (hr : (results fn a.tmps).run P (w.putObj D (.deferred none)) = .ok v (w.putObj D (.deferred none))) (h : R (.returned v) (w.putObj D (.deferred none))) : bodyPostM Fence.wide n P fn R .ret a w := by
  show LeavesInM Fence.wide n P fn a.tmps R a.defers .returning w
  rw [hd]
  exact ⟨by simp, .inl ⟨_, _, rfl, run_takeDeferred hD, v, hr, h⟩⟩
end Go.Proofs.Ytheclfjbedajfaa
