/- A law for a range over a function whose yields are a known list, at whatever bound receiver; in the plain calculus. -/
import Derived.Test.YtheclfjbedajfaaIw
import Derived.RangeFuncWrites
import Derived.RangeFuncNested
import Derived.RangeFuncLeaves
namespace Go.Proofs.Ytheclfjbedajfaa
set_option linter.unusedSimpArgs false
set_option linter.unusedVariables false
open Go.RowKit Go.Lib Go.Shelf Go.Proofs.YtheclfjbedajfaaW.PrintWords

/-- A call of f yields just xs, in this order, to whatever loop whose rounds keep Kp; `mk` lays the loop's yield among the arguments. -/
def Iter {α : Type} (P : Program) (f : FuncId) (mk : Value → Array Value) (encs : α → Array Value) (Kp : World → World → Prop) (xs : List α) (w : World) : Prop :=
  ∀ (l : Nat) (J Jx : List α → World → Prop) (W : World), Below w.heap.size w W → OwnFrom W.heap.size J → OwnFrom W.heap.size Jx →
    (∀ m pre x W1, pre ++ [x] <+: xs → J pre W1 → YieldAt Fence.wide m P l (encs x) W1 fun e W' =>
      (e = .returned (.bool true) ∧ J (pre ++ [x]) W' ∧ Kp W1 W') ∨ (e = .returned (.bool false) ∧ Jx (pre ++ [x]) W')) →
    J [] W →
    Calls P f (mk (.func (.yield l) #[] #[])) W fun e W' => (∃ v, e = .returned v) ∧ (J xs W' ∨ ∃ pre, pre <+: xs ∧ Jx pre W')

/-- The same, for a walk that begins behind the loop's own two objects. -/
def Iter2 {α : Type} (P : Program) (f : FuncId) (mk : Value → Array Value) (encs : α → Array Value) (Kp Kx : World → World → Prop) (xs : List α) (w : World) : Prop :=
  ∀ (l : Nat) (J Jx : List α → World → Prop) (W : World), Below w.heap.size w W → w.heap.size + 2 ≤ W.heap.size → OwnFrom W.heap.size J → OwnFrom W.heap.size Jx →
    (∀ m pre x W1, pre ++ [x] <+: xs → J pre W1 → YieldAt Fence.wide m P l (encs x) W1 fun e W' =>
      (e = .returned (.bool true) ∧ J (pre ++ [x]) W' ∧ Kp W1 W') ∨ (e = .returned (.bool false) ∧ Jx (pre ++ [x]) W' ∧ Kx W1 W')) →
    J [] W →
    Calls P f (mk (.func (.yield l) #[] #[])) W fun e W' => (∃ v, e = .returned v) ∧ (J xs W' ∨ ∃ pre, pre <+: xs ∧ Jx pre W')
theorem Iter.two {α : Type} {P : Program} {f : FuncId} {mk : Value → Array Value} {encs : α → Array Value} {Kp : World → World → Prop} {xs : List α} {w : World} (h : Iter P f mk encs Kp xs w) : Iter2 P f mk encs Kp (fun _ _ => True) xs w :=
  fun l J Jx W hb _ hJ hJx hY h0 => h l J Jx W hb hJ hJx (fun m pre x W1 hp hj => by
    obtain ⟨fn, tmps, assign, body, hy, hR⟩ := hY m pre x W1 hp hj
    exact ⟨fn, tmps, assign, body, hy, RoundIn.mono hR (fun e W' hh => hh.imp id (fun ⟨a, b, _⟩ => ⟨a, b⟩))⟩) h0

theorem KC.keeps {B : Nat} {W W' : World} {p : World → Prop} (h : KC B W W') (hp : p W → p W') : KC B W W' ∧ (p W → p W') := ⟨h, hp⟩

/-- The marks that several loops over functions have left, taken up at the function's end. -/
def putAll (W : World) (ds : List Nat) : World := ds.foldl (fun W D => W.putObj D (.deferred none)) W
def marks (ds : List Nat) : List Deferred := ds.map fun D => { target := .collected D, args := #[] }
def Marked (B : Nat) (ds : List Nat) (W : World) : Prop := ds.Nodup ∧ ∀ D ∈ ds, B ≤ D ∧ W.heap[D]? = some (.deferred (some []))
theorem Marked.nil (B : Nat) (W : World) : Marked B [] W := ⟨List.nodup_nil, by simp⟩
theorem Marked.put {B D : Nat} {ds : List Nat} {W : World} (h : Marked B (D :: ds) W) : Marked B ds (W.putObj D (.deferred none)) := by
  obtain ⟨hn, hm⟩ := h
  obtain ⟨hD, hn⟩ := List.nodup_cons.1 hn
  exact ⟨hn, fun E hE => ⟨(hm E (by simp [hE])).1, (World.putObj_heap_other (fun e => by subst e; exact hD hE)).trans (hm E (by simp [hE])).2⟩⟩
theorem Marked.grown {B : Nat} {ds : List Nat} {W W' : World} {row : Option Nat} (h : Marked B ds W) (hg : W.grownBy W' row) (hr : ∀ r, row = some r → ∃ o : Obj, W.heap[r]? = some o ∧ o.isCells = true) : Marked B ds W' :=
  ⟨h.1, fun D hD => ⟨(h.2 D hD).1, (hg.block D (blk_lt (h.2 D hD).2) (fun e => by
    obtain ⟨o, ho, hc⟩ := hr D e.symm
    rw [(h.2 D hD).2] at ho
    cases ho
    cases hc)).trans (h.2 D hD).2⟩⟩
end Go.Proofs.Ytheclfjbedajfaa
