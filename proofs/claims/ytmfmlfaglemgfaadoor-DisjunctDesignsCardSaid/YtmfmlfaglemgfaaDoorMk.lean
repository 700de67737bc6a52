/- Words for a range over a function in a loop: marks, what lies below a bound. -/
import Derived.Test.YtmfmlfaglemgfaaDoorLe
namespace Go.Proofs.YtmfmlfaglemgfaaDoor
set_option linter.unusedSimpArgs false
set_option linter.unusedVariables false
open Go.RowKit Go.Lib Go.Shelf Go.Proofs.YtmfmlfaglemgfaaDoorW.PrintWords
theorem Marked.ownFrom {β : Type} {B C : Nat} {ds : List Nat} (hC : ∀ D ∈ ds, D < C) : OwnFrom C (fun (_ : β) W => Marked B ds W) := by
  intro s W W' row h hg hr
  exact ⟨h.1, fun D hD => ⟨(h.2 D hD).1, (hg.block D (blk_lt (h.2 D hD).2) (fun e => by have := (hr D e.symm).1; have := hC D hD; omega)).trans (h.2 D hD).2⟩⟩
theorem Marked.lt {B : Nat} {ds : List Nat} {W : World} (h : Marked B ds W) : ∀ D ∈ ds, D < W.heap.size := fun D hD => blk_lt (h.2 D hD).2
theorem Marked.of_le {B B' : Nat} {ds : List Nat} {W : World} (h : Marked B ds W) (hB : B' ≤ B) : Marked B' ds W := ⟨h.1, fun D hD => ⟨by have := (h.2 D hD).1; omega, (h.2 D hD).2⟩⟩
theorem cell_ownFrom {β : Type} (C : Nat) (p : Addr) (v : Value) : OwnFrom C (fun (_ : β) W => W.cell? p = some v) := Own.from (fun s A B row hs hg hr => cell_kept hs hg hr) _
theorem KZ.marked {B0 B1 B : Nat} {ds : List Nat} {W W' : World} (h : KZ B0 B1 W W') (hB : B1 ≤ B) (hm : Marked B ds W) : Marked B ds W' :=
  ⟨hm.1, fun D hD => ⟨(hm.2 D hD).1, (h.2 D (blk_lt (hm.2 D hD).2) (.inr (by have := (hm.2 D hD).1; omega))).trans (hm.2 D hD).2⟩⟩
theorem Marked.cons {B D : Nat} {ds : List Nat} {W W' : World} (hD : W.heap.size ≤ D) (hB : B ≤ D) (h : Marked B ds W) (h' : Marked B ds W') (hk : W'.heap[D]? = some (.deferred (some []))) : Marked B (D :: ds) W' :=
  ⟨List.nodup_cons.2 ⟨fun hd => by have := h.lt D hd; omega, h'.1⟩, fun E hE => by
    rcases List.mem_cons.1 hE with rfl | hE
    · exact ⟨hB, hk⟩
    · exact h'.2 E hE⟩
/-- What lies below B0 is as it was. -/
def Low (B0 : Nat) (w W : World) : Prop := B0 ≤ W.heap.size ∧ ∀ k < B0, W.heap[k]? = w.heap[k]?
theorem Low.of_below {B0 : Nat} {w W : World} (hz : w.heap.size = B0) (h : Below B0 w W) : Low B0 w W := ⟨by have := h.size; omega, fun k hk => h.block k hk⟩
theorem Low.kz {B0 B1 : Nat} {w W W' : World} (h : Low B0 w W) (k : KZ B0 B1 W W') : Low B0 w W' :=
  ⟨Nat.le_trans h.1 k.1, fun j hj => (k.2 j (by have := h.1; omega) (.inl hj)).trans (h.2 j hj)⟩
theorem Low.ownFrom {β : Type} {B0 B : Nat} {w : World} (hB : B0 ≤ B) : OwnFrom B (fun (_ : β) W => Low B0 w W) := by
  intro s W W' row h hg hr
  exact ⟨Nat.le_trans h.1 hg.size, fun k hk => (hg.block k (by have := h.1; omega) (fun e => by have := (hr k e.symm).1; omega)).trans (h.2 k hk)⟩
theorem Low.blk {B0 g : Nat} {w W : World} {t : TypeId} {cs : Array Value} (h : Low B0 w W) (hz : w.heap.size = B0) (hb : Blk w g t cs) : Blk W g t cs := (h.2 g (by have := hb.lt; omega)).trans hb
theorem Low.nlc {kd : IntKind} {bd B0 n : Nat} {w W : World} {A : Option Addr} {bs : List Nat} (h : Low B0 w W) (hz : w.heap.size = B0) (hb : NlC kd bd w A n bs) : NlC kd bd W A n bs := by
  have h2 : NlC kd bd { W with os := w.os, tape := w.tape, output := w.output } A n bs := hb.below ⟨rfl, rfl, rfl, by rw [hz]; exact h.1, fun k hk => h.2 k (by omega)⟩
  exact h2
end Go.Proofs.YtmfmlfaglemgfaaDoor
