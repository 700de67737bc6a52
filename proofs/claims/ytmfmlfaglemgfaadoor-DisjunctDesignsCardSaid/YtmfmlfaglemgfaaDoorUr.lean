/- disjunct.upto, the iterator, for loops that add to a row. -/
import Derived.Test.YtmfmlfaglemgfaaDoorUp
namespace Go.Proofs.YtmfmlfaglemgfaaDoor
set_option linter.unusedSimpArgs false
set_option linter.unusedVariables false
open Go.RowKit Go.Lib Go.Shelf Go.Proofs.YtmfmlfaglemgfaaDoorW.PrintWords
attribute [local go_sem] Oper.semAt_some
/-- The block of the row that a cell holds. -/
def rowOf (Bl : Nat) (W : World) : Option Nat := (W.cell? ⟨Bl, 0, none⟩).bind Value.ownBlock
theorem rowOf_eq {Bl : Nat} {W : World} {v : Value} (h : W.cell? ⟨Bl, 0, none⟩ = some v) : rowOf Bl W = v.ownBlock := by rw [rowOf, h]; rfl
/-- All cells from block B on stay as they are, but for the row that one cell holds; and that row stays where it is, or moves to a new block. -/
def KR (Bl B : Nat) (W W' : World) : Prop := W.heap.size ≤ W'.heap.size ∧ (rowOf Bl W' = rowOf Bl W ∨ ∀ r, rowOf Bl W' = some r → W.heap.size ≤ r) ∧
  ∀ k c t f, B ≤ k → rowOf Bl W ≠ some k → W.heap[k]? = some (.cells c t f) → W'.heap[k]? = some (.cells c t f)
theorem KR.ne {Bl B b : Nat} {W W' : World} (h : KR Bl B W W') (hr : rowOf Bl W ≠ some b) (hb : b < W.heap.size) : rowOf Bl W' ≠ some b := by
  rcases h.2.1 with e | e
  · rw [e]; exact hr
  · intro h2; have := e b h2; omega
theorem KR.trans {Bl B : Nat} {X Y Z : World} (h : KR Bl B X Y) (k : KR Bl B Y Z) : KR Bl B X Z := by
  refine ⟨Nat.le_trans h.1 k.1, ?_, fun j c t f hB hj hc => ?_⟩
  · rcases k.2.1 with e | e
    · rcases h.2.1 with e2 | e2
      · exact .inl (e.trans e2)
      · exact .inr (fun r hr => e2 r (by rw [← e]; exact hr))
    · exact .inr (fun r hr => Nat.le_trans h.1 (e r hr))
  · exact k.2.2 j c t f hB (h.ne hj (blk_lt hc)) (h.2.2 j c t f hB hj hc)
theorem KR.cell {Bl B b o : Nat} {v : Value} {W W' : World} (h : KR Bl B W W') (hb : B ≤ b) (hr : rowOf Bl W ≠ some b) (hc : W.cell? ⟨b, o, none⟩ = some v) : W'.cell? ⟨b, o, none⟩ = some v := by
  unfold World.cell? at hc ⊢
  dsimp only at hc ⊢
  split at hc
  · rename_i c e f hh
    rw [h.2.2 b c e f hb hr hh]
    exact hc
  · cases hc
theorem KR.put {Bl B l : Nat} {W : World} {o o' : Obj} (hne : Bl ≠ l) (hl : W.heap[l]? = some o) (ho : o.isCells = false) : KR Bl B W (W.putObj l o') := by
  have hr : rowOf Bl (W.putObj l o') = rowOf Bl W := by
    unfold rowOf
    rw [World.cell?_of_block (w := W) (a := ⟨Bl, 0, none⟩) (World.putObj_heap_other (by exact hne))]
  refine ⟨by simp, .inl hr, fun k c t f _ _ hc => ?_⟩
  rw [World.putObj_heap_other (fun e => by subst e; rw [hl] at hc; cases hc; simp [Obj.isCells] at ho)]
  exact hc
set_option maxHeartbeats 1000000 in
set_option maxRecDepth 100000 in
/-- **'range upto(items, d)' where each round may add to a row that one cell of the caller's holds, and that is empty at the start.** -/
theorem upto_iterR (d items Bl B B1 B2 : Nat) (hd : d ≤ 16) (hi : items < 2 ^ 63) (w : World) (hB : B ≤ w.heap.size)
    (c1 : w.cell? ⟨B1, 0, none⟩ = some (.int .u64 items)) (c2 : w.cell? ⟨B2, 0, none⟩ = some (.int .i64 d)) (v0 : Value) (cl : w.cell? ⟨Bl, 0, none⟩ = some v0) (hv0 : v0.ownBlock = none) :
    Iter Tryd.prog 35 (fun y => #[] ++ #[y] ++ #[.pointer (some ⟨B1, 0, none⟩), .pointer (some ⟨B2, 0, none⟩)]) (fun x : Nat => #[.int .u64 ((x : Nat) : Int)]) (KR Bl B) (upL d 0 items) w := by
  intro l J Jx W hW hJ hJx hY h0
  have hb1 : B1 < w.heap.size := World.block_lt_of_cell? w _ c1
  have hb2 : B2 < w.heap.size := World.block_lt_of_cell? w _ c2
  have c1' := (hW.cell (p := ⟨B1, 0, none⟩) hb1).trans c1
  have c2' := (hW.cell (p := ⟨B2, 0, none⟩) hb2).trans c2
  have hsz := hW.size
  have hg : ∀ s W1 W2, J s W1 → W1.grownBy W2 none → J s W2 := fun s W1 W2 hs hg => hJ s W1 W2 none hs hg (by rintro r ⟨⟩)
  have hbl : Bl < w.heap.size := World.block_lt_of_cell? w _ cl
  have cl' := (hW.cell (p := ⟨Bl, 0, none⟩) hbl).trans cl
  have lbl : Bl < W.heap.size := by omega
  have lbl' : Bl < W.heap.size + 1 := by omega
  have hdn := fun B3 B4 (h3 : B ≤ B3) (h4 : B ≤ B4) => up_any l (KR Bl B) KR.trans (fun W => (W.cell? ⟨B3, 0, none⟩ = some (.func (.yield l) #[] #[]) ∧
      W.cell? ⟨B4, 0, none⟩ = some (.func (.func 36) #[] #[.pointer (some ⟨B3, 0, none⟩), .pointer (some ⟨B4, 0, none⟩)])) ∧ rowOf Bl W ≠ some B3 ∧ rowOf Bl W ≠ some B4)
      (fun W W' hk hg => ⟨⟨hk.cell h3 hg.2.1 hg.1.1, hk.cell h4 hg.2.2 hg.1.2⟩, hk.ne hg.2.1 (World.block_lt_of_cell? W _ hg.1.1), hk.ne hg.2.2 (World.block_lt_of_cell? W _ hg.1.2)⟩) (upL d 0 items) J Jx hY B3 B4 (fun _ h => h.1)
  have HR2 := hid (fun W' (hb : Below W.heap.size W W') => show rowOf Bl W' ≠ some W.heap.size ∧ rowOf Bl W' ≠ some (W.heap.size + 1) from by
    rw [rowOf_eq ((hb.cell (p := ⟨Bl, 0, none⟩) lbl).trans cl'), hv0]
    exact ⟨(fun h => nomatch h), (fun h => nomatch h)⟩)
  have l2 : B2 < W.heap.size := by omega
  have l1 : B1 < W.heap.size := by omega
  have l2' : B2 < W.heap.size + 1 := by omega
  have l1' : B1 < W.heap.size + 1 := by omega
  have n2 : ¬ B2 = W.heap.size + 1 := by omega
  have n1 : ¬ B1 = W.heap.size + 1 := by omega
  have n2' : ¬ W.heap.size + 1 = B2 := by omega
  have n1' : ¬ W.heap.size + 1 = B1 := by omega
  have HD := hid (hdn W.heap.size (W.heap.size + 1) (by omega) (by omega) d 0 items [])
  have HG := hid hg
  have HI := hid hi
  clear hdn hg hY hJ hJx hi
  go_enter Tryd.func35, Tryd.ntmps35
  have HJ0 := hid (show ∀ W', Below W.heap.size W W' → J [] W' from fun W' hb => HG.out _ _ _ h0 (grown_of_below hb none))
  go_wp2_with (go_at_call 36; go_must (refine (HD.out _ (by decide) HI.out hd (by simp) (HJ0.out _ (by exact below_alloc (below_alloc (Below.refl _ _) _) _)) ⟨⟨by simp [go_sem], by simp [go_sem]⟩, (HR2.out _ (by exact below_alloc (below_alloc (Below.refl _ _) _) _))⟩).mono ?_; rintro e w' ⟨b, rfl, hp⟩))
  go_end0
  refine ⟨⟨_, rfl⟩, ?_⟩
  rcases hp with ⟨rfl, hj, _⟩ | ⟨rfl, q, hq, hj⟩
  · exact .inl (by simpa using hj)
  · exact .inr ⟨q, hq, by simpa using hj⟩
end Go.Proofs.YtmfmlfaglemgfaaDoor
