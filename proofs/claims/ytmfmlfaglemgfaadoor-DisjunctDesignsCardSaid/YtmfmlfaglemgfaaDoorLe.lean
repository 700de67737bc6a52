/- disjunct.least at int, walked: the least of a first number and all that an iterator yields. -/
import Derived.Test.YtmfmlfaglemgfaaDoorRg
import Derived.Test.YtmfmlfaglemgfaaDoorWMore
namespace Go.Proofs.YtmfmlfaglemgfaaDoor
set_option linter.unusedSimpArgs false
set_option linter.unusedVariables false
open Go.RowKit Go.Lib Go.Shelf Go.Proofs.YtmfmlfaglemgfaaDoorW.PrintWords Go.Proofs.YtmfmlfaglemgfaaDoorW.PrintMore
attribute [local go_sem] Oper.semAt_some min2_int min_two

/-- What a round of a loop keeps of the iterator's memory: all below B0, and all from B1 on. -/
def KZ (B0 B1 : Nat) (W W' : World) : Prop := W.heap.size ≤ W'.heap.size ∧ ∀ k < W.heap.size, (k < B0 ∨ B1 ≤ k) → W'.heap[k]? = W.heap[k]?
theorem KZ.refl (B0 B1 : Nat) (W : World) : KZ B0 B1 W W := ⟨Nat.le_refl _, fun _ _ _ => rfl⟩
theorem KZ.trans {B0 B1 : Nat} {X Y Z : World} (h : KZ B0 B1 X Y) (k : KZ B0 B1 Y Z) : KZ B0 B1 X Z :=
  ⟨Nat.le_trans h.1 k.1, fun j hj hB => (k.2 j (by have := h.1; omega) hB).trans (h.2 j hj hB)⟩
theorem KZ.of_grown {B0 B1 : Nat} {W W' : World} {row : Option Nat} (h : W.grownBy W' row) (hr : ∀ r, row = some r → B0 ≤ r ∧ r < B1) : KZ B0 B1 W W' :=
  ⟨h.size, fun k hk hB => h.block k hk (fun e => by have := hr k e.symm; omega)⟩
theorem KZ.of_below {B0 B1 : Nat} {W W' : World} (h : Below W.heap.size W W') : KZ B0 B1 W W' := ⟨h.size, fun k hk _ => h.block k hk⟩
theorem KZ.cell {B0 B1 : Nat} {W W' : World} (h : KZ B0 B1 W W') {p : Addr} (hp : p.block < B0 ∨ B1 ≤ p.block) {v : Value} (hc : W.cell? p = some v) : W'.cell? p = some v :=
  (World.cell?_of_block (w := W) (h.2 p.block (World.block_lt_of_cell? W _ hc) hp)).trans hc
theorem KZ.keeps {B0 B1 B : Nat} {W W' : World} (h : KZ B0 B1 W W') (hB : B1 ≤ B) : KeepsFrom B W W' :=
  ⟨h.1, fun k o hk ho _ => (h.2 k (blk_lt ho) (.inr (by omega))).trans ho⟩
theorem KZ.kc {B0 B1 B : Nat} {W W' : World} (h : KZ B0 B1 W W') (hB : B1 ≤ B) : KC B W W' :=
  ⟨h.1, fun k c t f hk hc => (h.2 k (blk_lt hc) (.inr (by omega))).trans hc⟩
/-- The least of a number and a list. -/
def mlist (a : Int) (xs : List Int) : Int := xs.foldl (fun a y => if y < a then y else a) a
theorem mlist_snoc (a : Int) (xs : List Int) (y : Int) : mlist a (xs ++ [y]) = if y < mlist a xs then y else mlist a xs := by
  unfold mlist
  rw [List.foldl_append]
  rfl
set_option maxHeartbeats 2000000 in
set_option maxRecDepth 100000 in
theorem least_any (fst : Int) (gf : Nat) (lb : Array Value) (xs : List Int) (w : World) (eg : ∀ args w, (callFunc gf args).run Tryd.prog w = .ok (.enter gf args) w)
    (hit : ∀ W, Below w.heap.size w W → Iter2 Tryd.prog gf (fun y => #[] ++ #[y] ++ lb) (fun n : Int => #[.int .i64 n]) (KZ w.heap.size (W.heap.size + 2)) (KZ w.heap.size (W.heap.size + 2)) xs W) :
    Calls Tryd.prog 21 #[.int .i64 fst, .func (.func gf) #[] lb] w fun e w' => e = .returned (.int .i64 (mlist fst xs)) ∧ Below w.heap.size w w' := by
  refine calls_marks 8 Tryd.func21 rfl ?_
  simp only [Tryd.ntmps21, List.size_toArray, List.length_cons, List.length_nil, Nat.reduceAdd, Nat.reduceSub, Array.replicate_succ, Array.replicate_zero, List.push_toArray, List.append_toArray, List.nil_append, List.cons_append]
  have HIT := hid hit
  clear hit
  go_wp2
  obtain ⟨w0, hw0⟩ : ∃ w0, w.alloc (.cells #[.int .i64 fst] 3) = w0 := ⟨_, rfl⟩
  have hX : Blk w0 w.heap.size 3 #[.int .i64 fst] := by rw [← hw0]; exact Blk.new _ _ _
  have hb0 : Below w.heap.size w w0 := by rw [← hw0]; exact below_alloc (Below.refl _ _) _
  have hz0 : w0.heap.size = w.heap.size + 1 := by rw [← hw0]; simp
  rw [hw0]
  clear hw0
  refine wp_range2 (gf := gf) (first := #[]) (lb := lb) rfl eg (HIT.out w0 hb0) KZ.trans ?hKb (fun _ => rfl)
    (fun pre W => (W.cell? ⟨w.heap.size, 0, none⟩ = some (.int .i64 (mlist fst pre)) ∧ W.frozen? ⟨w.heap.size, 0, none⟩ = false) ∧ Below w.heap.size w W) (fun _ _ _ => False) (fun _ _ _ _ _ h _ => h.elim) ?hI ?hIx ?h0 ?a1 ?assign ?body ?done ?stop
  case assign => intro l x W K hK; gi_wp2; exact hK
  case hKb => exact fun W o o' hl ho => KZ.of_grown (grownBy_putObj' W _ o') (by rintro r ⟨⟩; omega)
  case hIx => exact fun _ => ownFrom_pure _ _
  case hI => exact OwnFrom.and (Own.from (fun s A B row hs hg hr => ⟨cell_kept hs.1 hg hr, (frozen_kept hs.1 hg hr).trans hs.2⟩) _) (ownFrom_below (Nat.le_refl _) (by omega))
  case h0 => exact ⟨⟨(hX.cell 0).trans rfl, hX.frozen 0⟩, hb0⟩
  case body =>
    intro l pre x W hpre ⟨⟨hc, hf⟩, hb⟩
    have hsn := hid (mlist_snoc fst pre x)
    obtain ⟨m, hm⟩ : ∃ m, mlist fst pre = m := ⟨_, rfl⟩
    rw [hm] at hc
    rw [hm] at hsn
    clear hX hb0 hpre hm
    have hlt := World.block_lt_of_cell? W _ hc
    by_cases hx : x < m
    all_goals
      have HX := hid hx
      gi_wp2
    all_goals
      have hgw : ∀ u, W.grownBy (W.setCell ⟨w.heap.size, 0, none⟩ u) (some w.heap.size) := fun u => grownBy_setCell' W _ u
      refine ⟨KeepsFrom.of_grownBy (hgw _) (by rintro j ⟨⟩; omega), KZ.of_grown (hgw _) (by rintro r ⟨⟩; omega), ⟨⟨?_, ?_⟩, hb.setCell (by exact Nat.le_refl _) _⟩⟩
      · rw [hsn.out]
        first | rw [if_pos (by have := HX.out; omega)] | rw [if_neg (by have := HX.out; omega)]
        exact World.cell?_setCell_same _ _ _ hc
      · simp [go_sem, hf]
  case stop => exact fun D c pre W _ _ h _ => h.elim
  case done =>
    intro D W hD ⟨⟨hc, hf⟩, hb⟩ hDd
    go_wp2
    refine m_ret1 (v := .int .i64 (mlist fst xs)) rfl hDd (by simp [results, Tryd.results21, go_sem]) ⟨rfl, below_put hb (by omega)⟩
end Go.Proofs.YtmfmlfaglemgfaaDoor
