/- incidence.Degrees, walked. -/
import Derived.Test.YtoiahjncpngkeaaDoorPt
import Derived.Test.YtoiahjncpngkeaaDoorCk
namespace Go.Proofs.YtoiahjncpngkeaaDoor
set_option linter.unusedSimpArgs false
set_option linter.unusedVariables false
open Go.RowKit Go.Lib Go.Shelf Go.Proofs.YtoiahjncpngkeaaDoorW.PrintWords
attribute [local go_sem] Oper.semAt_some

def incr (o : List Int) (p : Nat) : List Int := o.set p (rd o p + 1)
/-- The numbers of blocks through the points, as the loops reckon them. -/
def degP (o : List Int) (ps : List Nat) : List Int := ps.foldl incr o
def degL (V : Nat) (bs : List Nat) : List Int := bs.foldl (fun o b => degP o (ptsL b)) (List.replicate V 0)
theorem incr_len (o : List Int) (p : Nat) : (incr o p).length = o.length := by simp [incr]
theorem degP_len (ps : List Nat) : ∀ o, (degP o ps).length = o.length := by
  induction ps with
  | nil => simp [degP]
  | cons p r ih => intro o; simp only [degP, List.foldl_cons] at ih ⊢; rw [ih, incr_len]
theorem degL_len (V : Nat) (bs : List Nat) : (degL V bs).length = V := by
  have : ∀ (bs : List Nat) (o : List Int), (bs.foldl (fun o b => degP o (ptsL b)) o).length = o.length := by
    intro bs
    induction bs with
    | nil => simp
    | cons b r ih => intro o; rw [List.foldl_cons, ih, degP_len]
  rw [degL, this]; simp
theorem incr_bd {o : List Int} {m : Int} {p : Nat} (h : ∀ x ∈ o, 0 ≤ x ∧ x ≤ m) (hm : 0 ≤ m) : ∀ x ∈ incr o p, 0 ≤ x ∧ x ≤ m + 1 := by
  intro x hx
  rcases List.mem_or_eq_of_mem_set hx with h1 | h1
  · have := h x h1; omega
  · have : 0 ≤ rd o p ∧ rd o p ≤ m := by
      unfold rd
      rw [List.getD_eq_getElem?_getD]
      cases e : o[(p : Int).toNat]? with
      | none => simp; exact hm
      | some y => exact h y (List.mem_of_getElem? e)
    omega
theorem degP_bd (ps : List Nat) : ∀ {o : List Int} {m : Int}, (∀ x ∈ o, 0 ≤ x ∧ x ≤ m) → 0 ≤ m → ∀ x ∈ degP o ps, 0 ≤ x ∧ x ≤ m + ps.length := by
  induction ps with
  | nil => intro o m h _ x hx; simpa [degP] using h x hx
  | cons p r ih =>
    intro o m h hm x hx
    have := ih (o := incr o p) (m := m + 1) (incr_bd h hm) (by omega) x (by simpa [degP] using hx)
    simp; omega
theorem ptsF_length : ∀ (k s : Nat), (ptsF k s).length ≤ k
  | 0, s => by simp [ptsF]
  | k + 1, s => by
    rw [ptsF]
    split
    · simp
    · simp; exact ptsF_length k _
theorem degL_bd (V : Nat) (bs : List Nat) (h : ∀ b ∈ bs, b < 16384) : ∀ x ∈ degL V bs, 0 ≤ x ∧ x ≤ bs.length * 16384 := by
  have : ∀ (bs : List Nat) (o : List Int) (m : Int), (∀ b ∈ bs, b < 16384) → (∀ x ∈ o, 0 ≤ x ∧ x ≤ m) → 0 ≤ m → ∀ x ∈ bs.foldl (fun o b => degP o (ptsL b)) o, 0 ≤ x ∧ x ≤ m + bs.length * 16384 := by
    intro bs
    induction bs with
    | nil => intro o m _ h _ x hx; simpa using h x hx
    | cons b r ih =>
      intro o m hb h hm x hx
      have h1 := degP_bd (ptsL b) h hm
      have h2 : (ptsL b).length ≤ b := ptsF_length b b
      have h3 := hb b (by simp)
      have := ih (degP o (ptsL b)) (m + 16384) (fun b hb' => hb b (by simp [hb'])) (fun x hx => by have := h1 x hx; omega) (by omega) x (by simpa using hx)
      simp only [List.length_cons]; omega
  intro x hx
  have := this bs (List.replicate V 0) 0 h (fun x hx => by rw [(List.mem_replicate.1 hx).2]; omega) (by omega) x hx
  omega
theorem own_ownFrom {β : Type} (base : Nat) (e : TypeId) (size : Nat) (v : Value) (n : Nat) (f : β → List Value) : Own (fun s W => W.ownsRow base e size v n (f s)) := by
  intro s W W' row hs hg hr
  refine own_other hs hg ?_
  cases hv : v.ownBlock with
  | none => exact .inl rfl
  | some k =>
    refine .inr (fun e' => ?_)
    obtain ⟨o, ho, hc⟩ := hr k (by rw [← hv, ← e', hv])
    rcases hs.2 with ⟨rfl, _⟩ | ⟨g, cap, cur, rfl, _, hh, _⟩
    · simp [Value.ownBlock] at hv
    · have : g = k := by simpa [Value.ownBlock] using hv
      subst this
      rw [hh] at ho
      cases ho
      cases hc
theorem tab_own {β : Type} : Own (fun (_ : β) W => TabOk W) := fun s W W' row hs hg hr i hi => cell_kept (hs i hi) hg hr

theorem TabOk.set {W : World} (h : TabOk W) {p : Addr} (hp : p.block ≠ 0) (v : Value) : TabOk (W.setCell p v) := fun i hi => (World.cell?_setCell_far W p ⟨0, i, none⟩ v hp).trans (h i hi)
theorem Marked.ownFrom {β : Type} {B C : Nat} {ds : List Nat} (hC : ∀ D ∈ ds, D < C) : OwnFrom C (fun (_ : β) W => Marked B ds W) := by
  intro s W W' row h hg hr
  exact ⟨h.1, fun D hD => ⟨(h.2 D hD).1, (hg.block D (blk_lt (h.2 D hD).2) (fun e => by have := (hr D e.symm).1; have := hC D hD; omega)).trans (h.2 D hD).2⟩⟩
theorem Marked.set {B : Nat} {ds : List Nat} {W : World} {p : Addr} (h : Marked B ds W) (hp : p.block < B) (v : Value) : Marked B ds (W.setCell p v) :=
  ⟨h.1, fun D hD => ⟨(h.2 D hD).1, deferred_set v (h.2 D hD).2 (fun e => by have := (h.2 D hD).1; omega)⟩⟩
theorem Marked.lt {B : Nat} {ds : List Nat} {W : World} (h : Marked B ds W) : ∀ D ∈ ds, D < W.heap.size := fun D hD => blk_lt (h.2 D hD).2
theorem Marked.of_le {B B' : Nat} {ds : List Nat} {W : World} (h : Marked B ds W) (hB : B' ≤ B) : Marked B' ds W := ⟨h.1, fun D hD => ⟨by have := (h.2 D hD).1; omega, (h.2 D hD).2⟩⟩
theorem cell_ownFrom {β : Type} (C : Nat) (p : Addr) (v : Value) : OwnFrom C (fun (_ : β) W => W.cell? p = some v) := Own.from (fun s A B row hs hg hr => cell_kept hs hg hr) _
theorem degL_take (V : Nat) (bs : List Nat) {k : Nat} {b : Nat} (h : bs.take (k + 1) = bs.take k ++ [b]) : degL V (bs.take (k + 1)) = degP (degL V (bs.take k)) (ptsL b) := by
  rw [h]; simp [degL]
theorem rd_bd {o : List Int} {m : Int} {p : Nat} (h : ∀ x ∈ o, 0 ≤ x ∧ x ≤ m) (hm : 0 ≤ m) : 0 ≤ rd o p ∧ rd o p ≤ m := by
  unfold rd
  rw [List.getD_eq_getElem?_getD]
  cases e : o[(p : Int).toNat]? with
  | none => simp; exact hm
  | some y => exact h y (List.mem_of_getElem? e)
theorem own_storeI {W : World} {base g n cap : Nat} {e : TypeId} {k : IntKind} {xs : List Int} (h : W.ownsRow base e 1 (.slice (some ⟨g, 0, none⟩) n cap) n (nums k xs)) (i : Nat) (x : Int) :
    (W.setCell ⟨g, i, none⟩ (.int k x)).ownsRow base e 1 (.slice (some ⟨g, 0, none⟩) n cap) n (nums k (xs.set i x)) ∧ W.grownBy (W.setCell ⟨g, i, none⟩ (.int k x)) (some g) := by
  have hs := h.stored i (.int k x)
  have he : (nums k xs).set i (.int k x) = nums k (xs.set i x) := by simp [nums, List.map_set]
  rwa [he] at hs
theorem infoI : (Tryd.prog.info? 3).map (fun i => (i.zero, i.size, i.bytes)) = some (some (.int .i64 0), 1, 8) := by kernel_rfl
set_option maxHeartbeats 2000000 in
set_option maxRecDepth 100000 in
theorem degrees_any (V : Nat) (hV : V ≤ 16) (A : Option Addr) (n c : Nat) (bs : List Nat) (w : World) (hB : BlC w A n bs) (hn : n < 2 ^ 40) (hb14 : ∀ b ∈ bs, b < 16384) (hbV : ∀ b ∈ bs, ∀ p ∈ ptsL b, p < V) (hT : TabOk w) :
    Calls Tryd.prog 24 #[.agg #[.int .i64 V, .slice A n c]] w fun e w' => ∃ v, e = .returned v ∧ w'.ownsRow w.heap.size 3 1 v V (nums .i64 (degL V bs)) ∧ Below w.heap.size w w' := by
  have hu2 := Tryd.underlying31
  have hmk := print_make (P := Tryd.prog) 50 3 .i64 8 Tryd.underlying50 infoI (by decide) V (by omega)
  obtain ⟨hn1, _⟩ := id hB
  subst hn1
  have HBV := hid hbV
  clear hbV
  have HB14 := hid hb14
  clear hb14
  refine calls_marks 8 Tryd.func24 rfl ?_
  simp only [Tryd.ntmps24, List.size_toArray, List.length_cons, List.length_nil, Nat.reduceAdd, Nat.reduceSub, Array.replicate_succ, Array.replicate_zero, List.push_toArray, List.append_toArray, List.nil_append, List.cons_append]
  have hr0 : ((w.alloc (.cells #[.int .i64 V, .slice A bs.length c] 31)).alloc (.cells (madeCells #[.int .i64 0] V) 3)).ownsRow w.heap.size 3 1 (.slice (some ⟨w.heap.size + 1, 0, none⟩) V V) V (nums .i64 (List.replicate V 0)) := by
    have h := own_made (w.alloc (.cells #[.int .i64 V, .slice A bs.length c] 31)) w.heap.size 3 .i64 V (by simp) (by omega)
    simpa using h
  go_wp2
  obtain ⟨w0, hw0⟩ : ∃ w0, (((w.alloc (Obj.cells #[Value.int IntKind.i64 ↑V, Value.slice A bs.length c] 31)).alloc (Obj.cells (madeCells #[Value.int IntKind.i64 0] V) 3)).alloc (Obj.cells #[Value.slice (some { block := w.heap.size + 1, off := 0 }) V V] 50)) = w0 := ⟨_, rfl⟩
  have hz0 : w0.heap.size = w.heap.size + 3 := by rw [← hw0]; simp
  have hb0 : Below w.heap.size w w0 := by rw [← hw0]; exact below_alloc (below_alloc (below_alloc (Below.refl _ _) _) _) _
  have hc0 : w0.cell? ⟨w.heap.size + 2, 0, none⟩ = some (.slice (some ⟨w.heap.size + 1, 0, none⟩) V V) := by rw [← hw0]; simp [go_sem]
  have hro0 : w0.ownsRow w.heap.size 3 1 (.slice (some ⟨w.heap.size + 1, 0, none⟩) V V) V (nums .i64 (List.replicate V 0)) := by rw [← hw0]; exact hr0.alloc _
  rw [hw0]
  clear hr0 hw0
  refine wp_loop (fun a wr => ∃ (u5 u6 u14 u15 u16 u17 u18 u19 u20 u21 u22 u23 u24 u25 u26 u27 : Value) (k : Nat) (ds : List Nat),
    a = { tmps := #[.agg #[.int .i64 V, .slice A bs.length c], .pointer (some ⟨w.heap.size, 0, none⟩), .slice none 0 0, .pointer (some ⟨w.heap.size + 1 + 1, 0, none⟩), undef, u5, u6, .pointer (some ⟨w.heap.size, 0, none⟩), .int .i64 V,
      .slice (some ⟨w.heap.size + 1, 0, none⟩) V V, .pointer (some ⟨w.heap.size, 1, none⟩), .slice A bs.length c, .int .i64 bs.length, .int .i64 k, u14, u15, u16, u17, u18, u19, u20, u21, u22, u23, u24, u25, u26, u27], defers := marks ds } ∧
    k ≤ bs.length ∧ Marked (w.heap.size + 3) ds wr ∧ wr.ownsRow w.heap.size 3 1 (.slice (some ⟨w.heap.size + 1, 0, none⟩) V V) V (nums .i64 (degL V (bs.take k))) ∧
    wr.cell? ⟨w.heap.size + 2, 0, none⟩ = some (.slice (some ⟨w.heap.size + 1, 0, none⟩) V V) ∧ TabOk wr ∧ Below w.heap.size w wr) (fun a _ => bs.length - (intOf (a.tmps.getD 13 undef)).toNat) ?_ ?_
  · exact ⟨_, _, _, _, _, _, _, _, _, _, _, _, _, _, _, _, 0, [], rfl, by omega, Marked.nil _ _, hro0, hc0, hT.below hb0, hb0⟩
  rintro _ wr ⟨u5, u6, u14, u15, u16, u17, u18, u19, u20, u21, u22, u23, u24, u25, u26, u27, k, ds, rfl, hk, hm, ho, hcx, ht, hb⟩
  by_cases hlt : k < bs.length
  · obtain ⟨ad, b, e, hc, hb64, HT⟩ := (hB.below hb).at_ hlt
    cases e
    have hbx := HBV.out b HT.2.2
    have hpos : 0 < w.heap.size := World.block_lt_of_cell? w ⟨0, 0, none⟩ (hT 0 (by omega))
    have hb16 := HB14.out b HT.2.2
    have hw3 : w.heap.size + 2 < wr.heap.size := World.block_lt_of_cell? wr _ hcx
    have hlen : (ptsL b).length ≤ b := ptsF_length b b
    have HO := hid (degL_bd V (bs.take k) (fun x hx => HB14.out x (List.mem_of_mem_take hx)))
    clear hc0 hro0 hT
    go_wp2
    refine wp_range (gf := 47) (first := #[.int .u64 b]) (lb := #[]) rfl (enters_of Tryd.func47 (by kernel_rfl) rfl) (points_iter b wr.heap.size (by omega) wr ht)
      KT.trans ?hKb (fun _ => rfl)
      (fun pre W => (W.ownsRow w.heap.size 3 1 (.slice (some ⟨w.heap.size + 1, 0, none⟩) V V) V (nums .i64 (degP (degL V (bs.take k)) pre)) ∧ W.cell? ⟨w.heap.size + 2, 0, none⟩ = some (.slice (some ⟨w.heap.size + 1, 0, none⟩) V V)) ∧ TabOk W ∧ Below w.heap.size w W ∧ Marked (w.heap.size + 3) ds W)
      (fun _ _ _ => False) ?hI ?hIx ?h0 ?a1 ?assign ?body ?done ?stop
    case assign => intro l x W K hK; gi_wp2; exact hK
    case hKb => exact fun W l o o' hl hlo ho => ⟨KC.put hlo ho, fun h => h.put hlo ho⟩
    case hIx => exact fun _ => ownFrom_pure _ _
    case hI => exact OwnFrom.and (OwnFrom.and (Own.from (own_ownFrom _ _ _ _ _ (fun pre => nums .i64 (degP (degL V (bs.take k)) pre))) _) (cell_ownFrom _ _ _)) (OwnFrom.and (Own.from tab_own _) (OwnFrom.and (ownFrom_below (Nat.le_refl _) (by omega)) (Marked.ownFrom hm.lt)))
    case h0 => exact ⟨⟨ho, hcx⟩, ht, hb, hm⟩
    case body =>
      intro l pre p W hpre ⟨⟨ho', hcx'⟩, ht', hb', hm'⟩
      have hpm : p ∈ ptsL b := hpre.subset (by simp)
      have hpV := hbx p hpm
      obtain ⟨ha1, ha2⟩ := own_at ho' p (by omega) (by omega)
      simp only [Int.toNat_natCast] at ha1 ha2
      obtain ⟨hs1, hs2⟩ := own_storeI ho' p (rd (degP (degL V (bs.take k)) pre) p + 1)
      have hrd : 0 ≤ rd (degP (degL V (bs.take k)) pre) p ∧ rd (degP (degL V (bs.take k)) pre) p < 2 ^ 60 := by
        have h1 := degP_bd pre HO.out (by omega)
        have h2 : pre.length ≤ (ptsL b).length := by have := hpre.length_le; simp at this; omega
        have h3 := rd_bd (p := p) h1 (by omega)
        have h4 : (bs.take k).length ≤ bs.length := by simp; omega
        omega
      have hne : (⟨w.heap.size + 1, p, none⟩ : Addr).block < w.heap.size + 3 := by simp
      clear hbx hpre HO HT
      gi_wp2
      exact ⟨KeepsFrom.of_grownBy hs2 (by rintro j ⟨⟩; omega), ⟨KC.set _ (show w.heap.size + 1 < _ by omega) _, fun t => t.set (show w.heap.size + 1 ≠ 0 by omega) _⟩,
        ⟨by simpa [degP, incr] using hs1, (World.cell?_setCell_far _ _ _ _ (show w.heap.size + 1 ≠ w.heap.size + 2 by omega)).trans hcx'⟩, ht'.set (show w.heap.size + 1 ≠ 0 by omega) _, hb'.setCell (show w.heap.size ≤ w.heap.size + 1 by omega) _, hm'.set hne _⟩
    case stop => exact fun D c pre W _ _ h _ => h.elim
    case done =>
      intro D W hD ⟨⟨ho', hcx'⟩, ht', hb', hm'⟩ hDd
      have hm2 : marks (D :: ds) = { target := .collected D, args := #[] } :: marks ds := rfl
      rw [← hm2]
      have hM : Marked (w.heap.size + 3) (D :: ds) W := ⟨List.nodup_cons.2 ⟨fun h => by have := hm.lt D h; omega, hm'.1⟩, fun E hE => by
        rcases List.mem_cons.1 hE with rfl | hE
        · exact ⟨by omega, hDd⟩
        · exact hm'.2 E hE⟩
      go_wp2
      refine ⟨⟨_, _, _, _, _, _, _, _, _, _, _, _, _, _, _, _, k + 1, D :: ds, rfl, by omega, hM, ?_, hcx', ht', hb'⟩, ?_⟩
      · rw [degL_take V bs (b := b) ?_]
        · exact ho'
        · exact HT.1
      · simp [intOf]; omega
  · have : k = bs.length := by omega
    subst this
    rw [List.take_length] at ho
    have hP := putAll_own (own_ownFrom w.heap.size 3 1 (.slice (some ⟨w.heap.size + 1, 0, none⟩) V V) V (fun _ : Unit => nums .i64 (degL V bs))) (s := ()) ds wr hm ho
    have hcP := putAll_own (I := fun (_ : Unit) W => W.cell? ⟨w.heap.size + 2, 0, none⟩ = some (.slice (some ⟨w.heap.size + 1, 0, none⟩) V V)) (fun s A B row hs hg hr => cell_kept hs hg hr) (s := ()) ds wr hm hcx
    go_wp2
    refine m_rets (v := .slice (some ⟨w.heap.size + 1, 0, none⟩) V V) rfl hm (by simp [results, Tryd.results24, go_sem]) ⟨_, rfl, hP, ?_⟩
    exact putAll_below ds wr (hm.of_le (by omega)) hb
end Go.Proofs.YtoiahjncpngkeaaDoor
