/- embed.Best where there is a best embedding. -/
/- embed.Best where there is none. -/
/- embed.Of, walked. -/
/- plexusref06.Shuffled, walked. -/
/- The image of a structure under a list of points, in plain Lean. -/
/- Between this claim's contracts and the printed ones: the answers of embed's functions. -/
import Derived.Test.YtgegjhgifeobdaaLu
import Derived.Test.YtgegjhgifeobdaaRx
import Derived.Test.YtgegjhgifeobdaaIi
namespace Go.Proofs.Ytgegjhgifeobdaa
set_option linter.unusedSimpArgs false
set_option linter.unusedVariables false
open Go.RowKit Go.Lib Go.Shelf Go.Proofs.YtgegjhgifeobdaaW.PrintWords
attribute [local go_sem] Oper.semAt_some

def embM (bs cs ds f : List Nat) : List Int := alongM bs cs f (queueN bs.length ds)
def keptN (bs cs ds f : List Nat) : Nat := (keptL (embM bs cs ds f) (il ds)).length
def stepB (bs cs ds : List Nat) (s : (List Nat × List Int) × Int) (f : List Nat) : (List Nat × List Int) × Int :=
  if s.2 < (keptN bs cs ds f : Int) then ((f, embM bs cs ds f), (keptN bs cs ds f : Int)) else s
def foldB (bs cs ds : List Nat) (fs : List (List Nat)) : (List Nat × List Int) × Int := fs.foldl (stepB bs cs ds) (([], []), -1)

def isMap (B : Nat) (cs : List Nat) (W : World) (v : Value) : Prop := ∃ bl, v = .map (some bl) ∧ B ≤ bl ∧ bl < W.heap.size ∧ Pl W bl cs
def isCell (B : Nat) (t : TypeId) (u : Value) (W : World) (v : Value) : Prop := ∃ g, v = .pointer (some ⟨g, 0, none⟩) ∧ B ≤ g ∧ Blk W g t #[u]
theorem isMap.below {B : Nat} {cs : List Nat} {W W' : World} {v : Value} (h : isMap B cs W v) (hb : Below W.heap.size W W') : isMap B cs W' v := by
  obtain ⟨bl, h1, h2, h3, h4⟩ := h
  exact ⟨bl, h1, h2, Nat.lt_of_lt_of_le h3 hb.size, h4.kept (grown_of_below hb none) (by simp)⟩
theorem isCell.below {B : Nat} {t : TypeId} {u : Value} {W W' : World} {v : Value} (h : isCell B t u W v) (hb : Below W.heap.size W W') : isCell B t u W' v := by
  obtain ⟨g, h1, h2, h3⟩ := h
  exact ⟨g, h1, h2, h3.below hb h3.lt⟩
theorem isMap.set {B g : Nat} {cs : List Nat} {W : World} {v : Value} {t : TypeId} {c : Array Value} (h : isMap B cs W v) (hg : Blk W g t c) (u : Value) : isMap B cs (W.setCell ⟨g, 0, none⟩ u) v := by
  obtain ⟨bl, h1, h2, h3, h4⟩ := h
  refine ⟨bl, h1, h2, by simpa [go_sem] using h3, h4.kept (grownBy_setCell' W g u) ?_⟩
  intro e
  injection e with e
  subst e
  obtain ⟨D, ⟨es, ck, hh, _⟩, _⟩ := h4
  rw [hg] at hh
  cases hh
theorem isCell.set {B g : Nat} {t t' : TypeId} {u' : Value} {W : World} {v : Value} {c : Array Value} (h : isCell B t u' W v) (hg : Blk W g t' c) (ht : t ≠ t') (u : Value) : isCell B t u' (W.setCell ⟨g, 0, none⟩ u) v := by
  obtain ⟨g', h1, h2, h3⟩ := h
  exact ⟨g', h1, h2, h3.far (h3.ne_ hg ht) u⟩
theorem row_set {B g n : Nat} {e t : TypeId} {W : World} {v : Value} {xs : List Value} {c : Array Value} (h : W.ownsRow B e 1 v n xs) (hg : Blk W g t c) (ht : e ≠ t) (u : Value) : (W.setCell ⟨g, 0, none⟩ u).ownsRow B e 1 v n xs :=
  own_other h (grownBy_setCell' W g u) (.inr (own_blk_ne h hg ht))

theorem own_ownFrom0 {w W' : World} {C base : Nat} {e : TypeId} {size : Nat} {v : Value} {n : Nat} {xs : List Value} {row : Option Nat} (hs : w.ownsRow base e size v n xs) (hg : w.grownBy W' row) (hr : ∀ r, row = some r → C ≤ r ∧ ∃ o : Obj, w.heap[r]? = some o ∧ o.isCells = false) : W'.ownsRow base e size v n xs := by
  refine own_other hs hg ?_
  cases hv : v.ownBlock with
  | none => exact .inl rfl
  | some k =>
    refine .inr (fun e' => ?_)
    obtain ⟨_, o, ho, hc⟩ := hr k (by rw [← hv, ← e', hv])
    rcases hs.2 with ⟨rfl, _⟩ | ⟨g, cap, cur, rfl, _, hh, _⟩
    · simp [Value.ownBlock] at hv
    · have : g = k := by simpa [Value.ownBlock] using hv
      subst this
      rw [hh] at ho
      cases ho
      cases hc
/-- What stands between two rounds: the best embedding so far. -/
def InvB (bs cs ds : List Nat) (w4 : World) (pre : List (List Nat)) (W : World) : Prop :=
  Below w4.heap.size w4 W ∧ ∃ v1 v2, Blk W w4.heap.size 38 #[v1, v2] ∧ Blk W (w4.heap.size + 1) 3 #[.int .i64 (foldB bs cs ds pre).2] ∧
    W.ownsRow w4.heap.size 3 1 v1 (foldB bs cs ds pre).1.1.length (nums .i64 (il (foldB bs cs ds pre).1.1)) ∧ W.ownsRow w4.heap.size 3 1 v2 (foldB bs cs ds pre).1.2.length (nums .i64 (foldB bs cs ds pre).1.2) ∧ ND v1 v2
theorem InvB.own {bs cs ds : List Nat} {w4 : World} {C : Nat} (hC : w4.heap.size ≤ C) : OwnFrom C (InvB bs cs ds w4) := by
  rintro s W W' row ⟨h1, v1, v2, h2, h3, h4, h5, h6⟩ hg hr
  have hne : ∀ (g : Nat) (t : TypeId) (c : Array Value), Blk W g t c → some g ≠ row := fun g t c hb e => by
    obtain ⟨_, o, ho, hc⟩ := hr g e.symm
    rw [hb] at ho
    cases ho
    cases hc
  exact ⟨h1.grown hg h1.size (fun k e => Nat.le_trans hC (hr k e).1), v1, v2, h2.grown hg (hne _ _ _ h2), h3.grown hg (hne _ _ _ h3), own_ownFrom0 h4 hg hr, own_ownFrom0 h5 hg hr, h6⟩
theorem foldB_snoc (bs cs ds : List Nat) (pre : List (List Nat)) (x : List Nat) : foldB bs cs ds (pre ++ [x]) = stepB bs cs ds (foldB bs cs ds pre) x := by simp [foldB]
theorem InvB.take {bs cs ds x : List Nat} {w4 W w9 : World} {pre : List (List Nat)} {v1 v2 v3 v4 : Value} (hbW : Below w4.heap.size w4 W) (kb : Blk W w4.heap.size 38 #[v1, v2]) (km : Blk W (w4.heap.size + 1) 3 #[.int .i64 (foldB bs cs ds pre).2])
    (hb : Below W.heap.size W w9) (r3 : w9.ownsRow W.heap.size 3 1 v3 x.length (nums .i64 (il x))) (r4 : w9.ownsRow W.heap.size 3 1 v4 bs.length (nums .i64 (embM bs cs ds x))) (hlt : (foldB bs cs ds pre).2 < (keptN bs cs ds x : Int)) (hnd : ND v3 v4) :
    InvB bs cs ds w4 (pre ++ [x]) (((w9.setCell ⟨w4.heap.size, 0, none⟩ v3).setCell ⟨w4.heap.size, 1, none⟩ v4).setCell ⟨w4.heap.size + 1, 0, none⟩ (.int .i64 (keptN bs cs ds x))) := by
  have hl : (embM bs cs ds x).length = bs.length := by have := r4.1; simpa [nums] using this
  have h1 := kb.below hb kb.lt
  have h2 := km.below hb km.lt
  have hG : w4.heap.size < W.heap.size := kb.lt
  have hG1 : w4.heap.size + 1 < W.heap.size := km.lt
  have hbw9 : Below w4.heap.size w4 w9 := below_then hbW hbW.size hb
  have own : ∀ (v : Value) (n : Nat) (xs : List Value), w9.ownsRow W.heap.size 3 1 v n xs → (((w9.setCell ⟨w4.heap.size, 0, none⟩ v3).setCell ⟨w4.heap.size, 1, none⟩ v4).setCell ⟨w4.heap.size + 1, 0, none⟩ (.int .i64 (keptN bs cs ds x))).ownsRow w4.heap.size 3 1 v n xs := fun v n xs h => by
    have n0 : some w4.heap.size ≠ v.ownBlock := fun e => by have := (h.lt _ e.symm).1; omega
    have n1 : some (w4.heap.size + 1) ≠ v.ownBlock := fun e => by have := (h.lt _ e.symm).1; omega
    exact own_less (own_other (own_other (own_other h (grownBy_setCell _ _ _ _) (.inr n0.symm)) (grownBy_setCell _ _ _ _) (.inr n0.symm)) (grownBy_setCell _ _ _ _) (.inr n1.symm)) (by omega)
  rw [InvB, foldB_snoc, stepB, if_pos hlt]
  refine ⟨((hbw9.setCell (p := ⟨w4.heap.size, 0, none⟩) (Nat.le_refl _) _).setCell (p := ⟨w4.heap.size, 1, none⟩) (Nat.le_refl _) _).setCell (p := ⟨w4.heap.size + 1, 0, none⟩) (Nat.le_succ _) _, v3, v4, ?_, ?_, own _ _ _ r3, by rw [hl]; exact own _ _ _ r4, hnd⟩
  · have := ((h1.set_ 0 v3).set_ 1 v4).far (p := ⟨w4.heap.size + 1, 0, none⟩) (by simp) (.int .i64 (keptN bs cs ds x))
    simpa using this
  · have := (((h2.far (p := ⟨w4.heap.size, 0, none⟩) (by simp) v3).far (p := ⟨w4.heap.size, 1, none⟩) (by simp) v4)).set_ 0 (.int .i64 (keptN bs cs ds x))
    simpa using this
theorem InvB.skip {bs cs ds x : List Nat} {w4 W w9 : World} {pre : List (List Nat)} (h : InvB bs cs ds w4 pre W) (hb : Below W.heap.size W w9) (hlt : ¬ (foldB bs cs ds pre).2 < (keptN bs cs ds x : Int)) : InvB bs cs ds w4 (pre ++ [x]) w9 := by
  obtain ⟨h1, v1, v2, h2, h3, h4, h5, h6⟩ := h
  rw [InvB, foldB_snoc, stepB, if_neg hlt]
  exact ⟨below_then h1 h1.size hb, v1, v2, h2.below hb h2.lt, h3.below hb h3.lt, pw_own_below h4 hb, pw_own_below h5 hb, h6⟩
theorem keeps_take {B G : Nat} {W w9 : World} (hG : G + 1 < B) (hb : Below W.heap.size W w9) (v3 v4 v5 : Value) :
    KeepsFrom B W (((w9.setCell ⟨G, 0, none⟩ v3).setCell ⟨G, 1, none⟩ v4).setCell ⟨G + 1, 0, none⟩ v5) :=
  (((KeepsFrom.of_grownBy (grown_of_below hb none) (by rintro j ⟨⟩)).trans (KeepsFrom.of_grownBy (grownBy_setCell _ _ _ _) (by rintro j ⟨⟩; omega))).trans (KeepsFrom.of_grownBy (grownBy_setCell _ _ _ _) (by rintro j ⟨⟩; omega))).trans (KeepsFrom.of_grownBy (grownBy_setCell _ _ _ _) (by rintro j ⟨⟩; omega))
theorem KC_take {B G : Nat} {W w9 : World} (hG : G + 1 < B) (hb : Below W.heap.size W w9) (v3 v4 v5 : Value) :
    KC B W (((w9.setCell ⟨G, 0, none⟩ v3).setCell ⟨G, 1, none⟩ v4).setCell ⟨G + 1, 0, none⟩ v5) :=
  (((KC.of_below hb).trans (KC.set _ (show G < _ by omega) _)).trans (KC.set _ (show G < _ by omega) _)).trans (KC.set _ (show G + 1 < _ by omega) _)
theorem withL_permE (bs : List Nat) (b : Nat) : (withL bs b).Perm (b :: bs) := by
  unfold withL
  rw [List.append_assoc]
  have := List.perm_middle (a := b) (l₁ := bs.take (wat bs b)) (l₂ := bs.drop (wat bs b))
  rwa [List.take_append_drop] at this
theorem sortedL_permE (l : List Nat) : (sortedL l).Perm l := by
  have : ∀ (l acc : List Nat), (l.foldl withL acc).Perm (l ++ acc) := by
    intro l
    induction l with
    | nil => intro acc; exact List.Perm.refl _
    | cons x r ih =>
      intro acc
      refine (ih _).trans ?_
      refine (List.Perm.append_left r (withL_permE acc x)).trans ?_
      exact List.perm_middle
  simpa [sortedL] using this l []
theorem sortedL_len (bs : List Nat) : (sortedL bs).length = bs.length := (sortedL_permE bs).length_eq
theorem queueN_lt {n : Nat} {ds : List Nat} (h : ∀ i ∈ ds, i < n) : ∀ i ∈ queueN n ds, i < n := by
  intro i hi
  rw [queueN, List.mem_append] at hi
  rcases hi with hi | hi
  · exact h i ((sortedL_permE ds).mem_iff.1 hi)
  · exact List.mem_range.1 ((List.mem_filter.1 hi).1)
theorem queueN_len {n : Nat} {ds : List Nat} : (queueN n ds).length ≤ ds.length + n := by
  rw [queueN, List.length_append, sortedL_len]
  have := List.length_filter_le (fun i => !decide (i ∈ ds)) (List.range n)
  rw [List.length_range] at this
  omega
theorem kept_own {M : List Int} {ds : List Nat} {A D : Option Addr} {n c cD base : Nat} {F : Value} {W : World} (hF : F.oneCell' = true) (r : W.ownsRow base 3 1 (.slice A n c) n (nums .i64 M)) (hD : IC W D ds.length (il ds)) (hl : ds.length < 2 ^ 40) :
    Calls Try.prog 48 #[.agg #[F, .slice A n c], .slice D ds.length cD] W fun e w' =>
      ∃ v, e = .returned v ∧ w'.ownsRow W.heap.size 3 1 v (keptL M (il ds)).length (nums .i64 (keptL M (il ds))) ∧ Below W.heap.size W w' := by
  obtain ⟨A', c', e', _, _, hC⟩ := own_IC r
  injection e' with e1 _ e2
  subst e1 e2
  have hln := hC.len
  subst hln
  have := kept_any F A c M D cD (il ds) W hF hC (by rw [il_length]; exact hD) (by rw [il_length]; exact hl)
  rwa [il_length] at this
abbrev tM : TypeId := 74
abbrev tS : TypeId := 32
/-- What stands while region 7 is carried out in any order. -/
structure S7 (w2 : World) (AGA AGB SLD : Value) (cs qs : List Nat) (L : Nat → Bool) (w : World) (y0 y1 y2 y3 y4 y5 y6 : Value) : Prop where
  bel : Below w2.heap.size w2 w
  h0 : L 0 = true → y0 = AGB
  h1 : L 1 = true → isMap w2.heap.size cs w y1
  h2 : L 2 = true → y2 = AGA
  h3 : L 3 = true → y3 = SLD
  h4 : L 4 = true → w.ownsRow w2.heap.size 3 1 y4 qs.length (nums .i64 (il qs))
  h5 : L 5 = true → isCell w2.heap.size tM (if L 7 then y1 else .map none) w y5
  h6 : L 6 = true → isCell w2.heap.size tS (if L 8 then y4 else .slice none 0 0) w y6
  h7 : L 7 = true → L 1 = true ∧ L 5 = true
  h8 : L 8 = true → L 4 = true ∧ L 6 = true
section
variable {w2 w w' : World} {AGA AGB SLD : Value} {cs qs : List Nat} {L : Nat → Bool} {y0 y1 y2 y3 y4 y5 y6 v : Value}
theorem S7.op0 (h : S7 w2 AGA AGB SLD cs qs L w y0 y1 y2 y3 y4 y5 y6) : S7 w2 AGA AGB SLD cs qs (put1 L 0) w AGB y1 y2 y3 y4 y5 y6 := ⟨h.bel, fun _ => rfl, h.h1, h.h2, h.h3, h.h4, h.h5, h.h6, h.h7, h.h8⟩
theorem S7.op2 (h : S7 w2 AGA AGB SLD cs qs L w y0 y1 y2 y3 y4 y5 y6) : S7 w2 AGA AGB SLD cs qs (put1 L 2) w y0 y1 AGA y3 y4 y5 y6 := ⟨h.bel, h.h0, h.h1, fun _ => rfl, h.h3, h.h4, h.h5, h.h6, h.h7, h.h8⟩
theorem S7.op3 (h : S7 w2 AGA AGB SLD cs qs L w y0 y1 y2 y3 y4 y5 y6) : S7 w2 AGA AGB SLD cs qs (put1 L 3) w y0 y1 y2 SLD y4 y5 y6 := ⟨h.bel, h.h0, h.h1, h.h2, fun _ => rfl, h.h4, h.h5, h.h6, h.h7, h.h8⟩
theorem S7.n7 (h : S7 w2 AGA AGB SLD cs qs L w y0 y1 y2 y3 y4 y5 y6) (hf : L 1 = false ∨ L 5 = false) : L 7 = false := by
  cases e : L 7
  · rfl
  · obtain ⟨h1, h2⟩ := h.h7 e
    rcases hf with hf | hf <;> simp_all
theorem S7.n8 (h : S7 w2 AGA AGB SLD cs qs L w y0 y1 y2 y3 y4 y5 y6) (hf : L 4 = false ∨ L 6 = false) : L 8 = false := by
  cases e : L 8
  · rfl
  · obtain ⟨h1, h2⟩ := h.h8 e
    rcases hf with hf | hf <;> simp_all
theorem S7.call1 (h : S7 w2 AGA AGB SLD cs qs L w y0 y1 y2 y3 y4 y5 y6) (hf : L 1 = false) (hb : Below w.heap.size w w') (hm : isMap w2.heap.size cs w' v) : S7 w2 AGA AGB SLD cs qs (put1 L 1) w' y0 v y2 y3 y4 y5 y6 :=
  ⟨below_then h.bel h.bel.size hb, h.h0, fun _ => hm, h.h2, h.h3, fun e => pw_own_below (h.h4 e) hb, fun e => by
    have := (h.h5 e).below hb
    show isCell _ _ (if L 7 then _ else _) _ _
    rw [h.n7 (.inl hf)] at this ⊢
    exact this, fun e => (h.h6 e).below hb, fun e => ⟨rfl, (h.h7 e).2⟩, h.h8⟩
theorem S7.call4 (h : S7 w2 AGA AGB SLD cs qs L w y0 y1 y2 y3 y4 y5 y6) (hf : L 4 = false) (hb : Below w.heap.size w w') (hm : w'.ownsRow w2.heap.size 3 1 v qs.length (nums .i64 (il qs))) : S7 w2 AGA AGB SLD cs qs (put1 L 4) w' y0 y1 y2 y3 v y5 y6 :=
  ⟨below_then h.bel h.bel.size hb, h.h0, fun e => (h.h1 e).below hb, h.h2, h.h3, fun _ => hm, fun e => (h.h5 e).below hb, fun e => by
    have := (h.h6 e).below hb
    show isCell _ _ (if L 8 then _ else _) _ _
    rw [h.n8 (.inl hf)] at this ⊢
    exact this, h.h7, fun e => ⟨rfl, (h.h8 e).2⟩⟩
theorem S7.alloc5 (h : S7 w2 AGA AGB SLD cs qs L w y0 y1 y2 y3 y4 y5 y6) (hf : L 5 = false) : S7 w2 AGA AGB SLD cs qs (put1 L 5) (w.alloc (.cells #[.map none] tM)) y0 y1 y2 y3 y4 (.pointer (some ⟨w.heap.size, 0, none⟩)) y6 :=
  have hb := below_alloc (Below.refl w.heap.size w) (.cells #[Value.map none] tM)
  ⟨below_then h.bel h.bel.size hb, h.h0, fun e => (h.h1 e).below hb, h.h2, h.h3, fun e => pw_own_below (h.h4 e) hb, fun _ => by
    show isCell _ _ (if L 7 then _ else _) _ _
    rw [h.n7 (.inr hf)]
    exact ⟨_, rfl, h.bel.size, Blk.new _ _ _⟩, fun e => (h.h6 e).below hb, fun e => ⟨(h.h7 e).1, rfl⟩, h.h8⟩
theorem S7.alloc6 (h : S7 w2 AGA AGB SLD cs qs L w y0 y1 y2 y3 y4 y5 y6) (hf : L 6 = false) : S7 w2 AGA AGB SLD cs qs (put1 L 6) (w.alloc (.cells #[.slice none 0 0] tS)) y0 y1 y2 y3 y4 y5 (.pointer (some ⟨w.heap.size, 0, none⟩)) :=
  have hb := below_alloc (Below.refl w.heap.size w) (.cells #[Value.slice none 0 0] tS)
  ⟨below_then h.bel h.bel.size hb, h.h0, fun e => (h.h1 e).below hb, h.h2, h.h3, fun e => pw_own_below (h.h4 e) hb, fun e => (h.h5 e).below hb, fun _ => by
    show isCell _ _ (if L 8 then _ else _) _ _
    rw [h.n8 (.inr hf)]
    exact ⟨_, rfl, h.bel.size, Blk.new _ _ _⟩, h.h7, fun e => ⟨(h.h8 e).1, rfl⟩⟩
theorem S7.store7 {g : Nat} {c : Array Value} (h : S7 w2 AGA AGB SLD cs qs L w y0 y1 y2 y3 y4 y5 y6) (d1 : L 1 = true) (d5 : L 5 = true) (hg : y5 = .pointer (some ⟨g, 0, none⟩)) (hgB : w2.heap.size ≤ g) (hc : Blk w g tM #[.map none]) : S7 w2 AGA AGB SLD cs qs (put1 L 7) (w.setCell ⟨g, 0, none⟩ y1) y0 y1 y2 y3 y4 y5 y6 :=
  ⟨h.bel.setCell (p := ⟨g, 0, none⟩) hgB _, h.h0, fun e => (h.h1 e).set hc _, h.h2, h.h3, fun e => row_set (h.h4 e) hc (by decide) _, fun _ => ⟨g, hg, hgB, hc.set_ 0 y1⟩, fun e => (h.h6 e).set hc (by decide) _, fun _ => ⟨d1, d5⟩, h.h8⟩
theorem S7.store8 {g : Nat} {c : Array Value} (h : S7 w2 AGA AGB SLD cs qs L w y0 y1 y2 y3 y4 y5 y6) (d1 : L 4 = true) (d5 : L 6 = true) (hg : y6 = .pointer (some ⟨g, 0, none⟩)) (hgB : w2.heap.size ≤ g) (hc : Blk w g tS #[.slice none 0 0]) : S7 w2 AGA AGB SLD cs qs (put1 L 8) (w.setCell ⟨g, 0, none⟩ y4) y0 y1 y2 y3 y4 y5 y6 :=
  ⟨h.bel.setCell (p := ⟨g, 0, none⟩) hgB _, h.h0, fun e => (h.h1 e).set hc _, h.h2, h.h3, fun e => row_set (h.h4 e) hc (by decide) _, fun e => (h.h5 e).set hc (by decide) _, fun _ => ⟨g, hg, hgB, hc.set_ 0 y4⟩, h.h7, fun _ => ⟨d1, d5⟩⟩
end

theorem best_end {W w w4 : World} {r D n1 n2 : Nat} {A1 A2 : Option Addr} {c1 c2 : Nat} {xs1 xs2 : List Value} {cs : Array Value} {a : Act} (hr : Blk W r 38 cs) (hdef : W.heap[D]? = some (.deferred (some []))) (hbW : Below w4.heap.size w4 W) (hrw : w.heap.size ≤ r) (hr4 : r < w4.heap.size) (hrD : w4.heap.size ≤ D)
    (r1 : W.ownsRow w4.heap.size 3 1 (.slice A1 n1 c1) n1 xs1) (r2 : W.ownsRow w4.heap.size 3 1 (.slice A2 n2 c2) n2 xs2) (hd : a.defers = [{ target := .collected D, args := #[] }]) (ht6 : a.tmps.getD 6 undef = .pointer (some ⟨r, 0, none⟩)) (ht7 : a.tmps.getD 7 undef = .int .i64 0) (hb04 : Below w.heap.size w w4) (hnd : ND (.slice A1 n1 c1) (.slice A2 n2 c2)) (hcs : cs = #[.slice none 0 0, .slice none 0 0] := by rfl) :
    bodyPostM Fence.wide 8 Try.prog Try.f26 (fun e w' => ∃ v1 v2, e = .returned (.tuple #[.agg #[v1, v2], .int .i64 0]) ∧ w'.ownsRow w.heap.size 3 1 v1 n1 xs1 ∧ w'.ownsRow w.heap.size 3 1 v2 n2 xs2 ∧ Below w.heap.size w w' ∧ ND v1 v2) .ret a ((W.setCell ⟨r, 0, none⟩ (.slice A1 n1 c1)).setCell ⟨r, 1, none⟩ (.slice A2 n2 c2)) := by
  subst hcs
  have hue := Try.underlying38
  have hK2 := deferred_set (p := ⟨r, 1, none⟩) (.slice A2 n2 c2) (deferred_set (p := ⟨r, 0, none⟩) (.slice A1 n1 c1) hdef (show r ≠ D by omega)) (show r ≠ D by omega)
  have hr2 := (hr.set_ 0 (.slice A1 n1 c1)).set_ 1 (.slice A2 n2 c2)
  obtain ⟨W2, hW2⟩ : ∃ W2, (W.setCell ⟨r, 0, none⟩ (.slice A1 n1 c1)).setCell ⟨r, 1, none⟩ (.slice A2 n2 c2) = W2 := ⟨_, rfl⟩
  have own : ∀ (v : Value) (n : Nat) (xs : List Value), W.ownsRow w4.heap.size 3 1 v n xs → (W2.putObj D (.deferred none)).ownsRow w.heap.size 3 1 v n xs := fun v n xs h => by
    have n0 : some r ≠ v.ownBlock := fun e => by have := (h.lt _ e.symm).1; omega
    have h2 : W2.ownsRow w4.heap.size 3 1 v n xs := by rw [← hW2]; exact own_other (own_other h (grownBy_setCell _ _ _ _) (.inr n0.symm)) (grownBy_setCell _ _ _ _) (.inr n0.symm)
    exact own_less (own_ownFrom0 (C := 0) h2 (grownBy_putObj' W2 D _) (fun q e => by cases e; exact ⟨Nat.zero_le _, _, by rw [← hW2]; exact hK2, rfl⟩)) (by have := hb04.size; omega)
  have hbelow : Below w.heap.size w (W2.putObj D (.deferred none)) := by
    refine below_put ?_ (by have := hb04.size; omega)
    rw [← hW2]
    exact ((below_then hb04 hb04.size hbW).setCell (p := ⟨r, 0, none⟩) hrw _).setCell (p := ⟨r, 1, none⟩) hrw _
  rw [hW2] at hK2 hr2 ⊢
  have e0 := cell_put (o' := .deferred none) hK2 rfl ((hr2.cell 0).trans rfl)
  have e1 := cell_put (o' := .deferred none) hK2 rfl ((hr2.cell 1).trans rfl)
  refine m_ret1 (v := .tuple #[.agg #[.slice A1 n1 c1, .slice A2 n2 c2], .int .i64 0]) (D := D) hd hK2 ?_ ⟨_, _, rfl, own _ _ _ r1, own _ _ _ r2, hbelow, hnd⟩
  simp at ht6 ht7
  simp at e0 e1
  simp [results, Try.results26, go_sem, ht6, ht7, e0, e1, hue]
set_option maxHeartbeats 2000000 in
set_option maxRecDepth 100000 in
theorem best_ok (V U cA cC cD : Nat) (A C D : Option Addr) (bs cs ds : List Nat) (w : World) (hV : V ≤ 5) (hU : U ≤ 7) (hVU : V ≤ U) (hB : BlC w A bs.length bs) (hC : BlC w C cs.length cs) (hD : IC w D ds.length (il ds))
    (hdb : ∀ i ∈ ds, i < bs.length) (hdn : ds.Nodup) (hd12 : ds.length ≤ 12) (hdl : ds.length ≤ bs.length) (hbl : bs.length ≤ 2 ^ 19) (hcl : cs.length ≤ 2 ^ 20) :
    Calls Try.prog 26 #[.agg #[.int .i64 V, .slice A bs.length cA], .agg #[.int .i64 U, .slice C cs.length cC], .slice D ds.length cD] w fun e w' =>
      ∃ v1 v2, e = .returned (.tuple #[.agg #[v1, v2], .int .i64 0]) ∧ w'.ownsRow w.heap.size 3 1 v1 (foldB bs cs ds (lsL U V [])).1.1.length (nums .i64 (il (foldB bs cs ds (lsL U V [])).1.1)) ∧
        w'.ownsRow w.heap.size 3 1 v2 (foldB bs cs ds (lsL U V [])).1.2.length (nums .i64 (foldB bs cs ds (lsL U V [])).1.2) ∧ Below w.heap.size w w' ∧ ND v1 v2 := by
  have hui := Try.underlying29
  have hue := Try.underlying38
  have hdiff : diffB (il ds) (bs.length : Int) = true := diffB_iff.2 ⟨fun x hx => by obtain ⟨i, hi, rfl⟩ := List.mem_map.1 hx; have := hdb i hi; exact ⟨by simp, by simpa using this⟩, by
    unfold il List.Nodup; rw [List.pairwise_map]; exact hdn.imp (fun h e => h (by omega))⟩
  have DIF := hid (show ∀ W, Below w.heap.size w W → _ from fun W hb => different_any D cD (il ds) (bs.length : Int) W (by rw [il_length]; exact Kd.C_below hD hb) (by rw [il_length]; omega) (fun x hx => by obtain ⟨i, hi, rfl⟩ := List.mem_map.1 hx; have := hdb i hi; simp [Lit.wf, IntKind.min, IntKind.max, IntKind.signed, IntKind.bits]; omega))
  rw [hdiff, il_length] at DIF
  have g5 : ¬ (5 : Int) < V := by omega
  have g7 : ¬ (7 : Int) < U := by omega
  have gV : ¬ (U : Int) < V := by omega
  refine calls_marks 8 Try.func26 rfl ?_
  simp only [Try.ntmps26, List.size_toArray, List.length_cons, List.length_nil, Nat.reduceAdd, Nat.reduceSub, Array.replicate_succ, Array.replicate_zero, List.push_toArray, List.append_toArray, List.nil_append, List.cons_append]
  go_upto_region 3 with (fail)
  obtain ⟨w1, hw1⟩ : ∃ w1, ((((w.alloc (.cells #[.int .i64 V, .slice A bs.length cA] 29)).alloc (.cells #[.int .i64 U, .slice C cs.length cC] 29)).alloc (.cells #[.slice D ds.length cD] 32)).alloc (.cells #[.slice none 0 0, .slice none 0 0] 38)) = w1 := ⟨_, rfl⟩
  have hb1 : Below w.heap.size w w1 := by rw [← hw1]; exact below_alloc (below_alloc (below_alloc (below_alloc (Below.refl _ _) _) _) _) _
  have hz1 : w1.heap.size = w.heap.size + 4 := by rw [← hw1]; simp
  have ka : Blk w1 w.heap.size 29 #[.int .i64 V, .slice A bs.length cA] := by rw [← hw1]; exact (((Blk.new _ _ _).alloc _).alloc _).alloc _
  have kb : Blk w1 (w.heap.size + 1) 29 #[.int .i64 U, .slice C cs.length cC] := by rw [← hw1]; refine (Blk.alloc (Blk.alloc (g := w.heap.size + 1) ?_ _) _); simpa using Blk.new (w.alloc (.cells #[.int .i64 V, .slice A bs.length cA] 29)) 29 #[.int .i64 U, .slice C cs.length cC]
  have kd : Blk w1 (w.heap.size + 1 + 1) 32 #[.slice D ds.length cD] := by rw [← hw1]; refine (Blk.alloc (g := w.heap.size + 1 + 1) ?_ _); simpa using Blk.new ((w.alloc (.cells #[.int .i64 V, .slice A bs.length cA] 29)).alloc (.cells #[.int .i64 U, .slice C cs.length cC] 29)) 32 #[.slice D ds.length cD]
  have kr : Blk w1 (w.heap.size + 1 + 1 + 1) 38 #[.slice none 0 0, .slice none 0 0] := by rw [← hw1]; simpa using Blk.new (((w.alloc (.cells #[.int .i64 V, .slice A bs.length cA] 29)).alloc (.cells #[.int .i64 U, .slice C cs.length cC] 29)).alloc (.cells #[.slice D ds.length cD] 32)) 38 #[.slice none 0 0, .slice none 0 0]
  have a0 : w1.cell? ⟨w.heap.size, 0, none⟩ = some (.int .i64 V) := (ka.cell 0).trans rfl
  have a1 : w1.cell? ⟨w.heap.size, 1, none⟩ = some (.slice A bs.length cA) := (ka.cell 1).trans rfl
  have b0 : w1.cell? ⟨w.heap.size + 1, 0, none⟩ = some (.int .i64 U) := (kb.cell 0).trans rfl
  have b1 : w1.cell? ⟨w.heap.size + 1, 1, none⟩ = some (.slice C cs.length cC) := (kb.cell 1).trans rfl
  have d0 : w1.cell? ⟨w.heap.size + 1 + 1, 0, none⟩ = some (.slice D ds.length cD) := (kd.cell 0).trans rfl
  have KA := hid ka
  have KB := hid kb
  have KD := hid kd
  have KR := hid kr
  have HB := hid hB
  have HC := hid hC
  have HD := hid hD
  rw [hw1]
  clear hw1 ka kb kd kr hB hC hD hdiff
  go_upto_region 7 with (go_at_call 28; refine (DIF.out _ (by exact hb1)).mono ?_; rintro e w2 ⟨rfl, hb2⟩; have a0' := (hb2.cell (p := ⟨w.heap.size, 0, none⟩) (show w.heap.size < _ by omega)).trans a0; have b0' := (hb2.cell (p := ⟨w.heap.size + 1, 0, none⟩) (show w.heap.size + 1 < _ by omega)).trans b0)
  have hb02 : Below w.heap.size w w2 := below_then hb1 (by omega) hb2
  have hz2 : w.heap.size + 4 ≤ w2.heap.size := by have := hb2.size; omega
  have HCELL : Hid (∀ W, Below w2.heap.size w2 W → W.cell? ⟨w.heap.size, 0, none⟩ = some (.int .i64 V) ∧ W.cell? ⟨w.heap.size, 1, none⟩ = some (.slice A bs.length cA) ∧ W.cell? ⟨w.heap.size + 1, 0, none⟩ = some (.int .i64 U) ∧ W.cell? ⟨w.heap.size + 1, 1, none⟩ = some (.slice C cs.length cC) ∧ W.cell? ⟨w.heap.size + 1 + 1, 0, none⟩ = some (.slice D ds.length cD)) :=
    (show ∀ W, _ from fun W hb => by
      have kc : ∀ b o, b < w1.heap.size → W.cell? ⟨b, o, none⟩ = w1.cell? ⟨b, o, none⟩ := fun b o h => (hb.cell (p := ⟨b, o, none⟩) (Nat.lt_of_lt_of_le h hb2.size)).trans (hb2.cell (p := ⟨b, o, none⟩) h)
      exact ⟨(kc _ _ (by omega)).trans a0, (kc _ _ (by omega)).trans a1, (kc _ _ (by omega)).trans b0, (kc _ _ (by omega)).trans b1, (kc _ _ (by omega)).trans d0⟩)
  have FIND := hid (fun W (h : Below w2.heap.size w2 W) => find_any (.int .i64 U) C cC cs W rfl (HC.out.below (below_then hb02 hb02.size h)) hcl)
  have QUE := hid (fun W (h : Below w2.heap.size w2 W) => queue_any (.int .i64 V) A cA bs.length D cD ds W rfl (Kd.C_below HD.out (below_then hb02 hb02.size h)) hdl hd12 (by omega))
  clear a0 a1 b0 b1 d0 a0' b0' DIF
  generalize decide (U < V) = bq
  refine (wpIn_wide (n := 8)).1 ?_
  obtain ⟨vv, hvv⟩ : ∃ vv : Nat → Value, vv = fun i => (#[] : Array Value).getD i undef := ⟨_, rfl⟩
  have mk : ∀ (L : Nat → Bool) (a' : Act) (w' : World), a' = ({ tmps := #[.agg #[.int .i64 V, .slice A bs.length cA], .agg #[.int .i64 U, .slice C cs.length cC], .slice D ds.length cD, .pointer (some ⟨w.heap.size, 0, none⟩), .pointer (some ⟨w.heap.size + 1, 0, none⟩), .pointer (some ⟨w.heap.size + 1 + 1, 0, none⟩), .pointer (some ⟨w.heap.size + 1 + 1 + 1, 0, none⟩), .int .i64 0, a'.tmps.getD ((#[37, 38, 39, 40, 41, 8, 9, 64, 65] : Array Nat).getD (5) 0) undef, a'.tmps.getD ((#[37, 38, 39, 40, 41, 8, 9, 64, 65] : Array Nat).getD (6) 0) undef, undef, undef, undef, undef, undef, .pointer (some ⟨w.heap.size, 0, none⟩), .int .i64 V, .bool false, .bool false, .pointer (some ⟨w.heap.size + 1, 0, none⟩), .int .i64 U, .bool false, .bool false, undef, .slice D ds.length cD, .pointer (some ⟨w.heap.size, 1, none⟩), .slice A bs.length cA, .int .i64 bs.length, .bool true, .bool false, undef, .pointer (some ⟨w.heap.size, 0, none⟩), .int .i64 V, .pointer (some ⟨w.heap.size + 1, 0, none⟩), .int .i64 U, .bool bq, undef, a'.tmps.getD ((#[37, 38, 39, 40, 41, 8, 9, 64, 65] : Array Nat).getD (0) 0) undef, a'.tmps.getD ((#[37, 38, 39, 40, 41, 8, 9, 64, 65] : Array Nat).getD (1) 0) undef, a'.tmps.getD ((#[37, 38, 39, 40, 41, 8, 9, 64, 65] : Array Nat).getD (2) 0) undef, a'.tmps.getD ((#[37, 38, 39, 40, 41, 8, 9, 64, 65] : Array Nat).getD (3) 0) undef, a'.tmps.getD ((#[37, 38, 39, 40, 41, 8, 9, 64, 65] : Array Nat).getD (4) 0) undef, undef, undef, undef, undef, undef, undef, undef, undef, undef, undef, undef, undef, undef, undef, undef, undef, undef, undef, undef, undef, undef, undef], defers := [] } : Act) → (∀ j < 0, L j = true → a'.tmps.getD ((#[37, 38, 39, 40, 41, 8, 9, 64, 65] : Array Nat).getD (j) 0) undef = vv j) → (fun (L : Nat → Bool) (wz : World) (y : Nat → Value) => S7 w2 (.agg #[.int .i64 V, .slice A bs.length cA]) (.agg #[.int .i64 U, .slice C cs.length cC]) (.slice D ds.length cD) cs (queueN bs.length ds) L wz (y 0) (y 1) (y 2) (y 3) (y 4) (y 5) (y 6)) L w' (fun m => a'.tmps.getD ((#[37, 38, 39, 40, 41, 8, 9, 64, 65] : Array Nat).getD (m) 0) undef) → ∃ y : Nat → Value, a' = ({ tmps := #[.agg #[.int .i64 V, .slice A bs.length cA], .agg #[.int .i64 U, .slice C cs.length cC], .slice D ds.length cD, .pointer (some ⟨w.heap.size, 0, none⟩), .pointer (some ⟨w.heap.size + 1, 0, none⟩), .pointer (some ⟨w.heap.size + 1 + 1, 0, none⟩), .pointer (some ⟨w.heap.size + 1 + 1 + 1, 0, none⟩), .int .i64 0, y 5, y 6, undef, undef, undef, undef, undef, .pointer (some ⟨w.heap.size, 0, none⟩), .int .i64 V, .bool false, .bool false, .pointer (some ⟨w.heap.size + 1, 0, none⟩), .int .i64 U, .bool false, .bool false, undef, .slice D ds.length cD, .pointer (some ⟨w.heap.size, 1, none⟩), .slice A bs.length cA, .int .i64 bs.length, .bool true, .bool false, undef, .pointer (some ⟨w.heap.size, 0, none⟩), .int .i64 V, .pointer (some ⟨w.heap.size + 1, 0, none⟩), .int .i64 U, .bool bq, undef, y 0, y 1, y 2, y 3, y 4, undef, undef, undef, undef, undef, undef, undef, undef, undef, undef, undef, undef, undef, undef, undef, undef, undef, undef, undef, undef, undef, undef], defers := [] } : Act) ∧ (∀ j < 0, L j = true → y j = vv j) ∧ (fun (L : Nat → Bool) (wz : World) (y : Nat → Value) => S7 w2 (.agg #[.int .i64 V, .slice A bs.length cA]) (.agg #[.int .i64 U, .slice C cs.length cC]) (.slice D ds.length cD) cs (queueN bs.length ds) L wz (y 0) (y 1) (y 2) (y 3) (y 4) (y 5) (y 6)) L w' y := fun L a' w' h1 h2 h3 => ⟨fun m => a'.tmps.getD ((#[37, 38, 39, 40, 41, 8, 9, 64, 65] : Array Nat).getD (m) 0) undef, h1, h2, h3⟩
  refine wpIn_region_inv2 (by kernel_rfl) (fun L aI wI => ∃ y : Nat → Value, aI = ({ tmps := #[.agg #[.int .i64 V, .slice A bs.length cA], .agg #[.int .i64 U, .slice C cs.length cC], .slice D ds.length cD, .pointer (some ⟨w.heap.size, 0, none⟩), .pointer (some ⟨w.heap.size + 1, 0, none⟩), .pointer (some ⟨w.heap.size + 1 + 1, 0, none⟩), .pointer (some ⟨w.heap.size + 1 + 1 + 1, 0, none⟩), .int .i64 0, y 5, y 6, undef, undef, undef, undef, undef, .pointer (some ⟨w.heap.size, 0, none⟩), .int .i64 V, .bool false, .bool false, .pointer (some ⟨w.heap.size + 1, 0, none⟩), .int .i64 U, .bool false, .bool false, undef, .slice D ds.length cD, .pointer (some ⟨w.heap.size, 1, none⟩), .slice A bs.length cA, .int .i64 bs.length, .bool true, .bool false, undef, .pointer (some ⟨w.heap.size, 0, none⟩), .int .i64 V, .pointer (some ⟨w.heap.size + 1, 0, none⟩), .int .i64 U, .bool bq, undef, y 0, y 1, y 2, y 3, y 4, undef, undef, undef, undef, undef, undef, undef, undef, undef, undef, undef, undef, undef, undef, undef, undef, undef, undef, undef, undef, undef, undef], defers := [] } : Act) ∧ (∀ j < 0, L j = true → y j = vv j) ∧ (fun (L : Nat → Bool) (wz : World) (y : Nat → Value) => S7 w2 (.agg #[.int .i64 V, .slice A bs.length cA]) (.agg #[.int .i64 U, .slice C cs.length cC]) (.slice D ds.length cD) cs (queueN bs.length ds) L wz (y 0) (y 1) (y 2) (y 3) (y 4) (y 5) (y 6)) L wI y) ?acyc ?start ?step ?rdone
  case acyc => exact fun i o ho => acyc_of2 (by kernel_rfl) i o ho
  case start => exact mk (fun _ => false) _ _ rfl (fun _ _ h => by cases h) (by exact ⟨below_drew (Below.refl _ _), (fun h => nomatch h), (fun h => nomatch h), (fun h => nomatch h), (fun h => nomatch h), (fun h => nomatch h), (fun h => nomatch h), (fun h => nomatch h), (fun h => nomatch h), (fun h => nomatch h)⟩)
  case step =>
    rintro i o L a wx ho hLi hdep ⟨y, rfl, hy, hWI⟩ K hK
    have hi : i < 9 := (Array.getElem?_eq_some_iff.1 ho).1
    rcases i with _ | _ | _ | _ | _ | _ | _ | _ | _ | i
    · obtain rfl := Option.some.inj ho
      clear hdep ho
      obtain ⟨qa0, qa1, qb0, qb1, qd0⟩ := HCELL.out _ hWI.bel
      go_simp
      refine hK _ _ (mk _ _ _ rfl ?_ ?_)
      rotate_left
      · exact hWI.op0
      · intro j hj h
        rcases j with j
        all_goals first | (rw [hvv]; rfl) | exact hy _ (by omega) (by simpa [put1] using h) | (exfalso; omega)
    · obtain rfl := Option.some.inj ho
      have d0 : L 0 = true := hdep ⟨0, .data⟩ (by simp) rfl
      clear hdep ho
      rw [hWI.h0 d0]
      go_simp
      gi_wp2_with (refine ⟨trivial, ?_⟩; gi_at_call 30; refine (callsIn_wide.2 (FIND.out _ hWI.bel)).mono ?_; rintro e w' ⟨b, rfl, hbb, hbl', hpl, hbw⟩)
      refine mk _ _ _ rfl ?_ ?_
      rotate_left
      · exact (by have hh := hWI.call1 hLi hbw ⟨b, rfl, Nat.le_trans hWI.bel.size hbb, hbl', hpl⟩; rw [hWI.h0 d0] at hh; exact hh)
      · intro j hj h
        rcases j with j
        all_goals first | (rw [hvv]; rfl) | exact hy _ (by omega) (by simpa [put1] using h) | (exfalso; omega)
    · obtain rfl := Option.some.inj ho
      clear hdep ho
      obtain ⟨qa0, qa1, qb0, qb1, qd0⟩ := HCELL.out _ hWI.bel
      go_simp
      refine hK _ _ (mk _ _ _ rfl ?_ ?_)
      rotate_left
      · exact hWI.op2
      · intro j hj h
        rcases j with j
        all_goals first | (rw [hvv]; rfl) | exact hy _ (by omega) (by simpa [put1] using h) | (exfalso; omega)
    · obtain rfl := Option.some.inj ho
      clear hdep ho
      obtain ⟨qa0, qa1, qb0, qb1, qd0⟩ := HCELL.out _ hWI.bel
      go_simp
      refine hK _ _ (mk _ _ _ rfl ?_ ?_)
      rotate_left
      · exact hWI.op3
      · intro j hj h
        rcases j with j
        all_goals first | (rw [hvv]; rfl) | exact hy _ (by omega) (by simpa [put1] using h) | (exfalso; omega)
    · obtain rfl := Option.some.inj ho
      have d2 : L 2 = true := hdep ⟨2, .data⟩ (by simp) rfl
      have d3 : L 3 = true := hdep ⟨3, .data⟩ (by simp) rfl
      have d1 : L 1 = true := hdep ⟨1, .chain⟩ (by simp) rfl
      clear hdep ho
      rw [hWI.h2 d2, hWI.h3 d3]
      go_simp
      gi_wp2_with (refine ⟨trivial, ?_⟩; gi_at_call 31; refine (callsIn_wide.2 (QUE.out _ hWI.bel)).mono ?_; rintro e w' ⟨v, rfl, hrow, hbw⟩)
      refine mk _ _ _ rfl ?_ ?_
      rotate_left
      · exact (by have hh := hWI.call4 hLi hbw (own_less hrow hWI.bel.size); rw [hWI.h2 d2, hWI.h3 d3] at hh; exact hh)
      · intro j hj h
        rcases j with j
        all_goals first | (rw [hvv]; rfl) | exact hy _ (by omega) (by simpa [put1] using h) | (exfalso; omega)
    · obtain rfl := Option.some.inj ho
      clear hdep ho
      go_simp
      refine hK _ _ (mk _ _ _ rfl ?_ ?_)
      rotate_left
      · exact hWI.alloc5 hLi
      · intro j hj h
        rcases j with j
        all_goals first | (rw [hvv]; rfl) | exact hy _ (by omega) (by simpa [put1] using h) | (exfalso; omega)
    · obtain rfl := Option.some.inj ho
      clear hdep ho
      go_simp
      refine hK _ _ (mk _ _ _ rfl ?_ ?_)
      rotate_left
      · exact hWI.alloc6 hLi
      · intro j hj h
        rcases j with j
        all_goals first | (rw [hvv]; rfl) | exact hy _ (by omega) (by simpa [put1] using h) | (exfalso; omega)
    · obtain rfl := Option.some.inj ho
      have d5 : L 5 = true := hdep ⟨5, .data⟩ (by simp) rfl
      have d1 : L 1 = true := hdep ⟨1, .data⟩ (by simp) rfl
      have d4 : L 4 = true := hdep ⟨4, .chain⟩ (by simp) rfl
      clear hdep ho
      have n7 : L 7 = false := hLi
      obtain ⟨g, hg, hgB, hblk⟩ := hWI.h5 d5
      rw [n7] at hblk
      obtain ⟨bl, hy1, _⟩ := hWI.h1 d1
      have hcg := (hblk.cell 0).trans rfl
      have hfg := hblk.frozen 0
      rw [hg, hy1]
      go_simp
      refine hK _ _ (mk _ _ _ rfl ?_ ?_)
      rotate_left
      · exact (by have hh := hWI.store7 (c := #[]) d1 d5 hg hgB hblk; rw [hg, hy1] at hh; exact hh)
      · intro j hj h
        rcases j with j
        all_goals first | (rw [hvv]; rfl) | exact hy _ (by omega) (by simpa [put1] using h) | (exfalso; omega)
    · obtain rfl := Option.some.inj ho
      have d6 : L 6 = true := hdep ⟨6, .data⟩ (by simp) rfl
      have d4 : L 4 = true := hdep ⟨4, .data⟩ (by simp) rfl
      have d7 : L 7 = true := hdep ⟨7, .chain⟩ (by simp) rfl
      clear hdep ho
      have n8 : L 8 = false := hLi
      obtain ⟨g, hg, hgB, hblk⟩ := hWI.h6 d6
      rw [n8] at hblk
      obtain ⟨A4, c4, hy4⟩ := own_slice (hWI.h4 d4)
      have hcg := (hblk.cell 0).trans rfl
      have hfg := hblk.frozen 0
      rw [hg, hy4]
      go_simp
      refine hK _ _ (mk _ _ _ rfl ?_ ?_)
      rotate_left
      · exact (by have hh := hWI.store8 (c := #[]) d4 d6 hg hgB hblk; rw [hg, hy4] at hh; exact hh)
      · intro j hj h
        rcases j with j
        all_goals first | (rw [hvv]; rfl) | exact hy _ (by omega) (by simpa [put1] using h) | (exfalso; omega)
    · exfalso; omega
  case rdone =>
    rintro L a w4 hall ⟨y, rfl, hy, hWI⟩
    obtain ⟨bl, hy1, hblB, hbls, hpl⟩ := hWI.h1 (hall 1 (by decide))
    have hro := hWI.h4 (hall 4 (by decide))
    obtain ⟨g8, hy5, hg8, k8⟩ := hWI.h5 (hall 5 (by decide))
    rw [if_pos (hall 7 (by decide)), hy1] at k8
    obtain ⟨g9, hy6, hg9, k9⟩ := hWI.h6 (hall 6 (by decide))
    rw [if_pos (hall 8 (by decide))] at k9
    obtain ⟨AO, cO, hy4⟩ := own_slice hro
    rw [hy4] at k9 hro
    have hb4 := hWI.bel
    have hz4 : w.heap.size + 4 ≤ w4.heap.size := by have := hb4.size; omega
    have hb04 : Below w.heap.size w w4 := below_then hb02 hb02.size hb4
    obtain ⟨qa0, qa1, qb0, qb1, qd0⟩ := HCELL.out _ hb4
    rw [hy1, hy4, hy5, hy6]
    generalize y 0 = y0
    generalize y 2 = y2
    generalize y 3 = y3
    clear mk hvv hy hall hWI hy1 hy4 hy5 hy6
    go_upto_region 9 with (fail)
    obtain ⟨w5, hw5⟩ : ∃ w5, ((w4.alloc (.cells #[.slice none 0 0, .slice none 0 0] 38)).alloc (.cells #[.int .i64 (-1)] 3)) = w5 := ⟨_, rfl⟩
    have hb45 : Below w4.heap.size w4 w5 := by rw [← hw5]; exact below_alloc (below_alloc (Below.refl _ _) _) _
    have hz5 : w4.heap.size + 2 ≤ w5.heap.size := by rw [← hw5]; simp
    have kbest : Blk w5 w4.heap.size 38 #[.slice none 0 0, .slice none 0 0] := by rw [← hw5]; exact (Blk.new _ _ _).alloc _
    have kmost : Blk w5 (w4.heap.size + 1) 3 #[.int .i64 (-1)] := by rw [← hw5]; simpa using Blk.new (w4.alloc (.cells #[.slice none 0 0, .slice none 0 0] 38)) 3 #[.int .i64 (-1)]
    rw [hw5]
    clear hw5
    have pa0 := (hb45.cell (p := ⟨w.heap.size, 0, none⟩) (show w.heap.size < _ by omega)).trans qa0
    have pb0 := (hb45.cell (p := ⟨w.heap.size + 1, 0, none⟩) (show w.heap.size + 1 < _ by omega)).trans qb0
    go_wp2_with (go_at_call 47; refine (lists_any U V w5).mono ?_; rintro e w6 ⟨rfl, hck, hcn, hb6, hz6⟩; replace hz6 := Nat.le_of_eq hz6.symm)
    have hb46 : Below w4.heap.size w4 w6 := below_then hb45 (by omega) hb6
    have l8 := k8.lt
    have l9 := k9.lt
    have HC4 : Hid (∀ W, Below w4.heap.size w4 W → W.cell? ⟨w.heap.size, 0, none⟩ = some (.int .i64 V) ∧ W.cell? ⟨w.heap.size, 1, none⟩ = some (.slice A bs.length cA) ∧ W.cell? ⟨w.heap.size + 1 + 1, 0, none⟩ = some (.slice D ds.length cD) ∧ W.cell? ⟨g8, 0, none⟩ = some (.map (some bl)) ∧ W.cell? ⟨g9, 0, none⟩ = some (.slice AO (queueN bs.length ds).length cO)) :=
      (show ∀ W, _ from fun W hb => by
        have kc : ∀ b o, b < w4.heap.size → W.cell? ⟨b, o, none⟩ = w4.cell? ⟨b, o, none⟩ := fun b o h => (hb.cell (p := ⟨b, o, none⟩) h)
        exact ⟨(kc _ _ (by omega)).trans qa0, (kc _ _ (by omega)).trans qa1, (kc _ _ (by omega)).trans qd0, (kc _ _ l8).trans ((k8.cell 0).trans rfl), (kc _ _ l9).trans ((k9.cell 0).trans rfl)⟩)
    have HI6 : Hid (InvB bs cs ds w4 [] w6) := (show InvB _ _ _ _ _ _ from ⟨hb46, _, _, kbest.below hb6 kbest.lt, kmost.below hb6 kmost.lt, World.ownsRow_nil _ _ _ _, World.ownsRow_nil _ _ _ _, .inl rfl⟩)
    have HALONG : Hid (∀ (W : World) (x : List Nat) (AF : Option Addr) (cF : Nat), Below w4.heap.size w4 W → W.ownsRow w5.heap.size 3 1 (.slice AF x.length cF) x.length (nums .i64 (il x)) → x.length ≤ 60 → (∀ q ∈ x, q < 60) →
        Calls Try.prog 29 #[.agg #[.int .i64 V, .slice A bs.length cA], .map (some bl), .slice AF x.length cF, .slice AO (queueN bs.length ds).length cO] W fun e w' =>
          ∃ v1 v2, e = .returned (.agg #[v1, v2]) ∧ w'.ownsRow W.heap.size 3 1 v1 x.length (nums .i64 (il x)) ∧ w'.ownsRow W.heap.size 3 1 v2 bs.length (nums .i64 (embM bs cs ds x)) ∧ Below W.heap.size W w' ∧ ND v1 v2) :=
      (show ∀ (W : World) (x : List Nat) (AF : Option Addr) (cF : Nat), _ from fun W x AF cF hb hR hx1 hx2 => by
        obtain ⟨_, _, e1, _, _, hF⟩ := own_IC hR
        injection e1 with e1 _ e2
        subst e1 e2
        obtain ⟨_, _, e1, _, _, hO⟩ := own_IC (pw_own_below hro hb)
        injection e1 with e1 _ e2
        subst e1 e2
        exact along_any (.int .i64 V) A AF AO cA cF cO bl bs cs x (queueN bs.length ds) W rfl (HB.out.below (below_then hb04 hb04.size hb)) (hpl.kept (grown_of_below hb none) (by simp)) (Nat.lt_of_lt_of_le hbls hb.size) hF hx1 hx2 hO (queueN_lt hdb) (by have := queueN_len (n := bs.length) (ds := ds); omega) (by omega) hcl)
    have HIC : Hid (∀ W, Below w4.heap.size w4 W → IC W D ds.length (il ds)) := (show ∀ W, _ from fun W hb => Kd.C_below HD.out (below_then hb04 hb04.size hb))
    have hr0 : Blk w4 (w.heap.size + 1 + 1 + 1) 38 #[.slice none 0 0, .slice none 0 0] := (KR.out.below hb2 (by omega)).below hb4 (by omega)
    have HR0 := hid hr0
    clear k8 k9 kbest kmost qa0 qa1 qb0 qb1 qd0 hro hpl HCELL FIND QUE pa0 pb0 hr0
    refine wp_rangeM (gf := 55) (first := #[]) (lb := #[.pointer (some ⟨w5.heap.size + 1, 0, none⟩), .pointer (some ⟨w5.heap.size, 0, none⟩)]) rfl (enters_of Try.func55 (by kernel_rfl) rfl)
      (lists_iter U V w5.heap.size (w5.heap.size + 1) w5.heap.size w6 (by omega) (by omega) (Nat.le_succ _) (Nat.le_refl _) (by omega) (by omega) hck hcn) KC.trans ?hKb ?hR
      (InvB bs cs ds w4) ?hI HI6.out ?a1 ?assign ?body ?done
    case assign => intro l v W K hK; gi_wp2; exact hK
    case hKb => exact fun W o o' hl ho => KC.put hl ho
    case hR => exact fun x v W o o' h hl ho => own_KC h (KC.put (B := w5.heap.size) hl ho) (Nat.le_refl _)
    case hI => exact InvB.own (by omega)
    case body =>
      intro l pre x v W hpre hRx hInv
      have HInv := hid hInv
      obtain ⟨hbW, v1, v2, kb, km, r1, r2, hnd0⟩ := hInv
      obtain ⟨AF, cF, rfl⟩ := own_slice hRx
      obtain ⟨hxl, hxU, _⟩ := lsL_mem (hpre.subset (List.mem_append_right pre (List.mem_singleton_self x))) (fun _ h => by cases h) List.nodup_nil
      have hxl' : x.length = V := by simpa using hxl
      have AL := hid (HALONG.out W x AF cF hbW hRx (by omega) (fun q hq => by have := hxU q hq; omega))
      obtain ⟨c0, c1, c2, c8, c9⟩ := HC4.out W hbW
      obtain ⟨mo, hmo⟩ : ∃ mo, (foldB bs cs ds pre).2 = mo := ⟨_, rfl⟩
      obtain ⟨kn, hkn⟩ : ∃ kn, keptN bs cs ds x = kn := ⟨_, rfl⟩
      clear hxl hxl' hxU hnd0
      have hWz : w4.heap.size ≤ W.heap.size := hbW.size
      have HIC4 := hid (fun (w8 : World) (h : Below W.heap.size W w8) => HIC.out w8 (below_then hbW hWz h))
      have hG : w4.heap.size < W.heap.size := kb.lt
      have hG1 : w4.heap.size + 1 < W.heap.size := km.lt
      have hkb0 : W.cell? ⟨w4.heap.size, 0, none⟩ = some v1 := (kb.cell 0).trans rfl
      have hkb1 : W.cell? ⟨w4.heap.size, 1, none⟩ = some v2 := (kb.cell 1).trans rfl
      have hkm0 : W.cell? ⟨w4.heap.size + 1, 0, none⟩ = some (.int .i64 mo) := (km.cell 0).trans (by rw [hmo]; rfl)
      have fkb0 := kb.frozen 0
      have fkb1 := kb.frozen 1
      have fkm0 := km.frozen 0
      have HKB := hid kb
      have HKM := hid km
      have HMO := hid hmo
      have HKN := hid hkn
      clear kb km hmo hkn
      by_cases hlt : mo < (kn : Int)
      · gi_wp2_with (first | (refine ⟨trivial, ?_⟩; gi_at_call 29; refine (CallsIn.inRound l (callsIn_wide.2 AL.out)).mono ?_; rintro e w7 ⟨v3, v4, rfl, r3, r4, hb7, hnd⟩; obtain ⟨A3, c3, rfl⟩ := own_slice r3; obtain ⟨A4, c4, rfl⟩ := own_slice r4; have R3 := hid r3; have R4 := hid r4; have HND := hid hnd; clear r3 r4 hnd; have c2' := (hb7.cell (p := ⟨w.heap.size + 1 + 1, 0, none⟩) (show w.heap.size + 1 + 1 < _ by omega)).trans c2; have l27 : w.heap.size + 1 + 1 < w7.heap.size := Nat.lt_of_lt_of_le (show _ < W.heap.size by omega) hb7.size) | (refine ⟨trivial, ?_⟩; gi_at_call 48; refine (CallsIn.inRound l (callsIn_wide.2 (kept_own (M := embM bs cs ds x) rfl (R4.out.alloc _) (HIC4.out _ (below_alloc hb7 _)) (by omega)))).mono ?_; rintro e w9 ⟨v5, rfl, r5, hb9⟩; rw [show (keptL (embM bs cs ds x) (il ds)).length = kn from HKN.out] at r5; obtain ⟨A5, c5, rfl⟩ := own_slice r5; have hE : Blk w9 w7.heap.size 38 #[.slice A3 x.length c3, .slice A4 bs.length c4] := (Blk.new w7 _ _).below hb9 (by simp); have hE0 := (hE.cell 0).trans rfl; have hE1 := (hE.cell 1).trans rfl; have HB9 := hid (show Below W.heap.size W w9 from below_then (below_alloc hb7 _) (by have := hb7.size; simp; omega) hb9); have R39 := hid (pw_own_below (R3.out.alloc _) hb9); have R49 := hid (pw_own_below (R4.out.alloc _) hb9); have z0 := (HB9.out.cell (p := ⟨w4.heap.size, 0, none⟩) hG).trans hkb0; have z1 := (HB9.out.cell (p := ⟨w4.heap.size, 1, none⟩) hG).trans hkb1; have z2 := (HB9.out.cell (p := ⟨w4.heap.size + 1, 0, none⟩) hG1).trans hkm0; have y0f := (HB9.out.frozen (p := ⟨w4.heap.size, 0, none⟩) hG).trans fkb0; have y1f := (HB9.out.frozen (p := ⟨w4.heap.size, 1, none⟩) hG).trans fkb1; have y2f := (HB9.out.frozen (p := ⟨w4.heap.size + 1, 0, none⟩) hG1).trans fkm0; clear hb9 r5 hE))
        exact ⟨keeps_take (by omega) HB9.out _ _ _, KC_take (by omega) HB9.out _ _ _, by have := InvB.take hbW HKB.out HKM.out HB9.out R39.out R49.out (by rw [HMO.out, HKN.out]; exact hlt) HND.out; rwa [HKN.out] at this⟩
      · gi_wp2_with (first | (refine ⟨trivial, ?_⟩; gi_at_call 29; refine (CallsIn.inRound l (callsIn_wide.2 AL.out)).mono ?_; rintro e w7 ⟨v3, v4, rfl, r3, r4, hb7, hnd⟩; obtain ⟨A3, c3, rfl⟩ := own_slice r3; obtain ⟨A4, c4, rfl⟩ := own_slice r4; have R3 := hid r3; have R4 := hid r4; have HND := hid hnd; clear r3 r4 hnd; have c2' := (hb7.cell (p := ⟨w.heap.size + 1 + 1, 0, none⟩) (show w.heap.size + 1 + 1 < _ by omega)).trans c2; have l27 : w.heap.size + 1 + 1 < w7.heap.size := Nat.lt_of_lt_of_le (show _ < W.heap.size by omega) hb7.size) | (refine ⟨trivial, ?_⟩; gi_at_call 48; refine (CallsIn.inRound l (callsIn_wide.2 (kept_own (M := embM bs cs ds x) rfl (R4.out.alloc _) (HIC4.out _ (below_alloc hb7 _)) (by omega)))).mono ?_; rintro e w9 ⟨v5, rfl, r5, hb9⟩; rw [show (keptL (embM bs cs ds x) (il ds)).length = kn from HKN.out] at r5; obtain ⟨A5, c5, rfl⟩ := own_slice r5; have hE : Blk w9 w7.heap.size 38 #[.slice A3 x.length c3, .slice A4 bs.length c4] := (Blk.new w7 _ _).below hb9 (by simp); have hE0 := (hE.cell 0).trans rfl; have hE1 := (hE.cell 1).trans rfl; have HB9 := hid (show Below W.heap.size W w9 from below_then (below_alloc hb7 _) (by have := hb7.size; simp; omega) hb9); have R39 := hid (pw_own_below (R3.out.alloc _) hb9); have R49 := hid (pw_own_below (R4.out.alloc _) hb9); have z0 := (HB9.out.cell (p := ⟨w4.heap.size, 0, none⟩) hG).trans hkb0; have z1 := (HB9.out.cell (p := ⟨w4.heap.size, 1, none⟩) hG).trans hkb1; have z2 := (HB9.out.cell (p := ⟨w4.heap.size + 1, 0, none⟩) hG1).trans hkm0; have y0f := (HB9.out.frozen (p := ⟨w4.heap.size, 0, none⟩) hG).trans fkb0; have y1f := (HB9.out.frozen (p := ⟨w4.heap.size, 1, none⟩) hG).trans fkb1; have y2f := (HB9.out.frozen (p := ⟨w4.heap.size + 1, 0, none⟩) hG1).trans fkm0; clear hb9 r5 hE))
        exact ⟨KeepsFrom.of_grownBy (grown_of_below HB9.out none) (by rintro j ⟨⟩), KC.of_below HB9.out, InvB.skip HInv.out HB9.out (by rw [HMO.out, HKN.out]; omega)⟩
    case done =>
      intro D1 W hD1 hI hdef
      obtain ⟨hbW, v1, v2, kb, km, r1, r2, hnd⟩ := hI
      obtain ⟨A1, c1, rfl⟩ := own_slice r1
      obtain ⟨A2, c2, rfl⟩ := own_slice r2
      have q0 := (kb.cell 0).trans rfl
      have q1 := (kb.cell 1).trans rfl
      have hr := HR0.out.below hbW (by omega)
      have q2 := (hr.cell 0).trans rfl
      have q3 := (hr.cell 1).trans rfl
      have f2 := hr.frozen 0
      have f3 := hr.frozen 1
      have R1 := hid r1
      have R2 := hid r2
      have HK := hid hdef
      have HR := hid hr
      have HW := hid hbW
      have HND := hid hnd
      clear r1 r2 hdef kb km hr hbW hnd
      go_wp2
      exact best_end HR.out HK.out HW.out (by omega) (by omega) (by omega) R1.out R2.out rfl rfl rfl hb04 HND.out
end Go.Proofs.Ytgegjhgifeobdaa


namespace Go.Proofs.Ytgegjhgifeobdaa
set_option linter.unusedSimpArgs false
set_option linter.unusedVariables false
open Go.RowKit Go.Lib Go.Shelf Go.Proofs.YtgegjhgifeobdaaW.PrintWords

abbrev nilE : Value := .agg #[.slice none 0 0, .slice none 0 0]
set_option maxHeartbeats 1000000 in
set_option maxRecDepth 100000 in
theorem best_big (V U : Int) (n m k cA cC cD : Nat) (A C D : Option Addr) (w : World) (h : 5 < V ∨ 7 < U) :
    Calls Try.prog 26 #[.agg #[.int .i64 V, .slice A n cA], .agg #[.int .i64 U, .slice C m cC], .slice D k cD] w fun e w' =>
      e = .returned (.tuple #[nilE, .int .i64 2]) ∧ Below w.heap.size w w' := by
  have hui := Try.underlying29
  have hue := Try.underlying38
  go_enter Try.func26, Try.ntmps26
  by_cases h5 : 5 < V
  · clear h
    go_wp2
    exact bodyPost_ret (v := .tuple #[nilE, .int .i64 2]) (by simp [results, Try.results26, go_sem, hue, nilE]) rfl ⟨rfl, below_alloc (below_alloc (below_alloc (below_alloc (Below.refl _ _) _) _) _) _⟩
  · have h7 : 7 < U := by omega
    clear h
    go_wp2
    exact bodyPost_ret (v := .tuple #[nilE, .int .i64 2]) (by simp [results, Try.results26, go_sem, hue, nilE]) rfl ⟨rfl, below_alloc (below_alloc (below_alloc (below_alloc (Below.refl _ _) _) _) _) _⟩
set_option maxHeartbeats 1000000 in
set_option maxRecDepth 100000 in
theorem best_bad (V U : Int) (n m cA cC cD : Nat) (A C D : Option Addr) (ds : List Int) (w : World) (h5 : ¬ 5 < V) (h7 : ¬ 7 < U) (hD : IC w D ds.length ds) (hl : ds.length < 2 ^ 40) (hwf : ∀ x ∈ ds, (Lit.int .i64 x).wf = true) (bq : Bool) (hq : diffB ds n = bq) (hqU : bq = true → U < V) :
    Calls Try.prog 26 #[.agg #[.int .i64 V, .slice A n cA], .agg #[.int .i64 U, .slice C m cC], .slice D ds.length cD] w fun e w' =>
      e = .returned (.tuple #[nilE, .int .i64 (if bq then 4 else 1)]) ∧ Below w.heap.size w w' := by
  have hui := Try.underlying29
  have hue := Try.underlying38
  have DIF := hid (show ∀ W, Below w.heap.size w W → _ from fun W hb => different_any D cD ds (n : Int) W (Kd.C_below hD hb) hl hwf)
  rw [hq] at DIF
  clear hD hwf hl hq
  go_enter Try.func26, Try.ntmps26
  go_upto_region 3 with (fail)
  obtain ⟨w1, hw1⟩ : ∃ w1, ((((w.alloc (.cells #[.int .i64 V, .slice A n cA] 29)).alloc (.cells #[.int .i64 U, .slice C m cC] 29)).alloc (.cells #[.slice D ds.length cD] 32)).alloc (.cells #[.slice none 0 0, .slice none 0 0] 38)) = w1 := ⟨_, rfl⟩
  have hb1 : Below w.heap.size w w1 := by rw [← hw1]; exact below_alloc (below_alloc (below_alloc (below_alloc (Below.refl _ _) _) _) _) _
  have hz1 : w.heap.size + 4 ≤ w1.heap.size := by rw [← hw1]; simp
  have a0 : w1.cell? ⟨w.heap.size, 0, none⟩ = some (.int .i64 V) := by rw [← hw1]; simp [go_sem]
  have a1 : w1.cell? ⟨w.heap.size, 1, none⟩ = some (.slice A n cA) := by rw [← hw1]; simp [go_sem]
  have b0 : w1.cell? ⟨w.heap.size + 1, 0, none⟩ = some (.int .i64 U) := by rw [← hw1]; simp [go_sem]
  have d0 : w1.cell? ⟨w.heap.size + 1 + 1, 0, none⟩ = some (.slice D ds.length cD) := by rw [← hw1]; simp [go_sem]
  have hr : Blk w1 (w.heap.size + 1 + 1 + 1) 38 #[.slice none 0 0, .slice none 0 0] := by rw [← hw1]; simpa using Blk.new (((w.alloc (.cells #[.int .i64 V, .slice A n cA] 29)).alloc (.cells #[.int .i64 U, .slice C m cC] 29)).alloc (.cells #[.slice D ds.length cD] 32)) 38 #[.slice none 0 0, .slice none 0 0]
  have HR := hid hr
  rw [hw1]
  clear hw1 hr
  have fin : ∀ (w2 : World) (k : Int), Below w1.heap.size w1 w2 → ∃ W3, (w2.setCell ⟨w.heap.size + 1 + 1 + 1, 0, none⟩ (.slice none 0 0)).setCell ⟨w.heap.size + 1 + 1 + 1, 1, none⟩ (.slice none 0 0) = W3 ∧ W3.cell? ⟨w.heap.size + 1 + 1 + 1, 0, none⟩ = some (.slice none 0 0) ∧ W3.cell? ⟨w.heap.size + 1 + 1 + 1, 1, none⟩ = some (.slice none 0 0) ∧ Below w.heap.size w W3 := fun w2 k hb => by
    have h2 := ((HR.out.below hb (by omega)).set_ 0 (.slice none 0 0)).set_ 1 (.slice none 0 0)
    exact ⟨_, rfl, (h2.cell 0).trans rfl, (h2.cell 1).trans rfl, ((below_then hb1 (by omega) hb).setCell (p := ⟨w.heap.size + 1 + 1 + 1, 0, none⟩) (by show _ ≤ w.heap.size + 1 + 1 + 1; omega) _).setCell (p := ⟨w.heap.size + 1 + 1 + 1, 1, none⟩) (by show _ ≤ w.heap.size + 1 + 1 + 1; omega) _⟩
  have FIN := hid fin
  clear fin
  cases bq with
  | false =>
    clear hqU
    go_wp2_with (go_at_call 28; refine (DIF.out _ (by exact hb1)).mono ?_; rintro e w2 ⟨rfl, hb2⟩; have hr2 := HR.out.below hb2 (by omega); have f0 := hr2.frozen 0; have f1 := hr2.frozen 1; have r0 := (hr2.cell 0).trans rfl; have r1 := (hr2.cell 1).trans rfl; clear hr2; obtain ⟨W3, hW3, q0, q1, hb3⟩ := FIN.out w2 1 hb2)
    exact bodyPost_ret (v := .tuple #[nilE, .int .i64 1]) (by simp [results, Try.results26, go_sem, hue, nilE, q0, q1]) rfl ⟨rfl, hb3⟩
  | true =>
    have hUV := hqU rfl
    clear hqU
    go_wp2_with (go_at_call 28; refine (DIF.out _ (by exact hb1)).mono ?_; rintro e w2 ⟨rfl, hb2⟩; have hr2 := HR.out.below hb2 (by omega); have f0 := hr2.frozen 0; have f1 := hr2.frozen 1; have r0 := (hr2.cell 0).trans rfl; have r1 := (hr2.cell 1).trans rfl; clear hr2; have a0' := (hb2.cell (p := ⟨w.heap.size, 0, none⟩) (show w.heap.size < _ by omega)).trans a0; have b0' := (hb2.cell (p := ⟨w.heap.size + 1, 0, none⟩) (show w.heap.size + 1 < _ by omega)).trans b0; obtain ⟨W3, hW3, q0, q1, hb3⟩ := FIN.out w2 4 hb2)
    exact bodyPost_ret (v := .tuple #[nilE, .int .i64 4]) (by simp [results, Try.results26, go_sem, hue, nilE, q0, q1]) rfl ⟨rfl, hb3⟩
end Go.Proofs.Ytgegjhgifeobdaa


namespace Go.Proofs.Ytgegjhgifeobdaa
set_option linter.unusedSimpArgs false
set_option linter.unusedVariables false
open Go.RowKit Go.Lib Go.Shelf Go.Proofs.YtgegjhgifeobdaaW.PrintWords
attribute [local go_sem] Oper.semAt_some

theorem diff_nat (F : Option Addr) (cF : Nat) (fs : List Nat) (U : Nat) (w : World) (hF : IC w F fs.length (il fs)) (hl : fs.length < 2 ^ 40) (hfU : ∀ q ∈ fs, q < U) (hfn : fs.Nodup) (hU : U < 2 ^ 62) :
    Calls Try.prog 28 #[.slice F fs.length cF, .int .i64 U] w fun e w' => e = .returned (.bool true) ∧ Below w.heap.size w w' := by
  have hdiff : diffB (il fs) (U : Int) = true := diffB_iff.2 ⟨fun x hx => by obtain ⟨i, hi, rfl⟩ := List.mem_map.1 hx; have := hfU i hi; exact ⟨by simp, by simpa using this⟩, by
    unfold il List.Nodup; rw [List.pairwise_map]; exact hfn.imp (fun h e => h (by omega))⟩
  have := different_any F cF (il fs) (U : Int) w (by rw [il_length]; exact hF) (by rw [il_length]; exact hl) (fun x hx => by obtain ⟨i, hi, rfl⟩ := List.mem_map.1 hx; have := hfU i hi; simp [Lit.wf, IntKind.min, IntKind.max, IntKind.signed, IntKind.bits]; omega)
  rw [hdiff, il_length] at this
  exact this
def Dp (L : Nat → Bool) : Prop := (L 2 = true → L 1 = true) ∧ (L 6 = true → L 4 = true ∧ L 5 = true) ∧ (L 7 = true → L 0 = true ∧ L 2 = true ∧ L 3 = true ∧ L 6 = true)
theorem put1_mono {L : Nat → Bool} {i j : Nat} (h : L j = true) : put1 L i j = true := by simp [put1, h]
theorem put1_old {L : Nat → Bool} {i j : Nat} (h : put1 L i j = true) (hne : j ≠ i) : L j = true := by simpa [put1, hne] using h
theorem Dp.put {L : Nat → Bool} (h : Dp L) (i : Nat) (h2 : i = 2 → L 1 = true) (h6 : i = 6 → L 4 = true ∧ L 5 = true) (h7 : i = 7 → L 0 = true ∧ L 2 = true ∧ L 3 = true ∧ L 6 = true) : Dp (put1 L i) := by
  refine ⟨fun e => ?_, fun e => ?_, fun e => ?_⟩
  · by_cases hi : i = 2
    · exact put1_mono (h2 hi)
    · exact put1_mono (h.1 (put1_old e (by omega)))
  · by_cases hi : i = 6
    · exact ⟨put1_mono (h6 hi).1, put1_mono (h6 hi).2⟩
    · have := h.2.1 (put1_old e (by omega)); exact ⟨put1_mono this.1, put1_mono this.2⟩
  · by_cases hi : i = 7
    · have := h7 hi; exact ⟨put1_mono this.1, put1_mono this.2.1, put1_mono this.2.2.1, put1_mono this.2.2.2⟩
    · have := h.2.2 (put1_old e (by omega)); exact ⟨put1_mono this.1, put1_mono this.2.1, put1_mono this.2.2.1, put1_mono this.2.2.2⟩
theorem Dp.q {L : Nat → Bool} (h : Dp L) (i : Nat) (h2 : i ≠ 2) (h6 : i ≠ 6) (h7 : i ≠ 7) : Dp (put1 L i) := h.put i (fun e => absurd e h2) (fun e => absurd e h6) (fun e => absurd e h7)
/-- What stands while region 3 is carried out in any order. -/
structure S3 (w2 : World) (r : Nat) (AGA AGB SLF SLD : Value) (fs bs cs ds : List Nat) (L : Nat → Bool) (w : World) (y0 y1 y2 y3 y4 y5 y6 y7 y9 : Value) : Prop where
  bel : L 8 = false → Below w2.heap.size w2 w
  h0 : L 0 = true → y0 = AGA
  h1 : L 1 = true → y1 = AGB
  h2 : L 2 = true → L 8 = false → isMap w2.heap.size cs w y2
  h3 : L 3 = true → y3 = SLF
  h4 : L 4 = true → y4 = AGA
  h5 : L 5 = true → y5 = SLD
  h6 : L 6 = true → L 8 = false → w.ownsRow w2.heap.size 3 1 y6 (queueN bs.length ds).length (nums .i64 (il (queueN bs.length ds)))
  h7 : L 7 = true → L 8 = false → ∃ v1 v2, y7 = .agg #[v1, v2] ∧ w.ownsRow w2.heap.size 3 1 v1 fs.length (nums .i64 (il fs)) ∧ w.ownsRow w2.heap.size 3 1 v2 bs.length (nums .i64 (embM bs cs ds fs)) ∧ ND v1 v2
  h8 : L 8 = true → (∀ j, j < 8 → L j = true) ∧ ∃ wb v1 v2, Below w2.heap.size w2 wb ∧ wb.ownsRow w2.heap.size 3 1 v1 fs.length (nums .i64 (il fs)) ∧ wb.ownsRow w2.heap.size 3 1 v2 bs.length (nums .i64 (embM bs cs ds fs)) ∧ w = (wb.setCell ⟨r, 0, none⟩ v1).setCell ⟨r, 1, none⟩ v2 ∧ ND v1 v2
  h9 : L 9 = true → y9 = .int .i64 0
  dp : Dp L
section
variable {w2 w w' : World} {r : Nat} {AGA AGB SLF SLD : Value} {fs bs cs ds : List Nat} {L : Nat → Bool} {y0 y1 y2 y3 y4 y5 y6 y7 y9 v : Value}
theorem S3.n8 (h : S3 w2 r AGA AGB SLF SLD fs bs cs ds L w y0 y1 y2 y3 y4 y5 y6 y7 y9) {j : Nat} (hj : j < 8) (hf : L j = false) : L 8 = false := by
  cases e : L 8
  · rfl
  · have := (h.h8 e).1 j hj
    rw [hf] at this
    cases this
theorem no8 {P : Prop} (n8 : L 8 = false) (e : L 8 = true) : P := by rw [n8] at e; cases e
theorem S3.op0 (h : S3 w2 r AGA AGB SLF SLD fs bs cs ds L w y0 y1 y2 y3 y4 y5 y6 y7 y9) (n8 : L 8 = false) : S3 w2 r AGA AGB SLF SLD fs bs cs ds (put1 L 0) w AGA y1 y2 y3 y4 y5 y6 y7 y9 := ⟨h.bel, fun _ => rfl, h.h1, h.h2, h.h3, h.h4, h.h5, h.h6, h.h7, fun e => no8 n8 e, h.h9, h.dp.q 0 (by decide) (by decide) (by decide)⟩
theorem S3.op1 (h : S3 w2 r AGA AGB SLF SLD fs bs cs ds L w y0 y1 y2 y3 y4 y5 y6 y7 y9) (n8 : L 8 = false) : S3 w2 r AGA AGB SLF SLD fs bs cs ds (put1 L 1) w y0 AGB y2 y3 y4 y5 y6 y7 y9 := ⟨h.bel, h.h0, fun _ => rfl, h.h2, h.h3, h.h4, h.h5, h.h6, h.h7, fun e => no8 n8 e, h.h9, h.dp.q 1 (by decide) (by decide) (by decide)⟩
theorem S3.op3 (h : S3 w2 r AGA AGB SLF SLD fs bs cs ds L w y0 y1 y2 y3 y4 y5 y6 y7 y9) (n8 : L 8 = false) : S3 w2 r AGA AGB SLF SLD fs bs cs ds (put1 L 3) w y0 y1 y2 SLF y4 y5 y6 y7 y9 := ⟨h.bel, h.h0, h.h1, h.h2, fun _ => rfl, h.h4, h.h5, h.h6, h.h7, fun e => no8 n8 e, h.h9, h.dp.q 3 (by decide) (by decide) (by decide)⟩
theorem S3.op4 (h : S3 w2 r AGA AGB SLF SLD fs bs cs ds L w y0 y1 y2 y3 y4 y5 y6 y7 y9) (n8 : L 8 = false) : S3 w2 r AGA AGB SLF SLD fs bs cs ds (put1 L 4) w y0 y1 y2 y3 AGA y5 y6 y7 y9 := ⟨h.bel, h.h0, h.h1, h.h2, h.h3, fun _ => rfl, h.h5, h.h6, h.h7, fun e => no8 n8 e, h.h9, h.dp.q 4 (by decide) (by decide) (by decide)⟩
theorem S3.op5 (h : S3 w2 r AGA AGB SLF SLD fs bs cs ds L w y0 y1 y2 y3 y4 y5 y6 y7 y9) (n8 : L 8 = false) : S3 w2 r AGA AGB SLF SLD fs bs cs ds (put1 L 5) w y0 y1 y2 y3 y4 SLD y6 y7 y9 := ⟨h.bel, h.h0, h.h1, h.h2, h.h3, h.h4, fun _ => rfl, h.h6, h.h7, fun e => no8 n8 e, h.h9, h.dp.q 5 (by decide) (by decide) (by decide)⟩
theorem S3.op9 (h : S3 w2 r AGA AGB SLF SLD fs bs cs ds L w y0 y1 y2 y3 y4 y5 y6 y7 y9) (d8 : L 8 = true) : S3 w2 r AGA AGB SLF SLD fs bs cs ds (put1 L 9) w y0 y1 y2 y3 y4 y5 y6 y7 (.int .i64 0) := ⟨h.bel, h.h0, h.h1, h.h2, h.h3, h.h4, h.h5, h.h6, h.h7, fun e => ⟨fun j hj => by have := (h.h8 e).1 j hj; simp [put1, this], (h.h8 e).2⟩, fun _ => rfl, h.dp.q 9 (by decide) (by decide) (by decide)⟩
theorem S3.call2 (h : S3 w2 r AGA AGB SLF SLD fs bs cs ds L w y0 y1 y2 y3 y4 y5 y6 y7 y9) (n8 : L 8 = false) (d1 : L 1 = true) (hb : Below w.heap.size w w') (hm : isMap w2.heap.size cs w' v) : S3 w2 r AGA AGB SLF SLD fs bs cs ds (put1 L 2) w' y0 y1 v y3 y4 y5 y6 y7 y9 :=
  ⟨fun _ => below_then (h.bel n8) (h.bel n8).size hb, h.h0, h.h1, fun _ _ => hm, h.h3, h.h4, h.h5, fun e _ => pw_own_below (h.h6 e n8) hb, fun e _ => (h.h7 e n8).imp fun _ ⟨v2, q1, q2, q3, q4⟩ => ⟨v2, q1, pw_own_below q2 hb, pw_own_below q3 hb, q4⟩, fun e => no8 n8 e, h.h9, h.dp.put 2 (fun _ => d1) (fun e => nomatch e) (fun e => nomatch e)⟩
theorem S3.call6 (h : S3 w2 r AGA AGB SLF SLD fs bs cs ds L w y0 y1 y2 y3 y4 y5 y6 y7 y9) (n8 : L 8 = false) (d4 : L 4 = true) (d5 : L 5 = true) (hb : Below w.heap.size w w') (hm : w'.ownsRow w2.heap.size 3 1 v (queueN bs.length ds).length (nums .i64 (il (queueN bs.length ds)))) : S3 w2 r AGA AGB SLF SLD fs bs cs ds (put1 L 6) w' y0 y1 y2 y3 y4 y5 v y7 y9 :=
  ⟨fun _ => below_then (h.bel n8) (h.bel n8).size hb, h.h0, h.h1, fun e _ => (h.h2 e n8).below hb, h.h3, h.h4, h.h5, fun _ _ => hm, fun e _ => (h.h7 e n8).imp fun _ ⟨v2, q1, q2, q3, q4⟩ => ⟨v2, q1, pw_own_below q2 hb, pw_own_below q3 hb, q4⟩, fun e => no8 n8 e, h.h9, h.dp.put 6 (fun e => nomatch e) (fun _ => ⟨d4, d5⟩) (fun e => nomatch e)⟩
theorem S3.call7 (h : S3 w2 r AGA AGB SLF SLD fs bs cs ds L w y0 y1 y2 y3 y4 y5 y6 y7 y9) (n8 : L 8 = false) (d0 : L 0 = true) (d2 : L 2 = true) (d3 : L 3 = true) (d6 : L 6 = true) (hb : Below w.heap.size w w') (v1 v2 : Value) (h1 : w'.ownsRow w2.heap.size 3 1 v1 fs.length (nums .i64 (il fs))) (h2 : w'.ownsRow w2.heap.size 3 1 v2 bs.length (nums .i64 (embM bs cs ds fs))) (hnd : ND v1 v2) : S3 w2 r AGA AGB SLF SLD fs bs cs ds (put1 L 7) w' y0 y1 y2 y3 y4 y5 y6 (.agg #[v1, v2]) y9 :=
  ⟨fun _ => below_then (h.bel n8) (h.bel n8).size hb, h.h0, h.h1, fun e _ => (h.h2 e n8).below hb, h.h3, h.h4, h.h5, fun e _ => pw_own_below (h.h6 e n8) hb, fun _ _ => ⟨v1, v2, rfl, h1, h2, hnd⟩, fun e => no8 n8 e, h.h9, h.dp.put 7 (fun e => nomatch e) (fun e => nomatch e) (fun _ => ⟨d0, d2, d3, d6⟩)⟩
theorem S3.allb (h : S3 w2 r AGA AGB SLF SLD fs bs cs ds L w y0 y1 y2 y3 y4 y5 y6 y7 y9) (d7 : L 7 = true) : ∀ j, j < 8 → L j = true := by
  obtain ⟨d0, d2, d3, d6⟩ := h.dp.2.2 d7
  obtain ⟨d4, d5⟩ := h.dp.2.1 d6
  have d1 := h.dp.1 d2
  intro j hj
  match j, hj with
  | 0, _ => exact d0
  | 1, _ => exact d1
  | 2, _ => exact d2
  | 3, _ => exact d3
  | 4, _ => exact d4
  | 5, _ => exact d5
  | 6, _ => exact d6
  | 7, _ => exact d7
theorem S3.store8 (h : S3 w2 r AGA AGB SLF SLD fs bs cs ds L w y0 y1 y2 y3 y4 y5 y6 y7 y9) (n8 : L 8 = false) (d7 : L 7 = true) {v1 v2 : Value} (hy : y7 = .agg #[v1, v2]) (h1 : w.ownsRow w2.heap.size 3 1 v1 fs.length (nums .i64 (il fs))) (h2 : w.ownsRow w2.heap.size 3 1 v2 bs.length (nums .i64 (embM bs cs ds fs))) (hnd : ND v1 v2) :
    S3 w2 r AGA AGB SLF SLD fs bs cs ds (put1 L 8) ((w.setCell ⟨r, 0, none⟩ v1).setCell ⟨r, 1, none⟩ v2) y0 y1 y2 y3 y4 y5 y6 y7 y9 :=
  ⟨(fun e => nomatch e), h.h0, h.h1, (fun _ e => nomatch e), h.h3, h.h4, h.h5, (fun _ e => nomatch e), (fun _ e => nomatch e), fun _ => ⟨fun j hj => put1_mono (h.allb d7 j hj), w, v1, v2, h.bel n8, h1, h2, rfl, hnd⟩, h.h9, h.dp.q 8 (by decide) (by decide) (by decide)⟩
end

set_option maxHeartbeats 2000000 in
set_option maxRecDepth 100000 in
theorem of_ok (U cA cC cF cD : Nat) (A C F D : Option Addr) (bs cs fs ds : List Nat) (w : World) (hB : BlC w A bs.length bs) (hC : BlC w C cs.length cs) (hF : IC w F fs.length (il fs)) (hD : IC w D ds.length (il ds))
    (hfU : ∀ q ∈ fs, q < U) (hfn : fs.Nodup) (hU : U ≤ 60) (hf60 : fs.length ≤ 60)
    (hdb : ∀ i ∈ ds, i < bs.length) (hdn : ds.Nodup) (hd12 : ds.length ≤ 12) (hdl : ds.length ≤ bs.length) (hbl : bs.length ≤ 2 ^ 19) (hcl : cs.length ≤ 2 ^ 20) :
    Calls Try.prog 15 #[.agg #[.int .i64 fs.length, .slice A bs.length cA], .agg #[.int .i64 U, .slice C cs.length cC], .slice F fs.length cF, .slice D ds.length cD] w fun e w' =>
      ∃ v1 v2, e = .returned (.tuple #[.agg #[v1, v2], .int .i64 0]) ∧ w'.ownsRow w.heap.size 3 1 v1 fs.length (nums .i64 (il fs)) ∧
        w'.ownsRow w.heap.size 3 1 v2 bs.length (nums .i64 (embM bs cs ds fs)) ∧ Below w.heap.size w w' ∧ ND v1 v2 := by
  have hui := Try.underlying29
  have hue := Try.underlying38
  have D1 := hid (show ∀ W, Below w.heap.size w W → _ from fun W hb => diff_nat F cF fs U W (Kd.C_below hF hb) (by omega) hfU hfn (by omega))
  have D2 := hid (show ∀ W, Below w.heap.size w W → _ from fun W hb => diff_nat D cD ds bs.length W (Kd.C_below hD hb) (by omega) hdb hdn (by omega))
  have HB := hid hB
  have HC := hid hC
  have HD := hid hD
  have HF := hid hF
  clear hB hC hD hF
  go_enter Try.func15, Try.ntmps15
  go_upto_region 1 with (fail)
  obtain ⟨w1, hw1⟩ : ∃ w1, (((w.alloc (.cells #[.int .i64 fs.length, .slice A bs.length cA] 29)).alloc (.cells #[.int .i64 U, .slice C cs.length cC] 29)).alloc (.cells #[.slice none 0 0, .slice none 0 0] 38)) = w1 := ⟨_, rfl⟩
  have hb1 : Below w.heap.size w w1 := by rw [← hw1]; exact below_alloc (below_alloc (below_alloc (Below.refl _ _) _) _) _
  have hz1 : w.heap.size + 3 ≤ w1.heap.size := by rw [← hw1]; simp
  have a0 : w1.cell? ⟨w.heap.size, 0, none⟩ = some (.int .i64 fs.length) := by rw [← hw1]; simp [go_sem]
  have a1 : w1.cell? ⟨w.heap.size, 1, none⟩ = some (.slice A bs.length cA) := by rw [← hw1]; simp [go_sem]
  have b0 : w1.cell? ⟨w.heap.size + 1, 0, none⟩ = some (.int .i64 U) := by rw [← hw1]; simp [go_sem]
  have b1 : w1.cell? ⟨w.heap.size + 1, 1, none⟩ = some (.slice C cs.length cC) := by rw [← hw1]; simp [go_sem]
  have hr : Blk w1 (w.heap.size + 1 + 1) 38 #[.slice none 0 0, .slice none 0 0] := by rw [← hw1]; simpa using Blk.new ((w.alloc (.cells #[.int .i64 fs.length, .slice A bs.length cA] 29)).alloc (.cells #[.int .i64 U, .slice C cs.length cC] 29)) 38 #[.slice none 0 0, .slice none 0 0]
  have HR := hid hr
  rw [hw1]
  clear hw1 hr
  go_upto_region 3 with (first | (go_at_call_of 28 (Value.slice F fs.length cF); refine (D1.out _ (by exact hb1)).mono ?_; rintro e wa ⟨rfl, hba⟩; have a1a := (hba.cell (p := ⟨w.heap.size, 1, none⟩) (show w.heap.size < _ by omega)).trans a1) | (go_at_call 28; refine (D2.out _ (by exact below_then hb1 hb1.size hba)).mono ?_; rintro e w2 ⟨rfl, hb2⟩))
  have hb02 : Below w.heap.size w w2 := below_then (below_then hb1 hb1.size hba) (by have := hba.size; have := hb1.size; omega) hb2
  have hb12 : Below w1.heap.size w1 w2 := below_then hba hba.size hb2
  have hz2 : w.heap.size + 3 ≤ w2.heap.size := by have := hb12.size; omega
  have HCELL : Hid (∀ W, Below w2.heap.size w2 W → W.cell? ⟨w.heap.size, 0, none⟩ = some (.int .i64 fs.length) ∧ W.cell? ⟨w.heap.size, 1, none⟩ = some (.slice A bs.length cA) ∧ W.cell? ⟨w.heap.size + 1, 0, none⟩ = some (.int .i64 U) ∧ W.cell? ⟨w.heap.size + 1, 1, none⟩ = some (.slice C cs.length cC)) :=
    (show ∀ W, _ from fun W hb => by
      have kc : ∀ b o, b < w1.heap.size → W.cell? ⟨b, o, none⟩ = w1.cell? ⟨b, o, none⟩ := fun b o h => (hb.cell (p := ⟨b, o, none⟩) (Nat.lt_of_lt_of_le h hb12.size)).trans (hb12.cell (p := ⟨b, o, none⟩) h)
      exact ⟨(kc _ _ (by omega)).trans a0, (kc _ _ (by omega)).trans a1, (kc _ _ (by omega)).trans b0, (kc _ _ (by omega)).trans b1⟩)
  have HRB : Hid (∀ W, Below w2.heap.size w2 W → Blk W (w.heap.size + 1 + 1) 38 #[.slice none 0 0, .slice none 0 0]) := (show ∀ W, _ from fun W hb => (HR.out.below hb12 (by omega)).below hb (by omega))
  have HRES : Hid (∀ W, Below w2.heap.size w2 W → W.cell? ⟨w.heap.size + 1 + 1, 0, none⟩ = some (.slice none 0 0) ∧ W.cell? ⟨w.heap.size + 1 + 1, 1, none⟩ = some (.slice none 0 0) ∧ W.frozen? ⟨w.heap.size + 1 + 1, 0, none⟩ = false ∧ W.frozen? ⟨w.heap.size + 1 + 1, 1, none⟩ = false) :=
    (show ∀ W, _ from fun W hb => by have h := HRB.out W hb; exact ⟨(h.cell 0).trans rfl, (h.cell 1).trans rfl, h.frozen 0, h.frozen 1⟩)
  have FIND := hid (fun W (h : Below w2.heap.size w2 W) => find_any (.int .i64 U) C cC cs W rfl (HC.out.below (below_then hb02 hb02.size h)) hcl)
  have QUE := hid (fun W (h : Below w2.heap.size w2 W) => queue_any (.int .i64 fs.length) A cA bs.length D cD ds W rfl (Kd.C_below HD.out (below_then hb02 hb02.size h)) hdl hd12 (by omega))
  have AL : Hid (∀ (W : World) (bl : Nat) (AO : Option Addr) (cO : Nat), Below w2.heap.size w2 W → bl < W.heap.size → Pl W bl cs → W.ownsRow w2.heap.size 3 1 (.slice AO (queueN bs.length ds).length cO) (queueN bs.length ds).length (nums .i64 (il (queueN bs.length ds))) →
      Calls Try.prog 29 #[.agg #[.int .i64 fs.length, .slice A bs.length cA], .map (some bl), .slice F fs.length cF, .slice AO (queueN bs.length ds).length cO] W fun e w' =>
        ∃ v1 v2, e = .returned (.agg #[v1, v2]) ∧ w'.ownsRow W.heap.size 3 1 v1 fs.length (nums .i64 (il fs)) ∧ w'.ownsRow W.heap.size 3 1 v2 bs.length (nums .i64 (embM bs cs ds fs)) ∧ Below W.heap.size W w' ∧ ND v1 v2) :=
    (show ∀ (W : World) (bl : Nat) (AO : Option Addr) (cO : Nat), _ from fun W bl AO cO hb hbls hpl hro => by
      obtain ⟨_, _, e1, _, _, hO⟩ := own_IC hro
      injection e1 with e1 _ e2
      subst e1 e2
      exact along_any (.int .i64 fs.length) A F AO cA cF cO bl bs cs fs (queueN bs.length ds) W rfl (HB.out.below (below_then hb02 hb02.size hb)) hpl hbls (Kd.C_below HF.out (below_then hb02 hb02.size hb)) hf60 (fun q hq => by have := hfU q hq; omega) hO (queueN_lt hdb) (by have := queueN_len (n := bs.length) (ds := ds); omega) (by omega) hcl)
  clear a0 a1 b0 b1 D1 D2 a1a
  refine (wpIn_wide (n := 8)).1 ?_
  obtain ⟨vv, hvv⟩ : ∃ vv : Nat → Value, vv = fun i => (#[] : Array Value).getD i undef := ⟨_, rfl⟩
  have mk : ∀ (L : Nat → Bool) (a' : Act) (w' : World), a' = ({ tmps := #[.agg #[.int .i64 fs.length, .slice A bs.length cA], .agg #[.int .i64 U, .slice C cs.length cC], .slice F fs.length cF, .slice D ds.length cD, .pointer (some ⟨w.heap.size, 0, none⟩), .pointer (some ⟨w.heap.size + 1, 0, none⟩), undef, undef, .pointer (some ⟨w.heap.size + 1 + 1, 0, none⟩), a'.tmps.getD ((#[31, 32, 33, 34, 35, 36, 37, 38, 64, 9] : Array Nat).getD (9) 0) undef, .slice F fs.length cF, .int .i64 fs.length, .pointer (some ⟨w.heap.size, 0, none⟩), .int .i64 fs.length, .bool false, .bool false, .slice F fs.length cF, .pointer (some ⟨w.heap.size + 1, 0, none⟩), .int .i64 U, .bool true, .bool false, .bool false, .bool false, .slice D ds.length cD, .pointer (some ⟨w.heap.size, 1, none⟩), .slice A bs.length cA, .int .i64 bs.length, .bool true, .bool false, .bool false, undef, a'.tmps.getD ((#[31, 32, 33, 34, 35, 36, 37, 38, 64, 9] : Array Nat).getD (0) 0) undef, a'.tmps.getD ((#[31, 32, 33, 34, 35, 36, 37, 38, 64, 9] : Array Nat).getD (1) 0) undef, a'.tmps.getD ((#[31, 32, 33, 34, 35, 36, 37, 38, 64, 9] : Array Nat).getD (2) 0) undef, a'.tmps.getD ((#[31, 32, 33, 34, 35, 36, 37, 38, 64, 9] : Array Nat).getD (3) 0) undef, a'.tmps.getD ((#[31, 32, 33, 34, 35, 36, 37, 38, 64, 9] : Array Nat).getD (4) 0) undef, a'.tmps.getD ((#[31, 32, 33, 34, 35, 36, 37, 38, 64, 9] : Array Nat).getD (5) 0) undef, a'.tmps.getD ((#[31, 32, 33, 34, 35, 36, 37, 38, 64, 9] : Array Nat).getD (6) 0) undef, a'.tmps.getD ((#[31, 32, 33, 34, 35, 36, 37, 38, 64, 9] : Array Nat).getD (7) 0) undef], defers := [] } : Act) → (∀ j < 0, L j = true → a'.tmps.getD ((#[31, 32, 33, 34, 35, 36, 37, 38, 64, 9] : Array Nat).getD (j) 0) undef = vv j) → (fun (L : Nat → Bool) (wz : World) (y : Nat → Value) => S3 w2 (w.heap.size + 1 + 1) (.agg #[.int .i64 fs.length, .slice A bs.length cA]) (.agg #[.int .i64 U, .slice C cs.length cC]) (.slice F fs.length cF) (.slice D ds.length cD) fs bs cs ds L wz (y 0) (y 1) (y 2) (y 3) (y 4) (y 5) (y 6) (y 7) (y 9)) L w' (fun m => a'.tmps.getD ((#[31, 32, 33, 34, 35, 36, 37, 38, 64, 9] : Array Nat).getD (m) 0) undef) → ∃ y : Nat → Value, a' = ({ tmps := #[.agg #[.int .i64 fs.length, .slice A bs.length cA], .agg #[.int .i64 U, .slice C cs.length cC], .slice F fs.length cF, .slice D ds.length cD, .pointer (some ⟨w.heap.size, 0, none⟩), .pointer (some ⟨w.heap.size + 1, 0, none⟩), undef, undef, .pointer (some ⟨w.heap.size + 1 + 1, 0, none⟩), y 9, .slice F fs.length cF, .int .i64 fs.length, .pointer (some ⟨w.heap.size, 0, none⟩), .int .i64 fs.length, .bool false, .bool false, .slice F fs.length cF, .pointer (some ⟨w.heap.size + 1, 0, none⟩), .int .i64 U, .bool true, .bool false, .bool false, .bool false, .slice D ds.length cD, .pointer (some ⟨w.heap.size, 1, none⟩), .slice A bs.length cA, .int .i64 bs.length, .bool true, .bool false, .bool false, undef, y 0, y 1, y 2, y 3, y 4, y 5, y 6, y 7], defers := [] } : Act) ∧ (∀ j < 0, L j = true → y j = vv j) ∧ (fun (L : Nat → Bool) (wz : World) (y : Nat → Value) => S3 w2 (w.heap.size + 1 + 1) (.agg #[.int .i64 fs.length, .slice A bs.length cA]) (.agg #[.int .i64 U, .slice C cs.length cC]) (.slice F fs.length cF) (.slice D ds.length cD) fs bs cs ds L wz (y 0) (y 1) (y 2) (y 3) (y 4) (y 5) (y 6) (y 7) (y 9)) L w' y := fun L a' w' h1 h2 h3 => ⟨fun m => a'.tmps.getD ((#[31, 32, 33, 34, 35, 36, 37, 38, 64, 9] : Array Nat).getD (m) 0) undef, h1, h2, h3⟩
  refine wpIn_region_inv2 (by kernel_rfl) (fun L aI wI => ∃ y : Nat → Value, aI = ({ tmps := #[.agg #[.int .i64 fs.length, .slice A bs.length cA], .agg #[.int .i64 U, .slice C cs.length cC], .slice F fs.length cF, .slice D ds.length cD, .pointer (some ⟨w.heap.size, 0, none⟩), .pointer (some ⟨w.heap.size + 1, 0, none⟩), undef, undef, .pointer (some ⟨w.heap.size + 1 + 1, 0, none⟩), y 9, .slice F fs.length cF, .int .i64 fs.length, .pointer (some ⟨w.heap.size, 0, none⟩), .int .i64 fs.length, .bool false, .bool false, .slice F fs.length cF, .pointer (some ⟨w.heap.size + 1, 0, none⟩), .int .i64 U, .bool true, .bool false, .bool false, .bool false, .slice D ds.length cD, .pointer (some ⟨w.heap.size, 1, none⟩), .slice A bs.length cA, .int .i64 bs.length, .bool true, .bool false, .bool false, undef, y 0, y 1, y 2, y 3, y 4, y 5, y 6, y 7], defers := [] } : Act) ∧ (∀ j < 0, L j = true → y j = vv j) ∧ (fun (L : Nat → Bool) (wz : World) (y : Nat → Value) => S3 w2 (w.heap.size + 1 + 1) (.agg #[.int .i64 fs.length, .slice A bs.length cA]) (.agg #[.int .i64 U, .slice C cs.length cC]) (.slice F fs.length cF) (.slice D ds.length cD) fs bs cs ds L wz (y 0) (y 1) (y 2) (y 3) (y 4) (y 5) (y 6) (y 7) (y 9)) L wI y) ?acyc ?start ?step ?rdone
  case acyc => exact fun i o ho => acyc_of2 (by kernel_rfl) i o ho
  case start => exact mk (fun _ => false) _ _ rfl (fun _ _ h => by cases h) (by exact ⟨(fun _ => below_drew (Below.refl _ _)), (fun h => nomatch h), (fun h => nomatch h), (fun h => nomatch h), (fun h => nomatch h), (fun h => nomatch h), (fun h => nomatch h), (fun h => nomatch h), (fun h => nomatch h), (fun h => nomatch h), (fun h => nomatch h), ⟨(fun h => nomatch h), (fun h => nomatch h), (fun h => nomatch h)⟩⟩)
  case step =>
    rintro i o L a wx ho hLi hdep ⟨y, rfl, hy, hWI⟩ K hK
    have hi : i < 10 := (Array.getElem?_eq_some_iff.1 ho).1
    rcases i with _ | _ | _ | _ | _ | _ | _ | _ | _ | _ | i
    · obtain rfl := Option.some.inj ho
      clear hdep ho
      have n8 := hWI.n8 (j := 0) (by omega) hLi
      obtain ⟨qa0, qa1, qb0, qb1⟩ := HCELL.out _ (hWI.bel n8)
      go_simp
      refine hK _ _ (mk _ _ _ rfl ?_ ?_)
      rotate_left
      · exact hWI.op0 n8
      · intro j hj h
        rcases j with j
        all_goals first | (rw [hvv]; rfl) | exact hy _ (by omega) (by simpa [put1] using h) | (exfalso; omega)
    · obtain rfl := Option.some.inj ho
      clear hdep ho
      have n8 := hWI.n8 (j := 1) (by omega) hLi
      obtain ⟨qa0, qa1, qb0, qb1⟩ := HCELL.out _ (hWI.bel n8)
      go_simp
      refine hK _ _ (mk _ _ _ rfl ?_ ?_)
      rotate_left
      · exact hWI.op1 n8
      · intro j hj h
        rcases j with j
        all_goals first | (rw [hvv]; rfl) | exact hy _ (by omega) (by simpa [put1] using h) | (exfalso; omega)
    · obtain rfl := Option.some.inj ho
      have d1 : L 1 = true := hdep ⟨1, .data⟩ (by simp) rfl
      clear hdep ho
      have n8 := hWI.n8 (j := 2) (by omega) hLi
      rw [hWI.h1 d1]
      go_simp
      gi_wp2_with (refine ⟨trivial, ?_⟩; gi_at_call 30; refine (callsIn_wide.2 (FIND.out _ (hWI.bel n8))).mono ?_; rintro e w' ⟨b, rfl, hbb, hbl', hpl, hbw⟩)
      refine mk _ _ _ rfl ?_ ?_
      rotate_left
      · exact (by have hh := hWI.call2 n8 d1 hbw ⟨b, rfl, Nat.le_trans (hWI.bel n8).size hbb, hbl', hpl⟩; rw [hWI.h1 d1] at hh; exact hh)
      · intro j hj h
        rcases j with j
        all_goals first | (rw [hvv]; rfl) | exact hy _ (by omega) (by simpa [put1] using h) | (exfalso; omega)
    · obtain rfl := Option.some.inj ho
      clear hdep ho
      have n8 := hWI.n8 (j := 3) (by omega) hLi
      go_simp
      refine hK _ _ (mk _ _ _ rfl ?_ ?_)
      rotate_left
      · exact hWI.op3 n8
      · intro j hj h
        rcases j with j
        all_goals first | (rw [hvv]; rfl) | exact hy _ (by omega) (by simpa [put1] using h) | (exfalso; omega)
    · obtain rfl := Option.some.inj ho
      clear hdep ho
      have n8 := hWI.n8 (j := 4) (by omega) hLi
      obtain ⟨qa0, qa1, qb0, qb1⟩ := HCELL.out _ (hWI.bel n8)
      go_simp
      refine hK _ _ (mk _ _ _ rfl ?_ ?_)
      rotate_left
      · exact hWI.op4 n8
      · intro j hj h
        rcases j with j
        all_goals first | (rw [hvv]; rfl) | exact hy _ (by omega) (by simpa [put1] using h) | (exfalso; omega)
    · obtain rfl := Option.some.inj ho
      clear hdep ho
      have n8 := hWI.n8 (j := 5) (by omega) hLi
      go_simp
      refine hK _ _ (mk _ _ _ rfl ?_ ?_)
      rotate_left
      · exact hWI.op5 n8
      · intro j hj h
        rcases j with j
        all_goals first | (rw [hvv]; rfl) | exact hy _ (by omega) (by simpa [put1] using h) | (exfalso; omega)
    · obtain rfl := Option.some.inj ho
      have d4 : L 4 = true := hdep ⟨4, .data⟩ (by simp) rfl
      have d5 : L 5 = true := hdep ⟨5, .data⟩ (by simp) rfl
      have d2 : L 2 = true := hdep ⟨2, .chain⟩ (by simp) rfl
      clear hdep ho
      have n8 := hWI.n8 (j := 6) (by omega) hLi
      rw [hWI.h4 d4, hWI.h5 d5]
      go_simp
      gi_wp2_with (refine ⟨trivial, ?_⟩; gi_at_call 31; refine (callsIn_wide.2 (QUE.out _ (hWI.bel n8))).mono ?_; rintro e w' ⟨v, rfl, hrow, hbw⟩)
      refine mk _ _ _ rfl ?_ ?_
      rotate_left
      · exact (by have hh := hWI.call6 n8 d4 d5 hbw (own_less hrow (hWI.bel n8).size); rw [hWI.h4 d4, hWI.h5 d5] at hh; exact hh)
      · intro j hj h
        rcases j with j
        all_goals first | (rw [hvv]; rfl) | exact hy _ (by omega) (by simpa [put1] using h) | (exfalso; omega)
    · obtain rfl := Option.some.inj ho
      have d0 : L 0 = true := hdep ⟨0, .data⟩ (by simp) rfl
      have d2 : L 2 = true := hdep ⟨2, .data⟩ (by simp) rfl
      have d3 : L 3 = true := hdep ⟨3, .data⟩ (by simp) rfl
      have d6 : L 6 = true := hdep ⟨6, .data⟩ (by simp) rfl
      have d6 : L 6 = true := hdep ⟨6, .chain⟩ (by simp) rfl
      clear hdep ho
      have n8 := hWI.n8 (j := 7) (by omega) hLi
      obtain ⟨bl, hy2, hblB, hbls, hpl⟩ := hWI.h2 d2 n8
      have hro := hWI.h6 d6 n8
      obtain ⟨AO, cO, hy6⟩ := own_slice hro
      rw [hy6] at hro
      rw [hWI.h0 d0, hWI.h3 d3, hy2, hy6]
      go_simp
      gi_wp2_with (refine ⟨trivial, ?_⟩; gi_at_call 29; refine (callsIn_wide.2 (AL.out _ bl AO cO (hWI.bel n8) hbls hpl hro)).mono ?_; rintro e w' ⟨v1, v2, rfl, hr1, hr2, hbw, hnd⟩)
      refine mk _ _ _ rfl ?_ ?_
      rotate_left
      · exact (by have hh := hWI.call7 n8 d0 d2 d3 d6 hbw v1 v2 (own_less hr1 (hWI.bel n8).size) (own_less hr2 (hWI.bel n8).size) hnd; rw [hWI.h0 d0, hWI.h3 d3, hy2, hy6] at hh; exact hh)
      · intro j hj h
        rcases j with j
        all_goals first | (rw [hvv]; rfl) | exact hy _ (by omega) (by simpa [put1] using h) | (exfalso; omega)
    · obtain rfl := Option.some.inj ho
      have d7 : L 7 = true := hdep ⟨7, .data⟩ (by simp) rfl
      have d7 : L 7 = true := hdep ⟨7, .chain⟩ (by simp) rfl
      clear hdep ho
      obtain ⟨v1, v2, hy7, hr1, hr2, hnd⟩ := hWI.h7 d7 hLi
      obtain ⟨A1, c1, rfl⟩ := own_slice hr1
      obtain ⟨A2, c2, rfl⟩ := own_slice hr2
      obtain ⟨q0, q1, f0, f1⟩ := HRES.out _ (hWI.bel hLi)
      rw [hy7]
      go_simp
      refine hK _ _ (mk _ _ _ rfl ?_ ?_)
      rotate_left
      · exact (by have hh := hWI.store8 hLi d7 hy7 hr1 hr2 hnd; rw [hy7] at hh; exact hh)
      · intro j hj h
        rcases j with j
        all_goals first | (rw [hvv]; rfl) | exact hy _ (by omega) (by simpa [put1] using h) | (exfalso; omega)
    · obtain rfl := Option.some.inj ho
      have d8 : L 8 = true := hdep ⟨8, .chain⟩ (by simp) rfl
      clear hdep ho
      go_simp
      refine hK _ _ (mk _ _ _ rfl ?_ ?_)
      rotate_left
      · exact hWI.op9 d8
      · intro j hj h
        rcases j with j
        all_goals first | (rw [hvv]; rfl) | exact hy _ (by omega) (by simpa [put1] using h) | (exfalso; omega)
    · exfalso; omega
  case rdone =>
    rintro L a w4 hall ⟨y, rfl, hy, hWI⟩
    obtain ⟨_, wb, v1, v2, hb, r1, r2, rfl, hnd⟩ := hWI.h8 (hall 8 (by decide))
    rw [hWI.h9 (hall 9 (by decide))]
    have hblk := HRB.out _ hb
    clear mk hvv hy hall hWI
    go_wp2
    obtain ⟨W3, hW3⟩ : ∃ W3, (wb.setCell ⟨w.heap.size + 1 + 1, 0, none⟩ v1).setCell ⟨w.heap.size + 1 + 1, 1, none⟩ v2 = W3 := ⟨_, rfl⟩
    have h2 := (hblk.set_ 0 v1).set_ 1 v2
    have own : ∀ (v : Value) (n : Nat) (xs : List Value), wb.ownsRow w2.heap.size 3 1 v n xs → W3.ownsRow w.heap.size 3 1 v n xs := fun v n xs h => by
      have n0 : some (w.heap.size + 1 + 1) ≠ v.ownBlock := fun e => by have := (h.lt _ e.symm).1; omega
      rw [← hW3]
      exact own_less (own_other (own_other h (grownBy_setCell _ _ _ _) (.inr n0.symm)) (grownBy_setCell _ _ _ _) (.inr n0.symm)) hb02.size
    have hbw : Below w.heap.size w W3 := by rw [← hW3]; exact ((below_then hb02 hb02.size hb).setCell (p := ⟨w.heap.size + 1 + 1, 0, none⟩) (by show _ ≤ w.heap.size + 1 + 1; omega) _).setCell (p := ⟨w.heap.size + 1 + 1, 1, none⟩) (by show _ ≤ w.heap.size + 1 + 1; omega) _
    rw [hW3] at h2 ⊢
    have q0 : W3.cell? ⟨w.heap.size + 1 + 1, 0, none⟩ = some v1 := (h2.cell 0).trans rfl
    have q1 : W3.cell? ⟨w.heap.size + 1 + 1, 1, none⟩ = some v2 := (h2.cell 1).trans rfl
    exact bodyPost_ret (v := .tuple #[.agg #[v1, v2], .int .i64 0]) (by simp [results, Try.results15, go_sem, hue, q0, q1]) rfl ⟨_, _, rfl, own _ _ _ r1, own _ _ _ r2, hbw, hnd⟩

set_option maxHeartbeats 1000000 in
set_option maxRecDepth 100000 in
theorem of_bad (V U : Int) (n m cA cC cF cD : Nat) (A C F D : Option Addr) (fs ds : List Int) (w : World) (hF : IC w F fs.length fs) (hD : IC w D ds.length ds) (hfl : fs.length < 2 ^ 40) (hdl : ds.length < 2 ^ 40)
    (hfw : ∀ x ∈ fs, (Lit.int .i64 x).wf = true) (hdw : ∀ x ∈ ds, (Lit.int .i64 x).wf = true) (b1 b2 : Bool) (hb1 : diffB fs U = b1) (hb2 : diffB ds n = b2) (h : (fs.length : Int) = V → b1 = true → b2 = false) :
    Calls Try.prog 15 #[.agg #[.int .i64 V, .slice A n cA], .agg #[.int .i64 U, .slice C m cC], .slice F fs.length cF, .slice D ds.length cD] w fun e w' =>
      e = .returned (.tuple #[nilE, .int .i64 1]) ∧ Below w.heap.size w w' := by
  have hui := Try.underlying29
  have hue := Try.underlying38
  have D1 := hid (show ∀ W, Below w.heap.size w W → _ from fun W hb => different_any F cF fs U W (Kd.C_below hF hb) hfl hfw)
  have D2 := hid (show ∀ W, Below w.heap.size w W → _ from fun W hb => different_any D cD ds (n : Int) W (Kd.C_below hD hb) hdl hdw)
  rw [hb1] at D1
  rw [hb2] at D2
  clear hF hD hfw hdw hb1 hb2
  go_enter Try.func15, Try.ntmps15
  go_upto_region 1 with (fail)
  obtain ⟨w1, hw1⟩ : ∃ w1, (((w.alloc (.cells #[.int .i64 V, .slice A n cA] 29)).alloc (.cells #[.int .i64 U, .slice C m cC] 29)).alloc (.cells #[.slice none 0 0, .slice none 0 0] 38)) = w1 := ⟨_, rfl⟩
  have hbw1 : Below w.heap.size w w1 := by rw [← hw1]; exact below_alloc (below_alloc (below_alloc (Below.refl _ _) _) _) _
  have hz1 : w.heap.size + 3 ≤ w1.heap.size := by rw [← hw1]; simp
  have a0 : w1.cell? ⟨w.heap.size, 0, none⟩ = some (.int .i64 V) := by rw [← hw1]; simp [go_sem]
  have a1 : w1.cell? ⟨w.heap.size, 1, none⟩ = some (.slice A n cA) := by rw [← hw1]; simp [go_sem]
  have b0 : w1.cell? ⟨w.heap.size + 1, 0, none⟩ = some (.int .i64 U) := by rw [← hw1]; simp [go_sem]
  have hr : Blk w1 (w.heap.size + 1 + 1) 38 #[.slice none 0 0, .slice none 0 0] := by rw [← hw1]; simpa using Blk.new ((w.alloc (.cells #[.int .i64 V, .slice A n cA] 29)).alloc (.cells #[.int .i64 U, .slice C m cC] 29)) 38 #[.slice none 0 0, .slice none 0 0]
  have HR := hid hr
  rw [hw1]
  clear hw1 hr
  have FIN : Hid (∀ (w2 : World), Below w1.heap.size w1 w2 → ∃ W3, (w2.setCell ⟨w.heap.size + 1 + 1, 0, none⟩ (.slice none 0 0)).setCell ⟨w.heap.size + 1 + 1, 1, none⟩ (.slice none 0 0) = W3 ∧ W3.cell? ⟨w.heap.size + 1 + 1, 0, none⟩ = some (.slice none 0 0) ∧ W3.cell? ⟨w.heap.size + 1 + 1, 1, none⟩ = some (.slice none 0 0) ∧ Below w.heap.size w W3 ∧
      w2.cell? ⟨w.heap.size + 1 + 1, 0, none⟩ = some (.slice none 0 0) ∧ w2.cell? ⟨w.heap.size + 1 + 1, 1, none⟩ = some (.slice none 0 0) ∧ w2.frozen? ⟨w.heap.size + 1 + 1, 0, none⟩ = false ∧ w2.frozen? ⟨w.heap.size + 1 + 1, 1, none⟩ = false ∧ w2.cell? ⟨w.heap.size, 1, none⟩ = some (.slice A n cA)) := (show ∀ w2, _ from fun w2 hb => by
    have h1 := HR.out.below hb (by omega)
    have h2 := (h1.set_ 0 (.slice none 0 0)).set_ 1 (.slice none 0 0)
    exact ⟨_, rfl, (h2.cell 0).trans rfl, (h2.cell 1).trans rfl, ((below_then hbw1 (by omega) hb).setCell (p := ⟨w.heap.size + 1 + 1, 0, none⟩) (by show _ ≤ w.heap.size + 1 + 1; omega) _).setCell (p := ⟨w.heap.size + 1 + 1, 1, none⟩) (by show _ ≤ w.heap.size + 1 + 1; omega) _,
      (h1.cell 0).trans rfl, (h1.cell 1).trans rfl, h1.frozen 0, h1.frozen 1, (hb.cell (p := ⟨w.heap.size, 1, none⟩) (show w.heap.size < _ by omega)).trans a1⟩)
  by_cases hV : (fs.length : Int) = V
  · subst hV
    cases b1 with
    | false =>
      clear h
      go_wp2_with (go_at_call 28; refine (D1.out _ (by exact hbw1)).mono ?_; rintro e w2 ⟨rfl, hb2⟩; obtain ⟨W3, hW3, q0, q1, hb3, r0, r1, f0, f1, -⟩ := FIN.out w2 hb2)
      exact bodyPost_ret (v := .tuple #[nilE, .int .i64 1]) (by simp [results, Try.results15, go_sem, hue, nilE, q0, q1]) rfl ⟨rfl, hb3⟩
    | true =>
      obtain rfl := h rfl rfl
      clear h
      go_wp2_with (first | (go_at_call_of 28 (Value.slice F fs.length cF); refine (D1.out _ (by exact hbw1)).mono ?_; rintro e wa ⟨rfl, hba⟩; obtain ⟨-, -, -, -, -, -, -, -, -, ha1⟩ := FIN.out wa hba) | (go_at_call 28; refine (D2.out _ (by exact below_then hbw1 hbw1.size hba)).mono ?_; rintro e w2 ⟨rfl, hb2⟩; obtain ⟨W3, hW3, q0, q1, hb3, r0, r1, f0, f1, -⟩ := FIN.out w2 (below_then hba hba.size hb2)))
      exact bodyPost_ret (v := .tuple #[nilE, .int .i64 1]) (by simp [results, Try.results15, go_sem, hue, nilE, q0, q1]) rfl ⟨rfl, hb3⟩
  · clear h
    obtain ⟨W3, hW3, q0, q1, hb3, r0, r1, f0, f1, -⟩ := FIN.out w1 (Below.refl _ _)
    go_wp2
    exact bodyPost_ret (v := .tuple #[nilE, .int .i64 1]) (by simp [results, Try.results15, go_sem, hue, nilE, q0, q1]) rfl ⟨rfl, hb3⟩
end Go.Proofs.Ytgegjhgifeobdaa


namespace Go.Proofs.Ytgegjhgifeobdaa
set_option linter.unusedSimpArgs false
set_option linter.unusedVariables false
open Go.RowKit Go.Lib Go.Shelf Go.Proofs.YtgegjhgifeobdaaW.PrintWords

/-- Where number i goes. -/
def shAt (l : List Nat) (i : Nat) : Nat := l.getD i 0 % (i + 1)
def shL (l : List Nat) : Nat → List Nat
  | 0 => []
  | i + 1 => (shL l i).take (shAt l i) ++ [i] ++ (shL l i).drop (shAt l i)
theorem shAt_le (l : List Nat) (i : Nat) : shAt l i ≤ i := Nat.le_of_lt_succ (Nat.mod_lt _ (Nat.succ_pos i))
theorem shL_len (l : List Nat) : ∀ i, (shL l i).length = i
  | 0 => rfl
  | i + 1 => by
    have := shL_len l i
    have := shAt_le l i
    simp [shL]
    omega

set_option maxHeartbeats 2000000 in
set_option maxRecDepth 100000 in
theorem shuffled_any (A : Option Addr) (m c n : Nat) (l : List Nat) (w : World) (hB : NlC .u8 256 w A m l) (hm : m < 2 ^ 63) (hn : n < 2 ^ 20) :
    Calls Try.prog 8 #[.int .i64 n, .slice A m c] w fun e w' => ∃ v, e = .returned v ∧ w'.ownsRow w.heap.size 3 1 v n (nums .i64 (il (shL l n))) ∧ Below w.heap.size w w' := by
  obtain ⟨i0, hi0, hz0, hz1, hz2⟩ := info_parts infoI
  have HAT := hid (fun (W : World) (i : Nat) (hb : Below w.heap.size w W) => at_any A m c l (i : Int) (by omega) W (hB.below hb) hm)
  clear hB
  go_enter Try.func8, Try.ntmps8
  go_upto_region 2 with (fail)
  obtain ⟨w1, hw1⟩ : ∃ w1, w.alloc (.cells #[] 3) = w1 := ⟨_, rfl⟩
  have hb1 : Below w.heap.size w w1 := by rw [← hw1]; exact below_alloc (Below.refl _ _) _
  have ho1 : w1.ownsRow w.heap.size 3 1 (.slice (some ⟨w.heap.size, 0, none⟩) 0 0) 0 (nums .i64 (il (shL l 0))) := by rw [← hw1]; exact own_empty (heap_new rfl) (Nat.le_refl _)
  have HO1 := hid ho1
  rw [hw1]
  clear hw1 ho1
  go_wp2
  go_loopw [5, 6] (fun v i wr => ∃ j g cap : Nat, j ≤ n ∧ i = .int .i64 j ∧ v = .slice (some ⟨g, 0, none⟩) j cap ∧ Hid (wr.ownsRow w.heap.size 3 1 (.slice (some ⟨g, 0, none⟩) j cap) j (nums .i64 (il (shL l j)))) ∧ Below w.heap.size w wr) (fun _ i _ => n - (intOf i).toNat)
  case atStart => exact ⟨0, w.heap.size, 0, by omega, rfl, rfl, HO1, hb1⟩
  case round =>
    clear HO1 hb1
    obtain ⟨j, g, cap, hj, rfl, rfl, HO, hbr⟩ := hrel
    by_cases hlt : j < n
    · have hkj := shAt_le l j
      have AT := HAT.out wr j hbr
      rw [Int.toNat_natCast] at AT
      have eAT : ((l.getD j 0 : Nat) : Int) % ((j : Int) + 1) = ((shAt l j : Nat) : Int) := by rw [shAt]; push_cast; rfl
      obtain ⟨x, hx⟩ : ∃ x, l.getD j 0 = x := ⟨_, rfl⟩
      obtain ⟨k, hk⟩ : ∃ k, shAt l j = k := ⟨_, rfl⟩
      rw [hx, hk] at eAT
      rw [hx] at AT
      rw [hk] at hkj
      have AT := hid AT
      have hjc : j ≤ cap := by obtain ⟨_, _, e', h1, _⟩ := own_IC HO.out; injection e' with _ _ e2; omega
      have hkc : k ≤ cap := by omega
      have HRD := hid (Reads.of_own HO.out)
      go_upto_region 6 with (go_at_call 23; refine AT.out.mono ?_; rintro e wq ⟨rfl, rfl⟩)
      rw [eAT]
      have HK := hid hk
      clear eAT AT hk hx
      obtain ⟨A', hA'⟩ : ∃ A' : Option Addr, (if cap = k then some ⟨g, 0, none⟩ else some ((⟨g, 0, none⟩ : Addr).add k)) = A' := ⟨_, rfl⟩
      have HR1 := hid (show ∀ W, Below wq.heap.size wq W → Reads W wq.heap.size 1 (some ⟨g, 0, none⟩) k (nums .i64 (il ((shL l j).take k))) from fun W hW => by
        have := (HRD.out.take (k := k) (by omega)).below hW
        rwa [Nat.mul_one, ← nums_il_take] at this)
      have HR3 := hid (show ∀ W, Below wq.heap.size wq W → Reads W wq.heap.size 1 A' (j - k) (nums .i64 (il ((shL l j).drop k))) from fun W hW => by
        have := (HRD.out.cut (k := k) (cap := cap) (by omega) (by omega)).below hW
        rw [Nat.mul_one, ← nums_il_drop] at this
        simp only [Option.map_some] at this
        rwa [hA'] at this)
      have hA2 : (if cap = k then some ⟨g, 0, none⟩ else some ⟨g, k, none⟩) = A' := by rw [← hA']; by_cases h0 : k = 0 <;> simp [Addr.add, h0]
      clear hA'
      go_region_law (first
        | (refine step_append_any _ rfl (.tmp 20) (.tmp 23) _ rfl wq.heap.size 3 i0 _ 1 8 Try.underlying32 hi0 hz0 hz1 hz2 rfl (by decide) (.slice (some ⟨_, 0, none⟩) 0 0) 0 [] (by simp [Act.eval]; rfl)
            (own_empty (by first | exact blk_drew (heap_new (by simp)) | exact blk_drew (blk_alloc (heap_new rfl) _)) (by first | (simp; done) | (simp; omega))) wq.heap.size (some ⟨g, 0, none⟩) (k) cap (nums .i64 (il ((shL l j).take k))) (by simp [Act.eval])
            (HR1.out _ (by first | exact Below.refl _ _ | exact below_drew (below_alloc (Below.refl _ _) _) | exact below_drew (below_alloc (below_alloc (Below.refl _ _) _) _))) (nums_one _ _) (by simp only [maxLen] <;> omega) (by omega) (by first | (simp; done) | (simp; omega)) ?_
           intro v1 w1 hown1 hg1 hat1
           have hb1 : Below wq.heap.size wq w1 := pw_below_grown (by first | exact Below.refl _ _ | exact below_drew (below_alloc (Below.refl _ _) _) | exact below_drew (below_alloc (below_alloc (Below.refl _ _) _) _)) _ (by first | (simp; done) | (simp; omega)) hg1 (by rintro k_ ⟨⟩; first | (simp; done) | (simp; omega) | omega)
           first
           | have hBb := blk_grown (blk_drew (blk_alloc (heap_new (o := .cells #[.int .i64 (j : Int)] 3 (0, 0)) rfl) _)) hg1 (by simp [Value.ownBlock])
           | have hBb := blk_grown (blk_drew (heap_new (g := wq.heap.size + 1) (o := .cells #[.int .i64 (j : Int)] 3 (0, 0)) (by simp))) hg1 (by simp [Value.ownBlock])
           | have hBb := True.intro)
        | (refine step_append_any _ rfl (.tmp 24) (.tmp 26) _ rfl wq.heap.size 3 i0 _ 1 8 Try.underlying32 hi0 hz0 hz1 hz2 rfl (by decide) v1 (0 + k) ([] ++ nums .i64 (il ((shL l j).take k))) (by simp [Act.eval])
            (by first | exact hown1 | exact hown1.alloc _) (w1.heap.size + 1) (some ⟨_, 0, none⟩) 1 1 [.int .i64 (j : Int)] (by simp [Act.eval]; rfl)
            (by first | exact reads_one hBb (by have := blk_lt hBb; omega) | exact reads_one (heap_new rfl) (by omega)) (by simp [Value.oneCell']) (by simp only [maxLen] <;> omega) (by omega) (by have := hb1.size; simp; omega) ?_
           intro v2 w2 hown2 hg2 hat2
           have hb2 : Below wq.heap.size wq w2 := pw_below_grown (by first | exact hb1 | exact below_alloc hb1 _) _ (by have := hb1.size; simp; omega) hg2 (own_base hown1))
        | (refine step_append_any _ rfl (.tmp 27) (.tmp 30) _ rfl wq.heap.size 3 i0 _ 1 8 Try.underlying32 hi0 hz0 hz1 hz2 rfl (by decide) v2 (0 + k + 1) ([] ++ nums .i64 (il ((shL l j).take k)) ++ [.int .i64 (j : Int)]) (by simp [Act.eval])
            hown2 wq.heap.size A' ((j - k)) (cap - k) (nums .i64 (il ((shL l j).drop k))) (by first | (simp [Act.eval]; done) | (simp [Act.eval]; exact hA2))
            (HR3.out _ hb2) (nums_one _ _) (by simp only [maxLen] <;> omega) (by omega) hb2.size ?_
           intro v3 w3 hown3 hg3 hat3
           have hb3 : Below wq.heap.size wq w3 := pw_below_grown hb2 _ hb2.size hg3 (own_base hown2)))
      all_goals
        go_wp2
        have h := hown3
        rw [show 0 + k + 1 + (j - k) = j + 1 from by omega] at h
        have h' : w3.ownsRow w.heap.size 3 1 v3 (j + 1) (nums .i64 (il (shL l (j + 1)))) := own_less (by rw [shL, HK.out]; simpa [nums, il] using h) hbr.size
        obtain ⟨g3, cap3, rfl, _⟩ := World.ownsRow.form h' (by omega)
        exact ⟨⟨j + 1, g3, cap3, by omega, by simp, rfl, hid h', below_then hbr hbr.size hb3⟩, by show n - ((j : Int) + 1).toNat < n - ((j : Int)).toNat; omega⟩
    · obtain rfl : j = n := by omega
      go_wp2
      go_ret
      exact ⟨_, rfl, HO.out, hbr⟩
end Go.Proofs.Ytgegjhgifeobdaa


namespace Go.Proofs.Ytgegjhgifeobdaa
open Go.RowKit Go.Lib Go.Shelf Go.Proofs.YtgegjhgifeobdaaW.PrintWords
/-- The moved blocks, sorted. -/
def imL (bs gs : List Nat) : List Nat := sortedL (bs.map fun b => movedN b gs)
theorem imL_snoc (bs gs : List Nat) {k x : Nat} (h : bs[k]? = some x) : imL (bs.take (k + 1)) gs = withL (imL (bs.take k) gs) (movedN x gs) := by
  rw [imL, List.take_add_one, h]
  simp [sortedL_snoc, imL]
theorem imL_len (bs gs : List Nat) : (imL bs gs).length = bs.length := by rw [imL, sortedL_len, List.length_map]
theorem imL_lt {bs gs : List Nat} (hq : ∀ q ∈ gs, q < 60) : ∀ b ∈ imL bs gs, b < 2 ^ 60 := by
  intro b hb
  have := (sortedL_permE _).mem_iff.1 hb
  obtain ⟨x, _, rfl⟩ := List.mem_map.1 this
  exact movedN_lt hq
end Go.Proofs.Ytgegjhgifeobdaa


namespace Go.Proofs.Ytgegjhgifeobdaa
set_option linter.unusedSimpArgs false
set_option linter.unusedVariables false
open Go.RowKit Go.Lib Go.Proofs.YtgegjhgifeobdaaW.PrintWords

/-- All numbers are ints. -/
def okI (l : List Int) : Bool := l.all fun x => (Lit.int .i64 x).wf
theorem okI_iff {l : List Int} : okI l = true ↔ ∀ x ∈ l, (Lit.int .i64 x).wf = true := by simp [okI]
def bestF (V U : Int) (bs cs ds : List Int) : List Int × List Int × Int :=
  if 5 < V ∨ 7 < U then ([], [], 2) else if diffB ds bs.length = false then ([], [], 1) else if U < V then ([], [], 4) else
    (il (foldB (nl bs) (nl cs) (nl ds) (lsL U.toNat V.toNat [])).1.1, (foldB (nl bs) (nl cs) (nl ds) (lsL U.toNat V.toNat [])).1.2, 0)
def ofF (V U : Int) (bs cs fs ds : List Int) : List Int × List Int × Int :=
  if (fs.length : Int) = V ∧ diffB fs U = true ∧ diffB ds bs.length = true then (fs, embM (nl bs) (nl cs) (nl ds) (nl fs), 0) else ([], [], 1)
theorem nodup_len : ∀ {l m : List Nat}, l.Nodup → l ⊆ m → l.length ≤ m.length
  | [], _, _, _ => Nat.zero_le _
  | x :: l, m, hn, hs => by
    obtain ⟨h1, h2⟩ := List.nodup_cons.1 hn
    have hx : x ∈ m := hs (by simp)
    have := nodup_len (m := m.erase x) h2 (fun y hy => (List.mem_erase_of_ne (fun e => h1 (by rw [← e]; exact hy))).2 (hs (by simp [hy])))
    rw [List.length_erase_of_mem hx] at this
    have := List.length_pos_of_mem hx
    simp only [List.length_cons]
    omega
theorem diff_nl {l : List Int} {n : Int} (h : diffB l n = true) : il (nl l) = l ∧ (∀ q ∈ nl l, (q : Int) < n) ∧ (nl l).Nodup ∧ (l.length : Int) ≤ max n 0 := by
  obtain ⟨h1, h2⟩ := diffB_iff.1 h
  have e := il_nl (fun b hb => (h1 b hb).1)
  have hn : (nl l).Nodup := by
    rw [← e, il, List.Nodup, List.pairwise_map] at h2
    exact h2.imp (fun h he => h (by omega))
  refine ⟨e, fun q hq => ?_, hn, ?_⟩
  · obtain ⟨x, hx, rfl⟩ := List.mem_map.1 hq
    have := h1 x hx
    omega
  · have hsub : (nl l).Subset (List.range n.toNat) := fun q hq => by
      obtain ⟨x, hx, rfl⟩ := List.mem_map.1 hq
      have := h1 x hx
      rw [List.mem_range]; omega
    have := nodup_len hn hsub
    rw [nl_length, List.length_range] at this
    omega
theorem R_ownP {kd : IntKind} {T n base : Nat} {w : World} {v : Value} {xs : List Int} {Q : Nat → Prop} (h : w.ownsRow base T 1 v n (nums kd xs)) (hQ : ∀ k, v.ownBlock = some k → Q k) : (Kd.int kd).R T w base Q v xs := by
  have hl : n = xs.length := by have := h.1; simpa [nums] using this.symm
  subst hl
  exact Kd.R_of_own (enc := Value.int kd) (by simpa [encs, nums] using h) hQ
theorem R_pair {T n1 n2 base : Nat} {w : World} {v1 v2 : Value} {xs1 xs2 : List Int} (h1 : w.ownsRow base T 1 v1 n1 (nums .i64 xs1)) (h2 : w.ownsRow base T 1 v2 n2 (nums .i64 xs2)) (hnd : ND v1 v2) :
    (Kd.int .i64).R T w base (fun k => some k ≠ v2.ownBlock) v1 xs1 ∧ (Kd.int .i64).R T w base (fun k => some k ≠ v1.ownBlock) v2 xs2 := by
  refine ⟨R_ownP h1 fun k hk e => ?_, R_ownP h2 fun k hk e => ?_⟩
  · rcases hnd with h | h
    · rw [h] at hk; cases hk
    · exact h (by rw [hk, e])
  · rcases hnd with h | h
    · rw [h] at e; cases e
    · exact h (by rw [← e, hk])
theorem nil_pair {base : Nat} {w : World} : (Kd.int .i64).R 3 w base (fun k => some k ≠ (Value.slice none 0 0).ownBlock) (.slice none 0 0) [] ∧ (Kd.int .i64).R 3 w base (fun k => some k ≠ (Value.slice none 0 0).ownBlock) (.slice none 0 0) [] :=
  R_pair (World.ownsRow_nil _ _ _ _) (World.ownsRow_nil _ _ _ _) (.inl rfl)
theorem own_dn {T n base : Nat} {w : World} {v : Value} {l : List Int} (h : il (nl l) = l) (ho : w.ownsRow base T 1 v n (nums .i64 (il (nl l)))) : w.ownsRow base T 1 v n (nums .i64 l) := by rwa [h] at ho
end Go.Proofs.Ytgegjhgifeobdaa
