/- plexuslaw42.EmbedMore, walked. -/
import Derived.Test.YtheclfjbedajfaaEe
import Derived.Test.YtheclfjbedajfaaRx
namespace Go.Proofs.Ytheclfjbedajfaa.Pd
set_option linter.unusedSimpArgs false
set_option linter.unusedVariables false
open Go.RowKit Go.Lib Go.Shelf Go.Proofs.YtheclfjbedajfaaW.PrintWords Go.Proofs.Ytheclfjbedajfaa Go.Proofs.YtheclfjbedajfaaW.PrintMore
attribute [local go_sem] Oper.semAt_some

abbrev tI : TypeId := 36
theorem rU_set {B g t i : Nat} {w : World} {v : Value} {xs : List Int} {cs : Array Value} (h : Kd.R (Kd.int .u64) 60 w B (fun _ => True) v xs) (hb : Blk w g t cs) (ht : 60 ≠ t) (u : Value) : Kd.R (Kd.int .u64) 60 (w.setCell ⟨g, i, none⟩ u) B (fun _ => True) v xs := by
  have h' : Kd.R (Kd.int .u64) 60 w B (fun k => k ≠ g) v xs := ⟨fun k hk e => Kd.R_ne h hb ht (by rw [hk, e]), h.2⟩
  exact Kd.R_mono (Kd.R_keep h' ((KeepBut.refl _ _ _).set_ i u) (fun k h => h)) (fun _ _ => trivial)
/-- What stands while region 8 is carried out in any order. -/
structure S8 (w5 : World) (U : Nat) (ws : List Int) (L : Nat → Bool) (w : World) (y14 y15 y16 : Value) : Prop where
  bel : Below w5.heap.size w5 w
  h14 : L 14 = true → Kd.R (Kd.int .u64) 60 w w5.heap.size (fun _ => True) y14 ws
  h15 : L 15 = true → L 14 = true ∧ y15 = .agg #[.int .i64 U, y14]
  h16 : L 16 = true → ∃ g, y16 = .pointer (some ⟨g, 0, none⟩) ∧ w5.heap.size ≤ g ∧ Blk w g tI (if L 17 then #[.int .i64 U, y14] else #[.int .i64 0, .slice none 0 0])
  d17 : L 17 = true → L 15 = true ∧ L 16 = true
section
variable {w5 w w' : World} {U : Nat} {ws : List Int} {L : Nat → Bool} {y14 y15 y16 v : Value}
theorem p1ne {i j : Nat} (h : j ≠ i) : put1 L i j = L j := by simp [put1, h]
theorem S8.q (h : S8 w5 U ws L w y14 y15 y16) (i : Nat) (hi : i < 14) : S8 w5 U ws (put1 L i) w y14 y15 y16 := by
  have e14 : put1 L i 14 = L 14 := p1ne (by omega)
  have e15 : put1 L i 15 = L 15 := p1ne (by omega)
  have e16 : put1 L i 16 = L 16 := p1ne (by omega)
  have e17 : put1 L i 17 = L 17 := p1ne (by omega)
  exact ⟨h.bel, by rw [e14]; exact h.h14, by rw [e14, e15]; exact h.h15, by rw [e16, e17]; exact h.h16, by rw [e15, e16, e17]; exact h.d17⟩
theorem S8.n17 (h : S8 w5 U ws L w y14 y15 y16) (hf : L 14 = false ∨ L 16 = false) : L 17 = false := by
  cases e : L 17
  · rfl
  · obtain ⟨a, b⟩ := h.d17 e
    obtain ⟨c, _⟩ := h.h15 a
    rcases hf with hf | hf <;> simp_all
theorem S8.call14 (h : S8 w5 U ws L w y14 y15 y16) (hf : L 14 = false) (hb : Below w.heap.size w w') (hr : Kd.R (Kd.int .u64) 60 w' w.heap.size (fun _ => True) v ws) : S8 w5 U ws (put1 L 14) w' v y15 y16 :=
  ⟨below_then h.bel h.bel.size hb, fun _ => Kd.R_lower hr h.bel.size, fun e => (by have := (h.h15 e).1; rw [hf] at this; cases this), fun e => (by
    obtain ⟨g, e1, e2, e3⟩ := h.h16 e
    refine ⟨g, e1, e2, ?_⟩
    show Blk _ _ _ (if L 17 = true then _ else _)
    rw [h.n17 (.inl hf)] at e3 ⊢
    exact e3.below hb e3.lt), fun e => (by have := h.n17 (.inl hf); rw [show put1 L 14 17 = L 17 from rfl, this] at e; cases e)⟩
theorem S8.op15 (h : S8 w5 U ws L w y14 y15 y16) (d14 : L 14 = true) : S8 w5 U ws (put1 L 15) w y14 (.agg #[.int .i64 U, y14]) y16 := ⟨h.bel, h.h14, fun _ => ⟨d14, rfl⟩, h.h16, fun e => ⟨rfl, (h.d17 e).2⟩⟩
theorem S8.alloc16 (h : S8 w5 U ws L w y14 y15 y16) (hf : L 16 = false) : S8 w5 U ws (put1 L 16) (w.alloc (.cells #[.int .i64 0, .slice none 0 0] tI)) y14 y15 (.pointer (some ⟨w.heap.size, 0, none⟩)) :=
  have hb := below_alloc (Below.refl w.heap.size w) (.cells #[.int .i64 0, .slice none 0 0] tI)
  ⟨below_then h.bel h.bel.size hb, fun e => Kd.R_below (h.h14 e) hb, h.h15, fun _ => ⟨_, rfl, h.bel.size, by show Blk _ _ _ (if L 17 = true then _ else _); rw [h.n17 (.inr hf)]; exact Blk.new _ _ _⟩, fun e => ⟨(h.d17 e).1, rfl⟩⟩
theorem S8.store17 {g : Nat} (h : S8 w5 U ws L w y14 y15 y16) (d15 : L 15 = true) (d16 : L 16 = true) (hf : L 17 = false) (hg : y16 = .pointer (some ⟨g, 0, none⟩)) (hgB : w5.heap.size ≤ g) (hb : Blk w g tI #[.int .i64 0, .slice none 0 0]) :
    S8 w5 U ws (put1 L 17) ((w.setCell ⟨g, 0, none⟩ (.int .i64 U)).setCell ⟨g, 1, none⟩ y14) y14 y15 y16 :=
  ⟨(h.bel.setCell (p := ⟨g, 0, none⟩) hgB _).setCell (p := ⟨g, 1, none⟩) hgB _, fun e => rU_set (rU_set (h.h14 e) hb (by decide) _) (hb.set_ 0 _) (by decide) _, h.h15, fun _ => ⟨g, hg, hgB, by
    have := (hb.set_ 0 (.int .i64 U)).set_ 1 y14
    rw [show put1 L 17 17 = true from rfl, if_pos rfl]
    simpa using this⟩, fun _ => ⟨d15, d16⟩⟩
end

/-- What stands while region 9 is carried out in any order. -/
structure S9 (w6 : World) (pA AGA AGX SDv : Value) (x1 m1 x2 m2 : List Int) (L : Nat → Bool) (w : World) (y5 y6 y7 y8 y9 y10 y11 y12 : Value) : Prop where
  bel : Below w6.heap.size w6 w
  h5 : L 5 = true → isG w6.heap.size w x1 m1 y5
  h6 : L 6 = true → y6 = pA
  h7 : L 7 = true → y7 = AGA
  h8 : L 8 = true → y8 = AGX
  h9 : L 9 = true → y9 = SDv
  h10 : L 10 = true → isG w6.heap.size w x2 m2 y10
  h11 : L 11 = true → isP w6.heap.size w (L 13) y5 y11
  h12 : L 12 = true → isP w6.heap.size w (L 14) y10 y12
  hne : L 11 = true → L 12 = true → y11 ≠ y12
  d13 : L 13 = true → L 5 = true ∧ L 11 = true
  d14 : L 14 = true → L 10 = true ∧ L 12 = true
section
variable {w6 w w' : World} {pA AGA AGX SDv : Value} {x1 m1 x2 m2 : List Int} {L : Nat → Bool} {y5 y6 y7 y8 y9 y10 y11 y12 v : Value}
theorem S9.n13 (h : S9 w6 pA AGA AGX SDv x1 m1 x2 m2 L w y5 y6 y7 y8 y9 y10 y11 y12) (hf : L 5 = false ∨ L 11 = false) : L 13 = false := by
  cases e : L 13
  · rfl
  · obtain ⟨a, b⟩ := h.d13 e
    rcases hf with hf | hf <;> simp_all
theorem S9.n14 (h : S9 w6 pA AGA AGX SDv x1 m1 x2 m2 L w y5 y6 y7 y8 y9 y10 y11 y12) (hf : L 10 = false ∨ L 12 = false) : L 14 = false := by
  cases e : L 14
  · rfl
  · obtain ⟨a, b⟩ := h.d14 e
    rcases hf with hf | hf <;> simp_all
theorem S9.q (h : S9 w6 pA AGA AGX SDv x1 m1 x2 m2 L w y5 y6 y7 y8 y9 y10 y11 y12) (i : Nat) (hi : i < 5) : S9 w6 pA AGA AGX SDv x1 m1 x2 m2 (put1 L i) w y5 y6 y7 y8 y9 y10 y11 y12 := by
  have e : ∀ j, 5 ≤ j → put1 L i j = L j := fun j hj => p1ne (by omega)
  refine ⟨h.bel, ?_, ?_, ?_, ?_, ?_, ?_, ?_, ?_, ?_, ?_, ?_⟩
  · rw [e 5 (by omega)]; exact h.h5
  · rw [e 6 (by omega)]; exact h.h6
  · rw [e 7 (by omega)]; exact h.h7
  · rw [e 8 (by omega)]; exact h.h8
  · rw [e 9 (by omega)]; exact h.h9
  · rw [e 10 (by omega)]; exact h.h10
  · rw [e 11 (by omega), e 13 (by omega)]; exact h.h11
  · rw [e 12 (by omega), e 14 (by omega)]; exact h.h12
  · rw [e 11 (by omega), e 12 (by omega)]; exact h.hne
  · rw [e 13 (by omega), e 5 (by omega), e 11 (by omega)]; exact h.d13
  · rw [e 14 (by omega), e 10 (by omega), e 12 (by omega)]; exact h.d14
theorem S9.go (h : S9 w6 pA AGA AGX SDv x1 m1 x2 m2 L w y5 y6 y7 y8 y9 y10 y11 y12) (hb : Below w.heap.size w w') : S9 w6 pA AGA AGX SDv x1 m1 x2 m2 L w' y5 y6 y7 y8 y9 y10 y11 y12 :=
  ⟨below_then h.bel h.bel.size hb, fun e => (h.h5 e).below hb, h.h6, h.h7, h.h8, h.h9, fun e => (h.h10 e).below hb, fun e => (h.h11 e).below hb, fun e => (h.h12 e).below hb, h.hne, h.d13, h.d14⟩
theorem S9.op6 (h : S9 w6 pA AGA AGX SDv x1 m1 x2 m2 L w y5 y6 y7 y8 y9 y10 y11 y12) : S9 w6 pA AGA AGX SDv x1 m1 x2 m2 (put1 L 6) w y5 pA y7 y8 y9 y10 y11 y12 :=
  ⟨h.bel, h.h5, fun _ => rfl, h.h7, h.h8, h.h9, h.h10, h.h11, h.h12, h.hne, h.d13, h.d14⟩
theorem S9.op7 (h : S9 w6 pA AGA AGX SDv x1 m1 x2 m2 L w y5 y6 y7 y8 y9 y10 y11 y12) : S9 w6 pA AGA AGX SDv x1 m1 x2 m2 (put1 L 7) w y5 y6 AGA y8 y9 y10 y11 y12 :=
  ⟨h.bel, h.h5, h.h6, fun _ => rfl, h.h8, h.h9, h.h10, h.h11, h.h12, h.hne, h.d13, h.d14⟩
theorem S9.op8 (h : S9 w6 pA AGA AGX SDv x1 m1 x2 m2 L w y5 y6 y7 y8 y9 y10 y11 y12) : S9 w6 pA AGA AGX SDv x1 m1 x2 m2 (put1 L 8) w y5 y6 y7 AGX y9 y10 y11 y12 :=
  ⟨h.bel, h.h5, h.h6, h.h7, fun _ => rfl, h.h9, h.h10, h.h11, h.h12, h.hne, h.d13, h.d14⟩
theorem S9.op9 (h : S9 w6 pA AGA AGX SDv x1 m1 x2 m2 L w y5 y6 y7 y8 y9 y10 y11 y12) : S9 w6 pA AGA AGX SDv x1 m1 x2 m2 (put1 L 9) w y5 y6 y7 y8 SDv y10 y11 y12 :=
  ⟨h.bel, h.h5, h.h6, h.h7, h.h8, fun _ => rfl, h.h10, h.h11, h.h12, h.hne, h.d13, h.d14⟩
theorem S9.put5 (h : S9 w6 pA AGA AGX SDv x1 m1 x2 m2 L w y5 y6 y7 y8 y9 y10 y11 y12) (hf : L 5 = false) (hv : isG w6.heap.size w x1 m1 v) : S9 w6 pA AGA AGX SDv x1 m1 x2 m2 (put1 L 5) w v y6 y7 y8 y9 y10 y11 y12 :=
  ⟨h.bel, fun _ => hv, h.h6, h.h7, h.h8, h.h9, h.h10, fun e => (by have := h.h11 e; rw [h.n13 (.inl hf)] at this; show isP _ _ (L 13) _ _; rw [h.n13 (.inl hf)]; exact this), h.h12, h.hne, fun e => ⟨rfl, (h.d13 e).2⟩, h.d14⟩
theorem S9.put10 (h : S9 w6 pA AGA AGX SDv x1 m1 x2 m2 L w y5 y6 y7 y8 y9 y10 y11 y12) (hf : L 10 = false) (hv : isG w6.heap.size w x2 m2 v) : S9 w6 pA AGA AGX SDv x1 m1 x2 m2 (put1 L 10) w y5 y6 y7 y8 y9 v y11 y12 :=
  ⟨h.bel, h.h5, h.h6, h.h7, h.h8, h.h9, fun _ => hv, h.h11, fun e => (by have := h.h12 e; rw [h.n14 (.inl hf)] at this; show isP _ _ (L 14) _ _; rw [h.n14 (.inl hf)]; exact this), h.hne, h.d13, fun e => ⟨rfl, (h.d14 e).2⟩⟩
theorem S9.alloc11 (h : S9 w6 pA AGA AGX SDv x1 m1 x2 m2 L w y5 y6 y7 y8 y9 y10 y11 y12) (hf : L 11 = false) : S9 w6 pA AGA AGX SDv x1 m1 x2 m2 (put1 L 11) (w.alloc (.cells nilG tG)) y5 y6 y7 y8 y9 y10 (.pointer (some ⟨w.heap.size, 0, none⟩)) y12 :=
  have k := h.go (below_alloc (Below.refl w.heap.size w) (.cells nilG tG))
  ⟨k.bel, k.h5, k.h6, k.h7, k.h8, k.h9, k.h10, fun _ => (by show isP _ _ (L 13) _ _; rw [h.n13 (.inr hf)]; exact ⟨_, rfl, h.bel.size, Blk.new _ _ _⟩), k.h12, fun _ e => (by
    obtain ⟨g, e9, _, hg⟩ := h.h12 e
    rintro rfl
    injection e9 with e9
    injection e9 with e9
    have := hg.lt
    injection e9 with e9
    omega), fun e => ⟨(h.d13 e).1, rfl⟩, k.d14⟩
theorem S9.alloc12 (h : S9 w6 pA AGA AGX SDv x1 m1 x2 m2 L w y5 y6 y7 y8 y9 y10 y11 y12) (hf : L 12 = false) : S9 w6 pA AGA AGX SDv x1 m1 x2 m2 (put1 L 12) (w.alloc (.cells nilG tG)) y5 y6 y7 y8 y9 y10 y11 (.pointer (some ⟨w.heap.size, 0, none⟩)) :=
  have k := h.go (below_alloc (Below.refl w.heap.size w) (.cells nilG tG))
  ⟨k.bel, k.h5, k.h6, k.h7, k.h8, k.h9, k.h10, k.h11, fun _ => (by show isP _ _ (L 14) _ _; rw [h.n14 (.inr hf)]; exact ⟨_, rfl, h.bel.size, Blk.new _ _ _⟩), fun e _ => (by
    obtain ⟨g, e9, _, hg⟩ := h.h11 e
    rintro rfl
    injection e9 with e9
    injection e9 with e9
    have := hg.lt
    injection e9 with e9
    omega), k.d13, fun e => ⟨(h.d14 e).1, rfl⟩⟩
theorem S9.store13 {g : Nat} {u1 u2 : Value} (h : S9 w6 pA AGA AGX SDv x1 m1 x2 m2 L w y5 y6 y7 y8 y9 y10 y11 y12) (d3 : L 5 = true) (d8 : L 11 = true) (hy : y5 = .agg #[u1, u2, .int .i64 0]) (hg : y11 = .pointer (some ⟨g, 0, none⟩)) (hgB : w6.heap.size ≤ g) (hb : Blk w g tG nilG) :
    S9 w6 pA AGA AGX SDv x1 m1 x2 m2 (put1 L 13) (set3 w g u1 u2) y5 y6 y7 y8 y9 y10 y11 y12 :=
  ⟨set3_below h.bel hgB _ _, fun e => (h.h5 e).set3 hb _ _, h.h6, h.h7, h.h8, h.h9, fun e => (h.h10 e).set3 hb _ _, fun _ => ⟨g, hg, hgB, by rw [hy]; exact set3_self hb⟩, fun e => (by
      obtain ⟨g', e', h1, h2⟩ := h.h12 e
      exact ⟨g', e', h1, set3_far h2 (fun ee => h.hne d8 e (by rw [hg, e', ee])) _ _⟩), h.hne, fun _ => ⟨d3, d8⟩, h.d14⟩
theorem S9.store14 {g : Nat} {u1 u2 : Value} (h : S9 w6 pA AGA AGX SDv x1 m1 x2 m2 L w y5 y6 y7 y8 y9 y10 y11 y12) (d3 : L 10 = true) (d8 : L 12 = true) (hy : y10 = .agg #[u1, u2, .int .i64 0]) (hg : y12 = .pointer (some ⟨g, 0, none⟩)) (hgB : w6.heap.size ≤ g) (hb : Blk w g tG nilG) :
    S9 w6 pA AGA AGX SDv x1 m1 x2 m2 (put1 L 14) (set3 w g u1 u2) y5 y6 y7 y8 y9 y10 y11 y12 :=
  ⟨set3_below h.bel hgB _ _, fun e => (h.h5 e).set3 hb _ _, h.h6, h.h7, h.h8, h.h9, fun e => (h.h10 e).set3 hb _ _, fun e => (by
      obtain ⟨g', e', h1, h2⟩ := h.h11 e
      exact ⟨g', e', h1, set3_far h2 (fun ee => h.hne e d8 (by rw [hg, e', ee])) _ _⟩), fun _ => ⟨g, hg, hgB, by rw [hy]; exact set3_self hb⟩, h.hne, h.d13, fun _ => ⟨d3, d8⟩⟩
end
/-- What stands while region 10 is carried out in any order. -/
structure S10 (w7 : World) (p2 G2 SDv : Value) (n1 n2 : Nat) (L : Nat → Bool) (w : World) (y3 y4 y5 y6 y7 y8 y9 y10 y11 : Value) : Prop where
  bel : Below w7.heap.size w7 w
  h3 : L 3 = true → ∃ A c, y3 = .slice A n1 c
  h4 : L 4 = true → y4 = .int .i64 n1
  h5 : L 5 = true → y5 = p2
  h6 : L 6 = true → y6 = G2
  h7 : L 7 = true → y7 = SDv
  h8 : L 8 = true → ∃ A c, y8 = .slice A n2 c
  h9 : L 9 = true → y9 = .int .i64 n2
  h10 : L 10 = true → y10 = .int .i64 n1
  h11 : L 11 = true → y11 = .int .i64 n2
section
variable {w7 w w' : World} {p2 G2 SDv : Value} {n1 n2 : Nat} {L : Nat → Bool} {y3 y4 y5 y6 y7 y8 y9 y10 y11 v : Value}
theorem S10.q (h : S10 w7 p2 G2 SDv n1 n2 L w y3 y4 y5 y6 y7 y8 y9 y10 y11) (i : Nat) (hi : i < 3) : S10 w7 p2 G2 SDv n1 n2 (put1 L i) w y3 y4 y5 y6 y7 y8 y9 y10 y11 := by
  have e : ∀ j, 3 ≤ j → put1 L i j = L j := fun j hj => p1ne (by omega)
  refine ⟨h.bel, ?_, ?_, ?_, ?_, ?_, ?_, ?_, ?_, ?_⟩
  · rw [e 3 (by omega)]; exact h.h3
  · rw [e 4 (by omega)]; exact h.h4
  · rw [e 5 (by omega)]; exact h.h5
  · rw [e 6 (by omega)]; exact h.h6
  · rw [e 7 (by omega)]; exact h.h7
  · rw [e 8 (by omega)]; exact h.h8
  · rw [e 9 (by omega)]; exact h.h9
  · rw [e 10 (by omega)]; exact h.h10
  · rw [e 11 (by omega)]; exact h.h11
theorem S10.op4 (h : S10 w7 p2 G2 SDv n1 n2 L w y3 y4 y5 y6 y7 y8 y9 y10 y11) : S10 w7 p2 G2 SDv n1 n2 (put1 L 4) w y3 (.int .i64 n1) y5 y6 y7 y8 y9 y10 y11 :=
  ⟨h.bel, h.h3, fun _ => rfl, h.h5, h.h6, h.h7, h.h8, h.h9, h.h10, h.h11⟩
theorem S10.op5 (h : S10 w7 p2 G2 SDv n1 n2 L w y3 y4 y5 y6 y7 y8 y9 y10 y11) : S10 w7 p2 G2 SDv n1 n2 (put1 L 5) w y3 y4 p2 y6 y7 y8 y9 y10 y11 :=
  ⟨h.bel, h.h3, h.h4, fun _ => rfl, h.h6, h.h7, h.h8, h.h9, h.h10, h.h11⟩
theorem S10.op6 (h : S10 w7 p2 G2 SDv n1 n2 L w y3 y4 y5 y6 y7 y8 y9 y10 y11) : S10 w7 p2 G2 SDv n1 n2 (put1 L 6) w y3 y4 y5 G2 y7 y8 y9 y10 y11 :=
  ⟨h.bel, h.h3, h.h4, h.h5, fun _ => rfl, h.h7, h.h8, h.h9, h.h10, h.h11⟩
theorem S10.op7 (h : S10 w7 p2 G2 SDv n1 n2 L w y3 y4 y5 y6 y7 y8 y9 y10 y11) : S10 w7 p2 G2 SDv n1 n2 (put1 L 7) w y3 y4 y5 y6 SDv y8 y9 y10 y11 :=
  ⟨h.bel, h.h3, h.h4, h.h5, h.h6, fun _ => rfl, h.h8, h.h9, h.h10, h.h11⟩
theorem S10.op9 (h : S10 w7 p2 G2 SDv n1 n2 L w y3 y4 y5 y6 y7 y8 y9 y10 y11) : S10 w7 p2 G2 SDv n1 n2 (put1 L 9) w y3 y4 y5 y6 y7 y8 (.int .i64 n2) y10 y11 :=
  ⟨h.bel, h.h3, h.h4, h.h5, h.h6, h.h7, h.h8, fun _ => rfl, h.h10, h.h11⟩
theorem S10.op10 (h : S10 w7 p2 G2 SDv n1 n2 L w y3 y4 y5 y6 y7 y8 y9 y10 y11) : S10 w7 p2 G2 SDv n1 n2 (put1 L 10) w y3 y4 y5 y6 y7 y8 y9 (.int .i64 n1) y11 :=
  ⟨h.bel, h.h3, h.h4, h.h5, h.h6, h.h7, h.h8, h.h9, fun _ => rfl, h.h11⟩
theorem S10.op11 (h : S10 w7 p2 G2 SDv n1 n2 L w y3 y4 y5 y6 y7 y8 y9 y10 y11) : S10 w7 p2 G2 SDv n1 n2 (put1 L 11) w y3 y4 y5 y6 y7 y8 y9 y10 (.int .i64 n2) :=
  ⟨h.bel, h.h3, h.h4, h.h5, h.h6, h.h7, h.h8, h.h9, h.h10, fun _ => rfl⟩
theorem S10.call3 (h : S10 w7 p2 G2 SDv n1 n2 L w y3 y4 y5 y6 y7 y8 y9 y10 y11) (hb : Below w.heap.size w w') (hv : ∃ A c, v = .slice A n1 c) : S10 w7 p2 G2 SDv n1 n2 (put1 L 3) w' v y4 y5 y6 y7 y8 y9 y10 y11 :=
  ⟨below_then h.bel h.bel.size hb, fun _ => hv, h.h4, h.h5, h.h6, h.h7, h.h8, h.h9, h.h10, h.h11⟩
theorem S10.call8 (h : S10 w7 p2 G2 SDv n1 n2 L w y3 y4 y5 y6 y7 y8 y9 y10 y11) (hb : Below w.heap.size w w') (hv : ∃ A c, v = .slice A n2 c) : S10 w7 p2 G2 SDv n1 n2 (put1 L 8) w' y3 y4 y5 y6 y7 v y9 y10 y11 :=
  ⟨below_then h.bel h.bel.size hb, h.h3, h.h4, h.h5, h.h6, h.h7, fun _ => hv, h.h9, h.h10, h.h11⟩
end
theorem best_gen {V U : Nat} {A C D : List Nat} (hv : V ≤ 4) (hu : U ≤ 6) (hal : A.length ≤ 10) (hab : ∀ b ∈ A, b < 2 ^ V) (hcl : C.length ≤ 1000) (hcb : ∀ b ∈ C, b < 2 ^ U) (hD : ∀ i ∈ D, i < A.length) (hDn : D.Nodup) (hDl : D.length ≤ A.length) (hVU : V ≤ U) :
    ∃ F, plexuslaw42_best.f V (il A) U (il C) (il D) = some (il F, embM A C D F, 0) ∧ F ∈ lsL U V [] ∧ ∀ g ∈ lsL U V [], keptN A C D g ≤ keptN A C D F := by
  have h1 : (il A).length ≤ 12 := by rw [il_length]; exact Nat.le_trans hal (by decide)
  have h2 : (il C).length ≤ 1000 := by rw [il_length]; exact hcl
  have h3 : (il D).length < 1099511627776 := by rw [il_length]; exact Nat.lt_of_le_of_lt (Nat.le_trans hDl hal) (by decide)
  have h4 : okL 18446744073709551616 (il A) = true := okL_il fun b hb => Nat.lt_of_lt_of_le (hab b hb) (Nat.le_trans (Nat.pow_le_pow_right (by decide) hv) (by decide))
  have h5 : okL 18446744073709551616 (il C) = true := okL_il fun b hb => Nat.lt_of_lt_of_le (hcb b hb) (Nat.le_trans (Nat.pow_le_pow_right (by decide) hu) (by decide))
  have h6 : okI (il D) = true := okI_il fun q hq => Nat.lt_trans (hD q hq) (Nat.lt_of_le_of_lt hal (by decide))
  have e1 : diffB (il D) ((il A).length : Int) = true := by rw [il_length]; exact diffB_nat hD hDn
  obtain ⟨F, hF, he, hg⟩ := foldB_mem A C D (lsL U V []) (lsL_ne (fun _ h => by cases h) List.nodup_nil (by simpa using hVU))
  refine ⟨F, ?_, hF, hg⟩
  unfold plexuslaw42_best.f embed_Best.f
  rw [if_pos ⟨h1, h2, h3, h4, h5, h6, nnI V, nnI U⟩, Option.bind_some]
  unfold bestF
  rw [if_neg (by omega), e1, if_neg (by decide), if_neg (by omega), nl_il, nl_il, nl_il, Int.toNat_natCast, Int.toNat_natCast, he]

set_option maxHeartbeats 4000000 in
set_option maxRecDepth 100000 in
theorem more_law (A0 A1 A3 A4 : Option Addr) (c0 c1 c3 c4 : Nat) (l0 l1 l3 l4 : List Int) (a s more : Int) (w : World) (hC0 : Kd.C (Kd.int .u8) w A0 l0.length l0) (hc0 : l0.length ≤ c0) (hC1 : Kd.C (Kd.int .u8) w A1 l1.length l1) (hc1 : l1.length ≤ c1) (hC3 : Kd.C (Kd.int .u8) w A3 l3.length l3) (hc3 : l3.length ≤ c3) (hC4 : Kd.C (Kd.int .u8) w A4 l4.length l4) (hc4 : l4.length ≤ c4)
    (V U : Nat) (A C D : List Nat) (k0 : Nat) (hm : plexusref42_Made.f 10 l0 l1 a l3 l4 = some ((V : Int), il A, (U : Int), il C)) (hp : MpE V U A C) (hd : plexusref42_Done.f k0 V (il A) s = some (il D)) (hD : ∀ i ∈ D, i < A.length) (hDn : D.Nodup) (hDl : D.length ≤ A.length) (h0 : 0 ≤ more) (h1 : more < 18446744073709551616)
    (hfin : ∀ x, x < 2 ^ U → ∀ F1 F2 : List Nat, F1 ∈ lsL U V [] → (∀ g ∈ lsL U V [], keptN A C D g ≤ keptN A C D F1) → F2 ∈ lsL U V [] → (∀ g ∈ lsL U V [], keptN A (withL C x) D g ≤ keptN A (withL C x) D F2) → keptN A C D F1 ≤ keptN A (withL C x) D F2 ∧ keptN A (withL C x) D F2 ≤ keptN A C D F1 + 1) :
    Calls Try.prog 7 #[.agg #[.slice A0 l0.length c0, .slice A1 l1.length c1, .int .u8 a, .slice A3 l3.length c3, .slice A4 l4.length c4], .int .u16 s, .int .u64 more] w fun e w' => e = .returned (.bool true) ∧ Below w.heap.size w w' := by
  have hui := Try.underlying36
  have hue := Try.underlying29
  have hug := Try.underlying47
  have hup := Try.underlying38
  have hur := Try.underlying26
  have EXA := hid (fun W => plexuslaw42_examples.calls true W rfl)
  have MADE := hid (fun W (hb : Below w.heap.size w W) => plexusref42_Made.calls 10 A0 c0 l0 A1 c1 l1 a A3 c3 l3 A4 c4 l4 V (il A) U (il C) W (Kd.C_below hC0 hb) hc0 (Kd.C_below hC1 hb) hc1 (Kd.C_below hC3 hb) hc3 (Kd.C_below hC4 hb) hc4 hm)
  clear hC0 hC1 hC3 hC4 hm
  go_enter Try.func7, Try.ntmps7
  go_upto_region 1 with (fail)
  obtain ⟨w0, hw0⟩ : ∃ w0, w.alloc (.cells #[.slice A0 l0.length c0, .slice A1 l1.length c1, .int .u8 a, .slice A3 l3.length c3, .slice A4 l4.length c4] 26) = w0 := ⟨_, rfl⟩
  have hb0 : Below w.heap.size w w0 := by rw [← hw0]; exact below_alloc (Below.refl _ _) _
  have kr : Blk w0 w.heap.size 26 #[.slice A0 l0.length c0, .slice A1 l1.length c1, .int .u8 a, .slice A3 l3.length c3, .slice A4 l4.length c4] := by rw [← hw0]; exact Blk.new _ _ _
  have HRAW := hid (fun W (hb : Below w0.heap.size w0 W) => kr.below hb kr.lt)
  rw [hw0]
  clear hw0 kr
  go_upto_region 5 with (first
    | (go_at_call 8; refine (EXA.out _).mono ?_; rintro e w1 ⟨rfl, hb1⟩; have kr1 := HRAW.out _ hb1; have qr0 := (kr1.cell 0).trans rfl; have qr1 := (kr1.cell 1).trans rfl; have qr2 := (kr1.cell 2).trans rfl; have qr3 := (kr1.cell 3).trans rfl; have qr4 := (kr1.cell 4).trans rfl; clear kr1)
    | (go_at_call 9; refine (MADE.out _ (by exact below_then hb0 hb0.size hb1)).mono ?_; rintro e w3 ⟨va, vc, rfl, hra, hrc, hb3⟩; obtain ⟨XA, cA, rfl, hcA, IA⟩ := Kd.R_reads hra; obtain ⟨XC, cC, rfl, hcC, IC_⟩ := Kd.R_reads hrc; clear qr0 qr1 qr2 qr3 qr4))
  obtain ⟨w4, hw4⟩ : ∃ w4, w3.alloc (.cells #[.int .i64 V, .slice XA (il A).length cA, .int .i64 U, .slice XC (il C).length cC] 38) = w4 := ⟨_, rfl⟩
  have hz3 : w.heap.size < w3.heap.size + 1 := by have := hb0.size; have := hb1.size; have := hb3.size; omega
  have hb34 : Below w3.heap.size w3 w4 := by rw [← hw4]; exact below_alloc (Below.refl _ _) _
  have hb04 : Below w.heap.size w w4 := below_then (below_then (below_then hb0 hb0.size hb1) (by have := hb0.size; have := hb1.size; omega) hb3) (by have := hb0.size; have := hb1.size; have := hb3.size; omega) hb34
  have kp : Blk w4 w3.heap.size 38 #[.int .i64 V, .slice XA (il A).length cA, .int .i64 U, .slice XC (il C).length cC] := by rw [← hw4]; exact Blk.new _ _ _
  obtain ⟨gp, hgp⟩ : ∃ gp, w3.heap.size = gp := ⟨_, rfl⟩
  have HA4 := hid (fun W (hb : Below w4.heap.size w4 W) => (show (Kd.int .u64).C W XA (il A).length (il A) from Kd.C_below (Kd.C_below IA hb34) hb))
  have HC4 := hid (fun W (hb : Below w4.heap.size w4 W) => (show (Kd.int .u64).C W XC (il C).length (il C) from Kd.C_below (Kd.C_below IC_ hb34) hb))
  rw [hw4]
  rw [hgp] at kp ⊢
  clear hw4 IA IC_ hb34 hz3 hgp hra hrc
  have HP := hid (fun W (hb : Below w4.heap.size w4 W) => kp.below hb kp.lt)
  have p0 := (kp.cell 0).trans rfl
  have p1 := (kp.cell 1).trans rfl
  have p2 := (kp.cell 2).trans rfl
  have p3 := (kp.cell 3).trans rfl
  clear kp hb0 hb1 hb3
  by_cases hVU : (U : Int) < (V : Int)
  · clear HA4 HC4 HP
    go_wp2
    go_ret
    exact ⟨rfl, hb04⟩
  · have hUV : V ≤ U := by omega
    have DONE := hid (fun W (hb : Below w4.heap.size w4 W) => plexusref42_Done.calls k0 V XA cA (il A) s (il D) W (HA4.out W hb) hcA hd)
    go_upto_region 8 with (go_at_call 10; refine (DONE.out _ (by exact Below.refl _ _)).mono ?_; rintro e w5 ⟨vd, rfl, hrd, hb5⟩; obtain ⟨XD, cD, rfl, hcD, ID⟩ := Kd.R_reads hrd; clear hrd)
    have hb05 : Below w.heap.size w w5 := below_then hb04 hb04.size hb5
    obtain ⟨mo, rfl⟩ := Int.eq_ofNat_of_zero_le h0
    have hu6 := hp.u6
    obtain ⟨pw, hpw⟩ : ∃ pw, 2 ^ U = pw := ⟨_, rfl⟩
    obtain ⟨mq, hmk⟩ : ∃ mq, 2 ^ U - 1 = mq := ⟨_, rfl⟩
    obtain ⟨x, hx⟩ : ∃ x, mo &&& mq = x := ⟨_, rfl⟩
    have hpw64 : pw ≤ 64 := by rw [← hpw]; exact Nat.pow_le_pow_right (by decide) hu6
    have hpw1 : 1 ≤ pw := by rw [← hpw]; exact Nat.two_pow_pos U
    have hmkp : mq = pw - 1 := by rw [← hmk, hpw]
    have eU : IntKind.u64.wrap (U : Int) = (U : Int) := wrapU_nat (by omega)
    have eS : IntKind.u64.wrap (2 ^ U) = (pw : Int) := by rw [show ((2 : Int) ^ U) = ((2 ^ U : Nat) : Int) from by simp, hpw, wrapU_nat (by omega)]
    have eM : IntKind.u64.wrap ((pw : Int) - 1) = (mq : Int) := by rw [show ((pw : Int) - 1) = (mq : Int) from by omega, wrapU_nat (by omega)]
    have eA : bits .and .u64 (mo : Int) (mq : Int) = (x : Int) := by rw [uand (by omega) (by omega), hx]
    have hxU : x < 2 ^ U := by rw [← hx, ← hmk]; exact mask_lt
    have hwith := with_fE hu6 hp.cb (Nat.le_trans hp.cl (by decide)) hxU
    have WITH := hid (fun W (hb : Below w5.heap.size w5 W) => plexusref06_With.calls XC cC (il C) (x : Int) (il (withL C x)) W (HC4.out W (below_then hb5 hb5.size hb)) hcC hwith)
    have HPC := hid (fun W (hb : Below w5.heap.size w5 W) => (show W.cell? ⟨gp, 0, none⟩ = some (.int .i64 V) ∧ W.cell? ⟨gp, 1, none⟩ = some (.slice XA (il A).length cA) ∧ W.cell? ⟨gp, 2, none⟩ = some (.int .i64 U) ∧ W.cell? ⟨gp, 3, none⟩ = some (.slice XC (il C).length cC) from by
      have k := HP.out W (below_then hb5 hb5.size hb)
      exact ⟨(k.cell 0).trans rfl, (k.cell 1).trans rfl, (k.cell 2).trans rfl, (k.cell 3).trans rfl⟩))
    have HXU := hid hxU
    have HX := hid hx
    have HMK := hid hmk
    have HB5 := hid hb5
    have HU6 : (U : Int) < 64 := by omega
    clear hx hmk hmkp hpw hpw64 hpw1 hxU hwith p0 p1 p2 p3 hb5 hu6 h0 h1 hVU DONE
    refine (wpIn_wide (n := 8)).1 ?_
    obtain ⟨vv, hvv⟩ : ∃ vv : Nat → Value, vv = fun i => (#[.pointer (some ⟨gp, 2, none⟩), .pointer (some ⟨gp, 2, none⟩), .int .i64 U, .pointer (some ⟨gp, 2, none⟩), .pointer (some ⟨gp, 3, none⟩), .slice XC (il C).length cC, .int .u64 (mo : Int), .pointer (some ⟨gp, 2, none⟩), .pointer (some ⟨gp, 2, none⟩), .int .i64 U, .int .u64 (U : Int), .int .u64 (pw : Int), .int .u64 (mq : Int), .int .u64 (x : Int)] : Array Value).getD i undef := ⟨_, rfl⟩
    have mk : ∀ (L : Nat → Bool) (a' : Act) (w' : World), a' = ({ tmps := #[.agg #[.slice A0 l0.length c0, .slice A1 l1.length c1, .int .u8 a, .slice A3 l3.length c3, .slice A4 l4.length c4], .int .u16 s, .int .u64 (mo : Int), .pointer (some ⟨w.heap.size, 0, none⟩), undef, undef, .bool false, .bool true, .pointer (some ⟨gp, 0, none⟩), .slice XD (il D).length cD, a'.tmps.getD ((#[32, 33, 34, 35, 36, 37, 38, 39, 40, 41, 42, 43, 44, 45, 46, 47, 10, 100] : Array Nat).getD (16) 0) undef, undef, undef, undef, undef, .bool true, .bool true, .bool false, .agg #[.slice A0 l0.length c0, .slice A1 l1.length c1, .int .u8 a, .slice A3 l3.length c3, .slice A4 l4.length c4], .agg #[.int .i64 V, .slice XA (il A).length cA, .int .i64 U, .slice XC (il C).length cC], .pointer (some ⟨gp, 0, none⟩), .pointer (some ⟨gp, 0, none⟩), .int .i64 V, .pointer (some ⟨gp, 2, none⟩), .pointer (some ⟨gp, 2, none⟩), .int .i64 U, .bool false, undef, .pointer (some ⟨gp, 0, none⟩), .agg #[.int .i64 V, .slice XA (il A).length cA], .int .u16 s, .slice XD (il D).length cD, a'.tmps.getD ((#[32, 33, 34, 35, 36, 37, 38, 39, 40, 41, 42, 43, 44, 45, 46, 47, 10, 100] : Array Nat).getD (0) 0) undef, a'.tmps.getD ((#[32, 33, 34, 35, 36, 37, 38, 39, 40, 41, 42, 43, 44, 45, 46, 47, 10, 100] : Array Nat).getD (1) 0) undef, a'.tmps.getD ((#[32, 33, 34, 35, 36, 37, 38, 39, 40, 41, 42, 43, 44, 45, 46, 47, 10, 100] : Array Nat).getD (2) 0) undef, a'.tmps.getD ((#[32, 33, 34, 35, 36, 37, 38, 39, 40, 41, 42, 43, 44, 45, 46, 47, 10, 100] : Array Nat).getD (3) 0) undef, a'.tmps.getD ((#[32, 33, 34, 35, 36, 37, 38, 39, 40, 41, 42, 43, 44, 45, 46, 47, 10, 100] : Array Nat).getD (4) 0) undef, a'.tmps.getD ((#[32, 33, 34, 35, 36, 37, 38, 39, 40, 41, 42, 43, 44, 45, 46, 47, 10, 100] : Array Nat).getD (5) 0) undef, a'.tmps.getD ((#[32, 33, 34, 35, 36, 37, 38, 39, 40, 41, 42, 43, 44, 45, 46, 47, 10, 100] : Array Nat).getD (6) 0) undef, a'.tmps.getD ((#[32, 33, 34, 35, 36, 37, 38, 39, 40, 41, 42, 43, 44, 45, 46, 47, 10, 100] : Array Nat).getD (7) 0) undef, a'.tmps.getD ((#[32, 33, 34, 35, 36, 37, 38, 39, 40, 41, 42, 43, 44, 45, 46, 47, 10, 100] : Array Nat).getD (8) 0) undef, a'.tmps.getD ((#[32, 33, 34, 35, 36, 37, 38, 39, 40, 41, 42, 43, 44, 45, 46, 47, 10, 100] : Array Nat).getD (9) 0) undef, a'.tmps.getD ((#[32, 33, 34, 35, 36, 37, 38, 39, 40, 41, 42, 43, 44, 45, 46, 47, 10, 100] : Array Nat).getD (10) 0) undef, a'.tmps.getD ((#[32, 33, 34, 35, 36, 37, 38, 39, 40, 41, 42, 43, 44, 45, 46, 47, 10, 100] : Array Nat).getD (11) 0) undef, a'.tmps.getD ((#[32, 33, 34, 35, 36, 37, 38, 39, 40, 41, 42, 43, 44, 45, 46, 47, 10, 100] : Array Nat).getD (12) 0) undef, a'.tmps.getD ((#[32, 33, 34, 35, 36, 37, 38, 39, 40, 41, 42, 43, 44, 45, 46, 47, 10, 100] : Array Nat).getD (13) 0) undef, a'.tmps.getD ((#[32, 33, 34, 35, 36, 37, 38, 39, 40, 41, 42, 43, 44, 45, 46, 47, 10, 100] : Array Nat).getD (14) 0) undef, a'.tmps.getD ((#[32, 33, 34, 35, 36, 37, 38, 39, 40, 41, 42, 43, 44, 45, 46, 47, 10, 100] : Array Nat).getD (15) 0) undef, undef, undef, undef, undef, undef, undef, undef, undef, undef, undef, undef, undef, undef, undef, undef, undef, undef, undef, undef, undef, undef, undef, undef, undef, undef, undef, undef, undef, undef, undef, undef, undef, undef, undef, undef, undef, undef, undef, undef, undef, undef, undef, undef], defers := [] } : Act) → (∀ j < 14, L j = true → a'.tmps.getD ((#[32, 33, 34, 35, 36, 37, 38, 39, 40, 41, 42, 43, 44, 45, 46, 47, 10, 100] : Array Nat).getD (j) 0) undef = vv j) → (fun (L : Nat → Bool) (wz : World) (y : Nat → Value) => S8 w5 U (il (withL C x)) L wz (y 14) (y 15) (y 16)) L w' (fun m => a'.tmps.getD ((#[32, 33, 34, 35, 36, 37, 38, 39, 40, 41, 42, 43, 44, 45, 46, 47, 10, 100] : Array Nat).getD (m) 0) undef) → ∃ y : Nat → Value, a' = ({ tmps := #[.agg #[.slice A0 l0.length c0, .slice A1 l1.length c1, .int .u8 a, .slice A3 l3.length c3, .slice A4 l4.length c4], .int .u16 s, .int .u64 (mo : Int), .pointer (some ⟨w.heap.size, 0, none⟩), undef, undef, .bool false, .bool true, .pointer (some ⟨gp, 0, none⟩), .slice XD (il D).length cD, y 16, undef, undef, undef, undef, .bool true, .bool true, .bool false, .agg #[.slice A0 l0.length c0, .slice A1 l1.length c1, .int .u8 a, .slice A3 l3.length c3, .slice A4 l4.length c4], .agg #[.int .i64 V, .slice XA (il A).length cA, .int .i64 U, .slice XC (il C).length cC], .pointer (some ⟨gp, 0, none⟩), .pointer (some ⟨gp, 0, none⟩), .int .i64 V, .pointer (some ⟨gp, 2, none⟩), .pointer (some ⟨gp, 2, none⟩), .int .i64 U, .bool false, undef, .pointer (some ⟨gp, 0, none⟩), .agg #[.int .i64 V, .slice XA (il A).length cA], .int .u16 s, .slice XD (il D).length cD, y 0, y 1, y 2, y 3, y 4, y 5, y 6, y 7, y 8, y 9, y 10, y 11, y 12, y 13, y 14, y 15, undef, undef, undef, undef, undef, undef, undef, undef, undef, undef, undef, undef, undef, undef, undef, undef, undef, undef, undef, undef, undef, undef, undef, undef, undef, undef, undef, undef, undef, undef, undef, undef, undef, undef, undef, undef, undef, undef, undef, undef, undef, undef, undef], defers := [] } : Act) ∧ (∀ j < 14, L j = true → y j = vv j) ∧ (fun (L : Nat → Bool) (wz : World) (y : Nat → Value) => S8 w5 U (il (withL C x)) L wz (y 14) (y 15) (y 16)) L w' y := fun L a' w' h1 h2 h3 => ⟨fun m => a'.tmps.getD ((#[32, 33, 34, 35, 36, 37, 38, 39, 40, 41, 42, 43, 44, 45, 46, 47, 10, 100] : Array Nat).getD (m) 0) undef, h1, h2, h3⟩
    refine wpIn_region_inv2 (by kernel_rfl) (fun L aI wI => ∃ y : Nat → Value, aI = ({ tmps := #[.agg #[.slice A0 l0.length c0, .slice A1 l1.length c1, .int .u8 a, .slice A3 l3.length c3, .slice A4 l4.length c4], .int .u16 s, .int .u64 (mo : Int), .pointer (some ⟨w.heap.size, 0, none⟩), undef, undef, .bool false, .bool true, .pointer (some ⟨gp, 0, none⟩), .slice XD (il D).length cD, y 16, undef, undef, undef, undef, .bool true, .bool true, .bool false, .agg #[.slice A0 l0.length c0, .slice A1 l1.length c1, .int .u8 a, .slice A3 l3.length c3, .slice A4 l4.length c4], .agg #[.int .i64 V, .slice XA (il A).length cA, .int .i64 U, .slice XC (il C).length cC], .pointer (some ⟨gp, 0, none⟩), .pointer (some ⟨gp, 0, none⟩), .int .i64 V, .pointer (some ⟨gp, 2, none⟩), .pointer (some ⟨gp, 2, none⟩), .int .i64 U, .bool false, undef, .pointer (some ⟨gp, 0, none⟩), .agg #[.int .i64 V, .slice XA (il A).length cA], .int .u16 s, .slice XD (il D).length cD, y 0, y 1, y 2, y 3, y 4, y 5, y 6, y 7, y 8, y 9, y 10, y 11, y 12, y 13, y 14, y 15, undef, undef, undef, undef, undef, undef, undef, undef, undef, undef, undef, undef, undef, undef, undef, undef, undef, undef, undef, undef, undef, undef, undef, undef, undef, undef, undef, undef, undef, undef, undef, undef, undef, undef, undef, undef, undef, undef, undef, undef, undef, undef, undef], defers := [] } : Act) ∧ (∀ j < 14, L j = true → y j = vv j) ∧ (fun (L : Nat → Bool) (wz : World) (y : Nat → Value) => S8 w5 U (il (withL C x)) L wz (y 14) (y 15) (y 16)) L wI y) ?acyc ?start ?step ?rdone
    case acyc => exact fun i o ho => acyc_of2 (by kernel_rfl) i o ho
    case start => exact mk (fun _ => false) _ _ rfl (fun _ _ h => by cases h) (by exact ⟨below_drew (Below.refl _ _), (fun h => nomatch h), (fun h => nomatch h), (fun h => nomatch h), (fun h => nomatch h)⟩)
    case step =>
      rintro i o L a wx ho hLi hdep ⟨y, rfl, hy, hWI⟩ K hK
      have hi : i < 18 := (Array.getElem?_eq_some_iff.1 ho).1
      rcases i with _ | _ | _ | _ | _ | _ | _ | _ | _ | _ | _ | _ | _ | _ | _ | _ | _ | _ | i
      · obtain rfl := Option.some.inj ho
        clear hdep ho
        go_simp
        refine hK _ _ (mk _ _ _ rfl ?_ ?_)
        rotate_left
        · exact hWI.q 0 (by decide)
        · intro j hj h
          rcases j with _ | _ | _ | _ | _ | _ | _ | _ | _ | _ | _ | _ | _ | _ | j
          all_goals first | (rw [hvv]; rfl) | exact hy _ (by omega) (by simpa [put1] using h) | (exfalso; omega)
      · obtain rfl := Option.some.inj ho
        have d0 : L 0 = true := hdep ⟨0, .data⟩ (by simp) rfl
        have e0 : y 0 = .pointer (some ⟨gp, 2, none⟩) := (hy 0 (by omega) d0).trans (by rw [hvv]; rfl)
        clear hdep ho
        rw [e0]
        go_simp
        refine hK _ _ (mk _ _ _ rfl ?_ ?_)
        rotate_left
        · exact hWI.q 1 (by decide)
        · intro j hj h
          rcases j with _ | _ | _ | _ | _ | _ | _ | _ | _ | _ | _ | _ | _ | _ | j
          all_goals first | (rw [hvv]; rfl) | exact hy _ (by omega) (by simpa [put1] using h) | (exfalso; omega)
      · obtain rfl := Option.some.inj ho
        have d1 : L 1 = true := hdep ⟨1, .data⟩ (by simp) rfl
        have e1 : y 1 = .pointer (some ⟨gp, 2, none⟩) := (hy 1 (by omega) d1).trans (by rw [hvv]; rfl)
        clear hdep ho
        rw [e1]
        obtain ⟨q0, q1, q2, q3⟩ := HPC.out _ hWI.bel
        go_simp
        refine hK _ _ (mk _ _ _ rfl ?_ ?_)
        rotate_left
        · exact hWI.q 2 (by decide)
        · intro j hj h
          rcases j with _ | _ | _ | _ | _ | _ | _ | _ | _ | _ | _ | _ | _ | _ | j
          all_goals first | (rw [hvv]; rfl) | exact hy _ (by omega) (by simpa [put1] using h) | (exfalso; omega)
      · obtain rfl := Option.some.inj ho
        clear hdep ho
        go_simp
        refine hK _ _ (mk _ _ _ rfl ?_ ?_)
        rotate_left
        · exact hWI.q 3 (by decide)
        · intro j hj h
          rcases j with _ | _ | _ | _ | _ | _ | _ | _ | _ | _ | _ | _ | _ | _ | j
          all_goals first | (rw [hvv]; rfl) | exact hy _ (by omega) (by simpa [put1] using h) | (exfalso; omega)
      · obtain rfl := Option.some.inj ho
        have d3 : L 3 = true := hdep ⟨3, .data⟩ (by simp) rfl
        have e3 : y 3 = .pointer (some ⟨gp, 2, none⟩) := (hy 3 (by omega) d3).trans (by rw [hvv]; rfl)
        clear hdep ho
        rw [e3]
        go_simp
        refine hK _ _ (mk _ _ _ rfl ?_ ?_)
        rotate_left
        · exact hWI.q 4 (by decide)
        · intro j hj h
          rcases j with _ | _ | _ | _ | _ | _ | _ | _ | _ | _ | _ | _ | _ | _ | j
          all_goals first | (rw [hvv]; rfl) | exact hy _ (by omega) (by simpa [put1] using h) | (exfalso; omega)
      · obtain rfl := Option.some.inj ho
        have d4 : L 4 = true := hdep ⟨4, .data⟩ (by simp) rfl
        have e4 : y 4 = .pointer (some ⟨gp, 3, none⟩) := (hy 4 (by omega) d4).trans (by rw [hvv]; rfl)
        clear hdep ho
        rw [e4]
        obtain ⟨q0, q1, q2, q3⟩ := HPC.out _ hWI.bel
        go_simp
        refine hK _ _ (mk _ _ _ rfl ?_ ?_)
        rotate_left
        · exact hWI.q 5 (by decide)
        · intro j hj h
          rcases j with _ | _ | _ | _ | _ | _ | _ | _ | _ | _ | _ | _ | _ | _ | j
          all_goals first | (rw [hvv]; rfl) | exact hy _ (by omega) (by simpa [put1] using h) | (exfalso; omega)
      · obtain rfl := Option.some.inj ho
        clear hdep ho
        go_simp
        refine hK _ _ (mk _ _ _ rfl ?_ ?_)
        rotate_left
        · exact hWI.q 6 (by decide)
        · intro j hj h
          rcases j with _ | _ | _ | _ | _ | _ | _ | _ | _ | _ | _ | _ | _ | _ | j
          all_goals first | (rw [hvv]; rfl) | exact hy _ (by omega) (by simpa [put1] using h) | (exfalso; omega)
      · obtain rfl := Option.some.inj ho
        clear hdep ho
        go_simp
        refine hK _ _ (mk _ _ _ rfl ?_ ?_)
        rotate_left
        · exact hWI.q 7 (by decide)
        · intro j hj h
          rcases j with _ | _ | _ | _ | _ | _ | _ | _ | _ | _ | _ | _ | _ | _ | j
          all_goals first | (rw [hvv]; rfl) | exact hy _ (by omega) (by simpa [put1] using h) | (exfalso; omega)
      · obtain rfl := Option.some.inj ho
        have d7 : L 7 = true := hdep ⟨7, .data⟩ (by simp) rfl
        have e7 : y 7 = .pointer (some ⟨gp, 2, none⟩) := (hy 7 (by omega) d7).trans (by rw [hvv]; rfl)
        clear hdep ho
        rw [e7]
        go_simp
        refine hK _ _ (mk _ _ _ rfl ?_ ?_)
        rotate_left
        · exact hWI.q 8 (by decide)
        · intro j hj h
          rcases j with _ | _ | _ | _ | _ | _ | _ | _ | _ | _ | _ | _ | _ | _ | j
          all_goals first | (rw [hvv]; rfl) | exact hy _ (by omega) (by simpa [put1] using h) | (exfalso; omega)
      · obtain rfl := Option.some.inj ho
        have d8 : L 8 = true := hdep ⟨8, .data⟩ (by simp) rfl
        have e8 : y 8 = .pointer (some ⟨gp, 2, none⟩) := (hy 8 (by omega) d8).trans (by rw [hvv]; rfl)
        clear hdep ho
        rw [e8]
        obtain ⟨q0, q1, q2, q3⟩ := HPC.out _ hWI.bel
        go_simp
        refine hK _ _ (mk _ _ _ rfl ?_ ?_)
        rotate_left
        · exact hWI.q 9 (by decide)
        · intro j hj h
          rcases j with _ | _ | _ | _ | _ | _ | _ | _ | _ | _ | _ | _ | _ | _ | j
          all_goals first | (rw [hvv]; rfl) | exact hy _ (by omega) (by simpa [put1] using h) | (exfalso; omega)
      · obtain rfl := Option.some.inj ho
        have d9 : L 9 = true := hdep ⟨9, .data⟩ (by simp) rfl
        have e9 : y 9 = .int .i64 U := (hy 9 (by omega) d9).trans (by rw [hvv]; rfl)
        clear hdep ho
        rw [e9]
        go_simp
        refine hK _ _ (mk _ _ _ rfl ?_ ?_)
        rotate_left
        · exact hWI.q 10 (by decide)
        · intro j hj h
          rcases j with _ | _ | _ | _ | _ | _ | _ | _ | _ | _ | _ | _ | _ | _ | j
          all_goals first | (rw [hvv]; rfl) | exact hy _ (by omega) (by simpa [put1] using h) | (exfalso; omega)
      · obtain rfl := Option.some.inj ho
        have d10 : L 10 = true := hdep ⟨10, .data⟩ (by simp) rfl
        have e10 : y 10 = .int .u64 (U : Int) := (hy 10 (by omega) d10).trans (by rw [hvv]; rfl)
        clear hdep ho
        rw [e10]
        go_simp
        refine hK _ _ (mk _ _ _ rfl ?_ ?_)
        rotate_left
        · exact hWI.q 11 (by decide)
        · intro j hj h
          rcases j with _ | _ | _ | _ | _ | _ | _ | _ | _ | _ | _ | _ | _ | _ | j
          all_goals first | (rw [hvv]; rfl) | exact hy _ (by omega) (by simpa [put1] using h) | (exfalso; omega)
      · obtain rfl := Option.some.inj ho
        have d11 : L 11 = true := hdep ⟨11, .data⟩ (by simp) rfl
        have e11 : y 11 = .int .u64 (pw : Int) := (hy 11 (by omega) d11).trans (by rw [hvv]; rfl)
        clear hdep ho
        rw [e11]
        go_simp
        refine hK _ _ (mk _ _ _ rfl ?_ ?_)
        rotate_left
        · exact hWI.q 12 (by decide)
        · intro j hj h
          rcases j with _ | _ | _ | _ | _ | _ | _ | _ | _ | _ | _ | _ | _ | _ | j
          all_goals first | (rw [hvv]; rfl) | exact hy _ (by omega) (by simpa [put1] using h) | (exfalso; omega)
      · obtain rfl := Option.some.inj ho
        have d6 : L 6 = true := hdep ⟨6, .data⟩ (by simp) rfl
        have d12 : L 12 = true := hdep ⟨12, .data⟩ (by simp) rfl
        have e6 : y 6 = .int .u64 (mo : Int) := (hy 6 (by omega) d6).trans (by rw [hvv]; rfl)
        have e12 : y 12 = .int .u64 (mq : Int) := (hy 12 (by omega) d12).trans (by rw [hvv]; rfl)
        clear hdep ho
        rw [e6, e12]
        go_simp
        refine hK _ _ (mk _ _ _ rfl ?_ ?_)
        rotate_left
        · exact hWI.q 13 (by decide)
        · intro j hj h
          rcases j with _ | _ | _ | _ | _ | _ | _ | _ | _ | _ | _ | _ | _ | _ | j
          all_goals first | (rw [hvv]; rfl) | exact hy _ (by omega) (by simpa [put1] using h) | (exfalso; omega)
      · obtain rfl := Option.some.inj ho
        have d5 : L 5 = true := hdep ⟨5, .data⟩ (by simp) rfl
        have d13 : L 13 = true := hdep ⟨13, .data⟩ (by simp) rfl
        have e5 : y 5 = .slice XC (il C).length cC := (hy 5 (by omega) d5).trans (by rw [hvv]; rfl)
        have e13 : y 13 = .int .u64 (x : Int) := (hy 13 (by omega) d13).trans (by rw [hvv]; rfl)
        clear hdep ho
        rw [e5, e13]
        go_simp
        gi_wp2_with (refine ⟨trivial, ?_⟩; gi_at_call 26; refine (callsIn_wide.2 (WITH.out _ hWI.bel)).mono ?_; rintro e w' ⟨v, rfl, hr, hbw⟩)
        refine mk _ _ _ rfl ?_ ?_
        rotate_left
        · exact hWI.call14 hLi hbw hr
        · intro j hj h
          rcases j with _ | _ | _ | _ | _ | _ | _ | _ | _ | _ | _ | _ | _ | _ | j
          all_goals first | (rw [hvv]; rfl) | exact hy _ (by omega) (by simpa [put1] using h) | (exfalso; omega)
      · obtain rfl := Option.some.inj ho
        have d2 : L 2 = true := hdep ⟨2, .data⟩ (by simp) rfl
        have d14 : L 14 = true := hdep ⟨14, .data⟩ (by simp) rfl
        have e2 : y 2 = .int .i64 U := (hy 2 (by omega) d2).trans (by rw [hvv]; rfl)
        clear hdep ho
        rw [e2]
        obtain ⟨A9, c9, hy14⟩ := Kd.R_slice (hWI.h14 d14)
        rw [hy14]
        go_simp
        refine hK _ _ (mk _ _ _ rfl ?_ ?_)
        rotate_left
        · exact (by have hh := hWI.op15 d14; rw [hy14] at hh; exact hh)
        · intro j hj h
          rcases j with _ | _ | _ | _ | _ | _ | _ | _ | _ | _ | _ | _ | _ | _ | j
          all_goals first | (rw [hvv]; rfl) | exact hy _ (by omega) (by simpa [put1] using h) | (exfalso; omega)
      · obtain rfl := Option.some.inj ho
        clear hdep ho
        go_simp
        refine hK _ _ (mk _ _ _ rfl ?_ ?_)
        rotate_left
        · exact hWI.alloc16 hLi
        · intro j hj h
          rcases j with _ | _ | _ | _ | _ | _ | _ | _ | _ | _ | _ | _ | _ | _ | j
          all_goals first | (rw [hvv]; rfl) | exact hy _ (by omega) (by simpa [put1] using h) | (exfalso; omega)
      · obtain rfl := Option.some.inj ho
        have d16 : L 16 = true := hdep ⟨16, .data⟩ (by simp) rfl
        have d15 : L 15 = true := hdep ⟨15, .data⟩ (by simp) rfl
        have d14 : L 14 = true := hdep ⟨14, .chain⟩ (by simp) rfl
        clear hdep ho
        have nn : L 17 = false := hLi
        obtain ⟨_, hy15⟩ := hWI.h15 d15
        obtain ⟨A9, c9, hy14⟩ := Kd.R_slice (hWI.h14 d14)
        obtain ⟨g, hg, hgB, hblk⟩ := hWI.h16 d16
        rw [nn, if_neg (by decide)] at hblk
        have q0 := (hblk.cell 0).trans rfl
        have q1 := (hblk.cell 1).trans rfl
        have f0 := hblk.frozen 0
        have f1 := hblk.frozen 1
        rw [hg, hy15, hy14]
        go_simp
        refine hK _ _ (mk _ _ _ rfl ?_ ?_)
        rotate_left
        · exact (by have hh := hWI.store17 d15 d16 hLi hg hgB hblk; rw [hg, hy15, hy14] at hh; exact hh)
        · intro j hj h
          rcases j with _ | _ | _ | _ | _ | _ | _ | _ | _ | _ | _ | _ | _ | _ | j
          all_goals first | (rw [hvv]; rfl) | exact hy _ (by omega) (by simpa [put1] using h) | (exfalso; omega)
      · exfalso; omega
    case rdone =>
      rintro L a w6 hall ⟨y, rfl, hy, hWI⟩
      obtain ⟨g10, hg, hgB, hblk⟩ := hWI.h16 (hall 16 (by decide))
      rw [if_pos (hall 17 (by decide))] at hblk
      obtain ⟨XX, cX, e14, hcX, IX⟩ := Kd.R_reads (hWI.h14 (hall 14 (by decide)))
      rw [e14] at hblk
      have hb6 := hWI.bel
      rw [hg]
      generalize y 0 = y0
      generalize y 1 = y1
      generalize y 2 = y2
      generalize y 3 = y3
      generalize y 4 = y4
      generalize y 5 = y5
      generalize y 6 = y6
      generalize y 7 = y7
      generalize y 8 = y8
      generalize y 9 = y9
      generalize y 10 = y10
      generalize y 11 = y11
      generalize y 12 = y12
      generalize y 13 = y13
      generalize y 14 = y14
      generalize y 15 = y15
      clear mk hvv hy hall hWI hg e14 hgB
      have hb56 := hb6
      have hb06 : Below w.heap.size w w6 := below_then hb05 hb05.size hb6
      have HQ6 : Hid (∀ W, Below w6.heap.size w6 W → W.cell? ⟨gp, 0, none⟩ = some (.int .i64 V) ∧ W.cell? ⟨gp, 1, none⟩ = some (.slice XA (il A).length cA) ∧ W.cell? ⟨gp, 2, none⟩ = some (.int .i64 U) ∧ W.cell? ⟨gp, 3, none⟩ = some (.slice XC (il C).length cC) ∧ W.cell? ⟨g10, 0, none⟩ = some (.int .i64 U) ∧ W.cell? ⟨g10, 1, none⟩ = some (.slice XX (il (withL C x)).length cX)) :=
        (show ∀ W, _ from fun W hb => by
          obtain ⟨q0, q1, q2, q3⟩ := HPC.out W (below_then hb6 hb6.size hb)
          have k := hblk.below hb hblk.lt
          exact ⟨q0, q1, q2, q3, (k.cell 0).trans rfl, (k.cell 1).trans rfl⟩)
      have hwf := with_facts hp.cb hp.sc HXU.out
      obtain ⟨F1, b1, k1, g1⟩ := best_gen hp.v4 hp.u6 hp.al hp.ab (Nat.le_trans hp.cl (by decide)) hp.cb hD hDn hDl hUV
      obtain ⟨F2, b2, k2, g2⟩ := best_gen (C := withL C x) hp.v4 hp.u6 hp.al hp.ab (Nat.le_trans hwf.2.1 (Nat.le_trans (Nat.succ_le_succ hp.cl) (by decide))) hwf.1 hD hDn hDl hUV
      have HFIN := hid (hfin x HXU.out F1 F2 k1 g1 k2 g2)
      have hb46 : Below w4.heap.size w4 w6 := below_then HB5.out HB5.out.size hb6
      have BE1 := hid (fun W (hb : Below w6.heap.size w6 W) => plexuslaw42_best.calls V XA cA (il A) U XC cC (il C) XD cD (il D) (il F1) (embM A C D F1) 0 W (HA4.out W (below_then hb46 hb46.size hb)) hcA (HC4.out W (below_then hb46 hb46.size hb)) hcC (Kd.C_below ID (below_then hb6 hb6.size hb)) hcD b1)
      have BE2 := hid (fun W (hb : Below w6.heap.size w6 W) => plexuslaw42_best.calls V XA cA (il A) U XX cX (il (withL C x)) XD cD (il D) (il F2) (embM A (withL C x) D F2) 0 W (HA4.out W (below_then hb46 hb46.size hb)) hcA (Kd.C_below IX hb) hcX (Kd.C_below ID (below_then hb6 hb6.size hb)) hcD b2)
      have HID6 := hid (fun W (hb : Below w6.heap.size w6 W) => (show IC W XD (il D).length (il D) from Kd.C_below ID (below_then hb6 hb6.size hb)))
      clear hblk IX b1 b2 k1 k2 g1 g2 hwf hfin HPC WITH eU eS eM eA hb6 hb56 hb46 HU6
      go_upto_region 9 with (fail)
      refine (wpIn_wide (n := 8)).1 ?_
      obtain ⟨vv, hvv⟩ : ∃ vv : Nat → Value, vv = fun i => (#[.pointer (some ⟨gp, 0, none⟩), .agg #[.int .i64 V, .slice XA (il A).length cA], .pointer (some ⟨gp, 2, none⟩), .agg #[.int .i64 U, .slice XC (il C).length cC], .slice XD (il D).length cD] : Array Value).getD i undef := ⟨_, rfl⟩
      have mk : ∀ (L : Nat → Bool) (a' : Act) (w' : World), a' = ({ tmps := #[.agg #[.slice A0 l0.length c0, .slice A1 l1.length c1, .int .u8 a, .slice A3 l3.length c3, .slice A4 l4.length c4], .int .u16 s, .int .u64 (mo : Int), .pointer (some ⟨w.heap.size, 0, none⟩), undef, undef, .bool false, .bool true, .pointer (some ⟨gp, 0, none⟩), .slice XD (il D).length cD, .pointer (some ⟨g10, 0, none⟩), a'.tmps.getD ((#[48, 49, 50, 51, 52, 53, 54, 55, 56, 57, 58, 11, 12, 100, 101] : Array Nat).getD (11) 0) undef, a'.tmps.getD ((#[48, 49, 50, 51, 52, 53, 54, 55, 56, 57, 58, 11, 12, 100, 101] : Array Nat).getD (12) 0) undef, undef, undef, .bool true, .bool true, .bool false, .agg #[.slice A0 l0.length c0, .slice A1 l1.length c1, .int .u8 a, .slice A3 l3.length c3, .slice A4 l4.length c4], .agg #[.int .i64 V, .slice XA (il A).length cA, .int .i64 U, .slice XC (il C).length cC], .pointer (some ⟨gp, 0, none⟩), .pointer (some ⟨gp, 0, none⟩), .int .i64 V, .pointer (some ⟨gp, 2, none⟩), .pointer (some ⟨gp, 2, none⟩), .int .i64 U, .bool false, undef, .pointer (some ⟨gp, 0, none⟩), .agg #[.int .i64 V, .slice XA (il A).length cA], .int .u16 s, .slice XD (il D).length cD, y0, y1, y2, y3, y4, y5, y6, y7, y8, y9, y10, y11, y12, y13, y14, y15, a'.tmps.getD ((#[48, 49, 50, 51, 52, 53, 54, 55, 56, 57, 58, 11, 12, 100, 101] : Array Nat).getD (0) 0) undef, a'.tmps.getD ((#[48, 49, 50, 51, 52, 53, 54, 55, 56, 57, 58, 11, 12, 100, 101] : Array Nat).getD (1) 0) undef, a'.tmps.getD ((#[48, 49, 50, 51, 52, 53, 54, 55, 56, 57, 58, 11, 12, 100, 101] : Array Nat).getD (2) 0) undef, a'.tmps.getD ((#[48, 49, 50, 51, 52, 53, 54, 55, 56, 57, 58, 11, 12, 100, 101] : Array Nat).getD (3) 0) undef, a'.tmps.getD ((#[48, 49, 50, 51, 52, 53, 54, 55, 56, 57, 58, 11, 12, 100, 101] : Array Nat).getD (4) 0) undef, a'.tmps.getD ((#[48, 49, 50, 51, 52, 53, 54, 55, 56, 57, 58, 11, 12, 100, 101] : Array Nat).getD (5) 0) undef, a'.tmps.getD ((#[48, 49, 50, 51, 52, 53, 54, 55, 56, 57, 58, 11, 12, 100, 101] : Array Nat).getD (6) 0) undef, a'.tmps.getD ((#[48, 49, 50, 51, 52, 53, 54, 55, 56, 57, 58, 11, 12, 100, 101] : Array Nat).getD (7) 0) undef, a'.tmps.getD ((#[48, 49, 50, 51, 52, 53, 54, 55, 56, 57, 58, 11, 12, 100, 101] : Array Nat).getD (8) 0) undef, a'.tmps.getD ((#[48, 49, 50, 51, 52, 53, 54, 55, 56, 57, 58, 11, 12, 100, 101] : Array Nat).getD (9) 0) undef, a'.tmps.getD ((#[48, 49, 50, 51, 52, 53, 54, 55, 56, 57, 58, 11, 12, 100, 101] : Array Nat).getD (10) 0) undef, undef, undef, undef, undef, undef, undef, undef, undef, undef, undef, undef, undef, undef, undef, undef, undef, undef, undef, undef, undef, undef, undef, undef, undef, undef, undef, undef, undef, undef, undef, undef, undef], defers := [] } : Act) → (∀ j < 5, L j = true → a'.tmps.getD ((#[48, 49, 50, 51, 52, 53, 54, 55, 56, 57, 58, 11, 12, 100, 101] : Array Nat).getD (j) 0) undef = vv j) → (fun (L : Nat → Bool) (wz : World) (y : Nat → Value) => S9 w6 (.pointer (some ⟨gp, 0, none⟩)) (.agg #[.int .i64 V, .slice XA (il A).length cA]) (.agg #[.int .i64 U, .slice XX (il (withL C x)).length cX]) (.slice XD (il D).length cD) (il F1) (embM A C D F1) (il F2) (embM A (withL C x) D F2) L wz (y 5) (y 6) (y 7) (y 8) (y 9) (y 10) (y 11) (y 12)) L w' (fun m => a'.tmps.getD ((#[48, 49, 50, 51, 52, 53, 54, 55, 56, 57, 58, 11, 12, 100, 101] : Array Nat).getD (m) 0) undef) → ∃ y : Nat → Value, a' = ({ tmps := #[.agg #[.slice A0 l0.length c0, .slice A1 l1.length c1, .int .u8 a, .slice A3 l3.length c3, .slice A4 l4.length c4], .int .u16 s, .int .u64 (mo : Int), .pointer (some ⟨w.heap.size, 0, none⟩), undef, undef, .bool false, .bool true, .pointer (some ⟨gp, 0, none⟩), .slice XD (il D).length cD, .pointer (some ⟨g10, 0, none⟩), y 11, y 12, undef, undef, .bool true, .bool true, .bool false, .agg #[.slice A0 l0.length c0, .slice A1 l1.length c1, .int .u8 a, .slice A3 l3.length c3, .slice A4 l4.length c4], .agg #[.int .i64 V, .slice XA (il A).length cA, .int .i64 U, .slice XC (il C).length cC], .pointer (some ⟨gp, 0, none⟩), .pointer (some ⟨gp, 0, none⟩), .int .i64 V, .pointer (some ⟨gp, 2, none⟩), .pointer (some ⟨gp, 2, none⟩), .int .i64 U, .bool false, undef, .pointer (some ⟨gp, 0, none⟩), .agg #[.int .i64 V, .slice XA (il A).length cA], .int .u16 s, .slice XD (il D).length cD, y0, y1, y2, y3, y4, y5, y6, y7, y8, y9, y10, y11, y12, y13, y14, y15, y 0, y 1, y 2, y 3, y 4, y 5, y 6, y 7, y 8, y 9, y 10, undef, undef, undef, undef, undef, undef, undef, undef, undef, undef, undef, undef, undef, undef, undef, undef, undef, undef, undef, undef, undef, undef, undef, undef, undef, undef, undef, undef, undef, undef, undef, undef], defers := [] } : Act) ∧ (∀ j < 5, L j = true → y j = vv j) ∧ (fun (L : Nat → Bool) (wz : World) (y : Nat → Value) => S9 w6 (.pointer (some ⟨gp, 0, none⟩)) (.agg #[.int .i64 V, .slice XA (il A).length cA]) (.agg #[.int .i64 U, .slice XX (il (withL C x)).length cX]) (.slice XD (il D).length cD) (il F1) (embM A C D F1) (il F2) (embM A (withL C x) D F2) L wz (y 5) (y 6) (y 7) (y 8) (y 9) (y 10) (y 11) (y 12)) L w' y := fun L a' w' h1 h2 h3 => ⟨fun m => a'.tmps.getD ((#[48, 49, 50, 51, 52, 53, 54, 55, 56, 57, 58, 11, 12, 100, 101] : Array Nat).getD (m) 0) undef, h1, h2, h3⟩
      refine wpIn_region_inv2 (by kernel_rfl) (fun L aI wI => ∃ y : Nat → Value, aI = ({ tmps := #[.agg #[.slice A0 l0.length c0, .slice A1 l1.length c1, .int .u8 a, .slice A3 l3.length c3, .slice A4 l4.length c4], .int .u16 s, .int .u64 (mo : Int), .pointer (some ⟨w.heap.size, 0, none⟩), undef, undef, .bool false, .bool true, .pointer (some ⟨gp, 0, none⟩), .slice XD (il D).length cD, .pointer (some ⟨g10, 0, none⟩), y 11, y 12, undef, undef, .bool true, .bool true, .bool false, .agg #[.slice A0 l0.length c0, .slice A1 l1.length c1, .int .u8 a, .slice A3 l3.length c3, .slice A4 l4.length c4], .agg #[.int .i64 V, .slice XA (il A).length cA, .int .i64 U, .slice XC (il C).length cC], .pointer (some ⟨gp, 0, none⟩), .pointer (some ⟨gp, 0, none⟩), .int .i64 V, .pointer (some ⟨gp, 2, none⟩), .pointer (some ⟨gp, 2, none⟩), .int .i64 U, .bool false, undef, .pointer (some ⟨gp, 0, none⟩), .agg #[.int .i64 V, .slice XA (il A).length cA], .int .u16 s, .slice XD (il D).length cD, y0, y1, y2, y3, y4, y5, y6, y7, y8, y9, y10, y11, y12, y13, y14, y15, y 0, y 1, y 2, y 3, y 4, y 5, y 6, y 7, y 8, y 9, y 10, undef, undef, undef, undef, undef, undef, undef, undef, undef, undef, undef, undef, undef, undef, undef, undef, undef, undef, undef, undef, undef, undef, undef, undef, undef, undef, undef, undef, undef, undef, undef, undef], defers := [] } : Act) ∧ (∀ j < 5, L j = true → y j = vv j) ∧ (fun (L : Nat → Bool) (wz : World) (y : Nat → Value) => S9 w6 (.pointer (some ⟨gp, 0, none⟩)) (.agg #[.int .i64 V, .slice XA (il A).length cA]) (.agg #[.int .i64 U, .slice XX (il (withL C x)).length cX]) (.slice XD (il D).length cD) (il F1) (embM A C D F1) (il F2) (embM A (withL C x) D F2) L wz (y 5) (y 6) (y 7) (y 8) (y 9) (y 10) (y 11) (y 12)) L wI y) ?acyc ?start ?step ?rdone
      case acyc => exact fun i o ho => acyc_of2 (by kernel_rfl) i o ho
      case start => exact mk (fun _ => false) _ _ rfl (fun _ _ h => by cases h) (by exact ⟨below_drew (Below.refl _ _), (fun h => nomatch h), (fun h => nomatch h), (fun h => nomatch h), (fun h => nomatch h), (fun h => nomatch h), (fun h => nomatch h), (fun h => nomatch h), (fun h => nomatch h), (fun h => nomatch h), (fun h => nomatch h), (fun h => nomatch h)⟩)
      case step =>
        rintro i o L a wx ho hLi hdep ⟨y, rfl, hy, hWI⟩ K hK
        have hi : i < 15 := (Array.getElem?_eq_some_iff.1 ho).1
        rcases i with _ | _ | _ | _ | _ | _ | _ | _ | _ | _ | _ | _ | _ | _ | _ | i
        · obtain rfl := Option.some.inj ho
          clear hdep ho
          go_simp
          refine hK _ _ (mk _ _ _ rfl ?_ ?_)
          rotate_left
          · exact hWI.q 0 (by decide)
          · intro j hj h
            rcases j with _ | _ | _ | _ | _ | j
            all_goals first | (rw [hvv]; rfl) | exact hy _ (by omega) (by simpa [put1] using h) | (exfalso; omega)
        · obtain rfl := Option.some.inj ho
          have d0 : L 0 = true := hdep ⟨0, .data⟩ (by simp) rfl
          have e0 : y 0 = .pointer (some ⟨gp, 0, none⟩) := (hy 0 (by omega) d0).trans (by rw [hvv]; rfl)
          clear hdep ho
          rw [e0]
          obtain ⟨q0, q1, q2, q3, r0, r1⟩ := HQ6.out _ hWI.bel
          go_simp
          refine hK _ _ (mk _ _ _ rfl ?_ ?_)
          rotate_left
          · exact hWI.q 1 (by decide)
          · intro j hj h
            rcases j with _ | _ | _ | _ | _ | j
            all_goals first | (rw [hvv]; rfl) | exact hy _ (by omega) (by simpa [put1] using h) | (exfalso; omega)
        · obtain rfl := Option.some.inj ho
          clear hdep ho
          go_simp
          refine hK _ _ (mk _ _ _ rfl ?_ ?_)
          rotate_left
          · exact hWI.q 2 (by decide)
          · intro j hj h
            rcases j with _ | _ | _ | _ | _ | j
            all_goals first | (rw [hvv]; rfl) | exact hy _ (by omega) (by simpa [put1] using h) | (exfalso; omega)
        · obtain rfl := Option.some.inj ho
          have d2 : L 2 = true := hdep ⟨2, .data⟩ (by simp) rfl
          have e2 : y 2 = .pointer (some ⟨gp, 2, none⟩) := (hy 2 (by omega) d2).trans (by rw [hvv]; rfl)
          clear hdep ho
          rw [e2]
          obtain ⟨q0, q1, q2, q3, r0, r1⟩ := HQ6.out _ hWI.bel
          go_simp
          refine hK _ _ (mk _ _ _ rfl ?_ ?_)
          rotate_left
          · exact hWI.q 3 (by decide)
          · intro j hj h
            rcases j with _ | _ | _ | _ | _ | j
            all_goals first | (rw [hvv]; rfl) | exact hy _ (by omega) (by simpa [put1] using h) | (exfalso; omega)
        · obtain rfl := Option.some.inj ho
          clear hdep ho
          go_simp
          refine hK _ _ (mk _ _ _ rfl ?_ ?_)
          rotate_left
          · exact hWI.q 4 (by decide)
          · intro j hj h
            rcases j with _ | _ | _ | _ | _ | j
            all_goals first | (rw [hvv]; rfl) | exact hy _ (by omega) (by simpa [put1] using h) | (exfalso; omega)
        · obtain rfl := Option.some.inj ho
          have d1 : L 1 = true := hdep ⟨1, .data⟩ (by simp) rfl
          have d3 : L 3 = true := hdep ⟨3, .data⟩ (by simp) rfl
          have d4 : L 4 = true := hdep ⟨4, .data⟩ (by simp) rfl
          have e1 : y 1 = .agg #[.int .i64 V, .slice XA (il A).length cA] := (hy 1 (by omega) d1).trans (by rw [hvv]; rfl)
          have e3 : y 3 = .agg #[.int .i64 U, .slice XC (il C).length cC] := (hy 3 (by omega) d3).trans (by rw [hvv]; rfl)
          have e4 : y 4 = .slice XD (il D).length cD := (hy 4 (by omega) d4).trans (by rw [hvv]; rfl)
          clear hdep ho
          rw [e1, e3, e4]
          go_simp
          gi_wp2_with (refine ⟨trivial, ?_⟩; gi_at_call 15; refine (callsIn_wide.2 (BE1.out _ hWI.bel)).mono ?_; rintro e w' ⟨v1, v2, rfl, hr1, hr2, hbw⟩)
          refine mk _ _ _ rfl ?_ ?_
          rotate_left
          · exact (hWI.go hbw).put5 hLi ⟨v1, v2, rfl, rowR.of hr1 hWI.bel.size, rowR.of hr2 hWI.bel.size⟩
          · intro j hj h
            rcases j with _ | _ | _ | _ | _ | j
            all_goals first | (rw [hvv]; rfl) | exact hy _ (by omega) (by simpa [put1] using h) | (exfalso; omega)
        · obtain rfl := Option.some.inj ho
          clear hdep ho
          go_simp
          refine hK _ _ (mk _ _ _ rfl ?_ ?_)
          rotate_left
          · exact hWI.op6
          · intro j hj h
            rcases j with _ | _ | _ | _ | _ | j
            all_goals first | (rw [hvv]; rfl) | exact hy _ (by omega) (by simpa [put1] using h) | (exfalso; omega)
        · obtain rfl := Option.some.inj ho
          have d6 : L 6 = true := hdep ⟨6, .data⟩ (by simp) rfl
          clear hdep ho
          rw [hWI.h6 d6]
          obtain ⟨q0, q1, q2, q3, r0, r1⟩ := HQ6.out _ hWI.bel
          go_simp
          refine hK _ _ (mk _ _ _ rfl ?_ ?_)
          rotate_left
          · exact (by have hh := hWI.op7; rw [hWI.h6 d6] at hh; exact hh)
          · intro j hj h
            rcases j with _ | _ | _ | _ | _ | j
            all_goals first | (rw [hvv]; rfl) | exact hy _ (by omega) (by simpa [put1] using h) | (exfalso; omega)
        · obtain rfl := Option.some.inj ho
          clear hdep ho
          obtain ⟨q0, q1, q2, q3, r0, r1⟩ := HQ6.out _ hWI.bel
          go_simp
          refine hK _ _ (mk _ _ _ rfl ?_ ?_)
          rotate_left
          · exact hWI.op8
          · intro j hj h
            rcases j with _ | _ | _ | _ | _ | j
            all_goals first | (rw [hvv]; rfl) | exact hy _ (by omega) (by simpa [put1] using h) | (exfalso; omega)
        · obtain rfl := Option.some.inj ho
          clear hdep ho
          go_simp
          refine hK _ _ (mk _ _ _ rfl ?_ ?_)
          rotate_left
          · exact hWI.op9
          · intro j hj h
            rcases j with _ | _ | _ | _ | _ | j
            all_goals first | (rw [hvv]; rfl) | exact hy _ (by omega) (by simpa [put1] using h) | (exfalso; omega)
        · obtain rfl := Option.some.inj ho
          have d7 : L 7 = true := hdep ⟨7, .data⟩ (by simp) rfl
          have d8 : L 8 = true := hdep ⟨8, .data⟩ (by simp) rfl
          have d9 : L 9 = true := hdep ⟨9, .data⟩ (by simp) rfl
          have d5 : L 5 = true := hdep ⟨5, .chain⟩ (by simp) rfl
          clear hdep ho
          rw [hWI.h7 d7, hWI.h8 d8, hWI.h9 d9]
          go_simp
          gi_wp2_with (refine ⟨trivial, ?_⟩; gi_at_call 15; refine (callsIn_wide.2 (BE2.out _ hWI.bel)).mono ?_; rintro e w' ⟨v1, v2, rfl, hr1, hr2, hbw⟩)
          refine mk _ _ _ rfl ?_ ?_
          rotate_left
          · exact (by have hh := (hWI.go hbw).put10 hLi ⟨v1, v2, rfl, rowR.of hr1 hWI.bel.size, rowR.of hr2 hWI.bel.size⟩; rw [hWI.h7 d7, hWI.h8 d8, hWI.h9 d9] at hh; exact hh)
          · intro j hj h
            rcases j with _ | _ | _ | _ | _ | j
            all_goals first | (rw [hvv]; rfl) | exact hy _ (by omega) (by simpa [put1] using h) | (exfalso; omega)
        · obtain rfl := Option.some.inj ho
          clear hdep ho
          go_simp
          refine hK _ _ (mk _ _ _ rfl ?_ ?_)
          rotate_left
          · exact hWI.alloc11 hLi
          · intro j hj h
            rcases j with _ | _ | _ | _ | _ | j
            all_goals first | (rw [hvv]; rfl) | exact hy _ (by omega) (by simpa [put1] using h) | (exfalso; omega)
        · obtain rfl := Option.some.inj ho
          clear hdep ho
          go_simp
          refine hK _ _ (mk _ _ _ rfl ?_ ?_)
          rotate_left
          · exact hWI.alloc12 hLi
          · intro j hj h
            rcases j with _ | _ | _ | _ | _ | j
            all_goals first | (rw [hvv]; rfl) | exact hy _ (by omega) (by simpa [put1] using h) | (exfalso; omega)
        · obtain rfl := Option.some.inj ho
          have d11 : L 11 = true := hdep ⟨11, .data⟩ (by simp) rfl
          have d5 : L 5 = true := hdep ⟨5, .data⟩ (by simp) rfl
          have d10 : L 10 = true := hdep ⟨10, .chain⟩ (by simp) rfl
          clear hdep ho
          have nn : L 13 = false := hLi
          obtain ⟨v1, v2, hy3, hr1, hr2⟩ := hWI.h5 d5
          obtain ⟨A1_, c1_, e1_, _, _⟩ := hr1.reads
          obtain ⟨A2_, c2_, e2_, _, _⟩ := hr2.reads
          subst e1_ e2_
          obtain ⟨g, hg, hgB, hblk⟩ := hWI.h11 d11
          rw [nn, if_neg (by decide)] at hblk
          have q0 := (hblk.cell 0).trans rfl
          have q1 := (hblk.cell 1).trans rfl
          have q2 := (hblk.cell 2).trans rfl
          have f0 := hblk.frozen 0
          have f1 := hblk.frozen 1
          have f2 := hblk.frozen 2
          rw [hy3, hg]
          go_simp
          refine hK _ _ (mk _ _ _ rfl ?_ ?_)
          rotate_left
          · exact (by have hh := hWI.store13 d5 d11 hy3 hg hgB hblk; rw [hy3, hg] at hh; exact hh)
          · intro j hj h
            rcases j with _ | _ | _ | _ | _ | j
            all_goals first | (rw [hvv]; rfl) | exact hy _ (by omega) (by simpa [put1] using h) | (exfalso; omega)
        · obtain rfl := Option.some.inj ho
          have d12 : L 12 = true := hdep ⟨12, .data⟩ (by simp) rfl
          have d10 : L 10 = true := hdep ⟨10, .data⟩ (by simp) rfl
          have d13 : L 13 = true := hdep ⟨13, .chain⟩ (by simp) rfl
          clear hdep ho
          have nn : L 14 = false := hLi
          obtain ⟨v1, v2, hy3, hr1, hr2⟩ := hWI.h10 d10
          obtain ⟨A1_, c1_, e1_, _, _⟩ := hr1.reads
          obtain ⟨A2_, c2_, e2_, _, _⟩ := hr2.reads
          subst e1_ e2_
          obtain ⟨g, hg, hgB, hblk⟩ := hWI.h12 d12
          rw [nn, if_neg (by decide)] at hblk
          have q0 := (hblk.cell 0).trans rfl
          have q1 := (hblk.cell 1).trans rfl
          have q2 := (hblk.cell 2).trans rfl
          have f0 := hblk.frozen 0
          have f1 := hblk.frozen 1
          have f2 := hblk.frozen 2
          rw [hy3, hg]
          go_simp
          refine hK _ _ (mk _ _ _ rfl ?_ ?_)
          rotate_left
          · exact (by have hh := hWI.store14 d10 d12 hy3 hg hgB hblk; rw [hy3, hg] at hh; exact hh)
          · intro j hj h
            rcases j with _ | _ | _ | _ | _ | j
            all_goals first | (rw [hvv]; rfl) | exact hy _ (by omega) (by simpa [put1] using h) | (exfalso; omega)
        · exfalso; omega
      case rdone =>
        rintro L a w7 hall ⟨y, rfl, hy, hWI⟩
        obtain ⟨v1, v2, hy5, hr1, hr2⟩ := hWI.h5 (hall 5 (by decide))
        obtain ⟨v3, v4, hy10, hr3, hr4⟩ := hWI.h10 (hall 10 (by decide))
        obtain ⟨g11, hg11, _, k11⟩ := hWI.h11 (hall 11 (by decide))
        obtain ⟨g12, hg12, _, k12⟩ := hWI.h12 (hall 12 (by decide))
        rw [if_pos (hall 13 (by decide)), hy5] at k11
        rw [if_pos (hall 14 (by decide)), hy10] at k12
        obtain ⟨X1, cX1, e1, hcX1, IX1⟩ := hr1.reads
        obtain ⟨X2, cX2, e2, hcX2, IX2⟩ := hr2.reads
        obtain ⟨Z1, cZ1, e3, hcZ1, IZ1⟩ := hr3.reads
        obtain ⟨Z2, cZ2, e4, hcZ2, IZ2⟩ := hr4.reads
        subst e1 e2 e3 e4
        have hb7 := hWI.bel
        rw [hg11, hg12]
        generalize y 0 = z0
        generalize y 1 = z1
        generalize y 2 = z2
        generalize y 3 = z3
        generalize y 4 = z4
        generalize y 5 = z5
        generalize y 6 = z6
        generalize y 7 = z7
        generalize y 8 = z8
        generalize y 9 = z9
        generalize y 10 = z10
        clear mk hvv hy hall hWI hg11 hg12 hy5 hy10 hr1 hr2 hr3 hr4
        obtain ⟨n1, hn1⟩ : ∃ n1, (keptL (embM A C D F1) (il D)).length = n1 := ⟨_, rfl⟩
        obtain ⟨n2, hn2⟩ : ∃ n2, (keptL (embM A (withL C x) D F2) (il D)).length = n2 := ⟨_, rfl⟩
        have hn12 : (n1 : Int) ≤ n2 ∧ (n2 : Int) ≤ n1 + 1 := by
          have := HFIN.out
          rw [keptN, keptN, hn1, hn2] at this
          omega
        have hDl1 : (il D).length < 1000 := by rw [il_length]; have := hp.al; omega
        have hn1b : n1 < 1000 := by rw [← hn1, keptL]; exact Nat.lt_of_le_of_lt (List.length_filter_le _ _) hDl1
        have hwr : wrap64 ((n1 : Int) + 1) = (n1 : Int) + 1 := by rw [wrap_idE] <;> omega
        replace hn1 := hid hn1
        replace hn2 := hid hn2
        have HQ7 : Hid (∀ W, Below w7.heap.size w7 W → W.cell? ⟨g11, 0, none⟩ = some (.slice X1 (il F1).length cX1) ∧ W.cell? ⟨g11, 1, none⟩ = some (.slice X2 (embM A C D F1).length cX2) ∧ W.cell? ⟨g12, 0, none⟩ = some (.slice Z1 (il F2).length cZ1) ∧ W.cell? ⟨g12, 1, none⟩ = some (.slice Z2 (embM A (withL C x) D F2).length cZ2)) :=
          (show ∀ W, _ from fun W hb => by
            have k := k11.below hb k11.lt
            have k' := k12.below hb k12.lt
            exact ⟨(k.cell 0).trans rfl, (k.cell 1).trans rfl, (k'.cell 0).trans rfl, (k'.cell 1).trans rfl⟩)
        have HE7 : Hid (∀ W, Below w7.heap.size w7 W → W.cell? ⟨g11, 2, none⟩ = some (.int .i64 0) ∧ W.cell? ⟨g12, 2, none⟩ = some (.int .i64 0)) :=
          (show ∀ W, _ from fun W hb => by
            have k := k11.below hb k11.lt
            have k' := k12.below hb k12.lt
            exact ⟨(k.cell 2).trans rfl, (k'.cell 2).trans rfl⟩)
        have hM1 : (embM A C D F1).length < 1000 := by rw [embM_len]; have := hp.al; omega
        have hM2 : (embM A (withL C x) D F2).length < 1000 := by rw [embM_len]; have := hp.al; omega
        have KE1 := hid (fun W (hb : Below w7.heap.size w7 W) => embed_Kept.calls X1 cX1 (il F1) X2 cX2 (embM A C D F1) XD cD (il D) (keptL (embM A C D F1) (il D)) W (Kd.C_below IX1 hb) hcX1 (Kd.C_below IX2 hb) hcX2 (HID6.out W (below_then hb7 hb7.size hb)) hcD (kept_fE hM1 hDl1))
        have KE2 := hid (fun W (hb : Below w7.heap.size w7 W) => embed_Kept.calls Z1 cZ1 (il F2) Z2 cZ2 (embM A (withL C x) D F2) XD cD (il D) (keptL (embM A (withL C x) D F2) (il D)) W (Kd.C_below IZ1 hb) hcZ1 (Kd.C_below IZ2 hb) hcZ2 (HID6.out W (below_then hb7 hb7.size hb)) hcD (kept_fE hM2 hDl1))
        have hb07 : Below w.heap.size w w7 := below_then hb06 hb06.size hb7
        clear k11 k12 IX1 IX2 IZ1 IZ2 BE1 BE2 HQ6 hM1 hM2 hDl1 hb7
        go_upto_region 10 with (fail)
        refine (wpIn_wide (n := 8)).1 ?_
        obtain ⟨vv, hvv⟩ : ∃ vv : Nat → Value, vv = fun i => (#[.pointer (some ⟨g11, 0, none⟩), .agg #[.slice X1 (il F1).length cX1, .slice X2 (embM A C D F1).length cX2], .slice XD (il D).length cD] : Array Value).getD i undef := ⟨_, rfl⟩
        have mk : ∀ (L : Nat → Bool) (a' : Act) (w' : World), a' = ({ tmps := #[.agg #[.slice A0 l0.length c0, .slice A1 l1.length c1, .int .u8 a, .slice A3 l3.length c3, .slice A4 l4.length c4], .int .u16 s, .int .u64 (mo : Int), .pointer (some ⟨w.heap.size, 0, none⟩), undef, undef, .bool false, .bool true, .pointer (some ⟨gp, 0, none⟩), .slice XD (il D).length cD, .pointer (some ⟨g10, 0, none⟩), .pointer (some ⟨g11, 0, none⟩), .pointer (some ⟨g12, 0, none⟩), a'.tmps.getD ((#[59, 60, 61, 62, 63, 64, 65, 66, 67, 68, 13, 14] : Array Nat).getD (10) 0) undef, a'.tmps.getD ((#[59, 60, 61, 62, 63, 64, 65, 66, 67, 68, 13, 14] : Array Nat).getD (11) 0) undef, .bool true, .bool true, .bool false, .agg #[.slice A0 l0.length c0, .slice A1 l1.length c1, .int .u8 a, .slice A3 l3.length c3, .slice A4 l4.length c4], .agg #[.int .i64 V, .slice XA (il A).length cA, .int .i64 U, .slice XC (il C).length cC], .pointer (some ⟨gp, 0, none⟩), .pointer (some ⟨gp, 0, none⟩), .int .i64 V, .pointer (some ⟨gp, 2, none⟩), .pointer (some ⟨gp, 2, none⟩), .int .i64 U, .bool false, undef, .pointer (some ⟨gp, 0, none⟩), .agg #[.int .i64 V, .slice XA (il A).length cA], .int .u16 s, .slice XD (il D).length cD, y0, y1, y2, y3, y4, y5, y6, y7, y8, y9, y10, y11, y12, y13, y14, y15, z0, z1, z2, z3, z4, z5, z6, z7, z8, z9, z10, a'.tmps.getD ((#[59, 60, 61, 62, 63, 64, 65, 66, 67, 68, 13, 14] : Array Nat).getD (0) 0) undef, a'.tmps.getD ((#[59, 60, 61, 62, 63, 64, 65, 66, 67, 68, 13, 14] : Array Nat).getD (1) 0) undef, a'.tmps.getD ((#[59, 60, 61, 62, 63, 64, 65, 66, 67, 68, 13, 14] : Array Nat).getD (2) 0) undef, a'.tmps.getD ((#[59, 60, 61, 62, 63, 64, 65, 66, 67, 68, 13, 14] : Array Nat).getD (3) 0) undef, a'.tmps.getD ((#[59, 60, 61, 62, 63, 64, 65, 66, 67, 68, 13, 14] : Array Nat).getD (4) 0) undef, a'.tmps.getD ((#[59, 60, 61, 62, 63, 64, 65, 66, 67, 68, 13, 14] : Array Nat).getD (5) 0) undef, a'.tmps.getD ((#[59, 60, 61, 62, 63, 64, 65, 66, 67, 68, 13, 14] : Array Nat).getD (6) 0) undef, a'.tmps.getD ((#[59, 60, 61, 62, 63, 64, 65, 66, 67, 68, 13, 14] : Array Nat).getD (7) 0) undef, a'.tmps.getD ((#[59, 60, 61, 62, 63, 64, 65, 66, 67, 68, 13, 14] : Array Nat).getD (8) 0) undef, a'.tmps.getD ((#[59, 60, 61, 62, 63, 64, 65, 66, 67, 68, 13, 14] : Array Nat).getD (9) 0) undef, undef, undef, undef, undef, undef, undef, undef, undef, undef, undef, undef, undef, undef, undef, undef, undef, undef, undef, undef, undef, undef, undef], defers := [] } : Act) → (∀ j < 3, L j = true → a'.tmps.getD ((#[59, 60, 61, 62, 63, 64, 65, 66, 67, 68, 13, 14] : Array Nat).getD (j) 0) undef = vv j) → (fun (L : Nat → Bool) (wz : World) (y : Nat → Value) => S10 w7 (.pointer (some ⟨g12, 0, none⟩)) (.agg #[.slice Z1 (il F2).length cZ1, .slice Z2 (embM A (withL C x) D F2).length cZ2]) (.slice XD (il D).length cD) n1 n2 L wz (y 3) (y 4) (y 5) (y 6) (y 7) (y 8) (y 9) (y 10) (y 11)) L w' (fun m => a'.tmps.getD ((#[59, 60, 61, 62, 63, 64, 65, 66, 67, 68, 13, 14] : Array Nat).getD (m) 0) undef) → ∃ y : Nat → Value, a' = ({ tmps := #[.agg #[.slice A0 l0.length c0, .slice A1 l1.length c1, .int .u8 a, .slice A3 l3.length c3, .slice A4 l4.length c4], .int .u16 s, .int .u64 (mo : Int), .pointer (some ⟨w.heap.size, 0, none⟩), undef, undef, .bool false, .bool true, .pointer (some ⟨gp, 0, none⟩), .slice XD (il D).length cD, .pointer (some ⟨g10, 0, none⟩), .pointer (some ⟨g11, 0, none⟩), .pointer (some ⟨g12, 0, none⟩), y 10, y 11, .bool true, .bool true, .bool false, .agg #[.slice A0 l0.length c0, .slice A1 l1.length c1, .int .u8 a, .slice A3 l3.length c3, .slice A4 l4.length c4], .agg #[.int .i64 V, .slice XA (il A).length cA, .int .i64 U, .slice XC (il C).length cC], .pointer (some ⟨gp, 0, none⟩), .pointer (some ⟨gp, 0, none⟩), .int .i64 V, .pointer (some ⟨gp, 2, none⟩), .pointer (some ⟨gp, 2, none⟩), .int .i64 U, .bool false, undef, .pointer (some ⟨gp, 0, none⟩), .agg #[.int .i64 V, .slice XA (il A).length cA], .int .u16 s, .slice XD (il D).length cD, y0, y1, y2, y3, y4, y5, y6, y7, y8, y9, y10, y11, y12, y13, y14, y15, z0, z1, z2, z3, z4, z5, z6, z7, z8, z9, z10, y 0, y 1, y 2, y 3, y 4, y 5, y 6, y 7, y 8, y 9, undef, undef, undef, undef, undef, undef, undef, undef, undef, undef, undef, undef, undef, undef, undef, undef, undef, undef, undef, undef, undef, undef], defers := [] } : Act) ∧ (∀ j < 3, L j = true → y j = vv j) ∧ (fun (L : Nat → Bool) (wz : World) (y : Nat → Value) => S10 w7 (.pointer (some ⟨g12, 0, none⟩)) (.agg #[.slice Z1 (il F2).length cZ1, .slice Z2 (embM A (withL C x) D F2).length cZ2]) (.slice XD (il D).length cD) n1 n2 L wz (y 3) (y 4) (y 5) (y 6) (y 7) (y 8) (y 9) (y 10) (y 11)) L w' y := fun L a' w' h1 h2 h3 => ⟨fun m => a'.tmps.getD ((#[59, 60, 61, 62, 63, 64, 65, 66, 67, 68, 13, 14] : Array Nat).getD (m) 0) undef, h1, h2, h3⟩
        refine wpIn_region_inv2 (by kernel_rfl) (fun L aI wI => ∃ y : Nat → Value, aI = ({ tmps := #[.agg #[.slice A0 l0.length c0, .slice A1 l1.length c1, .int .u8 a, .slice A3 l3.length c3, .slice A4 l4.length c4], .int .u16 s, .int .u64 (mo : Int), .pointer (some ⟨w.heap.size, 0, none⟩), undef, undef, .bool false, .bool true, .pointer (some ⟨gp, 0, none⟩), .slice XD (il D).length cD, .pointer (some ⟨g10, 0, none⟩), .pointer (some ⟨g11, 0, none⟩), .pointer (some ⟨g12, 0, none⟩), y 10, y 11, .bool true, .bool true, .bool false, .agg #[.slice A0 l0.length c0, .slice A1 l1.length c1, .int .u8 a, .slice A3 l3.length c3, .slice A4 l4.length c4], .agg #[.int .i64 V, .slice XA (il A).length cA, .int .i64 U, .slice XC (il C).length cC], .pointer (some ⟨gp, 0, none⟩), .pointer (some ⟨gp, 0, none⟩), .int .i64 V, .pointer (some ⟨gp, 2, none⟩), .pointer (some ⟨gp, 2, none⟩), .int .i64 U, .bool false, undef, .pointer (some ⟨gp, 0, none⟩), .agg #[.int .i64 V, .slice XA (il A).length cA], .int .u16 s, .slice XD (il D).length cD, y0, y1, y2, y3, y4, y5, y6, y7, y8, y9, y10, y11, y12, y13, y14, y15, z0, z1, z2, z3, z4, z5, z6, z7, z8, z9, z10, y 0, y 1, y 2, y 3, y 4, y 5, y 6, y 7, y 8, y 9, undef, undef, undef, undef, undef, undef, undef, undef, undef, undef, undef, undef, undef, undef, undef, undef, undef, undef, undef, undef, undef, undef], defers := [] } : Act) ∧ (∀ j < 3, L j = true → y j = vv j) ∧ (fun (L : Nat → Bool) (wz : World) (y : Nat → Value) => S10 w7 (.pointer (some ⟨g12, 0, none⟩)) (.agg #[.slice Z1 (il F2).length cZ1, .slice Z2 (embM A (withL C x) D F2).length cZ2]) (.slice XD (il D).length cD) n1 n2 L wz (y 3) (y 4) (y 5) (y 6) (y 7) (y 8) (y 9) (y 10) (y 11)) L wI y) ?acyc ?start ?step ?rdone
        case acyc => exact fun i o ho => acyc_of2 (by kernel_rfl) i o ho
        case start => exact mk (fun _ => false) _ _ rfl (fun _ _ h => by cases h) (by exact ⟨below_drew (Below.refl _ _), (fun h => nomatch h), (fun h => nomatch h), (fun h => nomatch h), (fun h => nomatch h), (fun h => nomatch h), (fun h => nomatch h), (fun h => nomatch h), (fun h => nomatch h), (fun h => nomatch h)⟩)
        case step =>
          rintro i o L a wx ho hLi hdep ⟨y, rfl, hy, hWI⟩ K hK
          have hi : i < 12 := (Array.getElem?_eq_some_iff.1 ho).1
          rcases i with _ | _ | _ | _ | _ | _ | _ | _ | _ | _ | _ | _ | i
          · obtain rfl := Option.some.inj ho
            clear hdep ho
            go_simp
            refine hK _ _ (mk _ _ _ rfl ?_ ?_)
            rotate_left
            · exact hWI.q 0 (by decide)
            · intro j hj h
              rcases j with _ | _ | _ | j
              all_goals first | (rw [hvv]; rfl) | exact hy _ (by omega) (by simpa [put1] using h) | (exfalso; omega)
          · obtain rfl := Option.some.inj ho
            have d0 : L 0 = true := hdep ⟨0, .data⟩ (by simp) rfl
            have e0 : y 0 = .pointer (some ⟨g11, 0, none⟩) := (hy 0 (by omega) d0).trans (by rw [hvv]; rfl)
            clear hdep ho
            rw [e0]
            obtain ⟨q0, q1, q2, q3⟩ := HQ7.out _ hWI.bel
            go_simp
            refine hK _ _ (mk _ _ _ rfl ?_ ?_)
            rotate_left
            · exact hWI.q 1 (by decide)
            · intro j hj h
              rcases j with _ | _ | _ | j
              all_goals first | (rw [hvv]; rfl) | exact hy _ (by omega) (by simpa [put1] using h) | (exfalso; omega)
          · obtain rfl := Option.some.inj ho
            clear hdep ho
            go_simp
            refine hK _ _ (mk _ _ _ rfl ?_ ?_)
            rotate_left
            · exact hWI.q 2 (by decide)
            · intro j hj h
              rcases j with _ | _ | _ | j
              all_goals first | (rw [hvv]; rfl) | exact hy _ (by omega) (by simpa [put1] using h) | (exfalso; omega)
          · obtain rfl := Option.some.inj ho
            have d1 : L 1 = true := hdep ⟨1, .data⟩ (by simp) rfl
            have d2 : L 2 = true := hdep ⟨2, .data⟩ (by simp) rfl
            have e1 : y 1 = .agg #[.slice X1 (il F1).length cX1, .slice X2 (embM A C D F1).length cX2] := (hy 1 (by omega) d1).trans (by rw [hvv]; rfl)
            have e2 : y 2 = .slice XD (il D).length cD := (hy 2 (by omega) d2).trans (by rw [hvv]; rfl)
            clear hdep ho
            rw [e1, e2]
            go_simp
            gi_wp2_with (refine ⟨trivial, ?_⟩; gi_at_call 19; refine (callsIn_wide.2 (KE1.out _ hWI.bel)).mono ?_; rintro e w' ⟨v, rfl, hr, hbw⟩)
            refine mk _ _ _ rfl ?_ ?_
            rotate_left
            · exact hWI.call3 hbw (by obtain ⟨A9, c9, e9⟩ := Kd.R_slice hr; rw [hn1.out] at e9; exact ⟨A9, c9, e9⟩)
            · intro j hj h
              rcases j with _ | _ | _ | j
              all_goals first | (rw [hvv]; rfl) | exact hy _ (by omega) (by simpa [put1] using h) | (exfalso; omega)
          · obtain rfl := Option.some.inj ho
            have d3 : L 3 = true := hdep ⟨3, .data⟩ (by simp) rfl
            clear hdep ho
            obtain ⟨A9, c9, hy3⟩ := hWI.h3 d3
            rw [hy3]
            go_simp
            refine hK _ _ (mk _ _ _ rfl ?_ ?_)
            rotate_left
            · exact (by have hh := hWI.op4; rw [hy3] at hh; exact hh)
            · intro j hj h
              rcases j with _ | _ | _ | j
              all_goals first | (rw [hvv]; rfl) | exact hy _ (by omega) (by simpa [put1] using h) | (exfalso; omega)
          · obtain rfl := Option.some.inj ho
            clear hdep ho
            go_simp
            refine hK _ _ (mk _ _ _ rfl ?_ ?_)
            rotate_left
            · exact hWI.op5
            · intro j hj h
              rcases j with _ | _ | _ | j
              all_goals first | (rw [hvv]; rfl) | exact hy _ (by omega) (by simpa [put1] using h) | (exfalso; omega)
          · obtain rfl := Option.some.inj ho
            have d5 : L 5 = true := hdep ⟨5, .data⟩ (by simp) rfl
            clear hdep ho
            rw [hWI.h5 d5]
            obtain ⟨q0, q1, q2, q3⟩ := HQ7.out _ hWI.bel
            go_simp
            refine hK _ _ (mk _ _ _ rfl ?_ ?_)
            rotate_left
            · exact (by have hh := hWI.op6; rw [hWI.h5 d5] at hh; exact hh)
            · intro j hj h
              rcases j with _ | _ | _ | j
              all_goals first | (rw [hvv]; rfl) | exact hy _ (by omega) (by simpa [put1] using h) | (exfalso; omega)
          · obtain rfl := Option.some.inj ho
            clear hdep ho
            go_simp
            refine hK _ _ (mk _ _ _ rfl ?_ ?_)
            rotate_left
            · exact hWI.op7
            · intro j hj h
              rcases j with _ | _ | _ | j
              all_goals first | (rw [hvv]; rfl) | exact hy _ (by omega) (by simpa [put1] using h) | (exfalso; omega)
          · obtain rfl := Option.some.inj ho
            have d6 : L 6 = true := hdep ⟨6, .data⟩ (by simp) rfl
            have d7 : L 7 = true := hdep ⟨7, .data⟩ (by simp) rfl
            have d3 : L 3 = true := hdep ⟨3, .chain⟩ (by simp) rfl
            clear hdep ho
            rw [hWI.h6 d6, hWI.h7 d7]
            go_simp
            gi_wp2_with (refine ⟨trivial, ?_⟩; gi_at_call 19; refine (callsIn_wide.2 (KE2.out _ hWI.bel)).mono ?_; rintro e w' ⟨v, rfl, hr, hbw⟩)
            refine mk _ _ _ rfl ?_ ?_
            rotate_left
            · exact (by have hh := hWI.call8 hbw (by obtain ⟨A9, c9, e9⟩ := Kd.R_slice hr; rw [hn2.out] at e9; exact ⟨A9, c9, e9⟩); rw [hWI.h6 d6, hWI.h7 d7] at hh; exact hh)
            · intro j hj h
              rcases j with _ | _ | _ | j
              all_goals first | (rw [hvv]; rfl) | exact hy _ (by omega) (by simpa [put1] using h) | (exfalso; omega)
          · obtain rfl := Option.some.inj ho
            have d8 : L 8 = true := hdep ⟨8, .data⟩ (by simp) rfl
            clear hdep ho
            obtain ⟨A9, c9, hy8⟩ := hWI.h8 d8
            rw [hy8]
            go_simp
            refine hK _ _ (mk _ _ _ rfl ?_ ?_)
            rotate_left
            · exact (by have hh := hWI.op9; rw [hy8] at hh; exact hh)
            · intro j hj h
              rcases j with _ | _ | _ | j
              all_goals first | (rw [hvv]; rfl) | exact hy _ (by omega) (by simpa [put1] using h) | (exfalso; omega)
          · obtain rfl := Option.some.inj ho
            have d4 : L 4 = true := hdep ⟨4, .data⟩ (by simp) rfl
            have d8 : L 8 = true := hdep ⟨8, .chain⟩ (by simp) rfl
            clear hdep ho
            rw [hWI.h4 d4]
            go_simp
            refine hK _ _ (mk _ _ _ rfl ?_ ?_)
            rotate_left
            · exact (by have hh := hWI.op10; rw [hWI.h4 d4] at hh; exact hh)
            · intro j hj h
              rcases j with _ | _ | _ | j
              all_goals first | (rw [hvv]; rfl) | exact hy _ (by omega) (by simpa [put1] using h) | (exfalso; omega)
          · obtain rfl := Option.some.inj ho
            have d9 : L 9 = true := hdep ⟨9, .data⟩ (by simp) rfl
            have d10 : L 10 = true := hdep ⟨10, .chain⟩ (by simp) rfl
            clear hdep ho
            rw [hWI.h9 d9]
            go_simp
            refine hK _ _ (mk _ _ _ rfl ?_ ?_)
            rotate_left
            · exact (by have hh := hWI.op11; rw [hWI.h9 d9] at hh; exact hh)
            · intro j hj h
              rcases j with _ | _ | _ | j
              all_goals first | (rw [hvv]; rfl) | exact hy _ (by omega) (by simpa [put1] using h) | (exfalso; omega)
          · exfalso; omega
        case rdone =>
          rintro L a w8 hall ⟨y, rfl, hy, hWI⟩
          obtain ⟨q2, q3⟩ := HE7.out _ hWI.bel
          rw [hWI.h10 (hall 10 (by decide)), hWI.h11 (hall 11 (by decide))]
          have hb8 := hWI.bel
          generalize y 0 = u0
          generalize y 1 = u1
          generalize y 2 = u2
          generalize y 3 = u3
          generalize y 4 = u4
          generalize y 5 = u5
          generalize y 6 = u6
          generalize y 7 = u7
          generalize y 8 = u8
          generalize y 9 = u9
          clear mk hvv hy hall hWI
          obtain ⟨hle, hle2⟩ := hn12
          go_wp2
          go_ret
          exact ⟨rfl, below_then hb07 hb07.size hb8⟩
end Go.Proofs.Ytheclfjbedajfaa.Pd
