/- embed.Best where there is none. -/
/- embed.Of, walked. -/
import Derived.Test.YtheclfjbedajfaaEb
import Derived.Test.YtheclfjbedajfaaGl
namespace Go.Proofs.Ytheclfjbedajfaa
set_option linter.unusedSimpArgs false
set_option linter.unusedVariables false
open Go.RowKit Go.Lib Go.Shelf Go.Proofs.YtheclfjbedajfaaW.PrintWords

abbrev nilE : Value := .agg #[.slice none 0 0, .slice none 0 0]
set_option maxHeartbeats 1000000 in
set_option maxRecDepth 100000 in
theorem best_big (V U : Int) (n m k cA cC cD : Nat) (A C D : Option Addr) (w : World) (h : 5 < V ∨ 7 < U) :
    Calls Try.prog 33 #[.agg #[.int .i64 V, .slice A n cA], .agg #[.int .i64 U, .slice C m cC], .slice D k cD] w fun e w' =>
      e = .returned (.tuple #[nilE, .int .i64 2]) ∧ Below w.heap.size w w' := by
  have hui := Try.underlying36
  have hue := Try.underlying29
  go_enter Try.func33, Try.ntmps33
  by_cases h5 : 5 < V
  · clear h
    go_wp2
    exact bodyPost_ret (v := .tuple #[nilE, .int .i64 2]) (by simp [results, Try.results33, go_sem, hue, nilE]) rfl ⟨rfl, below_alloc (below_alloc (below_alloc (below_alloc (Below.refl _ _) _) _) _) _⟩
  · have h7 : 7 < U := by omega
    clear h
    go_wp2
    exact bodyPost_ret (v := .tuple #[nilE, .int .i64 2]) (by simp [results, Try.results33, go_sem, hue, nilE]) rfl ⟨rfl, below_alloc (below_alloc (below_alloc (below_alloc (Below.refl _ _) _) _) _) _⟩
set_option maxHeartbeats 1000000 in
set_option maxRecDepth 100000 in
theorem best_bad (V U : Int) (n m cA cC cD : Nat) (A C D : Option Addr) (ds : List Int) (w : World) (h5 : ¬ 5 < V) (h7 : ¬ 7 < U) (hD : IC w D ds.length ds) (hl : ds.length < 2 ^ 40) (hwf : ∀ x ∈ ds, (Lit.int .i64 x).wf = true) (bq : Bool) (hq : diffB ds n = bq) (hqU : bq = true → U < V) :
    Calls Try.prog 33 #[.agg #[.int .i64 V, .slice A n cA], .agg #[.int .i64 U, .slice C m cC], .slice D ds.length cD] w fun e w' =>
      e = .returned (.tuple #[nilE, .int .i64 (if bq then 4 else 1)]) ∧ Below w.heap.size w w' := by
  have hui := Try.underlying36
  have hue := Try.underlying29
  have DIF := hid (show ∀ W, Below w.heap.size w W → _ from fun W hb => different_any D cD ds (n : Int) W (Kd.C_below hD hb) hl hwf)
  rw [hq] at DIF
  clear hD hwf hl hq
  go_enter Try.func33, Try.ntmps33
  go_upto_region 3 with (fail)
  obtain ⟨w1, hw1⟩ : ∃ w1, ((((w.alloc (.cells #[.int .i64 V, .slice A n cA] 36)).alloc (.cells #[.int .i64 U, .slice C m cC] 36)).alloc (.cells #[.slice D ds.length cD] 27)).alloc (.cells #[.slice none 0 0, .slice none 0 0] 29)) = w1 := ⟨_, rfl⟩
  have hb1 : Below w.heap.size w w1 := by rw [← hw1]; exact below_alloc (below_alloc (below_alloc (below_alloc (Below.refl _ _) _) _) _) _
  have hz1 : w.heap.size + 4 ≤ w1.heap.size := by rw [← hw1]; simp
  have a0 : w1.cell? ⟨w.heap.size, 0, none⟩ = some (.int .i64 V) := by rw [← hw1]; simp [go_sem]
  have a1 : w1.cell? ⟨w.heap.size, 1, none⟩ = some (.slice A n cA) := by rw [← hw1]; simp [go_sem]
  have b0 : w1.cell? ⟨w.heap.size + 1, 0, none⟩ = some (.int .i64 U) := by rw [← hw1]; simp [go_sem]
  have d0 : w1.cell? ⟨w.heap.size + 1 + 1, 0, none⟩ = some (.slice D ds.length cD) := by rw [← hw1]; simp [go_sem]
  have hr : Blk w1 (w.heap.size + 1 + 1 + 1) 29 #[.slice none 0 0, .slice none 0 0] := by rw [← hw1]; simpa using Blk.new (((w.alloc (.cells #[.int .i64 V, .slice A n cA] 36)).alloc (.cells #[.int .i64 U, .slice C m cC] 36)).alloc (.cells #[.slice D ds.length cD] 27)) 29 #[.slice none 0 0, .slice none 0 0]
  have HR := hid hr
  rw [hw1]
  clear hw1 hr
  have fin : ∀ (w2 : World) (k : Int), Below w1.heap.size w1 w2 → ∃ W3, (w2.setCell ⟨w.heap.size + 1 + 1 + 1, 0, none⟩ (.slice none 0 0)).setCell ⟨w.heap.size + 1 + 1 + 1, 1, none⟩ (.slice none 0 0) = W3 ∧ W3.cell? ⟨w.heap.size + 1 + 1 + 1, 0, none⟩ = some (.slice none 0 0) ∧ W3.cell? ⟨w.heap.size + 1 + 1 + 1, 1, none⟩ = some (.slice none 0 0) ∧ Below w.heap.size w W3 := fun w2 k hb => by
    have h2 := ((HR.out.below hb (by omega)).set_ 0 (.slice none 0 0)).set_ 1 (.slice none 0 0)
    exact ⟨_, rfl, (h2.cell 0).trans rfl, (h2.cell 1).trans rfl, ((below_then hb1 (by omega) hb).setCell (p := ⟨w.heap.size + 1 + 1 + 1, 0, none⟩) (by show _ ≤ w.heap.size + 1 + 1 + 1; omega) _).setCell (p := ⟨w.heap.size + 1 + 1 + 1, 1, none⟩) (by show _ ≤ w.heap.size + 1 + 1 + 1; omega) _⟩
  have FIN := hid fin
  clear fin
  cases bq with
  | false =>
    clear hqU
    go_wp2_with (go_at_call 34; refine (DIF.out _ (by exact hb1)).mono ?_; rintro e w2 ⟨rfl, hb2⟩; have hr2 := HR.out.below hb2 (by omega); have f0 := hr2.frozen 0; have f1 := hr2.frozen 1; have r0 := (hr2.cell 0).trans rfl; have r1 := (hr2.cell 1).trans rfl; clear hr2; obtain ⟨W3, hW3, q0, q1, hb3⟩ := FIN.out w2 1 hb2)
    exact bodyPost_ret (v := .tuple #[nilE, .int .i64 1]) (by simp [results, Try.results33, go_sem, hue, nilE, q0, q1]) rfl ⟨rfl, hb3⟩
  | true =>
    have hUV := hqU rfl
    clear hqU
    go_wp2_with (go_at_call 34; refine (DIF.out _ (by exact hb1)).mono ?_; rintro e w2 ⟨rfl, hb2⟩; have hr2 := HR.out.below hb2 (by omega); have f0 := hr2.frozen 0; have f1 := hr2.frozen 1; have r0 := (hr2.cell 0).trans rfl; have r1 := (hr2.cell 1).trans rfl; clear hr2; have a0' := (hb2.cell (p := ⟨w.heap.size, 0, none⟩) (show w.heap.size < _ by omega)).trans a0; have b0' := (hb2.cell (p := ⟨w.heap.size + 1, 0, none⟩) (show w.heap.size + 1 < _ by omega)).trans b0; obtain ⟨W3, hW3, q0, q1, hb3⟩ := FIN.out w2 4 hb2)
    exact bodyPost_ret (v := .tuple #[nilE, .int .i64 4]) (by simp [results, Try.results33, go_sem, hue, nilE, q0, q1]) rfl ⟨rfl, hb3⟩
end Go.Proofs.Ytheclfjbedajfaa


namespace Go.Proofs.Ytheclfjbedajfaa
set_option linter.unusedSimpArgs false
set_option linter.unusedVariables false
open Go.RowKit Go.Lib Go.Shelf Go.Proofs.YtheclfjbedajfaaW.PrintWords
attribute [local go_sem] Oper.semAt_some

theorem diff_nat (F : Option Addr) (cF : Nat) (fs : List Nat) (U : Nat) (w : World) (hF : IC w F fs.length (il fs)) (hl : fs.length < 2 ^ 40) (hfU : ∀ q ∈ fs, q < U) (hfn : fs.Nodup) (hU : U < 2 ^ 62) :
    Calls Try.prog 34 #[.slice F fs.length cF, .int .i64 U] w fun e w' => e = .returned (.bool true) ∧ Below w.heap.size w w' := by
  have hdiff : diffB (il fs) (U : Int) = true := diffB_iff.2 ⟨fun x hx => by obtain ⟨i, hi, rfl⟩ := List.mem_map.1 hx; have := hfU i hi; exact ⟨by simp, by simpa using this⟩, by
    unfold il List.Nodup; rw [List.pairwise_map]; exact hfn.imp (fun h e => h (by omega))⟩
  have := different_any F cF (il fs) (U : Int) w (by rw [il_length]; exact hF) (by rw [il_length]; exact hl) (fun x hx => by obtain ⟨i, hi, rfl⟩ := List.mem_map.1 hx; have := hfU i hi; simp [Lit.wf, IntKind.min, IntKind.max, IntKind.signed, IntKind.bits]; omega)
  rw [hdiff, il_length] at this
  exact this
def Dp (L : Nat → Bool) : Prop := (L 2 = true → L 1 = true) ∧ (L 6 = true → L 4 = true ∧ L 5 = true) ∧ (L 7 = true → L 0 = true ∧ L 2 = true ∧ L 3 = true ∧ L 6 = true)
theorem put1_mono {L : Nat → Bool} {i j : Nat} (h : L j = true) : put1 L i j = true := by simp [put1, h]
theorem put1_old {L : Nat → Bool} {i j : Nat} (h : put1 L i j = true) (hne : j ≠ i) : L j = true := by simpa [put1, hne] using h
theorem Dp.put {L : Nat → Bool} (h : Dp L) (i : Nat) (h2 : i = 2 → L 1 = true) (h6 : i = 6 → L 4 = true ∧ L 5 = true) (h7 : i = 7 → L 0 = true ∧ L 2 = true ∧ L 3 = true ∧ L 6 = true) : Dp (put1 L i) := by
  refine ⟨fun e => ?_, fun e => ?_, fun e => ?_⟩
  · by_cases hi : i = 2
    · exact put1_mono (h2 hi)
    · exact put1_mono (h.1 (put1_old e (by omega)))
  · by_cases hi : i = 6
    · exact ⟨put1_mono (h6 hi).1, put1_mono (h6 hi).2⟩
    · have := h.2.1 (put1_old e (by omega)); exact ⟨put1_mono this.1, put1_mono this.2⟩
  · by_cases hi : i = 7
    · have := h7 hi; exact ⟨put1_mono this.1, put1_mono this.2.1, put1_mono this.2.2.1, put1_mono this.2.2.2⟩
    · have := h.2.2 (put1_old e (by omega)); exact ⟨put1_mono this.1, put1_mono this.2.1, put1_mono this.2.2.1, put1_mono this.2.2.2⟩
theorem Dp.q {L : Nat → Bool} (h : Dp L) (i : Nat) (h2 : i ≠ 2) (h6 : i ≠ 6) (h7 : i ≠ 7) : Dp (put1 L i) := h.put i (fun e => absurd e h2) (fun e => absurd e h6) (fun e => absurd e h7)
/-- What stands while region 3 is carried out in any order. -/
structure S3 (w2 : World) (r : Nat) (AGA AGB SLF SLD : Value) (fs bs cs ds : List Nat) (L : Nat → Bool) (w : World) (y0 y1 y2 y3 y4 y5 y6 y7 y9 : Value) : Prop where
  bel : L 8 = false → Below w2.heap.size w2 w
  h0 : L 0 = true → y0 = AGA
  h1 : L 1 = true → y1 = AGB
  h2 : L 2 = true → L 8 = false → isMap w2.heap.size cs w y2
  h3 : L 3 = true → y3 = SLF
  h4 : L 4 = true → y4 = AGA
  h5 : L 5 = true → y5 = SLD
  h6 : L 6 = true → L 8 = false → w.ownsRow w2.heap.size 3 1 y6 (queueN bs.length ds).length (nums .i64 (il (queueN bs.length ds)))
  h7 : L 7 = true → L 8 = false → ∃ v1 v2, y7 = .agg #[v1, v2] ∧ w.ownsRow w2.heap.size 3 1 v1 fs.length (nums .i64 (il fs)) ∧ w.ownsRow w2.heap.size 3 1 v2 bs.length (nums .i64 (embM bs cs ds fs)) ∧ ND v1 v2
  h8 : L 8 = true → (∀ j, j < 8 → L j = true) ∧ ∃ wb v1 v2, Below w2.heap.size w2 wb ∧ wb.ownsRow w2.heap.size 3 1 v1 fs.length (nums .i64 (il fs)) ∧ wb.ownsRow w2.heap.size 3 1 v2 bs.length (nums .i64 (embM bs cs ds fs)) ∧ w = (wb.setCell ⟨r, 0, none⟩ v1).setCell ⟨r, 1, none⟩ v2 ∧ ND v1 v2
  h9 : L 9 = true → y9 = .int .i64 0
  dp : Dp L
section
variable {w2 w w' : World} {r : Nat} {AGA AGB SLF SLD : Value} {fs bs cs ds : List Nat} {L : Nat → Bool} {y0 y1 y2 y3 y4 y5 y6 y7 y9 v : Value}
theorem S3.n8 (h : S3 w2 r AGA AGB SLF SLD fs bs cs ds L w y0 y1 y2 y3 y4 y5 y6 y7 y9) {j : Nat} (hj : j < 8) (hf : L j = false) : L 8 = false := by
  cases e : L 8
  · rfl
  · have := (h.h8 e).1 j hj
    rw [hf] at this
    cases this
theorem no8 {P : Prop} (n8 : L 8 = false) (e : L 8 = true) : P := by rw [n8] at e; cases e
theorem S3.op0 (h : S3 w2 r AGA AGB SLF SLD fs bs cs ds L w y0 y1 y2 y3 y4 y5 y6 y7 y9) (n8 : L 8 = false) : S3 w2 r AGA AGB SLF SLD fs bs cs ds (put1 L 0) w AGA y1 y2 y3 y4 y5 y6 y7 y9 := ⟨h.bel, fun _ => rfl, h.h1, h.h2, h.h3, h.h4, h.h5, h.h6, h.h7, fun e => no8 n8 e, h.h9, h.dp.q 0 (by decide) (by decide) (by decide)⟩
theorem S3.op1 (h : S3 w2 r AGA AGB SLF SLD fs bs cs ds L w y0 y1 y2 y3 y4 y5 y6 y7 y9) (n8 : L 8 = false) : S3 w2 r AGA AGB SLF SLD fs bs cs ds (put1 L 1) w y0 AGB y2 y3 y4 y5 y6 y7 y9 := ⟨h.bel, h.h0, fun _ => rfl, h.h2, h.h3, h.h4, h.h5, h.h6, h.h7, fun e => no8 n8 e, h.h9, h.dp.q 1 (by decide) (by decide) (by decide)⟩
theorem S3.op3 (h : S3 w2 r AGA AGB SLF SLD fs bs cs ds L w y0 y1 y2 y3 y4 y5 y6 y7 y9) (n8 : L 8 = false) : S3 w2 r AGA AGB SLF SLD fs bs cs ds (put1 L 3) w y0 y1 y2 SLF y4 y5 y6 y7 y9 := ⟨h.bel, h.h0, h.h1, h.h2, fun _ => rfl, h.h4, h.h5, h.h6, h.h7, fun e => no8 n8 e, h.h9, h.dp.q 3 (by decide) (by decide) (by decide)⟩
theorem S3.op4 (h : S3 w2 r AGA AGB SLF SLD fs bs cs ds L w y0 y1 y2 y3 y4 y5 y6 y7 y9) (n8 : L 8 = false) : S3 w2 r AGA AGB SLF SLD fs bs cs ds (put1 L 4) w y0 y1 y2 y3 AGA y5 y6 y7 y9 := ⟨h.bel, h.h0, h.h1, h.h2, h.h3, fun _ => rfl, h.h5, h.h6, h.h7, fun e => no8 n8 e, h.h9, h.dp.q 4 (by decide) (by decide) (by decide)⟩
theorem S3.op5 (h : S3 w2 r AGA AGB SLF SLD fs bs cs ds L w y0 y1 y2 y3 y4 y5 y6 y7 y9) (n8 : L 8 = false) : S3 w2 r AGA AGB SLF SLD fs bs cs ds (put1 L 5) w y0 y1 y2 y3 y4 SLD y6 y7 y9 := ⟨h.bel, h.h0, h.h1, h.h2, h.h3, h.h4, fun _ => rfl, h.h6, h.h7, fun e => no8 n8 e, h.h9, h.dp.q 5 (by decide) (by decide) (by decide)⟩
theorem S3.op9 (h : S3 w2 r AGA AGB SLF SLD fs bs cs ds L w y0 y1 y2 y3 y4 y5 y6 y7 y9) (d8 : L 8 = true) : S3 w2 r AGA AGB SLF SLD fs bs cs ds (put1 L 9) w y0 y1 y2 y3 y4 y5 y6 y7 (.int .i64 0) := ⟨h.bel, h.h0, h.h1, h.h2, h.h3, h.h4, h.h5, h.h6, h.h7, fun e => ⟨fun j hj => by have := (h.h8 e).1 j hj; simp [put1, this], (h.h8 e).2⟩, fun _ => rfl, h.dp.q 9 (by decide) (by decide) (by decide)⟩
theorem S3.call2 (h : S3 w2 r AGA AGB SLF SLD fs bs cs ds L w y0 y1 y2 y3 y4 y5 y6 y7 y9) (n8 : L 8 = false) (d1 : L 1 = true) (hb : Below w.heap.size w w') (hm : isMap w2.heap.size cs w' v) : S3 w2 r AGA AGB SLF SLD fs bs cs ds (put1 L 2) w' y0 y1 v y3 y4 y5 y6 y7 y9 :=
  ⟨fun _ => below_then (h.bel n8) (h.bel n8).size hb, h.h0, h.h1, fun _ _ => hm, h.h3, h.h4, h.h5, fun e _ => pw_own_below (h.h6 e n8) hb, fun e _ => (h.h7 e n8).imp fun _ ⟨v2, q1, q2, q3, q4⟩ => ⟨v2, q1, pw_own_below q2 hb, pw_own_below q3 hb, q4⟩, fun e => no8 n8 e, h.h9, h.dp.put 2 (fun _ => d1) (fun e => nomatch e) (fun e => nomatch e)⟩
theorem S3.call6 (h : S3 w2 r AGA AGB SLF SLD fs bs cs ds L w y0 y1 y2 y3 y4 y5 y6 y7 y9) (n8 : L 8 = false) (d4 : L 4 = true) (d5 : L 5 = true) (hb : Below w.heap.size w w') (hm : w'.ownsRow w2.heap.size 3 1 v (queueN bs.length ds).length (nums .i64 (il (queueN bs.length ds)))) : S3 w2 r AGA AGB SLF SLD fs bs cs ds (put1 L 6) w' y0 y1 y2 y3 y4 y5 v y7 y9 :=
  ⟨fun _ => below_then (h.bel n8) (h.bel n8).size hb, h.h0, h.h1, fun e _ => (h.h2 e n8).below hb, h.h3, h.h4, h.h5, fun _ _ => hm, fun e _ => (h.h7 e n8).imp fun _ ⟨v2, q1, q2, q3, q4⟩ => ⟨v2, q1, pw_own_below q2 hb, pw_own_below q3 hb, q4⟩, fun e => no8 n8 e, h.h9, h.dp.put 6 (fun e => nomatch e) (fun _ => ⟨d4, d5⟩) (fun e => nomatch e)⟩
theorem S3.call7 (h : S3 w2 r AGA AGB SLF SLD fs bs cs ds L w y0 y1 y2 y3 y4 y5 y6 y7 y9) (n8 : L 8 = false) (d0 : L 0 = true) (d2 : L 2 = true) (d3 : L 3 = true) (d6 : L 6 = true) (hb : Below w.heap.size w w') (v1 v2 : Value) (h1 : w'.ownsRow w2.heap.size 3 1 v1 fs.length (nums .i64 (il fs))) (h2 : w'.ownsRow w2.heap.size 3 1 v2 bs.length (nums .i64 (embM bs cs ds fs))) (hnd : ND v1 v2) : S3 w2 r AGA AGB SLF SLD fs bs cs ds (put1 L 7) w' y0 y1 y2 y3 y4 y5 y6 (.agg #[v1, v2]) y9 :=
  ⟨fun _ => below_then (h.bel n8) (h.bel n8).size hb, h.h0, h.h1, fun e _ => (h.h2 e n8).below hb, h.h3, h.h4, h.h5, fun e _ => pw_own_below (h.h6 e n8) hb, fun _ _ => ⟨v1, v2, rfl, h1, h2, hnd⟩, fun e => no8 n8 e, h.h9, h.dp.put 7 (fun e => nomatch e) (fun e => nomatch e) (fun _ => ⟨d0, d2, d3, d6⟩)⟩
theorem S3.allb (h : S3 w2 r AGA AGB SLF SLD fs bs cs ds L w y0 y1 y2 y3 y4 y5 y6 y7 y9) (d7 : L 7 = true) : ∀ j, j < 8 → L j = true := by
  obtain ⟨d0, d2, d3, d6⟩ := h.dp.2.2 d7
  obtain ⟨d4, d5⟩ := h.dp.2.1 d6
  have d1 := h.dp.1 d2
  intro j hj
  match j, hj with
  | 0, _ => exact d0
  | 1, _ => exact d1
  | 2, _ => exact d2
  | 3, _ => exact d3
  | 4, _ => exact d4
  | 5, _ => exact d5
  | 6, _ => exact d6
  | 7, _ => exact d7
theorem S3.store8 (h : S3 w2 r AGA AGB SLF SLD fs bs cs ds L w y0 y1 y2 y3 y4 y5 y6 y7 y9) (n8 : L 8 = false) (d7 : L 7 = true) {v1 v2 : Value} (hy : y7 = .agg #[v1, v2]) (h1 : w.ownsRow w2.heap.size 3 1 v1 fs.length (nums .i64 (il fs))) (h2 : w.ownsRow w2.heap.size 3 1 v2 bs.length (nums .i64 (embM bs cs ds fs))) (hnd : ND v1 v2) :
    S3 w2 r AGA AGB SLF SLD fs bs cs ds (put1 L 8) ((w.setCell ⟨r, 0, none⟩ v1).setCell ⟨r, 1, none⟩ v2) y0 y1 y2 y3 y4 y5 y6 y7 y9 :=
  ⟨(fun e => nomatch e), h.h0, h.h1, (fun _ e => nomatch e), h.h3, h.h4, h.h5, (fun _ e => nomatch e), (fun _ e => nomatch e), fun _ => ⟨fun j hj => put1_mono (h.allb d7 j hj), w, v1, v2, h.bel n8, h1, h2, rfl, hnd⟩, h.h9, h.dp.q 8 (by decide) (by decide) (by decide)⟩
end

set_option maxHeartbeats 2000000 in
set_option maxRecDepth 100000 in
theorem of_ok (U cA cC cF cD : Nat) (A C F D : Option Addr) (bs cs fs ds : List Nat) (w : World) (hB : BlC w A bs.length bs) (hC : BlC w C cs.length cs) (hF : IC w F fs.length (il fs)) (hD : IC w D ds.length (il ds))
    (hfU : ∀ q ∈ fs, q < U) (hfn : fs.Nodup) (hU : U ≤ 60) (hf60 : fs.length ≤ 60)
    (hdb : ∀ i ∈ ds, i < bs.length) (hdn : ds.Nodup) (hd12 : ds.length ≤ 12) (hdl : ds.length ≤ bs.length) (hbl : bs.length ≤ 2 ^ 19) (hcl : cs.length ≤ 2 ^ 20) :
    Calls Try.prog 29 #[.agg #[.int .i64 fs.length, .slice A bs.length cA], .agg #[.int .i64 U, .slice C cs.length cC], .slice F fs.length cF, .slice D ds.length cD] w fun e w' =>
      ∃ v1 v2, e = .returned (.tuple #[.agg #[v1, v2], .int .i64 0]) ∧ w'.ownsRow w.heap.size 3 1 v1 fs.length (nums .i64 (il fs)) ∧
        w'.ownsRow w.heap.size 3 1 v2 bs.length (nums .i64 (embM bs cs ds fs)) ∧ Below w.heap.size w w' ∧ ND v1 v2 := by
  have hui := Try.underlying36
  have hue := Try.underlying29
  have D1 := hid (show ∀ W, Below w.heap.size w W → _ from fun W hb => diff_nat F cF fs U W (Kd.C_below hF hb) (by omega) hfU hfn (by omega))
  have D2 := hid (show ∀ W, Below w.heap.size w W → _ from fun W hb => diff_nat D cD ds bs.length W (Kd.C_below hD hb) (by omega) hdb hdn (by omega))
  have HB := hid hB
  have HC := hid hC
  have HD := hid hD
  have HF := hid hF
  clear hB hC hD hF
  go_enter Try.func29, Try.ntmps29
  go_upto_region 1 with (fail)
  obtain ⟨w1, hw1⟩ : ∃ w1, (((w.alloc (.cells #[.int .i64 fs.length, .slice A bs.length cA] 36)).alloc (.cells #[.int .i64 U, .slice C cs.length cC] 36)).alloc (.cells #[.slice none 0 0, .slice none 0 0] 29)) = w1 := ⟨_, rfl⟩
  have hb1 : Below w.heap.size w w1 := by rw [← hw1]; exact below_alloc (below_alloc (below_alloc (Below.refl _ _) _) _) _
  have hz1 : w.heap.size + 3 ≤ w1.heap.size := by rw [← hw1]; simp
  have a0 : w1.cell? ⟨w.heap.size, 0, none⟩ = some (.int .i64 fs.length) := by rw [← hw1]; simp [go_sem]
  have a1 : w1.cell? ⟨w.heap.size, 1, none⟩ = some (.slice A bs.length cA) := by rw [← hw1]; simp [go_sem]
  have b0 : w1.cell? ⟨w.heap.size + 1, 0, none⟩ = some (.int .i64 U) := by rw [← hw1]; simp [go_sem]
  have b1 : w1.cell? ⟨w.heap.size + 1, 1, none⟩ = some (.slice C cs.length cC) := by rw [← hw1]; simp [go_sem]
  have hr : Blk w1 (w.heap.size + 1 + 1) 29 #[.slice none 0 0, .slice none 0 0] := by rw [← hw1]; simpa using Blk.new ((w.alloc (.cells #[.int .i64 fs.length, .slice A bs.length cA] 36)).alloc (.cells #[.int .i64 U, .slice C cs.length cC] 36)) 29 #[.slice none 0 0, .slice none 0 0]
  have HR := hid hr
  rw [hw1]
  clear hw1 hr
  go_upto_region 3 with (first | (go_at_call_of 34 (Value.slice F fs.length cF); refine (D1.out _ (by exact hb1)).mono ?_; rintro e wa ⟨rfl, hba⟩; have a1a := (hba.cell (p := ⟨w.heap.size, 1, none⟩) (show w.heap.size < _ by omega)).trans a1) | (go_at_call 34; refine (D2.out _ (by exact below_then hb1 hb1.size hba)).mono ?_; rintro e w2 ⟨rfl, hb2⟩))
  have hb02 : Below w.heap.size w w2 := below_then (below_then hb1 hb1.size hba) (by have := hba.size; have := hb1.size; omega) hb2
  have hb12 : Below w1.heap.size w1 w2 := below_then hba hba.size hb2
  have hz2 : w.heap.size + 3 ≤ w2.heap.size := by have := hb12.size; omega
  have HCELL : Hid (∀ W, Below w2.heap.size w2 W → W.cell? ⟨w.heap.size, 0, none⟩ = some (.int .i64 fs.length) ∧ W.cell? ⟨w.heap.size, 1, none⟩ = some (.slice A bs.length cA) ∧ W.cell? ⟨w.heap.size + 1, 0, none⟩ = some (.int .i64 U) ∧ W.cell? ⟨w.heap.size + 1, 1, none⟩ = some (.slice C cs.length cC)) :=
    (show ∀ W, _ from fun W hb => by
      have kc : ∀ b o, b < w1.heap.size → W.cell? ⟨b, o, none⟩ = w1.cell? ⟨b, o, none⟩ := fun b o h => (hb.cell (p := ⟨b, o, none⟩) (Nat.lt_of_lt_of_le h hb12.size)).trans (hb12.cell (p := ⟨b, o, none⟩) h)
      exact ⟨(kc _ _ (by omega)).trans a0, (kc _ _ (by omega)).trans a1, (kc _ _ (by omega)).trans b0, (kc _ _ (by omega)).trans b1⟩)
  have HRB : Hid (∀ W, Below w2.heap.size w2 W → Blk W (w.heap.size + 1 + 1) 29 #[.slice none 0 0, .slice none 0 0]) := (show ∀ W, _ from fun W hb => (HR.out.below hb12 (by omega)).below hb (by omega))
  have HRES : Hid (∀ W, Below w2.heap.size w2 W → W.cell? ⟨w.heap.size + 1 + 1, 0, none⟩ = some (.slice none 0 0) ∧ W.cell? ⟨w.heap.size + 1 + 1, 1, none⟩ = some (.slice none 0 0) ∧ W.frozen? ⟨w.heap.size + 1 + 1, 0, none⟩ = false ∧ W.frozen? ⟨w.heap.size + 1 + 1, 1, none⟩ = false) :=
    (show ∀ W, _ from fun W hb => by have h := HRB.out W hb; exact ⟨(h.cell 0).trans rfl, (h.cell 1).trans rfl, h.frozen 0, h.frozen 1⟩)
  have FIND := hid (fun W (h : Below w2.heap.size w2 W) => find_any (.int .i64 U) C cC cs W rfl (HC.out.below (below_then hb02 hb02.size h)) hcl)
  have QUE := hid (fun W (h : Below w2.heap.size w2 W) => queue_any (.int .i64 fs.length) A cA bs.length D cD ds W rfl (Kd.C_below HD.out (below_then hb02 hb02.size h)) hdl hd12 (by omega))
  have AL : Hid (∀ (W : World) (bl : Nat) (AO : Option Addr) (cO : Nat), Below w2.heap.size w2 W → bl < W.heap.size → Pl W bl cs → W.ownsRow w2.heap.size 3 1 (.slice AO (queueN bs.length ds).length cO) (queueN bs.length ds).length (nums .i64 (il (queueN bs.length ds))) →
      Calls Try.prog 46 #[.agg #[.int .i64 fs.length, .slice A bs.length cA], .map (some bl), .slice F fs.length cF, .slice AO (queueN bs.length ds).length cO] W fun e w' =>
        ∃ v1 v2, e = .returned (.agg #[v1, v2]) ∧ w'.ownsRow W.heap.size 3 1 v1 fs.length (nums .i64 (il fs)) ∧ w'.ownsRow W.heap.size 3 1 v2 bs.length (nums .i64 (embM bs cs ds fs)) ∧ Below W.heap.size W w' ∧ ND v1 v2) :=
    (show ∀ (W : World) (bl : Nat) (AO : Option Addr) (cO : Nat), _ from fun W bl AO cO hb hbls hpl hro => by
      obtain ⟨_, _, e1, _, _, hO⟩ := own_IC hro
      injection e1 with e1 _ e2
      subst e1 e2
      exact along_any (.int .i64 fs.length) A F AO cA cF cO bl bs cs fs (queueN bs.length ds) W rfl (HB.out.below (below_then hb02 hb02.size hb)) hpl hbls (Kd.C_below HF.out (below_then hb02 hb02.size hb)) hf60 (fun q hq => by have := hfU q hq; omega) hO (queueN_lt hdb) (by have := queueN_len (n := bs.length) (ds := ds); omega) (by omega) hcl)
  clear a0 a1 b0 b1 D1 D2 a1a
  refine (wpIn_wide (n := 8)).1 ?_
  obtain ⟨vv, hvv⟩ : ∃ vv : Nat → Value, vv = fun i => (#[] : Array Value).getD i undef := ⟨_, rfl⟩
  have mk : ∀ (L : Nat → Bool) (a' : Act) (w' : World), a' = ({ tmps := #[.agg #[.int .i64 fs.length, .slice A bs.length cA], .agg #[.int .i64 U, .slice C cs.length cC], .slice F fs.length cF, .slice D ds.length cD, .pointer (some ⟨w.heap.size, 0, none⟩), .pointer (some ⟨w.heap.size + 1, 0, none⟩), undef, undef, .pointer (some ⟨w.heap.size + 1 + 1, 0, none⟩), a'.tmps.getD ((#[31, 32, 33, 34, 35, 36, 37, 38, 64, 9] : Array Nat).getD (9) 0) undef, .slice F fs.length cF, .int .i64 fs.length, .pointer (some ⟨w.heap.size, 0, none⟩), .int .i64 fs.length, .bool false, .bool false, .slice F fs.length cF, .pointer (some ⟨w.heap.size + 1, 0, none⟩), .int .i64 U, .bool true, .bool false, .bool false, .bool false, .slice D ds.length cD, .pointer (some ⟨w.heap.size, 1, none⟩), .slice A bs.length cA, .int .i64 bs.length, .bool true, .bool false, .bool false, undef, a'.tmps.getD ((#[31, 32, 33, 34, 35, 36, 37, 38, 64, 9] : Array Nat).getD (0) 0) undef, a'.tmps.getD ((#[31, 32, 33, 34, 35, 36, 37, 38, 64, 9] : Array Nat).getD (1) 0) undef, a'.tmps.getD ((#[31, 32, 33, 34, 35, 36, 37, 38, 64, 9] : Array Nat).getD (2) 0) undef, a'.tmps.getD ((#[31, 32, 33, 34, 35, 36, 37, 38, 64, 9] : Array Nat).getD (3) 0) undef, a'.tmps.getD ((#[31, 32, 33, 34, 35, 36, 37, 38, 64, 9] : Array Nat).getD (4) 0) undef, a'.tmps.getD ((#[31, 32, 33, 34, 35, 36, 37, 38, 64, 9] : Array Nat).getD (5) 0) undef, a'.tmps.getD ((#[31, 32, 33, 34, 35, 36, 37, 38, 64, 9] : Array Nat).getD (6) 0) undef, a'.tmps.getD ((#[31, 32, 33, 34, 35, 36, 37, 38, 64, 9] : Array Nat).getD (7) 0) undef], defers := [] } : Act) → (∀ j < 0, L j = true → a'.tmps.getD ((#[31, 32, 33, 34, 35, 36, 37, 38, 64, 9] : Array Nat).getD (j) 0) undef = vv j) → (fun (L : Nat → Bool) (wz : World) (y : Nat → Value) => S3 w2 (w.heap.size + 1 + 1) (.agg #[.int .i64 fs.length, .slice A bs.length cA]) (.agg #[.int .i64 U, .slice C cs.length cC]) (.slice F fs.length cF) (.slice D ds.length cD) fs bs cs ds L wz (y 0) (y 1) (y 2) (y 3) (y 4) (y 5) (y 6) (y 7) (y 9)) L w' (fun m => a'.tmps.getD ((#[31, 32, 33, 34, 35, 36, 37, 38, 64, 9] : Array Nat).getD (m) 0) undef) → ∃ y : Nat → Value, a' = ({ tmps := #[.agg #[.int .i64 fs.length, .slice A bs.length cA], .agg #[.int .i64 U, .slice C cs.length cC], .slice F fs.length cF, .slice D ds.length cD, .pointer (some ⟨w.heap.size, 0, none⟩), .pointer (some ⟨w.heap.size + 1, 0, none⟩), undef, undef, .pointer (some ⟨w.heap.size + 1 + 1, 0, none⟩), y 9, .slice F fs.length cF, .int .i64 fs.length, .pointer (some ⟨w.heap.size, 0, none⟩), .int .i64 fs.length, .bool false, .bool false, .slice F fs.length cF, .pointer (some ⟨w.heap.size + 1, 0, none⟩), .int .i64 U, .bool true, .bool false, .bool false, .bool false, .slice D ds.length cD, .pointer (some ⟨w.heap.size, 1, none⟩), .slice A bs.length cA, .int .i64 bs.length, .bool true, .bool false, .bool false, undef, y 0, y 1, y 2, y 3, y 4, y 5, y 6, y 7], defers := [] } : Act) ∧ (∀ j < 0, L j = true → y j = vv j) ∧ (fun (L : Nat → Bool) (wz : World) (y : Nat → Value) => S3 w2 (w.heap.size + 1 + 1) (.agg #[.int .i64 fs.length, .slice A bs.length cA]) (.agg #[.int .i64 U, .slice C cs.length cC]) (.slice F fs.length cF) (.slice D ds.length cD) fs bs cs ds L wz (y 0) (y 1) (y 2) (y 3) (y 4) (y 5) (y 6) (y 7) (y 9)) L w' y := fun L a' w' h1 h2 h3 => ⟨fun m => a'.tmps.getD ((#[31, 32, 33, 34, 35, 36, 37, 38, 64, 9] : Array Nat).getD (m) 0) undef, h1, h2, h3⟩
  refine wpIn_region_inv2 (by kernel_rfl) (fun L aI wI => ∃ y : Nat → Value, aI = ({ tmps := #[.agg #[.int .i64 fs.length, .slice A bs.length cA], .agg #[.int .i64 U, .slice C cs.length cC], .slice F fs.length cF, .slice D ds.length cD, .pointer (some ⟨w.heap.size, 0, none⟩), .pointer (some ⟨w.heap.size + 1, 0, none⟩), undef, undef, .pointer (some ⟨w.heap.size + 1 + 1, 0, none⟩), y 9, .slice F fs.length cF, .int .i64 fs.length, .pointer (some ⟨w.heap.size, 0, none⟩), .int .i64 fs.length, .bool false, .bool false, .slice F fs.length cF, .pointer (some ⟨w.heap.size + 1, 0, none⟩), .int .i64 U, .bool true, .bool false, .bool false, .bool false, .slice D ds.length cD, .pointer (some ⟨w.heap.size, 1, none⟩), .slice A bs.length cA, .int .i64 bs.length, .bool true, .bool false, .bool false, undef, y 0, y 1, y 2, y 3, y 4, y 5, y 6, y 7], defers := [] } : Act) ∧ (∀ j < 0, L j = true → y j = vv j) ∧ (fun (L : Nat → Bool) (wz : World) (y : Nat → Value) => S3 w2 (w.heap.size + 1 + 1) (.agg #[.int .i64 fs.length, .slice A bs.length cA]) (.agg #[.int .i64 U, .slice C cs.length cC]) (.slice F fs.length cF) (.slice D ds.length cD) fs bs cs ds L wz (y 0) (y 1) (y 2) (y 3) (y 4) (y 5) (y 6) (y 7) (y 9)) L wI y) ?acyc ?start ?step ?rdone
  case acyc => exact fun i o ho => acyc_of2 (by kernel_rfl) i o ho
  case start => exact mk (fun _ => false) _ _ rfl (fun _ _ h => by cases h) (by exact ⟨(fun _ => below_drew (Below.refl _ _)), (fun h => nomatch h), (fun h => nomatch h), (fun h => nomatch h), (fun h => nomatch h), (fun h => nomatch h), (fun h => nomatch h), (fun h => nomatch h), (fun h => nomatch h), (fun h => nomatch h), (fun h => nomatch h), ⟨(fun h => nomatch h), (fun h => nomatch h), (fun h => nomatch h)⟩⟩)
  case step =>
    rintro i o L a wx ho hLi hdep ⟨y, rfl, hy, hWI⟩ K hK
    have hi : i < 10 := (Array.getElem?_eq_some_iff.1 ho).1
    rcases i with _ | _ | _ | _ | _ | _ | _ | _ | _ | _ | i
    · obtain rfl := Option.some.inj ho
      clear hdep ho
      have n8 := hWI.n8 (j := 0) (by omega) hLi
      obtain ⟨qa0, qa1, qb0, qb1⟩ := HCELL.out _ (hWI.bel n8)
      go_simp
      refine hK _ _ (mk _ _ _ rfl ?_ ?_)
      rotate_left
      · exact hWI.op0 n8
      · intro j hj h
        rcases j with j
        all_goals first | (rw [hvv]; rfl) | exact hy _ (by omega) (by simpa [put1] using h) | (exfalso; omega)
    · obtain rfl := Option.some.inj ho
      clear hdep ho
      have n8 := hWI.n8 (j := 1) (by omega) hLi
      obtain ⟨qa0, qa1, qb0, qb1⟩ := HCELL.out _ (hWI.bel n8)
      go_simp
      refine hK _ _ (mk _ _ _ rfl ?_ ?_)
      rotate_left
      · exact hWI.op1 n8
      · intro j hj h
        rcases j with j
        all_goals first | (rw [hvv]; rfl) | exact hy _ (by omega) (by simpa [put1] using h) | (exfalso; omega)
    · obtain rfl := Option.some.inj ho
      have d1 : L 1 = true := hdep ⟨1, .data⟩ (by simp) rfl
      clear hdep ho
      have n8 := hWI.n8 (j := 2) (by omega) hLi
      rw [hWI.h1 d1]
      go_simp
      gi_wp2_with (refine ⟨trivial, ?_⟩; gi_at_call 47; refine (callsIn_wide.2 (FIND.out _ (hWI.bel n8))).mono ?_; rintro e w' ⟨b, rfl, hbb, hbl', hpl, hbw⟩)
      refine mk _ _ _ rfl ?_ ?_
      rotate_left
      · exact (by have hh := hWI.call2 n8 d1 hbw ⟨b, rfl, Nat.le_trans (hWI.bel n8).size hbb, hbl', hpl⟩; rw [hWI.h1 d1] at hh; exact hh)
      · intro j hj h
        rcases j with j
        all_goals first | (rw [hvv]; rfl) | exact hy _ (by omega) (by simpa [put1] using h) | (exfalso; omega)
    · obtain rfl := Option.some.inj ho
      clear hdep ho
      have n8 := hWI.n8 (j := 3) (by omega) hLi
      go_simp
      refine hK _ _ (mk _ _ _ rfl ?_ ?_)
      rotate_left
      · exact hWI.op3 n8
      · intro j hj h
        rcases j with j
        all_goals first | (rw [hvv]; rfl) | exact hy _ (by omega) (by simpa [put1] using h) | (exfalso; omega)
    · obtain rfl := Option.some.inj ho
      clear hdep ho
      have n8 := hWI.n8 (j := 4) (by omega) hLi
      obtain ⟨qa0, qa1, qb0, qb1⟩ := HCELL.out _ (hWI.bel n8)
      go_simp
      refine hK _ _ (mk _ _ _ rfl ?_ ?_)
      rotate_left
      · exact hWI.op4 n8
      · intro j hj h
        rcases j with j
        all_goals first | (rw [hvv]; rfl) | exact hy _ (by omega) (by simpa [put1] using h) | (exfalso; omega)
    · obtain rfl := Option.some.inj ho
      clear hdep ho
      have n8 := hWI.n8 (j := 5) (by omega) hLi
      go_simp
      refine hK _ _ (mk _ _ _ rfl ?_ ?_)
      rotate_left
      · exact hWI.op5 n8
      · intro j hj h
        rcases j with j
        all_goals first | (rw [hvv]; rfl) | exact hy _ (by omega) (by simpa [put1] using h) | (exfalso; omega)
    · obtain rfl := Option.some.inj ho
      have d4 : L 4 = true := hdep ⟨4, .data⟩ (by simp) rfl
      have d5 : L 5 = true := hdep ⟨5, .data⟩ (by simp) rfl
      have d2 : L 2 = true := hdep ⟨2, .chain⟩ (by simp) rfl
      clear hdep ho
      have n8 := hWI.n8 (j := 6) (by omega) hLi
      rw [hWI.h4 d4, hWI.h5 d5]
      go_simp
      gi_wp2_with (refine ⟨trivial, ?_⟩; gi_at_call 48; refine (callsIn_wide.2 (QUE.out _ (hWI.bel n8))).mono ?_; rintro e w' ⟨v, rfl, hrow, hbw⟩)
      refine mk _ _ _ rfl ?_ ?_
      rotate_left
      · exact (by have hh := hWI.call6 n8 d4 d5 hbw (own_less hrow (hWI.bel n8).size); rw [hWI.h4 d4, hWI.h5 d5] at hh; exact hh)
      · intro j hj h
        rcases j with j
        all_goals first | (rw [hvv]; rfl) | exact hy _ (by omega) (by simpa [put1] using h) | (exfalso; omega)
    · obtain rfl := Option.some.inj ho
      have d0 : L 0 = true := hdep ⟨0, .data⟩ (by simp) rfl
      have d2 : L 2 = true := hdep ⟨2, .data⟩ (by simp) rfl
      have d3 : L 3 = true := hdep ⟨3, .data⟩ (by simp) rfl
      have d6 : L 6 = true := hdep ⟨6, .data⟩ (by simp) rfl
      have d6 : L 6 = true := hdep ⟨6, .chain⟩ (by simp) rfl
      clear hdep ho
      have n8 := hWI.n8 (j := 7) (by omega) hLi
      obtain ⟨bl, hy2, hblB, hbls, hpl⟩ := hWI.h2 d2 n8
      have hro := hWI.h6 d6 n8
      obtain ⟨AO, cO, hy6⟩ := own_slice hro
      rw [hy6] at hro
      rw [hWI.h0 d0, hWI.h3 d3, hy2, hy6]
      go_simp
      gi_wp2_with (refine ⟨trivial, ?_⟩; gi_at_call 46; refine (callsIn_wide.2 (AL.out _ bl AO cO (hWI.bel n8) hbls hpl hro)).mono ?_; rintro e w' ⟨v1, v2, rfl, hr1, hr2, hbw, hnd⟩)
      refine mk _ _ _ rfl ?_ ?_
      rotate_left
      · exact (by have hh := hWI.call7 n8 d0 d2 d3 d6 hbw v1 v2 (own_less hr1 (hWI.bel n8).size) (own_less hr2 (hWI.bel n8).size) hnd; rw [hWI.h0 d0, hWI.h3 d3, hy2, hy6] at hh; exact hh)
      · intro j hj h
        rcases j with j
        all_goals first | (rw [hvv]; rfl) | exact hy _ (by omega) (by simpa [put1] using h) | (exfalso; omega)
    · obtain rfl := Option.some.inj ho
      have d7 : L 7 = true := hdep ⟨7, .data⟩ (by simp) rfl
      have d7 : L 7 = true := hdep ⟨7, .chain⟩ (by simp) rfl
      clear hdep ho
      obtain ⟨v1, v2, hy7, hr1, hr2, hnd⟩ := hWI.h7 d7 hLi
      obtain ⟨A1, c1, rfl⟩ := own_slice hr1
      obtain ⟨A2, c2, rfl⟩ := own_slice hr2
      obtain ⟨q0, q1, f0, f1⟩ := HRES.out _ (hWI.bel hLi)
      rw [hy7]
      go_simp
      refine hK _ _ (mk _ _ _ rfl ?_ ?_)
      rotate_left
      · exact (by have hh := hWI.store8 hLi d7 hy7 hr1 hr2 hnd; rw [hy7] at hh; exact hh)
      · intro j hj h
        rcases j with j
        all_goals first | (rw [hvv]; rfl) | exact hy _ (by omega) (by simpa [put1] using h) | (exfalso; omega)
    · obtain rfl := Option.some.inj ho
      have d8 : L 8 = true := hdep ⟨8, .chain⟩ (by simp) rfl
      clear hdep ho
      go_simp
      refine hK _ _ (mk _ _ _ rfl ?_ ?_)
      rotate_left
      · exact hWI.op9 d8
      · intro j hj h
        rcases j with j
        all_goals first | (rw [hvv]; rfl) | exact hy _ (by omega) (by simpa [put1] using h) | (exfalso; omega)
    · exfalso; omega
  case rdone =>
    rintro L a w4 hall ⟨y, rfl, hy, hWI⟩
    obtain ⟨_, wb, v1, v2, hb, r1, r2, rfl, hnd⟩ := hWI.h8 (hall 8 (by decide))
    rw [hWI.h9 (hall 9 (by decide))]
    have hblk := HRB.out _ hb
    clear mk hvv hy hall hWI
    go_wp2
    obtain ⟨W3, hW3⟩ : ∃ W3, (wb.setCell ⟨w.heap.size + 1 + 1, 0, none⟩ v1).setCell ⟨w.heap.size + 1 + 1, 1, none⟩ v2 = W3 := ⟨_, rfl⟩
    have h2 := (hblk.set_ 0 v1).set_ 1 v2
    have own : ∀ (v : Value) (n : Nat) (xs : List Value), wb.ownsRow w2.heap.size 3 1 v n xs → W3.ownsRow w.heap.size 3 1 v n xs := fun v n xs h => by
      have n0 : some (w.heap.size + 1 + 1) ≠ v.ownBlock := fun e => by have := (h.lt _ e.symm).1; omega
      rw [← hW3]
      exact own_less (own_other (own_other h (grownBy_setCell _ _ _ _) (.inr n0.symm)) (grownBy_setCell _ _ _ _) (.inr n0.symm)) hb02.size
    have hbw : Below w.heap.size w W3 := by rw [← hW3]; exact ((below_then hb02 hb02.size hb).setCell (p := ⟨w.heap.size + 1 + 1, 0, none⟩) (by show _ ≤ w.heap.size + 1 + 1; omega) _).setCell (p := ⟨w.heap.size + 1 + 1, 1, none⟩) (by show _ ≤ w.heap.size + 1 + 1; omega) _
    rw [hW3] at h2 ⊢
    have q0 : W3.cell? ⟨w.heap.size + 1 + 1, 0, none⟩ = some v1 := (h2.cell 0).trans rfl
    have q1 : W3.cell? ⟨w.heap.size + 1 + 1, 1, none⟩ = some v2 := (h2.cell 1).trans rfl
    exact bodyPost_ret (v := .tuple #[.agg #[v1, v2], .int .i64 0]) (by simp [results, Try.results29, go_sem, hue, q0, q1]) rfl ⟨_, _, rfl, own _ _ _ r1, own _ _ _ r2, hbw, hnd⟩

set_option maxHeartbeats 1000000 in
set_option maxRecDepth 100000 in
theorem of_bad (V U : Int) (n m cA cC cF cD : Nat) (A C F D : Option Addr) (fs ds : List Int) (w : World) (hF : IC w F fs.length fs) (hD : IC w D ds.length ds) (hfl : fs.length < 2 ^ 40) (hdl : ds.length < 2 ^ 40)
    (hfw : ∀ x ∈ fs, (Lit.int .i64 x).wf = true) (hdw : ∀ x ∈ ds, (Lit.int .i64 x).wf = true) (b1 b2 : Bool) (hb1 : diffB fs U = b1) (hb2 : diffB ds n = b2) (h : (fs.length : Int) = V → b1 = true → b2 = false) :
    Calls Try.prog 29 #[.agg #[.int .i64 V, .slice A n cA], .agg #[.int .i64 U, .slice C m cC], .slice F fs.length cF, .slice D ds.length cD] w fun e w' =>
      e = .returned (.tuple #[nilE, .int .i64 1]) ∧ Below w.heap.size w w' := by
  have hui := Try.underlying36
  have hue := Try.underlying29
  have D1 := hid (show ∀ W, Below w.heap.size w W → _ from fun W hb => different_any F cF fs U W (Kd.C_below hF hb) hfl hfw)
  have D2 := hid (show ∀ W, Below w.heap.size w W → _ from fun W hb => different_any D cD ds (n : Int) W (Kd.C_below hD hb) hdl hdw)
  rw [hb1] at D1
  rw [hb2] at D2
  clear hF hD hfw hdw hb1 hb2
  go_enter Try.func29, Try.ntmps29
  go_upto_region 1 with (fail)
  obtain ⟨w1, hw1⟩ : ∃ w1, (((w.alloc (.cells #[.int .i64 V, .slice A n cA] 36)).alloc (.cells #[.int .i64 U, .slice C m cC] 36)).alloc (.cells #[.slice none 0 0, .slice none 0 0] 29)) = w1 := ⟨_, rfl⟩
  have hbw1 : Below w.heap.size w w1 := by rw [← hw1]; exact below_alloc (below_alloc (below_alloc (Below.refl _ _) _) _) _
  have hz1 : w.heap.size + 3 ≤ w1.heap.size := by rw [← hw1]; simp
  have a0 : w1.cell? ⟨w.heap.size, 0, none⟩ = some (.int .i64 V) := by rw [← hw1]; simp [go_sem]
  have a1 : w1.cell? ⟨w.heap.size, 1, none⟩ = some (.slice A n cA) := by rw [← hw1]; simp [go_sem]
  have b0 : w1.cell? ⟨w.heap.size + 1, 0, none⟩ = some (.int .i64 U) := by rw [← hw1]; simp [go_sem]
  have hr : Blk w1 (w.heap.size + 1 + 1) 29 #[.slice none 0 0, .slice none 0 0] := by rw [← hw1]; simpa using Blk.new ((w.alloc (.cells #[.int .i64 V, .slice A n cA] 36)).alloc (.cells #[.int .i64 U, .slice C m cC] 36)) 29 #[.slice none 0 0, .slice none 0 0]
  have HR := hid hr
  rw [hw1]
  clear hw1 hr
  have FIN : Hid (∀ (w2 : World), Below w1.heap.size w1 w2 → ∃ W3, (w2.setCell ⟨w.heap.size + 1 + 1, 0, none⟩ (.slice none 0 0)).setCell ⟨w.heap.size + 1 + 1, 1, none⟩ (.slice none 0 0) = W3 ∧ W3.cell? ⟨w.heap.size + 1 + 1, 0, none⟩ = some (.slice none 0 0) ∧ W3.cell? ⟨w.heap.size + 1 + 1, 1, none⟩ = some (.slice none 0 0) ∧ Below w.heap.size w W3 ∧
      w2.cell? ⟨w.heap.size + 1 + 1, 0, none⟩ = some (.slice none 0 0) ∧ w2.cell? ⟨w.heap.size + 1 + 1, 1, none⟩ = some (.slice none 0 0) ∧ w2.frozen? ⟨w.heap.size + 1 + 1, 0, none⟩ = false ∧ w2.frozen? ⟨w.heap.size + 1 + 1, 1, none⟩ = false ∧ w2.cell? ⟨w.heap.size, 1, none⟩ = some (.slice A n cA)) := (show ∀ w2, _ from fun w2 hb => by
    have h1 := HR.out.below hb (by omega)
    have h2 := (h1.set_ 0 (.slice none 0 0)).set_ 1 (.slice none 0 0)
    exact ⟨_, rfl, (h2.cell 0).trans rfl, (h2.cell 1).trans rfl, ((below_then hbw1 (by omega) hb).setCell (p := ⟨w.heap.size + 1 + 1, 0, none⟩) (by show _ ≤ w.heap.size + 1 + 1; omega) _).setCell (p := ⟨w.heap.size + 1 + 1, 1, none⟩) (by show _ ≤ w.heap.size + 1 + 1; omega) _,
      (h1.cell 0).trans rfl, (h1.cell 1).trans rfl, h1.frozen 0, h1.frozen 1, (hb.cell (p := ⟨w.heap.size, 1, none⟩) (show w.heap.size < _ by omega)).trans a1⟩)
  by_cases hV : (fs.length : Int) = V
  · subst hV
    cases b1 with
    | false =>
      clear h
      go_wp2_with (go_at_call 34; refine (D1.out _ (by exact hbw1)).mono ?_; rintro e w2 ⟨rfl, hb2⟩; obtain ⟨W3, hW3, q0, q1, hb3, r0, r1, f0, f1, -⟩ := FIN.out w2 hb2)
      exact bodyPost_ret (v := .tuple #[nilE, .int .i64 1]) (by simp [results, Try.results29, go_sem, hue, nilE, q0, q1]) rfl ⟨rfl, hb3⟩
    | true =>
      obtain rfl := h rfl rfl
      clear h
      go_wp2_with (first | (go_at_call_of 34 (Value.slice F fs.length cF); refine (D1.out _ (by exact hbw1)).mono ?_; rintro e wa ⟨rfl, hba⟩; obtain ⟨-, -, -, -, -, -, -, -, -, ha1⟩ := FIN.out wa hba) | (go_at_call 34; refine (D2.out _ (by exact below_then hbw1 hbw1.size hba)).mono ?_; rintro e w2 ⟨rfl, hb2⟩; obtain ⟨W3, hW3, q0, q1, hb3, r0, r1, f0, f1, -⟩ := FIN.out w2 (below_then hba hba.size hb2)))
      exact bodyPost_ret (v := .tuple #[nilE, .int .i64 1]) (by simp [results, Try.results29, go_sem, hue, nilE, q0, q1]) rfl ⟨rfl, hb3⟩
  · clear h
    obtain ⟨W3, hW3, q0, q1, hb3, r0, r1, f0, f1, -⟩ := FIN.out w1 (Below.refl _ _)
    go_wp2
    exact bodyPost_ret (v := .tuple #[nilE, .int .i64 1]) (by simp [results, Try.results29, go_sem, hue, nilE, q0, q1]) rfl ⟨rfl, hb3⟩
end Go.Proofs.Ytheclfjbedajfaa
