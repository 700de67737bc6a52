/- embed.Of, walked. -/
/- plexusref06.Shuffled, walked. -/
/- The image of a structure under a list of points, in plain Lean. -/
/- The reference's made structures (layer 6): what Limited makes, in plain words. -/
/- The reference's made structures (layer 6), walked: what Limited returns. -/
/- Between this claim's contracts and the printed ones: the answers of embed's functions. -/
/- An embedding along a list: its blocks' images, and that they differ; the fold of the best one; in plain Lean. -/
/- With a block more the best embedding keeps not less, and at most one block more; in plain Lean. -/
/- Into an image of itself all blocks of a structure are kept; in plain Lean. -/
/- No embedding keeps more done blocks than the one along its own list; the lists are all lists; in plain Lean. -/
/- EmbedImages in plain Lean: the best embedding of a structure into its image keeps all blocks, and its list of points makes the same image. -/
-- Written by this session's program xprint.py: it drives the kit's print with contracts of this session's own.
-- Written by this session's program xprint.py: it drives the kit's print with contracts of this session's own.
import Derived.Test.YtheclfjbedajfaaDoorEc
import Derived.Test.YtheclfjbedajfaaDoorMv
import Derived.Test.YtheclfjbedajfaaDoorSi
import Derived.Deep.DeepCutAuto
import Derived.Deep.CutBlock
import Derived.Test.YtheclfjbedajfaaDoorProg
import Derived.Below
import Derived.Deep.Draws
import Derived.Deep.AppendLies
import Derived.Maps.AppendAt
import Derived.OwnWalk
import Derived.Laws.BytesArg
import Derived.Laws.MakeOwn
import Derived.Laws.OwnMore
import Derived.Deep.OwnRows
import Derived.Tactics
import Derived.Lib.ConvBytes
import Derived.Laws.Slices
import Derived.WalkKit
import Derived.KernelRfl
import Derived.RowKit3
import Derived.Deep.LoopGhost
import Derived.Deep.QuietTactic
import Derived.BigQuiet
import Derived.WideLaws
import Derived.Deep.RegionHeld3
import Derived.Laws.Rows
import Derived.Lib.AppendStr
import Derived.ArgAppend
import Derived.Laws.IdiomCopy
import Derived.OrdersHeld
import Derived.Laws.BitsLemmas
import Derived.RowKit
import Derived.Test.YtheclfjbedajfaaDoorWWords
import Derived.Test.YtheclfjbedajfaaDoorWLast
import Derived.Test.YtheclfjbedajfaaDoorWTab
import Derived.Test.YtheclfjbedajfaaDoorWQPut
import Derived.Test.YtheclfjbedajfaaDoorWNEv
import Derived.Test.YtheclfjbedajfaaDoorWEqStruct
import Derived.Test.YtheclfjbedajfaaDoorWRepsOne
import Derived.Test.YtheclfjbedajfaaDoorWInv
import Derived.Test.YtheclfjbedajfaaDoorWInvWords
import Derived.Test.YtheclfjbedajfaaDoorWGuard
import Derived.Test.YtheclfjbedajfaaDoorWMore
namespace Go.Proofs.YtheclfjbedajfaaDoor
set_option linter.unusedSimpArgs false
set_option linter.unusedVariables false
open Go.RowKit Go.Lib Go.Shelf Go.Proofs.YtheclfjbedajfaaDoorW.PrintWords
attribute [local go_sem] Oper.semAt_some

theorem diff_nat (F : Option Addr) (cF : Nat) (fs : List Nat) (U : Nat) (w : World) (hF : IC w F fs.length (il fs)) (hl : fs.length < 2 ^ 40) (hfU : ∀ q ∈ fs, q < U) (hfn : fs.Nodup) (hU : U < 2 ^ 62) :
    Calls Tryd.prog 32 #[.slice F fs.length cF, .int .i64 U] w fun e w' => e = .returned (.bool true) ∧ Below w.heap.size w w' := by
  have hdiff : diffB (il fs) (U : Int) = true := diffB_iff.2 ⟨fun x hx => by obtain ⟨i, hi, rfl⟩ := List.mem_map.1 hx; have := hfU i hi; exact ⟨by simp, by simpa using this⟩, by
    unfold il List.Nodup; rw [List.pairwise_map]; exact hfn.imp (fun h e => h (by omega))⟩
  have := different_any F cF (il fs) (U : Int) w (by rw [il_length]; exact hF) (by rw [il_length]; exact hl) (fun x hx => by obtain ⟨i, hi, rfl⟩ := List.mem_map.1 hx; have := hfU i hi; simp [Lit.wf, IntKind.min, IntKind.max, IntKind.signed, IntKind.bits]; omega)
  rw [hdiff, il_length] at this
  exact this
def Dp (L : Nat → Bool) : Prop := (L 2 = true → L 1 = true) ∧ (L 6 = true → L 4 = true ∧ L 5 = true) ∧ (L 7 = true → L 0 = true ∧ L 2 = true ∧ L 3 = true ∧ L 6 = true)
theorem put1_mono {L : Nat → Bool} {i j : Nat} (h : L j = true) : put1 L i j = true := by simp [put1, h]
theorem put1_old {L : Nat → Bool} {i j : Nat} (h : put1 L i j = true) (hne : j ≠ i) : L j = true := by simpa [put1, hne] using h
theorem Dp.put {L : Nat → Bool} (h : Dp L) (i : Nat) (h2 : i = 2 → L 1 = true) (h6 : i = 6 → L 4 = true ∧ L 5 = true) (h7 : i = 7 → L 0 = true ∧ L 2 = true ∧ L 3 = true ∧ L 6 = true) : Dp (put1 L i) := by
  refine ⟨fun e => ?_, fun e => ?_, fun e => ?_⟩
  · by_cases hi : i = 2
    · exact put1_mono (h2 hi)
    · exact put1_mono (h.1 (put1_old e (by omega)))
  · by_cases hi : i = 6
    · exact ⟨put1_mono (h6 hi).1, put1_mono (h6 hi).2⟩
    · have := h.2.1 (put1_old e (by omega)); exact ⟨put1_mono this.1, put1_mono this.2⟩
  · by_cases hi : i = 7
    · have := h7 hi; exact ⟨put1_mono this.1, put1_mono this.2.1, put1_mono this.2.2.1, put1_mono this.2.2.2⟩
    · have := h.2.2 (put1_old e (by omega)); exact ⟨put1_mono this.1, put1_mono this.2.1, put1_mono this.2.2.1, put1_mono this.2.2.2⟩
theorem Dp.q {L : Nat → Bool} (h : Dp L) (i : Nat) (h2 : i ≠ 2) (h6 : i ≠ 6) (h7 : i ≠ 7) : Dp (put1 L i) := h.put i (fun e => absurd e h2) (fun e => absurd e h6) (fun e => absurd e h7)
/-- What stands while region 3 is carried out in any order. -/
structure S3 (w2 : World) (r : Nat) (AGA AGB SLF SLD : Value) (fs bs cs ds : List Nat) (L : Nat → Bool) (w : World) (y0 y1 y2 y3 y4 y5 y6 y7 y9 : Value) : Prop where
  bel : L 8 = false → Below w2.heap.size w2 w
  h0 : L 0 = true → y0 = AGA
  h1 : L 1 = true → y1 = AGB
  h2 : L 2 = true → L 8 = false → isMap w2.heap.size cs w y2
  h3 : L 3 = true → y3 = SLF
  h4 : L 4 = true → y4 = AGA
  h5 : L 5 = true → y5 = SLD
  h6 : L 6 = true → L 8 = false → w.ownsRow w2.heap.size 3 1 y6 (queueN bs.length ds).length (nums .i64 (il (queueN bs.length ds)))
  h7 : L 7 = true → L 8 = false → ∃ v1 v2, y7 = .agg #[v1, v2] ∧ w.ownsRow w2.heap.size 3 1 v1 fs.length (nums .i64 (il fs)) ∧ w.ownsRow w2.heap.size 3 1 v2 bs.length (nums .i64 (embM bs cs ds fs)) ∧ ND v1 v2
  h8 : L 8 = true → (∀ j, j < 8 → L j = true) ∧ ∃ wb v1 v2, Below w2.heap.size w2 wb ∧ wb.ownsRow w2.heap.size 3 1 v1 fs.length (nums .i64 (il fs)) ∧ wb.ownsRow w2.heap.size 3 1 v2 bs.length (nums .i64 (embM bs cs ds fs)) ∧ w = (wb.setCell ⟨r, 0, none⟩ v1).setCell ⟨r, 1, none⟩ v2 ∧ ND v1 v2
  h9 : L 9 = true → y9 = .int .i64 0
  dp : Dp L
section
variable {w2 w w' : World} {r : Nat} {AGA AGB SLF SLD : Value} {fs bs cs ds : List Nat} {L : Nat → Bool} {y0 y1 y2 y3 y4 y5 y6 y7 y9 v : Value}
theorem S3.n8 (h : S3 w2 r AGA AGB SLF SLD fs bs cs ds L w y0 y1 y2 y3 y4 y5 y6 y7 y9) {j : Nat} (hj : j < 8) (hf : L j = false) : L 8 = false := by
  cases e : L 8
  · rfl
  · have := (h.h8 e).1 j hj
    rw [hf] at this
    cases this
theorem no8 {P : Prop} (n8 : L 8 = false) (e : L 8 = true) : P := by rw [n8] at e; cases e
theorem S3.op0 (h : S3 w2 r AGA AGB SLF SLD fs bs cs ds L w y0 y1 y2 y3 y4 y5 y6 y7 y9) (n8 : L 8 = false) : S3 w2 r AGA AGB SLF SLD fs bs cs ds (put1 L 0) w AGA y1 y2 y3 y4 y5 y6 y7 y9 := ⟨h.bel, fun _ => rfl, h.h1, h.h2, h.h3, h.h4, h.h5, h.h6, h.h7, fun e => no8 n8 e, h.h9, h.dp.q 0 (by decide) (by decide) (by decide)⟩
theorem S3.op1 (h : S3 w2 r AGA AGB SLF SLD fs bs cs ds L w y0 y1 y2 y3 y4 y5 y6 y7 y9) (n8 : L 8 = false) : S3 w2 r AGA AGB SLF SLD fs bs cs ds (put1 L 1) w y0 AGB y2 y3 y4 y5 y6 y7 y9 := ⟨h.bel, h.h0, fun _ => rfl, h.h2, h.h3, h.h4, h.h5, h.h6, h.h7, fun e => no8 n8 e, h.h9, h.dp.q 1 (by decide) (by decide) (by decide)⟩
theorem S3.op3 (h : S3 w2 r AGA AGB SLF SLD fs bs cs ds L w y0 y1 y2 y3 y4 y5 y6 y7 y9) (n8 : L 8 = false) : S3 w2 r AGA AGB SLF SLD fs bs cs ds (put1 L 3) w y0 y1 y2 SLF y4 y5 y6 y7 y9 := ⟨h.bel, h.h0, h.h1, h.h2, fun _ => rfl, h.h4, h.h5, h.h6, h.h7, fun e => no8 n8 e, h.h9, h.dp.q 3 (by decide) (by decide) (by decide)⟩
theorem S3.op4 (h : S3 w2 r AGA AGB SLF SLD fs bs cs ds L w y0 y1 y2 y3 y4 y5 y6 y7 y9) (n8 : L 8 = false) : S3 w2 r AGA AGB SLF SLD fs bs cs ds (put1 L 4) w y0 y1 y2 y3 AGA y5 y6 y7 y9 := ⟨h.bel, h.h0, h.h1, h.h2, h.h3, fun _ => rfl, h.h5, h.h6, h.h7, fun e => no8 n8 e, h.h9, h.dp.q 4 (by decide) (by decide) (by decide)⟩
theorem S3.op5 (h : S3 w2 r AGA AGB SLF SLD fs bs cs ds L w y0 y1 y2 y3 y4 y5 y6 y7 y9) (n8 : L 8 = false) : S3 w2 r AGA AGB SLF SLD fs bs cs ds (put1 L 5) w y0 y1 y2 y3 y4 SLD y6 y7 y9 := ⟨h.bel, h.h0, h.h1, h.h2, h.h3, h.h4, fun _ => rfl, h.h6, h.h7, fun e => no8 n8 e, h.h9, h.dp.q 5 (by decide) (by decide) (by decide)⟩
theorem S3.op9 (h : S3 w2 r AGA AGB SLF SLD fs bs cs ds L w y0 y1 y2 y3 y4 y5 y6 y7 y9) (d8 : L 8 = true) : S3 w2 r AGA AGB SLF SLD fs bs cs ds (put1 L 9) w y0 y1 y2 y3 y4 y5 y6 y7 (.int .i64 0) := ⟨h.bel, h.h0, h.h1, h.h2, h.h3, h.h4, h.h5, h.h6, h.h7, fun e => ⟨fun j hj => by have := (h.h8 e).1 j hj; simp [put1, this], (h.h8 e).2⟩, fun _ => rfl, h.dp.q 9 (by decide) (by decide) (by decide)⟩
theorem S3.call2 (h : S3 w2 r AGA AGB SLF SLD fs bs cs ds L w y0 y1 y2 y3 y4 y5 y6 y7 y9) (n8 : L 8 = false) (d1 : L 1 = true) (hb : Below w.heap.size w w') (hm : isMap w2.heap.size cs w' v) : S3 w2 r AGA AGB SLF SLD fs bs cs ds (put1 L 2) w' y0 y1 v y3 y4 y5 y6 y7 y9 :=
  ⟨fun _ => below_then (h.bel n8) (h.bel n8).size hb, h.h0, h.h1, fun _ _ => hm, h.h3, h.h4, h.h5, fun e _ => pw_own_below (h.h6 e n8) hb, fun e _ => (h.h7 e n8).imp fun _ ⟨v2, q1, q2, q3, q4⟩ => ⟨v2, q1, pw_own_below q2 hb, pw_own_below q3 hb, q4⟩, fun e => no8 n8 e, h.h9, h.dp.put 2 (fun _ => d1) (fun e => nomatch e) (fun e => nomatch e)⟩
theorem S3.call6 (h : S3 w2 r AGA AGB SLF SLD fs bs cs ds L w y0 y1 y2 y3 y4 y5 y6 y7 y9) (n8 : L 8 = false) (d4 : L 4 = true) (d5 : L 5 = true) (hb : Below w.heap.size w w') (hm : w'.ownsRow w2.heap.size 3 1 v (queueN bs.length ds).length (nums .i64 (il (queueN bs.length ds)))) : S3 w2 r AGA AGB SLF SLD fs bs cs ds (put1 L 6) w' y0 y1 y2 y3 y4 y5 v y7 y9 :=
  ⟨fun _ => below_then (h.bel n8) (h.bel n8).size hb, h.h0, h.h1, fun e _ => (h.h2 e n8).below hb, h.h3, h.h4, h.h5, fun _ _ => hm, fun e _ => (h.h7 e n8).imp fun _ ⟨v2, q1, q2, q3, q4⟩ => ⟨v2, q1, pw_own_below q2 hb, pw_own_below q3 hb, q4⟩, fun e => no8 n8 e, h.h9, h.dp.put 6 (fun e => nomatch e) (fun _ => ⟨d4, d5⟩) (fun e => nomatch e)⟩
theorem S3.call7 (h : S3 w2 r AGA AGB SLF SLD fs bs cs ds L w y0 y1 y2 y3 y4 y5 y6 y7 y9) (n8 : L 8 = false) (d0 : L 0 = true) (d2 : L 2 = true) (d3 : L 3 = true) (d6 : L 6 = true) (hb : Below w.heap.size w w') (v1 v2 : Value) (h1 : w'.ownsRow w2.heap.size 3 1 v1 fs.length (nums .i64 (il fs))) (h2 : w'.ownsRow w2.heap.size 3 1 v2 bs.length (nums .i64 (embM bs cs ds fs))) (hnd : ND v1 v2) : S3 w2 r AGA AGB SLF SLD fs bs cs ds (put1 L 7) w' y0 y1 y2 y3 y4 y5 y6 (.agg #[v1, v2]) y9 :=
  ⟨fun _ => below_then (h.bel n8) (h.bel n8).size hb, h.h0, h.h1, fun e _ => (h.h2 e n8).below hb, h.h3, h.h4, h.h5, fun e _ => pw_own_below (h.h6 e n8) hb, fun _ _ => ⟨v1, v2, rfl, h1, h2, hnd⟩, fun e => no8 n8 e, h.h9, h.dp.put 7 (fun e => nomatch e) (fun e => nomatch e) (fun _ => ⟨d0, d2, d3, d6⟩)⟩
theorem S3.allb (h : S3 w2 r AGA AGB SLF SLD fs bs cs ds L w y0 y1 y2 y3 y4 y5 y6 y7 y9) (d7 : L 7 = true) : ∀ j, j < 8 → L j = true := by
  obtain ⟨d0, d2, d3, d6⟩ := h.dp.2.2 d7
  obtain ⟨d4, d5⟩ := h.dp.2.1 d6
  have d1 := h.dp.1 d2
  intro j hj
  match j, hj with
  | 0, _ => exact d0
  | 1, _ => exact d1
  | 2, _ => exact d2
  | 3, _ => exact d3
  | 4, _ => exact d4
  | 5, _ => exact d5
  | 6, _ => exact d6
  | 7, _ => exact d7
theorem S3.store8 (h : S3 w2 r AGA AGB SLF SLD fs bs cs ds L w y0 y1 y2 y3 y4 y5 y6 y7 y9) (n8 : L 8 = false) (d7 : L 7 = true) {v1 v2 : Value} (hy : y7 = .agg #[v1, v2]) (h1 : w.ownsRow w2.heap.size 3 1 v1 fs.length (nums .i64 (il fs))) (h2 : w.ownsRow w2.heap.size 3 1 v2 bs.length (nums .i64 (embM bs cs ds fs))) (hnd : ND v1 v2) :
    S3 w2 r AGA AGB SLF SLD fs bs cs ds (put1 L 8) ((w.setCell ⟨r, 0, none⟩ v1).setCell ⟨r, 1, none⟩ v2) y0 y1 y2 y3 y4 y5 y6 y7 y9 :=
  ⟨(fun e => nomatch e), h.h0, h.h1, (fun _ e => nomatch e), h.h3, h.h4, h.h5, (fun _ e => nomatch e), (fun _ e => nomatch e), fun _ => ⟨fun j hj => put1_mono (h.allb d7 j hj), w, v1, v2, h.bel n8, h1, h2, rfl, hnd⟩, h.h9, h.dp.q 8 (by decide) (by decide) (by decide)⟩
end

set_option maxHeartbeats 2000000 in
set_option maxRecDepth 100000 in
theorem of_ok (U cA cC cF cD : Nat) (A C F D : Option Addr) (bs cs fs ds : List Nat) (w : World) (hB : BlC w A bs.length bs) (hC : BlC w C cs.length cs) (hF : IC w F fs.length (il fs)) (hD : IC w D ds.length (il ds))
    (hfU : ∀ q ∈ fs, q < U) (hfn : fs.Nodup) (hU : U ≤ 60) (hf60 : fs.length ≤ 60)
    (hdb : ∀ i ∈ ds, i < bs.length) (hdn : ds.Nodup) (hd12 : ds.length ≤ 12) (hdl : ds.length ≤ bs.length) (hbl : bs.length ≤ 2 ^ 19) (hcl : cs.length ≤ 2 ^ 20) :
    Calls Tryd.prog 35 #[.agg #[.int .i64 fs.length, .slice A bs.length cA], .agg #[.int .i64 U, .slice C cs.length cC], .slice F fs.length cF, .slice D ds.length cD] w fun e w' =>
      ∃ v1 v2, e = .returned (.tuple #[.agg #[v1, v2], .int .i64 0]) ∧ w'.ownsRow w.heap.size 3 1 v1 fs.length (nums .i64 (il fs)) ∧
        w'.ownsRow w.heap.size 3 1 v2 bs.length (nums .i64 (embM bs cs ds fs)) ∧ Below w.heap.size w w' ∧ ND v1 v2 := by
  have hui := Tryd.underlying29
  have hue := Tryd.underlying39
  have D1 := hid (show ∀ W, Below w.heap.size w W → _ from fun W hb => diff_nat F cF fs U W (Kd.C_below hF hb) (by omega) hfU hfn (by omega))
  have D2 := hid (show ∀ W, Below w.heap.size w W → _ from fun W hb => diff_nat D cD ds bs.length W (Kd.C_below hD hb) (by omega) hdb hdn (by omega))
  have HB := hid hB
  have HC := hid hC
  have HD := hid hD
  have HF := hid hF
  clear hB hC hD hF
  go_enter Tryd.func35, Tryd.ntmps35
  go_upto_region 1 with (fail)
  obtain ⟨w1, hw1⟩ : ∃ w1, (((w.alloc (.cells #[.int .i64 fs.length, .slice A bs.length cA] 29)).alloc (.cells #[.int .i64 U, .slice C cs.length cC] 29)).alloc (.cells #[.slice none 0 0, .slice none 0 0] 39)) = w1 := ⟨_, rfl⟩
  have hb1 : Below w.heap.size w w1 := by rw [← hw1]; exact below_alloc (below_alloc (below_alloc (Below.refl _ _) _) _) _
  have hz1 : w.heap.size + 3 ≤ w1.heap.size := by rw [← hw1]; simp
  have a0 : w1.cell? ⟨w.heap.size, 0, none⟩ = some (.int .i64 fs.length) := by rw [← hw1]; simp [go_sem]
  have a1 : w1.cell? ⟨w.heap.size, 1, none⟩ = some (.slice A bs.length cA) := by rw [← hw1]; simp [go_sem]
  have b0 : w1.cell? ⟨w.heap.size + 1, 0, none⟩ = some (.int .i64 U) := by rw [← hw1]; simp [go_sem]
  have b1 : w1.cell? ⟨w.heap.size + 1, 1, none⟩ = some (.slice C cs.length cC) := by rw [← hw1]; simp [go_sem]
  have hr : Blk w1 (w.heap.size + 1 + 1) 39 #[.slice none 0 0, .slice none 0 0] := by rw [← hw1]; simpa using Blk.new ((w.alloc (.cells #[.int .i64 fs.length, .slice A bs.length cA] 29)).alloc (.cells #[.int .i64 U, .slice C cs.length cC] 29)) 39 #[.slice none 0 0, .slice none 0 0]
  have HR := hid hr
  rw [hw1]
  clear hw1 hr
  go_upto_region 3 with (first | (go_at_call_of 32 (Value.slice F fs.length cF); refine (D1.out _ (by exact hb1)).mono ?_; rintro e wa ⟨rfl, hba⟩; have a1a := (hba.cell (p := ⟨w.heap.size, 1, none⟩) (show w.heap.size < _ by omega)).trans a1) | (go_at_call 32; refine (D2.out _ (by exact below_then hb1 hb1.size hba)).mono ?_; rintro e w2 ⟨rfl, hb2⟩))
  have hb02 : Below w.heap.size w w2 := below_then (below_then hb1 hb1.size hba) (by have := hba.size; have := hb1.size; omega) hb2
  have hb12 : Below w1.heap.size w1 w2 := below_then hba hba.size hb2
  have hz2 : w.heap.size + 3 ≤ w2.heap.size := by have := hb12.size; omega
  have HCELL : Hid (∀ W, Below w2.heap.size w2 W → W.cell? ⟨w.heap.size, 0, none⟩ = some (.int .i64 fs.length) ∧ W.cell? ⟨w.heap.size, 1, none⟩ = some (.slice A bs.length cA) ∧ W.cell? ⟨w.heap.size + 1, 0, none⟩ = some (.int .i64 U) ∧ W.cell? ⟨w.heap.size + 1, 1, none⟩ = some (.slice C cs.length cC)) :=
    (show ∀ W, _ from fun W hb => by
      have kc : ∀ b o, b < w1.heap.size → W.cell? ⟨b, o, none⟩ = w1.cell? ⟨b, o, none⟩ := fun b o h => (hb.cell (p := ⟨b, o, none⟩) (Nat.lt_of_lt_of_le h hb12.size)).trans (hb12.cell (p := ⟨b, o, none⟩) h)
      exact ⟨(kc _ _ (by omega)).trans a0, (kc _ _ (by omega)).trans a1, (kc _ _ (by omega)).trans b0, (kc _ _ (by omega)).trans b1⟩)
  have HRB : Hid (∀ W, Below w2.heap.size w2 W → Blk W (w.heap.size + 1 + 1) 39 #[.slice none 0 0, .slice none 0 0]) := (show ∀ W, _ from fun W hb => (HR.out.below hb12 (by omega)).below hb (by omega))
  have HRES : Hid (∀ W, Below w2.heap.size w2 W → W.cell? ⟨w.heap.size + 1 + 1, 0, none⟩ = some (.slice none 0 0) ∧ W.cell? ⟨w.heap.size + 1 + 1, 1, none⟩ = some (.slice none 0 0) ∧ W.frozen? ⟨w.heap.size + 1 + 1, 0, none⟩ = false ∧ W.frozen? ⟨w.heap.size + 1 + 1, 1, none⟩ = false) :=
    (show ∀ W, _ from fun W hb => by have h := HRB.out W hb; exact ⟨(h.cell 0).trans rfl, (h.cell 1).trans rfl, h.frozen 0, h.frozen 1⟩)
  have FIND := hid (fun W (h : Below w2.heap.size w2 W) => find_any (.int .i64 U) C cC cs W rfl (HC.out.below (below_then hb02 hb02.size h)) hcl)
  have QUE := hid (fun W (h : Below w2.heap.size w2 W) => queue_any (.int .i64 fs.length) A cA bs.length D cD ds W rfl (Kd.C_below HD.out (below_then hb02 hb02.size h)) hdl hd12 (by omega))
  have AL : Hid (∀ (W : World) (bl : Nat) (AO : Option Addr) (cO : Nat), Below w2.heap.size w2 W → bl < W.heap.size → Pl W bl cs → W.ownsRow w2.heap.size 3 1 (.slice AO (queueN bs.length ds).length cO) (queueN bs.length ds).length (nums .i64 (il (queueN bs.length ds))) →
      Calls Tryd.prog 43 #[.agg #[.int .i64 fs.length, .slice A bs.length cA], .map (some bl), .slice F fs.length cF, .slice AO (queueN bs.length ds).length cO] W fun e w' =>
        ∃ v1 v2, e = .returned (.agg #[v1, v2]) ∧ w'.ownsRow W.heap.size 3 1 v1 fs.length (nums .i64 (il fs)) ∧ w'.ownsRow W.heap.size 3 1 v2 bs.length (nums .i64 (embM bs cs ds fs)) ∧ Below W.heap.size W w' ∧ ND v1 v2) :=
    (show ∀ (W : World) (bl : Nat) (AO : Option Addr) (cO : Nat), _ from fun W bl AO cO hb hbls hpl hro => by
      obtain ⟨_, _, e1, _, _, hO⟩ := own_IC hro
      injection e1 with e1 _ e2
      subst e1 e2
      exact along_any (.int .i64 fs.length) A F AO cA cF cO bl bs cs fs (queueN bs.length ds) W rfl (HB.out.below (below_then hb02 hb02.size hb)) hpl hbls (Kd.C_below HF.out (below_then hb02 hb02.size hb)) hf60 (fun q hq => by have := hfU q hq; omega) hO (queueN_lt hdb) (by have := queueN_len (n := bs.length) (ds := ds); omega) (by omega) hcl)
  clear a0 a1 b0 b1 D1 D2 a1a
  refine (wpIn_wide (n := 8)).1 ?_
  obtain ⟨vv, hvv⟩ : ∃ vv : Nat → Value, vv = fun i => (#[] : Array Value).getD i undef := ⟨_, rfl⟩
  have mk : ∀ (L : Nat → Bool) (a' : Act) (w' : World), a' = ({ tmps := #[.agg #[.int .i64 fs.length, .slice A bs.length cA], .agg #[.int .i64 U, .slice C cs.length cC], .slice F fs.length cF, .slice D ds.length cD, .pointer (some ⟨w.heap.size, 0, none⟩), .pointer (some ⟨w.heap.size + 1, 0, none⟩), undef, undef, .pointer (some ⟨w.heap.size + 1 + 1, 0, none⟩), a'.tmps.getD ((#[31, 32, 33, 34, 35, 36, 37, 38, 64, 9] : Array Nat).getD (9) 0) undef, .slice F fs.length cF, .int .i64 fs.length, .pointer (some ⟨w.heap.size, 0, none⟩), .int .i64 fs.length, .bool false, .bool false, .slice F fs.length cF, .pointer (some ⟨w.heap.size + 1, 0, none⟩), .int .i64 U, .bool true, .bool false, .bool false, .bool false, .slice D ds.length cD, .pointer (some ⟨w.heap.size, 1, none⟩), .slice A bs.length cA, .int .i64 bs.length, .bool true, .bool false, .bool false, undef, a'.tmps.getD ((#[31, 32, 33, 34, 35, 36, 37, 38, 64, 9] : Array Nat).getD (0) 0) undef, a'.tmps.getD ((#[31, 32, 33, 34, 35, 36, 37, 38, 64, 9] : Array Nat).getD (1) 0) undef, a'.tmps.getD ((#[31, 32, 33, 34, 35, 36, 37, 38, 64, 9] : Array Nat).getD (2) 0) undef, a'.tmps.getD ((#[31, 32, 33, 34, 35, 36, 37, 38, 64, 9] : Array Nat).getD (3) 0) undef, a'.tmps.getD ((#[31, 32, 33, 34, 35, 36, 37, 38, 64, 9] : Array Nat).getD (4) 0) undef, a'.tmps.getD ((#[31, 32, 33, 34, 35, 36, 37, 38, 64, 9] : Array Nat).getD (5) 0) undef, a'.tmps.getD ((#[31, 32, 33, 34, 35, 36, 37, 38, 64, 9] : Array Nat).getD (6) 0) undef, a'.tmps.getD ((#[31, 32, 33, 34, 35, 36, 37, 38, 64, 9] : Array Nat).getD (7) 0) undef], defers := [] } : Act) → (∀ j < 0, L j = true → a'.tmps.getD ((#[31, 32, 33, 34, 35, 36, 37, 38, 64, 9] : Array Nat).getD (j) 0) undef = vv j) → (fun (L : Nat → Bool) (wz : World) (y : Nat → Value) => S3 w2 (w.heap.size + 1 + 1) (.agg #[.int .i64 fs.length, .slice A bs.length cA]) (.agg #[.int .i64 U, .slice C cs.length cC]) (.slice F fs.length cF) (.slice D ds.length cD) fs bs cs ds L wz (y 0) (y 1) (y 2) (y 3) (y 4) (y 5) (y 6) (y 7) (y 9)) L w' (fun m => a'.tmps.getD ((#[31, 32, 33, 34, 35, 36, 37, 38, 64, 9] : Array Nat).getD (m) 0) undef) → ∃ y : Nat → Value, a' = ({ tmps := #[.agg #[.int .i64 fs.length, .slice A bs.length cA], .agg #[.int .i64 U, .slice C cs.length cC], .slice F fs.length cF, .slice D ds.length cD, .pointer (some ⟨w.heap.size, 0, none⟩), .pointer (some ⟨w.heap.size + 1, 0, none⟩), undef, undef, .pointer (some ⟨w.heap.size + 1 + 1, 0, none⟩), y 9, .slice F fs.length cF, .int .i64 fs.length, .pointer (some ⟨w.heap.size, 0, none⟩), .int .i64 fs.length, .bool false, .bool false, .slice F fs.length cF, .pointer (some ⟨w.heap.size + 1, 0, none⟩), .int .i64 U, .bool true, .bool false, .bool false, .bool false, .slice D ds.length cD, .pointer (some ⟨w.heap.size, 1, none⟩), .slice A bs.length cA, .int .i64 bs.length, .bool true, .bool false, .bool false, undef, y 0, y 1, y 2, y 3, y 4, y 5, y 6, y 7], defers := [] } : Act) ∧ (∀ j < 0, L j = true → y j = vv j) ∧ (fun (L : Nat → Bool) (wz : World) (y : Nat → Value) => S3 w2 (w.heap.size + 1 + 1) (.agg #[.int .i64 fs.length, .slice A bs.length cA]) (.agg #[.int .i64 U, .slice C cs.length cC]) (.slice F fs.length cF) (.slice D ds.length cD) fs bs cs ds L wz (y 0) (y 1) (y 2) (y 3) (y 4) (y 5) (y 6) (y 7) (y 9)) L w' y := fun L a' w' h1 h2 h3 => ⟨fun m => a'.tmps.getD ((#[31, 32, 33, 34, 35, 36, 37, 38, 64, 9] : Array Nat).getD (m) 0) undef, h1, h2, h3⟩
  refine wpIn_region_inv2 (by kernel_rfl) (fun L aI wI => ∃ y : Nat → Value, aI = ({ tmps := #[.agg #[.int .i64 fs.length, .slice A bs.length cA], .agg #[.int .i64 U, .slice C cs.length cC], .slice F fs.length cF, .slice D ds.length cD, .pointer (some ⟨w.heap.size, 0, none⟩), .pointer (some ⟨w.heap.size + 1, 0, none⟩), undef, undef, .pointer (some ⟨w.heap.size + 1 + 1, 0, none⟩), y 9, .slice F fs.length cF, .int .i64 fs.length, .pointer (some ⟨w.heap.size, 0, none⟩), .int .i64 fs.length, .bool false, .bool false, .slice F fs.length cF, .pointer (some ⟨w.heap.size + 1, 0, none⟩), .int .i64 U, .bool true, .bool false, .bool false, .bool false, .slice D ds.length cD, .pointer (some ⟨w.heap.size, 1, none⟩), .slice A bs.length cA, .int .i64 bs.length, .bool true, .bool false, .bool false, undef, y 0, y 1, y 2, y 3, y 4, y 5, y 6, y 7], defers := [] } : Act) ∧ (∀ j < 0, L j = true → y j = vv j) ∧ (fun (L : Nat → Bool) (wz : World) (y : Nat → Value) => S3 w2 (w.heap.size + 1 + 1) (.agg #[.int .i64 fs.length, .slice A bs.length cA]) (.agg #[.int .i64 U, .slice C cs.length cC]) (.slice F fs.length cF) (.slice D ds.length cD) fs bs cs ds L wz (y 0) (y 1) (y 2) (y 3) (y 4) (y 5) (y 6) (y 7) (y 9)) L wI y) ?acyc ?start ?step ?rdone
  case acyc => exact fun i o ho => acyc_of2 (by kernel_rfl) i o ho
  case start => exact mk (fun _ => false) _ _ rfl (fun _ _ h => by cases h) (by exact ⟨(fun _ => below_drew (Below.refl _ _)), (fun h => nomatch h), (fun h => nomatch h), (fun h => nomatch h), (fun h => nomatch h), (fun h => nomatch h), (fun h => nomatch h), (fun h => nomatch h), (fun h => nomatch h), (fun h => nomatch h), (fun h => nomatch h), ⟨(fun h => nomatch h), (fun h => nomatch h), (fun h => nomatch h)⟩⟩)
  case step =>
    rintro i o L a wx ho hLi hdep ⟨y, rfl, hy, hWI⟩ K hK
    have hi : i < 10 := (Array.getElem?_eq_some_iff.1 ho).1
    rcases i with _ | _ | _ | _ | _ | _ | _ | _ | _ | _ | i
    · obtain rfl := Option.some.inj ho
      clear hdep ho
      have n8 := hWI.n8 (j := 0) (by omega) hLi
      obtain ⟨qa0, qa1, qb0, qb1⟩ := HCELL.out _ (hWI.bel n8)
      go_simp
      refine hK _ _ (mk _ _ _ rfl ?_ ?_)
      rotate_left
      · exact hWI.op0 n8
      · intro j hj h
        rcases j with j
        all_goals first | (rw [hvv]; rfl) | exact hy _ (by omega) (by simpa [put1] using h) | (exfalso; omega)
    · obtain rfl := Option.some.inj ho
      clear hdep ho
      have n8 := hWI.n8 (j := 1) (by omega) hLi
      obtain ⟨qa0, qa1, qb0, qb1⟩ := HCELL.out _ (hWI.bel n8)
      go_simp
      refine hK _ _ (mk _ _ _ rfl ?_ ?_)
      rotate_left
      · exact hWI.op1 n8
      · intro j hj h
        rcases j with j
        all_goals first | (rw [hvv]; rfl) | exact hy _ (by omega) (by simpa [put1] using h) | (exfalso; omega)
    · obtain rfl := Option.some.inj ho
      have d1 : L 1 = true := hdep ⟨1, .data⟩ (by simp) rfl
      clear hdep ho
      have n8 := hWI.n8 (j := 2) (by omega) hLi
      rw [hWI.h1 d1]
      go_simp
      gi_wp2_with (refine ⟨trivial, ?_⟩; gi_at_call 40; refine (callsIn_wide.2 (FIND.out _ (hWI.bel n8))).mono ?_; rintro e w' ⟨b, rfl, hbb, hbl', hpl, hbw⟩)
      refine mk _ _ _ rfl ?_ ?_
      rotate_left
      · exact (by have hh := hWI.call2 n8 d1 hbw ⟨b, rfl, Nat.le_trans (hWI.bel n8).size hbb, hbl', hpl⟩; rw [hWI.h1 d1] at hh; exact hh)
      · intro j hj h
        rcases j with j
        all_goals first | (rw [hvv]; rfl) | exact hy _ (by omega) (by simpa [put1] using h) | (exfalso; omega)
    · obtain rfl := Option.some.inj ho
      clear hdep ho
      have n8 := hWI.n8 (j := 3) (by omega) hLi
      go_simp
      refine hK _ _ (mk _ _ _ rfl ?_ ?_)
      rotate_left
      · exact hWI.op3 n8
      · intro j hj h
        rcases j with j
        all_goals first | (rw [hvv]; rfl) | exact hy _ (by omega) (by simpa [put1] using h) | (exfalso; omega)
    · obtain rfl := Option.some.inj ho
      clear hdep ho
      have n8 := hWI.n8 (j := 4) (by omega) hLi
      obtain ⟨qa0, qa1, qb0, qb1⟩ := HCELL.out _ (hWI.bel n8)
      go_simp
      refine hK _ _ (mk _ _ _ rfl ?_ ?_)
      rotate_left
      · exact hWI.op4 n8
      · intro j hj h
        rcases j with j
        all_goals first | (rw [hvv]; rfl) | exact hy _ (by omega) (by simpa [put1] using h) | (exfalso; omega)
    · obtain rfl := Option.some.inj ho
      clear hdep ho
      have n8 := hWI.n8 (j := 5) (by omega) hLi
      go_simp
      refine hK _ _ (mk _ _ _ rfl ?_ ?_)
      rotate_left
      · exact hWI.op5 n8
      · intro j hj h
        rcases j with j
        all_goals first | (rw [hvv]; rfl) | exact hy _ (by omega) (by simpa [put1] using h) | (exfalso; omega)
    · obtain rfl := Option.some.inj ho
      have d4 : L 4 = true := hdep ⟨4, .data⟩ (by simp) rfl
      have d5 : L 5 = true := hdep ⟨5, .data⟩ (by simp) rfl
      have d2 : L 2 = true := hdep ⟨2, .chain⟩ (by simp) rfl
      clear hdep ho
      have n8 := hWI.n8 (j := 6) (by omega) hLi
      rw [hWI.h4 d4, hWI.h5 d5]
      go_simp
      gi_wp2_with (refine ⟨trivial, ?_⟩; gi_at_call 41; refine (callsIn_wide.2 (QUE.out _ (hWI.bel n8))).mono ?_; rintro e w' ⟨v, rfl, hrow, hbw⟩)
      refine mk _ _ _ rfl ?_ ?_
      rotate_left
      · exact (by have hh := hWI.call6 n8 d4 d5 hbw (own_less hrow (hWI.bel n8).size); rw [hWI.h4 d4, hWI.h5 d5] at hh; exact hh)
      · intro j hj h
        rcases j with j
        all_goals first | (rw [hvv]; rfl) | exact hy _ (by omega) (by simpa [put1] using h) | (exfalso; omega)
    · obtain rfl := Option.some.inj ho
      have d0 : L 0 = true := hdep ⟨0, .data⟩ (by simp) rfl
      have d2 : L 2 = true := hdep ⟨2, .data⟩ (by simp) rfl
      have d3 : L 3 = true := hdep ⟨3, .data⟩ (by simp) rfl
      have d6 : L 6 = true := hdep ⟨6, .data⟩ (by simp) rfl
      have d6 : L 6 = true := hdep ⟨6, .chain⟩ (by simp) rfl
      clear hdep ho
      have n8 := hWI.n8 (j := 7) (by omega) hLi
      obtain ⟨bl, hy2, hblB, hbls, hpl⟩ := hWI.h2 d2 n8
      have hro := hWI.h6 d6 n8
      obtain ⟨AO, cO, hy6⟩ := own_slice hro
      rw [hy6] at hro
      rw [hWI.h0 d0, hWI.h3 d3, hy2, hy6]
      go_simp
      gi_wp2_with (refine ⟨trivial, ?_⟩; gi_at_call 43; refine (callsIn_wide.2 (AL.out _ bl AO cO (hWI.bel n8) hbls hpl hro)).mono ?_; rintro e w' ⟨v1, v2, rfl, hr1, hr2, hbw, hnd⟩)
      refine mk _ _ _ rfl ?_ ?_
      rotate_left
      · exact (by have hh := hWI.call7 n8 d0 d2 d3 d6 hbw v1 v2 (own_less hr1 (hWI.bel n8).size) (own_less hr2 (hWI.bel n8).size) hnd; rw [hWI.h0 d0, hWI.h3 d3, hy2, hy6] at hh; exact hh)
      · intro j hj h
        rcases j with j
        all_goals first | (rw [hvv]; rfl) | exact hy _ (by omega) (by simpa [put1] using h) | (exfalso; omega)
    · obtain rfl := Option.some.inj ho
      have d7 : L 7 = true := hdep ⟨7, .data⟩ (by simp) rfl
      have d7 : L 7 = true := hdep ⟨7, .chain⟩ (by simp) rfl
      clear hdep ho
      obtain ⟨v1, v2, hy7, hr1, hr2, hnd⟩ := hWI.h7 d7 hLi
      obtain ⟨A1, c1, rfl⟩ := own_slice hr1
      obtain ⟨A2, c2, rfl⟩ := own_slice hr2
      obtain ⟨q0, q1, f0, f1⟩ := HRES.out _ (hWI.bel hLi)
      rw [hy7]
      go_simp
      refine hK _ _ (mk _ _ _ rfl ?_ ?_)
      rotate_left
      · exact (by have hh := hWI.store8 hLi d7 hy7 hr1 hr2 hnd; rw [hy7] at hh; exact hh)
      · intro j hj h
        rcases j with j
        all_goals first | (rw [hvv]; rfl) | exact hy _ (by omega) (by simpa [put1] using h) | (exfalso; omega)
    · obtain rfl := Option.some.inj ho
      have d8 : L 8 = true := hdep ⟨8, .chain⟩ (by simp) rfl
      clear hdep ho
      go_simp
      refine hK _ _ (mk _ _ _ rfl ?_ ?_)
      rotate_left
      · exact hWI.op9 d8
      · intro j hj h
        rcases j with j
        all_goals first | (rw [hvv]; rfl) | exact hy _ (by omega) (by simpa [put1] using h) | (exfalso; omega)
    · exfalso; omega
  case rdone =>
    rintro L a w4 hall ⟨y, rfl, hy, hWI⟩
    obtain ⟨_, wb, v1, v2, hb, r1, r2, rfl, hnd⟩ := hWI.h8 (hall 8 (by decide))
    rw [hWI.h9 (hall 9 (by decide))]
    have hblk := HRB.out _ hb
    clear mk hvv hy hall hWI
    go_wp2
    obtain ⟨W3, hW3⟩ : ∃ W3, (wb.setCell ⟨w.heap.size + 1 + 1, 0, none⟩ v1).setCell ⟨w.heap.size + 1 + 1, 1, none⟩ v2 = W3 := ⟨_, rfl⟩
    have h2 := (hblk.set_ 0 v1).set_ 1 v2
    have own : ∀ (v : Value) (n : Nat) (xs : List Value), wb.ownsRow w2.heap.size 3 1 v n xs → W3.ownsRow w.heap.size 3 1 v n xs := fun v n xs h => by
      have n0 : some (w.heap.size + 1 + 1) ≠ v.ownBlock := fun e => by have := (h.lt _ e.symm).1; omega
      rw [← hW3]
      exact own_less (own_other (own_other h (grownBy_setCell _ _ _ _) (.inr n0.symm)) (grownBy_setCell _ _ _ _) (.inr n0.symm)) hb02.size
    have hbw : Below w.heap.size w W3 := by rw [← hW3]; exact ((below_then hb02 hb02.size hb).setCell (p := ⟨w.heap.size + 1 + 1, 0, none⟩) (by show _ ≤ w.heap.size + 1 + 1; omega) _).setCell (p := ⟨w.heap.size + 1 + 1, 1, none⟩) (by show _ ≤ w.heap.size + 1 + 1; omega) _
    rw [hW3] at h2 ⊢
    have q0 : W3.cell? ⟨w.heap.size + 1 + 1, 0, none⟩ = some v1 := (h2.cell 0).trans rfl
    have q1 : W3.cell? ⟨w.heap.size + 1 + 1, 1, none⟩ = some v2 := (h2.cell 1).trans rfl
    exact bodyPost_ret (v := .tuple #[.agg #[v1, v2], .int .i64 0]) (by simp [results, Tryd.results35, go_sem, hue, q0, q1]) rfl ⟨_, _, rfl, own _ _ _ r1, own _ _ _ r2, hbw, hnd⟩

set_option maxHeartbeats 1000000 in
set_option maxRecDepth 100000 in
theorem of_bad (V U : Int) (n m cA cC cF cD : Nat) (A C F D : Option Addr) (fs ds : List Int) (w : World) (hF : IC w F fs.length fs) (hD : IC w D ds.length ds) (hfl : fs.length < 2 ^ 40) (hdl : ds.length < 2 ^ 40)
    (hfw : ∀ x ∈ fs, (Lit.int .i64 x).wf = true) (hdw : ∀ x ∈ ds, (Lit.int .i64 x).wf = true) (b1 b2 : Bool) (hb1 : diffB fs U = b1) (hb2 : diffB ds n = b2) (h : (fs.length : Int) = V → b1 = true → b2 = false) :
    Calls Tryd.prog 35 #[.agg #[.int .i64 V, .slice A n cA], .agg #[.int .i64 U, .slice C m cC], .slice F fs.length cF, .slice D ds.length cD] w fun e w' =>
      e = .returned (.tuple #[nilE, .int .i64 1]) ∧ Below w.heap.size w w' := by
  have hui := Tryd.underlying29
  have hue := Tryd.underlying39
  have D1 := hid (show ∀ W, Below w.heap.size w W → _ from fun W hb => different_any F cF fs U W (Kd.C_below hF hb) hfl hfw)
  have D2 := hid (show ∀ W, Below w.heap.size w W → _ from fun W hb => different_any D cD ds (n : Int) W (Kd.C_below hD hb) hdl hdw)
  rw [hb1] at D1
  rw [hb2] at D2
  clear hF hD hfw hdw hb1 hb2
  go_enter Tryd.func35, Tryd.ntmps35
  go_upto_region 1 with (fail)
  obtain ⟨w1, hw1⟩ : ∃ w1, (((w.alloc (.cells #[.int .i64 V, .slice A n cA] 29)).alloc (.cells #[.int .i64 U, .slice C m cC] 29)).alloc (.cells #[.slice none 0 0, .slice none 0 0] 39)) = w1 := ⟨_, rfl⟩
  have hbw1 : Below w.heap.size w w1 := by rw [← hw1]; exact below_alloc (below_alloc (below_alloc (Below.refl _ _) _) _) _
  have hz1 : w.heap.size + 3 ≤ w1.heap.size := by rw [← hw1]; simp
  have a0 : w1.cell? ⟨w.heap.size, 0, none⟩ = some (.int .i64 V) := by rw [← hw1]; simp [go_sem]
  have a1 : w1.cell? ⟨w.heap.size, 1, none⟩ = some (.slice A n cA) := by rw [← hw1]; simp [go_sem]
  have b0 : w1.cell? ⟨w.heap.size + 1, 0, none⟩ = some (.int .i64 U) := by rw [← hw1]; simp [go_sem]
  have hr : Blk w1 (w.heap.size + 1 + 1) 39 #[.slice none 0 0, .slice none 0 0] := by rw [← hw1]; simpa using Blk.new ((w.alloc (.cells #[.int .i64 V, .slice A n cA] 29)).alloc (.cells #[.int .i64 U, .slice C m cC] 29)) 39 #[.slice none 0 0, .slice none 0 0]
  have HR := hid hr
  rw [hw1]
  clear hw1 hr
  have FIN : Hid (∀ (w2 : World), Below w1.heap.size w1 w2 → ∃ W3, (w2.setCell ⟨w.heap.size + 1 + 1, 0, none⟩ (.slice none 0 0)).setCell ⟨w.heap.size + 1 + 1, 1, none⟩ (.slice none 0 0) = W3 ∧ W3.cell? ⟨w.heap.size + 1 + 1, 0, none⟩ = some (.slice none 0 0) ∧ W3.cell? ⟨w.heap.size + 1 + 1, 1, none⟩ = some (.slice none 0 0) ∧ Below w.heap.size w W3 ∧
      w2.cell? ⟨w.heap.size + 1 + 1, 0, none⟩ = some (.slice none 0 0) ∧ w2.cell? ⟨w.heap.size + 1 + 1, 1, none⟩ = some (.slice none 0 0) ∧ w2.frozen? ⟨w.heap.size + 1 + 1, 0, none⟩ = false ∧ w2.frozen? ⟨w.heap.size + 1 + 1, 1, none⟩ = false ∧ w2.cell? ⟨w.heap.size, 1, none⟩ = some (.slice A n cA)) := (show ∀ w2, _ from fun w2 hb => by
    have h1 := HR.out.below hb (by omega)
    have h2 := (h1.set_ 0 (.slice none 0 0)).set_ 1 (.slice none 0 0)
    exact ⟨_, rfl, (h2.cell 0).trans rfl, (h2.cell 1).trans rfl, ((below_then hbw1 (by omega) hb).setCell (p := ⟨w.heap.size + 1 + 1, 0, none⟩) (by show _ ≤ w.heap.size + 1 + 1; omega) _).setCell (p := ⟨w.heap.size + 1 + 1, 1, none⟩) (by show _ ≤ w.heap.size + 1 + 1; omega) _,
      (h1.cell 0).trans rfl, (h1.cell 1).trans rfl, h1.frozen 0, h1.frozen 1, (hb.cell (p := ⟨w.heap.size, 1, none⟩) (show w.heap.size < _ by omega)).trans a1⟩)
  by_cases hV : (fs.length : Int) = V
  · subst hV
    cases b1 with
    | false =>
      clear h
      go_wp2_with (go_at_call 32; refine (D1.out _ (by exact hbw1)).mono ?_; rintro e w2 ⟨rfl, hb2⟩; obtain ⟨W3, hW3, q0, q1, hb3, r0, r1, f0, f1, -⟩ := FIN.out w2 hb2)
      exact bodyPost_ret (v := .tuple #[nilE, .int .i64 1]) (by simp [results, Tryd.results35, go_sem, hue, nilE, q0, q1]) rfl ⟨rfl, hb3⟩
    | true =>
      obtain rfl := h rfl rfl
      clear h
      go_wp2_with (first | (go_at_call_of 32 (Value.slice F fs.length cF); refine (D1.out _ (by exact hbw1)).mono ?_; rintro e wa ⟨rfl, hba⟩; obtain ⟨-, -, -, -, -, -, -, -, -, ha1⟩ := FIN.out wa hba) | (go_at_call 32; refine (D2.out _ (by exact below_then hbw1 hbw1.size hba)).mono ?_; rintro e w2 ⟨rfl, hb2⟩; obtain ⟨W3, hW3, q0, q1, hb3, r0, r1, f0, f1, -⟩ := FIN.out w2 (below_then hba hba.size hb2)))
      exact bodyPost_ret (v := .tuple #[nilE, .int .i64 1]) (by simp [results, Tryd.results35, go_sem, hue, nilE, q0, q1]) rfl ⟨rfl, hb3⟩
  · clear h
    obtain ⟨W3, hW3, q0, q1, hb3, r0, r1, f0, f1, -⟩ := FIN.out w1 (Below.refl _ _)
    go_wp2
    exact bodyPost_ret (v := .tuple #[nilE, .int .i64 1]) (by simp [results, Tryd.results35, go_sem, hue, nilE, q0, q1]) rfl ⟨rfl, hb3⟩
end Go.Proofs.YtheclfjbedajfaaDoor


namespace Go.Proofs.YtheclfjbedajfaaDoor
set_option linter.unusedSimpArgs false
set_option linter.unusedVariables false
open Go.RowKit Go.Lib Go.Shelf Go.Proofs.YtheclfjbedajfaaDoorW.PrintWords

/-- Where number i goes. -/
def shAt (l : List Nat) (i : Nat) : Nat := l.getD i 0 % (i + 1)
def shL (l : List Nat) : Nat → List Nat
  | 0 => []
  | i + 1 => (shL l i).take (shAt l i) ++ [i] ++ (shL l i).drop (shAt l i)
theorem shAt_le (l : List Nat) (i : Nat) : shAt l i ≤ i := Nat.le_of_lt_succ (Nat.mod_lt _ (Nat.succ_pos i))
theorem shL_len (l : List Nat) : ∀ i, (shL l i).length = i
  | 0 => rfl
  | i + 1 => by
    have := shL_len l i
    have := shAt_le l i
    simp [shL]
    omega

set_option maxHeartbeats 2000000 in
set_option maxRecDepth 100000 in
theorem shuffled_any (A : Option Addr) (m c n : Nat) (l : List Nat) (w : World) (hB : NlC .u8 256 w A m l) (hm : m < 2 ^ 63) (hn : n < 2 ^ 20) :
    Calls Tryd.prog 7 #[.int .i64 n, .slice A m c] w fun e w' => ∃ v, e = .returned v ∧ w'.ownsRow w.heap.size 3 1 v n (nums .i64 (il (shL l n))) ∧ Below w.heap.size w w' := by
  obtain ⟨i0, hi0, hz0, hz1, hz2⟩ := info_parts infoI
  have HAT := hid (fun (W : World) (i : Nat) (hb : Below w.heap.size w W) => at_any A m c l (i : Int) (by omega) W (hB.below hb) hm)
  clear hB
  go_enter Tryd.func7, Tryd.ntmps7
  go_upto_region 2 with (fail)
  obtain ⟨w1, hw1⟩ : ∃ w1, w.alloc (.cells #[] 3) = w1 := ⟨_, rfl⟩
  have hb1 : Below w.heap.size w w1 := by rw [← hw1]; exact below_alloc (Below.refl _ _) _
  have ho1 : w1.ownsRow w.heap.size 3 1 (.slice (some ⟨w.heap.size, 0, none⟩) 0 0) 0 (nums .i64 (il (shL l 0))) := by rw [← hw1]; exact own_empty (heap_new rfl) (Nat.le_refl _)
  have HO1 := hid ho1
  rw [hw1]
  clear hw1 ho1
  go_wp2
  go_loopw [5, 6] (fun v i wr => ∃ j g cap : Nat, j ≤ n ∧ i = .int .i64 j ∧ v = .slice (some ⟨g, 0, none⟩) j cap ∧ Hid (wr.ownsRow w.heap.size 3 1 (.slice (some ⟨g, 0, none⟩) j cap) j (nums .i64 (il (shL l j)))) ∧ Below w.heap.size w wr) (fun _ i _ => n - (intOf i).toNat)
  case atStart => exact ⟨0, w.heap.size, 0, by omega, rfl, rfl, HO1, hb1⟩
  case round =>
    clear HO1 hb1
    obtain ⟨j, g, cap, hj, rfl, rfl, HO, hbr⟩ := hrel
    by_cases hlt : j < n
    · have hkj := shAt_le l j
      have AT := HAT.out wr j hbr
      rw [Int.toNat_natCast] at AT
      have eAT : ((l.getD j 0 : Nat) : Int) % ((j : Int) + 1) = ((shAt l j : Nat) : Int) := by rw [shAt]; push_cast; rfl
      obtain ⟨x, hx⟩ : ∃ x, l.getD j 0 = x := ⟨_, rfl⟩
      obtain ⟨k, hk⟩ : ∃ k, shAt l j = k := ⟨_, rfl⟩
      rw [hx, hk] at eAT
      rw [hx] at AT
      rw [hk] at hkj
      have AT := hid AT
      have hjc : j ≤ cap := by obtain ⟨_, _, e', h1, _⟩ := own_IC HO.out; injection e' with _ _ e2; omega
      have hkc : k ≤ cap := by omega
      have HRD := hid (Reads.of_own HO.out)
      go_upto_region 6 with (go_at_call 18; refine AT.out.mono ?_; rintro e wq ⟨rfl, rfl⟩)
      rw [eAT]
      have HK := hid hk
      clear eAT AT hk hx
      obtain ⟨A', hA'⟩ : ∃ A' : Option Addr, (if cap = k then some ⟨g, 0, none⟩ else some ((⟨g, 0, none⟩ : Addr).add k)) = A' := ⟨_, rfl⟩
      have HR1 := hid (show ∀ W, Below wq.heap.size wq W → Reads W wq.heap.size 1 (some ⟨g, 0, none⟩) k (nums .i64 (il ((shL l j).take k))) from fun W hW => by
        have := (HRD.out.take (k := k) (by omega)).below hW
        rwa [Nat.mul_one, ← nums_il_take] at this)
      have HR3 := hid (show ∀ W, Below wq.heap.size wq W → Reads W wq.heap.size 1 A' (j - k) (nums .i64 (il ((shL l j).drop k))) from fun W hW => by
        have := (HRD.out.cut (k := k) (cap := cap) (by omega) (by omega)).below hW
        rw [Nat.mul_one, ← nums_il_drop] at this
        simp only [Option.map_some] at this
        rwa [hA'] at this)
      have hA2 : (if cap = k then some ⟨g, 0, none⟩ else some ⟨g, k, none⟩) = A' := by rw [← hA']; by_cases h0 : k = 0 <;> simp [Addr.add, h0]
      clear hA'
      go_region_law (first
        | (refine step_append_any _ rfl (.tmp 20) (.tmp 23) _ rfl wq.heap.size 3 i0 _ 1 8 Tryd.underlying32 hi0 hz0 hz1 hz2 rfl (by decide) (.slice (some ⟨_, 0, none⟩) 0 0) 0 [] (by simp [Act.eval]; rfl)
            (own_empty (by first | exact blk_drew (heap_new (by simp)) | exact blk_drew (blk_alloc (heap_new rfl) _)) (by first | (simp; done) | (simp; omega))) wq.heap.size (some ⟨g, 0, none⟩) (k) cap (nums .i64 (il ((shL l j).take k))) (by simp [Act.eval])
            (HR1.out _ (by first | exact Below.refl _ _ | exact below_drew (below_alloc (Below.refl _ _) _) | exact below_drew (below_alloc (below_alloc (Below.refl _ _) _) _))) (nums_one _ _) (by simp only [maxLen] <;> omega) (by omega) (by first | (simp; done) | (simp; omega)) ?_
           intro v1 w1 hown1 hg1 hat1
           have hb1 : Below wq.heap.size wq w1 := pw_below_grown (by first | exact Below.refl _ _ | exact below_drew (below_alloc (Below.refl _ _) _) | exact below_drew (below_alloc (below_alloc (Below.refl _ _) _) _)) _ (by first | (simp; done) | (simp; omega)) hg1 (by rintro k_ ⟨⟩; first | (simp; done) | (simp; omega) | omega)
           first
           | have hBb := blk_grown (blk_drew (blk_alloc (heap_new (o := .cells #[.int .i64 (j : Int)] 3 (0, 0)) rfl) _)) hg1 (by simp [Value.ownBlock])
           | have hBb := blk_grown (blk_drew (heap_new (g := wq.heap.size + 1) (o := .cells #[.int .i64 (j : Int)] 3 (0, 0)) (by simp))) hg1 (by simp [Value.ownBlock])
           | have hBb := True.intro)
        | (refine step_append_any _ rfl (.tmp 24) (.tmp 26) _ rfl wq.heap.size 3 i0 _ 1 8 Tryd.underlying32 hi0 hz0 hz1 hz2 rfl (by decide) v1 (0 + k) ([] ++ nums .i64 (il ((shL l j).take k))) (by simp [Act.eval])
            (by first | exact hown1 | exact hown1.alloc _) (w1.heap.size + 1) (some ⟨_, 0, none⟩) 1 1 [.int .i64 (j : Int)] (by simp [Act.eval]; rfl)
            (by first | exact reads_one hBb (by have := blk_lt hBb; omega) | exact reads_one (heap_new rfl) (by omega)) (by simp [Value.oneCell']) (by simp only [maxLen] <;> omega) (by omega) (by have := hb1.size; simp; omega) ?_
           intro v2 w2 hown2 hg2 hat2
           have hb2 : Below wq.heap.size wq w2 := pw_below_grown (by first | exact hb1 | exact below_alloc hb1 _) _ (by have := hb1.size; simp; omega) hg2 (own_base hown1))
        | (refine step_append_any _ rfl (.tmp 27) (.tmp 30) _ rfl wq.heap.size 3 i0 _ 1 8 Tryd.underlying32 hi0 hz0 hz1 hz2 rfl (by decide) v2 (0 + k + 1) ([] ++ nums .i64 (il ((shL l j).take k)) ++ [.int .i64 (j : Int)]) (by simp [Act.eval])
            hown2 wq.heap.size A' ((j - k)) (cap - k) (nums .i64 (il ((shL l j).drop k))) (by first | (simp [Act.eval]; done) | (simp [Act.eval]; exact hA2))
            (HR3.out _ hb2) (nums_one _ _) (by simp only [maxLen] <;> omega) (by omega) hb2.size ?_
           intro v3 w3 hown3 hg3 hat3
           have hb3 : Below wq.heap.size wq w3 := pw_below_grown hb2 _ hb2.size hg3 (own_base hown2)))
      all_goals
        go_wp2
        have h := hown3
        rw [show 0 + k + 1 + (j - k) = j + 1 from by omega] at h
        have h' : w3.ownsRow w.heap.size 3 1 v3 (j + 1) (nums .i64 (il (shL l (j + 1)))) := own_less (by rw [shL, HK.out]; simpa [nums, il] using h) hbr.size
        obtain ⟨g3, cap3, rfl, _⟩ := World.ownsRow.form h' (by omega)
        exact ⟨⟨j + 1, g3, cap3, by omega, by simp, rfl, hid h', below_then hbr hbr.size hb3⟩, by show n - ((j : Int) + 1).toNat < n - ((j : Int)).toNat; omega⟩
    · obtain rfl : j = n := by omega
      go_wp2
      go_ret
      exact ⟨_, rfl, HO.out, hbr⟩
end Go.Proofs.YtheclfjbedajfaaDoor


namespace Go.Proofs.YtheclfjbedajfaaDoor
open Go.RowKit Go.Lib Go.Shelf Go.Proofs.YtheclfjbedajfaaDoorW.PrintWords
/-- The moved blocks, sorted. -/
def imL (bs gs : List Nat) : List Nat := sortedL (bs.map fun b => movedN b gs)
theorem imL_len (bs gs : List Nat) : (imL bs gs).length = bs.length := by rw [imL, sortedL_len, List.length_map]
theorem mvK_bit {s : Nat} {fs : List Nat} (q : Nat) : ∀ k, k ≤ fs.length → ((mvK s fs k).testBit q = true ↔ ∃ p, p < k ∧ s.testBit p = true ∧ fs[p]? = some q)
  | 0, _ => by simp [mvK]
  | k + 1, hk => by
    have hg : fs[k]? = some (fs[k]) := List.getElem?_eq_getElem hk
    have hd : fs.getD k 0 = fs[k] := by rw [List.getD_eq_getElem?_getD, hg]; rfl
    rw [mvK, Nat.testBit_or, Bool.or_eq_true, mvK_bit q k (by omega)]
    constructor
    · rintro (⟨p, h1, h2, h3⟩ | h)
      · exact ⟨p, by omega, h2, h3⟩
      · by_cases hs : s.testBit k = true
        · rw [if_pos hs, Nat.testBit_two_pow, decide_eq_true_eq] at h
          exact ⟨k, by omega, hs, by rw [hg, ← hd, h]⟩
        · rw [if_neg hs] at h; simp at h
    · rintro ⟨p, h1, h2, h3⟩
      rcases Nat.lt_or_ge p k with h | h
      · exact .inl ⟨p, h, h2, h3⟩
      · obtain rfl : p = k := by omega
        right
        rw [if_pos h2, Nat.testBit_two_pow, decide_eq_true_eq, hd]
        rw [hg] at h3
        exact Option.some.inj h3
theorem moved_bit {s q : Nat} {fs : List Nat} : (movedN s fs).testBit q = true ↔ ∃ p, s.testBit p = true ∧ fs[p]? = some q := by
  rw [movedN, mvK_bit q _ (Nat.le_refl _)]
  exact ⟨fun ⟨p, _, h⟩ => ⟨p, h⟩, fun ⟨p, h1, h2⟩ => ⟨p, (List.getElem?_eq_some_iff.1 h2).1, h1, h2⟩⟩
end Go.Proofs.YtheclfjbedajfaaDoor


namespace Go.Proofs.YtheclfjbedajfaaDoor
set_option linter.unusedSimpArgs false
set_option linter.unusedVariables false
open Go.RowKit Go.Lib Go.Proofs.YtheclfjbedajfaaDoorW.PrintWords

def limV (l : List Nat) (m : Nat) : Nat := 1 + l.getD 1 0 % m
def limAll (l : List Nat) (m : Nat) : Nat := 2 ^ limV l m - 1
def limFirst (l : List Nat) (m : Nat) : Nat := l.getD 2 0 &&& limAll l m
def limN (l : List Nat) : Nat := 1 + l.getD 3 0 % 10
/-- all pairs of k points -/
def prs (k : Nat) : List Nat := (List.range k).flatMap fun p => (List.range p).map fun q => 2 ^ p ||| 2 ^ q
theorem prs_succ (k : Nat) : prs (k + 1) = prs k ++ (List.range k).map fun q => 2 ^ k ||| 2 ^ q := by simp [prs, List.range_succ, List.flatMap_append]
def limRaw (l : List Nat) (m : Nat) : List Nat :=
  match l.getD 0 0 % 8 with
  | 0 | 1 => (List.range (limV l m)).map fun k => turnB (limFirst l m) (limV l m) k (limV l m)
  | 2 => prs (limV l m)
  | 3 => (List.range 7).map fun k => turnB 11 7 k 7 &&& limAll l m
  | 4 => (List.range (limN l)).map fun k => limFirst l m >>> (l.getD (4 + k) 0 % 2)
  | 5 => ((List.range (limN l)).map fun k => l.getD (4 + k) 0 &&& limAll l m).filter fun b => cnt b 64 == 3
  | _ => (List.range (limN l)).map fun k => l.getD (4 + k) 0 &&& limAll l m
def limB (l : List Nat) (m : Nat) : List Nat := sortedL ((limRaw l m).take 10)

theorem shr_form2 {a q : Nat} : ((a : Int) / 2 ^ q) = ((a >>> q : Nat) : Int) := by rw [Nat.shiftRight_eq_div_pow]; simp
theorem cast_eq3 (x : Nat) : (((x : Nat) : Int) == 3) = (x == 3) := by rw [Bool.eq_iff_iff]; simp; omega
theorem orp_form {p q : Nat} (hp : p < 64) (hq : q < 64) : bits .or .u64 (IntKind.u64.wrap (2 ^ p)) (IntKind.u64.wrap (2 ^ q)) = ((2 ^ p ||| 2 ^ q : Nat) : Int) := by
  have h1 : (2 : Nat) ^ p < 2 ^ 64 := Nat.pow_lt_pow_right (by omega) hp
  have h2 : (2 : Nat) ^ q < 2 ^ 64 := Nat.pow_lt_pow_right (by omega) hq
  rw [show ((2 : Int) ^ p) = ((2 ^ p : Nat) : Int) from by simp, show ((2 : Int) ^ q) = ((2 ^ q : Nat) : Int) from by simp, wrapU_nat h1, wrapU_nat h2, uor h1 h2]
theorem limV_bd (l : List Nat) (m : Nat) (hm1 : 1 ≤ m) : 1 ≤ limV l m ∧ limV l m ≤ m := by
  have := Nat.mod_lt (l.getD 1 0) hm1
  unfold limV
  omega
theorem limRaw_lt {l : List Nat} {m : Nat} (hm1 : 1 ≤ m) (hm7 : m ≤ 7) : ∀ b ∈ limRaw l m, b < 2 ^ limV l m := by
  have hv := limV_bd l m hm1
  have ha : limAll l m < 2 ^ limV l m := by have := Nat.two_pow_pos (limV l m); unfold limAll; omega
  have hf : limFirst l m < 2 ^ limV l m := Nat.lt_of_le_of_lt Nat.and_le_right ha
  intro b hb
  unfold limRaw at hb
  split at hb
  · simp only [List.mem_map, List.mem_range] at hb
    obtain ⟨k, _, rfl⟩ := hb
    exact turnB_lt _ _ _ _ (by omega) (by omega)
  · simp only [List.mem_map, List.mem_range] at hb
    obtain ⟨k, _, rfl⟩ := hb
    exact turnB_lt _ _ _ _ (by omega) (by omega)
  · simp only [prs, List.mem_flatMap, List.mem_map, List.mem_range] at hb
    obtain ⟨p, hp, q, hq, rfl⟩ := hb
    exact Nat.or_lt_two_pow (Nat.pow_lt_pow_right (by omega) hp) (Nat.pow_lt_pow_right (by omega) (by omega))
  · simp only [List.mem_map, List.mem_range] at hb
    obtain ⟨k, _, rfl⟩ := hb
    exact Nat.lt_of_le_of_lt Nat.and_le_right ha
  · simp only [List.mem_map, List.mem_range] at hb
    obtain ⟨k, _, rfl⟩ := hb
    exact Nat.lt_of_le_of_lt (by rw [Nat.shiftRight_eq_div_pow]; exact Nat.div_le_self _ _) hf
  · obtain ⟨hb, _⟩ := List.mem_filter.1 hb
    simp only [List.mem_map, List.mem_range] at hb
    obtain ⟨k, _, rfl⟩ := hb
    exact Nat.lt_of_le_of_lt Nat.and_le_right ha
  · simp only [List.mem_map, List.mem_range] at hb
    obtain ⟨k, _, rfl⟩ := hb
    exact Nat.lt_of_le_of_lt Nat.and_le_right ha
theorem limRaw_len {l : List Nat} {m : Nat} (hm1 : 1 ≤ m) (hm7 : m ≤ 7) : (limRaw l m).length ≤ 100 := by
  have hv := limV_bd l m hm1
  unfold limRaw
  split
  · simp; omega
  · simp; omega
  · have : ∀ k ≤ 7, (prs k).length ≤ 100 := by decide
    exact this _ (by omega)
  · simp
  · simp [limN]; omega
  · refine Nat.le_trans (List.length_filter_le _ _) ?_
    simp [limN]; omega
  · simp [limN]; omega
theorem pairs_len : ∀ k ≤ 6, (prs k).length ≤ 100 := by decide

end Go.Proofs.YtheclfjbedajfaaDoor


namespace Go.Proofs.YtheclfjbedajfaaDoor
set_option linter.unusedSimpArgs false
set_option linter.unusedVariables false
open Go.RowKit Go.Lib Go.Proofs.YtheclfjbedajfaaDoorW.PrintWords

set_option maxHeartbeats 20000000 in
set_option maxRecDepth 100000 in
theorem limited_any (A : Option Addr) (n c : Nat) (l : List Nat) (m : Nat) (hm1 : 1 ≤ m) (hm7 : m ≤ 7) (w : World) (hB : NlC .u8 256 w A n l) (hn : n < 2 ^ 63) :
    Calls Tryd.prog 5 #[.agg #[.slice A n c], .int .i64 m] w fun e w' => ∃ v, e = .returned (.agg #[.int .i64 (limV l m), v]) ∧
      w'.ownsRow w.heap.size 25 1 v (limB l m).length (nums .u64 (il (limB l m))) ∧ Below w.heap.size w w' := by
  have hl0 := at_lt hB.2.2 0
  have hl1 := at_lt hB.2.2 1
  have hl2 := at_lt hB.2.2 2
  have hl3 := at_lt hB.2.2 3
  obtain ⟨k0, hk0⟩ : ∃ k0, l.getD 0 0 = k0 := ⟨_, rfl⟩
  obtain ⟨k1, hk1⟩ : ∃ k0, l.getD 1 0 = k0 := ⟨_, rfl⟩
  obtain ⟨k2, hk2⟩ : ∃ k0, l.getD 2 0 = k0 := ⟨_, rfl⟩
  obtain ⟨k3, hk3⟩ : ∃ k0, l.getD 3 0 = k0 := ⟨_, rfl⟩
  rw [hk0] at hl0
  rw [hk1] at hl1
  rw [hk2] at hl2
  rw [hk3] at hl3
  have HK := hid (show l.getD (0 : Int).toNat 0 = k0 ∧ l.getD (1 : Int).toNat 0 = k1 ∧ l.getD (2 : Int).toNat 0 = k2 ∧ l.getD (3 : Int).toNat 0 = k3 from ⟨hk0, hk1, hk2, hk3⟩)
  clear hk0 hk1 hk2 hk3
  have AT := fun (i : Int) (hi : 0 ≤ i) (W : World) (hW : Below w.heap.size w W) => hid (at_any A n c l i hi W (hB.below hW) hn)
  have HV := hid (show wrap64 (1 + (k1 : Int) % (m : Int)) = ((limV l m : Nat) : Int) from by
    unfold limV; rw [show l.getD 1 0 = k1 from HK.2.1]
    have := Nat.mod_lt k1 hm1
    rw [show 1 + (k1 : Int) % (m : Int) = ((1 + k1 % m : Nat) : Int) from by simp, wrap64_nat (by omega)])
  have HAll := hid (show IntKind.u64.wrap (IntKind.u64.wrap (2 ^ min (IntKind.u64.wrap ((limV l m : Nat) : Int)).toNat 64) - 1) = ((limAll l m : Nat) : Int) from by
    have h1 := limV_bd l m hm1
    have h2 : 2 ^ limV l m < 2 ^ 64 := Nat.pow_lt_pow_right (by omega) (by omega)
    have h3 := Nat.two_pow_pos (limV l m)
    rw [shl_form (by omega), show (((2 ^ limV l m : Nat) : Int) - 1) = ((2 ^ limV l m - 1 : Nat) : Int) from by omega, wrapU_nat (by omega)]; rfl)
  have HFi := hid (show bits BinOp.and IntKind.u64 (k2 : Int) ((limAll l m : Nat) : Int) = ((limFirst l m : Nat) : Int) from by
    have h1 := limV_bd l m hm1
    have h2 : 2 ^ limV l m < 2 ^ 64 := Nat.pow_lt_pow_right (by omega) (by omega)
    rw [uand (by omega) (by unfold limAll; omega)]; unfold limFirst; rw [show l.getD 2 0 = k2 from HK.2.2.1])
  have HNn := hid (show (1 + (k3 : Int) % 10) = ((limN l : Nat) : Int) from by unfold limN; rw [show l.getD 3 0 = k3 from HK.2.2.2]; simp)
  go_enter Tryd.func5, Tryd.ntmps5
  go_wp2
  go_quiet ((first
    | (go_at_call_of 18 (Value.int .i64 0); exact Calls.quiet_of_same ((AT 0 (by decide) _ (pw_below_drewN (below_alloc (below_alloc (Below.refl _ _) _) _) _)).mono fun _ _ ⟨h, h'⟩ => ⟨by rw [h, HK.1], h'⟩))
    | (go_at_call_of 18 (Value.int .i64 1); exact Calls.quiet_of_same ((AT 1 (by decide) _ (pw_below_drewN (below_alloc (below_alloc (Below.refl _ _) _) _) _)).mono fun _ _ ⟨h, h'⟩ => ⟨by rw [h, HK.2.1], h'⟩))))
  go_upto_region 6 with (first
    | (go_at_call_of 18 (Value.int .i64 2); refine (AT 2 (by decide) _ (pw_below_drewN (below_alloc (below_alloc (Below.refl _ _) _) _) _)).mono ?_; rintro e w' ⟨h, rfl⟩; rw [HK.2.2.1] at h; subst h)
    | (go_at_call_of 18 (Value.int .i64 3); refine (AT 3 (by decide) _ (below_alloc (pw_below_drewN (below_alloc (below_alloc (Below.refl _ _) _) _) _) _)).mono ?_; rintro e w' ⟨h, rfl⟩; rw [HK.2.2.2] at h; subst h))
  go_cut [2, 4, 6, 7, 8, 9, 10, 45] from 19 to 45 (fun s2 s4 s6 s7 s8 s9 s10 s45 wc => s45 = .int .i64 ((k0 % 8 : Nat) : Int) ∧ s6 = .int .i64 (limV l m) ∧ s7 = .int .u64 (limAll l m) ∧ s8 = .int .u64 (limFirst l m) ∧ s10 = .int .i64 (limN l) ∧
    s2 = .pointer (some ⟨w.heap.size, 0, none⟩) ∧ s4 = .pointer (some ⟨w.heap.size + 1, 0, none⟩) ∧
    Blk wc w.heap.size 24 #[.slice A n c] ∧ Blk wc (w.heap.size + 1) 29 #[.int .i64 0, .slice none 0 0] ∧ wc.ownsRow w.heap.size 25 1 s9 0 [] ∧ Below w.heap.size w wc)
  case first =>
    go_wp2
    go_meet
    exact ⟨by simp, by rw [HV.out], by rw [HV.out, HAll.out], by rw [HV.out, HAll.out, HFi.out], by rw [HNn.out], rfl, rfl,
      ((((Blk.new _ _ _).alloc _).drewN _).alloc _), (((blk_of_heap (heap_new (by simp))).drewN _).alloc _), own_empty (g := w.heap.size + 1 + 1) (heap_new (by simp)) (by omega), below_alloc (pw_below_drewN (below_alloc (below_alloc (Below.refl _ _) _) _) _) _⟩
  case rest =>
    obtain ⟨rfl, rfl, rfl, rfl, rfl, rfl, rfl, hg2, hg4, hown, hbc⟩ := hcut
    have hv0 : 0 < limV l m := by unfold limV; omega
    have hv7 : limV l m ≤ 7 := by have := Nat.mod_lt (l.getD 1 0) hm1; unfold limV; omega
    have hv16 : limV l m ≤ 16 := by omega
    have hp7 : 2 ^ limV l m ≤ 2 ^ 7 := Nat.pow_le_pow_right (by omega) hv7
    have ha64 : limAll l m < 2 ^ 64 := by unfold limAll; omega
    have hf64 : limFirst l m < 2 ^ 64 := Nat.lt_of_le_of_lt Nat.and_le_right ha64
    have hn10 : limN l ≤ 10 := by unfold limN; omega
    clear hp7
    go_upto_block 0 with fail
    go_cut [9] from 11 to 152 (fun s9 wc => wc.ownsRow w.heap.size 25 1 s9 (limRaw l m).length (nums .u64 (il (limRaw l m))) ∧ Blk wc (w.heap.size + 1) 29 #[.int .i64 0, .slice none 0 0] ∧ Below w.heap.size w wc)
    case first =>
      obtain ⟨K, hK8, HK1⟩ : ∃ K, K < 8 ∧ Hid (k0 % 8 = K) := ⟨_, Nat.mod_lt _ (by decide), rfl⟩
      have HK2 := hid (show l.getD 0 0 % 8 = K from (congrArg (· % 8) HK.1).trans HK1.out)
      rw [HK1.out]
      rcases (by omega : K = 0 ∨ K = 1 ∨ K = 2 ∨ K = 3 ∨ K = 4 ∨ K = 5 ∨ K = 6 ∨ K = 7) with rfl | rfl | rfl | rfl | rfl | rfl | rfl | rfl
      · rw [show ((0 : Nat) : Int) = (0 : Int) from rfl]
        go_wp2
        go_loopw [9, 11] (fun v i wr => ∃ k : Nat, k ≤ limV l m ∧ i = .int .i64 k ∧ wr.ownsRow w.heap.size 25 1 v ((List.range (k)).map fun k => turnB (limFirst l m) (limV l m) k (limV l m)).length (nums .u64 (il ((List.range (k)).map fun k => turnB (limFirst l m) (limV l m) k (limV l m)))) ∧ Blk wr w.heap.size 24 #[.slice A n c] ∧ Blk wr (w.heap.size + 1) 29 #[.int .i64 0, .slice none 0 0] ∧ Below w.heap.size w wr) (fun _ i _ => limV l m - (intOf i).toNat)
        case atStart => exact ⟨0, by omega, rfl, hown, hg2, hg4, hbc⟩
        case round =>
          obtain ⟨k, hk, rfl, hown', hg2, hg4, hbc⟩ := hrel
          by_cases hlt : k < limV l m
          · have hle : ((List.range (k)).map fun k => turnB (limFirst l m) (limV l m) k (limV l m)).length ≤ 100 := by simp; omega

            go_wp2_with (first
              | (go_at_call 19; refine (turned_any _ _ k hf64 hv0 hv16 (by omega) _).mono ?_; rintro e w' ⟨rfl, rfl⟩)
              | (at_builtin; refine print_append_num w.heap.size rfl (.tmp 70) (.tmp 75) _ _ .u64 8 rfl Tryd.underlying27 infoU (by decide) u9 (il ((List.range k).map fun k => turnB (limFirst l m) (limV l m) k (limV l m))) (_) (by simp [Act.eval]) (by simp [Act.eval]) (by rw [il_length]; exact hown') (hbc) ((hbc).size) (by rw [il_length]; omega) ?_; intro v1 w1 hown1 hb1 hg1 hat1))
            go_roundw
            case rel => exact ⟨k + 1, by omega, by go_num, own_range hown1 (rfl), hg2.grown hg1 (fun e => own_blk_ne hown' hg2 (by decide) e.symm), hg4.grown hg1 (fun e => own_blk_ne hown' hg4 (by decide) e.symm), hb1⟩
            case measure => simp [intOf]; omega
          · have : k = limV l m := by omega
            subst this
            go_wp2
            go_meet
            exact ⟨by rw [show limRaw l m = (List.range (limV l m)).map fun k => turnB (limFirst l m) (limV l m) k (limV l m) from by unfold limRaw; rw [HK2.out]; first | done | rfl]; exact hown', hg4, hbc⟩
      · rw [show ((1 : Nat) : Int) = (1 : Int) from rfl]
        go_wp2
        go_loopw [9, 11] (fun v i wr => ∃ k : Nat, k ≤ limV l m ∧ i = .int .i64 k ∧ wr.ownsRow w.heap.size 25 1 v ((List.range (k)).map fun k => turnB (limFirst l m) (limV l m) k (limV l m)).length (nums .u64 (il ((List.range (k)).map fun k => turnB (limFirst l m) (limV l m) k (limV l m)))) ∧ Blk wr w.heap.size 24 #[.slice A n c] ∧ Blk wr (w.heap.size + 1) 29 #[.int .i64 0, .slice none 0 0] ∧ Below w.heap.size w wr) (fun _ i _ => limV l m - (intOf i).toNat)
        case atStart => exact ⟨0, by omega, rfl, hown, hg2, hg4, hbc⟩
        case round =>
          obtain ⟨k, hk, rfl, hown', hg2, hg4, hbc⟩ := hrel
          by_cases hlt : k < limV l m
          · have hle : ((List.range (k)).map fun k => turnB (limFirst l m) (limV l m) k (limV l m)).length ≤ 100 := by simp; omega

            go_wp2_with (first
              | (go_at_call 19; refine (turned_any _ _ k hf64 hv0 hv16 (by omega) _).mono ?_; rintro e w' ⟨rfl, rfl⟩)
              | (at_builtin; refine print_append_num w.heap.size rfl (.tmp 70) (.tmp 75) _ _ .u64 8 rfl Tryd.underlying27 infoU (by decide) u9 (il ((List.range k).map fun k => turnB (limFirst l m) (limV l m) k (limV l m))) (_) (by simp [Act.eval]) (by simp [Act.eval]) (by rw [il_length]; exact hown') (hbc) ((hbc).size) (by rw [il_length]; omega) ?_; intro v1 w1 hown1 hb1 hg1 hat1))
            go_roundw
            case rel => exact ⟨k + 1, by omega, by go_num, own_range hown1 (rfl), hg2.grown hg1 (fun e => own_blk_ne hown' hg2 (by decide) e.symm), hg4.grown hg1 (fun e => own_blk_ne hown' hg4 (by decide) e.symm), hb1⟩
            case measure => simp [intOf]; omega
          · have : k = limV l m := by omega
            subst this
            go_wp2
            go_meet
            exact ⟨by rw [show limRaw l m = (List.range (limV l m)).map fun k => turnB (limFirst l m) (limV l m) k (limV l m) from by unfold limRaw; rw [HK2.out]; first | done | rfl]; exact hown', hg4, hbc⟩
      · rw [show ((2 : Nat) : Int) = (2 : Int) from rfl]
        go_wp2
        go_loopw [9, 12, 13] (fun v i _ wr => ∃ k : Nat, k ≤ limV l m ∧ i = .int .i64 k ∧ wr.ownsRow w.heap.size 25 1 v (prs (k)).length (nums .u64 (il (prs (k)))) ∧ Blk wr w.heap.size 24 #[.slice A n c] ∧ Blk wr (w.heap.size + 1) 29 #[.int .i64 0, .slice none 0 0] ∧ Below w.heap.size w wr) (fun _ i _ _ => limV l m - (intOf i).toNat)
        case atStart => exact ⟨0, by omega, rfl, hown, hg2, hg4, hbc⟩
        case round =>
          obtain ⟨k, hk, rfl, hown', hg2, hg4, hbc⟩ := hrel
          by_cases hlt : k < limV l m
          · obtain ⟨wo, rfl⟩ : ∃ wo : World, wo = wr := ⟨_, rfl⟩
            have hk6 : k ≤ 6 := by omega
            have hP2 : (prs (k)).length ≤ 100 := pairs_len k hk6
            have HP2 := hid hP2
            clear hP2
            go_wp2
            go_loopw [9, 13] (fun v i wr => ∃ q : Nat, q ≤ k ∧ i = .int .i64 q ∧ wr.ownsRow w.heap.size 25 1 v ((prs (k)) ++ (List.range (q)).map fun q => 2 ^ k ||| 2 ^ q).length (nums .u64 (il ((prs (k)) ++ (List.range (q)).map fun q => 2 ^ k ||| 2 ^ q))) ∧ Blk wr w.heap.size 24 #[.slice A n c] ∧ Blk wr (w.heap.size + 1) 29 #[.int .i64 0, .slice none 0 0] ∧ Below w.heap.size w wr) (fun _ i _ => k - (intOf i).toNat)
            case atStart => exact ⟨0, by omega, rfl, by simpa using hown', hg2, hg4, hbc⟩
            case round =>
              clear hg2 hg4 hbc hown'
              obtain ⟨q, hq, rfl, hown', hg2, hg4, hbc⟩ := hrel
              by_cases hlt2 : q < k
              · have HLE := hid (show ((prs (k)) ++ (List.range (q)).map fun q => 2 ^ k ||| 2 ^ q).length ≤ 200 from by have := HP2.out; rw [List.length_append, List.length_map, List.length_range]; omega)
                go_wp2_with (at_builtin; refine print_append_num w.heap.size rfl (.tmp 89) (.tmp 97) _ _ .u64 8 rfl Tryd.underlying27 infoU (by decide) u9 (il ((prs (k)) ++ (List.range (q)).map fun q => 2 ^ k ||| 2 ^ q)) (_) (by simp [Act.eval]) (by simp [Act.eval]) (by rw [il_length]; exact hown') (hbc) ((hbc).size) (by rw [il_length]; have := HLE.out; omega) ?_; intro v1 w1 hown1 hb1 hg1 hat1)
                go_roundw
                case rel => exact ⟨q + 1, by omega, by go_num, own_snoc hown1 (orp_form (by omega) (by omega)) (by rw [List.range_succ, List.map_append, ← List.append_assoc]; rfl), hg2.grown hg1 (fun e => own_blk_ne hown' hg2 (by decide) e.symm), hg4.grown hg1 (fun e => own_blk_ne hown' hg4 (by decide) e.symm), hb1⟩
                case measure => simp [intOf]; omega
              · have : q = k := by omega
                subst this
                go_wp2
                go_roundw
                case rel => exact ⟨q + 1, by omega, by go_num, by rw [prs_succ]; exact hown', hg2, hg4, hbc⟩
                case measure => simp [intOf]; omega
          · have : k = limV l m := by omega
            subst this
            go_wp2
            go_meet
            exact ⟨by rw [show limRaw l m = prs (limV l m) from by unfold limRaw; rw [HK2.out]; first | done | rfl]; exact hown', hg4, hbc⟩
      · rw [show ((3 : Nat) : Int) = (3 : Int) from rfl]
        go_wp2
        go_loopw [9, 14] (fun v i wr => ∃ k : Nat, k ≤ 7 ∧ i = .int .i64 k ∧ wr.ownsRow w.heap.size 25 1 v ((List.range (k)).map fun k => turnB 11 7 k 7 &&& limAll l m).length (nums .u64 (il ((List.range (k)).map fun k => turnB 11 7 k 7 &&& limAll l m))) ∧ Blk wr w.heap.size 24 #[.slice A n c] ∧ Blk wr (w.heap.size + 1) 29 #[.int .i64 0, .slice none 0 0] ∧ Below w.heap.size w wr) (fun _ i _ => 7 - (intOf i).toNat)
        case atStart => exact ⟨0, by omega, rfl, hown, hg2, hg4, hbc⟩
        case round =>
          obtain ⟨k, hk, rfl, hown', hg2, hg4, hbc⟩ := hrel
          by_cases hlt : k < 7
          · have hle : ((List.range (k)).map fun k => turnB 11 7 k 7 &&& limAll l m).length ≤ 100 := by simp; omega

            go_wp2_with (first
              | (go_at_call 19; refine (turned_any 11 7 k (by decide) (by decide) (by decide) (by omega) _).mono ?_; rintro e w' ⟨rfl, rfl⟩)
              | (at_builtin; refine print_append_num w.heap.size rfl (.tmp 105) (.tmp 110) _ _ .u64 8 rfl Tryd.underlying27 infoU (by decide) u9 (il ((List.range k).map fun k => turnB 11 7 k 7 &&& limAll l m)) (_) (by simp [Act.eval]) (by simp [Act.eval]) (by rw [il_length]; exact hown') (hbc) ((hbc).size) (by rw [il_length]; omega) ?_; intro v1 w1 hown1 hb1 hg1 hat1))
            go_roundw
            case rel => exact ⟨k + 1, by omega, by go_num, own_range hown1 (uand (by have := turnB_lt 11 7 k 7 (by decide) (by decide); omega) ha64), hg2.grown hg1 (fun e => own_blk_ne hown' hg2 (by decide) e.symm), hg4.grown hg1 (fun e => own_blk_ne hown' hg4 (by decide) e.symm), hb1⟩
            case measure => simp [intOf]; omega
          · have : k = 7 := by omega
            subst this
            go_wp2
            go_meet
            exact ⟨by rw [show limRaw l m = (List.range (7)).map fun k => turnB 11 7 k 7 &&& limAll l m from by unfold limRaw; rw [HK2.out]; first | done | rfl]; exact hown', hg4, hbc⟩
      · rw [show ((4 : Nat) : Int) = (4 : Int) from rfl]
        go_wp2
        go_loopw [9, 15] (fun v i wr => ∃ k : Nat, k ≤ limN l ∧ i = .int .i64 k ∧ wr.ownsRow w.heap.size 25 1 v ((List.range (k)).map fun k => limFirst l m >>> (l.getD (4 + k) 0 % 2)).length (nums .u64 (il ((List.range (k)).map fun k => limFirst l m >>> (l.getD (4 + k) 0 % 2)))) ∧ Blk wr w.heap.size 24 #[.slice A n c] ∧ Blk wr (w.heap.size + 1) 29 #[.int .i64 0, .slice none 0 0] ∧ Below w.heap.size w wr) (fun _ i _ => limN l - (intOf i).toNat)
        case atStart => exact ⟨0, by omega, rfl, hown, hg2, hg4, hbc⟩
        case round =>
          obtain ⟨k, hk, rfl, hown', hg2, hg4, hbc⟩ := hrel
          by_cases hlt : k < limN l
          · have hle : ((List.range (k)).map fun k => limFirst l m >>> (l.getD (4 + k) 0 % 2)).length ≤ 100 := by simp; omega
            have hx := at_lt hB.2.2 (4 + k)
            obtain ⟨x, HX⟩ : ∃ x, Hid (l.getD (4 + (k : Int)).toNat 0 = x) := ⟨_, rfl⟩
            have HX' := hid (show l.getD (4 + k) 0 = x from by have := HX.out; rwa [show (4 + (k : Int)).toNat = 4 + k from by omega] at this)
            rw [HX'.out] at hx
            have hc2 : wr.cell? ⟨w.heap.size, 0, none⟩ = some (.slice A n c) := hg2.cell 0
            go_wp2_with (first
              | (go_at_call 18; refine (AT (4 + (k : Int)) (by omega) _ hbc).mono ?_; rintro e w' ⟨rfl, rfl⟩; rw [HX.out])
              | (at_builtin; refine print_append_num w.heap.size rfl (.tmp 119) (.tmp 129) _ _ .u64 8 rfl Tryd.underlying27 infoU (by decide) u9 (il ((List.range k).map fun k => limFirst l m >>> (l.getD (4 + k) 0 % 2))) (_) (by simp [Act.eval]) (by simp [Act.eval]) (by rw [il_length]; exact hown') (hbc) ((hbc).size) (by rw [il_length]; omega) ?_; intro v1 w1 hown1 hb1 hg1 hat1))
            go_roundw
            case rel => exact ⟨k + 1, by omega, by go_num, own_range hown1 (by rw [HX'.out]; exact shr_form2), hg2.grown hg1 (fun e => own_blk_ne hown' hg2 (by decide) e.symm), hg4.grown hg1 (fun e => own_blk_ne hown' hg4 (by decide) e.symm), hb1⟩
            case measure => simp [intOf]; omega
          · have : k = limN l := by omega
            subst this
            go_wp2
            go_meet
            exact ⟨by rw [show limRaw l m = (List.range (limN l)).map fun k => limFirst l m >>> (l.getD (4 + k) 0 % 2) from by unfold limRaw; rw [HK2.out]; first | done | rfl]; exact hown', hg4, hbc⟩
      · rw [show ((5 : Nat) : Int) = (5 : Int) from rfl]
        go_wp2
        go_loopw [9, 16] (fun v i wr => ∃ k : Nat, k ≤ limN l ∧ i = .int .i64 k ∧ wr.ownsRow w.heap.size 25 1 v (((List.range (k)).map fun k => l.getD (4 + k) 0 &&& limAll l m).filter fun b => cnt b 64 == 3).length (nums .u64 (il (((List.range (k)).map fun k => l.getD (4 + k) 0 &&& limAll l m).filter fun b => cnt b 64 == 3))) ∧ Blk wr w.heap.size 24 #[.slice A n c] ∧ Blk wr (w.heap.size + 1) 29 #[.int .i64 0, .slice none 0 0] ∧ Below w.heap.size w wr) (fun _ i _ => limN l - (intOf i).toNat)
        case atStart => exact ⟨0, by omega, rfl, hown, hg2, hg4, hbc⟩
        case round =>
          obtain ⟨k, hk, rfl, hown', hg2, hg4, hbc⟩ := hrel
          by_cases hlt : k < limN l
          · have hle : (((List.range (k)).map fun k => l.getD (4 + k) 0 &&& limAll l m).filter fun b => cnt b 64 == 3).length ≤ 100 := by have := List.length_filter_le (fun b => cnt b 64 == 3) ((List.range k).map fun k => l.getD (4 + k) 0 &&& limAll l m); simp at this ⊢; omega
            have hx := at_lt hB.2.2 (4 + k)
            obtain ⟨x, HX⟩ : ∃ x, Hid (l.getD (4 + (k : Int)).toNat 0 = x) := ⟨_, rfl⟩
            have HX' := hid (show l.getD (4 + k) 0 = x from by have := HX.out; rwa [show (4 + (k : Int)).toNat = 4 + k from by omega] at this)
            rw [HX'.out] at hx
            have hc2 : wr.cell? ⟨w.heap.size, 0, none⟩ = some (.slice A n c) := hg2.cell 0
            have hxa : x &&& limAll l m < 2 ^ 64 := Nat.lt_of_le_of_lt Nat.and_le_right ha64
            have HF := hid (show ((List.range (k + 1)).map fun k => l.getD (4 + k) 0 &&& limAll l m) = ((List.range k).map fun k => l.getD (4 + k) 0 &&& limAll l m) ++ [x &&& limAll l m] from by rw [List.range_succ]; simp only [List.map_append, List.map_cons, List.map_nil, HX'.out])
            have HA := hid (uand (a := x) (b := limAll l m) (by omega) ha64)
            cases h3 : cnt (x &&& limAll l m) 64 == 3
            all_goals
              have H3 := hid h3
              have h3' : (((cnt (x &&& limAll l m) 64 : Nat) : Int) == 3) = _ := (cast_eq3 _).trans h3
              clear h3
              go_wp2_with (first
                | (go_at_call 18; refine (AT (4 + (k : Int)) (by omega) _ hbc).mono ?_; rintro e w' ⟨rfl, rfl⟩; rw [HX.out])
                | (go_at_call 20; rw [HA.out]; refine (size_any _ hxa _).mono ?_; rintro e w' ⟨rfl, rfl⟩)
                | (at_builtin; refine print_append_num w.heap.size rfl (.tmp 149) (.tmp 151) _ _ .u64 8 rfl Tryd.underlying27 infoU (by decide) u9 (il (((List.range (k)).map fun k => l.getD (4 + k) 0 &&& limAll l m).filter fun b => cnt b 64 == 3)) (_) (by simp [Act.eval]) (by simp [Act.eval]) (by rw [il_length]; exact hown') (hbc) ((hbc).size) (by rw [il_length]; omega) ?_; intro v1 w1 hown1 hb1 hg1 hat1))
              go_roundw
              case measure => simp [intOf]; omega
              case rel => first | exact ⟨k + 1, by omega, by go_num, by rw [HF.out, List.filter_append]; simpa [H3.out] using hown', hg2, hg4, hbc⟩ | exact ⟨k + 1, by omega, by go_num, own_snoc (x := x &&& limAll l m) hown1 (by first | rfl | exact HA.out) (by rw [HF.out, List.filter_append]; simp [H3.out]), hg2.grown hg1 (fun e => own_blk_ne hown' hg2 (by decide) e.symm), hg4.grown hg1 (fun e => own_blk_ne hown' hg4 (by decide) e.symm), hb1⟩
          · have : k = limN l := by omega
            subst this
            go_wp2
            go_meet
            exact ⟨by rw [show limRaw l m = ((List.range (limN l)).map fun k => l.getD (4 + k) 0 &&& limAll l m).filter fun b => cnt b 64 == 3 from by unfold limRaw; rw [HK2.out]; first | done | rfl]; exact hown', hg4, hbc⟩
      · rw [show ((6 : Nat) : Int) = (6 : Int) from rfl]
        go_wp2
        go_loopw [9, 18] (fun v i wr => ∃ k : Nat, k ≤ limN l ∧ i = .int .i64 k ∧ wr.ownsRow w.heap.size 25 1 v ((List.range (k)).map fun k => l.getD (4 + k) 0 &&& limAll l m).length (nums .u64 (il ((List.range (k)).map fun k => l.getD (4 + k) 0 &&& limAll l m))) ∧ Blk wr w.heap.size 24 #[.slice A n c] ∧ Blk wr (w.heap.size + 1) 29 #[.int .i64 0, .slice none 0 0] ∧ Below w.heap.size w wr) (fun _ i _ => limN l - (intOf i).toNat)
        case atStart => exact ⟨0, by omega, rfl, hown, hg2, hg4, hbc⟩
        case round =>
          obtain ⟨k, hk, rfl, hown', hg2, hg4, hbc⟩ := hrel
          by_cases hlt : k < limN l
          · have hle : ((List.range (k)).map fun k => l.getD (4 + k) 0 &&& limAll l m).length ≤ 100 := by simp; omega
            have hx := at_lt hB.2.2 (4 + k)
            obtain ⟨x, HX⟩ : ∃ x, Hid (l.getD (4 + (k : Int)).toNat 0 = x) := ⟨_, rfl⟩
            have HX' := hid (show l.getD (4 + k) 0 = x from by have := HX.out; rwa [show (4 + (k : Int)).toNat = 4 + k from by omega] at this)
            rw [HX'.out] at hx
            have hc2 : wr.cell? ⟨w.heap.size, 0, none⟩ = some (.slice A n c) := hg2.cell 0
            go_wp2_with (first
              | (go_at_call 18; refine (AT (4 + (k : Int)) (by omega) _ hbc).mono ?_; rintro e w' ⟨rfl, rfl⟩; rw [HX.out])
              | (at_builtin; refine print_append_num w.heap.size rfl (.tmp 51) (.tmp 60) _ _ .u64 8 rfl Tryd.underlying27 infoU (by decide) u9 (il ((List.range k).map fun k => l.getD (4 + k) 0 &&& limAll l m)) (_) (by simp [Act.eval]) (by simp [Act.eval]) (by rw [il_length]; exact hown') (hbc) ((hbc).size) (by rw [il_length]; omega) ?_; intro v1 w1 hown1 hb1 hg1 hat1))
            go_roundw
            case rel => exact ⟨k + 1, by omega, by go_num, own_range hown1 (by rw [HX'.out]; exact uand (by omega) ha64), hg2.grown hg1 (fun e => own_blk_ne hown' hg2 (by decide) e.symm), hg4.grown hg1 (fun e => own_blk_ne hown' hg4 (by decide) e.symm), hb1⟩
            case measure => simp [intOf]; omega
          · have : k = limN l := by omega
            subst this
            go_wp2
            go_meet
            exact ⟨by rw [show limRaw l m = (List.range (limN l)).map fun k => l.getD (4 + k) 0 &&& limAll l m from by unfold limRaw; rw [HK2.out]; first | done | rfl]; exact hown', hg4, hbc⟩
      · rw [show ((7 : Nat) : Int) = (7 : Int) from rfl]
        go_wp2
        go_loopw [9, 18] (fun v i wr => ∃ k : Nat, k ≤ limN l ∧ i = .int .i64 k ∧ wr.ownsRow w.heap.size 25 1 v ((List.range (k)).map fun k => l.getD (4 + k) 0 &&& limAll l m).length (nums .u64 (il ((List.range (k)).map fun k => l.getD (4 + k) 0 &&& limAll l m))) ∧ Blk wr w.heap.size 24 #[.slice A n c] ∧ Blk wr (w.heap.size + 1) 29 #[.int .i64 0, .slice none 0 0] ∧ Below w.heap.size w wr) (fun _ i _ => limN l - (intOf i).toNat)
        case atStart => exact ⟨0, by omega, rfl, hown, hg2, hg4, hbc⟩
        case round =>
          obtain ⟨k, hk, rfl, hown', hg2, hg4, hbc⟩ := hrel
          by_cases hlt : k < limN l
          · have hle : ((List.range (k)).map fun k => l.getD (4 + k) 0 &&& limAll l m).length ≤ 100 := by simp; omega
            have hx := at_lt hB.2.2 (4 + k)
            obtain ⟨x, HX⟩ : ∃ x, Hid (l.getD (4 + (k : Int)).toNat 0 = x) := ⟨_, rfl⟩
            have HX' := hid (show l.getD (4 + k) 0 = x from by have := HX.out; rwa [show (4 + (k : Int)).toNat = 4 + k from by omega] at this)
            rw [HX'.out] at hx
            have hc2 : wr.cell? ⟨w.heap.size, 0, none⟩ = some (.slice A n c) := hg2.cell 0
            go_wp2_with (first
              | (go_at_call 18; refine (AT (4 + (k : Int)) (by omega) _ hbc).mono ?_; rintro e w' ⟨rfl, rfl⟩; rw [HX.out])
              | (at_builtin; refine print_append_num w.heap.size rfl (.tmp 51) (.tmp 60) _ _ .u64 8 rfl Tryd.underlying27 infoU (by decide) u9 (il ((List.range k).map fun k => l.getD (4 + k) 0 &&& limAll l m)) (_) (by simp [Act.eval]) (by simp [Act.eval]) (by rw [il_length]; exact hown') (hbc) ((hbc).size) (by rw [il_length]; omega) ?_; intro v1 w1 hown1 hb1 hg1 hat1))
            go_roundw
            case rel => exact ⟨k + 1, by omega, by go_num, own_range hown1 (by rw [HX'.out]; exact uand (by omega) ha64), hg2.grown hg1 (fun e => own_blk_ne hown' hg2 (by decide) e.symm), hg4.grown hg1 (fun e => own_blk_ne hown' hg4 (by decide) e.symm), hb1⟩
            case measure => simp [intOf]; omega
          · have : k = limN l := by omega
            subst this
            go_wp2
            go_meet
            exact ⟨by rw [show limRaw l m = (List.range (limN l)).map fun k => l.getD (4 + k) 0 &&& limAll l m from by unfold limRaw; rw [HK2.out]; first | done | rfl]; exact hown', hg4, hbc⟩
    case rest =>
      clear hg2 hg4 hown hbc
      obtain ⟨hown, hg4, hbc⟩ := hcut
      have hlt64 : ∀ b ∈ limRaw l m, b < 2 ^ 64 := fun b hb => Nat.lt_of_lt_of_le (limRaw_lt hm1 hm7 b hb) (Nat.pow_le_pow_right (by omega) (by omega))
      obtain ⟨A1, c1, rfl, hc1, hm1', hB1⟩ := own_BlC hown hlt64
      have HLen := hid (limRaw_len (l := l) hm1 hm7)
      have hg5 := hg4.lt
      have HO := hid hown
      have HL64 := hid hlt64
      clear hown hlt64
      obtain ⟨N, HN⟩ : ∃ N, Hid ((limRaw l m).length = N) := ⟨_, rfl⟩
      rw [HN.out] at hB1 hc1 ⊢
      have SO := fun (k : Nat) (hk : k ≤ N) => hid (sorted_any A1 k c1 _ wc (NlC.take hB1 hk) (by have := HLen.out; rw [HN.out] at this; omega))
      have FIN : ∀ (k : Nat) (v : Value) (w' : World), (k = 10 ∨ k = N ∧ N ≤ 10) → k ≤ N → w'.ownsRow wc.heap.size 25 1 v k (nums .u64 (il (sortedL ((limRaw l m).take k)))) → Below wc.heap.size wc w' →
          Hid (((w'.setCell ⟨w.heap.size + 1, 0, none⟩ (.int .i64 (limV l m))).setCell ⟨w.heap.size + 1, 1, none⟩ v).ownsRow w.heap.size 25 1 v (limB l m).length (nums .u64 (il (limB l m))) ∧ Below w.heap.size w ((w'.setCell ⟨w.heap.size + 1, 0, none⟩ (.int .i64 (limV l m))).setCell ⟨w.heap.size + 1, 1, none⟩ v)) := by
        intro k v w' hk0 hkN ho hb
        have hk := hid (show (limRaw l m).take k = (limRaw l m).take 10 from by
          rcases hk0 with rfl | ⟨rfl, h10⟩
          · rfl
          · rw [List.take_of_length_le (by rw [HN.out]; omega), List.take_of_length_le (by rw [HN.out]; omega)])
        have hne : some (w.heap.size + 1) ≠ v.ownBlock := fun e => by have := own_base ho _ e.symm; omega
        have hl : k = (limB l m).length := by
          unfold limB; rw [sortedL_length, ← hk.out, List.length_take, HN.out]; omega
        refine ⟨?_, ((below_then hbc hbc.size hb).setCell (p := ⟨w.heap.size + 1, 0, none⟩) (by simp) _).setCell (p := ⟨w.heap.size + 1, 1, none⟩) (by simp) _⟩
        have h2 := own_setCell (own_setCell ho (p := ⟨w.heap.size + 1, 0, none⟩) hne (.int .i64 (limV l m))) (p := ⟨w.heap.size + 1, 1, none⟩) hne v
        rw [← hl]
        unfold limB
        rw [← hk.out]
        exact own_weaken h2 hbc.size
      have hgN : N ≤ 100 := by have := HLen.out; rwa [HN.out] at this
      rcases Nat.lt_or_ge 10 N with h10 | h10
      · have hu31 := Tryd.underlying29
        go_wp2_with (go_at_call 21; ((with_reducible refine (SO 10 (Nat.le_of_lt h10)).out.mono ?_); rintro e w' ⟨v, rfl, hown1, hb1⟩; obtain ⟨A3, c3, rfl⟩ := own_slice hown1; have hq := hg4.below hb1 hg5; have hq0 : w'.cell? ⟨w.heap.size + 1, 0, none⟩ = some (.int .i64 0) := hq.cell 0; have hq1 : w'.cell? ⟨w.heap.size + 1, 1, none⟩ = some (.slice none 0 0) := hq.cell 1; have hf0 := hq.frozen 0; have hf1 := hq.frozen 1; have hsz := hb1.size; have HF := FIN 10 _ w' (by omega) (Nat.le_of_lt h10) hown1 hb1; clear hown1 hb1 hq))
        refine bodyPost_ret (v := .agg #[.int .i64 (limV l m), .slice A3 10 c3]) (by simp [results, Tryd.results5, go_sem, hq0, hq1, hf0, hf1]) rfl ⟨_, rfl, HF.out⟩
      · have hu31 := Tryd.underlying29
        go_wp2_with (go_at_call 21; ((with_reducible refine (SO N (Nat.le_refl _)).out.mono ?_); rintro e w' ⟨v, rfl, hown1, hb1⟩; obtain ⟨A3, c3, rfl⟩ := own_slice hown1; have hq := hg4.below hb1 hg5; have hq0 : w'.cell? ⟨w.heap.size + 1, 0, none⟩ = some (.int .i64 0) := hq.cell 0; have hq1 : w'.cell? ⟨w.heap.size + 1, 1, none⟩ = some (.slice none 0 0) := hq.cell 1; have hf0 := hq.frozen 0; have hf1 := hq.frozen 1; have hsz := hb1.size; have HF := FIN N _ w' (by omega) (Nat.le_refl _) hown1 hb1; clear hown1 hb1 hq))
        refine bodyPost_ret (v := .agg #[.int .i64 (limV l m), .slice A3 N c3]) (by simp [results, Tryd.results5, go_sem, hq0, hq1, hf0, hf1]) rfl ⟨_, rfl, HF.out⟩
end Go.Proofs.YtheclfjbedajfaaDoor


namespace Go.Proofs.YtheclfjbedajfaaDoor
set_option linter.unusedSimpArgs false
set_option linter.unusedVariables false
open Go.RowKit Go.Lib Go.Proofs.YtheclfjbedajfaaDoorW.PrintWords

/-- All numbers are ints. -/
def okI (l : List Int) : Bool := l.all fun x => (Lit.int .i64 x).wf
theorem okI_iff {l : List Int} : okI l = true ↔ ∀ x ∈ l, (Lit.int .i64 x).wf = true := by simp [okI]
def bestF (V U : Int) (bs cs ds : List Int) : List Int × List Int × Int :=
  if 5 < V ∨ 7 < U then ([], [], 2) else if diffB ds bs.length = false then ([], [], 1) else if U < V then ([], [], 4) else
    (il (foldB (nl bs) (nl cs) (nl ds) (lsL U.toNat V.toNat [])).1.1, (foldB (nl bs) (nl cs) (nl ds) (lsL U.toNat V.toNat [])).1.2, 0)
def ofF (V U : Int) (bs cs fs ds : List Int) : List Int × List Int × Int :=
  if (fs.length : Int) = V ∧ diffB fs U = true ∧ diffB ds bs.length = true then (fs, embM (nl bs) (nl cs) (nl ds) (nl fs), 0) else ([], [], 1)
theorem nodup_len : ∀ {l m : List Nat}, l.Nodup → l ⊆ m → l.length ≤ m.length
  | [], _, _, _ => Nat.zero_le _
  | x :: l, m, hn, hs => by
    obtain ⟨h1, h2⟩ := List.nodup_cons.1 hn
    have hx : x ∈ m := hs (by simp)
    have := nodup_len (m := m.erase x) h2 (fun y hy => (List.mem_erase_of_ne (fun e => h1 (by rw [← e]; exact hy))).2 (hs (by simp [hy])))
    rw [List.length_erase_of_mem hx] at this
    have := List.length_pos_of_mem hx
    simp only [List.length_cons]
    omega
theorem diff_nl {l : List Int} {n : Int} (h : diffB l n = true) : il (nl l) = l ∧ (∀ q ∈ nl l, (q : Int) < n) ∧ (nl l).Nodup ∧ (l.length : Int) ≤ max n 0 := by
  obtain ⟨h1, h2⟩ := diffB_iff.1 h
  have e := il_nl (fun b hb => (h1 b hb).1)
  have hn : (nl l).Nodup := by
    rw [← e, il, List.Nodup, List.pairwise_map] at h2
    exact h2.imp (fun h he => h (by omega))
  refine ⟨e, fun q hq => ?_, hn, ?_⟩
  · obtain ⟨x, hx, rfl⟩ := List.mem_map.1 hq
    have := h1 x hx
    omega
  · have hsub : (nl l).Subset (List.range n.toNat) := fun q hq => by
      obtain ⟨x, hx, rfl⟩ := List.mem_map.1 hq
      have := h1 x hx
      rw [List.mem_range]; omega
    have := nodup_len hn hsub
    rw [nl_length, List.length_range] at this
    omega
theorem R_ownP {kd : IntKind} {T n base : Nat} {w : World} {v : Value} {xs : List Int} {Q : Nat → Prop} (h : w.ownsRow base T 1 v n (nums kd xs)) (hQ : ∀ k, v.ownBlock = some k → Q k) : (Kd.int kd).R T w base Q v xs := by
  have hl : n = xs.length := by have := h.1; simpa [nums] using this.symm
  subst hl
  exact Kd.R_of_own (enc := Value.int kd) (by simpa [encs, nums] using h) hQ
theorem R_pair {T n1 n2 base : Nat} {w : World} {v1 v2 : Value} {xs1 xs2 : List Int} (h1 : w.ownsRow base T 1 v1 n1 (nums .i64 xs1)) (h2 : w.ownsRow base T 1 v2 n2 (nums .i64 xs2)) (hnd : ND v1 v2) :
    (Kd.int .i64).R T w base (fun k => some k ≠ v2.ownBlock) v1 xs1 ∧ (Kd.int .i64).R T w base (fun k => some k ≠ v1.ownBlock) v2 xs2 := by
  refine ⟨R_ownP h1 fun k hk e => ?_, R_ownP h2 fun k hk e => ?_⟩
  · rcases hnd with h | h
    · rw [h] at hk; cases hk
    · exact h (by rw [hk, e])
  · rcases hnd with h | h
    · rw [h] at e; cases e
    · exact h (by rw [← e, hk])
theorem nil_pair {base : Nat} {w : World} : (Kd.int .i64).R 3 w base (fun k => some k ≠ (Value.slice none 0 0).ownBlock) (.slice none 0 0) [] ∧ (Kd.int .i64).R 3 w base (fun k => some k ≠ (Value.slice none 0 0).ownBlock) (.slice none 0 0) [] :=
  R_pair (World.ownsRow_nil _ _ _ _) (World.ownsRow_nil _ _ _ _) (.inl rfl)
theorem own_dn {T n base : Nat} {w : World} {v : Value} {l : List Int} (h : il (nl l) = l) (ho : w.ownsRow base T 1 v n (nums .i64 (il (nl l)))) : w.ownsRow base T 1 v n (nums .i64 l) := by rwa [h] at ho
end Go.Proofs.YtheclfjbedajfaaDoor


namespace Go.Proofs.YtheclfjbedajfaaDoor
set_option linter.unusedSimpArgs false
set_option linter.unusedVariables false
open Go.RowKit Go.Lib Go.Proofs.YtheclfjbedajfaaDoorW.PrintWords

theorem idx_ne {c S : Nat} {r : List Nat} (h : c ≠ S) : (c :: r).idxOf S = r.idxOf S + 1 := by
  have : (c == S) = false := by simpa using h
  simp [List.idxOf_cons, this]
theorem idxOf_getElem_nodup {os : List Nat} (hn : os.Nodup) {k : Nat} (hk : k < os.length) : os.idxOf (os[k]) = k := by
  induction os generalizing k with
  | nil => simp at hk
  | cons x r ih =>
    obtain ⟨h1, h2⟩ := List.nodup_cons.1 hn
    cases k with
    | zero => simp
    | succ k =>
      have hk' : k < r.length := by simpa using hk
      have hne : x ≠ r[k] := fun e => h1 (e ▸ List.getElem_mem hk')
      rw [List.getElem_cons_succ, idx_ne hne, ih h2 hk']
theorem getD_idxOf {os : List Nat} {i : Nat} (hi : i ∈ os) : os.getD (os.idxOf i) 0 = i := by
  have := List.idxOf_lt_length_of_mem hi
  rw [List.getD_eq_getElem?_getD, List.getElem?_eq_getElem this]
  exact List.getElem_idxOf this
theorem alongK_get {n : Nat} {mv : Nat → Nat} {cs os : List Nat} (hn : os.Nodup) (hos : ∀ i ∈ os, i < n) : ∀ k ≤ os.length, ∀ i < n, (alongK n mv cs os k)[i]? = some (if i ∈ os.take k then alongAt mv cs os (os.idxOf i) else 0) := by
  intro k
  induction k with
  | zero => intro _ i hi; simp [alongK, hi]
  | succ k ih =>
    intro hk i hi
    have hkl : k < os.length := by omega
    have hgk : os.getD k 0 = os[k] := by rw [List.getD_eq_getElem?_getD, List.getElem?_eq_getElem hkl]; rfl
    have htk : os.take (k + 1) = os.take k ++ [os[k]] := by rw [List.take_succ_eq_append_getElem hkl]
    rw [alongK, List.getElem?_set, hgk, alongK_length]
    by_cases he : os[k] = i
    · subst he
      rw [if_pos rfl, if_pos hi, htk, if_pos (List.mem_append_right _ (List.mem_singleton_self _)), idxOf_getElem_nodup hn hkl]
    · rw [if_neg he, ih (by omega) i hi, htk]
      simp only [List.mem_append, List.mem_singleton]
      have : ¬ i = os[k] := fun e => he e.symm
      simp [this]
theorem queueN_nodup {n : Nat} {ds : List Nat} (h2 : ds.Nodup) : (queueN n ds).Nodup := by
  rw [queueN, List.nodup_append]
  refine ⟨(sortedL_permE ds).nodup_iff.2 h2, List.nodup_range.sublist List.filter_sublist, ?_⟩
  intro a ha b hb e
  subst e
  have h := (List.mem_filter.1 hb).2
  have := (sortedL_permE ds).mem_iff.1 ha
  simp at h
  exact h this
theorem queueN_mem {n : Nat} {ds : List Nat} {i : Nat} (hi : i < n) : i ∈ queueN n ds := by
  rw [queueN, List.mem_append]
  by_cases h : i ∈ ds
  · exact .inl ((sortedL_permE ds).mem_iff.2 h)
  · exact .inr (List.mem_filter.2 ⟨List.mem_range.2 hi, by simpa using h⟩)
/-- Where block i goes. -/
def goN (bs cs ds fs : List Nat) (i : Nat) : Int := alongAt (fun i => movedN (bs.getD i 0) fs) cs (queueN bs.length ds) ((queueN bs.length ds).idxOf i)
theorem embM_len (bs cs ds fs : List Nat) : (embM bs cs ds fs).length = bs.length := by rw [embM, alongM, alongK_length]
theorem embM_get {bs cs ds fs : List Nat} (h1 : ∀ i ∈ ds, i < bs.length) (h2 : ds.Nodup) {i : Nat} (hi : i < bs.length) : rd (embM bs cs ds fs) i = goN bs cs ds fs i := by
  have := alongK_get (n := bs.length) (mv := fun i => movedN (bs.getD i 0) fs) (cs := cs) (queueN_nodup (n := bs.length) h2) (queueN_lt h1) _ (Nat.le_refl _) i hi
  unfold rd
  rw [List.getD_eq_getElem?_getD, Int.toNat_natCast, embM, alongM, this, List.take_length, if_pos (queueN_mem hi)]
  rfl
theorem alongAt_of {mv : Nat → Nat} {cs os : List Nat} {i : Nat} (hi : i ∈ os) : alongAt mv cs os (os.idxOf i) = if ((os.take (os.idxOf i)).map mv).count (mv i) < cs.count (mv i) then ((cs.idxOf (mv i) + ((os.take (os.idxOf i)).map mv).count (mv i) : Nat) : Int) else -1 := by
  rw [alongAt, getD_idxOf hi]
theorem count_lt {mv : Nat → Nat} {os : List Nat} (hn : os.Nodup) {i j : Nat} (hi : i ∈ os) (hij : os.idxOf i < os.idxOf j) (he : mv i = mv j) : ((os.take (os.idxOf i)).map mv).count (mv i) < ((os.take (os.idxOf j)).map mv).count (mv j) := by
  have hil := List.idxOf_lt_length_of_mem hi
  obtain ⟨d, hd⟩ : ∃ d, os.idxOf j = os.idxOf i + 1 + d := ⟨os.idxOf j - (os.idxOf i + 1), by omega⟩
  rw [hd, List.take_add, List.map_append, List.count_append, List.take_succ_eq_append_getElem hil, List.map_append, List.count_append, ← he]
  have : os[os.idxOf i] = i := List.getElem_idxOf hil
  rw [this]
  simp
  omega
theorem lsL_ne {n : Nat} : ∀ {l : Nat} {f : List Nat}, (∀ q ∈ f, q < n) → f.Nodup → f.length + l ≤ n → lsL n l f ≠ []
  | 0, f, _, _, _ => by rw [lsL]; simp
  | l + 1, f, hf, hd, hl => by
    obtain ⟨p, hp, hpf⟩ : ∃ p, p < n ∧ p ∉ f := by
      apply Classical.byContradiction
      intro h
      have hsub : List.range n ⊆ f := fun p hp => by
        apply Classical.byContradiction
        intro hpf
        exact h ⟨p, List.mem_range.1 hp, hpf⟩
      have := nodup_len List.nodup_range hsub
      rw [List.length_range] at this
      omega
    have := lsL_ne (l := l) (f := f ++ [p]) (n := n) (by intro q hq; rcases List.mem_append.1 hq with hq | hq; exact hf q hq; rw [List.mem_singleton] at hq; omega) (List.nodup_append.2 ⟨hd, by simp, fun a ha b hb e => by rw [List.mem_singleton] at hb; subst hb; subst e; exact hpf ha⟩) (by rw [List.length_append]; simp; omega)
    intro h
    rw [lsL, List.flatMap_eq_nil_iff] at h
    have := h p (List.mem_range.2 hp)
    rw [if_neg hpf] at this
    contradiction
/-- A fold's answer: one of its lists, the first that keeps most. -/
def BestP (bs cs ds : List Nat) (fs : List (List Nat)) : Prop := ∃ f ∈ fs, foldB bs cs ds fs = ((f, embM bs cs ds f), (keptN bs cs ds f : Int)) ∧ ∀ g ∈ fs, keptN bs cs ds g ≤ keptN bs cs ds f
theorem BestP.snoc {bs cs ds : List Nat} {pre : List (List Nat)} (h : BestP bs cs ds pre) (x : List Nat) : BestP bs cs ds (pre ++ [x]) := by
  obtain ⟨f, hf, he, hg⟩ := h
  rw [BestP, foldB_snoc, he, stepB]
  split
  · rename_i h
    refine ⟨x, by simp, rfl, fun g hg' => ?_⟩
    rcases List.mem_append.1 hg' with h' | h'
    · have := hg g h'; simp at h; omega
    · rw [List.mem_singleton] at h'; subst h'; exact Nat.le_refl _
  · rename_i h
    refine ⟨f, by simp [hf], rfl, fun g hg' => ?_⟩
    rcases List.mem_append.1 hg' with h' | h'
    · exact hg g h'
    · rw [List.mem_singleton] at h'; subst h'; simp at h; omega
theorem BestP.app {bs cs ds : List Nat} : ∀ (r pre : List (List Nat)), BestP bs cs ds pre → BestP bs cs ds (pre ++ r)
  | [], pre, h => by rwa [List.append_nil]
  | x :: r, pre, h => by
    have := BestP.app r (pre ++ [x]) (h.snoc x)
    rwa [List.append_assoc] at this
theorem foldB_mem (bs cs ds : List Nat) : ∀ (fs : List (List Nat)), fs ≠ [] → BestP bs cs ds fs
  | [], h => absurd rfl h
  | x :: r, _ => by
    refine BestP.app r [x] ⟨x, by simp, ?_, by simp⟩
    show stepB bs cs ds (([], []), -1) x = _
    rw [stepB, if_pos (by show (-1 : Int) < _; omega)]
end Go.Proofs.YtheclfjbedajfaaDoor


namespace Go.Proofs.YtheclfjbedajfaaDoor
set_option linter.unusedSimpArgs false
set_option linter.unusedVariables false
open Go.RowKit Go.Lib Go.Proofs.YtheclfjbedajfaaDoorW.PrintWords

/-- How many blocks ahead of block i have its image. -/
def rankN (A D f : List Nat) (i : Nat) : Nat := (((queueN A.length D).take ((queueN A.length D).idxOf i)).map (fun i => movedN (A.getD i 0) f)).count (movedN (A.getD i 0) f)
def keepsN (A C D f : List Nat) (i : Nat) : Bool := decide (rankN A D f i < C.count (movedN (A.getD i 0) f))
theorem keptN_eq {A C D f : List Nat} (hD : ∀ i ∈ D, i < A.length) (hDn : D.Nodup) : keptN A C D f = D.countP (keepsN A C D f) := by
  rw [keptN, keptL, il, List.filter_map, List.length_map, ← List.countP_eq_length_filter]
  refine List.countP_congr fun i hi => ?_
  have hiA := hD i hi
  have hr : rd (embM A C D f) (i : Int) = goN A C D f i := embM_get hD hDn hiA
  have hl := embM_len A C D f
  rw [goN, alongAt_of (queueN_mem hiA)] at hr
  simp only [Function.comp_apply, keepB, keepsN, rankN, Bool.and_eq_true, decide_eq_true_eq]
  rw [hr, hl]
  split
  · rename_i h
    exact ⟨fun _ => by simpa using h, fun _ => ⟨⟨by omega, by omega⟩, by omega⟩⟩
  · rename_i h
    exact ⟨fun h' => absurd h'.2 (by decide), fun h' => absurd (by simpa using h') h⟩
theorem countP_one {D : List Nat} {q : Nat → Bool} (hn : D.Nodup) (h : ∀ i ∈ D, ∀ j ∈ D, q i = true → q j = true → i = j) : D.countP q ≤ 1 := by
  induction D with
  | nil => simp
  | cons a r ih =>
    obtain ⟨h1, h2⟩ := List.nodup_cons.1 hn
    rw [List.countP_cons]
    by_cases ha : q a = true
    · have : r.countP q = 0 := List.countP_eq_zero.2 fun b hb hq => by
        have := h a (by simp) b (by simp [hb]) ha hq
        subst this
        exact h1 hb
      rw [this, if_pos ha]
      omega
    · have := ih h2 (fun i hi j hj => h i (by simp [hi]) j (by simp [hj]))
      rw [if_neg ha]
      omega
theorem countP_or {D : List Nat} {p p' q : Nat → Bool} (h : ∀ i ∈ D, p' i = true → p i = true ∨ q i = true) : D.countP p' ≤ D.countP p + D.countP q := by
  induction D with
  | nil => simp
  | cons a r ih =>
    have := ih (fun i hi => h i (by simp [hi]))
    have ha := h a (by simp)
    rw [List.countP_cons, List.countP_cons, List.countP_cons]
    by_cases h1 : p' a = true
    · rcases ha h1 with h2 | h2
      · rw [if_pos h1, if_pos h2]; split <;> omega
      · rw [if_pos h1, if_pos h2]; split <;> omega
    · rw [if_neg h1]; split <;> split <;> omega
theorem withL_count (C : List Nat) (x S : Nat) : (withL C x).count S = C.count S + (if x = S then 1 else 0) := by
  rw [(withL_permE C x).count_eq, List.count_cons]
  by_cases h : x = S <;> simp [h]
theorem rankN_inj {A D f : List Nat} (hD : ∀ i ∈ D, i < A.length) (hDn : D.Nodup) {i j : Nat} (hi : i ∈ D) (hj : j ∈ D) (hm : movedN (A.getD i 0) f = movedN (A.getD j 0) f) (hr : rankN A D f i = rankN A D f j) : i = j := by
  have hqi := queueN_mem (ds := D) (hD i hi)
  have hqj := queueN_mem (ds := D) (hD j hj)
  have hn := queueN_nodup (n := A.length) hDn
  rcases Nat.lt_trichotomy ((queueN A.length D).idxOf i) ((queueN A.length D).idxOf j) with h | h | h
  · have := count_lt (mv := fun i => movedN (A.getD i 0) f) hn hqi h hm
    unfold rankN at hr
    omega
  · rw [← getD_idxOf hqi, ← getD_idxOf hqj, h]
  · have := count_lt (mv := fun i => movedN (A.getD i 0) f) hn hqj h hm.symm
    unfold rankN at hr
    omega
theorem kept_more {A C D f : List Nat} (x : Nat) (hD : ∀ i ∈ D, i < A.length) (hDn : D.Nodup) : keptN A C D f ≤ keptN A (withL C x) D f ∧ keptN A (withL C x) D f ≤ keptN A C D f + 1 := by
  rw [keptN_eq hD hDn, keptN_eq hD hDn]
  constructor
  · refine List.countP_mono_left fun i _ h => ?_
    simp only [keepsN, decide_eq_true_eq, withL_count] at h ⊢
    omega
  · refine Nat.le_trans (countP_or (q := fun i => decide (movedN (A.getD i 0) f = x) && decide (rankN A D f i = C.count x)) fun i _ h => ?_) (Nat.add_le_add_left (countP_one hDn fun i hi j hj h1 h2 => ?_) _)
    · simp only [keepsN, decide_eq_true_eq, withL_count, Bool.and_eq_true] at h ⊢
      by_cases he : x = movedN (A.getD i 0) f
      · rw [if_pos he] at h
        rw [← he] at h ⊢
        omega
      · rw [if_neg he] at h
        omega
    · simp only [Bool.and_eq_true, decide_eq_true_eq] at h1 h2
      exact rankN_inj hD hDn hi hj (by rw [h1.1, h2.1]) (by rw [h1.2, h2.2])
end Go.Proofs.YtheclfjbedajfaaDoor


namespace Go.Proofs.YtheclfjbedajfaaDoor
set_option linter.unusedSimpArgs false
set_option linter.unusedVariables false
open Go.RowKit Go.Lib Go.Proofs.YtheclfjbedajfaaDoorW.PrintWords

theorem perm_of_count : ∀ {l m : List Nat}, (∀ S, l.count S ≤ m.count S) → m.length ≤ l.length → l.Perm m
  | [], m, _, h => by
    have : m = [] := List.eq_nil_of_length_eq_zero (by simpa using h)
    rw [this]
  | a :: r, m, hc, h => by
    have ha : a ∈ m := List.count_pos_iff.1 (by have := hc a; rw [List.count_cons_self] at this; omega)
    have hp := List.perm_cons_erase ha
    have hl : m.length = (m.erase a).length + 1 := by have := hp.length_eq; simpa using this
    refine ((perm_of_count (l := r) (m := m.erase a) (fun S => ?_) (by simp at h; omega)).cons a).trans hp.symm
    have h1 := hc S
    have h2 := hp.count_eq S
    rw [List.count_cons] at h1 h2
    omega
theorem sorted_eq {l m : List Nat} (h : l.Perm m) (hl : l.Pairwise (· ≤ ·)) (hm : m.Pairwise (· ≤ ·)) : l = m :=
  List.Perm.eq_of_pairwise (fun a b _ _ h1 h2 => Nat.le_antisymm h1 h2) hl hm h
theorem queueN_perm {n : Nat} {ds : List Nat} (h1 : ∀ i ∈ ds, i < n) (h2 : ds.Nodup) : (queueN n ds).Perm (List.range n) := by
  refine (List.perm_ext_iff_of_nodup (queueN_nodup h2) List.nodup_range).2 fun i => ⟨fun h => ?_, fun h => queueN_mem (List.mem_range.1 h)⟩
  rw [queueN, List.mem_append] at h
  rcases h with h | h
  · exact List.mem_range.2 (h1 i ((sortedL_permE ds).mem_iff.1 h))
  · exact (List.mem_filter.1 h).1
theorem map_range_getD {A : List Nat} {mv : Nat → Nat} : (List.range A.length).map (fun i => mv (A.getD i 0)) = A.map mv := by
  apply List.ext_getElem
  · simp
  · intro i h1 h2
    simp at h1 h2 ⊢
    rw [List.getElem?_eq_getElem h1]
    rfl
theorem rank_lt {A D g : List Nat} (h1 : ∀ i ∈ D, i < A.length) (h2 : D.Nodup) {i : Nat} (hi : i < A.length) : rankN A D g i < (A.map fun b => movedN b g).count (movedN (A.getD i 0) g) := by
  have hq := queueN_perm h1 h2
  have hm := queueN_mem (ds := D) hi
  have hlt := List.idxOf_lt_length_of_mem hm
  have e : (A.map fun b => movedN b g).count (movedN (A.getD i 0) g) = ((queueN A.length D).map fun i => movedN (A.getD i 0) g).count (movedN (A.getD i 0) g) := by
    rw [← map_range_getD (mv := fun b => movedN b g)]
    exact ((hq.map _).count_eq _).symm
  rw [rankN, e]
  have h3 : (queueN A.length D) = (queueN A.length D).take ((queueN A.length D).idxOf i) ++ (queueN A.length D).drop ((queueN A.length D).idxOf i) := (List.take_append_drop _ _).symm
  have h4 : (queueN A.length D).drop ((queueN A.length D).idxOf i) = i :: (queueN A.length D).drop ((queueN A.length D).idxOf i + 1) := by
    rw [List.drop_eq_getElem_cons hlt]
    congr 1
    exact List.getElem_idxOf hlt
  conv => rhs; rw [h3, h4]
  rw [List.map_append, List.count_append, List.map_cons, List.count_cons_self]
  omega
theorem kept_self {A D g : List Nat} (h1 : ∀ i ∈ D, i < A.length) (h2 : D.Nodup) : keptN A (imL A g) D g = D.length := by
  rw [keptN_eq h1 h2, List.countP_eq_length]
  intro i hi
  rw [keepsN, decide_eq_true_eq, imL, (sortedL_permE _).count_eq]
  exact rank_lt h1 h2 (h1 i hi)
end Go.Proofs.YtheclfjbedajfaaDoor


namespace Go.Proofs.YtheclfjbedajfaaDoor
set_option linter.unusedSimpArgs false
set_option linter.unusedVariables false
open Go.RowKit Go.Lib Go.Proofs.YtheclfjbedajfaaDoorW.PrintWords

theorem lsL_all {n : Nat} : ∀ {l : Nat} {f r : List Nat}, (f ++ r).Nodup → (∀ q ∈ r, q < n) → r.length = l → f ++ r ∈ lsL n l f
  | 0, f, r, _, _, h => by
    rw [List.eq_nil_of_length_eq_zero h, List.append_nil, lsL]; simp
  | l + 1, f, [], _, _, h => by simp at h
  | l + 1, f, p :: r, hn, hq, h => by
    have hpf : p ∉ f := fun hp => (List.nodup_append.1 hn).2.2 p hp p (by simp) rfl
    rw [lsL, List.mem_flatMap]
    refine ⟨p, List.mem_range.2 (hq p (by simp)), ?_⟩
    rw [if_neg hpf]
    have := lsL_all (n := n) (l := l) (f := f ++ [p]) (r := r) (by rw [List.append_assoc]; exact hn) (fun q h => hq q (by simp [h])) (by simpa using h)
    rwa [List.append_assoc] at this
end Go.Proofs.YtheclfjbedajfaaDoor


namespace Go.Proofs.YtheclfjbedajfaaDoor
set_option linter.unusedSimpArgs false
set_option linter.unusedVariables false
open Go.RowKit Go.Lib Go.Proofs.YtheclfjbedajfaaDoorW.PrintWords

theorem count_le_of_rank {mv : Nat → Nat} {c : Nat → Nat} {l : List Nat} (h : ∀ j (hj : j < l.length), ((l.take j).map mv).count (mv l[j]) < c (mv l[j])) : ∀ k, k ≤ l.length → ∀ S, ((l.take k).map mv).count S ≤ c S
  | 0, _, S => by simp
  | k + 1, hk, S => by
    have ih := count_le_of_rank h k (by omega) S
    have hk' : k < l.length := by omega
    rw [List.take_succ_eq_append_getElem hk', List.map_append, List.count_append, List.map_cons, List.map_nil]
    by_cases e : mv l[k] = S
    · have h1 := h k hk'
      rw [e] at h1 ⊢
      have h2 : [S].count S = 1 := by simp
      rw [h2]
      omega
    · have h2 : [mv l[k]].count S = 0 := by simp [List.count_cons, e]
      rw [h2]
      omega
theorem image_of_all {A C D f : List Nat} (hD : ∀ i ∈ D, i < A.length) (hDn : D.Nodup) (hDa : ∀ i, i < A.length → i ∈ D) (hall : D.length ≤ keptN A C D f) : ∀ S, (A.map fun b => movedN b f).count S ≤ C.count S := by
  have he : D.countP (keepsN A C D f) = D.length := by
    have h1 := keptN_eq (C := C) (f := f) hD hDn
    have h2 := List.countP_le_length (p := keepsN A C D f) (l := D)
    omega
  have hk := List.countP_eq_length.1 he
  have hq := queueN_perm hD hDn
  have hqn := queueN_nodup (n := A.length) hDn
  intro S
  have e : (A.map fun b => movedN b f).count S = ((queueN A.length D).map fun i => movedN (A.getD i 0) f).count S := by
    rw [← map_range_getD (mv := fun b => movedN b f)]
    exact ((hq.map _).count_eq _).symm
  rw [e]
  have h := count_le_of_rank (mv := fun i => movedN (A.getD i 0) f) (c := fun S => C.count S) (l := queueN A.length D) (fun j hj => ?_) _ (Nat.le_refl _) S
  · rwa [List.take_length] at h
  · have hm : (queueN A.length D)[j] ∈ D := hDa _ (List.mem_range.1 (hq.mem_iff.1 (List.getElem_mem hj)))
    have h1 := hk _ hm
    rw [keepsN, decide_eq_true_eq, rankN, idxOf_getElem_nodup hqn hj] at h1
    exact h1
theorem images_plain {V x : Nat} {A D g : List Nat} (hD : ∀ i ∈ D, i < A.length) (hDn : D.Nodup) (hDa : ∀ i, i < A.length → i ∈ D) (hg : g ∈ lsL V V [])
    {F1 F2 : List Nat} (h1 : ∀ f ∈ lsL V V [], keptN A (imL A g) D f ≤ keptN A (imL A g) D F1) (h2 : ∀ f ∈ lsL V V [], keptN A (withL (imL A g) x) D f ≤ keptN A (withL (imL A g) x) D F2) (hF1 : F1 ∈ lsL V V []) :
    keptN A (imL A g) D F1 = D.length ∧ keptN A (withL (imL A g) x) D F2 = D.length ∧ imL A F1 = imL A g := by
  have a := h1 g hg
  rw [kept_self hD hDn] at a
  have b := h2 F1 hF1
  have c := (kept_more (C := imL A g) (f := F1) x hD hDn).1
  have l1 : keptN A (imL A g) D F1 ≤ D.length := by rw [keptN_eq hD hDn]; exact List.countP_le_length
  have l2 : keptN A (withL (imL A g) x) D F2 ≤ D.length := by rw [keptN_eq hD hDn]; exact List.countP_le_length
  refine ⟨by omega, by omega, ?_⟩
  have hc := image_of_all (C := imL A g) (f := F1) hD hDn hDa a
  have hp : (A.map fun b => movedN b F1).Perm (imL A g) := perm_of_count hc (by rw [imL_len, List.length_map]; exact Nat.le_refl _)
  rw [show imL A F1 = sortedL (A.map fun b => movedN b F1) from rfl]
  exact sorted_eq ((sortedL_permE _).trans hp) (sortedL_sorted _) (sortedL_sorted _)
theorem doneAll {n : Nat} (h : n ≤ 16) : ((List.range n).filter fun i => Nat.testBit 65535 i) = List.range n := by
  rw [List.filter_eq_self]
  intro i hi
  have := List.mem_range.1 hi
  have h16 : i < 16 := by omega
  have : ∀ j, j < 16 → Nat.testBit 65535 j = true := by decide
  exact this i h16
end Go.Proofs.YtheclfjbedajfaaDoor


namespace Go.Proofs.YtheclfjbedajfaaDoor.Pm
open Go.RowKit Go.Proofs.YtheclfjbedajfaaDoorW.PrintWords Go.Proofs.YtheclfjbedajfaaDoorW.PrintLast Go.Proofs.YtheclfjbedajfaaDoorW.PrintMore
attribute [local go_sem] max2_int min2_int max_two min_two max_three min_three max_four min_four   -- for this text's walks alone
set_option linter.unusedVariables false
set_option linter.unusedSimpArgs false



def errW : Option Int → Value
  | none => .nilIface
  | some c => .iface 0 (.int .i64 c)
theorem errW_none : errW none = .nilIface := rfl
theorem errW_some (c : Int) : errW (some c) = .iface 0 (.int .i64 c) := rfl

theorem info3 : (Tryd.prog.info? 3).map (fun i => (i.zero, i.size, i.bytes)) = some (some (.int .i64 0), 1, 8) := by kernel_rfl
-- the values' own types

end Go.Proofs.YtheclfjbedajfaaDoor.Pm


namespace Go.Proofs.YtheclfjbedajfaaDoor.Pd
open Go.RowKit Go.Proofs.YtheclfjbedajfaaDoorW.PrintWords Go.Proofs.YtheclfjbedajfaaDoorW.PrintLast Go.Proofs.YtheclfjbedajfaaDoorW.PrintMore
attribute [local go_sem] max2_int min2_int max_two min_two max_three min_three max_four min_four   -- for this text's walks alone
set_option linter.unusedVariables false
set_option linter.unusedSimpArgs false



def errW : Option Int → Value
  | none => .nilIface
  | some c => .iface 0 (.int .i64 c)
theorem errW_none : errW none = .nilIface := rfl
theorem errW_some (c : Int) : errW (some c) = .iface 0 (.int .i64 c) := rfl

theorem info3 : (Tryd.prog.info? 3).map (fun i => (i.zero, i.size, i.bytes)) = some (some (.int .i64 0), 1, 8) := by kernel_rfl
theorem info25 : (Tryd.prog.info? 25).map (fun i => (i.zero, i.size, i.bytes)) = some (some (.int .u64 0), 1, 8) := by kernel_rfl
-- the values' own types

end Go.Proofs.YtheclfjbedajfaaDoor.Pd
