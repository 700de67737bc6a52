/- The law DisjunctBest, walked: it answers true for whatever bytes; no condition. -/
/- DisjunctBest: the law's row, out of its walk; no condition. -/
import Derived.Test.YtmfmlfaglemgfaaEx
import Derived.Test.YtmfmlfaglemgfaaMb
import Derived.Test.YtmfmlfaglemgfaaRows
import Derived.WalkKit
import Derived.ProofKit
import Derived.OpenShut
import Derived.ChangeOld
import Derived.ChangeSame
import Derived.Below
import Derived.SizedLaws
import Derived.Lib.SmallJoins
namespace Go.Proofs.Ytmfmlfaglemgfaa
set_option linter.unusedSimpArgs false
set_option linter.unusedVariables false
open Go.RowKit Go.Lib Go.Shelf Go.Proofs.YtmfmlfaglemgfaaW.PrintWords Go.Proofs.Ytmfmlfaglemgfaa.Pd
set_option maxHeartbeats 4000000 in
set_option maxRecDepth 100000 in
theorem best_law (A0 A3 : Option Addr) (c0 c3 : Nat) (l0 l3 : List Int) (a1 a2 : Int) (w : World) (hr0 : Kd.C (Kd.int .u8) w A0 l0.length l0) (hc0 : l0.length ≤ c0) (hr3 : Kd.C (Kd.int .u8) w A3 l3.length l3) (hc3 : l3.length ≤ c3)
    (hl0 : l0.length < 2 ^ 63) (hb0 : okL 256 l0 = true) (hb3 : okL 256 l3 = true) (h10 : 0 ≤ a1) (h11 : a1 < 256) (h20 : 0 ≤ a2) (h21 : a2 < 256) :
    Calls Try.prog 7 #[.agg #[.slice A0 l0.length c0, .int .u8 a1, .int .u8 a2, .slice A3 l3.length c3]] w fun e w' => e = .returned (.bool true) ∧ Below w.heap.size w w' := by
  have hu := Try.underlying29
  obtain ⟨V, bs, D, E, hmade, hM⟩ := made12 hl0 hb0 hb3 h10 h11 h20 h21
  obtain ⟨b, hbest, hb4, hbV, hbd⟩ := best_f hM
  have HM := hid hM
  have MD := hid (fun W (hW : Below w.heap.size w W) => plexusref12_Made.calls 5 A0 c0 l0 a1 a2 A3 c3 l3 V (il bs) D E W (Kd.C_below hr0 hW) hc0 (Kd.C_below hr3 hW) hc3 hmade)
  clear hr0 hr3 hmade
  go_enter Try.func7, Try.ntmps7
  go_upto_region 1 with (fail)
  obtain ⟨w1, hw1⟩ : ∃ w1, w.alloc (.cells #[.slice A0 l0.length c0, .int .u8 a1, .int .u8 a2, .slice A3 l3.length c3] 26) = w1 := ⟨_, rfl⟩
  have hb1 : Below w.heap.size w w1 := by rw [← hw1]; exact below_alloc (Below.refl _ _) _
  have hp1 : Blk w1 w.heap.size 26 #[.slice A0 l0.length c0, .int .u8 a1, .int .u8 a2, .slice A3 l3.length c3] := by rw [← hw1]; exact Blk.new _ _ _
  rw [hw1]
  clear hw1
  go_upto_region 4 with (go_at_call 8; refine (examples_any _).mono ?_; rintro e w2 ⟨rfl, hb2⟩)
  have hp2 := hp1.below hb2 hp1.lt
  have bw2 := below_then hb1 hb1.size hb2
  have r0 : w2.cell? ⟨w.heap.size, 0, none⟩ = some (.slice A0 l0.length c0) := (hp2.cell 0).trans rfl
  have r1 : w2.cell? ⟨w.heap.size, 1, none⟩ = some (.int .u8 a1) := (hp2.cell 1).trans rfl
  have r2 : w2.cell? ⟨w.heap.size, 2, none⟩ = some (.int .u8 a2) := (hp2.cell 2).trans rfl
  have r3 : w2.cell? ⟨w.heap.size, 3, none⟩ = some (.slice A3 l3.length c3) := (hp2.cell 3).trans rfl
  have MD2 := hid (MD.out w2 bw2)
  clear hp1 hp2 hb1 hb2 MD
  go_upto_region 5 with (go_at_call 9; refine MD2.out.mono ?_; rintro e w3 ⟨v3, rfl, hR3, hb3'⟩; obtain ⟨A, c, hv, hc, hC⟩ := Kd.R_reads hR3; subst hv)
  obtain ⟨w4, hw4⟩ : ∃ w4, w3.alloc (.cells #[.int .i64 V, .slice A (il bs).length c, .int .i64 D, .int .i64 E] 29) = w4 := ⟨_, rfl⟩
  have hp4 : Blk w4 w3.heap.size 29 #[.int .i64 V, .slice A (il bs).length c, .int .i64 D, .int .i64 E] := by rw [← hw4]; exact Blk.new _ _ _
  have bw4 : Below w.heap.size w w4 := by rw [← hw4]; exact below_alloc (below_then bw2 bw2.size hb3') _
  have hC4 : Kd.C (Kd.int .u64) w4 A (il bs).length (il bs) := by rw [← hw4]; exact Kd.C_alloc hC _
  rw [hw4]
  clear hw4 hR3 hC hb3' bw2 r0 r1 r2 r3 MD2
  have BE := hid (disjunct_Best.calls 5 V A c (il bs) D E _ w4 hC4 hc hbest)
  have DJ := hid (fun (k : Nat) (hk : k ≤ 16) W (hW : Below w4.heap.size w4 W) => disjunct_Disjunct.calls V A c (il bs) k E _ W (Kd.C_below hC4 hW) hc (disj_f HM.out hk))
  have HP := hid (fun W (hW : Below w4.heap.size w4 W) => show W.cell? ⟨w3.heap.size, 0, none⟩ = some (.int .i64 V) ∧ W.cell? ⟨w3.heap.size, 1, none⟩ = some (.slice A (il bs).length c) ∧ W.cell? ⟨w3.heap.size, 2, none⟩ = some (.int .i64 D) ∧ W.cell? ⟨w3.heap.size, 3, none⟩ = some (.int .i64 E) from
    ⟨((hp4.below hW hp4.lt).cell 0).trans rfl, ((hp4.below hW hp4.lt).cell 1).trans rfl, ((hp4.below hW hp4.lt).cell 2).trans rfl, ((hp4.below hW hp4.lt).cell 3).trans rfl⟩)
  clear hC4 hbest hp4
  obtain ⟨p0, p1, p2, p3⟩ := HP.out w4 (Below.refl _ _)
  have HBD := hid hbd
  clear hbd
  go_upto_region 6 with (go_at_call 22; refine BE.out.mono ?_; rintro e w5 ⟨rfl, hb5⟩)
  clear p0 p1 p2 p3 BE
  go_wp2
  have hv1 := HM.out.v1
  have hv7 := HM.out.v7
  go_loopw [2, 6] (fun z d wr => ∃ k : Nat, k ≤ 4 ∧ k ≤ V + 1 ∧ z = .bool false ∧ d = .int .i64 k ∧ Below w4.heap.size w4 wr) (fun _ d _ => 4 - (intOf d).toNat)
  case atStart => exact ⟨0, by omega, by omega, rfl, rfl, hb5⟩
  case round =>
    obtain ⟨k, hk4, hkV, rfl, rfl, hW⟩ := hrel
    obtain ⟨p0, p1, p2, p3⟩ := HP.out wr hW
    by_cases h3 : k ≤ 3
    · by_cases hv : k ≤ V
      · have e1 : decide ((k : Int) ≤ 3) = true := by simp; omega
        have e2 : decide ((k : Int) ≤ (V : Int)) = true := by simp; omega
        have e3 : decide ((k : Int) ≤ (b : Int) - 1) = decide ((2 * E : Int) < slackN V k bs) := by
          rw [decide_eq_decide, HBD.out k h3 hv]; omega
        obtain ⟨q, hq⟩ : ∃ q, decide ((2 * E : Int) < slackN V k bs) = q := ⟨_, rfl⟩
        have DJ2 := hid (fun W hW => DJ.out k (by omega) W hW)
        rw [hq] at DJ2 e3
        clear hq
        go_wp2_with (first
          | (go_at_call 29; refine (with12_any V D E k A (il bs).length c wr).mono ?_; rintro e w6 ⟨rfl, hb6⟩; have hW6 := below_then hW hW.size hb6)
          | (go_at_call 20; refine (DJ2.out w6 hW6).mono ?_; rintro e w7 ⟨rfl, hb7⟩; have hW7 := below_then hW6 hW6.size hb7))
        go_roundw
        case rel => exact ⟨k + 1, by omega, by omega, rfl, by go_num, hW7⟩
        case measure => simp [intOf]; omega
      · have e1 : decide ((k : Int) ≤ 3) = true := by simp; omega
        have e2 : decide ((k : Int) ≤ (V : Int)) = false := by simp; omega
        have g1 : decide ((-1 : Int) ≤ (b : Int) - 1) = true := by simp; omega
        have g2 : decide ((b : Int) - 1 ≤ 3) = true := by simp; omega
        have g3 : decide ((b : Int) - 1 ≤ (V : Int)) = true := by simp; omega
        go_wp2
        go_ret
        exact ⟨rfl, below_then bw4 bw4.size hW⟩
    · have e1 : decide ((k : Int) ≤ 3) = false := by simp; omega
      have g1 : decide ((-1 : Int) ≤ (b : Int) - 1) = true := by simp; omega
      have g2 : decide ((b : Int) - 1 ≤ 3) = true := by simp; omega
      have g3 : decide ((b : Int) - 1 ≤ (V : Int)) = true := by simp; omega
      go_wp2
      go_ret
      exact ⟨rfl, below_then bw4 bw4.size hW⟩
end Go.Proofs.Ytmfmlfaglemgfaa


namespace Go.Proofs.Ytmfmlfaglemgfaa
open Go.ChangeShapes Go.WideShapes Go.ChangeAt Go.RowKit Go.Lib Go.Proofs.YtmfmlfaglemgfaaW.PrintWords
set_option linter.unusedVariables false
/-- A row of bytes that came in. -/
def IsRow (w : World) (a : Option Addr) (len cap : Nat) (zs : List Int) : Prop :=
  (a = none ∧ len = 0 ∧ cap = 0 ∧ zs = []) ∨
  ∃ x, a = some x ∧ len ≤ cap ∧ cap ≤ maxLen ∧ zs.length = cap ∧ (∀ i, i < zs.length → w.cell? (x.add i) = some (.int .u8 (zs.getD i 0))) ∧ ∀ n ∈ zs, (Lit.int .u8 n).wf = true
theorem IsRow.bytes {w : World} {a : Option Addr} {len cap : Nat} {zs : List Int} (h : IsRow w a len cap zs) :
    (Kd.int .u8).C w a (zs.take len).length (zs.take len) ∧ (zs.take len).length ≤ cap ∧ len = (zs.take len).length ∧ (zs.take len).length < 2 ^ 63 ∧ okL 256 (zs.take len) = true := by
  rcases h with ⟨rfl, rfl, rfl, rfl⟩ | ⟨x, rfl, hl, hm, hz, hc, hw⟩
  · exact ⟨Kd.C_of_reads (d := 0) ⟨rfl, by simp, fun h => by simp at h⟩, by simp, rfl, by simp, rfl⟩
  · have e : (zs.take len).length = len := by rw [List.length_take]; omega
    have hm' : cap ≤ 9223372036854775807 := hm
    refine ⟨?_, by omega, e.symm, by omega, ?_⟩
    · rw [e]
      refine Kd.C_of_reads (d := 0) ⟨e, by omega, fun _ => ⟨x, rfl, fun j hj => ?_⟩⟩
      rw [hc j (by omega)]
      simp only [List.getD_eq_getElem?_getD, List.getElem?_take, if_pos hj]
    · rw [okL_iff]
      intro b hb
      have := hw b (List.mem_of_mem_take hb)
      simp only [Lit.wf, Bool.and_eq_true, decide_eq_true_eq] at this
      have e1 : IntKind.u8.min = 0 := by decide
      have e2 : IntKind.u8.max = 255 := by decide
      rw [e1, e2] at this
      omega
theorem byte_wf {n : Int} (h : (Lit.int .u8 n).wf = true) : 0 ≤ n ∧ n < 256 := by
  simp only [Lit.wf, Bool.and_eq_true, decide_eq_true_eq] at h
  have e1 : IntKind.u8.min = 0 := by decide
  have e2 : IntKind.u8.max = 255 := by decide
  rw [e1, e2] at h
  omega
/-- One slice of bytes among the cells of an argument. -/
theorem bytes_of {H : Type} {enc : TypeId × Value → H} {W : World} {base n : Nat} {sp : Nat → Bool} {held : Bool} {c : Value} {y : DataW H × List MemPlace} (hsp : ∀ b, sp b = true) (h : DataW.trod enc Try.prog W base sp held n 22 [c] = some y) : ∃ A m k zs, c = .slice A m k ∧ IsRow W A m k zs := by
  rcases open_ints Try.underlying22 Try.underlying5 (by kernel_rfl) h with ⟨hcs, _⟩ | ⟨x, l, c', zs, hcs, _, hl, hm, hz, _, hcell, hwz⟩
  · simp at hcs
    subst hcs
    exact ⟨none, 0, 0, [], rfl, .inl ⟨rfl, rfl, rfl, rfl⟩⟩
  · simp at hcs
    subst hcs
    rw [hsp] at hz
    exact ⟨some x, l, c', zs, rfl, .inr ⟨x, rfl, hl, hm, by simpa using hz, hcell, hwz⟩⟩
/-- The argument, opened: a structure's bytes, two numbers, bytes. -/
theorem raw_of {H : Type} {enc : TypeId × Value → H} {W : World} {base : Nat} {sp : Nat → Bool} {held : Bool} {cs : Array Value} {d : DataW H} {ps : List MemPlace} (hsp : ∀ b, sp b = true) (hsz : cs.size = Try.prog.cellsOf 26) (h : DataW.Trod enc Try.prog W base sp held 26 (.agg cs) d ps) :
    ∃ A0 m0 k0 z0 a1 a2 A3 m3 k3 z3, cs = #[.slice A0 m0 k0, .int .u8 a1, .int .u8 a2, .slice A3 m3 k3] ∧ IsRow W A0 m0 k0 z0 ∧ (0 ≤ a1 ∧ a1 < 256) ∧ (0 ≤ a2 ∧ a2 < 256) ∧ IsRow W A3 m3 k3 z3 := by
  obtain ⟨fuel, hf⟩ := h
  obtain ⟨y0, y1, y2, y3, n, _, _, h0, h1, h2, h3⟩ := Go.Joins.trod_struct4 Try.underlying26 hf
  have s26 : Try.prog.cellsOf 26 = 4 := by kernel_rfl
  have s24 : Try.prog.cellsOf 24 = 1 := by kernel_rfl
  have s22 : Try.prog.cellsOf 22 = 1 := by kernel_rfl
  have s21 : Try.prog.cellsOf 5 = 1 := by kernel_rfl
  rw [s26] at hsz
  obtain ⟨c0, c1, c2, c3, rfl⟩ := Go.Joins.array4 hsz
  simp [Value.cells, s24, s22, s21] at h0 h1 h2 h3
  obtain ⟨y00, n0, _, _, h00⟩ := trod_struct1 Try.underlying24 h0
  simp [s22] at h00
  obtain ⟨A0, m0, k0, z0, rfl, r0⟩ := bytes_of hsp h00
  obtain ⟨A3, m3, k3, z3, rfl, r3⟩ := bytes_of hsp h3
  obtain ⟨a1, e1, _, w1⟩ := DataW.trod_int Try.underlying5 h1
  obtain ⟨a2, e2, _, w2⟩ := DataW.trod_int Try.underlying5 h2
  simp at e1 e2
  subst e1 e2
  exact ⟨A0, m0, k0, z0, a1, a2, A3, m3, k3, z3, rfl, r0, byte_wf w1, byte_wf w2, r3⟩
namespace disjunctBest
theorem own : ownKnob Try.prog.godebug = none := by kernel_rfl
theorem laidOut : laidOutB Try.prog = true := by kernel_rfl
set_option maxRecDepth 100000 in
theorem lifted (os : Os) (started : os.Started) (H : Type) (enc : TypeId × Value → H) :
    ReturnsInHanded {} Try.checked os 7 .any (Rows.disjunctBestSpec.pre6 enc Try.prog Try.f7 Rows.disjunctBestRow.domain false) (Rows.disjunctBestSpec.post enc Try.prog Try.f7 false true false false) := by
  refine returnsInHanded_of_change_sized (C := Try.checked) own started (by kernel_rfl) Try.func7
    (ChangeSpec.witness6 (enc := enc) (C := Try.checked) false ⟨#[], #[.agg #[.slice none 0 0, .int .u8 0, .int .u8 0, .slice none 0 0]], []⟩ 8 (by kernel_rfl) (by kernel_rfl) (by kernel_rfl) (by kernel_rfl)) ?_
  intro W base args ds gs before hval0 hW hcnd hsz0 _
  have hval : ∀ (j : Nat) t v, Try.f7.params[j]? = some t → args[j]? = some v → Value.okWide Try.prog W .any base t v := hval0
  have hW' := hW
  obtain ⟨p, q, hA0, hV, rfl, hfz, hnd⟩ := hW
  have hA : DataW.TrodAll enc Try.prog W 0 (fun _ => true) true Try.f7.params.toList args.toList ds p := hA0
  rw [Try.params7] at hA hval
  obtain ⟨v0, vs0, d0, ds0, p0, q0, hargs, rfl, rfl, h0, r0⟩ := trodAll_cons hA
  obtain ⟨rfl, rfl, rfl⟩ := trodAll_nil r0
  obtain rfl : args = #[v0] := by cases args; simp_all
  obtain ⟨rfl, rfl⟩ := trodVars_none hV
  obtain ⟨cs, rfl, hsz⟩ := okWide_struct Try.underlying26 (hval 0 26 v0 rfl rfl)
  have k0 := h0
  have lt0 : ∀ x ∈ p0, x.block < W.heap.size := by obtain ⟨m, hm⟩ := k0; exact DataW.trod_lt m _ _ _ hm
  obtain ⟨A0, m0, k0', z0, a1, a2, A3, m3, k3, z3, rfl, i0, ⟨h10, h11⟩, ⟨h20, h21⟩, i3⟩ := raw_of (fun _ => rfl) hsz h0
  obtain ⟨hC0, hc0, hn0, h630, hby0⟩ := i0.bytes
  obtain ⟨hC3, hc3, hn3, _, hby3⟩ := i3.bytes
  clear hA0 hval0 hsz0 hval hA
  have hcall := best_law A0 A3 k0' k3 (z0.take m0) (z3.take m3) a1 a2 W hC0 hc0 hC3 hc3 h630 hby0 hby3 h10 h11 h20 h21
  rw [← hn0, ← hn3] at hcall
  refine hcall.mono fun e W' ⟨he, bel⟩ => ?_
  subst he
  exact ⟨_, rfl, _, _, _, [], _, [], hW', trodAll_mk1 (shut_bool Try.underlying4 _), (trodAll_cons_mk (Below.trod laidOut (by kernel_rfl) (of_decide_eq_true (by kernel_rfl)) k0 bel lt0) trodAll_mk0), rfl, bel.frame _, fun h => by cases h⟩
theorem said : Rows.DisjunctBestSaid :=
  OpenClaim.holds_of_wide 7 Try.f7 rfl rfl rfl rfl rfl rfl rfl ⟨rfl, rfl, rfl, rfl, rfl⟩ rfl rfl rfl rfl rfl (by kernel_rfl) Try.func7 (by kernel_rfl)
    (of_decide_eq_true (by kernel_rfl)) (by unfold Func.isWrapper; first | (rw [if_pos (by decide +kernel)]; kernel_rfl) | (rw [if_neg (by decide +kernel)]; exact ⟨rfl, rfl⟩))
    (fun os started H enc _ => lifted os started H enc)
#print axioms said
end disjunctBest
end Go.Proofs.Ytmfmlfaglemgfaa
