/- The argument of chapter 12's laws, opened: bytes of a structure, two numbers, bytes; no condition. -/
/- DisjunctOrder: the law's row, out of its walk; no condition. -/
import Derived.Test.YtmfmlfaglemgfaaGl
import Derived.WalkKit
import Derived.ProofKit
import Derived.OpenShut
import Derived.ChangeOld
import Derived.ChangeSame
import Derived.Below
import Derived.SizedLaws
import Derived.Lib.SmallJoins
import Derived.Test.YtmfmlfaglemgfaaOw
import Derived.Test.YtmfmlfaglemgfaaRows
namespace Go.Proofs.Ytmfmlfaglemgfaa
open Go.ChangeShapes Go.WideShapes Go.ChangeAt Go.RowKit Go.Lib Go.Proofs.YtmfmlfaglemgfaaW.PrintWords
set_option linter.unusedVariables false
/-- A row of bytes that came in. -/
def IsRow (w : World) (a : Option Addr) (len cap : Nat) (zs : List Int) : Prop :=
  (a = none ∧ len = 0 ∧ cap = 0 ∧ zs = []) ∨
  ∃ x, a = some x ∧ len ≤ cap ∧ cap ≤ maxLen ∧ zs.length = cap ∧ (∀ i, i < zs.length → w.cell? (x.add i) = some (.int .u8 (zs.getD i 0))) ∧ ∀ n ∈ zs, (Lit.int .u8 n).wf = true
theorem IsRow.bytes {w : World} {a : Option Addr} {len cap : Nat} {zs : List Int} (h : IsRow w a len cap zs) :
    (Kd.int .u8).C w a (zs.take len).length (zs.take len) ∧ (zs.take len).length ≤ cap ∧ len = (zs.take len).length ∧ (zs.take len).length < 2 ^ 63 ∧ okL 256 (zs.take len) = true := by
  rcases h with ⟨rfl, rfl, rfl, rfl⟩ | ⟨x, rfl, hl, hm, hz, hc, hw⟩
  · exact ⟨Kd.C_of_reads (d := 0) ⟨rfl, by simp, fun h => by simp at h⟩, by simp, rfl, by simp, rfl⟩
  · have e : (zs.take len).length = len := by rw [List.length_take]; omega
    have hm' : cap ≤ 9223372036854775807 := hm
    refine ⟨?_, by omega, e.symm, by omega, ?_⟩
    · rw [e]
      refine Kd.C_of_reads (d := 0) ⟨e, by omega, fun _ => ⟨x, rfl, fun j hj => ?_⟩⟩
      rw [hc j (by omega)]
      simp only [List.getD_eq_getElem?_getD, List.getElem?_take, if_pos hj]
    · rw [okL_iff]
      intro b hb
      have := hw b (List.mem_of_mem_take hb)
      simp only [Lit.wf, Bool.and_eq_true, decide_eq_true_eq] at this
      have e1 : IntKind.u8.min = 0 := by decide
      have e2 : IntKind.u8.max = 255 := by decide
      rw [e1, e2] at this
      omega
theorem byte_wf {n : Int} (h : (Lit.int .u8 n).wf = true) : 0 ≤ n ∧ n < 256 := by
  simp only [Lit.wf, Bool.and_eq_true, decide_eq_true_eq] at h
  have e1 : IntKind.u8.min = 0 := by decide
  have e2 : IntKind.u8.max = 255 := by decide
  rw [e1, e2] at h
  omega
/-- One slice of bytes among the cells of an argument. -/
theorem bytes_of {H : Type} {enc : TypeId × Value → H} {W : World} {base n : Nat} {sp : Nat → Bool} {held : Bool} {c : Value} {y : DataW H × List MemPlace} (hsp : ∀ b, sp b = true) (h : DataW.trod enc Try.prog W base sp held n 22 [c] = some y) : ∃ A m k zs, c = .slice A m k ∧ IsRow W A m k zs := by
  rcases open_ints Try.underlying22 Try.underlying5 (by kernel_rfl) h with ⟨hcs, _⟩ | ⟨x, l, c', zs, hcs, _, hl, hm, hz, _, hcell, hwz⟩
  · simp at hcs
    subst hcs
    exact ⟨none, 0, 0, [], rfl, .inl ⟨rfl, rfl, rfl, rfl⟩⟩
  · simp at hcs
    subst hcs
    rw [hsp] at hz
    exact ⟨some x, l, c', zs, rfl, .inr ⟨x, rfl, hl, hm, by simpa using hz, hcell, hwz⟩⟩
/-- The argument, opened: a structure's bytes, two numbers, bytes. -/
theorem raw_of {H : Type} {enc : TypeId × Value → H} {W : World} {base : Nat} {sp : Nat → Bool} {held : Bool} {cs : Array Value} {d : DataW H} {ps : List MemPlace} (hsp : ∀ b, sp b = true) (hsz : cs.size = Try.prog.cellsOf 26) (h : DataW.Trod enc Try.prog W base sp held 26 (.agg cs) d ps) :
    ∃ A0 m0 k0 z0 a1 a2 A3 m3 k3 z3, cs = #[.slice A0 m0 k0, .int .u8 a1, .int .u8 a2, .slice A3 m3 k3] ∧ IsRow W A0 m0 k0 z0 ∧ (0 ≤ a1 ∧ a1 < 256) ∧ (0 ≤ a2 ∧ a2 < 256) ∧ IsRow W A3 m3 k3 z3 := by
  obtain ⟨fuel, hf⟩ := h
  obtain ⟨y0, y1, y2, y3, n, _, _, h0, h1, h2, h3⟩ := Go.Joins.trod_struct4 Try.underlying26 hf
  have s26 : Try.prog.cellsOf 26 = 4 := by kernel_rfl
  have s24 : Try.prog.cellsOf 24 = 1 := by kernel_rfl
  have s22 : Try.prog.cellsOf 22 = 1 := by kernel_rfl
  have s21 : Try.prog.cellsOf 5 = 1 := by kernel_rfl
  rw [s26] at hsz
  obtain ⟨c0, c1, c2, c3, rfl⟩ := Go.Joins.array4 hsz
  simp [Value.cells, s24, s22, s21] at h0 h1 h2 h3
  obtain ⟨y00, n0, _, _, h00⟩ := trod_struct1 Try.underlying24 h0
  simp [s22] at h00
  obtain ⟨A0, m0, k0, z0, rfl, r0⟩ := bytes_of hsp h00
  obtain ⟨A3, m3, k3, z3, rfl, r3⟩ := bytes_of hsp h3
  obtain ⟨a1, e1, _, w1⟩ := DataW.trod_int Try.underlying5 h1
  obtain ⟨a2, e2, _, w2⟩ := DataW.trod_int Try.underlying5 h2
  simp at e1 e2
  subst e1 e2
  exact ⟨A0, m0, k0, z0, a1, a2, A3, m3, k3, z3, rfl, r0, byte_wf w1, byte_wf w2, r3⟩
end Go.Proofs.Ytmfmlfaglemgfaa


namespace Go.Proofs.Ytmfmlfaglemgfaa
open Go.ChangeShapes Go.WideShapes Go.ChangeAt Go.RowKit Go.Lib Go.Proofs.YtmfmlfaglemgfaaW.PrintWords
set_option linter.unusedVariables false
set_option maxRecDepth 100000
/-- An array of two bytes, opened. -/
theorem two_of {H : Type} {enc : TypeId × Value → H} {W : World} {base b0 : Nat} {sp : Nat → Bool} {held : Bool} {v : Value} {d : DataW H} {ps : List MemPlace} (hval : Value.okWide Try.prog W .any b0 51 v) (h : DataW.Trod enc Try.prog W base sp held 51 v d ps) :
    ∃ t0 t1 : Nat, v = .agg #[.int .u8 (t0 : Int), .int .u8 (t1 : Int)] ∧ t0 < 256 ∧ t1 < 256 := by
  have hu := Try.underlying51
  have s51 : Try.prog.cellsOf 51 = 2 := by kernel_rfl
  have s5 : Try.prog.cellsOf 5 = 1 := by kernel_rfl
  simp only [Value.okWide, hu] at hval
  obtain ⟨cs, rfl, hsz, _⟩ := hval
  rw [s51] at hsz
  obtain ⟨l⟩ := cs
  match l, hsz with
  | [c0, c1], _ =>
    obtain ⟨fuel, hf⟩ := h
    obtain ⟨xs, m, _, _, _, hl, hx⟩ := DataW.trod_array hu hf
    match xs, hl with
    | [y0, y1], _ =>
      have h0 := hx 0 (by decide)
      have h1 := hx 1 (by decide)
      simp [Value.cells, s5] at h0 h1
      obtain ⟨a0, e0, _, w0⟩ := DataW.trod_int Try.underlying5 h0
      obtain ⟨a1, e1, _, w1⟩ := DataW.trod_int Try.underlying5 h1
      simp at e0 e1
      subst e0 e1
      obtain ⟨h2, h3⟩ := byte_wf w0
      obtain ⟨h4, h5⟩ := byte_wf w1
      obtain ⟨t0, rfl⟩ := Int.eq_ofNat_of_zero_le h2
      obtain ⟨t1, rfl⟩ := Int.eq_ofNat_of_zero_le h4
      exact ⟨t0, t1, rfl, by omega, by omega⟩
namespace disjunctOrder
theorem own : ownKnob Try.prog.godebug = none := by kernel_rfl
theorem laidOut : laidOutB Try.prog = true := by kernel_rfl
set_option maxRecDepth 100000 in
theorem lifted (os : Os) (started : os.Started) (H : Type) (enc : TypeId × Value → H) :
    ReturnsInHanded {} Try.checked os 4 .any (Rows.disjunctOrderSpec.pre6 enc Try.prog Try.f4 Rows.disjunctOrderRow.domain false) (Rows.disjunctOrderSpec.post enc Try.prog Try.f4 false true false false) := by
  refine returnsInHanded_of_change_sized (C := Try.checked) own started (by kernel_rfl) Try.func4
    (ChangeSpec.witness6 (enc := enc) (C := Try.checked) false ⟨#[], #[.agg #[.slice none 0 0, .int .u8 0, .int .u8 0, .slice none 0 0], .agg #[.int .u8 0, .int .u8 0]], []⟩ 8 (by kernel_rfl) (by kernel_rfl) (by kernel_rfl) (by kernel_rfl)) ?_
  intro W base args ds gs before hval0 hW hcnd hsz0 _
  have hval : ∀ (j : Nat) t v, Try.f4.params[j]? = some t → args[j]? = some v → Value.okWide Try.prog W .any base t v := hval0
  have hW' := hW
  obtain ⟨p, q, hA0, hV, rfl, hfz, hnd⟩ := hW
  have hA : DataW.TrodAll enc Try.prog W 0 (fun _ => true) true Try.f4.params.toList args.toList ds p := hA0
  rw [Try.params4] at hA hval
  obtain ⟨v0, v1, d0, d1, p0, p1, rfl, rfl, rfl, h0, h1⟩ := trodAll_two hA
  obtain ⟨rfl, rfl⟩ := trodVars_none hV
  obtain ⟨cs, rfl, hsz⟩ := okWide_struct Try.underlying26 (hval 0 26 v0 rfl rfl)
  have k0 := h0
  have k1 := h1
  have lt1 : ∀ x ∈ p1, x.block < W.heap.size := by obtain ⟨m, hm⟩ := k1; exact DataW.trod_lt m _ _ _ hm
  obtain ⟨t0, t1, rfl, ht0, ht1⟩ := two_of (hval 1 51 v1 rfl rfl) h1
  have lt0 : ∀ x ∈ p0, x.block < W.heap.size := by obtain ⟨m, hm⟩ := k0; exact DataW.trod_lt m _ _ _ hm
  obtain ⟨A0, m0, k0', z0, a1, a2, A3, m3, k3, z3, rfl, i0, ⟨h10, h11⟩, ⟨h20, h21⟩, i3⟩ := raw_of (fun _ => rfl) hsz h0
  obtain ⟨hC0, hc0, hn0, h630, hby0⟩ := i0.bytes
  obtain ⟨hC3, hc3, hn3, _, hby3⟩ := i3.bytes
  clear hA0 hval0 hsz0 hval hA
  have hcall := order_law A0 A3 k0' k3 (z0.take m0) (z3.take m3) a1 a2 t0 t1 W hC0 hc0 hC3 hc3 h630 hby0 hby3 h10 h11 h20 h21 ht0 ht1
  rw [← hn0, ← hn3] at hcall
  refine hcall.mono fun e W' ⟨he, bel⟩ => ?_
  subst he
  exact ⟨_, rfl, _, _, _, [], _, [], hW', trodAll_mk1 (shut_bool Try.underlying4 _), trodAll_mk2 (Below.trod laidOut (by kernel_rfl) (of_decide_eq_true (by kernel_rfl)) k0 bel lt0) (Below.trod laidOut (by kernel_rfl) (of_decide_eq_true (by kernel_rfl)) k1 bel lt1), rfl, bel.frame _, fun h => by cases h⟩
theorem said : Rows.DisjunctOrderSaid :=
  OpenClaim.holds_of_wide 4 Try.f4 rfl rfl rfl rfl rfl rfl rfl ⟨rfl, rfl, rfl, rfl, rfl⟩ rfl rfl rfl rfl rfl (by kernel_rfl) Try.func4 (by kernel_rfl)
    (of_decide_eq_true (by kernel_rfl)) (by unfold Func.isWrapper; first | (rw [if_pos (by decide +kernel)]; kernel_rfl) | (rw [if_neg (by decide +kernel)]; exact ⟨rfl, rfl⟩))
    (fun os started H enc _ => lifted os started H enc)
#print axioms said
end disjunctOrder
end Go.Proofs.Ytmfmlfaglemgfaa
