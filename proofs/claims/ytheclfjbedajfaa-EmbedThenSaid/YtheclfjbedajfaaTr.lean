/- The argument of chapter 42's laws, opened: bytes of two structures, a number, two rows of bytes; no condition. -/
/- EmbedThen: the law's row, out of its walk and the plain law; no condition. -/
import Derived.Test.YtheclfjbedajfaaGl
import Derived.WalkKit
import Derived.ProofKit
import Derived.OpenShut
import Derived.ChangeOld
import Derived.ChangeSame
import Derived.Below
import Derived.SizedLaws
import Derived.Lib.SmallJoins
import Derived.Test.YtheclfjbedajfaaTw
import Derived.Test.YtheclfjbedajfaaRows
namespace Go.Proofs.Ytheclfjbedajfaa
open Go.ChangeShapes Go.WideShapes Go.ChangeAt Go.RowKit Go.Lib Go.Proofs.YtheclfjbedajfaaW.PrintWords
set_option linter.unusedVariables false
/-- A row of bytes that came in. -/
def IsRow (w : World) (a : Option Addr) (len cap : Nat) (zs : List Int) : Prop :=
  (a = none ∧ len = 0 ∧ cap = 0 ∧ zs = []) ∨
  ∃ x, a = some x ∧ len ≤ cap ∧ cap ≤ maxLen ∧ zs.length = cap ∧ (∀ i, i < zs.length → w.cell? (x.add i) = some (.int .u8 (zs.getD i 0))) ∧ ∀ n ∈ zs, (Lit.int .u8 n).wf = true
theorem IsRow.bytes {w : World} {a : Option Addr} {len cap : Nat} {zs : List Int} (h : IsRow w a len cap zs) :
    (Kd.int .u8).C w a (zs.take len).length (zs.take len) ∧ (zs.take len).length ≤ cap ∧ len = (zs.take len).length ∧ (zs.take len).length < 2 ^ 63 ∧ okL 256 (zs.take len) = true := by
  rcases h with ⟨rfl, rfl, rfl, rfl⟩ | ⟨x, rfl, hl, hm, hz, hc, hw⟩
  · exact ⟨Kd.C_of_reads (d := 0) ⟨rfl, by simp, fun h => by simp at h⟩, by simp, rfl, by simp, rfl⟩
  · have e : (zs.take len).length = len := by rw [List.length_take]; omega
    have hm' : cap ≤ 9223372036854775807 := hm
    refine ⟨?_, by omega, e.symm, by omega, ?_⟩
    · rw [e]
      refine Kd.C_of_reads (d := 0) ⟨e, by omega, fun _ => ⟨x, rfl, fun j hj => ?_⟩⟩
      rw [hc j (by omega)]
      simp only [List.getD_eq_getElem?_getD, List.getElem?_take, if_pos hj]
    · rw [okL_iff]
      intro b hb
      have := hw b (List.mem_of_mem_take hb)
      simp only [Lit.wf, Bool.and_eq_true, decide_eq_true_eq] at this
      have e1 : IntKind.u8.min = 0 := by decide
      have e2 : IntKind.u8.max = 255 := by decide
      rw [e1, e2] at this
      omega
theorem byte_wf {n : Int} (h : (Lit.int .u8 n).wf = true) : 0 ≤ n ∧ n < 256 := by
  simp only [Lit.wf, Bool.and_eq_true, decide_eq_true_eq] at h
  have e1 : IntKind.u8.min = 0 := by decide
  have e2 : IntKind.u8.max = 255 := by decide
  rw [e1, e2] at h
  omega
/-- One slice of bytes among the cells of an argument. -/
theorem bytes_of {H : Type} {enc : TypeId × Value → H} {W : World} {base n : Nat} {sp : Nat → Bool} {held : Bool} {c : Value} {y : DataW H × List MemPlace} (hsp : ∀ b, sp b = true) (h : DataW.trod enc Try.prog W base sp held n 22 [c] = some y) : ∃ A m k zs, c = .slice A m k ∧ IsRow W A m k zs := by
  rcases open_ints Try.underlying22 Try.underlying5 (by kernel_rfl) h with ⟨hcs, _⟩ | ⟨x, l, c', zs, hcs, _, hl, hm, hz, _, hcell, hwz⟩
  · simp at hcs
    subst hcs
    exact ⟨none, 0, 0, [], rfl, .inl ⟨rfl, rfl, rfl, rfl⟩⟩
  · simp at hcs
    subst hcs
    rw [hsp] at hz
    exact ⟨some x, l, c', zs, rfl, .inr ⟨x, rfl, hl, hm, by simpa using hz, hcell, hwz⟩⟩
theorem array5 {α : Type} {cs : Array α} (h : cs.size = 5) : ∃ c0 c1 c2 c3 c4, cs = #[c0, c1, c2, c3, c4] := by
  obtain ⟨l⟩ := cs
  match l, h with
  | [c0, c1, c2, c3, c4], _ => exact ⟨c0, c1, c2, c3, c4, rfl⟩
theorem trod_struct5 {H : Type} {enc : TypeId × Value → H} {P : Program} {w : World} {base : Nat} {spare : Nat → Bool} {held : Bool} {t : TypeId} {f0 f1 f2 f3 f4 : Field} {fuel : Nat} {cs : List Value} {x : DataW H × List MemPlace} (ht : P.underlying t = some (.struct #[f0, f1, f2, f3, f4])) (h : DataW.trod enc P w base spare held fuel t cs = some x) :
    ∃ y0 y1 y2 y3 y4 n, DataW.trod enc P w base spare held n f0.type ((cs.drop f0.offset).take (P.cellsOf f0.type)) = some y0 ∧ DataW.trod enc P w base spare held n f1.type ((cs.drop f1.offset).take (P.cellsOf f1.type)) = some y1 ∧ DataW.trod enc P w base spare held n f2.type ((cs.drop f2.offset).take (P.cellsOf f2.type)) = some y2 ∧
      DataW.trod enc P w base spare held n f3.type ((cs.drop f3.offset).take (P.cellsOf f3.type)) = some y3 ∧ DataW.trod enc P w base spare held n f4.type ((cs.drop f4.offset).take (P.cellsOf f4.type)) = some y4 := by
  obtain ⟨xs, n, _, rfl, hl, hlen, hf⟩ := DataW.trod_struct ht h
  match xs, hlen with
  | [y0, y1, y2, y3, y4], _ => exact ⟨y0, y1, y2, y3, y4, n, by simpa using hf 0 f0 rfl, by simpa using hf 1 f1 rfl, by simpa using hf 2 f2 rfl, by simpa using hf 3 f3 rfl, by simpa using hf 4 f4 rfl⟩
theorem raw42_of {H : Type} {enc : TypeId × Value → H} {W : World} {base : Nat} {sp : Nat → Bool} {held : Bool} {cs : Array Value} {d : DataW H} {ps : List MemPlace} (hsp : ∀ b, sp b = true) (hsz : cs.size = Try.prog.cellsOf 26) (h : DataW.Trod enc Try.prog W base sp held 26 (.agg cs) d ps) :
    ∃ A0 m0 k0 z0 A1 m1 k1 z1 a2 A3 m3 k3 z3 A4 m4 k4 z4, cs = #[.slice A0 m0 k0, .slice A1 m1 k1, .int .u8 a2, .slice A3 m3 k3, .slice A4 m4 k4] ∧ IsRow W A0 m0 k0 z0 ∧ IsRow W A1 m1 k1 z1 ∧ (0 ≤ a2 ∧ a2 < 256) ∧ IsRow W A3 m3 k3 z3 ∧ IsRow W A4 m4 k4 z4 := by
  obtain ⟨fuel, hf⟩ := h
  obtain ⟨y0, y1, y2, y3, y4, n, h0, h1, h2, h3, h4⟩ := trod_struct5 Try.underlying26 hf
  have s26 : Try.prog.cellsOf 26 = 5 := by kernel_rfl
  have s24 : Try.prog.cellsOf 24 = 1 := by kernel_rfl
  have s22 : Try.prog.cellsOf 22 = 1 := by kernel_rfl
  have s21 : Try.prog.cellsOf 5 = 1 := by kernel_rfl
  rw [s26] at hsz
  obtain ⟨c0, c1, c2, c3, c4, rfl⟩ := array5 hsz
  simp [Value.cells, s24, s22, s21] at h0 h1 h2 h3 h4
  obtain ⟨y00, n0, _, _, h00⟩ := trod_struct1 Try.underlying24 h0
  simp [s22] at h00
  obtain ⟨y10, n1, _, _, h10⟩ := trod_struct1 Try.underlying24 h1
  simp [s22] at h10
  obtain ⟨A0, m0, k0, z0, rfl, r0⟩ := bytes_of hsp h00
  obtain ⟨A1, m1, k1, z1, rfl, r1⟩ := bytes_of hsp h10
  obtain ⟨A3, m3, k3, z3, rfl, r3⟩ := bytes_of hsp h3
  obtain ⟨A4, m4, k4, z4, rfl, r4⟩ := bytes_of hsp h4
  obtain ⟨a2, e2, _, w2⟩ := DataW.trod_int Try.underlying5 h2
  simp at e2
  subst e2
  exact ⟨A0, m0, k0, z0, A1, m1, k1, z1, a2, A3, m3, k3, z3, A4, m4, k4, z4, rfl, r0, r1, byte_wf w2, r3, r4⟩
theorem u16_wf {n : Int} (h : (Lit.int .u16 n).wf = true) : 0 ≤ n ∧ n < 65536 := by
  simp only [Lit.wf, Bool.and_eq_true, decide_eq_true_eq] at h
  have e1 : IntKind.u16.min = 0 := by decide
  have e2 : IntKind.u16.max = 65535 := by decide
  rw [e1, e2] at h
  omega
end Go.Proofs.Ytheclfjbedajfaa


namespace Go.Proofs.Ytheclfjbedajfaa
open Go.ChangeShapes Go.WideShapes Go.ChangeAt Go.RowKit Go.Lib Go.Proofs.YtheclfjbedajfaaW.PrintWords
set_option linter.unusedVariables false
theorem raw06_of {H : Type} {enc : TypeId × Value → H} {W : World} {base : Nat} {sp : Nat → Bool} {held : Bool} {cs : Array Value} {d : DataW H} {ps : List MemPlace} (hsp : ∀ b, sp b = true) (hsz : cs.size = Try.prog.cellsOf 24) (h : DataW.Trod enc Try.prog W base sp held 24 (.agg cs) d ps) :
    ∃ A0 m0 k0 z0, cs = #[.slice A0 m0 k0] ∧ IsRow W A0 m0 k0 z0 := by
  obtain ⟨fuel, hf⟩ := h
  have s24 : Try.prog.cellsOf 24 = 1 := by kernel_rfl
  have s22 : Try.prog.cellsOf 22 = 1 := by kernel_rfl
  rw [s24] at hsz
  obtain ⟨l⟩ := cs
  match l, hsz with
  | [c0], _ =>
    obtain ⟨y00, n0, _, _, h00⟩ := trod_struct1 Try.underlying24 hf
    simp [Value.cells, s22] at h00
    obtain ⟨A0, m0, k0, z0, rfl, r0⟩ := bytes_of hsp h00
    exact ⟨A0, m0, k0, z0, rfl, r0⟩
namespace embedThen
theorem own : ownKnob Try.prog.godebug = none := by kernel_rfl
theorem laidOut : laidOutB Try.prog = true := by kernel_rfl
set_option maxRecDepth 100000 in
theorem lifted (os : Os) (started : os.Started) (H : Type) (enc : TypeId × Value → H) :
    ReturnsInHanded {} Try.checked os 6 .any (Rows.embedThenSpec.pre6 enc Try.prog Try.f6 Rows.embedThenRow.domain false) (Rows.embedThenSpec.post enc Try.prog Try.f6 false true false false) := by
  refine returnsInHanded_of_change_sized (C := Try.checked) own started (by kernel_rfl) Try.func6
    (ChangeSpec.witness6 (enc := enc) (C := Try.checked) false ⟨#[], #[.agg #[.slice none 0 0, .slice none 0 0, .int .u8 0, .slice none 0 0, .slice none 0 0], .agg #[.slice none 0 0], .int .u16 0], []⟩ 8 (by kernel_rfl) (by kernel_rfl) (by kernel_rfl) (by kernel_rfl)) ?_
  intro W base args ds gs before hval0 hW hcnd hsz0 _
  have hval : ∀ (j : Nat) t v, Try.f6.params[j]? = some t → args[j]? = some v → Value.okWide Try.prog W .any base t v := hval0
  have hW' := hW
  obtain ⟨p, q, hA0, hV, rfl, hfz, hnd⟩ := hW
  have hA : DataW.TrodAll enc Try.prog W 0 (fun _ => true) true Try.f6.params.toList args.toList ds p := hA0
  rw [Try.params6] at hA hval
  obtain ⟨v0, vs0, d0, ds0, p0, q0, hargs, rfl, rfl, h0, r0⟩ := trodAll_cons hA
  obtain ⟨v1, vs1, d1, ds1, p1, q1, hargs1, rfl, rfl, h1, r1⟩ := trodAll_cons r0
  obtain ⟨v2, vs2, d2, ds2, p2, q2, hargs2, rfl, rfl, h2, r2⟩ := trodAll_cons r1
  obtain ⟨rfl, rfl, rfl⟩ := trodAll_nil r2
  obtain rfl : args = #[v0, v1, v2] := by cases args; simp_all
  obtain ⟨rfl, rfl⟩ := trodVars_none hV
  obtain ⟨cs, rfl, hsz⟩ := okWide_struct Try.underlying26 (hval 0 26 v0 rfl rfl)
  have k0 := h0
  have k1 := h1
  have lt1 : ∀ x ∈ p1, x.block < W.heap.size := by obtain ⟨m, hm⟩ := k1; exact DataW.trod_lt m _ _ _ hm
  have k2 := h2
  have lt2 : ∀ x ∈ p2, x.block < W.heap.size := by obtain ⟨m, hm⟩ := k2; exact DataW.trod_lt m _ _ _ hm
  have lt0 : ∀ x ∈ p0, x.block < W.heap.size := by obtain ⟨m, hm⟩ := k0; exact DataW.trod_lt m _ _ _ hm
  obtain ⟨f2, hf2⟩ := h2
  obtain ⟨s, es, _, ws⟩ := DataW.trod_int Try.underlying32 hf2
  obtain ⟨hs0, hs1⟩ := u16_wf ws
  obtain ⟨s1, rfl⟩ := okWide_int Try.underlying32 (hval 2 32 v2 rfl rfl)
  simp [Value.cells] at es
  subst es
  obtain ⟨cy, rfl, hszy⟩ := okWide_struct Try.underlying24 (hval 1 24 v1 rfl rfl)
  obtain ⟨Y0, my, ky, zy, rfl, iy⟩ := raw06_of (fun _ => rfl) hszy h1
  obtain ⟨hCy, hcy, hny, h63y, hbyy⟩ := iy.bytes
  obtain ⟨A0, m0, k0', z0, A1, m1, k1', z1, a2, A3, m3, k3, z3, A4, m4, k4, z4, rfl, i0, i1, ⟨h20, h21⟩, i3, i4⟩ := raw42_of (fun _ => rfl) hsz h0
  obtain ⟨hC0, hc0, hn0, h630, hby0⟩ := i0.bytes
  obtain ⟨hC1, hc1, hn1, h631, hby1⟩ := i1.bytes
  obtain ⟨hC3, hc3, hn3, h633, hby3⟩ := i3.bytes
  obtain ⟨hC4, hc4, hn4, _, hby4⟩ := i4.bytes
  clear hA0 hval0 hsz0 hval hA
  obtain ⟨V, U, A, C, hm, hp⟩ := made42 h630 h631 h633 hby0 hby1 hby3 hby4 h20 h21
  obtain ⟨kd, hkd⟩ := done42 hs0 hs1 V A (Nat.le_trans hp.al (by decide))
  obtain ⟨W7, X, hm6, hx⟩ := Pd.made06 h63y hbyy
  have hcall := Pd.then_law A0 A1 A3 A4 Y0 k0' k1' k3 k4 ky (z0.take m0) (z1.take m1) (z3.take m3) (z4.take m4) (zy.take my) a2 s1 W hC0 hc0 hC1 hc1 hC3 hc3 hC4 hc4 hCy hcy h633 hby3 h63y hbyy V U W7 A C (doneL s1.toNat A.length) X kd hm hp hm6 hx (hkd kd (Nat.le_refl _)) Pd.doneL_lt Pd.doneL_nodup Pd.doneL_len
  rw [← hn0, ← hn1, ← hn3, ← hn4, ← hny] at hcall
  refine hcall.mono fun e W' ⟨he, bel⟩ => ?_
  subst he
  exact ⟨_, rfl, _, _, _, [], _, [], hW', trodAll_mk1 (shut_bool Try.underlying4 _), (trodAll_cons_mk (Below.trod laidOut (by kernel_rfl) (of_decide_eq_true (by kernel_rfl)) k0 bel lt0) (trodAll_cons_mk (Below.trod laidOut (by kernel_rfl) (of_decide_eq_true (by kernel_rfl)) k1 bel lt1) (trodAll_cons_mk (Below.trod laidOut (by kernel_rfl) (of_decide_eq_true (by kernel_rfl)) k2 bel lt2) trodAll_mk0))), rfl, bel.frame _, fun h => by cases h⟩
theorem said : Rows.EmbedThenSaid :=
  OpenClaim.holds_of_wide 6 Try.f6 rfl rfl rfl rfl rfl rfl rfl ⟨rfl, rfl, rfl, rfl, rfl⟩ rfl rfl rfl rfl rfl (by kernel_rfl) Try.func6 (by kernel_rfl)
    (of_decide_eq_true (by kernel_rfl)) (by unfold Func.isWrapper; first | (rw [if_pos (by decide +kernel)]; kernel_rfl) | (rw [if_neg (by decide +kernel)]; exact ⟨rfl, rfl⟩))
    (fun os started H enc _ => lifted os started H enc)
#print axioms said
end embedThen
end Go.Proofs.Ytheclfjbedajfaa
