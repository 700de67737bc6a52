/- The argument of chapter 12's laws, opened: bytes of a structure, two numbers, bytes; no condition. -/
/- DisjunctDesigns: the law's row and its tied card, out of its walk; the condition is the row's own: the table of math/bits as the program's text lays it. -/
import Derived.Test.YtmfmlfaglemgfaaDoorGl
import Derived.WalkKit
import Derived.ProofKit
import Derived.OpenShut
import Derived.ChangeOld
import Derived.ChangeSame
import Derived.Below
import Derived.SizedLaws
import Derived.Lib.SmallJoins
import Derived.Test.YtmfmlfaglemgfaaDoorDw
import Derived.Test.YtmfmlfaglemgfaaDoorRows
import Derived.Test.YtmfmlfaglemgfaaDoorCards
import Derived.Test.YtmfmlfaglemgfaaDoorTie
import Derived.Stop.Joined
import Derived.LaidMore
import Derived.Lib.LaidTab
import Derived.SevenTiedAt
namespace Go.Proofs.YtmfmlfaglemgfaaDoor
open Go.ChangeShapes Go.WideShapes Go.ChangeAt Go.RowKit Go.Lib Go.Proofs.YtmfmlfaglemgfaaDoorW.PrintWords
set_option linter.unusedVariables false
/-- A row of bytes that came in. -/
def IsRow (w : World) (a : Option Addr) (len cap : Nat) (zs : List Int) : Prop :=
  (a = none ∧ len = 0 ∧ cap = 0 ∧ zs = []) ∨
  ∃ x, a = some x ∧ len ≤ cap ∧ cap ≤ maxLen ∧ zs.length = cap ∧ (∀ i, i < zs.length → w.cell? (x.add i) = some (.int .u8 (zs.getD i 0))) ∧ ∀ n ∈ zs, (Lit.int .u8 n).wf = true
theorem IsRow.bytes {w : World} {a : Option Addr} {len cap : Nat} {zs : List Int} (h : IsRow w a len cap zs) :
    (Kd.int .u8).C w a (zs.take len).length (zs.take len) ∧ (zs.take len).length ≤ cap ∧ len = (zs.take len).length ∧ (zs.take len).length < 2 ^ 63 ∧ okL 256 (zs.take len) = true := by
  rcases h with ⟨rfl, rfl, rfl, rfl⟩ | ⟨x, rfl, hl, hm, hz, hc, hw⟩
  · exact ⟨Kd.C_of_reads (d := 0) ⟨rfl, by simp, fun h => by simp at h⟩, by simp, rfl, by simp, rfl⟩
  · have e : (zs.take len).length = len := by rw [List.length_take]; omega
    have hm' : cap ≤ 9223372036854775807 := hm
    refine ⟨?_, by omega, e.symm, by omega, ?_⟩
    · rw [e]
      refine Kd.C_of_reads (d := 0) ⟨e, by omega, fun _ => ⟨x, rfl, fun j hj => ?_⟩⟩
      rw [hc j (by omega)]
      simp only [List.getD_eq_getElem?_getD, List.getElem?_take, if_pos hj]
    · rw [okL_iff]
      intro b hb
      have := hw b (List.mem_of_mem_take hb)
      simp only [Lit.wf, Bool.and_eq_true, decide_eq_true_eq] at this
      have e1 : IntKind.u8.min = 0 := by decide
      have e2 : IntKind.u8.max = 255 := by decide
      rw [e1, e2] at this
      omega
theorem byte_wf {n : Int} (h : (Lit.int .u8 n).wf = true) : 0 ≤ n ∧ n < 256 := by
  simp only [Lit.wf, Bool.and_eq_true, decide_eq_true_eq] at h
  have e1 : IntKind.u8.min = 0 := by decide
  have e2 : IntKind.u8.max = 255 := by decide
  rw [e1, e2] at h
  omega
/-- One slice of bytes among the cells of an argument. -/
theorem bytes_of {H : Type} {enc : TypeId × Value → H} {W : World} {base n : Nat} {sp : Nat → Bool} {held : Bool} {c : Value} {y : DataW H × List MemPlace} (hsp : ∀ b, sp b = true) (h : DataW.trod enc Tryd.prog W base sp held n 22 [c] = some y) : ∃ A m k zs, c = .slice A m k ∧ IsRow W A m k zs := by
  rcases open_ints Tryd.underlying22 Tryd.underlying5 (by kernel_rfl) h with ⟨hcs, _⟩ | ⟨x, l, c', zs, hcs, _, hl, hm, hz, _, hcell, hwz⟩
  · simp at hcs
    subst hcs
    exact ⟨none, 0, 0, [], rfl, .inl ⟨rfl, rfl, rfl, rfl⟩⟩
  · simp at hcs
    subst hcs
    rw [hsp] at hz
    exact ⟨some x, l, c', zs, rfl, .inr ⟨x, rfl, hl, hm, by simpa using hz, hcell, hwz⟩⟩
/-- The argument, opened: a structure's bytes, two numbers, bytes. -/
theorem raw_of {H : Type} {enc : TypeId × Value → H} {W : World} {base : Nat} {sp : Nat → Bool} {held : Bool} {cs : Array Value} {d : DataW H} {ps : List MemPlace} (hsp : ∀ b, sp b = true) (hsz : cs.size = Tryd.prog.cellsOf 26) (h : DataW.Trod enc Tryd.prog W base sp held 26 (.agg cs) d ps) :
    ∃ A0 m0 k0 z0 a1 a2 A3 m3 k3 z3, cs = #[.slice A0 m0 k0, .int .u8 a1, .int .u8 a2, .slice A3 m3 k3] ∧ IsRow W A0 m0 k0 z0 ∧ (0 ≤ a1 ∧ a1 < 256) ∧ (0 ≤ a2 ∧ a2 < 256) ∧ IsRow W A3 m3 k3 z3 := by
  obtain ⟨fuel, hf⟩ := h
  obtain ⟨y0, y1, y2, y3, n, _, _, h0, h1, h2, h3⟩ := Go.Joins.trod_struct4 Tryd.underlying26 hf
  have s26 : Tryd.prog.cellsOf 26 = 4 := by kernel_rfl
  have s24 : Tryd.prog.cellsOf 24 = 1 := by kernel_rfl
  have s22 : Tryd.prog.cellsOf 22 = 1 := by kernel_rfl
  have s21 : Tryd.prog.cellsOf 5 = 1 := by kernel_rfl
  rw [s26] at hsz
  obtain ⟨c0, c1, c2, c3, rfl⟩ := Go.Joins.array4 hsz
  simp [Value.cells, s24, s22, s21] at h0 h1 h2 h3
  obtain ⟨y00, n0, _, _, h00⟩ := trod_struct1 Tryd.underlying24 h0
  simp [s22] at h00
  obtain ⟨A0, m0, k0, z0, rfl, r0⟩ := bytes_of hsp h00
  obtain ⟨A3, m3, k3, z3, rfl, r3⟩ := bytes_of hsp h3
  obtain ⟨a1, e1, _, w1⟩ := DataW.trod_int Tryd.underlying5 h1
  obtain ⟨a2, e2, _, w2⟩ := DataW.trod_int Tryd.underlying5 h2
  simp at e1 e2
  subst e1 e2
  exact ⟨A0, m0, k0, z0, a1, a2, A3, m3, k3, z3, rfl, r0, byte_wf w1, byte_wf w2, r3⟩
end Go.Proofs.YtmfmlfaglemgfaaDoor


namespace Go.Proofs.YtmfmlfaglemgfaaDoor.disjunctDesigns
open Go.ChangeShapes Go.WideShapes Go.ChangeAt Go.RowKit Go.Lib Go.Proofs.YtmfmlfaglemgfaaDoorW.PrintWords Go.Proofs.YtmfmlfaglemgfaaDoor
set_option linter.unusedVariables false
set_option maxRecDepth 100000
theorem own : ownKnob Tryd.prog.godebug = none := by kernel_rfl
theorem laidOut : laidOutB Tryd.prog = true := by kernel_rfl
theorem gT : Tryd.prog.globalNamed "math/bits.deBruijn64tab" = some 0 := by kernel_rfl
theorem gTType : (Tryd.prog.globals[0]?).map (·.type) = some 81 := by kernel_rfl
theorem tabSize : Tryd.prog.cellsOf 81 = 64 := by kernel_rfl
theorem byteSize : Tryd.prog.cellsOf 5 = 1 := by kernel_rfl
abbrev tabZ : List Int := dbTab.map fun (n : Nat) => (n : Int)
theorem laid_eq : Rows.disjunctDesignsRow.laid = [("math/bits.deBruijn64tab", tabData .u8 tabZ)] := by kernel_rfl
/-- What the row lays, as the walk wants it. -/
theorem tab_of {W : World} (h : laidMet Tryd.prog Rows.disjunctDesignsRow.laid W) : TabOk W := by
  rw [laid_eq] at h
  have hT := tabIs_of_head gT gTType Tryd.underlying81 Tryd.underlying5 byteSize tabSize h
  intro i hi
  rw [hT.cell gT i (by simpa [tabZ, dbTab] using hi)]
  simp only [tabZ, List.getD_eq_getElem?_getD, List.getElem?_map]
  rw [List.getElem?_eq_getElem (show i < dbTab.length from hi)]; rfl
noncomputable def laidWorld (os : Os) : World :=
  { World.holding Tryd.prog os ⟨#[], #[], []⟩ with heap := (World.holding Tryd.prog os ⟨#[], #[], []⟩).heap.modify 0 fun
      | .cells _ t frozen => .cells (dbTab.map fun (n : Nat) => Value.int .u8 (n : Int)).toArray t frozen
      | o => o }
theorem laid_met (os : Os) (args : Array Value) : laidMet Tryd.prog Rows.disjunctDesignsRow.laid ((laidWorld os).forCall (fun _ _ => 0) ⟨#[], args, []⟩).memory :=
  laidMet_of_run' 8 (by kernel_rfl) (by kernel_rfl)
set_option maxRecDepth 100000 in
theorem lifted (os : Os) (started : os.Started) (H : Type) (enc : TypeId × Value → H) :
    ReturnsInHanded {} Tryd.checked os 3 .any (fun w args => (Rows.disjunctDesignsSpec.pre enc Tryd.prog Tryd.f3 [] false w args ∧ laidMet Tryd.prog Rows.disjunctDesignsRow.laid w) ∧ sizedMet enc Tryd.prog Tryd.f3 (OpenSpec.ofChange Rows.disjunctDesignsSpec) false w args)
      (Rows.disjunctDesignsSpec.post enc Tryd.prog Tryd.f3 false true false false) := by
  refine returnsInHanded_of_change_and (C := Tryd.checked) (X := fun w _ => laidMet Tryd.prog Rows.disjunctDesignsRow.laid w) (fun _ _ _ hh h => h.of_heap hh) own started (by kernel_rfl) Tryd.func3
    (ChangeSpec.witness_at (enc := enc) (C := Tryd.checked) (os := os) (X := fun w _ => laidMet Tryd.prog Rows.disjunctDesignsRow.laid w) false (laidWorld os) #[.agg #[.slice none 0 0, .int .u8 0, .int .u8 0, .slice none 0 0]] 8 rfl (by kernel_rfl) (by kernel_rfl) (by kernel_rfl) (by kernel_rfl) (by kernel_rfl) (laid_met os _)) ?_
  intro W base args ds gs before hval0 hW _ _ hL _
  have hval : ∀ (j : Nat) t v, Tryd.f3.params[j]? = some t → args[j]? = some v → Value.okWide Tryd.prog W .any base t v := hval0
  have hW' := hW
  obtain ⟨p, q, hA0, hV, rfl, hfz, hnd⟩ := hW
  have hA : DataW.TrodAll enc Tryd.prog W 0 (fun _ => true) true Tryd.f3.params.toList args.toList ds p := hA0
  rw [Tryd.params3] at hA hval
  obtain ⟨v0, vs0, d0, ds0, p0, q0, hargs, rfl, rfl, h0, r0⟩ := trodAll_cons hA
  obtain ⟨rfl, rfl, rfl⟩ := trodAll_nil r0
  obtain rfl : args = #[v0] := by cases args; simp_all
  obtain ⟨rfl, rfl⟩ := trodVars_none hV
  obtain ⟨cs, rfl, hsz⟩ := okWide_struct Tryd.underlying26 (hval 0 26 v0 rfl rfl)
  have k0 := h0
  have lt0 : ∀ x ∈ p0, x.block < W.heap.size := by obtain ⟨m, hm⟩ := k0; exact DataW.trod_lt m _ _ _ hm
  have hT := tab_of hL
  obtain ⟨A0, m0, k0', z0, a1, a2, A3, m3, k3, z3, rfl, i0, ⟨h10, h11⟩, ⟨h20, h21⟩, i3⟩ := raw_of (fun _ => rfl) hsz h0
  obtain ⟨hC0, hc0, hn0, h630, hby0⟩ := i0.bytes
  obtain ⟨hC3, hc3, hn3, _, hby3⟩ := i3.bytes
  clear hA0 hval0 hval hA
  have hcall := designs_law A0 A3 k0' k3 (z0.take m0) (z3.take m3) a1 a2 W hC0 hc0 hC3 hc3 h630 hby0 hby3 h10 h11 h20 h21 hT
  rw [← hn0, ← hn3] at hcall
  refine hcall.mono fun e W' ⟨he, bel⟩ => ?_
  subst he
  exact ⟨_, rfl, _, _, _, [], _, [], hW', trodAll_mk1 (shut_bool Tryd.underlying4 _), (trodAll_cons_mk (Below.trod laidOut (by kernel_rfl) (of_decide_eq_true (by kernel_rfl)) k0 bel lt0) trodAll_mk0), rfl, bel.frame _, fun h => by cases h⟩
theorem said : Rows.DisjunctDesignsSaid :=
  OpenClaim.holds_of_wide 3 Tryd.f3 rfl rfl rfl rfl rfl rfl rfl ⟨rfl, rfl, rfl, rfl, rfl⟩ rfl rfl rfl rfl rfl (by kernel_rfl) Tryd.func3 (by kernel_rfl)
    (of_decide_eq_true (by kernel_rfl)) (by unfold Func.isWrapper; first | (rw [if_pos (by decide +kernel)]; kernel_rfl) | (rw [if_neg (by decide +kernel)]; exact ⟨rfl, rfl⟩))
    (fun os started H enc _ => lifted os started H enc)
/-- **The tied card.** -/
theorem card : Rows.DisjunctDesignsCardSaid :=
  Claim7.holds_tied_plain_at .later [] [.data] true (true, "42ebaadadf877335a021f40f56e8b2fecf8591aecfa5e5256acfe3154a680786") false
    said (fun _ h => by cases h) (by kernel_rfl) (fun _ h => by cases h) disjunctDesigns_row_tie rfl ⟨rfl, rfl⟩ (by kernel_rfl) rfl
    (fun f fn hf hfn => by
      obtain rfl : f = 3 := Option.some.inj ((show Tryd.prog.funcNamed "plexus/plexuslaw12.DisjunctDesigns" = some 3 by kernel_rfl).symm.trans hf) |>.symm
      obtain rfl : fn = Tryd.f3 := (Option.some.inj (Tryd.func3.symm.trans hfn)).symm
      exact ⟨by kernel_rfl, fun j t ht => by
        rw [Tryd.params3] at ht
        have h3 : t = 26 := by
          rcases j with _ | j
          · simpa using ht.symm
          · simp at ht
        subst h3; exact (show Tryd.prog.wantsStandIn 26 = false by kernel_rfl)⟩)
    (by kernel_rfl)
#print axioms card
end Go.Proofs.YtmfmlfaglemgfaaDoor.disjunctDesigns
