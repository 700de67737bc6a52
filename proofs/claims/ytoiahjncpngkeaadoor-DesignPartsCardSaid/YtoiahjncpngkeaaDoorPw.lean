/- DesignParts: the law's row and its tied card, out of the printed walk and the plain law; the condition is the row's own: the table of math/bits as the program's text lays it. -/
import Derived.Test.YtoiahjncpngkeaaDoorPdx18
import Derived.Test.YtoiahjncpngkeaaDoorPs
import Derived.Test.YtoiahjncpngkeaaDoorRows
import Derived.Test.YtoiahjncpngkeaaDoorCards
import Derived.Test.YtoiahjncpngkeaaDoorTie
import Derived.WalkKit
import Derived.ProofKit
import Derived.OpenShut
import Derived.ChangeOld
import Derived.ChangeSame
import Derived.Below
import Derived.Stop.Joined
import Derived.LaidMore
import Derived.Lib.LaidTab
import Derived.SevenTiedAt
namespace Go.Proofs.YtoiahjncpngkeaaDoor.designParts
open Go.ChangeShapes Go.WideShapes Go.ChangeAt Go.RowKit Go.Lib Go.Proofs.YtoiahjncpngkeaaDoorW.PrintWords Go.Proofs.YtoiahjncpngkeaaDoor
set_option linter.unusedVariables false

theorem own : ownKnob Tryd.prog.godebug = none := by kernel_rfl
theorem laidOut : laidOutB Tryd.prog = true := by kernel_rfl
theorem gT : Tryd.prog.globalNamed "math/bits.deBruijn64tab" = some 0 := by kernel_rfl
theorem gTType : (Tryd.prog.globals[0]?).map (·.type) = some 106 := by kernel_rfl
theorem tabSize : Tryd.prog.cellsOf 106 = 64 := by kernel_rfl
theorem byteSize : Tryd.prog.cellsOf 5 = 1 := by kernel_rfl
abbrev tabZ : List Int := dbTab.map fun (n : Nat) => (n : Int)
theorem laid_eq : Rows.designPartsRow.laid = [("math/bits.deBruijn64tab", tabData .u8 tabZ)] := by kernel_rfl
/-- What the row lays, as the walk wants it. -/
theorem tab_of {W : World} (h : laidMet Tryd.prog Rows.designPartsRow.laid W) : TabOk W := by
  rw [laid_eq] at h
  have hT := tabIs_of_head gT gTType Tryd.underlying106 Tryd.underlying5 byteSize tabSize h
  intro i hi
  rw [hT.cell gT i (by simpa [tabZ, dbTab] using hi)]
  simp only [tabZ, List.getD_eq_getElem?_getD, List.getElem?_map]
  rw [List.getElem?_eq_getElem (show i < dbTab.length from hi)]; rfl
noncomputable def laidWorld (os : Os) : World :=
  { World.holding Tryd.prog os ⟨#[], #[], []⟩ with heap := (World.holding Tryd.prog os ⟨#[], #[], []⟩).heap.modify 0 fun
      | .cells _ t frozen => .cells (dbTab.map fun (n : Nat) => Value.int .u8 (n : Int)).toArray t frozen
      | o => o }
theorem laid_met (os : Os) (args : Array Value) : laidMet Tryd.prog Rows.designPartsRow.laid ((laidWorld os).forCall (fun _ _ => 0) ⟨#[], args, []⟩).memory :=
  laidMet_of_run' 8 (by kernel_rfl) (by kernel_rfl)
/-- A row of bytes that came in. -/
def IsRow (w : World) (a : Option Addr) (len cap : Nat) (zs : List Int) : Prop :=
  (a = none ∧ len = 0 ∧ cap = 0 ∧ zs = []) ∨
  ∃ x, a = some x ∧ len ≤ cap ∧ cap ≤ maxLen ∧ zs.length = cap ∧ (∀ i, i < zs.length → w.cell? (x.add i) = some (.int .u8 (zs.getD i 0))) ∧ ∀ n ∈ zs, (Lit.int .u8 n).wf = true
theorem IsRow.bytes {w : World} {a : Option Addr} {len cap : Nat} {zs : List Int} (h : IsRow w a len cap zs) :
    (Kd.int .u8).C w a (zs.take len).length (zs.take len) ∧ (zs.take len).length ≤ cap ∧ len = (zs.take len).length ∧ (zs.take len).length < 2 ^ 63 ∧ okL 256 (zs.take len) = true := by
  rcases h with ⟨rfl, rfl, rfl, rfl⟩ | ⟨x, rfl, hl, hm, hz, hc, hw⟩
  · exact ⟨Kd.C_of_reads (d := 0) ⟨rfl, by simp, fun h => by simp at h⟩, by simp, rfl, by simp, rfl⟩
  · have e : (zs.take len).length = len := by rw [List.length_take]; omega
    have hm' : cap ≤ 9223372036854775807 := hm
    refine ⟨?_, by omega, e.symm, by omega, ?_⟩
    · rw [e]
      refine Kd.C_of_reads (d := 0) ⟨e, by omega, fun _ => ⟨x, rfl, fun j hj => ?_⟩⟩
      rw [hc j (by omega)]
      simp only [List.getD_eq_getElem?_getD, List.getElem?_take, if_pos hj]
    · rw [okL_iff]
      intro b hb
      have := hw b (List.mem_of_mem_take hb)
      simp only [Lit.wf, Bool.and_eq_true, decide_eq_true_eq] at this
      have e1 : IntKind.u8.min = 0 := by decide
      have e2 : IntKind.u8.max = 255 := by decide
      rw [e1, e2] at this
      omega

set_option maxRecDepth 100000 in
theorem lifted (os : Os) (started : os.Started) (H : Type) (enc : TypeId × Value → H) :
    ReturnsInHanded {} Tryd.checked os 8 .any (fun w args => (Rows.designPartsSpec.pre enc Tryd.prog Tryd.f8 [] false w args ∧ laidMet Tryd.prog Rows.designPartsRow.laid w) ∧ sizedMet enc Tryd.prog Tryd.f8 (OpenSpec.ofChange Rows.designPartsSpec) false w args)
      (Rows.designPartsSpec.post enc Tryd.prog Tryd.f8 false true false false) := by
  refine returnsInHanded_of_change_and (C := Tryd.checked) (X := fun w _ => laidMet Tryd.prog Rows.designPartsRow.laid w) (fun _ _ _ hh h => h.of_heap hh) own started (by kernel_rfl) Tryd.func8
    (ChangeSpec.witness_at (enc := enc) (C := Tryd.checked) (os := os) (X := fun w _ => laidMet Tryd.prog Rows.designPartsRow.laid w) false (laidWorld os) #[.agg #[.slice none 0 0], .int .u8 0] 8 rfl (by kernel_rfl) (by kernel_rfl) (by kernel_rfl) (by kernel_rfl) (by kernel_rfl) (laid_met os _)) ?_
  intro W base args ds gs before hval0 hW _ _ hL _
  have hval : ∀ (j : Nat) t v, Tryd.f8.params[j]? = some t → args[j]? = some v → Value.okWide Tryd.prog W .any base t v := hval0
  have hW' := hW
  obtain ⟨p, q, hA0, hV, rfl, hfz, hnd⟩ := hW
  have hA : DataW.TrodAll enc Tryd.prog W 0 (fun _ => true) true Tryd.f8.params.toList args.toList ds p := hA0
  rw [Tryd.params8] at hA hval
  obtain ⟨v0, v1, d0, d1, p0, p1, rfl, rfl, rfl, h0, h1⟩ := trodAll_two hA
  obtain ⟨a1, rfl, rfl, rfl, hw1⟩ := open_int Tryd.underlying5 (hval 1 5 v1 rfl rfl) h1
  have ha1 : 0 ≤ a1 ∧ a1 ≤ 255 := by
    simp only [Lit.wf, Bool.and_eq_true, decide_eq_true_eq] at hw1
    have e1 : IntKind.u8.min = 0 := by decide
    have e2 : IntKind.u8.max = 255 := by decide
    rw [e1, e2] at hw1
    exact hw1
  obtain ⟨rfl, rfl⟩ := trodVars_none hV
  obtain ⟨cs, rfl, hsz⟩ := okWide_struct Tryd.underlying24 (hval 0 24 v0 rfl rfl)
  have k0 := h0
  have lt0 : ∀ x ∈ p0, x.block < W.heap.size := by obtain ⟨m, hm⟩ := k0; exact DataW.trod_lt m _ _ _ hm
  have hT := tab_of hL
  clear hA0 hval0 hval
  obtain ⟨A0, n0, c0, zs, rfl, hr⟩ : ∃ A n c zs, cs = #[.slice A n c] ∧ IsRow W A n c zs := by
    obtain ⟨fuel, hf⟩ := h0
    obtain ⟨y0, n, hx, hlen, hf0⟩ := trod_struct1 Tryd.underlying24 hf
    have h24 : Tryd.prog.cellsOf 24 = 1 := by kernel_rfl
    have h22 : Tryd.prog.cellsOf 22 = 1 := by kernel_rfl
    rw [h24] at hsz
    obtain ⟨c0, rfl⟩ := Array.size_eq_one_iff.1 hsz
    rcases open_ints Tryd.underlying22 Tryd.underlying5 (by kernel_rfl) hf0 with ⟨hcs, _⟩ | ⟨x, l, c, zs, hcs, _, hl, hm, hz, _, hcell, hwz⟩
    · simp [Value.cells, h22] at hcs
      subst hcs
      exact ⟨none, 0, 0, [], rfl, .inl ⟨rfl, rfl, rfl, rfl⟩⟩
    · simp [Value.cells, h22] at hcs
      subst hcs
      exact ⟨some x, l, c, zs, rfl, .inr ⟨x, rfl, hl, hm, by simpa using hz, hcell, hwz⟩⟩
  obtain ⟨hC, hc, hn, h63, hby⟩ := hr.bytes
  generalize zs.take n0 = ys at hC hc hn h63 hby
  subst hn
  obtain ⟨k, hk⟩ := Pd.parts_true h63 hby ha1.1 ha1.2
  refine (Pd.plexuslaw09_DesignParts.calls k A0 c0 ys a1 W hC hc hT hk).mono fun e W' ⟨he, bel⟩ => ?_
  subst he
  exact ⟨_, rfl, _, _, _, [], _, [], hW', trodAll_mk1 (shut_bool Tryd.underlying4 _), trodAll_mk2 (Below.trod laidOut (by kernel_rfl) (of_decide_eq_true (by kernel_rfl)) k0 bel lt0) (shut_int Tryd.underlying5 hw1), rfl, bel.frame _, fun h => by cases h⟩
theorem said : Rows.DesignPartsSaid :=
  OpenClaim.holds_of_wide 8 Tryd.f8 rfl rfl rfl rfl rfl rfl rfl ⟨rfl, rfl, rfl, rfl, rfl⟩ rfl rfl rfl rfl rfl (by kernel_rfl) Tryd.func8 (by kernel_rfl)
    (of_decide_eq_true (by kernel_rfl)) (by unfold Func.isWrapper; first | (rw [if_pos (by decide +kernel)]; kernel_rfl) | (rw [if_neg (by decide +kernel)]; exact ⟨rfl, rfl⟩))
    (fun os started H enc _ => lifted os started H enc)
/-- **The tied card.** -/
theorem card : Rows.DesignPartsCardSaid :=
  Claim7.holds_tied_plain_at .later [] [.data] true (true, "5bef8d757bf5975e2d4bfd6f7aef2fefe831bc379bdb3c28e3d3f2d345d4dedb") false
    said (fun _ h => by cases h) (by kernel_rfl) (fun _ h => by cases h) designParts_row_tie rfl ⟨rfl, rfl⟩ (by kernel_rfl) rfl
    (fun f fn hf hfn => by
      obtain rfl : f = 8 := Option.some.inj ((show Tryd.prog.funcNamed "plexus/plexuslaw09.DesignParts" = some 8 by kernel_rfl).symm.trans hf) |>.symm
      obtain rfl : fn = Tryd.f8 := (Option.some.inj (Tryd.func8.symm.trans hfn)).symm
      exact ⟨by kernel_rfl, fun j t ht => by
        rw [Tryd.params8] at ht
        have h3 : t = 24 ∨ t = 5 := by
          rcases j with _ | _ | j
          · left; simpa using ht.symm
          · right; simpa using ht.symm
          · simp at ht
        rcases h3 with h3 | h3
        · subst h3; exact (show Tryd.prog.wantsStandIn 24 = false by kernel_rfl)
        · subst h3; exact (show Tryd.prog.wantsStandIn 5 = false by kernel_rfl)⟩)
    (by kernel_rfl)
end Go.Proofs.YtoiahjncpngkeaaDoor.designParts
