/- EmbedImages: the printed law answers true; in plain Lean. -/
/- Arguments opened: a structure's bytes, rows of bytes, numbers. -/
/- EmbedImages: the law's row and its tied card; the condition is the row's own: the table of math/bits as the program's text lays it. -/
import Derived.Test.YtheclfjbedajfaaDoorPdx0
import Derived.Test.YtheclfjbedajfaaDoorPk
import Derived.Test.YtheclfjbedajfaaDoorPmx3
import Derived.Test.YtheclfjbedajfaaDoorSi
import Derived.WalkKit
import Derived.ProofKit
import Derived.OpenShut
import Derived.ChangeOld
import Derived.ChangeSame
import Derived.Below
import Derived.SizedLaws
import Derived.Lib.SmallJoins
import Derived.Test.YtheclfjbedajfaaDoorRows
import Derived.Test.YtheclfjbedajfaaDoorCards
import Derived.Test.YtheclfjbedajfaaDoorTie
import Derived.Stop.Joined
import Derived.LaidMore
import Derived.Lib.LaidTab
import Derived.SevenTiedAt
namespace Go.Proofs.YtheclfjbedajfaaDoor.Pm
set_option linter.unusedSimpArgs false
set_option linter.unusedVariables false
open Go.RowKit Go.Lib Go.Proofs.YtheclfjbedajfaaDoorW.PrintWords Go.Proofs.YtheclfjbedajfaaDoor

/-- From some number of rounds on. -/
def Ev {α : Type} (g : Nat → Option α) (r : α) : Prop := ∃ K0, ∀ K, K0 ≤ K → g K = some r
theorem Ev.of_mono {α : Type} {g : Nat → Option α} {r : α} {K0 : Nat} (hm : ∀ k, LeO (g k) (g (k + 1))) (h : g K0 = some r) : Ev g r :=
  ⟨K0, fun K hK => by
    obtain ⟨d, rfl⟩ : ∃ d, K = K0 + d := ⟨K - K0, by omega⟩
    clear hK
    induction d with
    | zero => exact h
    | succ d ih => exact hm _ _ ih⟩
theorem Ev.bind {α β : Type} {g : Nat → Option α} {f : Nat → α → Option β} {a : α} {r : β} (h : Ev g a) (hf : Ev (fun k => f k a) r) : Ev (fun k => (g k).bind (f k)) r := by
  obtain ⟨K1, h1⟩ := h
  obtain ⟨K2, h2⟩ := hf
  exact ⟨max K1 K2, fun K hK => by show (g K).bind (f K) = some r; rw [h1 K (by omega), Option.bind_some]; exact h2 K (by omega)⟩
theorem Ev.succ {α : Type} {g g' : Nat → Option α} {r : α} (hs : ∀ k, g (k + 1) = g' k) (h : Ev g' r) : Ev g r := by
  obtain ⟨K, h⟩ := h
  exact ⟨K + 1, fun k hk => by
    obtain ⟨d, rfl⟩ : ∃ d, k = d + 1 := ⟨k - 1, by omega⟩
    exact (hs d).trans (h d (by omega))⟩
theorem blocks_self (l : List Int) (hl : l.length < 1000) : ∀ (n i : Nat), i + n = l.length → plexusref06_SameBlocks.l0 (n + 1) l l i = some true := by
  intro n
  induction n with
  | zero =>
    intro i hi
    unfold plexusref06_SameBlocks.l0
    rw [if_neg (by omega)]
  | succ n ih =>
    intro i hi
    unfold plexusref06_SameBlocks.l0
    rw [if_pos (by omega), if_pos (by omega), if_pos (by omega), if_pos rfl, wrap_succ (by omega)]
    exact ih (i + 1) (by omega)
theorem same_self (V : Int) (l : List Int) (hl : l.length < 1000) : Ev (fun K => plexusref06_Same.f K V l V l) true := by
  refine Ev.of_mono (K0 := l.length + 1) (fun k => plexusref06_Same.mono _ _ _ _ k) ?_
  unfold plexusref06_Same.f plexusref06_SameBlocks.f
  rw [if_pos rfl, if_pos rfl]
  have h := blocks_self l hl l.length 0 (by omega)
  simp only [Int.natCast_zero] at h
  rw [h]
  rfl
theorem image_f {V : Nat} {A g : List Nat} (hg : g.length = V) (hV : V ≤ 7) (hA : A.length ≤ 12) (hb : ∀ b ∈ A, b < 2 ^ V) (hq : ∀ q ∈ g, q < V) (hn : g.Nodup) : incidence_Image.f (V : Int) (il A) (il g) = some ((V : Int), il (imL A g)) := by
  unfold incidence_Image.f
  rw [if_pos ⟨by rw [il_length, hg], by rw [il_length, hg]; exact hV, by rw [il_length]; exact hA, by rw [il_length, hg]; exact okL_il hb, by rw [il_length, hg]; exact diffB_nat hq hn⟩, nl_il, nl_il]
theorem best_f {V : Nat} {A C D : List Nat} (hv : V ≤ 4) (hal : A.length ≤ 10) (hab : ∀ b ∈ A, b < 2 ^ V) (hcl : C.length ≤ 1000) (hcb : ∀ b ∈ C, b < 2 ^ V) (hD : ∀ i ∈ D, i < A.length) (hDn : D.Nodup) (hDl : D.length ≤ A.length) :
    ∃ F, plexuslaw42_best.f V (il A) V (il C) (il D) = some (il F, embM A C D F, 0) ∧ F ∈ lsL V V [] ∧ ∀ g ∈ lsL V V [], keptN A C D g ≤ keptN A C D F := by
  have h1 : (il A).length ≤ 12 := by rw [il_length]; exact Nat.le_trans hal (by decide)
  have h2 : (il C).length ≤ 1000 := by rw [il_length]; exact hcl
  have h3 : (il D).length < 1099511627776 := by rw [il_length]; exact Nat.lt_of_le_of_lt (Nat.le_trans hDl hal) (by decide)
  have h4 : okL 18446744073709551616 (il A) = true := okL_il fun b hb => Nat.lt_of_lt_of_le (hab b hb) (Nat.le_trans (Nat.pow_le_pow_right (by decide) hv) (by decide))
  have h5 : okL 18446744073709551616 (il C) = true := okL_il fun b hb => Nat.lt_of_lt_of_le (hcb b hb) (Nat.le_trans (Nat.pow_le_pow_right (by decide) hv) (by decide))
  have h6 : okI (il D) = true := okI_iff.2 fun x hx => by
    obtain ⟨q, hq, rfl⟩ := List.mem_map.1 hx
    have := hD q hq
    simp [Lit.wf, IntKind.min, IntKind.max, IntKind.signed, IntKind.bits]
    omega
  have e1 : diffB (il D) ((il A).length : Int) = true := by rw [il_length]; exact diffB_nat hD hDn
  obtain ⟨F, hF, he, hg⟩ := foldB_mem A C D (lsL V V []) (lsL_ne (fun _ h => by cases h) List.nodup_nil (by simp))
  refine ⟨F, ?_, hF, hg⟩
  unfold plexuslaw42_best.f embed_Best.f
  rw [if_pos ⟨h1, h2, h3, h4, h5, h6, nnI V, nnI V⟩, Option.bind_some]
  unfold bestF
  rw [if_neg (by omega), e1, if_neg (by decide), if_neg (by omega), nl_il, nl_il, nl_il, Int.toNat_natCast, he]
theorem kept_f {F M D : List Int} (hM : M.length < 1000) (hD : D.length < 1000) : embed_Kept.f F M D = some (keptL M D) := by
  unfold embed_Kept.f
  exact if_pos ⟨Nat.lt_trans hM (by decide), Nat.lt_trans hD (by decide)⟩
theorem images_true {l0 l1 : List Int} {a2 : Int} (g0 : l0.length < 2 ^ 63) (g1 : l1.length < 2 ^ 63) (h0 : okL 256 l0 = true) (h1 : okL 256 l1 = true) (ha : 0 ≤ a2) (ha2 : a2 < 18446744073709551616) : ∃ k, plexuslaw42_EmbedImages.f k l0 l1 a2 = some true := by
  obtain ⟨mo, rfl⟩ := Int.eq_ofNat_of_zero_le ha
  obtain ⟨hv1, hv4⟩ := limV_bd (nl l0) 4 (by decide)
  obtain ⟨V, hV⟩ : ∃ V, limV (nl l0) 4 = V := ⟨_, rfl⟩
  have hab := limB_memE (l := nl l0) (m := 4) (by decide) (by decide)
  have hal := limB_lenE (l := nl l0) (m := 4)
  obtain ⟨A, hA⟩ : ∃ A, limB (nl l0) 4 = A := ⟨_, rfl⟩
  rw [hV] at hv1 hv4 hab
  rw [hA] at hab hal
  have e0 : plexusref06_Limited.f l0 4 = some ((V : Int), il A) := by
    unfold plexusref06_Limited.f
    rw [if_pos ⟨g0, h0, by decide, by decide⟩]
    show some (((limV (nl l0) 4 : Nat) : Int), il (limB (nl l0) 4)) = _
    rw [hV, hA]
  obtain ⟨g, hg⟩ : ∃ g, shL (nl l1) V = g := ⟨_, rfl⟩
  have e1 : plexusref06_Shuffled.f (V : Int) l1 = some (il g) := by rw [← hg]; exact shuf_fE (U := V) (by omega) g1 h1
  have hgl : g.length = V := by rw [← hg]; exact shL_len (nl l1) V
  have hq : ∀ q ∈ g, q < V := by rw [← hg]; exact shL_lt _ _
  have hn : g.Nodup := by rw [← hg]; exact shL_nodup _ _
  have e2 := image_f hgl (by omega) (Nat.le_trans hal (by decide)) hab hq hn
  obtain ⟨C, hC⟩ : ∃ C, imL A g = C := ⟨_, rfl⟩
  have hCl : C.length = A.length := by rw [← hC, imL_len]
  have hCb : ∀ b ∈ C, b < 2 ^ V := by
    rw [← hC]
    intro b hb
    obtain ⟨x, _, rfl⟩ := List.mem_map.1 ((sortedL_permE _).mem_iff.1 hb)
    exact mvK_lt hq _ (Nat.le_refl _)
  have hm7 := mask_E (V := V) (by omega)
  have h77 := small7E (V := V) (by omega)
  obtain ⟨x, hx⟩ : ∃ x, mo &&& (2 ^ V - 1) = x := ⟨_, rfl⟩
  have hxV : x < 2 ^ V := by rw [← hx]; exact mask_lt
  have eX : Go.bits .and .u64 (mo : Int) (IntKind.u64.wrap ((shl .u64 1 (IntKind.u64.wrap (V : Int))) - 1)) = (x : Int) := by
    rw [hm7.1, uand (by omega) (by omega), hx]
  have e3 : plexusref06_With.f (il C) (x : Int) = some (il (withL C x)) := with_fE (U := V) (by omega) hCb (by omega) hxV
  have hwl : (withL C x).length = C.length + 1 := withL_length _ _
  have hwb : ∀ b ∈ withL C x, b < 2 ^ V := fun b hb => by
    rcases withL_mem.1 hb with rfl | h
    · exact hxV
    · exact hCb b h
  obtain ⟨kd, hkd⟩ := done42 (s := 65535) (by decide) (by decide) V A (by omega)
  have hda : doneL (65535 : Int).toNat A.length = List.range A.length := doneAll (by omega)
  rw [hda] at hkd
  have hD : ∀ i ∈ List.range A.length, i < A.length := fun i hi => List.mem_range.1 hi
  have hDa : ∀ i, i < A.length → i ∈ List.range A.length := fun i hi => List.mem_range.2 hi
  obtain ⟨F1, b1, k1, m1⟩ := best_f (C := C) hv4 hal hab (by omega) hCb hD List.nodup_range (by simp)
  obtain ⟨F2, b2, k2, m2⟩ := best_f (C := withL C x) hv4 hal hab (by omega) hwb hD List.nodup_range (by simp)
  have hgm : g ∈ lsL V V [] := lsL_all (by simpa using hn) hq hgl
  rw [← hC] at m1 m2
  obtain ⟨q1, q2, q3⟩ := images_plain (x := x) hD List.nodup_range hDa hgm m1 m2 k1
  rw [hC] at q1 q2 q3
  obtain ⟨f1, f2, f3⟩ := lsL_mem k1 (fun _ h => by cases h) List.nodup_nil
  have e4 := image_f (A := A) (g := F1) (by simpa using f1) (by omega) (Nat.le_trans hal (by decide)) hab f2 f3
  rw [q3] at e4
  obtain ⟨K1, hs⟩ := same_self (V : Int) (il C) (by rw [il_length]; omega)
  refine ⟨max kd K1 + 1, ?_⟩
  have hdk := hkd (max kd K1 + 1) (by omega)
  have hsk : plexusref06_Same.f (max kd K1) (V : Int) (il C) (V : Int) (il C) = some true := hs (max kd K1) (by omega)
  have l1' : (embM A C (List.range A.length) F1).length < 1000 := by rw [embM_len]; omega
  have l2' : (embM A (withL C x) (List.range A.length) F2).length < 1000 := by rw [embM_len]; omega
  have lD : (il (List.range A.length)).length < 1000 := by rw [il_length, List.length_range]; omega
  have z1 : ((keptL (embM A C (List.range A.length) F1) (il (List.range A.length))).length : Int) = ((il A).length : Int) := by
    rw [il_length]
    show ((keptN A C (List.range A.length) F1 : Nat) : Int) = _
    rw [q1, List.length_range]
  have z2 : ((keptL (embM A (withL C x) (List.range A.length) F2) (il (List.range A.length))).length : Int) = ((il A).length : Int) := by
    rw [il_length]
    show ((keptN A (withL C x) (List.range A.length) F2 : Nat) : Int) = _
    rw [q2, List.length_range]
  unfold plexuslaw42_EmbedImages.f
  rw [show plexuslaw42_examples.f = some true from rfl, Option.bind_some, if_pos rfl, e0, Option.bind_some]
  simp only []
  rw [e1, Option.bind_some, e2, Option.bind_some]
  simp only []
  rw [hC, if_pos hm7.2, eX, e3, Option.bind_some, hdk, Option.bind_some, b1, Option.bind_some, b2, Option.bind_some]
  simp only []
  rw [if_pos trivial, if_pos trivial, kept_f l1' lD, Option.bind_some, if_pos z1, kept_f l2' lD, Option.bind_some, z2]
  rw [plexuslaw42_EmbedImages.j0]
  rw [bne_self_eq_false, if_neg (by decide), e4, Option.bind_some]
  simp only []
  rw [hsk, Option.bind_some, if_pos rfl]
end Go.Proofs.YtheclfjbedajfaaDoor.Pm


namespace Go.Proofs.YtheclfjbedajfaaDoor
open Go.ChangeShapes Go.WideShapes Go.ChangeAt Go.RowKit Go.Lib Go.Proofs.YtheclfjbedajfaaDoorW.PrintWords
set_option linter.unusedVariables false
set_option maxRecDepth 100000
/-- A row of bytes that came in. -/
def IsRow (w : World) (a : Option Addr) (len cap : Nat) (zs : List Int) : Prop :=
  (a = none ∧ len = 0 ∧ cap = 0 ∧ zs = []) ∨
  ∃ x, a = some x ∧ len ≤ cap ∧ cap ≤ maxLen ∧ zs.length = cap ∧ (∀ i, i < zs.length → w.cell? (x.add i) = some (.int .u8 (zs.getD i 0))) ∧ ∀ n ∈ zs, (Lit.int .u8 n).wf = true
theorem IsRow.bytes {w : World} {a : Option Addr} {len cap : Nat} {zs : List Int} (h : IsRow w a len cap zs) :
    (Kd.int .u8).C w a (zs.take len).length (zs.take len) ∧ (zs.take len).length ≤ cap ∧ len = (zs.take len).length ∧ (zs.take len).length < 2 ^ 63 ∧ okL 256 (zs.take len) = true := by
  rcases h with ⟨rfl, rfl, rfl, rfl⟩ | ⟨x, rfl, hl, hm, hz, hc, hw⟩
  · exact ⟨Kd.C_of_reads (d := 0) ⟨rfl, by simp, fun h => by simp at h⟩, by simp, rfl, by simp, rfl⟩
  · have e : (zs.take len).length = len := by rw [List.length_take]; omega
    have hm' : cap ≤ 9223372036854775807 := hm
    refine ⟨?_, by omega, e.symm, by omega, ?_⟩
    · rw [e]
      refine Kd.C_of_reads (d := 0) ⟨e, by omega, fun _ => ⟨x, rfl, fun j hj => ?_⟩⟩
      rw [hc j (by omega)]
      simp only [List.getD_eq_getElem?_getD, List.getElem?_take, if_pos hj]
    · rw [okL_iff]
      intro b hb
      have := hw b (List.mem_of_mem_take hb)
      simp only [Lit.wf, Bool.and_eq_true, decide_eq_true_eq] at this
      have e1 : IntKind.u8.min = 0 := by decide
      have e2 : IntKind.u8.max = 255 := by decide
      rw [e1, e2] at this
      omega
/-- One slice of bytes among the cells of an argument. -/
theorem bytes_of {H : Type} {enc : TypeId × Value → H} {W : World} {base n : Nat} {sp : Nat → Bool} {held : Bool} {c : Value} {y : DataW H × List MemPlace} (hsp : ∀ b, sp b = true) (h : DataW.trod enc Tryd.prog W base sp held n 22 [c] = some y) : ∃ A m k zs, c = .slice A m k ∧ IsRow W A m k zs := by
  rcases open_ints Tryd.underlying22 Tryd.underlying5 (by kernel_rfl) h with ⟨hcs, _⟩ | ⟨x, l, c', zs, hcs, _, hl, hm, hz, _, hcell, hwz⟩
  · simp at hcs
    subst hcs
    exact ⟨none, 0, 0, [], rfl, .inl ⟨rfl, rfl, rfl, rfl⟩⟩
  · simp at hcs
    subst hcs
    rw [hsp] at hz
    exact ⟨some x, l, c', zs, rfl, .inr ⟨x, rfl, hl, hm, by simpa using hz, hcell, hwz⟩⟩
theorem u64_wf {n : Int} (h : (Lit.int .u64 n).wf = true) : 0 ≤ n ∧ n < 18446744073709551616 := by
  simp only [Lit.wf, Bool.and_eq_true, decide_eq_true_eq] at h
  have e1 : IntKind.u64.min = 0 := by decide
  have e2 : IntKind.u64.max = 18446744073709551615 := by decide
  rw [e1, e2] at h
  omega
theorem raw06_of {H : Type} {enc : TypeId × Value → H} {W : World} {base : Nat} {sp : Nat → Bool} {held : Bool} {cs : Array Value} {d : DataW H} {ps : List MemPlace} (hsp : ∀ b, sp b = true) (hsz : cs.size = Tryd.prog.cellsOf 24) (h : DataW.Trod enc Tryd.prog W base sp held 24 (.agg cs) d ps) :
    ∃ A0 m0 k0 z0, cs = #[.slice A0 m0 k0] ∧ IsRow W A0 m0 k0 z0 := by
  obtain ⟨fuel, hf⟩ := h
  have s24 : Tryd.prog.cellsOf 24 = 1 := by kernel_rfl
  have s22 : Tryd.prog.cellsOf 22 = 1 := by kernel_rfl
  rw [s24] at hsz
  obtain ⟨l⟩ := cs
  match l, hsz with
  | [c0], _ =>
    obtain ⟨y00, n0, _, _, h00⟩ := trod_struct1 Tryd.underlying24 hf
    simp [Value.cells, s22] at h00
    obtain ⟨A0, m0, k0, z0, rfl, r0⟩ := bytes_of hsp h00
    exact ⟨A0, m0, k0, z0, rfl, r0⟩
theorem slice8_of {H : Type} {enc : TypeId × Value → H} {W : World} {base : Nat} {sp : Nat → Bool} {held : Bool} {v : Value} {d : DataW H} {ps : List MemPlace} (hsp : ∀ b, sp b = true) (hok : Value.okWide Tryd.prog W .any 0 22 v) (h : DataW.Trod enc Tryd.prog W base sp held 22 v d ps) :
    ∃ A0 m0 k0 z0, v = .slice A0 m0 k0 ∧ IsRow W A0 m0 k0 z0 := by
  obtain ⟨a, len, cap, rfl⟩ := okWide_slice Tryd.underlying22 hok
  obtain ⟨fuel, hf⟩ := h
  obtain ⟨A0, m0, k0, z0, e, r0⟩ := bytes_of (c := .slice a len cap) hsp (by simpa [Value.cells] using hf)
  exact ⟨A0, m0, k0, z0, e, r0⟩
end Go.Proofs.YtheclfjbedajfaaDoor


namespace Go.Proofs.YtheclfjbedajfaaDoor.embedImages
open Go.ChangeShapes Go.WideShapes Go.ChangeAt Go.RowKit Go.Lib Go.Proofs.YtheclfjbedajfaaDoorW.PrintWords Go.Proofs.YtheclfjbedajfaaDoor
set_option linter.unusedVariables false
set_option maxRecDepth 100000
theorem own : ownKnob Tryd.prog.godebug = none := by kernel_rfl
theorem laidOut : laidOutB Tryd.prog = true := by kernel_rfl
theorem gT : Tryd.prog.globalNamed "math/bits.deBruijn64tab" = some 0 := by kernel_rfl
theorem gTType : (Tryd.prog.globals[0]?).map (·.type) = some 86 := by kernel_rfl
theorem tabSize : Tryd.prog.cellsOf 86 = 64 := by kernel_rfl
theorem byteSize : Tryd.prog.cellsOf 5 = 1 := by kernel_rfl
abbrev tabZ : List Int := dbTab.map fun (n : Nat) => (n : Int)
theorem laid_eq : Rows.embedImagesRow.laid = [("math/bits.deBruijn64tab", tabData .u8 tabZ)] := by kernel_rfl
/-- What the row lays, as the walk wants it. -/
theorem tab_of {W : World} (h : laidMet Tryd.prog Rows.embedImagesRow.laid W) : TabOk W := by
  rw [laid_eq] at h
  have hT := tabIs_of_head gT gTType Tryd.underlying86 Tryd.underlying5 byteSize tabSize h
  intro i hi
  rw [hT.cell gT i (by simpa [tabZ, dbTab] using hi)]
  simp only [tabZ, List.getD_eq_getElem?_getD, List.getElem?_map]
  rw [List.getElem?_eq_getElem (show i < dbTab.length from hi)]; rfl
noncomputable def laidWorld (os : Os) : World :=
  { World.holding Tryd.prog os ⟨#[], #[], []⟩ with heap := (World.holding Tryd.prog os ⟨#[], #[], []⟩).heap.modify 0 fun
      | .cells _ t frozen => .cells (dbTab.map fun (n : Nat) => Value.int .u8 (n : Int)).toArray t frozen
      | o => o }
theorem laid_met (os : Os) (args : Array Value) : laidMet Tryd.prog Rows.embedImagesRow.laid ((laidWorld os).forCall (fun _ _ => 0) ⟨#[], args, []⟩).memory :=
  laidMet_of_run' 8 (by kernel_rfl) (by kernel_rfl)
set_option maxRecDepth 100000 in
theorem lifted (os : Os) (started : os.Started) (H : Type) (enc : TypeId × Value → H) :
    ReturnsInHanded {} Tryd.checked os 3 .any (fun w args => (Rows.embedImagesSpec.pre enc Tryd.prog Tryd.f3 [] false w args ∧ laidMet Tryd.prog Rows.embedImagesRow.laid w) ∧ sizedMet enc Tryd.prog Tryd.f3 (OpenSpec.ofChange Rows.embedImagesSpec) false w args)
      (Rows.embedImagesSpec.post enc Tryd.prog Tryd.f3 false true false false) := by
  refine returnsInHanded_of_change_and (C := Tryd.checked) (X := fun w _ => laidMet Tryd.prog Rows.embedImagesRow.laid w) (fun _ _ _ hh h => h.of_heap hh) own started (by kernel_rfl) Tryd.func3
    (ChangeSpec.witness_at (enc := enc) (C := Tryd.checked) (os := os) (X := fun w _ => laidMet Tryd.prog Rows.embedImagesRow.laid w) false (laidWorld os) #[.agg #[.slice none 0 0], .slice none 0 0, .int .u64 0] 8 rfl (by kernel_rfl) (by kernel_rfl) (by kernel_rfl) (by kernel_rfl) (by kernel_rfl) (laid_met os _)) ?_
  intro W base args ds gs before hval0 hW _ _ hL _
  have hval : ∀ (j : Nat) t v, Tryd.f3.params[j]? = some t → args[j]? = some v → Value.okWide Tryd.prog W .any base t v := hval0
  have hW' := hW
  obtain ⟨p, q, hA0, hV, rfl, hfz, hnd⟩ := hW
  have hA : DataW.TrodAll enc Tryd.prog W 0 (fun _ => true) true Tryd.f3.params.toList args.toList ds p := hA0
  rw [Tryd.params3] at hA hval
  obtain ⟨v0, vs0, d0, ds0, p0, q0, hargs, rfl, rfl, h0, r0⟩ := trodAll_cons hA
  obtain ⟨v1, vs1, d1, ds1, p1, q1, hargs1, rfl, rfl, h1, r1⟩ := trodAll_cons r0
  obtain ⟨v2, vs2, d2, ds2, p2, q2, hargs2, rfl, rfl, h2, r2⟩ := trodAll_cons r1
  obtain ⟨rfl, rfl, rfl⟩ := trodAll_nil r2
  obtain rfl : args = #[v0, v1, v2] := by cases args; simp_all
  obtain ⟨rfl, rfl⟩ := trodVars_none hV
  have k0 := h0
  have lt0 : ∀ x ∈ p0, x.block < W.heap.size := by obtain ⟨m, hm⟩ := k0; exact DataW.trod_lt m _ _ _ hm
  have k1 := h1
  have lt1 : ∀ x ∈ p1, x.block < W.heap.size := by obtain ⟨m, hm⟩ := k1; exact DataW.trod_lt m _ _ _ hm
  have k2 := h2
  have lt2 : ∀ x ∈ p2, x.block < W.heap.size := by obtain ⟨m, hm⟩ := k2; exact DataW.trod_lt m _ _ _ hm
  have hT := tab_of hL
  obtain ⟨cs, rfl, hsz⟩ := okWide_struct Tryd.underlying24 (hval 0 24 v0 rfl rfl)
  obtain ⟨A0, m0, k0', z0, rfl, i0⟩ := raw06_of (fun _ => rfl) hsz h0
  obtain ⟨hC0, hc0, hn0, h630, hby0⟩ := i0.bytes
  obtain ⟨A1, m1, k1', z1, rfl, i1⟩ := slice8_of (fun _ => rfl) (hval 1 22 v1 rfl rfl) h1
  obtain ⟨hC1, hc1, hn1, h631, hby1⟩ := i1.bytes
  obtain ⟨f2, hf2⟩ := h2
  obtain ⟨mo, em, _, wm⟩ := DataW.trod_int Tryd.underlying25 hf2
  obtain ⟨hm0, hm1⟩ := u64_wf wm
  obtain ⟨mo1, rfl⟩ := okWide_int Tryd.underlying25 (hval 2 25 v2 rfl rfl)
  simp [Value.cells] at em
  subst em
  clear hA0 hval0 hval hA
  obtain ⟨k, hk⟩ := Pm.images_true h630 h631 hby0 hby1 hm0 hm1
  have hcall := Pm.plexuslaw42_EmbedImages.calls k A0 k0' (z0.take m0) A1 k1' (z1.take m1) mo1 W hC0 hc0 hC1 hc1 hT hk
  rw [← hn0, ← hn1] at hcall
  refine hcall.mono fun e W' ⟨he, bel⟩ => ?_
  subst he
  exact ⟨_, rfl, _, _, _, [], _, [], hW', trodAll_mk1 (shut_bool Tryd.underlying4 _), (trodAll_cons_mk (Below.trod laidOut (by kernel_rfl) (of_decide_eq_true (by kernel_rfl)) k0 bel lt0) (trodAll_cons_mk (Below.trod laidOut (by kernel_rfl) (of_decide_eq_true (by kernel_rfl)) k1 bel lt1) (trodAll_cons_mk (Below.trod laidOut (by kernel_rfl) (of_decide_eq_true (by kernel_rfl)) k2 bel lt2) trodAll_mk0))), rfl, bel.frame _, fun h => by cases h⟩
theorem said : Rows.EmbedImagesSaid :=
  OpenClaim.holds_of_wide 3 Tryd.f3 rfl rfl rfl rfl rfl rfl rfl ⟨rfl, rfl, rfl, rfl, rfl⟩ rfl rfl rfl rfl rfl (by kernel_rfl) Tryd.func3 (by kernel_rfl)
    (of_decide_eq_true (by kernel_rfl)) (by unfold Func.isWrapper; first | (rw [if_pos (by decide +kernel)]; kernel_rfl) | (rw [if_neg (by decide +kernel)]; exact ⟨rfl, rfl⟩))
    (fun os started H enc _ => lifted os started H enc)
/-- **The tied card.** -/
theorem card : Rows.EmbedImagesCardSaid :=
  Claim7.holds_tied_plain_at .later [] [.data] true (true, "6b9611c2515651e2dbcd858f6c15e60c17d1b8ae9e7b82897c6080bcdadff915") false
    said (fun _ h => by cases h) (by kernel_rfl) (fun _ h => by cases h) embedImages_row_tie rfl ⟨rfl, rfl⟩ (by kernel_rfl) rfl
    (fun f fn hf hfn => by
      obtain rfl : f = 3 := Option.some.inj ((show Tryd.prog.funcNamed "plexus/plexuslaw42.EmbedImages" = some 3 by kernel_rfl).symm.trans hf) |>.symm
      obtain rfl : fn = Tryd.f3 := (Option.some.inj (Tryd.func3.symm.trans hfn)).symm
      exact ⟨by kernel_rfl, fun j t ht => by
        rw [Tryd.params3] at ht
        have h3 : t = 24 ∨ t = 22 ∨ t = 25 := by
          rcases j with _ | _ | _ | j
          · exact .inl (by simpa using ht.symm)
          · exact .inr (.inl (by simpa using ht.symm))
          · exact .inr (.inr (by simpa using ht.symm))
          · simp at ht
        rcases h3 with h3 | h3 | h3
        · subst h3; exact (show Tryd.prog.wantsStandIn 24 = false by kernel_rfl)
        · subst h3; exact (show Tryd.prog.wantsStandIn 22 = false by kernel_rfl)
        · subst h3; exact (show Tryd.prog.wantsStandIn 25 = false by kernel_rfl)⟩)
    (by kernel_rfl)
#print axioms card
end Go.Proofs.YtheclfjbedajfaaDoor.embedImages
