/- The argument of chapter 42's laws, opened: bytes of two structures, a number, two rows of bytes; no condition. -/
/- With a block more the best embedding keeps not less, and at most one block more; in plain Lean. -/
/- EmbedMore: the law's row, out of its walk and the plain law; no condition. -/
import Derived.Test.YtheclfjbedajfaaGl
import Derived.WalkKit
import Derived.ProofKit
import Derived.OpenShut
import Derived.ChangeOld
import Derived.ChangeSame
import Derived.Below
import Derived.SizedLaws
import Derived.Lib.SmallJoins
import Derived.Test.YtheclfjbedajfaaEn
import Derived.Test.YtheclfjbedajfaaMw
import Derived.Test.YtheclfjbedajfaaRows
namespace Go.Proofs.Ytheclfjbedajfaa
open Go.ChangeShapes Go.WideShapes Go.ChangeAt Go.RowKit Go.Lib Go.Proofs.YtheclfjbedajfaaW.PrintWords
set_option linter.unusedVariables false
/-- A row of bytes that came in. -/
def IsRow (w : World) (a : Option Addr) (len cap : Nat) (zs : List Int) : Prop :=
  (a = none ∧ len = 0 ∧ cap = 0 ∧ zs = []) ∨
  ∃ x, a = some x ∧ len ≤ cap ∧ cap ≤ maxLen ∧ zs.length = cap ∧ (∀ i, i < zs.length → w.cell? (x.add i) = some (.int .u8 (zs.getD i 0))) ∧ ∀ n ∈ zs, (Lit.int .u8 n).wf = true
theorem IsRow.bytes {w : World} {a : Option Addr} {len cap : Nat} {zs : List Int} (h : IsRow w a len cap zs) :
    (Kd.int .u8).C w a (zs.take len).length (zs.take len) ∧ (zs.take len).length ≤ cap ∧ len = (zs.take len).length ∧ (zs.take len).length < 2 ^ 63 ∧ okL 256 (zs.take len) = true := by
  rcases h with ⟨rfl, rfl, rfl, rfl⟩ | ⟨x, rfl, hl, hm, hz, hc, hw⟩
  · exact ⟨Kd.C_of_reads (d := 0) ⟨rfl, by simp, fun h => by simp at h⟩, by simp, rfl, by simp, rfl⟩
  · have e : (zs.take len).length = len := by rw [List.length_take]; omega
    have hm' : cap ≤ 9223372036854775807 := hm
    refine ⟨?_, by omega, e.symm, by omega, ?_⟩
    · rw [e]
      refine Kd.C_of_reads (d := 0) ⟨e, by omega, fun _ => ⟨x, rfl, fun j hj => ?_⟩⟩
      rw [hc j (by omega)]
      simp only [List.getD_eq_getElem?_getD, List.getElem?_take, if_pos hj]
    · rw [okL_iff]
      intro b hb
      have := hw b (List.mem_of_mem_take hb)
      simp only [Lit.wf, Bool.and_eq_true, decide_eq_true_eq] at this
      have e1 : IntKind.u8.min = 0 := by decide
      have e2 : IntKind.u8.max = 255 := by decide
      rw [e1, e2] at this
      omega
theorem byte_wf {n : Int} (h : (Lit.int .u8 n).wf = true) : 0 ≤ n ∧ n < 256 := by
  simp only [Lit.wf, Bool.and_eq_true, decide_eq_true_eq] at h
  have e1 : IntKind.u8.min = 0 := by decide
  have e2 : IntKind.u8.max = 255 := by decide
  rw [e1, e2] at h
  omega
/-- One slice of bytes among the cells of an argument. -/
theorem bytes_of {H : Type} {enc : TypeId × Value → H} {W : World} {base n : Nat} {sp : Nat → Bool} {held : Bool} {c : Value} {y : DataW H × List MemPlace} (hsp : ∀ b, sp b = true) (h : DataW.trod enc Try.prog W base sp held n 22 [c] = some y) : ∃ A m k zs, c = .slice A m k ∧ IsRow W A m k zs := by
  rcases open_ints Try.underlying22 Try.underlying5 (by kernel_rfl) h with ⟨hcs, _⟩ | ⟨x, l, c', zs, hcs, _, hl, hm, hz, _, hcell, hwz⟩
  · simp at hcs
    subst hcs
    exact ⟨none, 0, 0, [], rfl, .inl ⟨rfl, rfl, rfl, rfl⟩⟩
  · simp at hcs
    subst hcs
    rw [hsp] at hz
    exact ⟨some x, l, c', zs, rfl, .inr ⟨x, rfl, hl, hm, by simpa using hz, hcell, hwz⟩⟩
theorem array5 {α : Type} {cs : Array α} (h : cs.size = 5) : ∃ c0 c1 c2 c3 c4, cs = #[c0, c1, c2, c3, c4] := by
  obtain ⟨l⟩ := cs
  match l, h with
  | [c0, c1, c2, c3, c4], _ => exact ⟨c0, c1, c2, c3, c4, rfl⟩
theorem trod_struct5 {H : Type} {enc : TypeId × Value → H} {P : Program} {w : World} {base : Nat} {spare : Nat → Bool} {held : Bool} {t : TypeId} {f0 f1 f2 f3 f4 : Field} {fuel : Nat} {cs : List Value} {x : DataW H × List MemPlace} (ht : P.underlying t = some (.struct #[f0, f1, f2, f3, f4])) (h : DataW.trod enc P w base spare held fuel t cs = some x) :
    ∃ y0 y1 y2 y3 y4 n, DataW.trod enc P w base spare held n f0.type ((cs.drop f0.offset).take (P.cellsOf f0.type)) = some y0 ∧ DataW.trod enc P w base spare held n f1.type ((cs.drop f1.offset).take (P.cellsOf f1.type)) = some y1 ∧ DataW.trod enc P w base spare held n f2.type ((cs.drop f2.offset).take (P.cellsOf f2.type)) = some y2 ∧
      DataW.trod enc P w base spare held n f3.type ((cs.drop f3.offset).take (P.cellsOf f3.type)) = some y3 ∧ DataW.trod enc P w base spare held n f4.type ((cs.drop f4.offset).take (P.cellsOf f4.type)) = some y4 := by
  obtain ⟨xs, n, _, rfl, hl, hlen, hf⟩ := DataW.trod_struct ht h
  match xs, hlen with
  | [y0, y1, y2, y3, y4], _ => exact ⟨y0, y1, y2, y3, y4, n, by simpa using hf 0 f0 rfl, by simpa using hf 1 f1 rfl, by simpa using hf 2 f2 rfl, by simpa using hf 3 f3 rfl, by simpa using hf 4 f4 rfl⟩
theorem raw42_of {H : Type} {enc : TypeId × Value → H} {W : World} {base : Nat} {sp : Nat → Bool} {held : Bool} {cs : Array Value} {d : DataW H} {ps : List MemPlace} (hsp : ∀ b, sp b = true) (hsz : cs.size = Try.prog.cellsOf 26) (h : DataW.Trod enc Try.prog W base sp held 26 (.agg cs) d ps) :
    ∃ A0 m0 k0 z0 A1 m1 k1 z1 a2 A3 m3 k3 z3 A4 m4 k4 z4, cs = #[.slice A0 m0 k0, .slice A1 m1 k1, .int .u8 a2, .slice A3 m3 k3, .slice A4 m4 k4] ∧ IsRow W A0 m0 k0 z0 ∧ IsRow W A1 m1 k1 z1 ∧ (0 ≤ a2 ∧ a2 < 256) ∧ IsRow W A3 m3 k3 z3 ∧ IsRow W A4 m4 k4 z4 := by
  obtain ⟨fuel, hf⟩ := h
  obtain ⟨y0, y1, y2, y3, y4, n, h0, h1, h2, h3, h4⟩ := trod_struct5 Try.underlying26 hf
  have s26 : Try.prog.cellsOf 26 = 5 := by kernel_rfl
  have s24 : Try.prog.cellsOf 24 = 1 := by kernel_rfl
  have s22 : Try.prog.cellsOf 22 = 1 := by kernel_rfl
  have s21 : Try.prog.cellsOf 5 = 1 := by kernel_rfl
  rw [s26] at hsz
  obtain ⟨c0, c1, c2, c3, c4, rfl⟩ := array5 hsz
  simp [Value.cells, s24, s22, s21] at h0 h1 h2 h3 h4
  obtain ⟨y00, n0, _, _, h00⟩ := trod_struct1 Try.underlying24 h0
  simp [s22] at h00
  obtain ⟨y10, n1, _, _, h10⟩ := trod_struct1 Try.underlying24 h1
  simp [s22] at h10
  obtain ⟨A0, m0, k0, z0, rfl, r0⟩ := bytes_of hsp h00
  obtain ⟨A1, m1, k1, z1, rfl, r1⟩ := bytes_of hsp h10
  obtain ⟨A3, m3, k3, z3, rfl, r3⟩ := bytes_of hsp h3
  obtain ⟨A4, m4, k4, z4, rfl, r4⟩ := bytes_of hsp h4
  obtain ⟨a2, e2, _, w2⟩ := DataW.trod_int Try.underlying5 h2
  simp at e2
  subst e2
  exact ⟨A0, m0, k0, z0, A1, m1, k1, z1, a2, A3, m3, k3, z3, A4, m4, k4, z4, rfl, r0, r1, byte_wf w2, r3, r4⟩
theorem u64_wf {n : Int} (h : (Lit.int .u64 n).wf = true) : 0 ≤ n ∧ n < 18446744073709551616 := by
  simp only [Lit.wf, Bool.and_eq_true, decide_eq_true_eq] at h
  have e1 : IntKind.u64.min = 0 := by decide
  have e2 : IntKind.u64.max = 18446744073709551615 := by decide
  rw [e1, e2] at h
  omega
theorem u16_wf {n : Int} (h : (Lit.int .u16 n).wf = true) : 0 ≤ n ∧ n < 65536 := by
  simp only [Lit.wf, Bool.and_eq_true, decide_eq_true_eq] at h
  have e1 : IntKind.u16.min = 0 := by decide
  have e2 : IntKind.u16.max = 65535 := by decide
  rw [e1, e2] at h
  omega
end Go.Proofs.Ytheclfjbedajfaa


namespace Go.Proofs.Ytheclfjbedajfaa
set_option linter.unusedSimpArgs false
set_option linter.unusedVariables false
open Go.RowKit Go.Lib Go.Proofs.YtheclfjbedajfaaW.PrintWords

/-- How many blocks ahead of block i have its image. -/
def rankN (A D f : List Nat) (i : Nat) : Nat := (((queueN A.length D).take ((queueN A.length D).idxOf i)).map (fun i => movedN (A.getD i 0) f)).count (movedN (A.getD i 0) f)
def keepsN (A C D f : List Nat) (i : Nat) : Bool := decide (rankN A D f i < C.count (movedN (A.getD i 0) f))
theorem keptN_eq {A C D f : List Nat} (hD : ∀ i ∈ D, i < A.length) (hDn : D.Nodup) : keptN A C D f = D.countP (keepsN A C D f) := by
  rw [keptN, keptL, il, List.filter_map, List.length_map, ← List.countP_eq_length_filter]
  refine List.countP_congr fun i hi => ?_
  have hiA := hD i hi
  have hr : rd (embM A C D f) (i : Int) = goN A C D f i := embM_get hD hDn hiA
  have hl := embM_len A C D f
  rw [goN, alongAt_of (queueN_mem hiA)] at hr
  simp only [Function.comp_apply, keepB, keepsN, rankN, Bool.and_eq_true, decide_eq_true_eq]
  rw [hr, hl]
  split
  · rename_i h
    exact ⟨fun _ => by simpa using h, fun _ => ⟨⟨by omega, by omega⟩, by omega⟩⟩
  · rename_i h
    exact ⟨fun h' => absurd h'.2 (by decide), fun h' => absurd (by simpa using h') h⟩
theorem countP_one {D : List Nat} {q : Nat → Bool} (hn : D.Nodup) (h : ∀ i ∈ D, ∀ j ∈ D, q i = true → q j = true → i = j) : D.countP q ≤ 1 := by
  induction D with
  | nil => simp
  | cons a r ih =>
    obtain ⟨h1, h2⟩ := List.nodup_cons.1 hn
    rw [List.countP_cons]
    by_cases ha : q a = true
    · have : r.countP q = 0 := List.countP_eq_zero.2 fun b hb hq => by
        have := h a (by simp) b (by simp [hb]) ha hq
        subst this
        exact h1 hb
      rw [this, if_pos ha]
      omega
    · have := ih h2 (fun i hi j hj => h i (by simp [hi]) j (by simp [hj]))
      rw [if_neg ha]
      omega
theorem countP_or {D : List Nat} {p p' q : Nat → Bool} (h : ∀ i ∈ D, p' i = true → p i = true ∨ q i = true) : D.countP p' ≤ D.countP p + D.countP q := by
  induction D with
  | nil => simp
  | cons a r ih =>
    have := ih (fun i hi => h i (by simp [hi]))
    have ha := h a (by simp)
    rw [List.countP_cons, List.countP_cons, List.countP_cons]
    by_cases h1 : p' a = true
    · rcases ha h1 with h2 | h2
      · rw [if_pos h1, if_pos h2]; split <;> omega
      · rw [if_pos h1, if_pos h2]; split <;> omega
    · rw [if_neg h1]; split <;> split <;> omega
theorem withL_count (C : List Nat) (x S : Nat) : (withL C x).count S = C.count S + (if x = S then 1 else 0) := by
  rw [(withL_permE C x).count_eq, List.count_cons]
  by_cases h : x = S <;> simp [h]
theorem rankN_inj {A D f : List Nat} (hD : ∀ i ∈ D, i < A.length) (hDn : D.Nodup) {i j : Nat} (hi : i ∈ D) (hj : j ∈ D) (hm : movedN (A.getD i 0) f = movedN (A.getD j 0) f) (hr : rankN A D f i = rankN A D f j) : i = j := by
  have hqi := queueN_mem (ds := D) (hD i hi)
  have hqj := queueN_mem (ds := D) (hD j hj)
  have hn := queueN_nodup (n := A.length) hDn
  rcases Nat.lt_trichotomy ((queueN A.length D).idxOf i) ((queueN A.length D).idxOf j) with h | h | h
  · have := count_lt (mv := fun i => movedN (A.getD i 0) f) hn hqi h hm
    unfold rankN at hr
    omega
  · rw [← getD_idxOf hqi, ← getD_idxOf hqj, h]
  · have := count_lt (mv := fun i => movedN (A.getD i 0) f) hn hqj h hm.symm
    unfold rankN at hr
    omega
theorem kept_more {A C D f : List Nat} (x : Nat) (hD : ∀ i ∈ D, i < A.length) (hDn : D.Nodup) : keptN A C D f ≤ keptN A (withL C x) D f ∧ keptN A (withL C x) D f ≤ keptN A C D f + 1 := by
  rw [keptN_eq hD hDn, keptN_eq hD hDn]
  constructor
  · refine List.countP_mono_left fun i _ h => ?_
    simp only [keepsN, decide_eq_true_eq, withL_count] at h ⊢
    omega
  · refine Nat.le_trans (countP_or (q := fun i => decide (movedN (A.getD i 0) f = x) && decide (rankN A D f i = C.count x)) fun i _ h => ?_) (Nat.add_le_add_left (countP_one hDn fun i hi j hj h1 h2 => ?_) _)
    · simp only [keepsN, decide_eq_true_eq, withL_count, Bool.and_eq_true] at h ⊢
      by_cases he : x = movedN (A.getD i 0) f
      · rw [if_pos he] at h
        rw [← he] at h ⊢
        omega
      · rw [if_neg he] at h
        omega
    · simp only [Bool.and_eq_true, decide_eq_true_eq] at h1 h2
      exact rankN_inj hD hDn hi hj (by rw [h1.1, h2.1]) (by rw [h1.2, h2.2])
theorem more_plain {V U : Nat} {A C D : List Nat} (hD : ∀ i ∈ D, i < A.length) (hDn : D.Nodup) : ∀ x, x < 2 ^ U → ∀ F1 F2 : List Nat, F1 ∈ lsL U V [] → (∀ g ∈ lsL U V [], keptN A C D g ≤ keptN A C D F1) → F2 ∈ lsL U V [] → (∀ g ∈ lsL U V [], keptN A (withL C x) D g ≤ keptN A (withL C x) D F2) → keptN A C D F1 ≤ keptN A (withL C x) D F2 ∧ keptN A (withL C x) D F2 ≤ keptN A C D F1 + 1 := by
  intro x _ F1 F2 k1 g1 k2 g2
  have a := kept_more (C := C) (f := F1) x hD hDn
  have b := kept_more (C := C) (f := F2) x hD hDn
  have c := g2 F1 k1
  have d := g1 F2 k2
  omega
end Go.Proofs.Ytheclfjbedajfaa


namespace Go.Proofs.Ytheclfjbedajfaa
open Go.ChangeShapes Go.WideShapes Go.ChangeAt Go.RowKit Go.Lib Go.Proofs.YtheclfjbedajfaaW.PrintWords
set_option linter.unusedVariables false
namespace embedMore
theorem own : ownKnob Try.prog.godebug = none := by kernel_rfl
theorem laidOut : laidOutB Try.prog = true := by kernel_rfl
set_option maxRecDepth 100000 in
theorem lifted (os : Os) (started : os.Started) (H : Type) (enc : TypeId × Value → H) :
    ReturnsInHanded {} Try.checked os 7 .any (Rows.embedMoreSpec.pre6 enc Try.prog Try.f7 Rows.embedMoreRow.domain false) (Rows.embedMoreSpec.post enc Try.prog Try.f7 false true false false) := by
  refine returnsInHanded_of_change_sized (C := Try.checked) own started (by kernel_rfl) Try.func7
    (ChangeSpec.witness6 (enc := enc) (C := Try.checked) false ⟨#[], #[.agg #[.slice none 0 0, .slice none 0 0, .int .u8 0, .slice none 0 0, .slice none 0 0], .int .u16 0, .int .u64 0], []⟩ 8 (by kernel_rfl) (by kernel_rfl) (by kernel_rfl) (by kernel_rfl)) ?_
  intro W base args ds gs before hval0 hW hcnd hsz0 _
  have hval : ∀ (j : Nat) t v, Try.f7.params[j]? = some t → args[j]? = some v → Value.okWide Try.prog W .any base t v := hval0
  have hW' := hW
  obtain ⟨p, q, hA0, hV, rfl, hfz, hnd⟩ := hW
  have hA : DataW.TrodAll enc Try.prog W 0 (fun _ => true) true Try.f7.params.toList args.toList ds p := hA0
  rw [Try.params7] at hA hval
  obtain ⟨v0, vs0, d0, ds0, p0, q0, hargs, rfl, rfl, h0, r0⟩ := trodAll_cons hA
  obtain ⟨v1, vs1, d1, ds1, p1, q1, hargs1, rfl, rfl, h1, r1⟩ := trodAll_cons r0
  obtain ⟨v2, vs2, d2, ds2, p2, q2, hargs2, rfl, rfl, h2, r2⟩ := trodAll_cons r1
  obtain ⟨rfl, rfl, rfl⟩ := trodAll_nil r2
  obtain rfl : args = #[v0, v1, v2] := by cases args; simp_all
  obtain ⟨rfl, rfl⟩ := trodVars_none hV
  obtain ⟨cs, rfl, hsz⟩ := okWide_struct Try.underlying26 (hval 0 26 v0 rfl rfl)
  have k0 := h0
  have k1 := h1
  have lt1 : ∀ x ∈ p1, x.block < W.heap.size := by obtain ⟨m, hm⟩ := k1; exact DataW.trod_lt m _ _ _ hm
  have k2 := h2
  have lt2 : ∀ x ∈ p2, x.block < W.heap.size := by obtain ⟨m, hm⟩ := k2; exact DataW.trod_lt m _ _ _ hm
  have lt0 : ∀ x ∈ p0, x.block < W.heap.size := by obtain ⟨m, hm⟩ := k0; exact DataW.trod_lt m _ _ _ hm
  obtain ⟨f1, hf1⟩ := h1
  obtain ⟨s, es, _, ws⟩ := DataW.trod_int Try.underlying32 hf1
  obtain ⟨hs0, hs1⟩ := u16_wf ws
  obtain ⟨s1, rfl⟩ := okWide_int Try.underlying32 (hval 1 32 v1 rfl rfl)
  simp [Value.cells] at es
  subst es
  obtain ⟨f2, hf2⟩ := h2
  obtain ⟨mo, em, _, wm⟩ := DataW.trod_int Try.underlying60 hf2
  obtain ⟨hm0, hm1⟩ := u64_wf wm
  obtain ⟨mo1, rfl⟩ := okWide_int Try.underlying60 (hval 2 60 v2 rfl rfl)
  simp [Value.cells] at em
  subst em
  obtain ⟨A0, m0, k0', z0, A1, m1, k1', z1, a2, A3, m3, k3, z3, A4, m4, k4, z4, rfl, i0, i1, ⟨h20, h21⟩, i3, i4⟩ := raw42_of (fun _ => rfl) hsz h0
  obtain ⟨hC0, hc0, hn0, h630, hby0⟩ := i0.bytes
  obtain ⟨hC1, hc1, hn1, h631, hby1⟩ := i1.bytes
  obtain ⟨hC3, hc3, hn3, h633, hby3⟩ := i3.bytes
  obtain ⟨hC4, hc4, hn4, _, hby4⟩ := i4.bytes
  clear hA0 hval0 hsz0 hval hA
  obtain ⟨V, U, A, C, hm, hp⟩ := made42 h630 h631 h633 hby0 hby1 hby3 hby4 h20 h21
  obtain ⟨kd, hkd⟩ := done42 hs0 hs1 V A (Nat.le_trans hp.al (by decide))
  have hcall := Pd.more_law A0 A1 A3 A4 k0' k1' k3 k4 (z0.take m0) (z1.take m1) (z3.take m3) (z4.take m4) a2 s1 mo1 W hC0 hc0 hC1 hc1 hC3 hc3 hC4 hc4 V U A C (doneL s1.toNat A.length) kd hm hp (hkd kd (Nat.le_refl _)) Pd.doneL_lt Pd.doneL_nodup Pd.doneL_len hm0 hm1 (more_plain Pd.doneL_lt Pd.doneL_nodup)
  rw [← hn0, ← hn1, ← hn3, ← hn4] at hcall
  refine hcall.mono fun e W' ⟨he, bel⟩ => ?_
  subst he
  exact ⟨_, rfl, _, _, _, [], _, [], hW', trodAll_mk1 (shut_bool Try.underlying4 _), (trodAll_cons_mk (Below.trod laidOut (by kernel_rfl) (of_decide_eq_true (by kernel_rfl)) k0 bel lt0) (trodAll_cons_mk (Below.trod laidOut (by kernel_rfl) (of_decide_eq_true (by kernel_rfl)) k1 bel lt1) (trodAll_cons_mk (Below.trod laidOut (by kernel_rfl) (of_decide_eq_true (by kernel_rfl)) k2 bel lt2) trodAll_mk0))), rfl, bel.frame _, fun h => by cases h⟩
theorem said : Rows.EmbedMoreSaid :=
  OpenClaim.holds_of_wide 7 Try.f7 rfl rfl rfl rfl rfl rfl rfl ⟨rfl, rfl, rfl, rfl, rfl⟩ rfl rfl rfl rfl rfl (by kernel_rfl) Try.func7 (by kernel_rfl)
    (of_decide_eq_true (by kernel_rfl)) (by unfold Func.isWrapper; first | (rw [if_pos (by decide +kernel)]; kernel_rfl) | (rw [if_neg (by decide +kernel)]; exact ⟨rfl, rfl⟩))
    (fun os started H enc _ => lifted os started H enc)
#print axioms said
end embedMore
end Go.Proofs.Ytheclfjbedajfaa
