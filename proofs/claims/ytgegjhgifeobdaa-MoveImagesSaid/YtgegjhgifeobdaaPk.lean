/- move.Carry, walked whole. -/
/- The contracts of move.completed and move.Carry in the print's form. -/
-- Written by this session's program xprint.py: it drives the kit's print with contracts of this session's own.
/- Small facts of chapter 42's lists: points, blocks, masks; in plain Lean. -/
/- An embedding along a list: its blocks' images, and that they differ; the fold of the best one; in plain Lean. -/
/- Short words for what a printed walk says at length: each is a line of such a walk, with what it tries by itself. -/
import Derived.Test.YtgegjhgifeobdaaCy
import Derived.Test.YtgegjhgifeobdaaLu
import Derived.Test.YtgegjhgifeobdaaIi
import Derived.Test.YtgegjhgifeobdaaGe
import Derived.Test.YtgegjhgifeobdaaWWords
import Derived.Test.YtgegjhgifeobdaaWLast
import Derived.Test.YtgegjhgifeobdaaWTab
import Derived.Test.YtgegjhgifeobdaaWMore
namespace Go.Proofs.Ytgegjhgifeobdaa.Pd
set_option linter.unusedSimpArgs false
set_option linter.unusedVariables false
open Go.RowKit Go.Lib Go.Shelf Go.Proofs.YtgegjhgifeobdaaW.PrintWords Go.Proofs.Ytgegjhgifeobdaa
attribute [local go_sem] Oper.semAt_some

theorem wpList_insert_own {H : Type} {P : Program} (w : World) {ops : Array Oper} {rest : List Oper} {o : Oper} {a : Act} {Q : Exit → Act → World → Prop}
    (hg : o.guard = none) (m x v : Operand) (t : TypeId) (hop : o.op = Op.insert t m x v)
    (k e : TypeId) (K : Maps.Keyed P k) (ht : P.underlying t = some (.map k e)) (R : Value → Option (DataW H × List MemPlace)) (b n : Nat) (D : DataW H)
    (hm : a.eval m = .map (some b)) (hown : w.ownsMap P k R b n D) (hn : n < maxLen) (key val : Value) (kl : Lit) (hx : a.eval x = key) (hv : a.eval v = val) (hkey : keyOf P k key = some kl)
    (d : DataW H) (ps : List MemPlace) (hval : R val = some (d, ps))
    (hK : ∀ w', w'.ownsMap P k R b (n + 1) (D.put kl d) → w.grownBy w' (some b) → wpList P ops Q rest (a.put o.dst undef) w') :
    wpList P ops Q (o :: rest) a w := by
  refine wpList_plain hg fun K' hK' => ?_
  obtain ⟨w', hrun, r1, r2⟩ := hown.update K ht hn hkey hval
  unfold Oper.wp
  simp [execOp, hop, hm, hx, hv, hrun, Result.andThen]
  exact hK' _ _ (hK w' r1 r2)
abbrev fV1 : Value := .func (.func 34) #[] #[]
abbrev fV2 (g : Nat) : Value := .func (.func 35) #[] #[.pointer (some ⟨g, 0, none⟩)]
abbrev dI (n : Int) : DataW Unit := .lit (.int .i64 n)
open Classical in
/-- Which function it is. -/
noncomputable def RFn (g : Nat) (v : Value) : Option (DataW Unit × List MemPlace) := if v = fV1 then some (dI 5, []) else if v = fV2 g then some (dI 1, []) else if v = .nilFunc then some (dI 0, []) else none
theorem RFn1 (g : Nat) : RFn g fV1 = some (dI 5, []) := by unfold RFn; rw [if_pos rfl]
theorem RFn2 (g : Nat) : RFn g (fV2 g) = some (dI 1, []) := by unfold RFn; rw [if_neg (by intro e; injection e with e1; injection e1 with e1; simp at e1), if_pos rfl]
theorem RFn0 (g : Nat) : RFn g .nilFunc = some (dI 0, []) := by unfold RFn; rw [if_neg (by intro e; cases e), if_neg (by intro e; cases e), if_pos rfl]
theorem RFn_inv {g : Nat} {v : Value} {n : Int} {ps : List MemPlace} (h : RFn g v = some (dI n, ps)) : (n = 5 → v = fV1) ∧ (n = 1 → v = fV2 g) ∧ (n = 0 → v = .nilFunc) := by
  unfold RFn at h
  split at h
  · rename_i e
    have : n = 5 := by simp at h; omega
    exact ⟨fun _ => e, fun h => by omega, fun h => by omega⟩
  · split at h
    · rename_i e
      have : n = 1 := by simp at h; omega
      exact ⟨fun h => by omega, fun _ => e, fun h => by omega⟩
    · split at h
      · rename_i e
        have : n = 0 := by simp at h; omega
        exact ⟨fun h => by omega, fun h => by omega, fun _ => e⟩
      · cases h
noncomputable def carD : DataW Unit := ((DataW.map []).put (.int .i64 5) (dI 5)).put (.int .i64 1) (dI 1)
theorem isM0 : Maps.IsMap (DataW.map ([] : List (Lit × DataW Unit))) := by first | exact ⟨_, rfl⟩ | trivial | constructor
theorem carD_at (x : Int) : carD.atKey (.int .i64 x) (dI 0) = dI (if x = 1 then 1 else if x = 5 then 5 else 0) ∧ Maps.has carD (.int .i64 x) = (decide (x = 1) || decide (x = 5)) := by
  unfold carD
  have hk : ∀ y : Int, WideAt.IsKeyLit (.int .i64 y) := fun _ => trivial
  have hm1 : Maps.IsMap ((DataW.map ([] : List (Lit × DataW Unit))).put (.int .i64 5) (dI 5)) := isM0.put _ _
  by_cases h1 : x = 1
  · subst h1
    rw [Maps.atKey_put_same hm1 (hk 1), Maps.has_put_same hm1 (hk 1)]
    simp
  · have ne1 : (Lit.int .i64 x) ≠ (Lit.int .i64 1) := fun e => h1 (by injection e)
    rw [Maps.atKey_put_other ne1, Maps.has_put_other ne1]
    by_cases h5 : x = 5
    · subst h5
      rw [Maps.atKey_put_same isM0 (hk 5), Maps.has_put_same isM0 (hk 5)]
      simp
    · have ne5 : (Lit.int .i64 x) ≠ (Lit.int .i64 5) := fun e => h5 (by injection e)
      rw [Maps.atKey_put_other ne5, Maps.has_put_other ne5]
      simp [h1, h5]
      exact ⟨rfl, rfl⟩
theorem zeroF (w : World) : (zeroValue 79).run Try.prog w = .ok .nilFunc w := by kernel_rfl
abbrev EvC (w : World) (A : Option Addr) (n : Nat) (l : List S59) : Prop := Kd.C k59 w A n l
/-- What becomes of an event. -/
def stepC (M K : List Int) (x : S59) : List S59 :=
  if x.f2 = 5 then [x] else if x.f2 = 1 then (if (goesA M K x.f3).1 = true then [{ x with f3 := (goesA M K x.f3).2 }] else []) else []
def carryL (M K : List Int) (l : List S59) : List S59 := l.flatMap (stepC M K)
theorem carryL_len (M K : List Int) (l : List S59) (n : Nat) (h : l.length ≤ n) : (carryL M K l).length ≤ n := by
  refine Nat.le_trans ?_ h
  clear h
  induction l with
  | nil => simp [carryL]
  | cons x r ih =>
    have h1 : (stepC M K x).length ≤ 1 := by unfold stepC; split <;> (try split) <;> (try split) <;> simp
    have h2 : (carryL M K (x :: r)) = stepC M K x ++ carryL M K r := by simp [carryL]
    rw [h2, List.length_append, List.length_cons]
    omega
theorem ownsMap_blk {W W' : World} {k : TypeId} {R : Value → Option (DataW Unit × List MemPlace)} {b n : Nat} {D : DataW Unit} (h : W.ownsMap Try.prog k R b n D) (hb : W'.heap[b]? = W.heap[b]?) : W'.ownsMap Try.prog k R b n D := by
  obtain ⟨es, c, h1, h2⟩ := h
  exact ⟨es, c, hb.trans h1, h2⟩
theorem infoEv : (Try.prog.info? 59).map (fun i => (i.zero, i.size, i.bytes)) = some (some (.agg #[.int .i64 0, .int .i64 0, .int .i64 0, .int .i64 0, .int .i64 0, .int .i64 0]), 6, 48) := by kernel_rfl
set_option maxHeartbeats 8000000 in
set_option maxRecDepth 100000 in
theorem carry_any (FA MA KA UA LA : Option Addr) (nF cF cM cK nU cU cL : Nat) (M K : List Int) (l : List S59) (w : World) (hM : IC w MA M.length M) (hK : IC w KA K.length K) (hKl : K.length < 2 ^ 40) (hL : EvC w LA l.length l) (hLl : l.length < 2 ^ 30) (hwf : ∀ x ∈ l, (Lit.int .i64 x.f2).wf = true) :
    Calls Try.prog 17 #[.agg #[.slice FA nF cF, .slice MA M.length cM, .slice KA K.length cK, .slice UA nU cU], .slice LA l.length cL] w fun e w' =>
      ∃ v, e = .returned v ∧ Kd.R k59 59 w' w.heap.size (fun _ => True) v (carryL M K l) ∧ Below w.heap.size w w' := by
  have hue := Try.underlying59
  have hup := Try.underlying40
  have hmm := @run_makeMap Try.prog
  have hkey5 : keyOf Try.prog 3 (.int .i64 5) = some (.int .i64 5) := Maps.keyOf_int_mk Try.underlying3 (by decide)
  have hkey1 : keyOf Try.prog 3 (.int .i64 1) = some (.int .i64 1) := Maps.keyOf_int_mk Try.underlying3 (by decide)
  go_enter Try.func17, Try.ntmps17
  go_upto_region 1 with (fail)
  obtain ⟨w1, hw1⟩ : ∃ w1, w.alloc (.cells #[.slice FA nF cF, .slice MA M.length cM, .slice KA K.length cK, .slice UA nU cU] tPl) = w1 := ⟨_, rfl⟩
  have bP : Blk w1 w.heap.size tPl #[.slice FA nF cF, .slice MA M.length cM, .slice KA K.length cK, .slice UA nU cU] := by rw [← hw1]; exact Blk.new _ _ _
  have hb1 : Below w.heap.size w w1 := by rw [← hw1]; exact below_alloc (Below.refl _ _) _
  rw [hw1]
  clear hw1
  have hmo : (w1.alloc (.map #[] 0)).ownsMap (H := Unit) Try.prog 3 (RFn w.heap.size) w1.heap.size 0 (.map []) := World.ownsMap_made _ _ _ _
  go_upto_region 2 with (first
    | (refine wpList_insert_own _ rfl _ _ _ 80 rfl 3 79 keyedI Try.underlying80 _ w1.heap.size 0 (.map []) rfl hmo (by decide) _ _ _ rfl rfl hkey5 _ [] (RFn1 w.heap.size) ?_; intro wA hownA hgA)
    | (refine wpList_insert_own _ rfl _ _ _ 80 rfl 3 79 keyedI Try.underlying80 _ w1.heap.size 1 _ rfl hownA (by decide) _ _ _ rfl rfl hkey1 _ [] (RFn2 w.heap.size) ?_; intro wB hownB hgB))
  have hbA : Below w.heap.size w wB := ((hb1.alloc hb1.size _).grown hgA (by simp; have := hb1.size; omega) (fun r hr => by injection hr with hr; have := hb1.size; omega)).grown hgB (by have := hgA.size; simp at this; have := hb1.size; omega) (fun r hr => by injection hr with hr; have := hb1.size; omega)
  have bPB : Blk wB w.heap.size tPl #[.slice FA nF cF, .slice MA M.length cM, .slice KA K.length cK, .slice UA nU cU] := ((bP.alloc _).grown hgA (fun e => by injection e with e; have := bP.lt; omega)).grown hgB (fun e => by injection e with e; have := bP.lt; omega)
  have hlm : w1.heap.size < wB.heap.size := by have h1 := hgA.size; have h2 := hgB.size; simp at h1; omega
  have HMAP := hid (fun W (hb : Below wB.heap.size wB W) => (show W.ownsMap (H := Unit) Try.prog 3 (RFn w.heap.size) w1.heap.size 2 carD from ownsMap_blk hownB (hb.block _ hlm)))
  have HPB := hid (fun W (hb : Below wB.heap.size wB W) => (show Blk W w.heap.size tPl #[.slice FA nF cF, .slice MA M.length cM, .slice KA K.length cK, .slice UA nU cU] from bPB.below hb bPB.lt))
  have hwB : w.heap.size ≤ wB.heap.size := hbA.size
  obtain ⟨gm, hgm⟩ : ∃ gm, w1.heap.size = gm := ⟨_, rfl⟩
  rw [hgm] at HMAP ⊢
  clear hmo hownA hownB hgA hgB hb1 bP bPB hlm hgm hmm hkey5 hkey1
  go_wp2
  go_loopw [6, 18] (fun v i wr => ∃ (k : Nat) (v6 : Value), k ≤ l.length ∧ v = v6 ∧ i = .int .i64 k ∧ Hid (Kd.R k59 59 wr wB.heap.size (fun _ => True) v6 (carryL M K (l.take k))) ∧ Hid (Below wB.heap.size wB wr)) (fun _ i _ => l.length - (intOf i).toNat)
  case atStart => exact ⟨0, _, by omega, rfl, rfl, (show Kd.R _ _ _ _ _ _ _ from Kd.R_nil _ _ _ _ _), Below.refl _ _⟩
  case round =>
    obtain ⟨k, v6, hk, hv, rfl, HR, HB⟩ := hrel
    have hv := hv.symm
    subst hv
    by_cases hlt : k < l.length
    · obtain ⟨ad, rfl, c0, c1, c2, c3, c4, c5⟩ := at_T59 (Kd.C_below hL (below_then hbA hwB HB.out)) (k : Int) (by omega) (by omega)
      obtain ⟨x, hx⟩ : ∃ x, rd_T59 l (k : Int) = x := ⟨_, rfl⟩
      rw [hx] at c0 c1 c2 c3 c4 c5
      have htk : l.take (k + 1) = l.take k ++ [x] := by
        rw [List.take_succ_eq_append_getElem hlt, ← hx]
        simp [rd_T59, List.getD_eq_getElem?_getD, hlt]
      have HTK := hid (show carryL M K (l.take (k + 1)) = carryL M K (l.take k) ++ stepC M K x from by rw [carryL, htk, List.flatMap_append]; simp [carryL])
      have hlc : (carryL M K (l.take k)).length ≤ k := carryL_len M K _ _ (by rw [List.length_take]; omega)
      simp only [Int.toNat_natCast] at c0 c1 c2 c3 c4 c5
      have hwx : (Lit.int .i64 x.f2).wf = true := hwf x (by rw [← hx]; simp [rd_T59, List.getD_eq_getElem?_getD, hlt])
      clear hx htk
      go_upto_region 6 with (fail)
      obtain ⟨wE, hwE⟩ : ∃ wE, wr.alloc (.cells #[.int .i64 x.f0, .int .i64 x.f1, .int .i64 x.f2, .int .i64 x.f3, .int .i64 x.f4, .int .i64 x.f5] tEv) = wE := ⟨_, rfl⟩
      have bEv : Blk wE wr.heap.size tEv #[.int .i64 x.f0, .int .i64 x.f1, .int .i64 x.f2, .int .i64 x.f3, .int .i64 x.f4, .int .i64 x.f5] := by rw [← hwE]; exact Blk.new _ _ _
      have hbE : Below wr.heap.size wr wE := by rw [← hwE]; exact below_alloc (Below.refl _ _) _
      rw [hwE]
      have hmo2 := HMAP.out wE (below_then HB.out HB.out.size hbE)
      have hPE := HPB.out wE (below_then HB.out HB.out.size hbE)
      have HKX := hid (show keyOf Try.prog 3 (.int .i64 x.f2) = some (.int .i64 x.f2) from Maps.keyOf_int_mk Try.underlying3 hwx)
      have d0 := (bEv.cell 0).trans rfl
      have d1 := (bEv.cell 1).trans rfl
      have d2 := (bEv.cell 2).trans rfl
      have d3 := (bEv.cell 3).trans rfl
      have d4 := (bEv.cell 4).trans rfl
      have d5 := (bEv.cell 5).trans rfl
      have hME : IC wE MA M.length M := Kd.C_below hM (below_then hbA hwB (below_then HB.out HB.out.size hbE))
      have hKE : IC wE KA K.length K := Kd.C_below hK (below_then hbA hwB (below_then HB.out HB.out.size hbE))
      clear hwE c0 c1 c2 c3 c4 c5 hwx
      by_cases h5 : x.f2 = 5
      · have HAT := hid (show carD.atKey (.int .i64 x.f2) (dI 0) = dI 5 from by rw [(carD_at x.f2).1, h5]; rfl)
        have HHAS := hid (show Maps.has carD (.int .i64 x.f2) = true from by rw [(carD_at x.f2).2, h5]; rfl)
        have HST := hid (show stepC M K x = [⟨x.f0, x.f1, x.f2, x.f3, x.f4, x.f5⟩] from by rw [stepC, if_pos h5])
        clear h5 hPE hME hKE
        go_upto_region 9 with (first
          | (at_lookup; refine wpList_lookup_own_ok _ rfl _ _ 80 rfl 3 79 keyedI Try.underlying80 (RFn w.heap.size) (zeroF _) (dI 0) [] (RFn0 _) gm 2 carD rfl hmo2 _ _ rfl HKX.out ?_; intro v ps hv; rw [HAT.out] at hv; obtain rfl := (RFn_inv hv).1 rfl; rw [HHAS.out]; clear hv)
          | (go_at_call 34; refine (void_any x.f0 x.f1 x.f2 x.f3 x.f4 x.f5 wE).mono ?_; rintro e w' ⟨rfl, hb'⟩; have HB' := hid hb'; clear hb'))
        obtain ⟨wG, hwG⟩ : ∃ wG, w'.alloc (.cells #[.int .i64 x.f0, .int .i64 x.f1, .int .i64 x.f2, .int .i64 x.f3, .int .i64 x.f4, .int .i64 x.f5] tEv) = wG := ⟨_, rfl⟩
        have bG : Blk wG w'.heap.size tEv #[.int .i64 x.f0, .int .i64 x.f1, .int .i64 x.f2, .int .i64 x.f3, .int .i64 x.f4, .int .i64 x.f5] := by rw [← hwG]; exact Blk.new _ _ _
        have hbG : Below w'.heap.size w' wG := by rw [← hwG]; exact below_alloc (Below.refl _ _) _
        have hbEG : Below wr.heap.size wr wG := below_then (below_then hbE hbE.size HB'.out) (Nat.le_trans hbE.size HB'.out.size) hbG
        rw [hwG]
        have HBG := hid (below_then HB.out HB.out.size hbEG)
        have HRG := hid (Kd.R_below HR.out hbEG)
        have y0 := (bG.cell 0).trans rfl
        have y1 := (bG.cell 1).trans rfl
        have y2 := (bG.cell 2).trans rfl
        have y3 := (bG.cell 3).trans rfl
        have y4 := (bG.cell 4).trans rfl
        have y5 := (bG.cell 5).trans rfl
        clear hwG bG hbG hbEG hbE hmo2 d0 d1 d2 d3 d4 d5 bEv HB HR
        go_wp2_with (at_builtin; refine Kd.R_append k59 (w0 := wB) wB.heap.size rfl (.tmp 37) (.tmp 39) 60 59 (.agg #[.int .i64 0, .int .i64 0, .int .i64 0, .int .i64 0, .int .i64 0, .int .i64 0]) 48 rfl Try.underlying60 infoEv rfl (by decide) (by decide) v6 (carryL M K (l.take k)) (⟨x.f0, x.f1, x.f2, x.f3, x.f4, x.f5⟩ : S59) [.int .i64 x.f0, .int .i64 x.f1, .int .i64 x.f2, .int .i64 x.f3, .int .i64 x.f4, .int .i64 x.f5] (fun _ => True) (fun _ => False) rfl rfl (k59_mkM _ _ _ (⟨x.f0, x.f1, x.f2, x.f3, x.f4, x.f5⟩ : S59)) (fun _ h => h.elim) (fun _ _ => trivial) HRG.out HBG.out HBG.out.size (by omega) ?_; intro v9 w9 hR9 hB9 hg9 hat9; clear hat9 hg9; have HR9 := hid hR9; have HB9 := hid hB9; clear hR9 hB9)
        go_roundw
        case rel => exact ⟨k + 1, _, by omega, rfl, by go_num, (show Kd.R _ _ _ _ _ _ _ from by rw [HTK.out, HST.out]; exact HR9.out), HB9.out⟩
        case measure => simp [intOf]; omega
      · by_cases h1 : x.f2 = 1
        · have HAT := hid (show carD.atKey (.int .i64 x.f2) (dI 0) = dI 1 from by rw [(carD_at x.f2).1, h1]; rfl)
          have HHAS := hid (show Maps.has carD (.int .i64 x.f2) = true from by rw [(carD_at x.f2).2, h1]; rfl)
          have hca := result_any w.heap.size (.slice FA nF cF) (.slice UA nU cU) MA KA cM cK M K x.f0 x.f1 x.f2 x.f3 x.f4 x.f5 wE hPE hME hKE hKl
          obtain ⟨b, y, hgo⟩ : ∃ b y, goesA M K x.f3 = (b, y) := ⟨_, _, rfl⟩
          rw [hgo] at hca
          have HCA := hid hca
          have HGO := hid hgo
          have H1 := hid h1
          have H5 := hid h5
          clear h5 h1 hPE hME hKE hca hgo
          cases b
          · have HST := hid (show stepC M K x = [] from by rw [stepC, if_neg H5.out, if_pos H1.out, HGO.out]; rfl)
            go_upto_region 9 with (first
              | (at_lookup; refine wpList_lookup_own_ok _ rfl _ _ 80 rfl 3 79 keyedI Try.underlying80 (RFn w.heap.size) (zeroF _) (dI 0) [] (RFn0 _) gm 2 carD rfl hmo2 _ _ rfl HKX.out ?_; intro v ps hv; rw [HAT.out] at hv; obtain rfl := (RFn_inv hv).2.1 rfl; rw [HHAS.out]; clear hv)
              | (go_at_call 35; refine HCA.out.mono ?_; rintro e w' ⟨rfl, hb'⟩; have HB' := hid hb'; clear hb'))
            obtain ⟨wG, hwG⟩ : ∃ wG, w'.alloc (.cells #[.int .i64 x.f0, .int .i64 x.f1, .int .i64 x.f2, .int .i64 y, .int .i64 x.f4, .int .i64 x.f5] tEv) = wG := ⟨_, rfl⟩
            have bG : Blk wG w'.heap.size tEv #[.int .i64 x.f0, .int .i64 x.f1, .int .i64 x.f2, .int .i64 y, .int .i64 x.f4, .int .i64 x.f5] := by rw [← hwG]; exact Blk.new _ _ _
            have hbG : Below w'.heap.size w' wG := by rw [← hwG]; exact below_alloc (Below.refl _ _) _
            have hbEG : Below wr.heap.size wr wG := below_then (below_then hbE hbE.size HB'.out) (Nat.le_trans hbE.size HB'.out.size) hbG
            rw [hwG]
            have HBG := hid (below_then HB.out HB.out.size hbEG)
            have HRG := hid (Kd.R_below HR.out hbEG)
            have y0 := (bG.cell 0).trans rfl
            have y1 := (bG.cell 1).trans rfl
            have y2 := (bG.cell 2).trans rfl
            have y3 := (bG.cell 3).trans rfl
            have y4 := (bG.cell 4).trans rfl
            have y5 := (bG.cell 5).trans rfl
            clear hwG bG hbG hbEG hbE hmo2 d0 d1 d2 d3 d4 d5 bEv HB HR
            go_wp2
            go_roundw
            case rel => exact ⟨k + 1, _, by omega, rfl, by go_num, (show Kd.R _ _ _ _ _ _ _ from by rw [HTK.out, HST.out]; exact (List.append_nil _).symm ▸ HRG.out), HBG.out⟩
            case measure => simp [intOf]; omega
          · have HST := hid (show stepC M K x = [⟨x.f0, x.f1, x.f2, y, x.f4, x.f5⟩] from by rw [stepC, if_neg H5.out, if_pos H1.out, HGO.out]; rfl)
            go_upto_region 9 with (first
              | (at_lookup; refine wpList_lookup_own_ok _ rfl _ _ 80 rfl 3 79 keyedI Try.underlying80 (RFn w.heap.size) (zeroF _) (dI 0) [] (RFn0 _) gm 2 carD rfl hmo2 _ _ rfl HKX.out ?_; intro v ps hv; rw [HAT.out] at hv; obtain rfl := (RFn_inv hv).2.1 rfl; rw [HHAS.out]; clear hv)
              | (go_at_call 35; refine HCA.out.mono ?_; rintro e w' ⟨rfl, hb'⟩; have HB' := hid hb'; clear hb'))
            obtain ⟨wG, hwG⟩ : ∃ wG, w'.alloc (.cells #[.int .i64 x.f0, .int .i64 x.f1, .int .i64 x.f2, .int .i64 y, .int .i64 x.f4, .int .i64 x.f5] tEv) = wG := ⟨_, rfl⟩
            have bG : Blk wG w'.heap.size tEv #[.int .i64 x.f0, .int .i64 x.f1, .int .i64 x.f2, .int .i64 y, .int .i64 x.f4, .int .i64 x.f5] := by rw [← hwG]; exact Blk.new _ _ _
            have hbG : Below w'.heap.size w' wG := by rw [← hwG]; exact below_alloc (Below.refl _ _) _
            have hbEG : Below wr.heap.size wr wG := below_then (below_then hbE hbE.size HB'.out) (Nat.le_trans hbE.size HB'.out.size) hbG
            rw [hwG]
            have HBG := hid (below_then HB.out HB.out.size hbEG)
            have HRG := hid (Kd.R_below HR.out hbEG)
            have y0 := (bG.cell 0).trans rfl
            have y1 := (bG.cell 1).trans rfl
            have y2 := (bG.cell 2).trans rfl
            have y3 := (bG.cell 3).trans rfl
            have y4 := (bG.cell 4).trans rfl
            have y5 := (bG.cell 5).trans rfl
            clear hwG bG hbG hbEG hbE hmo2 d0 d1 d2 d3 d4 d5 bEv HB HR
            go_wp2_with (at_builtin; refine Kd.R_append k59 (w0 := wB) wB.heap.size rfl (.tmp 37) (.tmp 39) 60 59 (.agg #[.int .i64 0, .int .i64 0, .int .i64 0, .int .i64 0, .int .i64 0, .int .i64 0]) 48 rfl Try.underlying60 infoEv rfl (by decide) (by decide) v6 (carryL M K (l.take k)) (⟨x.f0, x.f1, x.f2, y, x.f4, x.f5⟩ : S59) [.int .i64 x.f0, .int .i64 x.f1, .int .i64 x.f2, .int .i64 y, .int .i64 x.f4, .int .i64 x.f5] (fun _ => True) (fun _ => False) rfl rfl (k59_mkM _ _ _ (⟨x.f0, x.f1, x.f2, y, x.f4, x.f5⟩ : S59)) (fun _ h => h.elim) (fun _ _ => trivial) HRG.out HBG.out HBG.out.size (by omega) ?_; intro v9 w9 hR9 hB9 hg9 hat9; clear hat9 hg9; have HR9 := hid hR9; have HB9 := hid hB9; clear hR9 hB9)
            go_roundw
            case rel => exact ⟨k + 1, _, by omega, rfl, by go_num, (show Kd.R _ _ _ _ _ _ _ from by rw [HTK.out, HST.out]; exact HR9.out), HB9.out⟩
            case measure => simp [intOf]; omega
        · have HAT := hid (show carD.atKey (.int .i64 x.f2) (dI 0) = dI 0 from by rw [(carD_at x.f2).1, if_neg h1, if_neg h5])
          have HHAS := hid (show Maps.has carD (.int .i64 x.f2) = false from by rw [(carD_at x.f2).2]; simp [h1, h5])
          have HST := hid (show stepC M K x = [] from by rw [stepC, if_neg h5, if_neg h1])
          clear h5 h1 hPE hME hKE
          have HBG := hid (below_then HB.out HB.out.size hbE)
          have HRG := hid (Kd.R_below HR.out hbE)
          go_wp2_with (at_lookup; refine wpList_lookup_own_ok _ rfl _ _ 80 rfl 3 79 keyedI Try.underlying80 (RFn w.heap.size) (zeroF _) (dI 0) [] (RFn0 _) gm 2 carD rfl hmo2 _ _ rfl HKX.out ?_; intro v ps hv; rw [HAT.out] at hv; obtain rfl := (RFn_inv hv).2.2 rfl; rw [HHAS.out]; clear hv)
          go_roundw
          case rel => exact ⟨k + 1, _, by omega, rfl, by go_num, (show Kd.R _ _ _ _ _ _ _ from by rw [HTK.out, HST.out]; exact (List.append_nil _).symm ▸ HRG.out), HBG.out⟩
          case measure => simp [intOf]; omega
    · obtain rfl : k = l.length := by omega
      go_wp2
      go_ret
      exact ⟨_, rfl, Kd.R_lower (by rw [← List.take_length (l := l)]; exact HR.out) hwB, below_then hbA hwB HB.out⟩
end Go.Proofs.Ytgegjhgifeobdaa.Pd


namespace Go.Proofs.Ytgegjhgifeobdaa.Pd
set_option linter.unusedVariables false
open Go.RowKit Go.Lib Go.Shelf Go.Proofs.YtgegjhgifeobdaaW.PrintWords Go.Proofs.Ytgegjhgifeobdaa
/-- Kept blocks have images. -/
def hitsOk (M D : List Int) (n : Nat) : Bool := (keptL M D).all fun k => decide (rd M k < (n : Int))
theorem hits_of {M D : List Int} {n : Nat} (h : hitsOk M D n = true) : ∀ k ∈ keptL M D, ∃ m : Nat, rd M k = m ∧ m < n := fun k hk => by
  have h1 := (List.all_eq_true.1 h) k hk
  have h2 := (List.mem_filter.1 hk).2
  simp only [keepB, Bool.and_eq_true, decide_eq_true_eq] at h1 h2
  obtain ⟨m, hm⟩ := Int.eq_ofNat_of_zero_le h2.2
  exact ⟨m, hm, by omega⟩
def compK (M D : List Int) : List Int := il (sortedL (nl (keptL M D)))
theorem R_four {base n1 n2 n3 n4 : Nat} {w : World} {v1 v2 v3 v4 : Value} {x1 x2 x3 x4 : List Int} (h1 : w.ownsRow base tI9 1 v1 n1 (nums .i64 x1)) (h2 : w.ownsRow base tI9 1 v2 n2 (nums .i64 x2)) (h3 : w.ownsRow base tI9 1 v3 n3 (nums .i64 x3)) (h4 : w.ownsRow base tI9 1 v4 n4 (nums .i64 x4))
    (hne : v1.ownBlock ≠ v2.ownBlock ∧ v1.ownBlock ≠ v3.ownBlock ∧ v1.ownBlock ≠ v4.ownBlock ∧ v2.ownBlock ≠ v3.ownBlock ∧ v2.ownBlock ≠ v4.ownBlock ∧ ND v3 v4) :
    (Kd.int .i64).R tI9 w base (fun k_ => some k_ ≠ v2.ownBlock ∧ some k_ ≠ v3.ownBlock ∧ some k_ ≠ v4.ownBlock) v1 x1 ∧ (Kd.int .i64).R tI9 w base (fun k_ => some k_ ≠ v1.ownBlock ∧ some k_ ≠ v3.ownBlock ∧ some k_ ≠ v4.ownBlock) v2 x2 ∧
    (Kd.int .i64).R tI9 w base (fun k_ => some k_ ≠ v1.ownBlock ∧ some k_ ≠ v2.ownBlock ∧ some k_ ≠ v4.ownBlock) v3 x3 ∧ (Kd.int .i64).R tI9 w base (fun k_ => some k_ ≠ v1.ownBlock ∧ some k_ ≠ v2.ownBlock ∧ some k_ ≠ v3.ownBlock) v4 x4 := by
  obtain ⟨a, b, c, d, e, f⟩ := hne
  refine ⟨R_ownP h1 fun k hk => ?_, R_ownP h2 fun k hk => ?_, R_ownP h3 fun k hk => ?_, R_ownP h4 fun k hk => ?_⟩
  · rw [← hk]; exact ⟨a, b, c⟩
  · rw [← hk]; exact ⟨Ne.symm a, d, e⟩
  · rw [← hk]
    refine ⟨Ne.symm b, Ne.symm d, ?_⟩
    rcases f with f | f
    · rw [f] at hk; cases hk
    · exact f
  · rw [← hk]
    refine ⟨Ne.symm c, Ne.symm e, ?_⟩
    rcases f with f | f
    · rw [f, hk]; exact fun e => by cases e
    · exact Ne.symm f
end Go.Proofs.Ytgegjhgifeobdaa.Pd


namespace Go.Proofs.Ytgegjhgifeobdaa.Pd
open Go.RowKit Go.Lib Go.Proofs.YtgegjhgifeobdaaW.PrintWords
set_option linter.unusedVariables false
set_option linter.unusedSimpArgs false

/-! ### embed_Best: function 26 -/
def embed_Best.f (a0_0 : Int) (l0_1 : List Int) (a1_0 : Int) (l1_1 : List Int) (l2 : List Int) : Option (List Int × List Int × Int) := if l0_1.length ≤ 12 ∧ l1_1.length ≤ 1000 ∧ l2.length < 1099511627776 ∧ okL 18446744073709551616 l0_1 = true ∧ okL 18446744073709551616 l1_1 = true ∧ okI l2 = true ∧ 0 ≤ a0_0 ∧ 0 ≤ a1_0 then some (bestF a0_0 a1_0 l0_1 l1_1 l2) else none
set_option maxRecDepth 100000 in
theorem embed_Best.calls (a0_0 : Int) (A0_1 : Option Addr) (c0_1 : Nat) (l0_1 : List Int) (a1_0 : Int) (A1_1 : Option Addr) (c1_1 : Nat) (l1_1 : List Int) (A2 : Option Addr) (c2 : Nat) (l2 : List Int) (r1 : List Int) (r2 : List Int) (r3 : Int) (w : World) (hr0_1 : Kd.C (Kd.int .u64) w A0_1 l0_1.length l0_1) (hc0_1 : l0_1.length ≤ c0_1) (hr1_1 : Kd.C (Kd.int .u64) w A1_1 l1_1.length l1_1) (hc1_1 : l1_1.length ≤ c1_1) (hr2 : Kd.C (Kd.int .i64) w A2 l2.length l2) (hc2 : l2.length ≤ c2) (h : embed_Best.f a0_0 l0_1 a1_0 l1_1 l2 = some (r1, r2, r3)) :
    Calls Try.prog 26 #[.agg #[.int .i64 a0_0, .slice A0_1 l0_1.length c0_1], .agg #[.int .i64 a1_0, .slice A1_1 l1_1.length c1_1], .slice A2 l2.length c2] w fun e w' => ∃ v0_ v1_ : Value, e = .returned (.tuple #[.agg #[v0_, v1_], .int .i64 r3]) ∧ Kd.R (Kd.int .i64) 3 w' w.heap.size (fun k_ => some k_ ≠ (v1_ : Value).ownBlock) v0_ r1 ∧ Kd.R (Kd.int .i64) 3 w' w.heap.size (fun k_ => some k_ ≠ (v0_ : Value).ownBlock) v1_ r2 ∧ Below w.heap.size w w' := by
  obtain ⟨⟨h1, h2, h3, h4, h5, h6, h7, h8⟩, hr⟩ := some_if h
  obtain ⟨V, rfl⟩ := Int.eq_ofNat_of_zero_le h7
  obtain ⟨U, rfl⟩ := Int.eq_ofNat_of_zero_le h8
  unfold bestF at hr
  split at hr
  · rename_i hc
    obtain ⟨q1, hq⟩ := Prod.mk.inj hr
    obtain ⟨q2, q3⟩ := Prod.mk.inj hq
    rw [q1, q2, q3]
    refine (best_big V U _ _ _ c0_1 c1_1 c2 A0_1 A1_1 A2 w hc).mono ?_
    rintro e w' ⟨rfl, hb⟩
    exact ⟨_, _, rfl, nil_pair.1, nil_pair.2, hb⟩
  · rename_i hc
    split at hr
    · rename_i hd
      obtain ⟨q1, hq⟩ := Prod.mk.inj hr
      obtain ⟨q2, q3⟩ := Prod.mk.inj hq
      rw [q1, q2, q3]
      refine (best_bad V U _ _ c0_1 c1_1 c2 A0_1 A1_1 A2 l2 w (by omega) (by omega) hr2 h3 (okI_iff.1 h6) false hd (fun e => nomatch e)).mono ?_
      rintro e w' ⟨rfl, hb⟩
      exact ⟨_, _, rfl, nil_pair.1, nil_pair.2, hb⟩
    · rename_i hd
      have hd1 : diffB l2 l0_1.length = true := by simpa using hd
      split at hr
      · rename_i hv
        obtain ⟨q1, hq⟩ := Prod.mk.inj hr
        obtain ⟨q2, q3⟩ := Prod.mk.inj hq
        rw [q1, q2, q3]
        refine (best_bad V U _ _ c0_1 c1_1 c2 A0_1 A1_1 A2 l2 w (by omega) (by omega) hr2 h3 (okI_iff.1 h6) true hd1 (fun _ => hv)).mono ?_
        rintro e w' ⟨rfl, hb⟩
        exact ⟨_, _, rfl, nil_pair.1, nil_pair.2, hb⟩
      · rename_i hv
        obtain ⟨q1, hq⟩ := Prod.mk.inj hr
        obtain ⟨q2, q3⟩ := Prod.mk.inj hq
        rw [q1, q2, q3]
        obtain ⟨e1, e2, e3, e4⟩ := diff_nl hd1
        have := best_ok V U c0_1 c1_1 c2 A0_1 A1_1 A2 (nl l0_1) (nl l1_1) (nl l2) w (by omega) (by omega) (by omega) (by rw [nl_length]; exact blc_of (by decide) hr0_1 h4) (by rw [nl_length]; exact blc_of (by decide) hr1_1 h5) (by rw [e1, nl_length]; exact hr2) (fun i hi => by have := e2 i hi; rw [nl_length]; omega) e3 (by rw [nl_length]; omega) (by rw [nl_length, nl_length]; omega) (by rw [nl_length]; omega) (by rw [nl_length]; omega)
        rw [nl_length, nl_length, nl_length] at this
        refine this.mono ?_
        rintro e w' ⟨v1, v2, rfl, ho1, ho2, hb, hnd⟩
        exact ⟨v1, v2, rfl, (R_pair ho1 ho2 hnd).1, (R_pair ho1 ho2 hnd).2, hb⟩

/-! ### move_completed: function 27 -/
def move_completed.f (a0_0 : Int) (l0_1 : List Int) (l1_0 : List Int) (l1_1 : List Int) (l2 : List Int) : Option (List Int × List Int × List Int × List Int) := if l0_1.length < 1048576 ∧ l1_0.length < 1048576 ∧ l1_1.length < 1048576 ∧ l2.length ≤ 12 ∧ hitsOk l1_1 l2 l0_1.length = true then some (l1_0, l1_1, compK l1_1 l2, furL l0_1.length l1_1 (compK l1_1 l2) l0_1.length) else none
set_option maxRecDepth 100000 in
theorem move_completed.calls (a0_0 : Int) (A0_1 : Option Addr) (c0_1 : Nat) (l0_1 : List Int) (A1_0 : Option Addr) (c1_0 : Nat) (l1_0 : List Int) (A1_1 : Option Addr) (c1_1 : Nat) (l1_1 : List Int) (A2 : Option Addr) (c2 : Nat) (l2 : List Int) (r1 : List Int) (r2 : List Int) (r3 : List Int) (r4 : List Int) (w : World) (hr0_1 : Kd.C (Kd.int .u64) w A0_1 l0_1.length l0_1) (hc0_1 : l0_1.length ≤ c0_1) (hr1_0 : Kd.C (Kd.int .i64) w A1_0 l1_0.length l1_0) (hc1_0 : l1_0.length ≤ c1_0) (hr1_1 : Kd.C (Kd.int .i64) w A1_1 l1_1.length l1_1) (hc1_1 : l1_1.length ≤ c1_1) (hr2 : Kd.C (Kd.int .i64) w A2 l2.length l2) (hc2 : l2.length ≤ c2) (h : move_completed.f a0_0 l0_1 l1_0 l1_1 l2 = some (r1, r2, r3, r4)) :
    Calls Try.prog 27 #[.agg #[.int .i64 a0_0, .slice A0_1 l0_1.length c0_1], .agg #[.slice A1_0 l1_0.length c1_0, .slice A1_1 l1_1.length c1_1], .slice A2 l2.length c2] w fun e w' => ∃ v0_ v1_ v2_ v3_ : Value, e = .returned (.agg #[v0_, v1_, v2_, v3_]) ∧ Kd.R (Kd.int .i64) 3 w' w.heap.size (fun k_ => some k_ ≠ (v1_ : Value).ownBlock ∧ some k_ ≠ (v2_ : Value).ownBlock ∧ some k_ ≠ (v3_ : Value).ownBlock) v0_ r1 ∧ Kd.R (Kd.int .i64) 3 w' w.heap.size (fun k_ => some k_ ≠ (v0_ : Value).ownBlock ∧ some k_ ≠ (v2_ : Value).ownBlock ∧ some k_ ≠ (v3_ : Value).ownBlock) v1_ r2 ∧ Kd.R (Kd.int .i64) 3 w' w.heap.size (fun k_ => some k_ ≠ (v0_ : Value).ownBlock ∧ some k_ ≠ (v1_ : Value).ownBlock ∧ some k_ ≠ (v3_ : Value).ownBlock) v2_ r3 ∧ Kd.R (Kd.int .i64) 3 w' w.heap.size (fun k_ => some k_ ≠ (v0_ : Value).ownBlock ∧ some k_ ≠ (v1_ : Value).ownBlock ∧ some k_ ≠ (v2_ : Value).ownBlock) v3_ r4 ∧ Below w.heap.size w w' := by
  obtain ⟨⟨h1, h2, h3, h4, h5⟩, hr⟩ := some_if h
  obtain ⟨q1, hr⟩ := Prod.mk.inj hr
  obtain ⟨q2, hr⟩ := Prod.mk.inj hr
  obtain ⟨q3, q4⟩ := Prod.mk.inj hr
  rw [q1, q2, q3, q4]
  refine (completed_any a0_0 A0_1 A1_0 A1_1 A2 l0_1.length c0_1 c1_0 c1_1 c2 _ _ l2 w hr1_0 hr1_1 hr2 h1 h2 h3 h4 (hits_of h5)).mono ?_
  rintro e w' ⟨v1, v2, v3, v4, he, o1, o2, o3, o4, hne, hb⟩
  have := R_four o1 o2 o3 o4 hne
  exact ⟨v1, v2, v3, v4, he, this.1, this.2.1, this.2.2.1, this.2.2.2, hb⟩

/-! ### embed_different: function 28 -/
def embed_different.f (l0 : List Int) (a1 : Int) : Option (Bool) := if l0.length < 1099511627776 ∧ okI l0 = true then some (diffB l0 a1) else none
set_option maxRecDepth 100000 in
theorem embed_different.calls (A0 : Option Addr) (c0 : Nat) (l0 : List Int) (a1 : Int) (r : Bool) (w : World) (hr0 : Kd.C (Kd.int .i64) w A0 l0.length l0) (hc0 : l0.length ≤ c0) (h : embed_different.f l0 a1 = some r) :
    Calls Try.prog 28 #[.slice A0 l0.length c0, .int .i64 a1] w fun e w' => e = .returned (.bool r) ∧ Below w.heap.size w w' := by
  obtain ⟨⟨h1, h2⟩, rfl⟩ := some_if h
  exact different_any A0 c0 l0 a1 w hr0 h1 (okI_iff.1 h2)

/-! ### embed_moved: function 51 -/
def embed_moved.f (a0 : Int) (l1 : List Int) : Option (Int) := if 0 ≤ a0 ∧ a0 < 18446744073709551616 ∧ l1.length ≤ 60 ∧ okL 60 l1 = true then some ((movedN a0.toNat (nl l1) : Nat) : Int) else none
set_option maxRecDepth 100000 in
theorem embed_moved.calls (a0 : Int) (A1 : Option Addr) (c1 : Nat) (l1 : List Int) (r : Int) (w : World) (hr1 : Kd.C (Kd.int .i64) w A1 l1.length l1) (hc1 : l1.length ≤ c1) (h : embed_moved.f a0 l1 = some r) :
    Calls Try.prog 51 #[.int .u64 a0, .slice A1 l1.length c1] w fun e w' => e = .returned (.int .u64 r) ∧ Drawn0 w w' := by
  obtain ⟨⟨h1, h2, h3, h4⟩, rfl⟩ := some_if h
  obtain ⟨s, rfl⟩ := Int.eq_ofNat_of_zero_le h1
  have e1 := il_nl (fun b hb => ((okL_iff.1 h4) b hb).1)
  have := moved_any s A1 c1 (nl l1) w (by omega) (by rw [e1, nl_length]; exact hr1) (by rw [nl_length]; exact h3) (okL_nl h4)
  rw [nl_length] at this
  refine this.mono ?_
  rintro e w' ⟨rfl, rfl⟩
  exact ⟨rfl, Drawn0.refl _⟩

/-! ### move_Carry: function 17 -/
def move_Carry.f (l0_0 : List Int) (l0_1 : List Int) (l0_2 : List Int) (l0_3 : List Int) (l1 : List (S59)) : Option ((List (S59))) := if l0_2.length < 1099511627776 ∧ l1.length < 1073741824 ∧ (l1.all fun x => (Lit.int .i64 x.f2).wf) = true then some (carryL l0_1 l0_2 l1) else none
set_option maxRecDepth 100000 in
theorem move_Carry.calls (A0_0 : Option Addr) (c0_0 : Nat) (l0_0 : List Int) (A0_1 : Option Addr) (c0_1 : Nat) (l0_1 : List Int) (A0_2 : Option Addr) (c0_2 : Nat) (l0_2 : List Int) (A0_3 : Option Addr) (c0_3 : Nat) (l0_3 : List Int) (A1 : Option Addr) (c1 : Nat) (l1 : List (S59)) (r : List (S59)) (w : World) (hr0_0 : Kd.C (Kd.int .i64) w A0_0 l0_0.length l0_0) (hc0_0 : l0_0.length ≤ c0_0) (hr0_1 : Kd.C (Kd.int .i64) w A0_1 l0_1.length l0_1) (hc0_1 : l0_1.length ≤ c0_1) (hr0_2 : Kd.C (Kd.int .i64) w A0_2 l0_2.length l0_2) (hc0_2 : l0_2.length ≤ c0_2) (hr0_3 : Kd.C (Kd.int .i64) w A0_3 l0_3.length l0_3) (hc0_3 : l0_3.length ≤ c0_3) (hr1 : Kd.C k59 w A1 l1.length l1) (hc1 : l1.length ≤ c1) (h : move_Carry.f l0_0 l0_1 l0_2 l0_3 l1 = some r) :
    Calls Try.prog 17 #[.agg #[.slice A0_0 l0_0.length c0_0, .slice A0_1 l0_1.length c0_1, .slice A0_2 l0_2.length c0_2, .slice A0_3 l0_3.length c0_3], .slice A1 l1.length c1] w fun e w' => ∃ v0_ : Value, e = .returned (v0_) ∧ Kd.R k59 59 w' w.heap.size (fun _ => True) v0_ r ∧ Below w.heap.size w w' := by
  obtain ⟨⟨h1, h2, h3⟩, rfl⟩ := some_if h
  refine (carry_any A0_0 A0_1 A0_2 A0_3 A1 l0_0.length c0_0 c0_1 c0_2 l0_3.length c0_3 c1 l0_1 l0_2 l1 w hr0_1 hr0_2 (by omega) hr1 (by omega) (fun x hx => (List.all_eq_true.1 h3) x hx)).mono ?_
  rintro e w' ⟨v, he, hR, hb⟩
  exact ⟨v, he, hR, hb⟩

/-! ### plexusref06_Shuffled: function 8 -/
def plexusref06_Shuffled.f (a0 : Int) (l1 : List Int) : Option (List Int) := if l1.length < 2 ^ 63 ∧ okL 256 l1 = true ∧ 0 ≤ a0 ∧ a0 < 1048576 then some (il (shL (nl l1) a0.toNat)) else none
set_option maxRecDepth 100000 in
theorem plexusref06_Shuffled.calls (a0 : Int) (A1 : Option Addr) (c1 : Nat) (l1 : List Int) (r : List Int) (w : World) (hr1 : Kd.C (Kd.int .u8) w A1 l1.length l1) (hc1 : l1.length ≤ c1) (h : plexusref06_Shuffled.f a0 l1 = some r) :
    Calls Try.prog 8 #[.int .i64 a0, .slice A1 l1.length c1] w fun e w' => ∃ v0_ : Value, e = .returned (v0_) ∧ Kd.R (Kd.int .i64) 3 w' w.heap.size (fun _ => True) v0_ r ∧ Below w.heap.size w w' := by
  obtain ⟨⟨h1, h2, h3, h4⟩, rfl⟩ := some_if h
  obtain ⟨n, rfl⟩ := Int.eq_ofNat_of_zero_le h3
  refine (shuffled_any A1 _ c1 n (nl l1) w (nlc_of hr1 h2) (by omega) (by omega)).mono ?_
  rintro e w' ⟨v, he, ho, hb⟩
  exact ⟨v, he, R_own ho, hb⟩

/-! ### plexusref06_Image: function 7 -/
def plexusref06_Image.f (a0_0 : Int) (l0_1 : List Int) (l1 : List Int) : Option (Int × List Int) := if l0_1.length < 1099511627776 ∧ okL 18446744073709551616 l0_1 = true ∧ diffB l1 l1.length = true ∧ a0_0 = l1.length ∧ l1.length ≤ 60 then some (a0_0, il (imL (nl l0_1) (nl l1))) else none
set_option maxRecDepth 100000 in
theorem plexusref06_Image.calls (a0_0 : Int) (A0_1 : Option Addr) (c0_1 : Nat) (l0_1 : List Int) (A1 : Option Addr) (c1 : Nat) (l1 : List Int) (r1 : Int) (r2 : List Int) (w : World) (hr0_1 : Kd.C (Kd.int .u64) w A0_1 l0_1.length l0_1) (hc0_1 : l0_1.length ≤ c0_1) (hr1 : Kd.C (Kd.int .i64) w A1 l1.length l1) (hc1 : l1.length ≤ c1) (h : plexusref06_Image.f a0_0 l0_1 l1 = some (r1, r2)) :
    Calls Try.prog 7 #[.agg #[.int .i64 a0_0, .slice A0_1 l0_1.length c0_1], .slice A1 l1.length c1] w fun e w' => ∃ v1_ : Value, e = .returned (.agg #[.int .i64 r1, v1_]) ∧ Kd.R (Kd.int .u64) 57 w' w.heap.size (fun _ => True) v1_ r2 ∧ Below w.heap.size w w' := by
  obtain ⟨⟨h1, h2, h3, h4, h5⟩, hr⟩ := some_if h
  obtain ⟨rfl, rfl⟩ := Prod.mk.inj hr
  obtain ⟨e1, e2, e3, e4⟩ := diff_nl h3
  subst h4
  have := image_any A0_1 A1 c0_1 c1 (nl l0_1) (nl l1) w (by rw [nl_length]; exact blc_of (by decide) hr0_1 h2) (by rw [nl_length]; omega) (by rw [e1, nl_length]; exact hr1) (by rw [nl_length]; exact h5) (fun q hq => by have := e2 q hq; rw [nl_length]; omega) e3
  rw [nl_length, nl_length] at this
  refine this.mono ?_
  rintro e w' ⟨v, he, ho, hb⟩
  exact ⟨v, he, R_own ho, hb⟩

/-! ### plexusref06_Limited: function 19 -/
def plexusref06_Limited.f (l0_0 : List Int) (a1 : Int) : Option (Int × List Int) := if l0_0.length < 2 ^ 63 ∧ okL 256 l0_0 = true ∧ 1 ≤ a1 ∧ a1 ≤ 7 then some ((limV (nl l0_0) a1.toNat : Nat), il (limB (nl l0_0) a1.toNat)) else none
set_option maxRecDepth 100000 in
theorem plexusref06_Limited.calls (A0_0 : Option Addr) (c0_0 : Nat) (l0_0 : List Int) (a1 : Int) (r1 : Int) (r2 : List Int) (w : World) (hr0_0 : Kd.C (Kd.int .u8) w A0_0 l0_0.length l0_0) (hc0_0 : l0_0.length ≤ c0_0) (h : plexusref06_Limited.f l0_0 a1 = some (r1, r2)) :
    Calls Try.prog 19 #[.agg #[.slice A0_0 l0_0.length c0_0], .int .i64 a1] w fun e w' => ∃ v1_ : Value, e = .returned (.agg #[.int .i64 r1, v1_]) ∧ Kd.R (Kd.int .u64) 57 w' w.heap.size (fun _ => True) v1_ r2 ∧ Below w.heap.size w w' := by
  obtain ⟨⟨h1, h2, h3, h4⟩, hr⟩ := some_if h
  obtain ⟨rfl, rfl⟩ := Prod.mk.inj hr
  obtain ⟨m, rfl⟩ := Int.eq_ofNat_of_zero_le (show 0 ≤ a1 by omega)
  refine (limited_any A0_0 _ c0_0 (nl l0_0) m (by omega) (by omega) w (nlc_of hr0_0 h2) (by omega)).mono ?_
  rintro e w' ⟨v, he, ho, hb⟩
  exact ⟨v, he, R_own ho, hb⟩

/-! ### plexusref06_With: function 21 -/
def plexusref06_With.f (l0 : List Int) (a1 : Int) : Option (List Int) := if l0.length < 1099511627776 ∧ okL 16384 l0 = true ∧ 0 ≤ a1 ∧ a1 < 16384 then some (il (withL (nl l0) a1.toNat)) else none
set_option maxRecDepth 100000 in
theorem plexusref06_With.calls (A0 : Option Addr) (c0 : Nat) (l0 : List Int) (a1 : Int) (r : List Int) (w : World) (hr0 : Kd.C (Kd.int .u64) w A0 l0.length l0) (hc0 : l0.length ≤ c0) (h : plexusref06_With.f l0 a1 = some r) :
    Calls Try.prog 21 #[.slice A0 l0.length c0, .int .u64 a1] w fun e w' => ∃ v0_ : Value, e = .returned (v0_) ∧ Kd.R (Kd.int .u64) 57 w' w.heap.size (fun _ => True) v0_ r ∧ Below w.heap.size w w' := by
  obtain ⟨⟨h1, h2, h3, h4⟩, rfl⟩ := some_if h
  obtain ⟨b, rfl⟩ := Int.eq_ofNat_of_zero_le h3
  refine (with_any A0 _ c0 (nl l0) b (by omega) w (blc_of (by decide) hr0 h2) h1 hc0).mono ?_
  rintro e w' ⟨v, he, ho, hb⟩
  exact ⟨v, he, R_own (by simpa [il_length, withL_length, nl_length] using ho), hb⟩

/-! ### embed_Of: function 15 -/
def embed_Of.f (a0_0 : Int) (l0_1 : List Int) (a1_0 : Int) (l1_1 : List Int) (l2 : List Int) (l3 : List Int) : Option (List Int × List Int × Int) := if (l0_1.length ≤ 12 ∨ l3.length ≤ 12) ∧ l0_1.length ≤ 1000 ∧ l1_1.length ≤ 1000 ∧ l2.length < 1099511627776 ∧ l3.length < 1099511627776 ∧ okL 18446744073709551616 l0_1 = true ∧ okL 18446744073709551616 l1_1 = true ∧ okI l2 = true ∧ okI l3 = true ∧ 0 ≤ a1_0 ∧ a1_0 ≤ 60 then some (ofF a0_0 a1_0 l0_1 l1_1 l2 l3) else none
set_option maxRecDepth 100000 in
theorem embed_Of.calls (a0_0 : Int) (A0_1 : Option Addr) (c0_1 : Nat) (l0_1 : List Int) (a1_0 : Int) (A1_1 : Option Addr) (c1_1 : Nat) (l1_1 : List Int) (A2 : Option Addr) (c2 : Nat) (l2 : List Int) (A3 : Option Addr) (c3 : Nat) (l3 : List Int) (r1 : List Int) (r2 : List Int) (r3 : Int) (w : World) (hr0_1 : Kd.C (Kd.int .u64) w A0_1 l0_1.length l0_1) (hc0_1 : l0_1.length ≤ c0_1) (hr1_1 : Kd.C (Kd.int .u64) w A1_1 l1_1.length l1_1) (hc1_1 : l1_1.length ≤ c1_1) (hr2 : Kd.C (Kd.int .i64) w A2 l2.length l2) (hc2 : l2.length ≤ c2) (hr3 : Kd.C (Kd.int .i64) w A3 l3.length l3) (hc3 : l3.length ≤ c3) (h : embed_Of.f a0_0 l0_1 a1_0 l1_1 l2 l3 = some (r1, r2, r3)) :
    Calls Try.prog 15 #[.agg #[.int .i64 a0_0, .slice A0_1 l0_1.length c0_1], .agg #[.int .i64 a1_0, .slice A1_1 l1_1.length c1_1], .slice A2 l2.length c2, .slice A3 l3.length c3] w fun e w' => ∃ v0_ v1_ : Value, e = .returned (.tuple #[.agg #[v0_, v1_], .int .i64 r3]) ∧ Kd.R (Kd.int .i64) 3 w' w.heap.size (fun k_ => some k_ ≠ (v1_ : Value).ownBlock) v0_ r1 ∧ Kd.R (Kd.int .i64) 3 w' w.heap.size (fun k_ => some k_ ≠ (v0_ : Value).ownBlock) v1_ r2 ∧ Below w.heap.size w w' := by
  obtain ⟨⟨h1, h1b, h2, h3, h4, h5, h6, h7, h8, h0, h9⟩, hr⟩ := some_if h
  unfold ofF at hr
  split at hr
  · rename_i hc
    obtain ⟨hV, hd2, hd3⟩ := hc
    subst hV
    obtain ⟨q1, hq⟩ := Prod.mk.inj hr
    obtain ⟨q2, q3⟩ := Prod.mk.inj hq
    rw [q1, q2, q3]
    obtain ⟨e1, e2, e3, e4⟩ := diff_nl hd2
    obtain ⟨d1, d2, d3, d4⟩ := diff_nl hd3
    obtain ⟨U, rfl⟩ := Int.eq_ofNat_of_zero_le h0
    have := of_ok U c0_1 c1_1 c2 c3 A0_1 A1_1 A2 A3 (nl l0_1) (nl l1_1) (nl l2) (nl l3) w (by rw [nl_length]; exact blc_of (by decide) hr0_1 h5) (by rw [nl_length]; exact blc_of (by decide) hr1_1 h6) (by rw [e1, nl_length]; exact hr2) (by rw [d1, nl_length]; exact hr3) (fun q hq => by have := e2 q hq; omega) e3 (by omega) (by rw [nl_length]; omega)
      (fun i hi => by have := d2 i hi; rw [nl_length]; omega) d3 (by rw [nl_length]; omega) (by rw [nl_length, nl_length]; omega) (by rw [nl_length]; omega) (by rw [nl_length]; omega)
    rw [nl_length, nl_length, nl_length, nl_length] at this
    refine this.mono ?_
    rintro e w' ⟨v1, v2, rfl, ho1, ho2, hb, hnd⟩
    exact ⟨v1, v2, rfl, (R_pair (own_dn e1 ho1) ho2 hnd).1, (R_pair (own_dn e1 ho1) ho2 hnd).2, hb⟩
  · rename_i hc
    obtain ⟨q1, hq⟩ := Prod.mk.inj hr
    obtain ⟨q2, q3⟩ := Prod.mk.inj hq
    rw [q1, q2, q3]
    refine (of_bad a0_0 a1_0 _ _ c0_1 c1_1 c2 c3 A0_1 A1_1 A2 A3 l2 l3 w hr2 hr3 h3 h4 (okI_iff.1 h7) (okI_iff.1 h8) _ _ rfl rfl (fun hv hb => by cases hq : diffB l3 l0_1.length; rfl; exact absurd ⟨hv, hb, hq⟩ hc)).mono ?_
    rintro e w' ⟨rfl, hb⟩
    exact ⟨_, _, rfl, nil_pair.1, nil_pair.2, hb⟩

end Go.Proofs.Ytgegjhgifeobdaa.Pd


namespace Go.Proofs.Ytgegjhgifeobdaa
set_option linter.unusedSimpArgs false
set_option linter.unusedVariables false
open Go.RowKit Go.Lib Go.Proofs.YtgegjhgifeobdaaW.PrintWords Go.Proofs.YtgegjhgifeobdaaW.PrintMore

theorem wrap_idE {x : Int} (h1 : -9223372036854775808 ≤ x) (h2 : x ≤ 9223372036854775807) : wrap64 x = x := by unfold wrap64; omega
theorem mask_E {V : Nat} (h : V ≤ 7) : IntKind.u64.wrap ((shl .u64 1 (IntKind.u64.wrap (V : Int))) - 1) = ((2 ^ V - 1 : Nat) : Int) ∧ 0 ≤ IntKind.u64.wrap (V : Int) := by
  rcases (show V = 0 ∨ V = 1 ∨ V = 2 ∨ V = 3 ∨ V = 4 ∨ V = 5 ∨ V = 6 ∨ V = 7 by omega) with rfl | rfl | rfl | rfl | rfl | rfl | rfl | rfl <;> decide
theorem small7E {V : Nat} (h : V ≤ 7) : 2 ^ V ≤ 128 := Nat.pow_le_pow_right (by decide) h
theorem limB_memE {l : List Nat} {m : Nat} (hm1 : 1 ≤ m) (hm7 : m ≤ 7) : ∀ b ∈ limB l m, b < 2 ^ limV l m := fun b hb =>
  limRaw_lt hm1 hm7 b (List.mem_of_mem_take ((sortedL_permE _).mem_iff.1 hb))
theorem limB_lenE {l : List Nat} {m : Nat} : (limB l m).length ≤ 10 := by
  show (sortedL ((limRaw l m).take 10)).length ≤ 10
  rw [sortedL_len, List.length_take]; omega
theorem limB_sorted {l : List Nat} {m : Nat} : (limB l m).Pairwise (· ≤ ·) := sortedL_sorted _
theorem shL_perm (l : List Nat) : ∀ n, (shL l n).Perm (List.range n)
  | 0 => List.Perm.refl _
  | n + 1 => by
    rw [shL, List.append_assoc, List.range_succ, List.singleton_append]
    refine (List.perm_middle (a := n) (l₁ := (shL l n).take (shAt l n)) (l₂ := (shL l n).drop (shAt l n))).trans ?_
    rw [List.take_append_drop]
    refine ((shL_perm l n).cons n).trans ?_
    exact (List.perm_append_singleton n (List.range n)).symm
theorem diffB_nat {gs : List Nat} {n : Nat} (h1 : ∀ q ∈ gs, q < n) (h2 : gs.Nodup) : diffB (il gs) (n : Int) = true := diffB_iff.2 ⟨fun x hx => by
    obtain ⟨i, hi, rfl⟩ := List.mem_map.1 hx
    have := h1 i hi
    exact ⟨by simp, by simpa using this⟩, by
    unfold il List.Nodup; rw [List.pairwise_map]; exact h2.imp (fun h e => h (by omega))⟩
theorem shL_nodup (l : List Nat) (n : Nat) : (shL l n).Nodup := (shL_perm l n).nodup_iff.2 List.nodup_range
theorem shL_lt (l : List Nat) (n : Nat) : ∀ q ∈ shL l n, q < n := fun q hq => List.mem_range.1 ((shL_perm l n).mem_iff.1 hq)
theorem il_app (l r : List Nat) : il l ++ il r = il (l ++ r) := by simp [il]
theorem wrap_succ {j : Nat} (h : j < 1000) : wrap64 ((j : Int) + 1) = ((j + 1 : Nat) : Int) := by rw [wrap_idE] <;> omega
theorem nnI (n : Nat) : (0 : Int) ≤ (n : Int) := Int.natCast_nonneg n
theorem ltI {a b : Nat} (h : a < b) : (a : Int) < (b : Int) := by omega
theorem shuf_fE {U : Nat} (hU : U ≤ 60) {l3 : List Int} (g3 : l3.length < 2 ^ 63) (h3 : okL 256 l3 = true) : Pd.plexusref06_Shuffled.f (U : Int) l3 = some (il (shL (nl l3) U)) := by
  have h1 : (U : Int) < 1048576 := by omega
  unfold Pd.plexusref06_Shuffled.f
  exact if_pos ⟨g3, h3, nnI U, h1⟩
end Go.Proofs.Ytgegjhgifeobdaa


namespace Go.Proofs.Ytgegjhgifeobdaa
set_option linter.unusedSimpArgs false
set_option linter.unusedVariables false
open Go.RowKit Go.Lib Go.Proofs.YtgegjhgifeobdaaW.PrintWords

theorem idx_ne {c S : Nat} {r : List Nat} (h : c ≠ S) : (c :: r).idxOf S = r.idxOf S + 1 := by
  have : (c == S) = false := by simpa using h
  simp [List.idxOf_cons, this]
theorem sorted_run {S : Nat} : ∀ {cs : List Nat} {u : Nat}, cs.Pairwise (· ≤ ·) → u < cs.count S → cs[cs.idxOf S + u]? = some S := by
  intro cs
  induction cs with
  | nil => intro u _ h; simp at h
  | cons c r ih =>
    intro u hs h
    obtain ⟨h1, h2⟩ := List.pairwise_cons.1 hs
    by_cases hc : c = S
    · subst hc
      rw [List.idxOf_cons_self, Nat.zero_add]
      cases u with
      | zero => rfl
      | succ u =>
        rw [List.count_cons_self] at h
        have hu : u < r.count c := by omega
        have := ih h2 hu
        cases r with
        | nil => simp at hu
        | cons d r =>
          have hd : d = c := by
            have hmem : c ∈ d :: r := List.count_pos_iff.1 (by omega)
            have hcd := h1 d (by simp)
            rcases List.mem_cons.1 hmem with e | e
            · exact e.symm
            · have := (List.pairwise_cons.1 h2).1 c e
              omega
          subst hd
          rw [List.idxOf_cons_self, Nat.zero_add] at this
          simpa using this
    · rw [List.count_cons_of_ne hc] at h
      have := ih h2 h
      rw [idx_ne hc, show r.idxOf S + 1 + u = (r.idxOf S + u) + 1 from by omega, List.getElem?_cons_succ]
      exact this
theorem idxOf_getElem_nodup {os : List Nat} (hn : os.Nodup) {k : Nat} (hk : k < os.length) : os.idxOf (os[k]) = k := by
  induction os generalizing k with
  | nil => simp at hk
  | cons x r ih =>
    obtain ⟨h1, h2⟩ := List.nodup_cons.1 hn
    cases k with
    | zero => simp
    | succ k =>
      have hk' : k < r.length := by simpa using hk
      have hne : x ≠ r[k] := fun e => h1 (e ▸ List.getElem_mem hk')
      rw [List.getElem_cons_succ, idx_ne hne, ih h2 hk']
theorem getD_idxOf {os : List Nat} {i : Nat} (hi : i ∈ os) : os.getD (os.idxOf i) 0 = i := by
  have := List.idxOf_lt_length_of_mem hi
  rw [List.getD_eq_getElem?_getD, List.getElem?_eq_getElem this]
  exact List.getElem_idxOf this
theorem alongK_get {n : Nat} {mv : Nat → Nat} {cs os : List Nat} (hn : os.Nodup) (hos : ∀ i ∈ os, i < n) : ∀ k ≤ os.length, ∀ i < n, (alongK n mv cs os k)[i]? = some (if i ∈ os.take k then alongAt mv cs os (os.idxOf i) else 0) := by
  intro k
  induction k with
  | zero => intro _ i hi; simp [alongK, hi]
  | succ k ih =>
    intro hk i hi
    have hkl : k < os.length := by omega
    have hgk : os.getD k 0 = os[k] := by rw [List.getD_eq_getElem?_getD, List.getElem?_eq_getElem hkl]; rfl
    have htk : os.take (k + 1) = os.take k ++ [os[k]] := by rw [List.take_succ_eq_append_getElem hkl]
    rw [alongK, List.getElem?_set, hgk, alongK_length]
    by_cases he : os[k] = i
    · subst he
      rw [if_pos rfl, if_pos hi, htk, if_pos (List.mem_append_right _ (List.mem_singleton_self _)), idxOf_getElem_nodup hn hkl]
    · rw [if_neg he, ih (by omega) i hi, htk]
      simp only [List.mem_append, List.mem_singleton]
      have : ¬ i = os[k] := fun e => he e.symm
      simp [this]
theorem queueN_nodup {n : Nat} {ds : List Nat} (h2 : ds.Nodup) : (queueN n ds).Nodup := by
  rw [queueN, List.nodup_append]
  refine ⟨(sortedL_permE ds).nodup_iff.2 h2, List.nodup_range.sublist List.filter_sublist, ?_⟩
  intro a ha b hb e
  subst e
  have h := (List.mem_filter.1 hb).2
  have := (sortedL_permE ds).mem_iff.1 ha
  simp at h
  exact h this
theorem queueN_mem {n : Nat} {ds : List Nat} {i : Nat} (hi : i < n) : i ∈ queueN n ds := by
  rw [queueN, List.mem_append]
  by_cases h : i ∈ ds
  · exact .inl ((sortedL_permE ds).mem_iff.2 h)
  · exact .inr (List.mem_filter.2 ⟨List.mem_range.2 hi, by simpa using h⟩)
/-- Where block i goes. -/
def goN (bs cs ds fs : List Nat) (i : Nat) : Int := alongAt (fun i => movedN (bs.getD i 0) fs) cs (queueN bs.length ds) ((queueN bs.length ds).idxOf i)
theorem embM_len (bs cs ds fs : List Nat) : (embM bs cs ds fs).length = bs.length := by rw [embM, alongM, alongK_length]
theorem embM_get {bs cs ds fs : List Nat} (h1 : ∀ i ∈ ds, i < bs.length) (h2 : ds.Nodup) {i : Nat} (hi : i < bs.length) : rd (embM bs cs ds fs) i = goN bs cs ds fs i := by
  have := alongK_get (n := bs.length) (mv := fun i => movedN (bs.getD i 0) fs) (cs := cs) (queueN_nodup (n := bs.length) h2) (queueN_lt h1) _ (Nat.le_refl _) i hi
  unfold rd
  rw [List.getD_eq_getElem?_getD, Int.toNat_natCast, embM, alongM, this, List.take_length, if_pos (queueN_mem hi)]
  rfl
theorem alongAt_of {mv : Nat → Nat} {cs os : List Nat} {i : Nat} (hi : i ∈ os) : alongAt mv cs os (os.idxOf i) = if ((os.take (os.idxOf i)).map mv).count (mv i) < cs.count (mv i) then ((cs.idxOf (mv i) + ((os.take (os.idxOf i)).map mv).count (mv i) : Nat) : Int) else -1 := by
  rw [alongAt, getD_idxOf hi]
theorem goN_img {bs cs ds fs : List Nat} (hs : cs.Pairwise (· ≤ ·)) {i : Nat} (hi : i < bs.length) : goN bs cs ds fs i = -1 ∨ ∃ j : Nat, goN bs cs ds fs i = j ∧ cs[j]? = some (movedN (bs.getD i 0) fs) := by
  rw [goN, alongAt_of (queueN_mem hi)]
  split
  · rename_i h
    exact .inr ⟨_, rfl, sorted_run hs h⟩
  · exact .inl rfl
theorem count_lt {mv : Nat → Nat} {os : List Nat} (hn : os.Nodup) {i j : Nat} (hi : i ∈ os) (hij : os.idxOf i < os.idxOf j) (he : mv i = mv j) : ((os.take (os.idxOf i)).map mv).count (mv i) < ((os.take (os.idxOf j)).map mv).count (mv j) := by
  have hil := List.idxOf_lt_length_of_mem hi
  obtain ⟨d, hd⟩ : ∃ d, os.idxOf j = os.idxOf i + 1 + d := ⟨os.idxOf j - (os.idxOf i + 1), by omega⟩
  rw [hd, List.take_add, List.map_append, List.count_append, List.take_succ_eq_append_getElem hil, List.map_append, List.count_append, ← he]
  have : os[os.idxOf i] = i := List.getElem_idxOf hil
  rw [this]
  simp
  omega
theorem goN_inj {bs cs ds fs : List Nat} (hs : cs.Pairwise (· ≤ ·)) (h2 : ds.Nodup) {i j : Nat} (hi : i < bs.length) (hj : j < bs.length) (hij : i ≠ j) (h0 : goN bs cs ds fs i ≠ -1) : goN bs cs ds fs i ≠ goN bs cs ds fs j := by
  intro e
  rcases goN_img (ds := ds) (fs := fs) hs hi with h | ⟨a, ha, ha2⟩
  · exact h0 h
  rcases goN_img (ds := ds) (fs := fs) hs hj with h | ⟨b, hb, hb2⟩
  · rw [e] at h0; exact h0 h
  have hab : a = b := by rw [ha, hb] at e; omega
  subst hab
  rw [ha2] at hb2
  have hmv : movedN (bs.getD i 0) fs = movedN (bs.getD j 0) fs := Option.some.inj hb2
  have hn := queueN_nodup (n := bs.length) h2
  have hqi := queueN_mem (ds := ds) hi
  have hqj := queueN_mem (ds := ds) hj
  have hne : (queueN bs.length ds).idxOf i ≠ (queueN bs.length ds).idxOf j := fun e => hij (by rw [← getD_idxOf hqi, ← getD_idxOf hqj, e])
  have hb' := hb
  rw [goN, alongAt_of hqi] at ha
  rw [goN, alongAt_of hqj] at hb
  split at ha
  · split at hb
    · rw [← hmv] at hb
      rcases Nat.lt_or_gt_of_ne hne with h | h
      · have := count_lt (mv := fun i => movedN (bs.getD i 0) fs) hn hqi h hmv
        rw [← hmv] at this
        omega
      · have := count_lt (mv := fun i => movedN (bs.getD i 0) fs) hn hqj h hmv.symm
        rw [← hmv] at this
        omega
    · omega
  · omega
theorem lsL_ne {n : Nat} : ∀ {l : Nat} {f : List Nat}, (∀ q ∈ f, q < n) → f.Nodup → f.length + l ≤ n → lsL n l f ≠ []
  | 0, f, _, _, _ => by rw [lsL]; simp
  | l + 1, f, hf, hd, hl => by
    obtain ⟨p, hp, hpf⟩ : ∃ p, p < n ∧ p ∉ f := by
      apply Classical.byContradiction
      intro h
      have hsub : List.range n ⊆ f := fun p hp => by
        apply Classical.byContradiction
        intro hpf
        exact h ⟨p, List.mem_range.1 hp, hpf⟩
      have := nodup_len List.nodup_range hsub
      rw [List.length_range] at this
      omega
    have := lsL_ne (l := l) (f := f ++ [p]) (n := n) (by intro q hq; rcases List.mem_append.1 hq with hq | hq; exact hf q hq; rw [List.mem_singleton] at hq; omega) (List.nodup_append.2 ⟨hd, by simp, fun a ha b hb e => by rw [List.mem_singleton] at hb; subst hb; subst e; exact hpf ha⟩) (by rw [List.length_append]; simp; omega)
    intro h
    rw [lsL, List.flatMap_eq_nil_iff] at h
    have := h p (List.mem_range.2 hp)
    rw [if_neg hpf] at this
    contradiction
/-- A fold's answer: one of its lists, the first that keeps most. -/
def BestP (bs cs ds : List Nat) (fs : List (List Nat)) : Prop := ∃ f ∈ fs, foldB bs cs ds fs = ((f, embM bs cs ds f), (keptN bs cs ds f : Int)) ∧ ∀ g ∈ fs, keptN bs cs ds g ≤ keptN bs cs ds f
theorem BestP.snoc {bs cs ds : List Nat} {pre : List (List Nat)} (h : BestP bs cs ds pre) (x : List Nat) : BestP bs cs ds (pre ++ [x]) := by
  obtain ⟨f, hf, he, hg⟩ := h
  rw [BestP, foldB_snoc, he, stepB]
  split
  · rename_i h
    refine ⟨x, by simp, rfl, fun g hg' => ?_⟩
    rcases List.mem_append.1 hg' with h' | h'
    · have := hg g h'; simp at h; omega
    · rw [List.mem_singleton] at h'; subst h'; exact Nat.le_refl _
  · rename_i h
    refine ⟨f, by simp [hf], rfl, fun g hg' => ?_⟩
    rcases List.mem_append.1 hg' with h' | h'
    · exact hg g h'
    · rw [List.mem_singleton] at h'; subst h'; simp at h; omega
theorem BestP.app {bs cs ds : List Nat} : ∀ (r pre : List (List Nat)), BestP bs cs ds pre → BestP bs cs ds (pre ++ r)
  | [], pre, h => by rwa [List.append_nil]
  | x :: r, pre, h => by
    have := BestP.app r (pre ++ [x]) (h.snoc x)
    rwa [List.append_assoc] at this
theorem foldB_mem (bs cs ds : List Nat) : ∀ (fs : List (List Nat)), fs ≠ [] → BestP bs cs ds fs
  | [], h => absurd rfl h
  | x :: r, _ => by
    refine BestP.app r [x] ⟨x, by simp, ?_, by simp⟩
    show stepB bs cs ds (([], []), -1) x = _
    rw [stepB, if_pos (by show (-1 : Int) < _; omega)]
end Go.Proofs.Ytgegjhgifeobdaa


namespace Go.Proofs.Ytgegjhgifeobdaa.Pk
set_option linter.unusedVariables false
open Go.RowKit Go.Proofs.YtgegjhgifeobdaaW.PrintWords Go.Proofs.YtgegjhgifeobdaaW.PrintLast Go.Proofs.YtgegjhgifeobdaaW.PrintMore

theorem pkR {p q : Prop} (hp : p) (h : p → q := by intro hp; (with_reducible repeat (first | apply Kd.R_alloc | apply Kd.R_drewN | apply Kd.R_drew)); exact hp) : q := h hp
theorem pkB {p q : Prop} (hp : p) (h : p → q := by intro hp; (with_reducible repeat (first | refine blk_drewN ?_ _ | refine blk_drew ?_ | refine blk_alloc ?_ _)); exact hp) : q := h hp
theorem pkW {p q : Prop} (hp : p) (h : p → q := by intro hp; repeat (first | (with_reducible first | exact hp | apply below_alloc | apply pw_below_drewN | apply below_drew1 | refine below_set ?_ (Aside0.out (by assumption))) | exact hp)) : q := h hp
theorem pkC {p q : Prop} (hp : p) (h : p → q := by intro hp; repeat (first | exact hp | (with_reducible refine Kd.C_alloc ?_ _) | (with_reducible refine Kd.C_drewN ?_ _) | (with_reducible refine Kd.C_drew ?_))) : q := h hp
section
variable {α : Type} {d : Kd α} {e base g g' : Nat} {w0 w w1 W W0 : World} {ok : Nat → Prop} {v : Value} {xs : List α} {o : Obj}
theorem pkRb (h : Aside0 (d.R e w0 base ok v xs)) (hb : Below w.heap.size w w1) (k : d.R e w0 base ok v xs → d.R e w base ok v xs := by intro hp; (with_reducible repeat (first | apply Kd.R_alloc | apply Kd.R_drewN | apply Kd.R_drew)); exact hp) : Aside0 (d.R e w1 base ok v xs) := ⟨Kd.R_below (k h.out) hb⟩
theorem pkBb (h : Aside0 (w0.heap[g]? = some o)) (hb : Below w.heap.size w w1) (k : w0.heap[g]? = some o → w.heap[g]? = some o := by intro hp; (with_reducible repeat (first | refine blk_drewN ?_ _ | refine blk_drew ?_ | refine blk_alloc ?_ _)); exact hp) : Aside0 (w1.heap[g]? = some o) := ⟨blk_below (k h.out) hb⟩
theorem pkN (hg : g' = w.heap.size) (h : Aside0 (w0.heap[g]? = some o)) (k : w0.heap[g]? = some o → w.heap[g]? = some o := by intro hp; (with_reducible repeat (first | refine blk_drewN ?_ _ | refine blk_drew ?_ | refine blk_alloc ?_ _)); exact hp) : Aside0 (g ≠ g') := ⟨by rw [hg]; exact Nat.ne_of_lt (blk_lt (k h.out))⟩
theorem pkM (hg : g' = w.heap.size) (h : Aside0 (w0.heap[g]? = some o)) (k : w0.heap[g]? = some o → w.heap[g]? = some o := by intro hp; (with_reducible repeat (first | refine blk_drewN ?_ _ | refine blk_drew ?_ | refine blk_alloc ?_ _)); exact hp) : Aside0 (g' ≠ g) := ⟨by rw [hg]; exact Nat.ne_of_gt (blk_lt (k h.out))⟩
theorem pkG (hg : g' = w.heap.size) (h : Aside0 (Below W.heap.size W w0)) (k : Below W.heap.size W w0 → Below W.heap.size W w := by intro hp; repeat (first | (with_reducible first | exact hp | apply below_alloc | apply pw_below_drewN | apply below_drew1 | refine below_set ?_ (Aside0.out (by assumption))) | exact hp)) : Aside0 (W.heap.size ≤ g') := ⟨by rw [hg]; exact below_size (k h.out)⟩
theorem pkS (h : Aside0 (Below W.heap.size W w0)) (hb : Below w.heap.size w w1) (k : Below W.heap.size W w0 → Below W.heap.size W w := by intro hp; repeat (first | (with_reducible first | exact hp | apply below_alloc | apply pw_below_drewN | apply below_drew1 | refine below_set ?_ (Aside0.out (by assumption))) | exact hp)) : Aside0 (Below W.heap.size W w1) := ⟨below_step (k h.out) hb⟩
theorem pkZ (h : Aside0 (Below W.heap.size W w0)) (k : Below W.heap.size W w0 → Below W.heap.size W w := by intro hp; repeat (first | (with_reducible first | exact hp | apply below_alloc | apply pw_below_drewN | apply below_drew1 | refine below_set ?_ (Aside0.out (by assumption))) | exact hp)) : W.heap.size ≤ w.heap.size := below_size (k h.out)
end
section
variable {P : Program} {ops : Array Oper} {Q : Exit → Act → World → Prop} {md : Region.Mode} {S : World → Prop} {ds : List Nat} {T : Bool × List (List Nat × List Nat)} {B : List Nat} {fuel : Nat} {l : Array Bool} {a a' : Act} {w : World} {oi : Oper} {v : Value}
/-- An operation that yields in every world. -/
theorem pkP (i : Nat) (n : Tmp) (l' : Array Bool) (HT : Aside0 (rtab md ops = T)) (h : wpAnyLast P md ops Q S ds fuel l' a' w) (hi : ops[i]? = some oi := by rfl) (hN : oi.dst = some n := by rfl) (hc : anyT T l.toList l'.toList i = true := by kernel_rfl)
    (hQ : ∀ c a w, Q (.panic c) (a.put oi.dst v) w → Q (.panic c) a w := by exact fun _ _ _ h => h) (hw : Region.wanted oi (yielded ops a.tmps) = true := by rfl) (hy : ∀ w, (execOp a.eval oi).run P w = .ok (.value v) w := by intro w'; go_simp; with_reducible rfl)
    (ha : a.put (some n) v = a' := by simp only [Act.put, List.setIfInBounds_toArray, List.set_cons_zero, List.set_cons_succ, i64_w, i32_w]; rfl) : wpAnyLast P md ops Q S ds (fuel + 1) l a w :=
  pure_ l' hi hN (any_of HT.out hc) hQ (.inl ⟨hw, hy⟩) ha h
theorem pkA {k : Nat} (n : Tmp) (h : wpAnyLast P md ops Q S ds k l a' w) (ha : a.put (some n) v = a' := by simp only [Act.put, List.setIfInBounds_toArray, List.set_cons_zero, List.set_cons_succ, i64_w, i32_w]; rfl) : wpAnyLast P md ops Q S ds k l (a.put (some n) v) w := ha ▸ h
end
end Go.Proofs.Ytgegjhgifeobdaa.Pk
