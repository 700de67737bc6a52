/- DisjunctSeparates answers true for whatever bytes: what the printed law computes, put together; no walk in sight. -/
/- The argument of chapter 12's laws, opened: bytes of a structure, two numbers, bytes; no condition. -/
/- DisjunctSeparates: the law's row, out of its printed walk and the plain law; no condition. -/
import Derived.Test.YtmfmlfaglemgfaaSe
import Derived.Test.YtmfmlfaglemgfaaMb
import Derived.Test.YtmfmlfaglemgfaaPsx5
import Derived.Test.YtmfmlfaglemgfaaGl
import Derived.WalkKit
import Derived.ProofKit
import Derived.OpenShut
import Derived.ChangeOld
import Derived.ChangeSame
import Derived.Below
import Derived.SizedLaws
import Derived.Lib.SmallJoins
import Derived.Test.YtmfmlfaglemgfaaRows
namespace Go.Proofs.Ytmfmlfaglemgfaa.Ps
set_option linter.unusedSimpArgs false
set_option linter.unusedVariables false
open Go.RowKit Go.Lib Go.Proofs.YtmfmlfaglemgfaaW.PrintWords Go.Proofs.Ytmfmlfaglemgfaa Go.Proofs.YtmfmlfaglemgfaaW.PrintMore
open Go.Proofs.Ytmfmlfaglemgfaa.Pd (Mp wrap_id mask_f small7 made12)

/-- From some number of rounds on, the same answer. -/
def Ev {α : Type} (g : Nat → Option α) (r : α) : Prop := ∃ K0, ∀ K, K0 ≤ K → g K = some r
theorem Ev.const {α : Type} {g : Nat → Option α} {r : α} (h : ∀ K, g K = some r) : Ev g r := ⟨0, fun K _ => h K⟩
theorem Ev.of_mono {α : Type} {g : Nat → Option α} {r : α} {K0 : Nat} (hm : ∀ k, LeO (g k) (g (k + 1))) (h : g K0 = some r) : Ev g r :=
  ⟨K0, fun K hK => by
    obtain ⟨d, rfl⟩ : ∃ d, K = K0 + d := ⟨K - K0, by omega⟩
    clear hK
    induction d with
    | zero => exact h
    | succ d ih => exact hm _ _ ih⟩
theorem Ev.succ {α : Type} {g g' : Nat → Option α} {r : α} (hs : ∀ k, g (k + 1) = g' k) (h : Ev g' r) : Ev g r := by
  obtain ⟨K0, h⟩ := h
  refine ⟨K0 + 1, fun K hK => ?_⟩
  obtain ⟨k, rfl⟩ : ∃ k, K = k + 1 := ⟨K - 1, by omega⟩
  rw [hs]
  exact h k (by omega)
theorem Ev.bind {α β : Type} {g : Nat → Option α} {f : Nat → α → Option β} {a : α} {r : β} (h : Ev g a) (hf : Ev (fun k => f k a) r) : Ev (fun k => (g k).bind (f k)) r := by
  obtain ⟨K0, h⟩ := h
  obtain ⟨K1, hf⟩ := hf
  exact ⟨max K0 K1, fun K hK => by show (g K).bind (f K) = _; rw [h K (by omega), Option.bind_some]; exact hf K (by omega)⟩
theorem Ev.eq {α : Type} {g g' : Nat → Option α} {r : α} (he : ∀ k, g k = g' k) (h : Ev g' r) : Ev g r := by
  obtain ⟨K0, h⟩ := h
  exact ⟨K0, fun K hK => (he K).trans (h K hK)⟩

theorem bit_f {x j : Nat} (hx : x < 2 ^ 64) (hj : j < 64) : plexusref06_Bit.f (x : Int) (j : Int) = some (x.testBit j) := by
  unfold plexusref06_Bit.f
  have hw : IntKind.u64.wrap (j : Int) = (j : Int) := wrapU_nat (by omega)
  rw [hw, if_pos (by omega), ← bit_form (p := j) hx]
  have hb : min j IntKind.u64.bits = j := Nat.min_eq_left (by show j ≤ 64; omega)
  congr 3
  simp only [shr, Int.toNat_natCast, hb]
theorem size_loop {x : Nat} (hx : x < 2 ^ 64) : ∀ n j, j + n = 64 → Ev (fun K => plexusref06_Size.l0 K x ((cnt x j : Nat) : Int) j) ((cnt x 64 : Nat) : Int) := by
  intro n
  induction n with
  | zero =>
    intro j hj
    obtain rfl : j = 64 := by omega
    refine Ev.succ (fun k => by rw [plexusref06_Size.l0, if_neg (by decide)]) (Ev.const fun K => rfl)
  | succ n ih =>
    intro j hj
    have hc := cnt_le x j
    have e1 : wrap64 ((j : Int) + 1) = ((j + 1 : Nat) : Int) := by rw [wrap_id] <;> omega
    have e2 : wrap64 (((cnt x j : Nat) : Int) + 1) = ((cnt x j + 1 : Nat) : Int) := by rw [wrap_id] <;> omega
    refine Ev.succ (fun k => by rw [plexusref06_Size.l0, if_pos (by omega), bit_f hx (by omega), Option.bind_some, e1, e2]) ?_
    cases hb : x.testBit j
    · refine Ev.eq (fun k => by rw [if_neg (by simp)]) ?_
      have := ih (j + 1) (by omega)
      rwa [show cnt x (j + 1) = cnt x j from by simp [cnt, hb]] at this
    · refine Ev.eq (fun k => by rw [if_pos rfl]) ?_
      have := ih (j + 1) (by omega)
      rwa [show cnt x (j + 1) = cnt x j + 1 from by simp [cnt, hb]] at this
theorem size_f {x : Nat} (hx : x < 2 ^ 64) : Ev (fun K => plexusref06_Size.f K x) ((cnt x 64 : Nat) : Int) := size_loop hx 64 0 (by omega)
theorem made_eq : @plexusref12_Made.f = @Pd.plexusref12_Made.f := by kernel_rfl
theorem slack_eq : @disjunct_Slack.f = @Pd.disjunct_Slack.f := by kernel_rfl
theorem disj_eq : @disjunct_Disjunct.f = @Pd.disjunct_Disjunct.f := by kernel_rfl
theorem made_ev {l m : List Int} {a1 a2 : Int} {r : Int × List Int × Int × Int} (h : Pd.plexusref12_Made.f 5 l a1 a2 m = some r) : Ev (fun K => plexusref12_Made.f K l a1 a2 m) r :=
  Ev.of_mono (K0 := 5) (fun k => plexusref12_Made.mono _ _ _ _ k) (by rw [made_eq]; exact h)
section
variable {V D E : Nat} {bs : List Nat}
theorem pos_f (h : Mp V bs D E) {s : Nat} (hs : s < 2 ^ 64) : disjunct_Positive.f V (il bs) D E s = some ((posN bs s bs.length : Nat) : Int) := by
  unfold disjunct_Positive.f
  rw [if_pos ⟨by rw [il_length]; have := h.n; omega, h.small, by omega, by omega⟩, nl_il, Int.toNat_natCast]
theorem apart_f (h : Mp V bs D E) : disjunct_Apart.f V (il bs) D E = some (apartN V D bs) := by
  unfold disjunct_Apart.f
  have := h.v7
  have := h.d3
  rw [if_pos ⟨by omega, by omega, by omega, by omega, by rw [il_length]; have := h.n; omega, h.small⟩, nl_il, Int.toNat_natCast, Int.toNat_natCast]
theorem apI_take {S : List Nat} {i j : Nat} (hi : i < S.length) (hj : j < i) : (apI S i).drop j = ((cnt (S.getD i 0 ^^^ S.getD j 0) 64 : Nat) : Int) :: (apI S i).drop (j + 1) := by
  have hl : (apI S i).length = i := by simp [apI]; omega
  rw [List.drop_eq_getElem_cons (by omega)]
  congr 1
  simp only [apI, List.getElem_map, List.getElem_take]
  rw [List.getD_eq_getElem?_getD (l := S) (i := j), List.getElem?_eq_getElem (by omega)]; rfl
theorem mlist_cons (a y : Int) (xs : List Int) : mlist a (y :: xs) = mlist (mn a y) xs := rfl
theorem mlist_app (a : Int) (xs ys : List Int) : mlist a (xs ++ ys) = mlist (mlist a xs) ys := by unfold mlist; rw [List.foldl_append]
theorem inner (h : Mp V bs D E) {L : List Nat} (hL : ∀ x ∈ L, x < 2 ^ V) (hl : L.length ≤ 64) (n : Int) {i : Nat} (hi : i < L.length) {R : Bool} :
    ∀ q j m, j + q = i → Ev (fun K => plexuslaw12_DisjunctSeparates.l0 K true n (il L) (mlist m ((apI (L.map fun s => posN bs s bs.length) i).drop j)) ((i + 1 : Nat) : Int) V (il bs) D E) R →
      Ev (fun K => plexuslaw12_DisjunctSeparates.l1 K true n (il L) m i j V (il bs) D E) R := by
  have h7 := small7 h.v7
  intro q
  induction q with
  | zero =>
    intro j m hj hc
    obtain rfl : j = i := by omega
    have e1 : wrap64 ((j : Int) + 1) = ((j + 1 : Nat) : Int) := by rw [wrap_id] <;> omega
    rw [List.drop_of_length_le (by simp [apI]; omega), show mlist m [] = m from rfl] at hc
    exact Ev.succ (fun k => by rw [plexuslaw12_DisjunctSeparates.l1, if_neg (by omega), e1]) hc
  | succ q ih =>
    intro j m hj hc
    have e1 : wrap64 ((j : Int) + 1) = ((j + 1 : Nat) : Int) := by rw [wrap_id] <;> omega
    have hg : ∀ k, k < L.length → rd (il L) (k : Int) = ((L.getD k 0 : Nat) : Int) ∧ L.getD k 0 < 2 ^ 64 := fun k hk => ⟨rd_il hk, Nat.lt_of_lt_of_le (hL _ (getD_mem hk)) (by omega)⟩
    obtain ⟨g1, g2⟩ := hg i hi
    obtain ⟨g3, g4⟩ := hg j (by omega)
    have hp : ∀ s, posN bs s bs.length < 2 ^ 15 := fun s => Nat.lt_of_lt_of_le (posN_lt bs s bs.length) (Nat.pow_le_pow_right (by decide) (by have := h.n; omega))
    have hm : ∀ k, k < L.length → (L.map fun s => posN bs s bs.length).getD k 0 = posN bs (L.getD k 0) bs.length := fun k hk => by
      rw [List.getD_eq_getElem?_getD, List.getElem?_map, List.getElem?_eq_getElem hk, List.getD_eq_getElem?_getD, List.getElem?_eq_getElem hk]; rfl
    rw [apI_take (by rw [List.length_map]; exact hi) (by omega), hm i hi, hm j (by omega), mlist_cons] at hc
    have hx : posN bs (L.getD i 0) bs.length ^^^ posN bs (L.getD j 0) bs.length < 2 ^ 15 := Nat.xor_lt_two_pow (hp _) (hp _)
    have ex : bits .xor .u64 ((posN bs (L.getD i 0) bs.length : Nat) : Int) ((posN bs (L.getD j 0) bs.length : Nat) : Int) = ((posN bs (L.getD i 0) bs.length ^^^ posN bs (L.getD j 0) bs.length : Nat) : Int) := u64_xor_nat _ _ (by have := hp (L.getD i 0); omega) (by have := hp (L.getD j 0); omega)
    refine Ev.succ (fun k => by rw [plexuslaw12_DisjunctSeparates.l1, if_pos (by omega), if_pos (by omega), if_pos (by rw [il_length]; omega), g1, pos_f h g2, Option.bind_some, if_pos (by omega), if_pos (by rw [il_length]; omega), g3, pos_f h g4, Option.bind_some, ex, e1]) ?_
    exact Ev.bind (f := fun k t164 => plexuslaw12_DisjunctSeparates.l1 k true n (il L) (mn m t164) i ((j + 1 : Nat) : Int) V (il bs) D E) (size_f (by omega)) (ih (j + 1) _ (by omega) hc)
theorem outer (h : Mp V bs D E) {L : List Nat} (hL : ∀ x ∈ L, x < 2 ^ V) (hl : L.length ≤ 64) (n m0 : Int) {R : Bool}
    (hend : Ev (fun K => plexuslaw12_DisjunctSeparates.l0 K true n (il L) (mlist m0 (apartL (L.map fun s => posN bs s bs.length) L.length)) (L.length : Nat) V (il bs) D E) R) :
    ∀ q i, i + q = L.length → Ev (fun K => plexuslaw12_DisjunctSeparates.l0 K true n (il L) (mlist m0 (apartL (L.map fun s => posN bs s bs.length) i)) i V (il bs) D E) R := by
  intro q
  induction q with
  | zero =>
    intro i hi
    obtain rfl : i = L.length := by omega
    exact hend
  | succ q ih =>
    intro i hi
    refine Ev.succ (fun k => by rw [plexuslaw12_DisjunctSeparates.l0, if_pos (by rw [il_length]; omega)]) ?_
    refine inner h hL hl n (show i < L.length by omega) i 0 _ (by omega) ?_
    have := ih (i + 1) (by omega)
    rwa [apartL, mlist_app] at this
theorem final (h : Mp V bs D E) {L : List Nat} (hl : L.length ≤ 64) {le : Int} (hle : le = apartN V D bs) (hs : slackN V D bs ≤ le) :
    Ev (fun K => plexuslaw12_DisjunctSeparates.l0 K true (slackN V D bs) (il L) le (L.length : Nat) V (il bs) D E) true := by
  have he := h.e2
  have hd := h.d3
  have e1 : wrap64 ((wrap64 (2 * (E : Int))) + 1) = 2 * E + 1 := by rw [wrap_id (x := 2 * (E : Int)) (by omega) (by omega), wrap_id] <;> omega
  have hdis : disjunct_Disjunct.f V (il bs) D E = some (decide ((2 * E : Int) < slackN V D bs)) := by rw [disj_eq]; exact Pd.disj_f h (by omega)
  refine Ev.succ (fun k => by rw [plexuslaw12_DisjunctSeparates.l0, if_neg (by rw [il_length]; omega), if_neg (by omega), apart_f h, Option.bind_some, if_pos hle.symm, hdis, Option.bind_some, e1]) (Ev.const fun K => ?_)
  by_cases hq : (2 * E : Int) < slackN V D bs
  · have h1 : decide (slackN V D bs ≥ 2 * (E : Int) + 1) = true := by simp; omega
    rw [decide_eq_true hq, h1, if_neg (by simp), Option.bind_some, if_pos rfl, if_pos (by omega)]
  · have h1 : decide (slackN V D bs ≥ 2 * (E : Int) + 1) = false := by simp; omega
    rw [decide_eq_false hq, h1, if_neg (by simp), Option.bind_some, if_neg (by simp)]
end
theorem separates_true {l m : List Int} {a1 a2 : Int} (hl : l.length < 2 ^ 63) (hb : okL 256 l = true) (hm : okL 256 m = true) (h10 : 0 ≤ a1) (h11 : a1 < 256) (h20 : 0 ≤ a2) (h21 : a2 < 256) : ∃ k, plexuslaw12_DisjunctSeparates.f k l a1 a2 m = some true := by
  obtain ⟨V, bs, D, E, hmade, h⟩ := made12 hl hb hm h10 h11 h20 h21
  obtain ⟨L, hL1, hL2, hL3, hL4⟩ := upto_ok h.v7 h.d3 h.dv
  obtain ⟨hnd, hlt, _⟩ := sets_ok h.v7 h.d3
  have hsep := separation (V := V) (D := D) (bs := bs) h.v7 h.d3 h.n
  have hle : mlist ((bs.length : Int) + 1) (apartL (L.map fun s => posN bs s bs.length) L.length) = apartN V D bs := by
    unfold apartN apartS
    rw [show L.length = (L.map fun s => posN bs s bs.length).length by simp]
    refine mlist_eq fun t => ?_
    rw [apart_ge hL3, apart_ge hnd]
    exact ⟨fun h a ha b hb => h a ((hL4 a).2 ha) b ((hL4 b).2 hb), fun h a ha b hb => h a ((hL4 a).1 ha) b ((hL4 b).1 hb)⟩
  have e1 : wrap64 (((il bs).length : Int) + 1) = (bs.length : Int) + 1 := by rw [il_length, wrap_id] <;> (have := h.n; omega)
  have hup : Ev (fun K => plexusref12_Upto.f K V D) (il L) := Ev.of_mono (fun k => plexusref12_Upto.mono _ _ k) hL1
  have hout := outer h (fun x hx => hlt x ((hL4 x).1 hx)) hL2 (slackN V D bs) ((bs.length : Int) + 1) (final h hL2 hle (by rw [hle]; exact hsep)) L.length 0 (by omega)
  have hsl : disjunct_Slack.f V (il bs) D E = some (slackN V D bs) := by rw [slack_eq]; exact Pd.slack_f h (by have := h.d3; omega) _
  obtain ⟨K, hK⟩ := Ev.bind (f := fun k (bt : Int × List Int × Int × Int) => (disjunct_Slack.f bt.1 bt.2.1 bt.2.2.1 bt.2.2.2).bind fun t156 => ((plexusref12_Upto.f k bt.1 bt.2.2.1).bind fun t157 => (plexuslaw12_DisjunctSeparates.l0 k true t156 t157 (wrap64 ((bt.2.1.length : Int) + 1)) 0 bt.1 bt.2.1 bt.2.2.1 bt.2.2.2))) (made_ev hmade)
    (Ev.eq (fun k => by show (disjunct_Slack.f V (il bs) D E).bind _ = _; rw [hsl, Option.bind_some]) (Ev.bind (f := fun k t157 => plexuslaw12_DisjunctSeparates.l0 k true (slackN V D bs) t157 (wrap64 (((il bs).length : Int) + 1)) 0 V (il bs) D E) hup (by rw [e1]; exact hout)))
  refine ⟨K, ?_⟩
  unfold plexuslaw12_DisjunctSeparates.f plexuslaw12_examples.f
  rw [Option.bind_some, if_pos rfl]
  exact hK K (Nat.le_refl _)
end Go.Proofs.Ytmfmlfaglemgfaa.Ps


namespace Go.Proofs.Ytmfmlfaglemgfaa
open Go.ChangeShapes Go.WideShapes Go.ChangeAt Go.RowKit Go.Lib Go.Proofs.YtmfmlfaglemgfaaW.PrintWords
set_option linter.unusedVariables false
/-- A row of bytes that came in. -/
def IsRow (w : World) (a : Option Addr) (len cap : Nat) (zs : List Int) : Prop :=
  (a = none ∧ len = 0 ∧ cap = 0 ∧ zs = []) ∨
  ∃ x, a = some x ∧ len ≤ cap ∧ cap ≤ maxLen ∧ zs.length = cap ∧ (∀ i, i < zs.length → w.cell? (x.add i) = some (.int .u8 (zs.getD i 0))) ∧ ∀ n ∈ zs, (Lit.int .u8 n).wf = true
theorem IsRow.bytes {w : World} {a : Option Addr} {len cap : Nat} {zs : List Int} (h : IsRow w a len cap zs) :
    (Kd.int .u8).C w a (zs.take len).length (zs.take len) ∧ (zs.take len).length ≤ cap ∧ len = (zs.take len).length ∧ (zs.take len).length < 2 ^ 63 ∧ okL 256 (zs.take len) = true := by
  rcases h with ⟨rfl, rfl, rfl, rfl⟩ | ⟨x, rfl, hl, hm, hz, hc, hw⟩
  · exact ⟨Kd.C_of_reads (d := 0) ⟨rfl, by simp, fun h => by simp at h⟩, by simp, rfl, by simp, rfl⟩
  · have e : (zs.take len).length = len := by rw [List.length_take]; omega
    have hm' : cap ≤ 9223372036854775807 := hm
    refine ⟨?_, by omega, e.symm, by omega, ?_⟩
    · rw [e]
      refine Kd.C_of_reads (d := 0) ⟨e, by omega, fun _ => ⟨x, rfl, fun j hj => ?_⟩⟩
      rw [hc j (by omega)]
      simp only [List.getD_eq_getElem?_getD, List.getElem?_take, if_pos hj]
    · rw [okL_iff]
      intro b hb
      have := hw b (List.mem_of_mem_take hb)
      simp only [Lit.wf, Bool.and_eq_true, decide_eq_true_eq] at this
      have e1 : IntKind.u8.min = 0 := by decide
      have e2 : IntKind.u8.max = 255 := by decide
      rw [e1, e2] at this
      omega
theorem byte_wf {n : Int} (h : (Lit.int .u8 n).wf = true) : 0 ≤ n ∧ n < 256 := by
  simp only [Lit.wf, Bool.and_eq_true, decide_eq_true_eq] at h
  have e1 : IntKind.u8.min = 0 := by decide
  have e2 : IntKind.u8.max = 255 := by decide
  rw [e1, e2] at h
  omega
/-- One slice of bytes among the cells of an argument. -/
theorem bytes_of {H : Type} {enc : TypeId × Value → H} {W : World} {base n : Nat} {sp : Nat → Bool} {held : Bool} {c : Value} {y : DataW H × List MemPlace} (hsp : ∀ b, sp b = true) (h : DataW.trod enc Try.prog W base sp held n 22 [c] = some y) : ∃ A m k zs, c = .slice A m k ∧ IsRow W A m k zs := by
  rcases open_ints Try.underlying22 Try.underlying5 (by kernel_rfl) h with ⟨hcs, _⟩ | ⟨x, l, c', zs, hcs, _, hl, hm, hz, _, hcell, hwz⟩
  · simp at hcs
    subst hcs
    exact ⟨none, 0, 0, [], rfl, .inl ⟨rfl, rfl, rfl, rfl⟩⟩
  · simp at hcs
    subst hcs
    rw [hsp] at hz
    exact ⟨some x, l, c', zs, rfl, .inr ⟨x, rfl, hl, hm, by simpa using hz, hcell, hwz⟩⟩
/-- The argument, opened: a structure's bytes, two numbers, bytes. -/
theorem raw_of {H : Type} {enc : TypeId × Value → H} {W : World} {base : Nat} {sp : Nat → Bool} {held : Bool} {cs : Array Value} {d : DataW H} {ps : List MemPlace} (hsp : ∀ b, sp b = true) (hsz : cs.size = Try.prog.cellsOf 26) (h : DataW.Trod enc Try.prog W base sp held 26 (.agg cs) d ps) :
    ∃ A0 m0 k0 z0 a1 a2 A3 m3 k3 z3, cs = #[.slice A0 m0 k0, .int .u8 a1, .int .u8 a2, .slice A3 m3 k3] ∧ IsRow W A0 m0 k0 z0 ∧ (0 ≤ a1 ∧ a1 < 256) ∧ (0 ≤ a2 ∧ a2 < 256) ∧ IsRow W A3 m3 k3 z3 := by
  obtain ⟨fuel, hf⟩ := h
  obtain ⟨y0, y1, y2, y3, n, _, _, h0, h1, h2, h3⟩ := Go.Joins.trod_struct4 Try.underlying26 hf
  have s26 : Try.prog.cellsOf 26 = 4 := by kernel_rfl
  have s24 : Try.prog.cellsOf 24 = 1 := by kernel_rfl
  have s22 : Try.prog.cellsOf 22 = 1 := by kernel_rfl
  have s21 : Try.prog.cellsOf 5 = 1 := by kernel_rfl
  rw [s26] at hsz
  obtain ⟨c0, c1, c2, c3, rfl⟩ := Go.Joins.array4 hsz
  simp [Value.cells, s24, s22, s21] at h0 h1 h2 h3
  obtain ⟨y00, n0, _, _, h00⟩ := trod_struct1 Try.underlying24 h0
  simp [s22] at h00
  obtain ⟨A0, m0, k0, z0, rfl, r0⟩ := bytes_of hsp h00
  obtain ⟨A3, m3, k3, z3, rfl, r3⟩ := bytes_of hsp h3
  obtain ⟨a1, e1, _, w1⟩ := DataW.trod_int Try.underlying5 h1
  obtain ⟨a2, e2, _, w2⟩ := DataW.trod_int Try.underlying5 h2
  simp at e1 e2
  subst e1 e2
  exact ⟨A0, m0, k0, z0, a1, a2, A3, m3, k3, z3, rfl, r0, byte_wf w1, byte_wf w2, r3⟩
end Go.Proofs.Ytmfmlfaglemgfaa


namespace Go.Proofs.Ytmfmlfaglemgfaa
open Go.ChangeShapes Go.WideShapes Go.ChangeAt Go.RowKit Go.Lib Go.Proofs.YtmfmlfaglemgfaaW.PrintWords
set_option linter.unusedVariables false
namespace disjunctSeparates
theorem own : ownKnob Try.prog.godebug = none := by kernel_rfl
theorem laidOut : laidOutB Try.prog = true := by kernel_rfl
set_option maxRecDepth 100000 in
theorem lifted (os : Os) (started : os.Started) (H : Type) (enc : TypeId × Value → H) :
    ReturnsInHanded {} Try.checked os 5 .any (Rows.disjunctSeparatesSpec.pre6 enc Try.prog Try.f5 Rows.disjunctSeparatesRow.domain false) (Rows.disjunctSeparatesSpec.post enc Try.prog Try.f5 false true false false) := by
  refine returnsInHanded_of_change_sized (C := Try.checked) own started (by kernel_rfl) Try.func5
    (ChangeSpec.witness6 (enc := enc) (C := Try.checked) false ⟨#[], #[.agg #[.slice none 0 0, .int .u8 0, .int .u8 0, .slice none 0 0]], []⟩ 8 (by kernel_rfl) (by kernel_rfl) (by kernel_rfl) (by kernel_rfl)) ?_
  intro W base args ds gs before hval0 hW hcnd hsz0 _
  have hval : ∀ (j : Nat) t v, Try.f5.params[j]? = some t → args[j]? = some v → Value.okWide Try.prog W .any base t v := hval0
  have hW' := hW
  obtain ⟨p, q, hA0, hV, rfl, hfz, hnd⟩ := hW
  have hA : DataW.TrodAll enc Try.prog W 0 (fun _ => true) true Try.f5.params.toList args.toList ds p := hA0
  rw [Try.params5] at hA hval
  obtain ⟨v0, vs0, d0, ds0, p0, q0, hargs, rfl, rfl, h0, r0⟩ := trodAll_cons hA
  obtain ⟨rfl, rfl, rfl⟩ := trodAll_nil r0
  obtain rfl : args = #[v0] := by cases args; simp_all
  obtain ⟨rfl, rfl⟩ := trodVars_none hV
  obtain ⟨cs, rfl, hsz⟩ := okWide_struct Try.underlying26 (hval 0 26 v0 rfl rfl)
  have k0 := h0
  have lt0 : ∀ x ∈ p0, x.block < W.heap.size := by obtain ⟨m, hm⟩ := k0; exact DataW.trod_lt m _ _ _ hm
  obtain ⟨A0, m0, k0', z0, a1, a2, A3, m3, k3, z3, rfl, i0, ⟨h10, h11⟩, ⟨h20, h21⟩, i3⟩ := raw_of (fun _ => rfl) hsz h0
  obtain ⟨hC0, hc0, hn0, h630, hby0⟩ := i0.bytes
  obtain ⟨hC3, hc3, hn3, _, hby3⟩ := i3.bytes
  clear hA0 hval0 hsz0 hval hA
  obtain ⟨K, hK⟩ := Ps.separates_true h630 hby0 hby3 h10 h11 h20 h21
  have hcall := Ps.plexuslaw12_DisjunctSeparates.calls K A0 k0' (z0.take m0) a1 a2 A3 k3 (z3.take m3) W hC0 hc0 hC3 hc3 hK
  rw [← hn0, ← hn3] at hcall
  refine hcall.mono fun e W' ⟨he, bel⟩ => ?_
  subst he
  exact ⟨_, rfl, _, _, _, [], _, [], hW', trodAll_mk1 (shut_bool Try.underlying4 _), (trodAll_cons_mk (Below.trod laidOut (by kernel_rfl) (of_decide_eq_true (by kernel_rfl)) k0 bel lt0) trodAll_mk0), rfl, bel.frame _, fun h => by cases h⟩
theorem said : Rows.DisjunctSeparatesSaid :=
  OpenClaim.holds_of_wide 5 Try.f5 rfl rfl rfl rfl rfl rfl rfl ⟨rfl, rfl, rfl, rfl, rfl⟩ rfl rfl rfl rfl rfl (by kernel_rfl) Try.func5 (by kernel_rfl)
    (of_decide_eq_true (by kernel_rfl)) (by unfold Func.isWrapper; first | (rw [if_pos (by decide +kernel)]; kernel_rfl) | (rw [if_neg (by decide +kernel)]; exact ⟨rfl, rfl⟩))
    (fun os started H enc _ => lifted os started H enc)
#print axioms said
end disjunctSeparates
end Go.Proofs.Ytmfmlfaglemgfaa
