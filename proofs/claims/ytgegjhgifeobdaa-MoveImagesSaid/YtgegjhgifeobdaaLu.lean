/- Between this claim's contracts and the printed ones: lists of numbers in memory; no condition. -/
/- Lists of ints in memory, and embed.different, walked: a map[int]bool that the call makes and asks. -/
/- slices.Clone of []int, walked. -/
/- A law for a range over a function whose yields lie in memory, and whose rounds never stop it; in the plain calculus. An append to a slice cut to its own length. -/
/- slices.Sort at []uint64: the way to the insertion sort, walked for at most 12 elements. -/
/- slices.Index, slices.Contains at ints, and embed.queue, walked. -/
/- A region that draws its order, walked by an invariant over what has been carried out; inside a fence, in a round too. -/
/- embed.lists, the iterator, walked. -/
/- embed.lists and its iterator. -/
import Derived.Test.YtgegjhgifeobdaaIi
import Derived.Maps.RangeWalk
import Derived.Lib.LazyBuf
import Derived.Laws.CopyOwn
import Derived.Laws.MakeOwn
import Derived.OrdersIn
import Derived.StillTail
namespace Go.Proofs.Ytgegjhgifeobdaa
set_option linter.unusedSimpArgs false
set_option linter.unusedVariables false
open Go.RowKit Go.Lib Go.Proofs.YtgegjhgifeobdaaW.PrintWords

def nl (l : List Int) : List Nat := l.map Int.toNat
theorem nl_length (l : List Int) : (nl l).length = l.length := by simp [nl]
theorem il_nl {l : List Int} (h : ∀ b ∈ l, 0 ≤ b) : il (nl l) = l := by
  induction l with
  | nil => rfl
  | cons b r ih =>
    have h0 := h b (by simp)
    simp only [il, nl, List.map_cons] at ih ⊢
    rw [ih fun x hx => h x (by simp [hx]), Int.toNat_of_nonneg h0]
theorem nl_il (bs : List Nat) : nl (il bs) = bs := by
  induction bs with
  | nil => rfl
  | cons b r ih => simp only [il, nl, List.map_cons] at ih ⊢; rw [ih]; simp
/-- All numbers are from 0 on, below a bound. -/
def okL (bd : Nat) (l : List Int) : Bool := l.all fun b => decide (0 ≤ b) && decide (b < (bd : Int))
theorem okL_iff {bd : Nat} {l : List Int} : okL bd l = true ↔ ∀ b ∈ l, 0 ≤ b ∧ b < (bd : Int) := by simp [okL]
theorem okL_il {bd : Nat} {bs : List Nat} (h : ∀ b ∈ bs, b < bd) : okL bd (il bs) = true := by
  rw [okL_iff]; intro b hb; simp only [il, List.mem_map] at hb; obtain ⟨x, hx, rfl⟩ := hb; have := h x hx; omega
theorem okL_nl {bd : Nat} {l : List Int} (h : okL bd l = true) : ∀ b ∈ nl l, b < bd := by
  rw [okL_iff] at h; intro b hb; simp only [nl, List.mem_map] at hb; obtain ⟨x, hx, rfl⟩ := hb; have := h x hx; omega
theorem nlc_of {kd : IntKind} {bd : Nat} {w : World} {A : Option Addr} {l : List Int} (hr : (Kd.int kd).C w A l.length l) (h : okL bd l = true) : NlC kd bd w A l.length (nl l) :=
  ⟨(nl_length l).symm, by rw [il_nl fun b hb => (okL_iff.1 h b hb).1]; exact hr, okL_nl h⟩
theorem blc_of {bd : Nat} (hbd : bd ≤ 2 ^ 64) {w : World} {A : Option Addr} {l : List Int} (hr : (Kd.int .u64).C w A l.length l) (h : okL bd l = true) : BlC w A l.length (nl l) :=
  ⟨(nl_length l).symm, by rw [il_nl fun b hb => (okL_iff.1 h b hb).1]; exact hr, fun b hb => Nat.lt_of_lt_of_le (okL_nl h b hb) hbd⟩
theorem R_own {kd : IntKind} {T n base : Nat} {w : World} {v : Value} {xs : List Int} (h : w.ownsRow base T 1 v n (nums kd xs)) : (Kd.int kd).R T w base (fun _ => True) v xs := by
  have hl : n = xs.length := by have := h.1; simpa [nums] using this.symm
  subst hl
  exact Kd.R_of_own (enc := Value.int kd) (by simpa [encs, nums] using h) (fun _ _ => trivial)
theorem some_if {α : Type} {c : Prop} [Decidable c] {x r : α} (h : (if c then some x else none) = some r) : c ∧ r = x := by
  split at h
  · exact ⟨by assumption, (Option.some.inj h).symm⟩
  · cases h
end Go.Proofs.Ytgegjhgifeobdaa


namespace Go.Proofs.Ytgegjhgifeobdaa
set_option linter.unusedSimpArgs false
set_option linter.unusedVariables false
open Go.RowKit Go.Lib Go.Shelf Go.Proofs.YtgegjhgifeobdaaW.PrintWords
attribute [local go_sem] Oper.semAt_some

abbrev IC (w : World) (A : Option Addr) (n : Nat) (xs : List Int) : Prop := (Kd.int .i64).C w A n xs
theorem IC.len {w : World} {A : Option Addr} {n : Nat} {xs : List Int} (h : IC w A n xs) : xs.length = n := h.1
theorem IC.at_ {w : World} {A : Option Addr} {n : Nat} {xs : List Int} (h : IC w A n xs) {k : Nat} (hk : k < n) :
    ∃ ad x, A = some ad ∧ w.cell? (ad.add k) = some (.int .i64 x) ∧ Hid (xs[k]? = some x ∧ rd xs k = x) := by
  obtain ⟨ad, e, hc⟩ := Kd.at_int h k (by omega) (by omega)
  have hl : k < xs.length := by rw [h.len]; omega
  refine ⟨ad, rd xs k, e, by simpa using hc, ?_⟩
  have hx : xs[k]? = some (rd xs k) := by
    unfold rd
    rw [List.getD_eq_getElem?_getD, Int.toNat_natCast, List.getElem?_eq_getElem hl]; rfl
  exact ⟨hx, rfl⟩
theorem own_IC {w : World} {base n : Nat} {e : TypeId} {v : Value} {xs : List Int} (h : w.ownsRow base e 1 v n (nums .i64 xs)) :
    ∃ A c, v = .slice A n c ∧ n ≤ c ∧ c ≤ 9223372036854775807 ∧ IC w A n xs := by
  have hl : n = xs.length := by have := h.1; simp [nums] at this; omega
  subst hl
  have h' : (Kd.int .i64).R e w base (fun _ => True) v xs := Kd.R_of_own (enc := Value.int .i64) (by simpa [encs, nums] using h) (fun _ _ => trivial)
  obtain ⟨A, c, rfl, hc, hC⟩ := Kd.R_reads h'
  refine ⟨A, c, rfl, hc, ?_, hC⟩
  rcases h.2 with ⟨e1, _⟩ | ⟨g, cap, cur, e1, _, _, _, hm, _⟩
  · injection e1 with _ _ e1; omega
  · injection e1 with _ _ e1; simp only [maxLen] at hm; omega

theorem keyedI : Maps.Keyed Try.prog 3 := Maps.int_keyed Try.underlying3
theorem zeroB (w : World) : (zeroValue 4).run Try.prog w = .ok (.bool false) w := by kernel_rfl
theorem plainElem_bool_inv {P : Program} {e : TypeId} (he : P.underlying e = some .bool) {v : Value} {z : DataW Unit × List MemPlace} (h : plainElem P e v = some z) : ∃ x, v = .bool x ∧ z = (.lit (.bool x), []) := by
  unfold plainElem at h
  rw [he] at h
  cases v <;> simp at h
  exact ⟨_, rfl, h.symm⟩
/-- A list has different numbers from 0 to n - 1. -/
def diffB (l : List Int) (n : Int) : Bool := (l.all fun x => decide (0 ≤ x) && decide (x < n)) && decide l.Nodup
theorem diffB_iff {l : List Int} {n : Int} : diffB l n = true ↔ (∀ x ∈ l, 0 ≤ x ∧ x < n) ∧ l.Nodup := by simp [diffB]
theorem diffB_bad {l : List Int} {n x : Int} {k : Nat} (hx : l[k]? = some x) (h : x < 0 ∨ n ≤ x ∨ x ∈ l.take k) : diffB l n = false := by
  cases hd : diffB l n
  · rfl
  · exfalso
    obtain ⟨h1, h2⟩ := diffB_iff.1 hd
    have hm := h1 x (List.mem_of_getElem? hx)
    rcases h with h | h | h
    · omega
    · omega
    · obtain ⟨hk, e⟩ := List.getElem?_eq_some_iff.1 hx
      obtain ⟨i, hi, ei⟩ := List.getElem_of_mem h
      rw [List.length_take] at hi
      rw [List.getElem_take] at ei
      exact (List.pairwise_iff_getElem.1 h2) i k (by omega) hk (by omega) (ei.trans e.symm)
theorem diffB_good {l : List Int} {n : Int} (h1 : ∀ x ∈ l, 0 ≤ x ∧ x < n) (h2 : ∀ k x, l[k]? = some x → x ∉ l.take k) : diffB l n = true := by
  refine diffB_iff.2 ⟨h1, List.pairwise_iff_getElem.2 fun i j hi hj hij e => ?_⟩
  refine h2 j l[j] (List.getElem?_eq_getElem hj) ?_
  rw [← e]
  exact List.mem_take_iff_getElem.2 ⟨i, by omega, rfl⟩
set_option maxHeartbeats 2000000 in
set_option maxRecDepth 100000 in
theorem different_any (A : Option Addr) (c : Nat) (l : List Int) (n : Int) (w : World) (hC : IC w A l.length l) (hl : l.length < 2 ^ 40) (hwf : ∀ x ∈ l, (Lit.int .i64 x).wf = true) :
    Calls Try.prog 28 #[.slice A l.length c, .int .i64 n] w fun e w' => e = .returned (.bool (diffB l n)) ∧ Below w.heap.size w w' := by
  have HWF := hid hwf
  clear hwf
  have hmm := @run_makeMap Try.prog
  go_enter Try.func28, Try.ntmps28
  go_upto_region 2 with (fail)
  obtain ⟨w1, hw1⟩ : ∃ w1, w.alloc (.map #[] 0) = w1 := ⟨_, rfl⟩
  have hmo : w1.ownsMap (H := Unit) Try.prog 3 (plainElem Try.prog 4) w.heap.size 0 (.map []) := by rw [← hw1]; exact World.ownsMap_made _ _ _ _
  have hb1 : Below w.heap.size w w1 := by rw [← hw1]; exact below_alloc (Below.refl _ _) _
  rw [hw1]
  clear hw1 hmm
  go_wp2
  go_loopw [4, 11] (fun z i wr => ∃ (k : Nat) (D : DataW Unit), k ≤ l.length ∧ z = .bool false ∧ i = .int .i64 k ∧ wr.ownsMap Try.prog 3 (plainElem Try.prog 4) w.heap.size k D ∧ Below w.heap.size w wr ∧ Hid (∀ x : Int, D.atKey (.int .i64 x) (.lit (.bool false)) = .lit (.bool (decide (x ∈ l.take k)))) ∧ Hid ((∀ x ∈ l.take k, 0 ≤ x ∧ x < n) ∧ ∀ j < k, ∀ x, l[j]? = some x → x ∉ l.take j)) (fun _ i _ => l.length - (intOf i).toNat)
  case atStart => exact ⟨0, _, by omega, rfl, rfl, hmo, hb1, fun x => by simp; rfl, by simp, fun j hj => by omega⟩
  case round =>
    clear hmo hb1
    obtain ⟨k, D, hk, rfl, rfl, hmo, hb, HD, HG⟩ := hrel
    by_cases hlt : k < l.length
    · obtain ⟨ad, x, rfl, hcx, HX⟩ := IC.at_ (Kd.C_below hC hb) hlt
      have hwx := HWF.out x (List.mem_of_getElem? HX.out.1)
      have htk : l.take (k + 1) = l.take k ++ [x] := by rw [List.take_add_one, HX.out.1]; rfl
      have HTK := hid htk
      clear htk
      by_cases h0 : x < 0
      · have q0 : decide (x < 0) = true := by simp [h0]
        have HF := hid (diffB_bad (n := n) HX.out.1 (.inl h0))
        clear h0
        go_wp2
        go_ret
        exact ⟨ret_bool HF.out.symm, hb⟩
      · have q0 : decide (x < 0) = false := by simp [h0]
        by_cases hn : n ≤ x
        · have q1 : decide (n ≤ x) = true := by simp [hn]
          have HF := hid (diffB_bad (n := n) HX.out.1 (.inr (.inl hn)))
          clear h0 hn
          go_wp2
          go_ret
          exact ⟨ret_bool HF.out.symm, hb⟩
        · have q1 : decide (n ≤ x) = false := by simp [hn]
          have hkey : keyOf Try.prog 3 (.int .i64 x) = some (.int .i64 x) := Maps.keyOf_int_mk Try.underlying3 hwx
          obtain ⟨v, ps, hrunL, hv⟩ := hmo.lookup (t := 95) keyedI Try.underlying95 (zeroB wr) (plainElem_bool Try.underlying4 false) hkey
          obtain ⟨bb, rfl, hbb⟩ := plainElem_bool_inv Try.underlying4 hv
          have hbv : bb = decide (x ∈ l.take k) := by
            have := congrArg Prod.fst hbb
            rw [HD.out x] at this
            simpa using this.symm
          have HXN := hid (show 0 ≤ x ∧ x < n by omega)
          by_cases hin : x ∈ l.take k
          · obtain rfl : bb = true := by rw [hbv]; simp [hin]
            have HF := hid (diffB_bad (n := n) HX.out.1 (.inr (.inr hin)))
            clear h0 hn hin hbv hbb hv
            go_wp2
            go_ret
            exact ⟨ret_bool HF.out.symm, hb⟩
          · obtain rfl : bb = false := by rw [hbv]; simp [hin]
            have HIN := hid hin
            clear h0 hn hin hbv hbb hv
            go_wp2_with (first
              | (at_mapUpdate; refine wpList_mapUpdate_own _ rfl _ _ _ 95 rfl 3 4 keyedI Try.underlying95 _ w.heap.size k D rfl hmo (by unfold maxLen; omega) _ _ _ rfl rfl hkey _ [] (plainElem_bool Try.underlying4 true) ?_; intro w1 hown1 hgrow1)
              | go_in)
            go_roundw
            case rel =>
              refine ⟨k + 1, _, by omega, rfl, by go_num, hown1, hb.grown hgrow1 hb.size (fun j hj => by cases hj; exact Nat.le_refl _), fun y => ?_, fun y hy => ?_, fun j hj y hy => ?_⟩
              · rw [HTK.out]
                by_cases hyx : y = x
                · subst hyx
                  rw [Maps.atKey_put_same hmo.isMap (show WideAt.IsKeyLit (.int .i64 y) from trivial)]
                  simp
                · rw [Maps.atKey_put_other (fun e => hyx (by cases e; rfl)), HD.out y]
                  simp [hyx]
              · rw [HTK.out] at hy
                rcases List.mem_append.1 hy with h | h
                · exact HG.out.1 y h
                · rw [List.mem_singleton] at h; subst h; exact HXN.out
              · rcases Nat.lt_or_ge j k with h | h
                · exact HG.out.2 j h y hy
                · obtain rfl : j = k := by omega
                  rw [HX.out.1] at hy
                  cases hy
                  exact HIN.out
            case measure => simp [intOf]; omega
    · obtain rfl : k = l.length := by omega
      have HF := hid (diffB_good (n := n) (l := l) (by rw [List.take_length] at HG; exact HG.out.1) (fun j x hx => HG.out.2 j (List.getElem?_eq_some_iff.1 hx).1 x hx))
      go_wp2
      go_ret
      exact ⟨ret_bool HF.out.symm, hb⟩
end Go.Proofs.Ytgegjhgifeobdaa


namespace Go.Proofs.Ytgegjhgifeobdaa
set_option linter.unusedSimpArgs false
set_option linter.unusedVariables false
open Go.RowKit Go.Lib Go.Proofs.YtgegjhgifeobdaaW.PrintWords
attribute [local go_sem] Oper.semAt_some

theorem infoI : (Try.prog.info? 3).map (fun i => (i.zero, i.size, i.bytes)) = some (some (.int .i64 0), 1, 8) := by kernel_rfl
set_option maxHeartbeats 2000000 in
set_option maxRecDepth 100000 in
theorem clonei_any (A : Option Addr) (n c : Nat) (bs : List Int) (w : World) (hC : IC w A n bs) (hn : n < 2 ^ 40) :
    Calls Try.prog 50 #[.slice A n c] w fun e w' => ∃ v, e = .returned v ∧ w'.ownsRow w.heap.size 3 1 v n (nums .i64 bs) ∧ Below w.heap.size w w' := by
  obtain ⟨i0, hi0, hz0, hz1, hz2⟩ := info_parts infoI
  have hnil := run_eql_slice_nil w 32 _ A n c Try.underlying32
  have hn1 := hC.len
  subst hn1
  rcases A with _ | ad
  · have hl0 : bs.length = 0 := by
      rcases Nat.eq_zero_or_pos bs.length with h0 | h0
      · exact h0
      · obtain ⟨ad, _, e, _⟩ := IC.at_ hC h0; cases e
    obtain rfl : bs = [] := List.eq_nil_of_length_eq_zero hl0
    clear hC hl0 hnil
    have hnil : (binOp .eql 32 (.slice none 0 c) (.slice none 0 0)).run Try.prog w = .ok (.bool true) w := run_eql_slice_nil w 32 _ none 0 c Try.underlying32
    go_enter Try.func50, Try.ntmps50
    go_wp2
    go_ret
    exact ⟨.slice none 0 0, rfl, ⟨by simp [nums, il], .inl ⟨rfl, by simp [nums, il]⟩⟩, Below.refl _ _⟩
  · have HR := hid (Reads.of_C hC)
    clear hC
    go_enter Try.func50, Try.ntmps50
    go_wp2_with (
      at_builtin
      refine wpList_append_any _ rfl (.tmp 5) (.tmp 6) _ rfl w.heap.size 3 i0 _ 1 8 Try.underlying32 hi0 hz0 hz1 hz2 rfl (by decide) (.slice (some ⟨w.heap.size, 0, none⟩) 0 0) 0 [] (by simp [Act.eval])
        (own_empty (heap_new rfl) (Nat.le_refl _)) w.heap.size (some ad) bs.length c (nums .i64 bs) (by simp [Act.eval])
        (HR.out.keep fun p hp => World.cell?_alloc_lt w _ p hp) (nums_one _ _) (by simp only [maxLen] <;> omega) (by omega) (by simp) ?_
      intro v1 w1 hown1 hg1 hat1
      have hb1 : Below w.heap.size w w1 := below_grown_own (below_alloc (Below.refl _ _) _) (by simp) hg1 (by intro k hk; simp [Value.ownBlock] at hk; omega)
      have HO1 := hid hown1
      clear hown1)
    go_ret
    exact ⟨v1, rfl, by have := HO1.out; simpa using this, hb1⟩
end Go.Proofs.Ytgegjhgifeobdaa


namespace Go.Proofs.Ytgegjhgifeobdaa
set_option linter.unusedSimpArgs false
set_option linter.unusedVariables false
open Go.RowKit Go.Lib Go.Shelf Go.Proofs.YtgegjhgifeobdaaW.PrintWords

theorem own_KC {B : Nat} {W W' : World} {base : Nat} {e : TypeId} {size n : Nat} {v : Value} {xs : List Value} (h : W.ownsRow base e size v n xs) (hk : KC B W W') (hB : B ≤ base) : W'.ownsRow base e size v n xs := by
  obtain ⟨h1, h2 | ⟨g, cap, cur, h2, h3, h4, h5⟩⟩ := h
  · exact ⟨h1, .inl h2⟩
  · exact ⟨h1, .inr ⟨g, cap, cur, h2, h3, hk.2 g _ _ _ (by omega) h4, h5⟩⟩
theorem append_full {base m c g : Nat} {A : Option Addr} {xs : List Int} {p : Int} {W : World} (own : W.ownsRow base 3 1 (.slice A m c) m (nums .i64 xs)) (hg : W.cell? ⟨g, 0, none⟩ = some (.int .i64 p)) (hm : m < 2 ^ 30) :
    ∃ v w', (∀ ty : TypeId, (Builtin.append_ #[32, 32] ty #[.slice A m m, .slice (some ⟨g, 0, none⟩) 1 1]).run Try.prog W = .ok v w') ∧ w'.ownsRow W.heap.size 3 1 v (m + 1) (nums .i64 (xs ++ [p])) ∧ Below W.heap.size W w' := by
  obtain ⟨i0, hi0, hz0, hz1, hz2⟩ := info_parts infoI
  have hnews : ∀ j u, [Value.int .i64 p][j]? = some u → W.cell? ((⟨g, 0, none⟩ : Addr).add j) = some u := by
    intro j u hj
    cases j with
    | zero => simp at hj; subst hj; simpa [Addr.add] using hg
    | succ j => simp at hj
  have hlen := own.1
  have fin : ∀ (cells : List Value) (k : Nat) (cap : Nat), k = m + 1 → k ≤ cap → cap ≤ maxLen → cells = nums .i64 (xs ++ [p]) → (W.drew.alloc (.cells (cells.toArray ++ Builtin.zeroCells (Value.int .i64 0).cells (cap - k)) 3)).ownsRow W.heap.size 3 1 (.slice (some ⟨W.heap.size, 0, none⟩) k cap) (m + 1) (nums .i64 (xs ++ [p])) := by
    intro cells k cap hk hc hmax hcs
    subst hk hcs
    have hl : (nums IntKind.i64 (xs ++ [p])).length = m + 1 := by simp [nums] at hlen ⊢; omega
    refine ⟨by omega, .inr ⟨W.heap.size, cap, _, rfl, Nat.le_refl _, heap_new rfl, hc, hmax, ?_, ?_⟩⟩
    · rw [Nat.mul_one, Array.size_append, List.size_toArray, hl]
      simp [Builtin.zeroCells, Value.cells]
      omega
    · simp
      rw [List.take_append_of_le_length (by omega), ← hl, List.take_length]
  rcases A with _ | ad
  · rcases own.2 with ⟨he, h0⟩ | ⟨_, _, _, he, _⟩
    · subst h0
      obtain rfl : xs = [] := by
        have := own.1
        simp [nums] at this
        exact this
      have hrun := fun ty => run_append_nil (P := Try.prog) (w := W) 32 ty 3 i0 _ Try.underlying32 hi0 hz0 ⟨g, 0, none⟩ 1 1 [.int .i64 p] (by rw [hz1]; rfl) hnews (by omega) (by omega) (by rw [hz2]; omega)
      exact ⟨_, _, hrun, fin _ 1 _ rfl (grownCap_ge _ _ _ _) (grownCap_le_maxLen _ _ _ _ (by simp [maxLen])) rfl, below_alloc (below_drew (Below.refl _ _)) _⟩
    · cases he
  · have holds : ∀ j u, (nums IntKind.i64 xs)[j]? = some u → W.cell? (ad.add j) = some u := by
      rcases own.2 with ⟨he, _⟩ | ⟨g', cap', cur', he, _⟩
      · cases he
      · injection he with he
        injection he with he
        subst he
        exact fun j u hj => own.cells rfl j u hj
    have hrun := fun ty => run_append_grow (P := Try.prog) (w := W) 32 ty 3 i0 _ Try.underlying32 hi0 hz0 ad m m (nums .i64 xs) (by rw [hz1]; exact hlen) holds ⟨g, 0, none⟩ 1 1 [.int .i64 p] (by rw [hz1]; rfl) hnews (by omega) (by omega) (growslice_fits (by omega) (by rw [hz2]; omega))
    refine ⟨_, _, hrun, ?_, below_alloc (below_drew (Below.refl _ _)) _⟩
    have := fin (nums .i64 xs ++ [.int .i64 p]) (m + 1) (grownCap W (m + 1) m 3) rfl (grownCap_ge _ _ _ _) (grownCap_le_maxLen _ _ _ _ (by simp [maxLen]; omega)) (by simp [nums])
    simpa using this

/-- A call of f yields just xs, in this order, each laid into memory. -/
def IterM {α : Type} (P : Program) (f : FuncId) (mk : Value → Array Value) (R : α → Value → World → Prop) (Kp : World → World → Prop) (xs : List α) (w : World) : Prop :=
  ∀ (l : Nat) (J : List α → World → Prop) (W : World), Below w.heap.size w W → w.heap.size + 2 ≤ W.heap.size → OwnFrom W.heap.size J →
    (∀ m pre x v W1, pre ++ [x] <+: xs → R x v W1 → J pre W1 → YieldAt Fence.wide m P l #[v] W1 fun e W' => e = .returned (.bool true) ∧ J (pre ++ [x]) W' ∧ Kp W1 W') →
    J [] W →
    Calls P f (mk (.func (.yield l) #[] #[])) W fun e W' => (∃ v, e = .returned v) ∧ J xs W'
def postM {α : Type} (B : Nat) (Kp : World → World → Prop) (I : List α → World → Prop) (xs : List α) (W : World) : Exit → Act → World → Prop
  | .normal, _, W' => KeepsFrom B W W' ∧ Kp W W' ∧ I xs W'
  | _, _, _ => False
theorem wp_rangeM {α : Type} {P : Program} {g : Operand} {p0 : Tmp} {assign body : Code} {Q : Exit → Act → World → Prop} {a : Act} {w : World}
    {gf : Nat} {first lb : Array Value} (hg : a.eval g = .func (.func gf) first lb) (eg : ∀ args w, (callFunc gf args).run P w = .ok (.enter gf args) w)
    {R : α → Value → World → Prop} {Kp : World → World → Prop} {xs : List α} (hit : IterM P gf (fun y => first ++ #[y] ++ lb) R Kp xs w)
    (hKt : ∀ {A B C : World}, Kp A B → Kp B C → Kp A C) (hKb : ∀ (W : World) (o o' : Obj), W.heap[w.heap.size + 1]? = some o → o.isCells = false → Kp W (W.putObj (w.heap.size + 1) o'))
    (hR : ∀ x v (W : World) (o o' : Obj), R x v W → W.heap[w.heap.size + 1]? = some o → o.isCells = false → R x v (W.putObj (w.heap.size + 1) o'))
    (I : List α → World → Prop) (hI : OwnFrom w.heap.size I) (h0 : I [] w) (a₁ : Value → Act)
    (hassign : ∀ (l : Nat) (v : Value) (W : World) (K : Act → World → Prop), K (a₁ v) W →
      assign.wpIn (Fence.wide.inRound l) 6 P (Exit.then K (fun _ _ _ => False)) { tmps := a.tmps.setIfInBounds p0 v, defers := [] } W)
    (hbody : ∀ (l : Nat) (pre : List α) (x : α) (v : Value) (W : World), pre ++ [x] <+: xs → R x v W → I pre W → body.wpIn (Fence.wide.inRound l) 6 P (postM w.heap.size Kp I (pre ++ [x]) W) (a₁ v) W)
    (hdone : ∀ (D : Nat) (W : World), w.heap.size ≤ D → I xs W → W.heap[D]? = some (.deferred (some [])) → Q .normal { a with defers := { target := .collected D, args := #[] } :: a.defers } W) :
    (Code.rangeFunc g #[p0] assign body).wp P Q a w := by
  refine (wpIn_wide (n := 8)).1 (wpIn_rangeFunc ?_)
  intro fn hfn
  let L : LoopState → Option Code → Obj := fun st pe => .loop { state := st, pending := pe, fn, tmps := a.tmps, params := #[p0], assign, body, defers := w.heap.size }
  obtain ⟨W1, hW1⟩ : ∃ W1, (w.alloc (.deferred (some []))).alloc (L .ready none) = W1 := ⟨_, rfl⟩
  have hL1 : W1.heap[w.heap.size + 1]? = some (L .ready none) := by rw [← hW1]; exact heap_new (by simp)
  have hK1 : W1.heap[w.heap.size]? = some (.deferred (some [])) := by rw [← hW1]; exact blk_alloc (heap_new rfl) _
  have hz1 : W1.heap.size = w.heap.size + 2 := by rw [← hW1]; simp
  have hb1 : Below w.heap.size w W1 := by rw [← hW1]; exact below_alloc (below_alloc (Below.refl _ _) _) _
  have hI1 : I [] W1 := by rw [← hW1]; exact hI.alloc _ (hI.alloc _ h0)
  refine ⟨w.heap.size + 1, [{ target := .collected w.heap.size, args := #[] }], W1, { target := .fn (.func gf) lb, args := first ++ #[.func (.yield (w.heap.size + 1)) #[] #[]] }, W1, gf,
    first ++ #[.func (.yield (w.heap.size + 1)) #[] #[]] ++ lb, W1, ?_, ?_, fun _ _ => trivial, ?_, fun _ => by decide, ?_⟩
  · rw [← hW1]; exact run_enterLoop_outer _ _ _ _ _
  · simp only [resolve, hg]
    simp [go_sem]
  · simp [invoke, go_sem, eg]
  · refine callsIn_wide.2 ((hit (w.heap.size + 1)
      (fun pre W => I pre W ∧ W.heap[w.heap.size + 1]? = some (L .ready none) ∧ W.heap[w.heap.size]? = some (.deferred (some [])))
      W1 hb1 (by omega) ?_ ?_ ⟨hI1, hL1, hK1⟩).mono ?_)
    · rintro s A A' row ⟨hi, hl, hk⟩ hg' hr
      have hr' : ∀ r, row = some r → w.heap.size ≤ r ∧ ∃ o : Obj, A.heap[r]? = some o ∧ o.isCells = false := fun r e => ⟨by have := (hr r e).1; omega, (hr r e).2⟩
      exact ⟨hI s A A' row hi hg' hr', (hg'.block _ (blk_lt hl) (fun e => by have := (hr _ e.symm).1; omega)).trans hl, (hg'.block _ (blk_lt hk) (fun e => by have := (hr _ e.symm).1; omega)).trans hk⟩
    · rintro m pre x v W hpre hRx ⟨hi, hl, hk⟩
      refine YieldAt.anyDepth rfl (m := 6) m ?_
      have hry := run_yield (P := P) (args := #[v]) hl rfl
      rw [show (#[p0].zip #[v]).foldl (fun t (p, v) => t.setIfInBounds p v) a.tmps = a.tmps.setIfInBounds p0 v from by simp] at hry
      refine ⟨fn, _, assign, body, hry, roundIn_of_wpIn hfn (hassign _ v W _ ?_)⟩
      refine ⟨_, run_beginRound hl rfl, ?_⟩
      obtain ⟨Wb, hWb⟩ : ∃ Wb, W.putObj (w.heap.size + 1) (L .busy none) = Wb := ⟨_, rfl⟩
      have hl2 : Wb.heap[w.heap.size + 1]? = some (L .busy none) := by rw [← hWb]; exact World.putObj_heap_same (blk_lt hl)
      have hk2 : Wb.heap[w.heap.size]? = some (.deferred (some [])) := by rw [← hWb]; exact (World.putObj_heap_other (by omega)).trans hk
      have hkc : Kp W Wb := by rw [← hWb]; exact hKb _ _ _ hl rfl
      have hib : I pre Wb := by rw [← hWb]; exact hI.putObj _ hi (by omega) hl rfl
      have hRb : R x v Wb := by rw [← hWb]; exact hR _ _ _ _ _ hRx hl rfl
      show body.wpIn (Fence.wide.inRound (w.heap.size + 1)) 6 P _ _ (W.putObj (w.heap.size + 1) (L .busy none))
      rw [hWb]
      refine wpIn_mono (hbody _ pre x v Wb hpre hRb hib) ?_
      have fin : ∀ (jump : Option Code) (W3 : World), KeepsFrom w.heap.size Wb W3 →
          (Instr.endRound (w.heap.size + 1) jump).run P W3 = .ok (.bool jump.isNone) (W3.putObj (w.heap.size + 1) (L (if jump.isNone then .ready else .done) jump)) ∧
          W3.heap[w.heap.size + 1]? = some (L .busy none) ∧
          (W3.putObj (w.heap.size + 1) (L (if jump.isNone then .ready else .done) jump)).heap[w.heap.size + 1]? = some (L (if jump.isNone then .ready else .done) jump) ∧
          (W3.putObj (w.heap.size + 1) (L (if jump.isNone then .ready else .done) jump)).heap[w.heap.size]? = some (.deferred (some [])) := fun jump W3 hk3 => by
        have hl3 := hk3.same _ _ (by omega) hl2 rfl
        exact ⟨run_endRound (P := P) jump hl3, hl3, World.putObj_heap_same (blk_lt hl3), (World.putObj_heap_other (by omega)).trans (hk3.same _ _ (Nat.le_refl _) hk2 rfl)⟩
      rintro e a3 W3 hp
      cases e with
      | normal =>
        obtain ⟨hk3, hkp3, hi3⟩ := hp
        obtain ⟨hr, hl3, hl4, hk4⟩ := fin none W3 hk3
        exact ⟨_, _, hr, rfl, ⟨hI.putObj _ hi3 (by omega) hl3 rfl, hl4, hk4⟩, hKt hkc (hKt hkp3 (hKb _ _ _ hl3 rfl))⟩
      | ret => exact hp.elim
      | exit id => exact hp.elim
      | goto t => exact hp.elim
      | panic ch => exact hp.elim
      | outgrown => exact hp.elim
    · rintro e W2 ⟨⟨v, rfl⟩, hi, hl, hk⟩
      exact ⟨none, _, run_endLoop (P := P) hl (fun h => by cases h), hdone _ _ (Nat.le_refl _) (hI.putObj _ hi (by omega) hl rfl) ((World.putObj_heap_other (by omega)).trans hk)⟩
end Go.Proofs.Ytgegjhgifeobdaa


namespace Go.Proofs.Ytgegjhgifeobdaa
set_option linter.unusedSimpArgs false
set_option linter.unusedVariables false
open Go.RowKit Go.Lib Go.Proofs.YtgegjhgifeobdaaW.PrintWords
attribute [local go_sem] Oper.semAt_some

set_option maxHeartbeats 1000000 in
theorem insertion_nilI (w : World) : Calls Try.prog 63 #[.slice none 0 0, .int .i64 0, .int .i64 0] w fun e w' => e = .returned (.tuple #[]) ∧ w' = w := by
  go_enter Try.func63, Try.ntmps63
  go_wp2
  go_loopw [6] (fun i wr => wr = w ∧ i = .int .i64 1) (fun i _ => 0)
  case atStart => exact ⟨rfl, rfl⟩
  case round =>
    obtain ⟨rfl, rfl⟩ := hrel
    go_wp2
    go_end0
    exact ⟨rfl, rfl⟩
set_option maxHeartbeats 2000000 in
set_option maxRecDepth 100000 in
theorem len64_anyI (x : Nat) (hx : x ≤ 12) (w : World) : Calls Try.prog 73 #[.int .u64 x] w fun e w' => (∃ r : Int, e = .returned (.int .i64 r)) ∧ w' = w := by
  rcases (show x = 0 ∨ x = 1 ∨ x = 2 ∨ x = 3 ∨ x = 4 ∨ x = 5 ∨ x = 6 ∨ x = 7 ∨ x = 8 ∨ x = 9 ∨ x = 10 ∨ x = 11 ∨ x = 12 by omega) with rfl | rfl | rfl | rfl | rfl | rfl | rfl | rfl | rfl | rfl | rfl | rfl | rfl
  all_goals
    go_enter Try.func73, Try.ntmps73
    go_wp2
    go_ret
    exact ⟨⟨_, rfl⟩, rfl⟩
set_option maxHeartbeats 1000000 in
theorem len_anyI (x : Nat) (hx : x ≤ 12) (w : World) : Calls Try.prog 60 #[.int .u64 x] w fun e w' => (∃ r : Int, e = .returned (.int .i64 r)) ∧ w' = w := by
  go_enter Try.func60, Try.ntmps60
  go_wp2_with (go_at_call 73; refine (len64_anyI _ hx _).mono ?_; rintro e w' ⟨⟨r, rfl⟩, rfl⟩)
  go_ret
  exact ⟨⟨_, rfl⟩, rfl⟩
set_option maxHeartbeats 2000000 in
set_option maxRecDepth 100000 in
theorem pdq_anyI (base g cap : Nat) (bs : List Nat) (lim : Int) (w : World) (ho : w.ownsRow base 3 1 (.slice (some ⟨g, 0, none⟩) bs.length cap) bs.length (nums .i64 (il bs))) (hn : bs.length ≤ 12) :
    Calls Try.prog 59 #[.slice (some ⟨g, 0, none⟩) bs.length cap, .int .i64 0, .int .i64 bs.length, .int .i64 lim] w fun e w' =>
      e = .returned (.tuple #[]) ∧ w'.ownsRow base 3 1 (.slice (some ⟨g, 0, none⟩) bs.length cap) bs.length (nums .i64 (il (sortedL bs))) ∧ w.grownBy w' (some g) := by
  have HI := hid (insertion_anyI base g cap bs w ho hn)
  clear ho
  generalize bs.length = n at *
  go_enter Try.func59, Try.ntmps59
  go_wp2
  go_loopw [1, 2] (fun a b wr => wr = w ∧ a = .int .i64 0 ∧ b = .int .i64 n) (fun _ _ _ => 0)
  case atStart => exact ⟨rfl, rfl, rfl⟩
  case round =>
    obtain ⟨rfl, rfl, rfl⟩ := hrel
    go_wp2_with (go_at_call 63; refine HI.out.mono ?_; rintro e w' ⟨rfl, ho', hg'⟩)
    exact bodyPost_ret (v := .tuple #[]) (by simp [results, Try.results59, go_sem]) rfl ⟨rfl, ho', hg'⟩
set_option maxHeartbeats 1000000 in
set_option maxRecDepth 100000 in
theorem pdq_nilI (lim : Int) (w : World) :
    Calls Try.prog 59 #[.slice none 0 0, .int .i64 0, .int .i64 0, .int .i64 lim] w fun e w' => e = .returned (.tuple #[]) ∧ w' = w := by
  go_enter Try.func59, Try.ntmps59
  go_wp2
  go_loopw [1, 2] (fun a b wr => wr = w ∧ a = .int .i64 0 ∧ b = .int .i64 0) (fun _ _ _ => 0)
  case atStart => exact ⟨rfl, rfl, rfl⟩
  case round =>
    obtain ⟨rfl, rfl, rfl⟩ := hrel
    go_wp2_with (go_at_call 63; refine (insertion_nilI _).mono ?_; rintro e w' ⟨rfl, rfl⟩)
    exact bodyPost_ret (v := .tuple #[]) (by simp [results, Try.results59, go_sem]) rfl ⟨rfl, rfl⟩
set_option maxHeartbeats 1000000 in
theorem sort_someI (base g cap : Nat) (bs : List Nat) (w : World) (ho : w.ownsRow base 3 1 (.slice (some ⟨g, 0, none⟩) bs.length cap) bs.length (nums .i64 (il bs))) (hn : bs.length ≤ 12) :
    Calls Try.prog 49 #[.slice (some ⟨g, 0, none⟩) bs.length cap] w fun e w' =>
      e = .returned (.tuple #[]) ∧ w'.ownsRow base 3 1 (.slice (some ⟨g, 0, none⟩) bs.length cap) bs.length (nums .i64 (il (sortedL bs))) ∧ w.grownBy w' (some g) := by
  have HI := hid (fun lim => pdq_anyI base g cap bs lim w ho hn)
  clear ho
  generalize bs.length = n at *
  have hw : IntKind.u64.wrap (n : Int) = (n : Int) := wrapU_nat (by omega)
  go_enter Try.func49, Try.ntmps49
  go_wp2_with (first
    | (go_at_call 60; refine (len_anyI n hn _).mono ?_; rintro e w' ⟨⟨r, rfl⟩, rfl⟩)
    | (go_at_call 59; refine (HI.out _).mono ?_; rintro e w' ⟨rfl, ho', hg'⟩))
  go_end0
  exact ⟨rfl, ho', hg'⟩
set_option maxHeartbeats 1000000 in
theorem sort_nilI (w : World) : Calls Try.prog 49 #[.slice none 0 0] w fun e w' => e = .returned (.tuple #[]) ∧ w' = w := by
  go_enter Try.func49, Try.ntmps49
  go_wp2_with (first
    | (go_at_call 60; refine (len_anyI 0 (by omega) _).mono ?_; rintro e w' ⟨⟨r, rfl⟩, rfl⟩)
    | (go_at_call 59; refine (pdq_nilI _ _).mono ?_; rintro e w' ⟨rfl, rfl⟩))
  go_end0
  exact ⟨rfl, rfl⟩
/-- slices.Sort on a row of the call's own, of at most 12 elements. -/
theorem sort_anyI (base : Nat) (v : Value) (bs : List Nat) (w : World) (ho : w.ownsRow base 3 1 v bs.length (nums .i64 (il bs))) (hn : bs.length ≤ 12) :
    Calls Try.prog 49 #[v] w fun e w' =>
      e = .returned (.tuple #[]) ∧ w'.ownsRow base 3 1 v bs.length (nums .i64 (il (sortedL bs))) ∧ w.grownBy w' v.ownBlock := by
  have ho' := ho
  rcases ho.2 with ⟨e1, h0⟩ | ⟨g, cap, cur, e1, _⟩
  · have hb : bs = [] := by
      have := h0; simp [nums, il] at this
      exact List.eq_nil_of_length_eq_zero (by simpa using this)
    subst hb
    subst e1
    exact (sort_nilI w).mono fun e w' ⟨h1, h2⟩ => ⟨h1, by rw [h2]; exact ho', by rw [h2]; exact World.grownBy.refl _ _⟩
  · subst e1
    exact sort_someI base g cap bs w ho' hn
end Go.Proofs.Ytgegjhgifeobdaa


namespace Go.Proofs.Ytgegjhgifeobdaa
set_option linter.unusedSimpArgs false
set_option linter.unusedVariables false
open Go.RowKit Go.Lib Go.Shelf Go.Proofs.YtgegjhgifeobdaaW.PrintWords
attribute [local go_sem] Oper.semAt_some

theorem index_any (A : Option Addr) (c : Nat) (xs : List Int) (y : Int) (w : World) (hC : IC w A xs.length xs) (hl : xs.length < 2 ^ 40) :
    Calls Try.prog 53 #[.slice A xs.length c, .int .i64 y] w fun e w' =>
      ∃ r : Int, e = .returned (.int .i64 r) ∧ w' = w ∧ decide (0 ≤ r) = decide (y ∈ xs) := by
  go_enter Try.func53, Try.ntmps53
  go_wp2
  go_loopw [5, 8] (fun _ i wr => ∃ k : Nat, k ≤ xs.length ∧ i = .int .i64 k ∧ wr = w ∧ Hid (y ∉ xs.take k)) (fun _ i _ => xs.length - (intOf i).toNat)
  case atStart => exact ⟨0, by omega, rfl, by first | rfl | trivial, (show _ ∉ _ from by simp)⟩
  case round =>
    obtain ⟨k, hk, rfl, rfl, HG⟩ := hrel
    by_cases hlt : k < xs.length
    · obtain ⟨ad, x, rfl, hcx, HX⟩ := IC.at_ hC hlt
      by_cases hyx : y = x
      · have hq : (y == x) = true := by simp [hyx]
        have HF : Hid (decide ((0 : Int) ≤ k) = decide (y ∈ xs)) := (show _ = _ from by
          rw [decide_eq_true (show (0 : Int) ≤ k by omega), decide_eq_true (show y ∈ xs from hyx ▸ List.mem_of_getElem? HX.out.1)])
        clear hyx
        go_wp2
        go_ret
        exact ⟨k, rfl, by first | rfl | trivial, HF.out⟩
      · have hq : (y == x) = false := by simp [hyx]
        have HY := hid hyx
        clear hyx
        go_wp2
        go_roundw
        case rel =>
          refine ⟨k + 1, by omega, by go_num, by first | rfl | trivial, (show _ ∉ _ from fun hy => ?_)⟩
          rw [List.take_add_one, HX.out.1] at hy
          rcases List.mem_append.1 hy with h | h
          · exact HG.out h
          · exact HY.out (by simpa using h)
        case measure => simp [intOf]; omega
    · obtain rfl : k = xs.length := by omega
      have HF : Hid (decide ((0 : Int) ≤ -1) = decide (y ∈ xs)) := (show _ = _ from by
        have := HG.out
        rw [List.take_length] at this
        rw [decide_eq_false this]; decide)
      go_wp2
      go_ret
      exact ⟨-1, rfl, by first | rfl | trivial, HF.out⟩
theorem contains_any (A : Option Addr) (c : Nat) (xs : List Int) (y : Int) (w : World) (hC : IC w A xs.length xs) (hl : xs.length < 2 ^ 40) :
    Calls Try.prog 36 #[.slice A xs.length c, .int .i64 y] w fun e w' => e = .returned (.bool (decide (y ∈ xs))) ∧ w' = w := by
  have HX := hid (index_any A c xs y w hC hl)
  clear hC
  go_enter Try.func36, Try.ntmps36
  go_wp2_with (go_at_call 53; refine HX.out.mono ?_; rintro e w' ⟨r, rfl, rfl, hr⟩; replace hr := hid hr)
  go_ret
  exact ⟨ret_bool hr.out, rfl⟩
/-- The order in which blocks take blocks: the done ones, sorted; then the others. -/
def queueN (n : Nat) (ds : List Nat) : List Nat := sortedL ds ++ (List.range n).filter fun i => !decide (i ∈ ds)
theorem il_mem {ds : List Nat} {k : Nat} : (k : Int) ∈ il ds ↔ k ∈ ds := by
  unfold il
  rw [List.mem_map]
  exact ⟨fun ⟨a, ha, e⟩ => by rw [← Int.ofNat.inj e]; exact ha, fun h => ⟨k, h, rfl⟩⟩
set_option maxHeartbeats 2000000 in
set_option maxRecDepth 100000 in
theorem queue_any (V : Value) (A : Option Addr) (cA : Nat) (n : Nat) (D : Option Addr) (cd : Nat) (ds : List Nat) (w : World) (hV : V.oneCell' = true) (hD : IC w D ds.length (il ds)) (hdn : ds.length ≤ n) (hd12 : ds.length ≤ 12) (hn : n ≤ 2 ^ 20) :
    Calls Try.prog 31 #[.agg #[V, .slice A n cA], .slice D ds.length cd] w fun e w' =>
      ∃ v, e = .returned v ∧ w'.ownsRow w.heap.size 3 1 v (queueN n ds).length (nums .i64 (il (queueN n ds))) ∧ Below w.heap.size w w' := by
  obtain ⟨i0, hi0, hz0, hz1, hz2⟩ := info_parts infoI
  have hmk0 := fun W : World => run_makeSlice (P := Try.prog) (w := W) 32 3 i0 _ Try.underlying32 hi0 hz0 .i64 .i64 (ds.length : Int) (n : Int) (by omega) (by omega) (by rw [hz1]; simp; omega) (by rw [hz2]; omega) (by omega)
  have hmk : ∀ W : World, (Instr.makeSlice 32 (.int .i64 (ds.length : Int)) (.int .i64 (n : Int))).run Try.prog W = .ok (.slice (some ⟨W.heap.size, 0, none⟩) ds.length n) (W.alloc (.cells (madeCells #[.int .i64 0] n) 3)) := by
    intro W
    have := hmk0 W
    rw [hz1, Nat.mul_one] at this
    exact this
  clear hmk0
  have hsz : (Try.prog.info? 3).map (·.size) = some 1 := by rw [hi0]; simp [hz1]
  have hui := Try.underlying29
  go_enter Try.func31, Try.ntmps31
  go_upto_region 2 with (fail)
  obtain ⟨w1, hw1⟩ : ∃ w1, (w.alloc (.cells #[V, .slice A n cA] 29)).alloc (.cells (madeCells #[.int .i64 0] n) 3) = w1 := ⟨_, rfl⟩
  have hBl : Blk w1 w.heap.size 29 #[V, .slice A n cA] := by rw [← hw1]; exact (Blk.new _ _ _).alloc _
  have hBm : Blk w1 (w.heap.size + 1) 3 (madeCells #[.int .i64 0] n) := by rw [← hw1]; exact heap_new (by simp)
  have hb1 : Below w.heap.size w w1 := by rw [← hw1]; exact below_alloc (below_alloc (Below.refl _ _) _) _
  have hz1s : w1.heap.size = w.heap.size + 2 := by rw [← hw1]; simp
  rw [hw1]
  clear hw1 hmk
  have hCP : Hid (∀ w3 : World, w3.heap[w.heap.size + 1]? = some (.cells (splice (madeCells #[Value.int .i64 0] n).toList 0 (nums .i64 (il ds))).toArray 3 (0, 0)) →
      w3.ownsRow (w.heap.size + 1) 3 1 (.slice (some ⟨w.heap.size + 1, 0, none⟩) ds.length n) ds.length (nums .i64 (il ds))) := (show ∀ w3, _ from fun w3 h => by
    have hsz2 : (madeCells #[Value.int .i64 0] n).size = n := by simp [size_madeCells]
    refine ⟨by simp [nums, il], .inr ⟨w.heap.size + 1, n, _, rfl, Nat.le_refl _, h, hdn, by simp only [maxLen]; omega, ?_, ?_⟩⟩
    · simp [splice, nums, il, hsz2]; omega
    · simp [splice, nums, il])
  obtain ⟨w3, hcp, hh3, hb3⟩ : ∃ w3 : World, (∀ ty : TypeId, (Builtin.copy_ #[32, 32] ty #[.slice (some ⟨w.heap.size + 1, 0, none⟩) ds.length n, .slice D ds.length cd]).run Try.prog w1 = .ok (.int .i64 ds.length) w3) ∧
      w3.heap[w.heap.size + 1]? = some (.cells (splice (madeCells #[Value.int .i64 0] n).toList 0 (nums .i64 (il ds))).toArray 3 (0, 0)) ∧ Below (w.heap.size + 1) w1 w3 := by
    rcases Nat.eq_zero_or_pos ds.length with h0 | h0
    · obtain rfl : ds = [] := List.eq_nil_of_length_eq_zero h0
      exact ⟨w1, fun ty => run_copy_none w1 _ _ ty 3 _ _ _ _ _ _ Try.underlying32 hsz (by simp), by simpa [splice, nums, il, Blk] using hBm, Below.refl _ _⟩
    · have hR := Reads.of_C (Kd.C_below hD hb1 : IC w1 D ds.length (il ds))
      obtain ⟨ad, u, rfl, -, -, -⟩ := hR.at_ h0
      have hrun := fun ty => run_copy_row (P := Try.prog) w1 32 32 ty 3 (w.heap.size + 1) 0 ds.length n ad ds.length cd (madeCells #[Value.int .i64 0] n) 3 (nums .i64 (il ds)) Try.underlying32 hsz hBm (by simp [nums, il])
        (fun j v hj => by
          obtain ⟨ad', u, e, -, hu, hc⟩ := hR.at_ (k := j) (by have := (List.getElem?_eq_some_iff.1 hj).1; simpa [nums, il] using this)
          cases e
          rw [hj] at hu; cases hu; exact hc)
        (by simp [nums, il, size_madeCells]; omega) (nums_one _ _)
      refine ⟨w1.setRow (w.heap.size + 1) ((madeCells #[Value.int .i64 0] n).toList.take 0 ++ nums .i64 (il ds) ++ (madeCells #[Value.int .i64 0] n).toList.drop (0 + (nums .i64 (il ds)).length)).toArray, fun ty => ?_, ?_, below_setRow (Below.refl _ _) (Nat.le_refl _) _⟩
      · have := hrun ty
        rw [show goInt (nums IntKind.i64 (il ds)).length = Value.int .i64 ds.length by simp [goInt, nums, il]] at this
        exact this
      · refine (setRow_heap w1 (w.heap.size + 1) _ _ 3 (0, 0) hBm).trans ?_
        simp [splice]
  have HO3 := hid (hCP.out w3 hh3)
  clear hh3 hBm
  have hBl3 : Blk w3 w.heap.size 29 #[V, .slice A n cA] := hBl.below hb3 (by omega)
  have hb30 := hb1.trans (hb3.mono (Nat.le_succ _))
  have hz3 := Nat.le_trans (Nat.le_of_eq hz1s.symm) hb3.size
  clear hb3 hBl hb1
  have hus := Try.underlying32
  go_wp2_with (go_at_call 49; refine (sort_anyI (w.heap.size + 1) _ ds w3 HO3.out hd12).mono ?_; rintro e w4 ⟨rfl, ho4, hg4⟩; have HO4 := hid ho4; clear ho4; have hBl4 := hBl3.grown hg4 (by intro e; injection e with e; simp at e); have hc4 : w4.cell? ⟨w.heap.size, 1, none⟩ = some (.slice A n cA) := by rw [hBl4.cell 1]; rfl)
  have hb4 : Below w.heap.size w w4 := hb30.grown hg4 (by omega) (fun r hr => by simp [Value.ownBlock] at hr; omega)
  have hz4 := Nat.le_trans hz3 hg4.size
  clear hb30 hz3 hBl3 hg4 HO3 hcp hc4 hBl4
  go_loopw [5, 6, 21] (fun v _ i wr => ∃ (k : Nat) (T : List Nat) (vv : Value), k ≤ n ∧ v = vv ∧ i = .int .i64 k ∧ Hid (T = sortedL ds ++ (List.range k).filter fun i => !decide (i ∈ ds)) ∧ Hid (wr.ownsRow (w.heap.size + 1) 3 1 vv T.length (nums .i64 (il T))) ∧ Below w.heap.size w wr ∧ w.heap.size + 1 ≤ wr.heap.size) (fun _ _ i _ => n - (intOf i).toNat)
  case atStart => exact ⟨0, sortedL ds, _, by omega, rfl, rfl, (show _ = _ by simp), (show World.ownsRow _ _ _ _ _ _ _ by rw [sortedL_length]; exact HO4.out), hb4, by omega⟩
  case round =>
    clear hb4 hz4 HO4
    obtain ⟨k, T, v, hk, hv, rfl, HT, HO, hb, hz⟩ := hrel
    have hv := hv.symm
    subst hv
    have hTl : T.length ≤ ds.length + k := by
      rw [HT.out, List.length_append, sortedL_length]
      have := List.length_filter_le (fun i => !decide (i ∈ ds)) (List.range k)
      rw [List.length_range] at this
      omega
    by_cases hlt : k < n
    · have hCo := contains_any D cd (il ds) (k : Int) wr (by rw [il_length]; exact Kd.C_below hD hb) (by rw [il_length]; omega)
      rw [il_length] at hCo
      have HCo := hid hCo
      clear hCo
      have hrs : List.range (k + 1) = List.range k ++ [k] := List.range_succ
      by_cases hin : k ∈ ds
      · have hq : decide ((k : Int) ∈ il ds) = true := by simpa using il_mem.2 hin
        have HT1 : Hid (T = sortedL ds ++ (List.range (k + 1)).filter fun i => !decide (i ∈ ds)) := (show _ = _ by rw [hrs, List.filter_append, HT.out]; simp [hin])
        rw [hq] at HCo
        clear hin hq hrs
        go_wp2_with (go_at_call 36; refine HCo.out.mono ?_; rintro e w' ⟨rfl, rfl⟩)
        go_roundw
        case rel => exact ⟨k + 1, T, v, by omega, rfl, by go_num, HT1, HO, hb, hz⟩
        case measure => simp [intOf]; omega
      · have hq : decide ((k : Int) ∈ il ds) = false := by simpa using fun h => hin (il_mem.1 h)
        have HT1 : Hid (T ++ [k] = sortedL ds ++ (List.range (k + 1)).filter fun i => !decide (i ∈ ds)) := (show _ = _ by rw [hrs, List.filter_append, HT.out]; simp [hin])
        rw [hq] at HCo
        clear hin hq hrs
        have HO1 : Hid (wr.ownsRow (w.heap.size + 1) 3 1 v (il T).length (nums .i64 (il T))) := (show World.ownsRow _ _ _ _ _ _ _ by rw [il_length]; exact HO.out)
        go_wp2_with (first
          | (go_at_call 36; refine HCo.out.mono ?_; rintro e w' ⟨rfl, rfl⟩)
          | (at_builtin; refine print_append_num (w.heap.size + 1) rfl (.tmp 28) (.tmp 30) _ _ .i64 8 rfl hus infoI (by decide) v (il T) (k : Int) (by simp [Act.eval]) (by simp [Act.eval]) HO1.out (Below.refl _ _) hz (by rw [il_length]; omega) ?_; intro v1 w1 hown1 hbx hg1 hat1; clear hbx; have HOn := hid hown1; clear hown1))
        go_roundw
        case rel =>
          refine ⟨k + 1, T ++ [k], v1, by omega, rfl, by go_num, HT1, (show World.ownsRow _ _ _ _ _ _ _ from ?_), hb.grown hg1 (by omega) (fun r hr => ?_), Nat.le_trans hz hg1.size⟩
          · have := HOn.out
            rw [show il (T ++ [k]) = il T ++ [(k : Int)] by simp [il], show (T ++ [k]).length = (il T ++ [(k : Int)]).length by simp [il_length]]
            exact this
          · have := own_base HO.out r hr; omega
        case measure => simp [intOf]; omega
    · obtain rfl : k = n := by omega
      go_wp2
      go_ret
      exact ⟨v, rfl, by rw [queueN, ← HT.out]; exact own_less HO.out (Nat.le_succ _), hb⟩
end Go.Proofs.Ytgegjhgifeobdaa


namespace Go.Proofs.Ytgegjhgifeobdaa
set_option linter.unusedSimpArgs false
set_option linter.unusedVariables false
open Go.RowKit Go.Lib Go.Shelf Go.Proofs.YtgegjhgifeobdaaW.PrintWords

section
variable {F : Fence} {n : Nat} {P : Program} {ops : Array Oper} {md : Region.Mode} {Q : Exit → Act → World → Prop}

def listedOf (listed : Array Bool) (i : Nat) : Bool := listed.getD i false
def put1 (L : Nat → Bool) (i : Nat) : Nat → Bool := fun j => j == i || L j
theorem listedOf_set {listed : Array Bool} {i : Nat} (h : i < listed.size) : listedOf (listed.setIfInBounds i true) = put1 (listedOf listed) i := by
  funext j
  unfold listedOf put1
  by_cases hij : i = j
  · subst hij; simp [h]
  · have : (j == i) = false := by simp; omega
    rw [getD_set_ne false hij, this]; rfl

theorem countP_put1 {L : Nat → Bool} {i : Nat} : ∀ (l : List Nat), i ∈ l → L i = false → l.countP (fun j => !put1 L i j) + 1 ≤ l.countP (fun j => !L j) := by
  intro l
  induction l with
  | nil => intro h; cases h
  | cons x r ih =>
    intro h hL
    by_cases hx : x = i
    · subst hx
      have hle : r.countP (fun j => !put1 L x j) ≤ r.countP (fun j => !L j) := List.countP_mono_left (fun j _ hj => by
        simp only [put1, Bool.not_or, Bool.and_eq_true] at hj
        exact hj.2)
      simp [List.countP_cons, put1, hL] at hle ⊢
      simpa [put1] using hle
    · have hr : i ∈ r := by
        rcases List.mem_cons.1 h with h | h
        · exact absurd h.symm hx
        · exact h
      have := ih hr hL
      have hb : (x == i) = false := by simp [hx]
      simp only [List.countP_cons, put1, hb, Bool.false_or] at this ⊢
      omega
theorem wpAnyIn_inv (Inv : (Nat → Bool) → Act → World → Prop)
    (acyc : ∀ (i : Nat) (o : Oper), ops[i]? = some o → ∀ e ∈ o.after, e.on < i)
    (step : ∀ (i : Nat) (o : Oper) (L : Nat → Bool) (a : Act) (w : World), ops[i]? = some o → L i = false → (∀ e ∈ o.after, Region.binds md e = true → L e.on = true) → Inv L a w →
      ∀ K : Act → World → Prop, (∀ a' w', Inv (put1 L i) a' w' → K a' w') → if Region.wanted o (yielded ops a.tmps) = true then Oper.wpIn F n P o a w K Q else (∀ f, o.about P w a.eval = some f → F.fn f) ∧ K (a.put o.dst undef) w)
    (done : ∀ L a w, (∀ i < ops.size, L i = true) → Inv L a w → Q .normal a w) :
    ∀ (fuel : Nat) (listed : Array Bool) (a : Act) (w : World), listed.size = ops.size → (List.range ops.size).countP (fun i => !listedOf listed i) ≤ fuel → Inv (listedOf listed) a w → wpAnyIn F n P md ops Q fuel listed a w := by
  have allIn : ∀ listed : Array Bool, listed.size = ops.size → Region.ready md ops listed = [] → ∀ i < ops.size, listedOf listed i = true := by
    intro listed hs hr i
    induction i using Nat.strongRecOn with
    | _ i ih =>
      intro hi
      cases hl : listedOf listed i
      · exfalso
        have : i ∈ Region.ready md ops listed := by
          rw [mem_ready]
          refine ⟨getD_in (by omega) hl, ops[i], by simp [hi], fun e he _ => ?_⟩
          have h1 := acyc i ops[i] (by simp [hi]) e he
          exact ih e.on h1 (by omega)
        rw [hr] at this
        cases this
      · rfl
  intro fuel
  induction fuel with
  | zero =>
    intro listed a w hs hc hi
    have h0 : ∀ i < ops.size, listedOf listed i = true := by
      intro i hi
      have := List.countP_eq_zero.1 (Nat.le_zero.1 hc) i (List.mem_range.2 hi)
      simpa using this
    refine ⟨?_, done _ _ _ h0 hi⟩
    rw [List.eq_nil_iff_forall_not_mem]
    intro j hj
    rw [mem_ready] at hj
    obtain ⟨h1, o, ho, _⟩ := hj
    have hlt : j < ops.size := (Array.getElem?_eq_some_iff.1 ho).1
    have := h0 j hlt
    have h2 := getD_both h1
    rw [listedOf, h2] at this
    cases this
  | succ fuel ih =>
    intro listed a w hs hc hi
    refine ⟨fun hr => done _ _ _ (allIn listed hs hr) hi, fun i hir => ?_⟩
    obtain ⟨h1, o, ho, hall⟩ := mem_ready.1 hir
    have hlt : i < ops.size := (Array.getElem?_eq_some_iff.1 ho).1
    refine wpOpIn_step ho (fun K hK => step i o (listedOf listed) a w ho (getD_both h1) hall hi K (fun a' w' h' => hK a' w' (ih _ a' w' (by simp [hs]) ?_ ?_)))
    · have h3 : listedOf listed i = false := getD_both h1
      have : (List.range ops.size).countP (fun j => !listedOf (listed.setIfInBounds i true) j) + 1 ≤ (List.range ops.size).countP (fun j => !listedOf listed j) := by
        rw [listedOf_set (by omega)]
        exact countP_put1 _ (List.mem_range.2 hlt) h3
      omega
    · rw [listedOf_set (by omega)]; exact h'

theorem wpIn_region_inv {id : Nat} {a : Act} {w : World} (hm : P.follows .mixedOrders = true) (Inv : (Nat → Bool) → Act → World → Prop)
    (acyc : ∀ (i : Nat) (o : Oper), ops[i]? = some o → ∀ e ∈ o.after, e.on < i)
    (h0 : Inv (fun _ => false) a w.drew)
    (step : ∀ (i : Nat) (o : Oper) (L : Nat → Bool) (a : Act) (w : World), ops[i]? = some o → L i = false → (∀ e ∈ o.after, Region.binds .any e = true → L e.on = true) → Inv L a w →
      ∀ K : Act → World → Prop, (∀ a' w', Inv (put1 L i) a' w' → K a' w') → if Region.wanted o (yielded ops a.tmps) = true then Oper.wpIn F n P o a w K Q else (∀ f, o.about P w a.eval = some f → F.fn f) ∧ K (a.put o.dst undef) w)
    (done : ∀ L a w, (∀ i < ops.size, L i = true) → Inv L a w → Q .normal a w) : (Code.region id ops true).wpIn F n P Q a w := by
  refine wpIn_region_any hm (wpAnyIn_inv Inv acyc step done ops.size _ a _ (by simp) ?_ ?_)
  · exact Nat.le_trans (List.countP_le_length) (by simp)
  · have : listedOf (Array.replicate ops.size false) = fun _ => false := by funext j; exact getD_replicate_false _ _
    rw [this]; exact h0
end
/-- Each operation waits for earlier ones alone. -/
def acycOk (ops : Array Oper) : Bool := (List.range ops.size).all fun i => match ops[i]? with | some o => o.after.toList.all fun e => decide (e.on < i) | none => true
theorem acyc_of {ops : Array Oper} (h : acycOk ops = true) (i : Nat) (o : Oper) (ho : ops[i]? = some o) : ∀ e ∈ o.after, e.on < i := by
  have hi : i < ops.size := (Array.getElem?_eq_some_iff.1 ho).1
  have h1 := List.all_eq_true.1 h i (List.mem_range.2 hi)
  rw [ho] at h1
  intro e he
  exact of_decide_eq_true (List.all_eq_true.1 h1 e (Array.mem_toList_iff.2 he))
end Go.Proofs.Ytgegjhgifeobdaa


namespace Go.Proofs.Ytgegjhgifeobdaa
set_option linter.unusedSimpArgs false
set_option linter.unusedVariables false
open Go.RowKit Go.Lib Go.Shelf Go.Proofs.YtgegjhgifeobdaaW.PrintWords
attribute [local go_sem] Oper.semAt_some

/-- The lists that are yielded below a list. -/
def lsL (n : Nat) : Nat → List Nat → List (List Nat)
  | 0, f => [f]
  | l + 1, f => (List.range n).flatMap fun p => if p ∈ f then [] else lsL n l (f ++ [p])
theorem lsL_mem {n : Nat} : ∀ {l : Nat} {f x : List Nat}, x ∈ lsL n l f → (∀ q ∈ f, q < n) → f.Nodup → x.length = f.length + l ∧ (∀ q ∈ x, q < n) ∧ x.Nodup
  | 0, f, x, h, hf, hd => by
    rw [lsL, List.mem_singleton] at h
    subst h
    exact ⟨rfl, hf, hd⟩
  | l + 1, f, x, h, hf, hd => by
    rw [lsL, List.mem_flatMap] at h
    obtain ⟨p, hp, h⟩ := h
    split at h
    · cases h
    · rename_i hpf
      obtain ⟨h1, h2, h3⟩ := lsL_mem h (by intro q hq; rcases List.mem_append.1 hq with hq | hq; exact hf q hq; rw [List.mem_singleton] at hq; subst hq; exact List.mem_range.1 hp) (List.nodup_append.2 ⟨hd, by simp, fun a ha b hb e => by rw [List.mem_singleton] at hb; subst hb; subst e; exact hpf ha⟩)
      exact ⟨by rw [h1, List.length_append]; simp; omega, h2, h3⟩
abbrev ROw (B : Nat) (x : List Nat) (v : Value) (W : World) : Prop := W.ownsRow B 3 1 v x.length (nums .i64 (il x))
abbrev downV (B1 B2 B3 B4 : Nat) : Value := .func (.func 56) #[] #[.pointer (some ⟨B1, 0, none⟩), .pointer (some ⟨B2, 0, none⟩), .pointer (some ⟨B3, 0, none⟩), .pointer (some ⟨B4, 0, none⟩)]
theorem operIn_app {F : Fence} {n : Nat} {P : Program} {w w' : World} {o : Oper} {a : Act} {Q : Exit → Act → World → Prop} {K : Act → World → Prop} (s x : Operand) (t : TypeId) (v1 v2 v : Value)
    (hop : o.op = .call { callee := .builtin .append, args := #[s, x], argTypes := #[t, t] }) (hs : a.eval s = v1) (hx : a.eval x = v2) (hrun : ∀ ty : TypeId, (Builtin.append_ #[t, t] ty #[v1, v2]).run P w = .ok v w')
    (hK : K (a.put o.dst v) w') : o.wpIn F n P a w K Q := by
  unfold Oper.wpIn
  refine ⟨?_, ?_⟩
  · simp [Oper.about, hop, resolve, Target.leads, Sem.run_pure]
  · rw [Oper.semAt_plain F _ _ (by rw [hop]; intro c hc'; cases hc')]
    simp [execOp, hop, resolve, invoke, builtin, hs, hx, hrun, Result.andThen]
    exact hK
theorem opt_add (A : Option Addr) : Option.map (fun x => x.add 0) A = A := by
  cases A with
  | none => rfl
  | some a => simp [Addr.add]
theorem own_cap {B : Nat} {f : List Nat} {A : Option Addr} {c : Nat} {W : World} (h : ROw B f (.slice A f.length c) W) : f.length ≤ c := by
  obtain ⟨_, _, e', h1, h2, _⟩ := own_IC h
  injection e' with _ _ e2
  omega
theorem contains_own {B : Nat} {f : List Nat} {A : Option Addr} {c : Nat} {W : World} (h : ROw B f (.slice A f.length c) W) (p : Int) (hl : f.length < 2 ^ 40) :
    Calls Try.prog 36 #[.slice A f.length c, .int .i64 p] W fun e w' => e = .returned (.bool (decide (p ∈ il f))) ∧ w' = W := by
  obtain ⟨_, _, e', _, _, hC⟩ := own_IC h
  injection e' with e1 _ e2
  subst e1 e2
  have := contains_any A c (il f) p W (by rw [il_length]; exact hC) (by rw [il_length]; omega)
  rwa [il_length] at this
set_option maxHeartbeats 1000000 in
set_option maxRecDepth 100000 in
theorem down_any (l B n k : Nat) (hn : n ≤ 16) (hk : k ≤ 16) (XS : List (List Nat)) (J : List (List Nat) → World → Prop) (hJ : ∀ s W W', J s W → W.grownBy W' none → J s W')
    (hY : ∀ m pre x v W, pre ++ [x] <+: XS → ROw B x v W → J pre W → YieldAt Fence.wide m Try.prog l #[v] W fun e W' => e = .returned (.bool true) ∧ J (pre ++ [x]) W' ∧ KC B W W')
    (B1 B2 B3 B4 : Nat) (h1 : B ≤ B1) (h2 : B ≤ B2) (h3 : B ≤ B3) (h4 : B ≤ B4) (left : Nat) :
    ∀ (f : List Nat) (v : Value) (pre : List (List Nat)) (W : World), f.length + left = k → ROw B f v W → B ≤ W.heap.size → pre ++ lsL n left f <+: XS → J pre W → W.cell? ⟨B1, 0, none⟩ = some (.int .i64 k) → W.cell? ⟨B2, 0, none⟩ = some (.func (.yield l) #[] #[]) → W.cell? ⟨B3, 0, none⟩ = some (.int .i64 n) →
      W.cell? ⟨B4, 0, none⟩ = some (downV B1 B2 B3 B4) →
      Calls Try.prog 56 #[v, .pointer (some ⟨B1, 0, none⟩), .pointer (some ⟨B2, 0, none⟩), .pointer (some ⟨B3, 0, none⟩), .pointer (some ⟨B4, 0, none⟩)] W fun e W' =>
        e = .returned (.bool true) ∧ J (pre ++ lsL n left f) W' ∧ KC B W W' := by
  induction left with
  | zero =>
    intro f v pre W hf hR hBW hpre hJ0 c1 c2 c3 c4
    obtain ⟨A, c, rfl⟩ := own_slice hR
    have hkf : k = f.length := by omega
    subst hkf
    refine (callsIn_wide (n := 3)).1 ?_
    refine callsIn_of_wp Try.func56 rfl trivial ?_ rfl
    simp only [Try.ntmps56, List.size_toArray, List.length_cons, List.length_nil, Nat.reduceAdd, Nat.reduceSub, Array.replicate_succ, Array.replicate_zero, List.push_toArray, List.append_toArray, List.nil_append, List.cons_append]
    obtain ⟨fn, tmps, assign, body, hy, hR2⟩ := hY 2 pre f _ W hpre hR hJ0
    gi_wp2
    refine hR2.mono ?_
    rintro e W' ⟨rfl, hJ', hk⟩
    gi_wp2
    go_ret
    exact ⟨rfl, hJ', hk⟩
  | succ left ih =>
    intro f v pre W hf hR hBW hpre hJ0 c1 c2 c3 c4
    obtain ⟨A, c, rfl⟩ := own_slice hR
    have hne : ((f.length : Int) == (k : Int)) = false := by rw [beq_eq_false_iff_ne]; omega
    have hfl : f.length < 16 := by omega
    have IH := fun (p : Nat) (v : Value) (pre : List (List Nat)) (W : World) => hid (ih (f ++ [p]) v pre W (by rw [List.length_append]; simp; omega))
    have HJ := hid hJ
    have HPRE := hid hpre
    have HOW := hid hR
    clear ih hJ hY hpre hR
    go_enter Try.func56, Try.ntmps56
    go_wp2
    clear hne
    go_loopw [16] (fun i wr => ∃ j : Nat, j ≤ n ∧ i = .int .i64 j ∧ Hid (J (pre ++ (List.range j).flatMap fun p => if p ∈ f then [] else lsL n left (f ++ [p])) wr) ∧ KC B W wr) (fun i _ => n - (intOf i).toNat)
    case atStart => exact ⟨0, by omega, rfl, (show J _ _ by simpa using hJ0), KC.refl _ _⟩
    case round =>
      clear hJ0
      obtain ⟨j, hj, rfl, HJw, hk1⟩ := hrel
      have c1' := hk1.cell h1 c1
      have c2' := hk1.cell h2 c2
      have c3' := hk1.cell h3 c3
      have c4' := hk1.cell h4 c4
      have hBr : B ≤ wr.heap.size := Nat.le_trans hBW hk1.1
      by_cases hlt : j < n
      · have HCo := hid (fun W' (hW' : KC B W W') => contains_own (own_KC HOW.out hW' (Nat.le_refl _)) (j : Int) (by omega))
        have hrs : List.range (j + 1) = List.range j ++ [j] := List.range_succ
        by_cases hin : j ∈ f
        · have hq : decide ((j : Int) ∈ il f) = true := by simpa using il_mem.2 hin
          have HF : Hid ((List.range (j + 1)).flatMap (fun p => if p ∈ f then [] else lsL n left (f ++ [p])) = (List.range j).flatMap fun p => if p ∈ f then [] else lsL n left (f ++ [p])) := (show _ = _ by rw [hrs, List.flatMap_append]; simp [hin])
          rw [hq] at HCo
          obtain ⟨QQ, hQQ⟩ : ∃ QQ, (pre ++ (List.range j).flatMap fun p => if p ∈ f then [] else lsL n left (f ++ [p])) = QQ := ⟨_, rfl⟩
          have HQQ := hid hQQ
          rw [hQQ] at HJw
          have HJ2 := hid (HJ.out _ _ _ HJw.out (grown_drew _))
          have hk2 : KC B W wr.drew := hk1.trans (KC.of_below (below_drew (Below.refl _ _)))
          clear hin hq hrs hQQ
          go_upto_region 6 with (fail)
          refine (wpIn_wide (n := 8)).1 ?_
          obtain ⟨vv, hvv⟩ : ∃ vv : Nat → Value, vv = fun i => (#[.slice A f.length c, .int .i64 j, .bool true, .bool false, .bool false, undef, undef, undef, undef, undef, undef, undef, undef, undef, undef, undef, undef, .bool false] : Array Value).getD i undef := ⟨_, rfl⟩
          have mk : ∀ (L : Nat → Bool) (a' : Act) (w' : World), a' = ({ tmps := #[.slice A f.length c, .pointer (some ⟨B1, 0, none⟩), .pointer (some ⟨B2, 0, none⟩), .pointer (some ⟨B3, 0, none⟩), .pointer (some ⟨B4, 0, none⟩), undef, u6, .int .i64 j, .slice A f.length c, .int .i64 f.length, .int .i64 k, .bool false, undef, undef, undef, .int .i64 n, .int .i64 j, .bool true, .int .i64 j, a'.tmps.getD (19 + 0) undef, a'.tmps.getD (19 + 1) undef, a'.tmps.getD (19 + 2) undef, a'.tmps.getD (19 + 3) undef, a'.tmps.getD (19 + 4) undef, a'.tmps.getD (19 + 5) undef, a'.tmps.getD (19 + 6) undef, a'.tmps.getD (19 + 7) undef, a'.tmps.getD (19 + 8) undef, a'.tmps.getD (19 + 9) undef, a'.tmps.getD (19 + 10) undef, a'.tmps.getD (19 + 11) undef, a'.tmps.getD (19 + 12) undef, a'.tmps.getD (19 + 13) undef, a'.tmps.getD (19 + 14) undef, a'.tmps.getD (19 + 15) undef, a'.tmps.getD (19 + 16) undef, a'.tmps.getD (19 + 17) undef, u37], defers := [] } : Act) → (∀ j < 18, L j = true → a'.tmps.getD (19 + j) undef = vv j) → (fun (L : Nat → Bool) (wz : World) => KC B W wz ∧ Hid (J QQ wz)) L w' → ∃ y : Nat → Value, a' = ({ tmps := #[.slice A f.length c, .pointer (some ⟨B1, 0, none⟩), .pointer (some ⟨B2, 0, none⟩), .pointer (some ⟨B3, 0, none⟩), .pointer (some ⟨B4, 0, none⟩), undef, u6, .int .i64 j, .slice A f.length c, .int .i64 f.length, .int .i64 k, .bool false, undef, undef, undef, .int .i64 n, .int .i64 j, .bool true, .int .i64 j, y 0, y 1, y 2, y 3, y 4, y 5, y 6, y 7, y 8, y 9, y 10, y 11, y 12, y 13, y 14, y 15, y 16, y 17, u37], defers := [] } : Act) ∧ (∀ j < 18, L j = true → y j = vv j) ∧ (fun (L : Nat → Bool) (wz : World) => KC B W wz ∧ Hid (J QQ wz)) L w' := fun L a' w' h1 h2 h3 => ⟨fun m => a'.tmps.getD (19 + m) undef, h1, h2, h3⟩
          refine wpIn_region_inv (by kernel_rfl) (fun L aI wI => ∃ y : Nat → Value, aI = ({ tmps := #[.slice A f.length c, .pointer (some ⟨B1, 0, none⟩), .pointer (some ⟨B2, 0, none⟩), .pointer (some ⟨B3, 0, none⟩), .pointer (some ⟨B4, 0, none⟩), undef, u6, .int .i64 j, .slice A f.length c, .int .i64 f.length, .int .i64 k, .bool false, undef, undef, undef, .int .i64 n, .int .i64 j, .bool true, .int .i64 j, y 0, y 1, y 2, y 3, y 4, y 5, y 6, y 7, y 8, y 9, y 10, y 11, y 12, y 13, y 14, y 15, y 16, y 17, u37], defers := [] } : Act) ∧ (∀ j < 18, L j = true → y j = vv j) ∧ (fun (L : Nat → Bool) (wz : World) => KC B W wz ∧ Hid (J QQ wz)) L wI) ?acyc ?start ?step ?rdone
          case acyc => exact fun i o ho => acyc_of (by kernel_rfl) i o ho
          case start => exact mk (fun _ => false) _ _ rfl (fun _ _ h => by cases h) (by exact ⟨hk2, HJ2⟩)
          case step =>
            rintro i o L a wx ho hLi hdep ⟨y, rfl, hy, hWI⟩ K hK
            have hi : i < 18 := (Array.getElem?_eq_some_iff.1 ho).1
            rcases i with _ | _ | _ | _ | _ | _ | _ | _ | _ | _ | _ | _ | _ | _ | _ | _ | _ | _ | i
            · obtain rfl := Option.some.inj ho
              clear hdep ho
              go_simp
              refine hK _ _ (mk _ _ _ rfl ?_ ?_)
              rotate_left
              · exact hWI
              · intro j hj h
                rcases j with _ | _ | _ | _ | _ | _ | _ | _ | _ | _ | _ | _ | _ | _ | _ | _ | _ | _ | j
                all_goals first | (rw [hvv]; rfl) | exact hy _ (by omega) (by simpa [put1] using h) | (exfalso; omega)
            · obtain rfl := Option.some.inj ho
              clear hdep ho
              go_simp
              refine hK _ _ (mk _ _ _ rfl ?_ ?_)
              rotate_left
              · exact hWI
              · intro j hj h
                rcases j with _ | _ | _ | _ | _ | _ | _ | _ | _ | _ | _ | _ | _ | _ | _ | _ | _ | _ | j
                all_goals first | (rw [hvv]; rfl) | exact hy _ (by omega) (by simpa [put1] using h) | (exfalso; omega)
            · obtain rfl := Option.some.inj ho
              have d0 : L 0 = true := hdep ⟨0, .data⟩ (by simp) rfl
              have d1 : L 1 = true := hdep ⟨1, .data⟩ (by simp) rfl
              have e0 : y 0 = .slice A f.length c := (hy 0 (by omega) d0).trans (by rw [hvv]; rfl)
              have e1 : y 1 = .int .i64 j := (hy 1 (by omega) d1).trans (by rw [hvv]; rfl)
              clear hdep ho
              rw [e0, e1]
              go_simp
              gi_wp2_with (refine ⟨trivial, ?_⟩; gi_at_call 36; refine (callsIn_wide.2 (HCo.out _ (by exact hWI.1))).mono ?_; rintro e w' ⟨rfl, rfl⟩)
              refine mk _ _ _ rfl ?_ ?_
              rotate_left
              · exact hWI
              · intro j hj h
                rcases j with _ | _ | _ | _ | _ | _ | _ | _ | _ | _ | _ | _ | _ | _ | _ | _ | _ | _ | j
                all_goals first | (rw [hvv]; rfl) | exact hy _ (by omega) (by simpa [put1] using h) | (exfalso; omega)
            · obtain rfl := Option.some.inj ho
              have d2 : L 2 = true := hdep ⟨2, .data⟩ (by simp) rfl
              have e2 : y 2 = .bool true := (hy 2 (by omega) d2).trans (by rw [hvv]; rfl)
              clear hdep ho
              rw [e2]
              go_simp
              refine hK _ _ (mk _ _ _ rfl ?_ ?_)
              rotate_left
              · exact hWI
              · intro j hj h
                rcases j with _ | _ | _ | _ | _ | _ | _ | _ | _ | _ | _ | _ | _ | _ | _ | _ | _ | _ | j
                all_goals first | (rw [hvv]; rfl) | exact hy _ (by omega) (by simpa [put1] using h) | (exfalso; omega)
            · obtain rfl := Option.some.inj ho
              have d3 : L 3 = true := hdep ⟨3, .data⟩ (by simp) rfl
              have e3 : y 3 = .bool false := (hy 3 (by omega) d3).trans (by rw [hvv]; rfl)
              clear hdep ho
              rw [e3]
              go_simp
              refine hK _ _ (mk _ _ _ rfl ?_ ?_)
              rotate_left
              · exact hWI
              · intro j hj h
                rcases j with _ | _ | _ | _ | _ | _ | _ | _ | _ | _ | _ | _ | _ | _ | _ | _ | _ | _ | j
                all_goals first | (rw [hvv]; rfl) | exact hy _ (by omega) (by simpa [put1] using h) | (exfalso; omega)
            · obtain rfl := Option.some.inj ho
              have d4 : L 4 = true := hdep ⟨4, .guard⟩ (by simp) rfl
              have e4 : y 4 = .bool false := (hy 4 (by omega) d4).trans (by rw [hvv]; rfl)
              clear hdep ho
              rw [e4]
              rw [if_neg (by intro h; cases h)]
              refine ⟨fun _ _ => trivial, ?_⟩
              go_simp
              refine hK _ _ (mk _ _ _ rfl ?_ ?_)
              rotate_left
              · exact hWI
              · intro j hj h
                rcases j with _ | _ | _ | _ | _ | _ | _ | _ | _ | _ | _ | _ | _ | _ | _ | _ | _ | _ | j
                all_goals first | (rw [hvv]; rfl) | exact hy _ (by omega) (by simpa [put1] using h) | (exfalso; omega)
            · obtain rfl := Option.some.inj ho
              have d4 : L 4 = true := hdep ⟨4, .guard⟩ (by simp) rfl
              have e4 : y 4 = .bool false := (hy 4 (by omega) d4).trans (by rw [hvv]; rfl)
              clear hdep ho
              rw [e4]
              rw [if_neg (by intro h; cases h)]
              refine ⟨fun _ _ => trivial, ?_⟩
              go_simp
              refine hK _ _ (mk _ _ _ rfl ?_ ?_)
              rotate_left
              · exact hWI
              · intro j hj h
                rcases j with _ | _ | _ | _ | _ | _ | _ | _ | _ | _ | _ | _ | _ | _ | _ | _ | _ | _ | j
                all_goals first | (rw [hvv]; rfl) | exact hy _ (by omega) (by simpa [put1] using h) | (exfalso; omega)
            · obtain rfl := Option.some.inj ho
              have d4 : L 4 = true := hdep ⟨4, .guard⟩ (by simp) rfl
              have e4 : y 4 = .bool false := (hy 4 (by omega) d4).trans (by rw [hvv]; rfl)
              clear hdep ho
              rw [e4]
              rw [if_neg (by intro h; cases h)]
              refine ⟨fun _ _ => trivial, ?_⟩
              go_simp
              refine hK _ _ (mk _ _ _ rfl ?_ ?_)
              rotate_left
              · exact hWI
              · intro j hj h
                rcases j with _ | _ | _ | _ | _ | _ | _ | _ | _ | _ | _ | _ | _ | _ | _ | _ | _ | _ | j
                all_goals first | (rw [hvv]; rfl) | exact hy _ (by omega) (by simpa [put1] using h) | (exfalso; omega)
            · obtain rfl := Option.some.inj ho
              have d7 : L 7 = true := hdep ⟨7, .data⟩ (by simp) rfl
              have d4 : L 4 = true := hdep ⟨4, .guard⟩ (by simp) rfl
              have e4 : y 4 = .bool false := (hy 4 (by omega) d4).trans (by rw [hvv]; rfl)
              have e7 : y 7 = undef := (hy 7 (by omega) d7).trans (by rw [hvv]; rfl)
              clear hdep ho
              rw [e4, e7]
              rw [if_neg (by intro h; cases h)]
              refine ⟨fun _ _ => trivial, ?_⟩
              go_simp
              refine hK _ _ (mk _ _ _ rfl ?_ ?_)
              rotate_left
              · exact hWI
              · intro j hj h
                rcases j with _ | _ | _ | _ | _ | _ | _ | _ | _ | _ | _ | _ | _ | _ | _ | _ | _ | _ | j
                all_goals first | (rw [hvv]; rfl) | exact hy _ (by omega) (by simpa [put1] using h) | (exfalso; omega)
            · obtain rfl := Option.some.inj ho
              have d4 : L 4 = true := hdep ⟨4, .guard⟩ (by simp) rfl
              have e4 : y 4 = .bool false := (hy 4 (by omega) d4).trans (by rw [hvv]; rfl)
              clear hdep ho
              rw [e4]
              rw [if_neg (by intro h; cases h)]
              refine ⟨fun _ _ => trivial, ?_⟩
              go_simp
              refine hK _ _ (mk _ _ _ rfl ?_ ?_)
              rotate_left
              · exact hWI
              · intro j hj h
                rcases j with _ | _ | _ | _ | _ | _ | _ | _ | _ | _ | _ | _ | _ | _ | _ | _ | _ | _ | j
                all_goals first | (rw [hvv]; rfl) | exact hy _ (by omega) (by simpa [put1] using h) | (exfalso; omega)
            · obtain rfl := Option.some.inj ho
              have d9 : L 9 = true := hdep ⟨9, .data⟩ (by simp) rfl
              have d4 : L 4 = true := hdep ⟨4, .guard⟩ (by simp) rfl
              have e4 : y 4 = .bool false := (hy 4 (by omega) d4).trans (by rw [hvv]; rfl)
              have e9 : y 9 = undef := (hy 9 (by omega) d9).trans (by rw [hvv]; rfl)
              clear hdep ho
              rw [e4, e9]
              rw [if_neg (by intro h; cases h)]
              refine ⟨fun _ _ => trivial, ?_⟩
              go_simp
              refine hK _ _ (mk _ _ _ rfl ?_ ?_)
              rotate_left
              · exact hWI
              · intro j hj h
                rcases j with _ | _ | _ | _ | _ | _ | _ | _ | _ | _ | _ | _ | _ | _ | _ | _ | _ | _ | j
                all_goals first | (rw [hvv]; rfl) | exact hy _ (by omega) (by simpa [put1] using h) | (exfalso; omega)
            · obtain rfl := Option.some.inj ho
              have d6 : L 6 = true := hdep ⟨6, .data⟩ (by simp) rfl
              have d8 : L 8 = true := hdep ⟨8, .data⟩ (by simp) rfl
              have d10 : L 10 = true := hdep ⟨10, .data⟩ (by simp) rfl
              have d4 : L 4 = true := hdep ⟨4, .guard⟩ (by simp) rfl
              have e4 : y 4 = .bool false := (hy 4 (by omega) d4).trans (by rw [hvv]; rfl)
              have e6 : y 6 = undef := (hy 6 (by omega) d6).trans (by rw [hvv]; rfl)
              have e8 : y 8 = undef := (hy 8 (by omega) d8).trans (by rw [hvv]; rfl)
              have e10 : y 10 = undef := (hy 10 (by omega) d10).trans (by rw [hvv]; rfl)
              clear hdep ho
              rw [e4, e6, e8, e10]
              rw [if_neg (by intro h; cases h)]
              refine ⟨fun _ _ => trivial, ?_⟩
              go_simp
              refine hK _ _ (mk _ _ _ rfl ?_ ?_)
              rotate_left
              · exact hWI
              · intro j hj h
                rcases j with _ | _ | _ | _ | _ | _ | _ | _ | _ | _ | _ | _ | _ | _ | _ | _ | _ | _ | j
                all_goals first | (rw [hvv]; rfl) | exact hy _ (by omega) (by simpa [put1] using h) | (exfalso; omega)
            · obtain rfl := Option.some.inj ho
              have d4 : L 4 = true := hdep ⟨4, .guard⟩ (by simp) rfl
              have e4 : y 4 = .bool false := (hy 4 (by omega) d4).trans (by rw [hvv]; rfl)
              clear hdep ho
              rw [e4]
              rw [if_neg (by intro h; cases h)]
              refine ⟨fun _ _ => trivial, ?_⟩
              go_simp
              refine hK _ _ (mk _ _ _ rfl ?_ ?_)
              rotate_left
              · exact hWI
              · intro j hj h
                rcases j with _ | _ | _ | _ | _ | _ | _ | _ | _ | _ | _ | _ | _ | _ | _ | _ | _ | _ | j
                all_goals first | (rw [hvv]; rfl) | exact hy _ (by omega) (by simpa [put1] using h) | (exfalso; omega)
            · obtain rfl := Option.some.inj ho
              have d12 : L 12 = true := hdep ⟨12, .data⟩ (by simp) rfl
              have d4 : L 4 = true := hdep ⟨4, .guard⟩ (by simp) rfl
              have e4 : y 4 = .bool false := (hy 4 (by omega) d4).trans (by rw [hvv]; rfl)
              have e12 : y 12 = undef := (hy 12 (by omega) d12).trans (by rw [hvv]; rfl)
              clear hdep ho
              rw [e4, e12]
              rw [if_neg (by intro h; cases h)]
              refine ⟨fun _ _ => trivial, ?_⟩
              go_simp
              refine hK _ _ (mk _ _ _ rfl ?_ ?_)
              rotate_left
              · exact hWI
              · intro j hj h
                rcases j with _ | _ | _ | _ | _ | _ | _ | _ | _ | _ | _ | _ | _ | _ | _ | _ | _ | _ | j
                all_goals first | (rw [hvv]; rfl) | exact hy _ (by omega) (by simpa [put1] using h) | (exfalso; omega)
            · obtain rfl := Option.some.inj ho
              have d11 : L 11 = true := hdep ⟨11, .data⟩ (by simp) rfl
              have d13 : L 13 = true := hdep ⟨13, .data⟩ (by simp) rfl
              have d4 : L 4 = true := hdep ⟨4, .guard⟩ (by simp) rfl
              have e4 : y 4 = .bool false := (hy 4 (by omega) d4).trans (by rw [hvv]; rfl)
              have e11 : y 11 = undef := (hy 11 (by omega) d11).trans (by rw [hvv]; rfl)
              have e13 : y 13 = undef := (hy 13 (by omega) d13).trans (by rw [hvv]; rfl)
              clear hdep ho
              rw [e4, e11, e13]
              rw [if_neg (by intro h; cases h)]
              refine ⟨fun _ _ => trivial, ?_⟩
              go_simp
              refine hK _ _ (mk _ _ _ rfl ?_ ?_)
              rotate_left
              · exact hWI
              · intro j hj h
                rcases j with _ | _ | _ | _ | _ | _ | _ | _ | _ | _ | _ | _ | _ | _ | _ | _ | _ | _ | j
                all_goals first | (rw [hvv]; rfl) | exact hy _ (by omega) (by simpa [put1] using h) | (exfalso; omega)
            · obtain rfl := Option.some.inj ho
              have d5 : L 5 = true := hdep ⟨5, .data⟩ (by simp) rfl
              have d14 : L 14 = true := hdep ⟨14, .data⟩ (by simp) rfl
              have d4 : L 4 = true := hdep ⟨4, .guard⟩ (by simp) rfl
              have e4 : y 4 = .bool false := (hy 4 (by omega) d4).trans (by rw [hvv]; rfl)
              have e5 : y 5 = undef := (hy 5 (by omega) d5).trans (by rw [hvv]; rfl)
              have e14 : y 14 = undef := (hy 14 (by omega) d14).trans (by rw [hvv]; rfl)
              clear hdep ho
              rw [e4, e5, e14]
              rw [if_neg (by intro h; cases h)]
              refine ⟨fun _ _ => trivial, ?_⟩
              go_simp
              refine hK _ _ (mk _ _ _ rfl ?_ ?_)
              rotate_left
              · exact hWI
              · intro j hj h
                rcases j with _ | _ | _ | _ | _ | _ | _ | _ | _ | _ | _ | _ | _ | _ | _ | _ | _ | _ | j
                all_goals first | (rw [hvv]; rfl) | exact hy _ (by omega) (by simpa [put1] using h) | (exfalso; omega)
            · obtain rfl := Option.some.inj ho
              have d15 : L 15 = true := hdep ⟨15, .data⟩ (by simp) rfl
              have d4 : L 4 = true := hdep ⟨4, .guard⟩ (by simp) rfl
              have e4 : y 4 = .bool false := (hy 4 (by omega) d4).trans (by rw [hvv]; rfl)
              have e15 : y 15 = undef := (hy 15 (by omega) d15).trans (by rw [hvv]; rfl)
              clear hdep ho
              rw [e4, e15]
              rw [if_neg (by intro h; cases h)]
              refine ⟨fun _ _ => trivial, ?_⟩
              go_simp
              refine hK _ _ (mk _ _ _ rfl ?_ ?_)
              rotate_left
              · exact hWI
              · intro j hj h
                rcases j with _ | _ | _ | _ | _ | _ | _ | _ | _ | _ | _ | _ | _ | _ | _ | _ | _ | _ | j
                all_goals first | (rw [hvv]; rfl) | exact hy _ (by omega) (by simpa [put1] using h) | (exfalso; omega)
            · obtain rfl := Option.some.inj ho
              have d4 : L 4 = true := hdep ⟨4, .data⟩ (by simp) rfl
              have d16 : L 16 = true := hdep ⟨16, .data⟩ (by simp) rfl
              have e4 : y 4 = .bool false := (hy 4 (by omega) d4).trans (by rw [hvv]; rfl)
              have e16 : y 16 = undef := (hy 16 (by omega) d16).trans (by rw [hvv]; rfl)
              clear hdep ho
              rw [e4, e16]
              go_simp
              refine hK _ _ (mk _ _ _ rfl ?_ ?_)
              rotate_left
              · exact hWI
              · intro j hj h
                rcases j with _ | _ | _ | _ | _ | _ | _ | _ | _ | _ | _ | _ | _ | _ | _ | _ | _ | _ | j
                all_goals first | (rw [hvv]; rfl) | exact hy _ (by omega) (by simpa [put1] using h) | (exfalso; omega)
            · exfalso; omega
          case rdone =>
            rintro L a w4 hall ⟨y, rfl, hy, hWI⟩
            obtain ⟨hk4, HJ4⟩ := hWI
            have e17 : y 17 = .bool false := (hy 17 (by omega) (hall 17 (by decide))).trans (by rw [hvv]; rfl)
            rw [e17]
            generalize y 0 = y0
            generalize y 1 = y1
            generalize y 2 = y2
            generalize y 3 = y3
            generalize y 4 = y4
            generalize y 5 = y5
            generalize y 6 = y6
            generalize y 7 = y7
            generalize y 8 = y8
            generalize y 9 = y9
            generalize y 10 = y10
            generalize y 11 = y11
            generalize y 12 = y12
            generalize y 13 = y13
            generalize y 14 = y14
            generalize y 15 = y15
            generalize y 16 = y16
            clear mk hvv hy hall e17 HCo
            go_wp2
            exact ⟨⟨j + 1, by omega, by simp, hid (by rw [HF.out, HQQ.out]; exact HJ4.out), hk4⟩, by show n - ((j : Int) + 1).toNat < n - ((j : Int)).toNat; omega⟩
        · have hq : decide ((j : Int) ∈ il f) = false := by simpa using fun h => hin (il_mem.1 h)
          obtain ⟨LL, hLL⟩ : ∃ LL, lsL n left (f ++ [j]) = LL := ⟨_, rfl⟩
          obtain ⟨PP, hPP⟩ : ∃ PP, (pre ++ (List.range j).flatMap fun p => if p ∈ f then [] else lsL n left (f ++ [p])) = PP := ⟨_, rfl⟩
          have HF : Hid (pre ++ (List.range (j + 1)).flatMap (fun p => if p ∈ f then [] else lsL n left (f ++ [p])) = PP ++ LL) := (show _ = _ by rw [hrs, List.flatMap_append, ← List.append_assoc, hPP]; simp [hin, hLL])
          have hpp : PP ++ LL <+: XS := List.IsPrefix.trans (by
            rw [← HF.out, lsL]
            obtain ⟨q, hq⟩ : ∃ q, n = (j + 1) + q := ⟨n - (j + 1), by omega⟩
            rw [hq, List.range_add (n := j + 1), List.flatMap_append, ← List.append_assoc]
            exact List.prefix_append _ _) HPRE.out
          rw [hPP] at HJw
          rw [hq] at HCo
          obtain ⟨w8, hw8⟩ : ∃ w8, wr.drew.alloc (.cells #[.int .i64 j] 3) = w8 := ⟨_, rfl⟩
          have hb8 : Below wr.heap.size wr w8 := by rw [← hw8]; exact below_alloc (below_drew (Below.refl _ _)) _
          have hz8 : w8.heap.size = wr.heap.size + 1 := by rw [← hw8]; simp
          have hk8 : KC B W w8 := hk1.trans (KC.of_below hb8)
          obtain ⟨v9, w9, hrun, own9, hb9⟩ := append_full (A := A) (c := c) (m := f.length) (xs := il f) (p := (j : Int)) (g := wr.heap.size) (W := w8) (base := B) (own_KC HOW.out hk8 (Nat.le_refl _)) (by rw [← hw8]; simp [go_sem]) (by omega)
          have hk9 : KC B W w9 := hk8.trans (KC.of_below hb9)
          have hk2 : KC B W wr.drew := hk1.trans (KC.of_below (below_drew (Below.refl _ _)))
          have hfc : f.length ≤ c := own_cap HOW.out
          have hAA : (if f.length = 0 then A else Option.map (fun x => x.add 0) A) = A := by split <;> first | rfl | exact opt_add A
          have hdown := hid ((IH j v9 PP w9).out (by have := own_less own9 (show B ≤ _ by omega); simpa [ROw, il] using this) (by have := hb9.size; omega) (by rw [hLL]; exact hpp) (HJ.out _ _ _ (HJ.out _ _ _ HJw.out (grown_of_below hb8 none)) (grown_of_below hb9 none)) (hk9.cell h1 c1) (hk9.cell h2 c2) (hk9.cell h3 c3) (hk9.cell h4 c4))
          rw [hLL] at hdown
          clear hin hq hrs hpp IH HPRE hLL hPP own9 hb9 c1 c2 c3 c1' c2' c3' c4'
          go_upto_region 6 with (fail)
          refine (wpIn_wide (n := 8)).1 ?_
          obtain ⟨vv, hvv⟩ : ∃ vv : Nat → Value, vv = fun i => (#[.slice A f.length c, .int .i64 j, .bool false, .bool true, .bool true, downV B1 B2 B3 B4, .slice A f.length c, .slice A f.length c, .int .i64 f.length, .slice A f.length c, .int .i64 f.length, .slice A f.length f.length, .int .i64 j, .slice (some ⟨wr.heap.size, 0, none⟩) 1 1, v9, .bool true, .bool false, .bool false] : Array Value).getD i undef := ⟨_, rfl⟩
          have mk : ∀ (L : Nat → Bool) (a' : Act) (w' : World), a' = ({ tmps := #[.slice A f.length c, .pointer (some ⟨B1, 0, none⟩), .pointer (some ⟨B2, 0, none⟩), .pointer (some ⟨B3, 0, none⟩), .pointer (some ⟨B4, 0, none⟩), undef, u6, .int .i64 j, .slice A f.length c, .int .i64 f.length, .int .i64 k, .bool false, undef, undef, undef, .int .i64 n, .int .i64 j, .bool true, .int .i64 j, a'.tmps.getD (19 + 0) undef, a'.tmps.getD (19 + 1) undef, a'.tmps.getD (19 + 2) undef, a'.tmps.getD (19 + 3) undef, a'.tmps.getD (19 + 4) undef, a'.tmps.getD (19 + 5) undef, a'.tmps.getD (19 + 6) undef, a'.tmps.getD (19 + 7) undef, a'.tmps.getD (19 + 8) undef, a'.tmps.getD (19 + 9) undef, a'.tmps.getD (19 + 10) undef, a'.tmps.getD (19 + 11) undef, a'.tmps.getD (19 + 12) undef, a'.tmps.getD (19 + 13) undef, a'.tmps.getD (19 + 14) undef, a'.tmps.getD (19 + 15) undef, a'.tmps.getD (19 + 16) undef, a'.tmps.getD (19 + 17) undef, u37], defers := [] } : Act) → (∀ j < 18, L j = true → a'.tmps.getD (19 + j) undef = vv j) → (fun (L : Nat → Bool) (wz : World) => KC B W wz ∧ ((L 13 = false ∧ L 14 = false ∧ L 15 = false ∧ wz = wr.drew) ∨ (L 13 = true ∧ L 14 = false ∧ L 15 = false ∧ wz = w8) ∨ (L 13 = true ∧ L 14 = true ∧ L 15 = false ∧ wz = w9) ∨ (L 13 = true ∧ L 14 = true ∧ L 15 = true ∧ Hid (J (PP ++ LL) wz)))) L w' → ∃ y : Nat → Value, a' = ({ tmps := #[.slice A f.length c, .pointer (some ⟨B1, 0, none⟩), .pointer (some ⟨B2, 0, none⟩), .pointer (some ⟨B3, 0, none⟩), .pointer (some ⟨B4, 0, none⟩), undef, u6, .int .i64 j, .slice A f.length c, .int .i64 f.length, .int .i64 k, .bool false, undef, undef, undef, .int .i64 n, .int .i64 j, .bool true, .int .i64 j, y 0, y 1, y 2, y 3, y 4, y 5, y 6, y 7, y 8, y 9, y 10, y 11, y 12, y 13, y 14, y 15, y 16, y 17, u37], defers := [] } : Act) ∧ (∀ j < 18, L j = true → y j = vv j) ∧ (fun (L : Nat → Bool) (wz : World) => KC B W wz ∧ ((L 13 = false ∧ L 14 = false ∧ L 15 = false ∧ wz = wr.drew) ∨ (L 13 = true ∧ L 14 = false ∧ L 15 = false ∧ wz = w8) ∨ (L 13 = true ∧ L 14 = true ∧ L 15 = false ∧ wz = w9) ∨ (L 13 = true ∧ L 14 = true ∧ L 15 = true ∧ Hid (J (PP ++ LL) wz)))) L w' := fun L a' w' h1 h2 h3 => ⟨fun m => a'.tmps.getD (19 + m) undef, h1, h2, h3⟩
          refine wpIn_region_inv (by kernel_rfl) (fun L aI wI => ∃ y : Nat → Value, aI = ({ tmps := #[.slice A f.length c, .pointer (some ⟨B1, 0, none⟩), .pointer (some ⟨B2, 0, none⟩), .pointer (some ⟨B3, 0, none⟩), .pointer (some ⟨B4, 0, none⟩), undef, u6, .int .i64 j, .slice A f.length c, .int .i64 f.length, .int .i64 k, .bool false, undef, undef, undef, .int .i64 n, .int .i64 j, .bool true, .int .i64 j, y 0, y 1, y 2, y 3, y 4, y 5, y 6, y 7, y 8, y 9, y 10, y 11, y 12, y 13, y 14, y 15, y 16, y 17, u37], defers := [] } : Act) ∧ (∀ j < 18, L j = true → y j = vv j) ∧ (fun (L : Nat → Bool) (wz : World) => KC B W wz ∧ ((L 13 = false ∧ L 14 = false ∧ L 15 = false ∧ wz = wr.drew) ∨ (L 13 = true ∧ L 14 = false ∧ L 15 = false ∧ wz = w8) ∨ (L 13 = true ∧ L 14 = true ∧ L 15 = false ∧ wz = w9) ∨ (L 13 = true ∧ L 14 = true ∧ L 15 = true ∧ Hid (J (PP ++ LL) wz)))) L wI) ?acyc ?start ?step ?rdone
          case acyc => exact fun i o ho => acyc_of (by kernel_rfl) i o ho
          case start => exact mk (fun _ => false) _ _ rfl (fun _ _ h => by cases h) (by exact ⟨hk2, .inl ⟨rfl, rfl, rfl, rfl⟩⟩)
          case step =>
            rintro i o L a wx ho hLi hdep ⟨y, rfl, hy, hWI⟩ K hK
            have hi : i < 18 := (Array.getElem?_eq_some_iff.1 ho).1
            rcases i with _ | _ | _ | _ | _ | _ | _ | _ | _ | _ | _ | _ | _ | _ | _ | _ | _ | _ | i
            · obtain rfl := Option.some.inj ho
              clear hdep ho
              go_simp
              refine hK _ _ (mk _ _ _ rfl ?_ ?_)
              rotate_left
              · exact ⟨hWI.1, by simpa [put1] using hWI.2⟩
              · intro j hj h
                rcases j with _ | _ | _ | _ | _ | _ | _ | _ | _ | _ | _ | _ | _ | _ | _ | _ | _ | _ | j
                all_goals first | (rw [hvv]; rfl) | exact hy _ (by omega) (by simpa [put1] using h) | (exfalso; omega)
            · obtain rfl := Option.some.inj ho
              clear hdep ho
              go_simp
              refine hK _ _ (mk _ _ _ rfl ?_ ?_)
              rotate_left
              · exact ⟨hWI.1, by simpa [put1] using hWI.2⟩
              · intro j hj h
                rcases j with _ | _ | _ | _ | _ | _ | _ | _ | _ | _ | _ | _ | _ | _ | _ | _ | _ | _ | j
                all_goals first | (rw [hvv]; rfl) | exact hy _ (by omega) (by simpa [put1] using h) | (exfalso; omega)
            · obtain rfl := Option.some.inj ho
              have d0 : L 0 = true := hdep ⟨0, .data⟩ (by simp) rfl
              have d1 : L 1 = true := hdep ⟨1, .data⟩ (by simp) rfl
              have e0 : y 0 = .slice A f.length c := (hy 0 (by omega) d0).trans (by rw [hvv]; rfl)
              have e1 : y 1 = .int .i64 j := (hy 1 (by omega) d1).trans (by rw [hvv]; rfl)
              clear hdep ho
              rw [e0, e1]
              go_simp
              gi_wp2_with (refine ⟨trivial, ?_⟩; gi_at_call 36; refine (callsIn_wide.2 (HCo.out _ (by exact hWI.1))).mono ?_; rintro e w' ⟨rfl, rfl⟩)
              refine mk _ _ _ rfl ?_ ?_
              rotate_left
              · exact ⟨hWI.1, by simpa [put1] using hWI.2⟩
              · intro j hj h
                rcases j with _ | _ | _ | _ | _ | _ | _ | _ | _ | _ | _ | _ | _ | _ | _ | _ | _ | _ | j
                all_goals first | (rw [hvv]; rfl) | exact hy _ (by omega) (by simpa [put1] using h) | (exfalso; omega)
            · obtain rfl := Option.some.inj ho
              have d2 : L 2 = true := hdep ⟨2, .data⟩ (by simp) rfl
              have e2 : y 2 = .bool false := (hy 2 (by omega) d2).trans (by rw [hvv]; rfl)
              clear hdep ho
              rw [e2]
              go_simp
              refine hK _ _ (mk _ _ _ rfl ?_ ?_)
              rotate_left
              · exact ⟨hWI.1, by simpa [put1] using hWI.2⟩
              · intro j hj h
                rcases j with _ | _ | _ | _ | _ | _ | _ | _ | _ | _ | _ | _ | _ | _ | _ | _ | _ | _ | j
                all_goals first | (rw [hvv]; rfl) | exact hy _ (by omega) (by simpa [put1] using h) | (exfalso; omega)
            · obtain rfl := Option.some.inj ho
              have d3 : L 3 = true := hdep ⟨3, .data⟩ (by simp) rfl
              have e3 : y 3 = .bool true := (hy 3 (by omega) d3).trans (by rw [hvv]; rfl)
              clear hdep ho
              rw [e3]
              go_simp
              refine hK _ _ (mk _ _ _ rfl ?_ ?_)
              rotate_left
              · exact ⟨hWI.1, by simpa [put1] using hWI.2⟩
              · intro j hj h
                rcases j with _ | _ | _ | _ | _ | _ | _ | _ | _ | _ | _ | _ | _ | _ | _ | _ | _ | _ | j
                all_goals first | (rw [hvv]; rfl) | exact hy _ (by omega) (by simpa [put1] using h) | (exfalso; omega)
            · obtain rfl := Option.some.inj ho
              have d4 : L 4 = true := hdep ⟨4, .guard⟩ (by simp) rfl
              have e4 : y 4 = .bool true := (hy 4 (by omega) d4).trans (by rw [hvv]; rfl)
              clear hdep ho
              rw [e4]
              have hcl := hWI.1.cell h4 c4
              rw [if_pos (by rfl)]
              go_simp
              refine hK _ _ (mk _ _ _ rfl ?_ ?_)
              rotate_left
              · exact ⟨hWI.1, by simpa [put1] using hWI.2⟩
              · intro j hj h
                rcases j with _ | _ | _ | _ | _ | _ | _ | _ | _ | _ | _ | _ | _ | _ | _ | _ | _ | _ | j
                all_goals first | (rw [hvv]; rfl) | exact hy _ (by omega) (by simpa [put1] using h) | (exfalso; omega)
            · obtain rfl := Option.some.inj ho
              have d4 : L 4 = true := hdep ⟨4, .guard⟩ (by simp) rfl
              have e4 : y 4 = .bool true := (hy 4 (by omega) d4).trans (by rw [hvv]; rfl)
              clear hdep ho
              rw [e4]
              rw [if_pos (by rfl)]
              go_simp
              refine hK _ _ (mk _ _ _ rfl ?_ ?_)
              rotate_left
              · exact ⟨hWI.1, by simpa [put1] using hWI.2⟩
              · intro j hj h
                rcases j with _ | _ | _ | _ | _ | _ | _ | _ | _ | _ | _ | _ | _ | _ | _ | _ | _ | _ | j
                all_goals first | (rw [hvv]; rfl) | exact hy _ (by omega) (by simpa [put1] using h) | (exfalso; omega)
            · obtain rfl := Option.some.inj ho
              have d4 : L 4 = true := hdep ⟨4, .guard⟩ (by simp) rfl
              have e4 : y 4 = .bool true := (hy 4 (by omega) d4).trans (by rw [hvv]; rfl)
              clear hdep ho
              rw [e4]
              rw [if_pos (by rfl)]
              go_simp
              refine hK _ _ (mk _ _ _ rfl ?_ ?_)
              rotate_left
              · exact ⟨hWI.1, by simpa [put1] using hWI.2⟩
              · intro j hj h
                rcases j with _ | _ | _ | _ | _ | _ | _ | _ | _ | _ | _ | _ | _ | _ | _ | _ | _ | _ | j
                all_goals first | (rw [hvv]; rfl) | exact hy _ (by omega) (by simpa [put1] using h) | (exfalso; omega)
            · obtain rfl := Option.some.inj ho
              have d7 : L 7 = true := hdep ⟨7, .data⟩ (by simp) rfl
              have d4 : L 4 = true := hdep ⟨4, .guard⟩ (by simp) rfl
              have e4 : y 4 = .bool true := (hy 4 (by omega) d4).trans (by rw [hvv]; rfl)
              have e7 : y 7 = .slice A f.length c := (hy 7 (by omega) d7).trans (by rw [hvv]; rfl)
              clear hdep ho
              rw [e4, e7]
              rw [if_pos (by rfl)]
              go_simp
              refine hK _ _ (mk _ _ _ rfl ?_ ?_)
              rotate_left
              · exact ⟨hWI.1, by simpa [put1] using hWI.2⟩
              · intro j hj h
                rcases j with _ | _ | _ | _ | _ | _ | _ | _ | _ | _ | _ | _ | _ | _ | _ | _ | _ | _ | j
                all_goals first | (rw [hvv]; rfl) | exact hy _ (by omega) (by simpa [put1] using h) | (exfalso; omega)
            · obtain rfl := Option.some.inj ho
              have d4 : L 4 = true := hdep ⟨4, .guard⟩ (by simp) rfl
              have e4 : y 4 = .bool true := (hy 4 (by omega) d4).trans (by rw [hvv]; rfl)
              clear hdep ho
              rw [e4]
              rw [if_pos (by rfl)]
              go_simp
              refine hK _ _ (mk _ _ _ rfl ?_ ?_)
              rotate_left
              · exact ⟨hWI.1, by simpa [put1] using hWI.2⟩
              · intro j hj h
                rcases j with _ | _ | _ | _ | _ | _ | _ | _ | _ | _ | _ | _ | _ | _ | _ | _ | _ | _ | j
                all_goals first | (rw [hvv]; rfl) | exact hy _ (by omega) (by simpa [put1] using h) | (exfalso; omega)
            · obtain rfl := Option.some.inj ho
              have d9 : L 9 = true := hdep ⟨9, .data⟩ (by simp) rfl
              have d4 : L 4 = true := hdep ⟨4, .guard⟩ (by simp) rfl
              have e4 : y 4 = .bool true := (hy 4 (by omega) d4).trans (by rw [hvv]; rfl)
              have e9 : y 9 = .slice A f.length c := (hy 9 (by omega) d9).trans (by rw [hvv]; rfl)
              clear hdep ho
              rw [e4, e9]
              rw [if_pos (by rfl)]
              go_simp
              refine hK _ _ (mk _ _ _ rfl ?_ ?_)
              rotate_left
              · exact ⟨hWI.1, by simpa [put1] using hWI.2⟩
              · intro j hj h
                rcases j with _ | _ | _ | _ | _ | _ | _ | _ | _ | _ | _ | _ | _ | _ | _ | _ | _ | _ | j
                all_goals first | (rw [hvv]; rfl) | exact hy _ (by omega) (by simpa [put1] using h) | (exfalso; omega)
            · obtain rfl := Option.some.inj ho
              have d6 : L 6 = true := hdep ⟨6, .data⟩ (by simp) rfl
              have d8 : L 8 = true := hdep ⟨8, .data⟩ (by simp) rfl
              have d10 : L 10 = true := hdep ⟨10, .data⟩ (by simp) rfl
              have d4 : L 4 = true := hdep ⟨4, .guard⟩ (by simp) rfl
              have e4 : y 4 = .bool true := (hy 4 (by omega) d4).trans (by rw [hvv]; rfl)
              have e6 : y 6 = .slice A f.length c := (hy 6 (by omega) d6).trans (by rw [hvv]; rfl)
              have e8 : y 8 = .int .i64 f.length := (hy 8 (by omega) d8).trans (by rw [hvv]; rfl)
              have e10 : y 10 = .int .i64 f.length := (hy 10 (by omega) d10).trans (by rw [hvv]; rfl)
              clear hdep ho
              rw [e4, e6, e8, e10]
              rw [if_pos (by rfl)]
              go_simp
              refine hK _ _ (mk _ _ _ rfl ?_ ?_)
              rotate_left
              · exact ⟨hWI.1, by simpa [put1] using hWI.2⟩
              · intro j hj h
                rcases j with _ | _ | _ | _ | _ | _ | _ | _ | _ | _ | _ | _ | _ | _ | _ | _ | _ | _ | j
                all_goals first | (rw [hvv]; rfl) | exact hy _ (by omega) (by simpa [put1] using h) | (exfalso; omega)
            · obtain rfl := Option.some.inj ho
              have d4 : L 4 = true := hdep ⟨4, .guard⟩ (by simp) rfl
              have e4 : y 4 = .bool true := (hy 4 (by omega) d4).trans (by rw [hvv]; rfl)
              clear hdep ho
              rw [e4]
              rw [if_pos (by rfl)]
              go_simp
              refine hK _ _ (mk _ _ _ rfl ?_ ?_)
              rotate_left
              · exact ⟨hWI.1, by simpa [put1] using hWI.2⟩
              · intro j hj h
                rcases j with _ | _ | _ | _ | _ | _ | _ | _ | _ | _ | _ | _ | _ | _ | _ | _ | _ | _ | j
                all_goals first | (rw [hvv]; rfl) | exact hy _ (by omega) (by simpa [put1] using h) | (exfalso; omega)
            · obtain rfl := Option.some.inj ho
              have d12 : L 12 = true := hdep ⟨12, .data⟩ (by simp) rfl
              have d4 : L 4 = true := hdep ⟨4, .guard⟩ (by simp) rfl
              have e4 : y 4 = .bool true := (hy 4 (by omega) d4).trans (by rw [hvv]; rfl)
              have e12 : y 12 = .int .i64 j := (hy 12 (by omega) d12).trans (by rw [hvv]; rfl)
              clear hdep ho
              rw [e4, e12]
              obtain ⟨f14, f15, rfl⟩ : L 14 = false ∧ L 15 = false ∧ wx = wr.drew := by
                rcases hWI.2 with ⟨_, h1, h2, h⟩ | ⟨h, _⟩ | ⟨h, _⟩ | ⟨h, _⟩
                · exact ⟨h1, h2, h⟩
                all_goals (rw [hLi] at h; cases h)
              rw [if_pos (by rfl)]
              go_simp
              refine hK _ _ (mk _ _ _ rfl ?_ ?_)
              rotate_left
              · exact ⟨hk8, .inr (.inl ⟨by simp [put1], by simpa [put1] using f14, by simpa [put1] using f15, by rw [← hw8]⟩)⟩
              · intro j hj h
                rcases j with _ | _ | _ | _ | _ | _ | _ | _ | _ | _ | _ | _ | _ | _ | _ | _ | _ | _ | j
                all_goals first | (rw [hvv]; rfl) | exact hy _ (by omega) (by simpa [put1] using h) | (exfalso; omega)
            · obtain rfl := Option.some.inj ho
              have d11 : L 11 = true := hdep ⟨11, .data⟩ (by simp) rfl
              have d13 : L 13 = true := hdep ⟨13, .data⟩ (by simp) rfl
              have d4 : L 4 = true := hdep ⟨4, .guard⟩ (by simp) rfl
              have e4 : y 4 = .bool true := (hy 4 (by omega) d4).trans (by rw [hvv]; rfl)
              have e11 : y 11 = .slice A f.length f.length := (hy 11 (by omega) d11).trans (by rw [hvv]; rfl)
              have e13 : y 13 = .slice (some ⟨wr.heap.size, 0, none⟩) 1 1 := (hy 13 (by omega) d13).trans (by rw [hvv]; rfl)
              clear hdep ho
              rw [e4, e11, e13]
              obtain ⟨f15, rfl⟩ : L 15 = false ∧ wx = w8 := by
                rcases hWI.2 with ⟨h, _⟩ | ⟨_, _, h1, h2⟩ | ⟨_, h, _⟩ | ⟨_, h, _⟩
                · rw [d13] at h; cases h
                · exact ⟨h1, h2⟩
                all_goals (rw [hLi] at h; cases h)
              rw [if_pos (by rfl)]
              refine operIn_app (.tmp 30) (.tmp 32) 32 _ _ v9 rfl rfl rfl hrun ?_
              go_simp
              refine hK _ _ (mk _ _ _ rfl ?_ ?_)
              rotate_left
              · exact ⟨hk9, .inr (.inr (.inl ⟨by simpa [put1] using d13, by simp [put1], by simpa [put1] using f15, rfl⟩))⟩
              · intro j hj h
                rcases j with _ | _ | _ | _ | _ | _ | _ | _ | _ | _ | _ | _ | _ | _ | _ | _ | _ | _ | j
                all_goals first | (rw [hvv]; rfl) | exact hy _ (by omega) (by simpa [put1] using h) | (exfalso; omega)
            · obtain rfl := Option.some.inj ho
              have d5 : L 5 = true := hdep ⟨5, .data⟩ (by simp) rfl
              have d14 : L 14 = true := hdep ⟨14, .data⟩ (by simp) rfl
              have d4 : L 4 = true := hdep ⟨4, .guard⟩ (by simp) rfl
              have e4 : y 4 = .bool true := (hy 4 (by omega) d4).trans (by rw [hvv]; rfl)
              have e5 : y 5 = downV B1 B2 B3 B4 := (hy 5 (by omega) d5).trans (by rw [hvv]; rfl)
              have e14 : y 14 = v9 := (hy 14 (by omega) d14).trans (by rw [hvv]; rfl)
              clear hdep ho
              rw [e4, e5, e14]
              obtain ⟨f13, rfl⟩ : L 13 = true ∧ wx = w9 := by
                rcases hWI.2 with ⟨_, h, _⟩ | ⟨_, h, _⟩ | ⟨h1, _, _, h2⟩ | ⟨_, _, h, _⟩
                · rw [d14] at h; cases h
                · rw [d14] at h; cases h
                · exact ⟨h1, h2⟩
                · rw [hLi] at h; cases h
              rw [if_pos (by rfl)]
              go_simp
              gi_wp2_with (refine ⟨trivial, ?_⟩; gi_at_call 56; refine (callsIn_wide.2 hdown.out).mono ?_; rintro e w' ⟨rfl, hJ', hk'⟩)
              refine mk _ _ _ rfl ?_ ?_
              rotate_left
              · exact ⟨hk9.trans hk', .inr (.inr (.inr ⟨by simpa [put1] using f13, by simpa [put1] using d14, by simp [put1], hid hJ'⟩))⟩
              · intro j hj h
                rcases j with _ | _ | _ | _ | _ | _ | _ | _ | _ | _ | _ | _ | _ | _ | _ | _ | _ | _ | j
                all_goals first | (rw [hvv]; rfl) | exact hy _ (by omega) (by simpa [put1] using h) | (exfalso; omega)
            · obtain rfl := Option.some.inj ho
              have d15 : L 15 = true := hdep ⟨15, .data⟩ (by simp) rfl
              have d4 : L 4 = true := hdep ⟨4, .guard⟩ (by simp) rfl
              have e4 : y 4 = .bool true := (hy 4 (by omega) d4).trans (by rw [hvv]; rfl)
              have e15 : y 15 = .bool true := (hy 15 (by omega) d15).trans (by rw [hvv]; rfl)
              clear hdep ho
              rw [e4, e15]
              rw [if_pos (by rfl)]
              go_simp
              refine hK _ _ (mk _ _ _ rfl ?_ ?_)
              rotate_left
              · exact ⟨hWI.1, by simpa [put1] using hWI.2⟩
              · intro j hj h
                rcases j with _ | _ | _ | _ | _ | _ | _ | _ | _ | _ | _ | _ | _ | _ | _ | _ | _ | _ | j
                all_goals first | (rw [hvv]; rfl) | exact hy _ (by omega) (by simpa [put1] using h) | (exfalso; omega)
            · obtain rfl := Option.some.inj ho
              have d4 : L 4 = true := hdep ⟨4, .data⟩ (by simp) rfl
              have d16 : L 16 = true := hdep ⟨16, .data⟩ (by simp) rfl
              have e4 : y 4 = .bool true := (hy 4 (by omega) d4).trans (by rw [hvv]; rfl)
              have e16 : y 16 = .bool false := (hy 16 (by omega) d16).trans (by rw [hvv]; rfl)
              clear hdep ho
              rw [e4, e16]
              go_simp
              refine hK _ _ (mk _ _ _ rfl ?_ ?_)
              rotate_left
              · exact ⟨hWI.1, by simpa [put1] using hWI.2⟩
              · intro j hj h
                rcases j with _ | _ | _ | _ | _ | _ | _ | _ | _ | _ | _ | _ | _ | _ | _ | _ | _ | _ | j
                all_goals first | (rw [hvv]; rfl) | exact hy _ (by omega) (by simpa [put1] using h) | (exfalso; omega)
            · exfalso; omega
          case rdone =>
            rintro L a w4 hall ⟨y, rfl, hy, hWI⟩
            obtain ⟨hk4, hWI⟩ := hWI
            have HJ4 : Hid (J (PP ++ LL) w4) := by
              rcases hWI with ⟨h, _⟩ | ⟨_, h, _⟩ | ⟨_, _, h, _⟩ | ⟨_, _, _, h⟩
              · rw [hall 13 (by decide)] at h; cases h
              · rw [hall 14 (by decide)] at h; cases h
              · rw [hall 15 (by decide)] at h; cases h
              · exact h
            have e17 : y 17 = .bool false := (hy 17 (by omega) (hall 17 (by decide))).trans (by rw [hvv]; rfl)
            rw [e17]
            generalize y 0 = y0
            generalize y 1 = y1
            generalize y 2 = y2
            generalize y 3 = y3
            generalize y 4 = y4
            generalize y 5 = y5
            generalize y 6 = y6
            generalize y 7 = y7
            generalize y 8 = y8
            generalize y 9 = y9
            generalize y 10 = y10
            generalize y 11 = y11
            generalize y 12 = y12
            generalize y 13 = y13
            generalize y 14 = y14
            generalize y 15 = y15
            generalize y 16 = y16
            clear mk hvv hy hall e17 HCo hWI hdown hrun
            go_wp2
            exact ⟨⟨j + 1, by omega, by simp, hid (by rw [HF.out]; exact HJ4.out), hk4⟩, by show n - ((j : Int) + 1).toNat < n - ((j : Int)).toNat; omega⟩
      · obtain rfl : j = n := by omega
        go_wp2
        go_ret
        exact ⟨rfl, HJw.out, hk1⟩
end Go.Proofs.Ytgegjhgifeobdaa


namespace Go.Proofs.Ytgegjhgifeobdaa
set_option linter.unusedSimpArgs false
set_option linter.unusedVariables false
open Go.RowKit Go.Lib Go.Shelf Go.Proofs.YtgegjhgifeobdaaW.PrintWords

set_option maxHeartbeats 1000000 in
set_option maxRecDepth 100000 in
theorem lists_iter (n k B Bk Bn : Nat) (w : World) (hn : n ≤ 16) (hk : k ≤ 16) (h1 : B ≤ Bk) (h3 : B ≤ Bn) (l1 : Bk < w.heap.size) (l3 : Bn < w.heap.size) (ck : w.cell? ⟨Bk, 0, none⟩ = some (.int .i64 k)) (cn : w.cell? ⟨Bn, 0, none⟩ = some (.int .i64 n)) :
    IterM Try.prog 55 (fun y => #[] ++ #[y] ++ #[.pointer (some ⟨Bk, 0, none⟩), .pointer (some ⟨Bn, 0, none⟩)]) (fun x v W => ROw B x v W) (KC B) (lsL n k []) w := by
  intro l J W hW hsz hJ hY h0
  have hg : ∀ s W1 W2, J s W1 → W1.grownBy W2 none → J s W2 := fun s W1 W2 hs hg => hJ s W1 W2 none hs hg (by rintro r ⟨⟩)
  have ck' := (hW.cell (p := ⟨Bk, 0, none⟩) l1).trans ck
  have cn' := (hW.cell (p := ⟨Bn, 0, none⟩) l3).trans cn
  obtain ⟨W3, hW3⟩ : ∃ W3, ((W.alloc (.cells #[.func (.yield l) #[] #[]] 102)).alloc (.cells #[Value.nilFunc] 102)).setCell ⟨W.heap.size + 1, 0, none⟩ (downV Bk W.heap.size Bn (W.heap.size + 1)) = W3 := ⟨_, rfl⟩
  have hb3 : Below W.heap.size W W3 := by rw [← hW3]; exact (below_alloc (below_alloc (Below.refl _ _) _) _).setCell (p := ⟨W.heap.size + 1, 0, none⟩) (Nat.le_succ _) _
  have hz3 : W.heap.size + 2 ≤ W3.heap.size := by rw [← hW3]; simp [go_sem]
  have k3 := (hb3.cell (p := ⟨Bk, 0, none⟩) (show Bk < _ by omega)).trans ck'
  have n3 := (hb3.cell (p := ⟨Bn, 0, none⟩) (show Bn < _ by omega)).trans cn'
  have y3 : W3.cell? ⟨W.heap.size, 0, none⟩ = some (.func (.yield l) #[] #[]) := by rw [← hW3]; simp [go_sem]
  have d3 : W3.cell? ⟨W.heap.size + 1, 0, none⟩ = some (downV Bk W.heap.size Bn (W.heap.size + 1)) := by rw [← hW3]; simp [go_sem]
  have HD := hid (down_any l B n k hn hk (lsL n k []) J hg hY Bk W.heap.size Bn (W.heap.size + 1) h1 (by omega) h3 (by omega) k [] (.slice none 0 0) [] W3 (by simp) (World.ownsRow_nil _ _ _ _) (by omega) (List.prefix_refl _) (hg _ _ _ h0 (grown_of_below hb3 none)) k3 y3 n3 d3)
  clear hY h0 hJ hg
  show Calls _ _ #[.func (.yield l) #[] #[], .pointer (some ⟨Bk, 0, none⟩), .pointer (some ⟨Bn, 0, none⟩)] _ _
  go_enter Try.func55, Try.ntmps55
  go_wp2_with (go_at_call 56; refine HD.out.mono ?_; rintro e w' ⟨rfl, hJ', -⟩)
  exact bodyPost_end (v := .tuple #[]) (by simp [results, Try.results55, go_sem]) rfl ⟨⟨_, rfl⟩, hJ'⟩
theorem lists_any (n k : Nat) (w : World) : Calls Try.prog 47 #[.int .i64 n, .int .i64 k] w fun e w' =>
    e = .returned (.func (.func 55) #[] #[.pointer (some ⟨w.heap.size + 1, 0, none⟩), .pointer (some ⟨w.heap.size, 0, none⟩)]) ∧
      w'.cell? ⟨w.heap.size + 1, 0, none⟩ = some (.int .i64 k) ∧ w'.cell? ⟨w.heap.size, 0, none⟩ = some (.int .i64 n) ∧ Below w.heap.size w w' ∧ w'.heap.size = w.heap.size + 2 := by
  go_enter Try.func47, Try.ntmps47
  go_wp2
  go_ret
  exact ⟨rfl, by simp [go_sem], by simp [go_sem], below_alloc (below_alloc (Below.refl _ _) _) _, by simp⟩
end Go.Proofs.Ytgegjhgifeobdaa
