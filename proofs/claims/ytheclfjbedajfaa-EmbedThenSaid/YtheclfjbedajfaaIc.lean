/- Lists of ints in memory, and embed.different, walked: a map[int]bool that the call makes and asks. -/
import Derived.Test.YtheclfjbedajfaaGl
import Derived.Test.YtheclfjbedajfaaIw
import Derived.Maps.RangeWalk
namespace Go.Proofs.Ytheclfjbedajfaa
set_option linter.unusedSimpArgs false
set_option linter.unusedVariables false
open Go.RowKit Go.Lib Go.Shelf Go.Proofs.YtheclfjbedajfaaW.PrintWords
attribute [local go_sem] Oper.semAt_some

abbrev IC (w : World) (A : Option Addr) (n : Nat) (xs : List Int) : Prop := (Kd.int .i64).C w A n xs
theorem IC.len {w : World} {A : Option Addr} {n : Nat} {xs : List Int} (h : IC w A n xs) : xs.length = n := h.1
theorem IC.at_ {w : World} {A : Option Addr} {n : Nat} {xs : List Int} (h : IC w A n xs) {k : Nat} (hk : k < n) :
    ∃ ad x, A = some ad ∧ w.cell? (ad.add k) = some (.int .i64 x) ∧ Hid (xs[k]? = some x ∧ rd xs k = x) := by
  obtain ⟨ad, e, hc⟩ := Kd.at_int h k (by omega) (by omega)
  have hl : k < xs.length := by rw [h.len]; omega
  refine ⟨ad, rd xs k, e, by simpa using hc, ?_⟩
  have hx : xs[k]? = some (rd xs k) := by
    unfold rd
    rw [List.getD_eq_getElem?_getD, Int.toNat_natCast, List.getElem?_eq_getElem hl]; rfl
  exact ⟨hx, rfl⟩
theorem own_IC {w : World} {base n : Nat} {e : TypeId} {v : Value} {xs : List Int} (h : w.ownsRow base e 1 v n (nums .i64 xs)) :
    ∃ A c, v = .slice A n c ∧ n ≤ c ∧ c ≤ 9223372036854775807 ∧ IC w A n xs := by
  have hl : n = xs.length := by have := h.1; simp [nums] at this; omega
  subst hl
  have h' : (Kd.int .i64).R e w base (fun _ => True) v xs := Kd.R_of_own (enc := Value.int .i64) (by simpa [encs, nums] using h) (fun _ _ => trivial)
  obtain ⟨A, c, rfl, hc, hC⟩ := Kd.R_reads h'
  refine ⟨A, c, rfl, hc, ?_, hC⟩
  rcases h.2 with ⟨e1, _⟩ | ⟨g, cap, cur, e1, _, _, _, hm, _⟩
  · injection e1 with _ _ e1; omega
  · injection e1 with _ _ e1; simp only [maxLen] at hm; omega

theorem keyedI : Maps.Keyed Try.prog 3 := Maps.int_keyed Try.underlying3
theorem zeroB (w : World) : (zeroValue 4).run Try.prog w = .ok (.bool false) w := by kernel_rfl
theorem plainElem_bool_inv {P : Program} {e : TypeId} (he : P.underlying e = some .bool) {v : Value} {z : DataW Unit × List MemPlace} (h : plainElem P e v = some z) : ∃ x, v = .bool x ∧ z = (.lit (.bool x), []) := by
  unfold plainElem at h
  rw [he] at h
  cases v <;> simp at h
  exact ⟨_, rfl, h.symm⟩
/-- A list has different numbers from 0 to n - 1. -/
def diffB (l : List Int) (n : Int) : Bool := (l.all fun x => decide (0 ≤ x) && decide (x < n)) && decide l.Nodup
theorem diffB_iff {l : List Int} {n : Int} : diffB l n = true ↔ (∀ x ∈ l, 0 ≤ x ∧ x < n) ∧ l.Nodup := by simp [diffB]
theorem diffB_bad {l : List Int} {n x : Int} {k : Nat} (hx : l[k]? = some x) (h : x < 0 ∨ n ≤ x ∨ x ∈ l.take k) : diffB l n = false := by
  cases hd : diffB l n
  · rfl
  · exfalso
    obtain ⟨h1, h2⟩ := diffB_iff.1 hd
    have hm := h1 x (List.mem_of_getElem? hx)
    rcases h with h | h | h
    · omega
    · omega
    · obtain ⟨hk, e⟩ := List.getElem?_eq_some_iff.1 hx
      obtain ⟨i, hi, ei⟩ := List.getElem_of_mem h
      rw [List.length_take] at hi
      rw [List.getElem_take] at ei
      exact (List.pairwise_iff_getElem.1 h2) i k (by omega) hk (by omega) (ei.trans e.symm)
theorem diffB_good {l : List Int} {n : Int} (h1 : ∀ x ∈ l, 0 ≤ x ∧ x < n) (h2 : ∀ k x, l[k]? = some x → x ∉ l.take k) : diffB l n = true := by
  refine diffB_iff.2 ⟨h1, List.pairwise_iff_getElem.2 fun i j hi hj hij e => ?_⟩
  refine h2 j l[j] (List.getElem?_eq_getElem hj) ?_
  rw [← e]
  exact List.mem_take_iff_getElem.2 ⟨i, by omega, rfl⟩
set_option maxHeartbeats 2000000 in
set_option maxRecDepth 100000 in
theorem different_any (A : Option Addr) (c : Nat) (l : List Int) (n : Int) (w : World) (hC : IC w A l.length l) (hl : l.length < 2 ^ 40) (hwf : ∀ x ∈ l, (Lit.int .i64 x).wf = true) :
    Calls Try.prog 34 #[.slice A l.length c, .int .i64 n] w fun e w' => e = .returned (.bool (diffB l n)) ∧ Below w.heap.size w w' := by
  have HWF := hid hwf
  clear hwf
  have hmm := @run_makeMap Try.prog
  go_enter Try.func34, Try.ntmps34
  go_upto_region 2 with (fail)
  obtain ⟨w1, hw1⟩ : ∃ w1, w.alloc (.map #[] 0) = w1 := ⟨_, rfl⟩
  have hmo : w1.ownsMap (H := Unit) Try.prog 3 (plainElem Try.prog 4) w.heap.size 0 (.map []) := by rw [← hw1]; exact World.ownsMap_made _ _ _ _
  have hb1 : Below w.heap.size w w1 := by rw [← hw1]; exact below_alloc (Below.refl _ _) _
  rw [hw1]
  clear hw1 hmm
  go_wp2
  go_loopw [4, 11] (fun z i wr => ∃ (k : Nat) (D : DataW Unit), k ≤ l.length ∧ z = .bool false ∧ i = .int .i64 k ∧ wr.ownsMap Try.prog 3 (plainElem Try.prog 4) w.heap.size k D ∧ Below w.heap.size w wr ∧ Hid (∀ x : Int, D.atKey (.int .i64 x) (.lit (.bool false)) = .lit (.bool (decide (x ∈ l.take k)))) ∧ Hid ((∀ x ∈ l.take k, 0 ≤ x ∧ x < n) ∧ ∀ j < k, ∀ x, l[j]? = some x → x ∉ l.take j)) (fun _ i _ => l.length - (intOf i).toNat)
  case atStart => exact ⟨0, _, by omega, rfl, rfl, hmo, hb1, fun x => by simp; rfl, by simp, fun j hj => by omega⟩
  case round =>
    clear hmo hb1
    obtain ⟨k, D, hk, rfl, rfl, hmo, hb, HD, HG⟩ := hrel
    by_cases hlt : k < l.length
    · obtain ⟨ad, x, rfl, hcx, HX⟩ := IC.at_ (Kd.C_below hC hb) hlt
      have hwx := HWF.out x (List.mem_of_getElem? HX.out.1)
      have htk : l.take (k + 1) = l.take k ++ [x] := by rw [List.take_add_one, HX.out.1]; rfl
      have HTK := hid htk
      clear htk
      by_cases h0 : x < 0
      · have q0 : decide (x < 0) = true := by simp [h0]
        have HF := hid (diffB_bad (n := n) HX.out.1 (.inl h0))
        clear h0
        go_wp2
        go_ret
        exact ⟨ret_bool HF.out.symm, hb⟩
      · have q0 : decide (x < 0) = false := by simp [h0]
        by_cases hn : n ≤ x
        · have q1 : decide (n ≤ x) = true := by simp [hn]
          have HF := hid (diffB_bad (n := n) HX.out.1 (.inr (.inl hn)))
          clear h0 hn
          go_wp2
          go_ret
          exact ⟨ret_bool HF.out.symm, hb⟩
        · have q1 : decide (n ≤ x) = false := by simp [hn]
          have hkey : keyOf Try.prog 3 (.int .i64 x) = some (.int .i64 x) := Maps.keyOf_int_mk Try.underlying3 hwx
          obtain ⟨v, ps, hrunL, hv⟩ := hmo.lookup (t := 88) keyedI Try.underlying88 (zeroB wr) (plainElem_bool Try.underlying4 false) hkey
          obtain ⟨bb, rfl, hbb⟩ := plainElem_bool_inv Try.underlying4 hv
          have hbv : bb = decide (x ∈ l.take k) := by
            have := congrArg Prod.fst hbb
            rw [HD.out x] at this
            simpa using this.symm
          have HXN := hid (show 0 ≤ x ∧ x < n by omega)
          by_cases hin : x ∈ l.take k
          · obtain rfl : bb = true := by rw [hbv]; simp [hin]
            have HF := hid (diffB_bad (n := n) HX.out.1 (.inr (.inr hin)))
            clear h0 hn hin hbv hbb hv
            go_wp2
            go_ret
            exact ⟨ret_bool HF.out.symm, hb⟩
          · obtain rfl : bb = false := by rw [hbv]; simp [hin]
            have HIN := hid hin
            clear h0 hn hin hbv hbb hv
            go_wp2_with (first
              | (at_mapUpdate; refine wpList_mapUpdate_own _ rfl _ _ _ 88 rfl 3 4 keyedI Try.underlying88 _ w.heap.size k D rfl hmo (by unfold maxLen; omega) _ _ _ rfl rfl hkey _ [] (plainElem_bool Try.underlying4 true) ?_; intro w1 hown1 hgrow1)
              | go_in)
            go_roundw
            case rel =>
              refine ⟨k + 1, _, by omega, rfl, by go_num, hown1, hb.grown hgrow1 hb.size (fun j hj => by cases hj; exact Nat.le_refl _), fun y => ?_, fun y hy => ?_, fun j hj y hy => ?_⟩
              · rw [HTK.out]
                by_cases hyx : y = x
                · subst hyx
                  rw [Maps.atKey_put_same hmo.isMap (show WideAt.IsKeyLit (.int .i64 y) from trivial)]
                  simp
                · rw [Maps.atKey_put_other (fun e => hyx (by cases e; rfl)), HD.out y]
                  simp [hyx]
              · rw [HTK.out] at hy
                rcases List.mem_append.1 hy with h | h
                · exact HG.out.1 y h
                · rw [List.mem_singleton] at h; subst h; exact HXN.out
              · rcases Nat.lt_or_ge j k with h | h
                · exact HG.out.2 j h y hy
                · obtain rfl : j = k := by omega
                  rw [HX.out.1] at hy
                  cases hy
                  exact HIN.out
            case measure => simp [intOf]; omega
    · obtain rfl : k = l.length := by omega
      have HF := hid (diffB_good (n := n) (l := l) (by rw [List.take_length] at HG; exact HG.out.1) (fun j x hx => HG.out.2 j (List.getElem?_eq_some_iff.1 hx).1 x hx))
      go_wp2
      go_ret
      exact ⟨ret_bool HF.out.symm, hb⟩
end Go.Proofs.Ytheclfjbedajfaa
