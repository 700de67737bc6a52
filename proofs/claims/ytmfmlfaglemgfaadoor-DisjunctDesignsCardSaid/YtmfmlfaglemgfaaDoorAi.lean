/- disjunct.Apart's iterator, walked. -/
import Derived.Test.YtmfmlfaglemgfaaDoorSk
namespace Go.Proofs.YtmfmlfaglemgfaaDoor
set_option linter.unusedSimpArgs false
set_option linter.unusedVariables false
open Go.RowKit Go.Lib Go.Shelf Go.Proofs.YtmfmlfaglemgfaaDoorW.PrintWords
attribute [local go_sem] Oper.semAt_some
/-- In how many places a word and each earlier one differ. -/
def apI (ls : List Nat) (i : Nat) : List Int := (ls.take i).map fun b => ((cnt (ls.getD i 0 ^^^ b) 64 : Nat) : Int)
def apartL (ls : List Nat) : Nat → List Int
  | 0 => []
  | k + 1 => apartL ls k ++ apI ls k
theorem apartL_pre (ls : List Nat) {k : Nat} : ∀ {m : Nat}, k ≤ m → apartL ls k <+: apartL ls m := by
  intro m hm
  induction m with
  | zero => rw [Nat.le_zero.1 hm]; exact List.prefix_refl _
  | succ m ih =>
    rcases Nat.lt_or_ge k (m + 1) with h | h
    · exact (ih (by omega)).trans ⟨_, rfl⟩
    · rw [show k = m + 1 by omega]; exact List.prefix_refl _
set_option maxHeartbeats 4000000 in
set_option maxRecDepth 100000 in
theorem apart_iter (n c : Nat) (A : Option Addr) (ls : List Nat) (hc : n ≤ c) (hn : n < 2 ^ 40) (Bl B0 : Nat) (w0 w : World) (hz0 : w0.heap.size = B0) (hB : BlC w0 A n ls) (hls : ∀ b ∈ ls, b < 32768)
    (hp : w0.cell? ⟨Bl, 0, none⟩ = some (.slice A n c)) (hb0 : Below B0 w0 w) :
    Iter2 Tryd.prog 29 (fun y => #[] ++ #[y] ++ #[.pointer (some ⟨Bl, 0, none⟩)]) (fun x : Int => #[.int .i64 x]) (KZ B0 (w.heap.size + 2)) (KZ B0 (w.heap.size + 2)) (apartL ls ls.length) w := by
  intro l J Jx W hW hsz hJ hJx hY h0
  have hlt0 : Bl < B0 := by rw [← hz0]; exact World.block_lt_of_cell? w0 _ hp
  have hLow : Low B0 w0 W := Low.of_below hz0 (below_then hb0 (by have := hb0.size; omega) hW)
  have HC := hid (fun W2 (h : Low B0 w0 W2) => show W2.cell? ⟨Bl, 0, none⟩ = some (.slice A n c) from (World.cell?_of_block (w := w0) (a := ⟨Bl, 0, none⟩) (h.2 Bl hlt0)).trans hp)
  have p0 := HC.out W hLow
  obtain ⟨hn1, _⟩ := id hB
  have HY := hid hY
  have HB := hid hB
  have HLS := hid hls
  have H0 := hid h0
  have HLow := hid hLow
  clear hY hB hls hp h0 hLow hJ hJx
  subst hn1
  refine (callsIn_wide (n := 3)).1 ?_
  refine callsIn_of_wp Tryd.func29 rfl trivial ?_ rfl
  simp only [Tryd.ntmps29, List.size_toArray, List.length_cons, List.length_nil, Nat.reduceAdd, Nat.reduceSub, Array.replicate_succ, Array.replicate_zero, List.push_toArray, List.append_toArray, List.nil_append, List.cons_append]
  gi_wp2
  gi_loopw [9] (fun iv wr => ∃ k : Nat, k ≤ ls.length ∧ iv = .int .i64 k ∧ Hid (J (apartL ls k) wr) ∧ Hid (Low B0 w0 wr)) (fun iv _ => ls.length - (intOf iv).toNat)
  case atStart => exact ⟨0, by omega, rfl, H0, HLow⟩
  case round =>
    obtain ⟨k, hk, rfl, HJ, HL⟩ := hrel
    clear H0 HLow p0
    by_cases hlt : k < ls.length
    · obtain ⟨ad, a, e, hca, ha64, HTa⟩ := (HL.out.nlc hz0 HB.out).at_ hlt
      cases e
      have pl := HC.out wr HL.out
      have hga : ls.getD k 0 = a := by rw [List.getD_eq_getElem?_getD, HTa.out.2.1]; rfl
      have ha15 := HLS.out a HTa.out.2.2
      have HIL := hid (show (apI ls k).length = k from by rw [apI, List.length_map, List.length_take]; omega)
      have HPRE := hid (apartL_pre ls (show k + 1 ≤ ls.length by omega))
      gi_wp2
      gi_loopw [18] (fun jv wr => ∃ j : Nat, j ≤ k ∧ jv = .int .i64 j ∧ Hid (J (apartL ls k ++ (apI ls k).take j) wr) ∧ Hid (Low B0 w0 wr)) (fun jv _ => k - (intOf jv).toNat)
      case atStart => exact ⟨0, by omega, rfl, hid (by simpa using HJ.out), HL⟩
      case round =>
        obtain ⟨j, hj, rfl, HJ2, HL2⟩ := hrel
        clear HJ HL
        by_cases hlt2 : j < k
        · obtain ⟨ad', b, e, hcb, hb64, HTb⟩ := (HL2.out.nlc hz0 HB.out).at_ (show j < ls.length by omega)
          cases e
          have hb15 := HLS.out b HTb.out.2.2
          have hx : a ^^^ b < 32768 := Nat.xor_lt_two_pow (n := 15) ha15 hb15
          have ex : bits .xor .u64 (a : Int) (b : Int) = ((a ^^^ b : Nat) : Int) := u64_xor_nat _ _ (by omega) (by omega)
          obtain ⟨x, hxx⟩ : ∃ x, a ^^^ b = x := ⟨_, rfl⟩
          have HV := hid (show (apI ls k).take (j + 1) = (apI ls k).take j ++ [((cnt x 64 : Nat) : Int)] from by
            have h1 : (apI ls k)[j]? = some ((cnt x 64 : Nat) : Int) := by rw [apI, List.getElem?_map, List.getElem?_take, if_pos hlt2, HTb.out.2.1, hga, ← hxx]; rfl
            obtain ⟨h2, h3⟩ := List.getElem?_eq_some_iff.1 h1
            rw [List.take_succ_eq_append_getElem h2, h3])
          have hp2 : (apartL ls k ++ (apI ls k).take j) ++ [((cnt x 64 : Nat) : Int)] <+: apartL ls ls.length := by
            rw [List.append_assoc, ← HV.out]
            exact List.IsPrefix.trans (show _ <+: apartL ls (k + 1) from by
              rw [apartL]
              exact (List.prefix_append_right_inj _).2 (List.take_prefix _ _)) HPRE.out
          rw [hxx] at hx ex
          have ONE := hid (fun W2 => ones_any x hx W2)
          obtain ⟨oc, hoc⟩ : ∃ oc : Int, ((cnt x 64 : Nat) : Int) = oc := ⟨_, rfl⟩
          rw [hoc] at ONE hp2 HV
          obtain ⟨fn, tmps, assign, body, hy, hR⟩ := HY.out 2 _ oc wr hp2 HJ2.out
          have HP2 := hid hp2
          clear hxx hoc hx hp2 hga
          gi_wp2_with (refine ⟨trivial, ?_⟩; gi_at_call 25; refine (callsIn_wide.2 (ONE.out _)).mono ?_; rintro e w' ⟨rfl, rfl⟩)
          refine RoundIn.mono hR ?_
          clear hR hy
          rintro e W3 (⟨rfl, hJ', hk3⟩ | ⟨rfl, hJ', hk3⟩)
          · have HJ3 := hid hJ'
            have HK3 := hid hk3
            clear hJ' hk3
            gi_wp2
            exact ⟨⟨j + 1, by omega, by go_num, hid (by rw [HV.out, ← List.append_assoc]; exact HJ3.out), hid (HL2.out.kz HK3.out)⟩, by simp [intOf]; omega⟩
          · have HJ3 := hid hJ'
            clear hJ' hk3
            gi_wp2
            refine bodyPost_ret (v := .tuple #[]) (results_none rfl _ _ _) rfl ⟨⟨_, rfl⟩, .inr ⟨_, HP2.out, HJ3.out⟩⟩
        · have : j = k := by omega
          subst this
          have HJ3 := hid (show J (apartL ls (j + 1)) wr from by have h := HJ2.out; rw [List.take_of_length_le (by rw [HIL.out]; omega)] at h; exact h)
          clear HJ2 hga
          gi_wp2
          exact ⟨⟨j + 1, by omega, by go_num, HJ3, HL2⟩, by simp [intOf]; omega⟩
    · have : k = ls.length := by omega
      subst this
      gi_wp2
      go_end0
      exact ⟨⟨_, rfl⟩, .inl HJ.out⟩
end Go.Proofs.YtmfmlfaglemgfaaDoor
