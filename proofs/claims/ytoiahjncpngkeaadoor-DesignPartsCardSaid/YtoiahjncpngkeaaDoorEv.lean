/- even (package design), walked. -/
import Derived.Test.YtoiahjncpngkeaaDoorSm
namespace Go.Proofs.YtoiahjncpngkeaaDoor
set_option linter.unusedSimpArgs false
set_option linter.unusedVariables false
open Go.RowKit Go.Lib Go.Shelf Go.Proofs.YtoiahjncpngkeaaDoorW.PrintWords
attribute [local go_sem] Oper.semAt_some

/-- An owned row of integers is one that can be read. -/
theorem own_IC {w : World} {base n : Nat} {e : TypeId} {v : Value} {xs : List Int} (h : w.ownsRow base e 1 v n (nums .i64 xs)) :
    ∃ A c, v = .slice A n c ∧ n ≤ c ∧ c ≤ 9223372036854775807 ∧ IC w A n xs := by
  have hl : n = xs.length := by have := h.1; simp [nums] at this; omega
  subst hl
  have h' : (Kd.int .i64).R e w base (fun _ => True) v xs := Kd.R_of_own (enc := Value.int .i64) (by simpa [encs, nums] using h) (fun _ _ => trivial)
  obtain ⟨A, c, rfl, hc, hC⟩ := Kd.R_reads h'
  refine ⟨A, c, rfl, hc, ?_, hC⟩
  rcases h.2 with ⟨e1, _⟩ | ⟨g, cap, cur, e1, _, _, _, hm, _⟩
  · injection e1 with _ _ e1; omega
  · injection e1 with _ _ e1; simp only [maxLen] at hm; omega

/-- All points are in equally many blocks. -/
def evB (V : Nat) (bs : List Nat) : Bool := (degL V bs).all fun d => d == rd (degL V bs) 0
set_option maxHeartbeats 1000000 in
set_option maxRecDepth 100000 in
theorem even_any (V : Nat) (hV : V ≤ 16) (A : Option Addr) (n c : Nat) (bs : List Nat) (w : World) (hB : BlC w A n bs) (hn : n < 2 ^ 40) (hb14 : ∀ b ∈ bs, b < 16384) (hbV : ∀ b ∈ bs, ∀ p ∈ ptsL b, p < V) (hT : TabOk w) :
    Calls Tryd.prog 62 #[.agg #[.int .i64 V, .slice A n c]] w fun e w' => e = .returned (.bool (evB V bs)) ∧ Below w.heap.size w w' := by
  have hu2 := Tryd.underlying31
  have HB14 := hid hb14
  have HBV := hid hbV
  clear hb14 hbV
  go_enter Tryd.func62, Tryd.ntmps62
  have hb1 : Below w.heap.size w (w.alloc (.cells #[.int .i64 V, .slice A n c] 31)) := below_alloc (Below.refl _ _) _
  have hB1 := hB.below hb1
  have hT1 := hT.below hb1
  go_wp2_with (go_at_call 24; refine (degrees_any V hV A n c bs _ hB1 hn HB14.out HBV.out hT1).mono ?_; rintro e w2 ⟨v, rfl, ho, hb2⟩; obtain ⟨D, c2, rfl, hcc, hcm, hD⟩ := own_IC ho)
  have hlD := hD.len
  have hb3 : Below w.heap.size w w2 := below_then hb1 (by simp) hb2
  go_loopw [10] (fun i wr => wr = w2 ∧ ∃ k : Nat, k ≤ V ∧ i = .int .i64 k ∧ Hid (∀ x ∈ (degL V bs).take k, x = rd (degL V bs) 0)) (fun i _ => V - (intOf i).toNat)
  case atStart => exact ⟨rfl, 0, by omega, rfl, (show ∀ x ∈ _, _ from by simp)⟩
  case round =>
    obtain ⟨rfl, k, hk, rfl, HE⟩ := hrel
    by_cases hlt : k < V
    · obtain ⟨ad, x, rfl, hcx, HX⟩ := hD.at_ hlt
      obtain ⟨ad', y, e', hcy, HY⟩ := hD.at_ (show 0 < V by omega)
      cases e'
      have hcy0 : wr.cell? ad = some (.int .i64 y) := by simpa [go_sem] using hcy
      clear hcy
      have HY2 := hid (show y = rd (degL V bs) 0 from by have := HY.out.2.2; simpa using this.symm)
      by_cases hxy : x = y
      · have hne : (x != y) = false := by simp [hxy]
        have HXY := hid hxy
        clear hxy
        go_wp2
        go_roundw
        case rel => exact ⟨trivial, k + 1, by omega, by go_num, (show ∀ z ∈ _, _ from by
          intro z hz
          rw [HX.out.1, List.mem_append] at hz
          rcases hz with hz | hz
          · exact HE.out z hz
          · rw [List.mem_singleton.1 hz, HXY.out]; exact HY2.out)⟩
        case measure => simp [intOf]; omega
      · have hne : (x != y) = true := by simp [hxy]
        have HXY := hid hxy
        clear hxy
        go_wp2
        go_ret
        refine ⟨ret_bool ?_, hb3⟩
        symm
        rw [evB, List.all_eq_false]
        refine ⟨x, List.mem_of_getElem? HX.out.2.1, ?_⟩
        have h3 := HXY.out
        rw [HY2.out] at h3
        simp [h3]
    · have : k = V := by omega
      subst this
      go_wp2
      go_ret
      refine ⟨ret_bool ?_, hb3⟩
      symm
      rw [evB, List.all_eq_true]
      intro x hx
      have := HE.out x (by rwa [List.take_of_length_le (by rw [degL_len]; exact Nat.le_refl _)])
      simp [this]
end Go.Proofs.YtoiahjncpngkeaaDoor
