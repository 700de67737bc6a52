/- design.Resolve, walked. -/
import Derived.Test.YtoiahjncpngkeaaDoorCl
namespace Go.Proofs.YtoiahjncpngkeaaDoor
set_option linter.unusedSimpArgs false
set_option linter.unusedVariables false
open Go.RowKit Go.Lib Go.Proofs.YtoiahjncpngkeaaDoorW.PrintWords

theorem class_any (w0 : World) (g V : Nat) (A : Option Addr) (n c : Nat) (bs : List Nat) (hB : BlC w0 A n bs) (hn : n ≤ 14) (hV1 : 1 ≤ V) (hV : V ≤ 7) (hb7 : ∀ b ∈ bs, b < 2 ^ V) (hg : w0.heap.size ≤ g) (hT : TabOk w0) : ∀ f, ClassP w0 g V A n c bs f := by
  intro f
  induction f using Nat.strongRecOn with
  | _ f ih =>
    intro u out cur i all W outv vs hP hp ha hi hca
    cases f with
    | zero => exfalso; unfold pot at hp; omega
    | succ f =>
      by_cases hall : all = 2 ^ V - 1
      · exact class_full w0 g V A n c bs f (ih f (by omega)) hB hn hV1 hV hg hT u out cur i all W outv vs hP hp hi hca hall
      · exact class_loop w0 g V A n c bs f (fun f' hf' => ih f' (by omega)) hB hn hV1 hV hb7 hg hT u out cur i all W outv vs hP hp hi ha hca hall

/-- What Resolve leaves. -/
def RPost (w : World) (V : Nat) (bs : List Nat) (e : Ending) (w' : World) : Prop :=
  ∃ v vs, e = .returned (.tuple #[v, .int .i64 (resL V bs).2]) ∧ OutC w' w.heap.size v vs (resL V bs).1 ∧ Below w.heap.size w w'
theorem RPost.none_ {w w' : World} {V : Nat} {bs : List Nat} {k : Int} (h : resL V bs = ([], k)) (hb : Below w.heap.size w w') : RPost w V bs (.returned (.tuple #[.slice none 0 0, .int .i64 k])) w' :=
  ⟨_, [], by rw [h], by rw [h]; exact OutC.nil _ _, hb⟩

set_option maxHeartbeats 2000000 in
set_option maxRecDepth 100000 in
theorem resolve_any (V : Nat) (hV1 : 1 ≤ V) (hV : V ≤ 7) (A : Option Addr) (n c : Nat) (bs : List Nat) (w : World) (hB : BlC w A n bs) (hn : n < 2 ^ 40) (hb7 : ∀ b ∈ bs, b < 2 ^ V) (hbV : ∀ b ∈ bs, ∀ p ∈ ptsL b, p < V) (hT : TabOk w) :
    Calls Tryd.prog 43 #[.agg #[.int .i64 V, .slice A n c]] w (RPost w V bs) := by
  have hu2 := Tryd.underlying31
  have hu3 := Tryd.underlying100
  obtain ⟨hn1, -⟩ := id hB
  subst hn1
  by_cases h14 : 14 < bs.length
  · have HR := hid (show resL V bs = ([], 2) from by unfold resL; rw [if_pos h14])
    go_enter Tryd.func43, Tryd.ntmps43
    go_wp2
    go_ret2
    exact RPost.none_ HR.out (below_alloc (Below.refl _ _) _)
  · by_cases h0 : bs.length = 0
    · have HR := hid (show resL V bs = ([], 4) from by unfold resL; rw [if_neg h14, if_pos (.inl (List.eq_nil_of_length_eq_zero h0))])
      have hl0 : ((bs.length : Int) == 0) = true := by rw [h0]; rfl
      have h14' : bs.length ≤ 14 := by omega
      clear h0
      go_enter Tryd.func43, Tryd.ntmps43
      go_wp2
      go_ret2
      exact RPost.none_ HR.out (below_alloc (Below.refl _ _) _)
    · have hl0 : ((bs.length : Int) == 0) = false := by simp; exact fun e => h0 (by simp [e])
      have h14' : bs.length ≤ 14 := by omega
      have hne : bs ≠ [] := fun e => h0 (by simp [e])
      obtain ⟨ad, b, hA, hcb, hb64, HTk⟩ := hB.at_ (show 0 < bs.length by omega)
      subst hA
      have hcb0 : w.cell? ad = some (.int .u64 b) := by simpa [go_sem] using hcb
      have hc0 : (w.alloc (.cells #[.int .i64 V, .slice (some ad) bs.length c] 31)).cell? ad = some (.int .u64 b) := (World.cell?_alloc_lt w _ _ (World.block_lt_of_cell? w _ hcb0)).trans hcb0
      have hbg : bs.getD 0 0 = b := by rw [List.getD_eq_getElem?_getD, HTk.out.2.1]; rfl
      have hpos : 0 < (bs.length : Int) := by omega
      have HNE := hid hne
      have HBG := hid hbg
      have HN14 := hid h14
      clear hbg hne hcb HTk h0 h14 hcb0
      by_cases hz : b = 0
      · have hbz : ((b : Int) == 0) = true := by rw [hz]; rfl
        have HR := hid (show resL V bs = ([], 4) from by unfold resL; rw [if_neg HN14.out, if_pos (.inr (.inl (by rw [HBG.out, hz])))])
        clear hz
        go_enter Tryd.func43, Tryd.ntmps43
        go_wp2
        go_ret2
        exact RPost.none_ HR.out (below_alloc (Below.refl _ _) _)
      · have hbz : ((b : Int) == 0) = false := by simp; omega
        have B1 := below_alloc (Below.refl w.heap.size w) (.cells #[.int .i64 V, .slice (some ad) bs.length c] 31)
        have EV := hid (even_any V (by omega) (some ad) bs.length c bs _ (hB.below B1) hn (fun x hx => Nat.lt_of_lt_of_le (hb7 x hx) (Nat.le_trans (Nat.pow_le_pow_right (by decide) hV) (by decide))) hbV (hT.below B1))
        have hBz := hid hz
        clear hz
        cases hev : evB V bs with
        | false =>
          rw [hev] at EV
          have HR := hid (show resL V bs = ([], 4) from by unfold resL; rw [if_neg HN14.out, if_pos (.inr (.inr hev))])
          clear hev
          go_enter Tryd.func43, Tryd.ntmps43
          go_wp2_with (go_at_call 62; refine EV.out.mono ?_; rintro e w2 ⟨rfl, hb2⟩)
          go_ret2
          exact RPost.none_ HR.out (below_then B1 (by simp) hb2)
        | true =>
          rw [hev] at EV
          have HEV := hid hev
          clear hev
          have HR := hid (show resL V bs = match (if bs.length ≤ fz bs.length 0 then some [] else rgo V bs ((bs.length + 1) * (2 * bs.length + 4)) 0 [] [] (fz bs.length 0) 0) with
              | some r => (r.map il, 0)
              | none => ([], 4) from by unfold resL; rw [if_neg HN14.out, if_neg (by rw [HBG.out, HEV.out]; simp [HNE.out, hBz.out])]; rfl)
          have NX : ∀ w2, Below (w.heap.size + 1) (w.alloc (.cells #[.int .i64 V, .slice (some ad) bs.length c] 31)) w2 →
              Below w.heap.size w (w2.alloc (.cells #[.int .i64 V, .slice (some ad) bs.length c, .int .u64 0, .slice none 0 0] 100)) ∧ w2.cell? ⟨w.heap.size, 0, none⟩ = some (.int .i64 V) ∧ w2.cell? ⟨w.heap.size, 1, none⟩ = some (.slice (some ad) bs.length c) ∧
              Calls Tryd.prog 63 #[.pointer (some ⟨w2.heap.size, 0, none⟩)] (w2.alloc (.cells #[.int .i64 V, .slice (some ad) bs.length c, .int .u64 0, .slice none 0 0] 100))
                (SPost w w2.heap.size w.heap.size V (some ad) bs.length c (if bs.length ≤ fz bs.length 0 then some [] else rgo V bs ((bs.length + 1) * (2 * bs.length + 4)) 0 [] [] (fz bs.length 0) 0) 0 []) := by
            intro w2 hb2
            have hbw : Below w.heap.size w w2 := below_then B1 (by simp) (by simpa using hb2)
            have h3 := below_alloc hbw (.cells #[.int .i64 V, .slice (some ad) bs.length c, .int .u64 0, .slice none 0 0] 100)
            have hblk : w2.heap[w.heap.size]? = some (.cells #[.int .i64 V, .slice (some ad) bs.length c] 31 (0, 0)) := (hb2.block _ (by omega)).trans (heap_alloc_new w _)
            refine ⟨h3, (blk_cell hblk 0).trans rfl, (blk_cell hblk 1).trans rfl, ?_⟩
            have hle := hbw.size
            have C := class_any w w2.heap.size V (some ad) bs.length c bs hB h14' hV1 hV hb7 hle hT ((bs.length + 1) * (2 * bs.length + 4))
            refine next_any w w2.heap.size V (some ad) bs.length c bs _ C hB h14' hV hle hT 0 [] _ (.slice none 0 0) [] (Nat.two_pow_pos _) (by simpa using un_le _ _) h3 (heap_alloc_new w2 _) (OutC.nil _ _) ?_
            unfold pot
            rw [if_pos rfl]
            have h4 := Nat.mul_le_mul_right (2 * bs.length + 4) (un_le bs.length 0)
            rw [Nat.add_mul]
            omega
          have P := hid NX
          clear NX
          go_enter Tryd.func43, Tryd.ntmps43
          go_wp2_with (first
            | (go_at_call 62; refine EV.out.mono ?_; rintro e w2 ⟨rfl, hb2⟩; obtain ⟨hb3, d0, d1, hC⟩ := P.out w2 (by simpa using hb2); have HC := hid hC; clear hC)
            | (go_at_call 63; refine HC.out.mono ?_; rintro e W' ⟨ov, vs', u', hb', hS', ⟨r, hr, rfl, hO'⟩ | ⟨hr, rfl, h2, h3⟩⟩; all_goals have HRR := hid hr; all_goals clear hr; all_goals have z3 : W'.cell? ⟨w2.heap.size, 3, none⟩ = some ov := (blk_cell hS' 3).trans rfl))
          · go_ret2
            have h1 : resL V bs = (r.map il, 0) := by rw [HR.out, HRR.out]
            exact ⟨ov, vs', by rw [h1]; rfl, by rw [h1]; exact hO', hb'⟩
          · go_ret2
            exact RPost.none_ (by rw [HR.out, HRR.out]) hb'
end Go.Proofs.YtoiahjncpngkeaaDoor
