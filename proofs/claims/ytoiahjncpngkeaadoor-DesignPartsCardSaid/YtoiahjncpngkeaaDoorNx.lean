/- (*design.search).next, walked, where the search itself does what is told. -/
import Derived.Test.YtoiahjncpngkeaaDoorRs
namespace Go.Proofs.YtoiahjncpngkeaaDoor
set_option linter.unusedSimpArgs false
set_option linter.unusedVariables false
open Go.RowKit Go.Lib Go.Proofs.YtoiahjncpngkeaaDoorW.PrintWords

def ClassP (w0 : World) (g V : Nat) (A : Option Addr) (n c : Nat) (bs : List Nat) (f : Nat) : Prop :=
  ∀ (u : Nat) (out : List (List Nat)) (cur : List Nat) (i all : Nat) (W : World) (outv : Value) (vs : List Value), SPre w0 g w0.heap.size V A n c bs u out cur W outv vs → pot bs.length u cur i ≤ f → all < 2 ^ V → i ≤ bs.length → (cur = [] → all = 0) →
    Calls Tryd.prog 72 #[.pointer (some ⟨g, 0, none⟩), .int .i64 i, .int .u64 all] W (SPost w0 g w0.heap.size V A n c (rgo V bs f u out cur i all) u (out.map il ++ [il cur]))

theorem infoR : (Tryd.prog.info? 50).map (fun i => (i.zero, i.size, i.bytes)) = some (some (.slice none 0 0), 1, 24) := by kernel_rfl
theorem not_form {u : Nat} (h : u < 2 ^ 64) : bits BinOp.xor IntKind.u64 IntKind.u64.max (u : Int) = ((2 ^ 64 - 1 - u : Nat) : Int) := by
  have e : (18446744073709551615 : Nat) ^^^ u = 2 ^ 64 - 1 - u := by
    apply Nat.eq_of_testBit_eq
    intro i
    rw [Nat.testBit_xor, show 2 ^ 64 - 1 - u = 2 ^ 64 - (u + 1) from by omega, Nat.testBit_two_pow_sub_succ (by omega), show 18446744073709551615 = 2 ^ 64 - 1 from rfl, Nat.testBit_two_pow_sub_one]
    by_cases hi : i < 64
    · simp [hi]
    · have : u.testBit i = false := Nat.testBit_lt_two_pow (Nat.lt_of_lt_of_le h (Nat.pow_le_pow_right (by decide) (by omega)))
      simp [hi, this]
  have hm : IntKind.u64.max = ((18446744073709551615 : Nat) : Int) := rfl
  rw [hm, ← e]
  have h1 : (18446744073709551615 ^^^ u : Nat) < 2 ^ 64 := by rw [e]; omega
  simp only [bits, BitVec.ofInt_natCast, BitVec.toNat_xor, BitVec.toNat_ofNat]
  rw [show (18446744073709551615 % 2 ^ IntKind.u64.bits : Nat) = 18446744073709551615 from by decide, Nat.mod_eq_of_lt (show u < 2 ^ IntKind.u64.bits from h)]
  exact wrapU_nat h1
set_option maxHeartbeats 1000000 in
set_option maxRecDepth 100000 in
theorem next_any (w0 : World) (g V : Nat) (A : Option Addr) (n c : Nat) (bs : List Nat) (f : Nat) (hC : ClassP w0 g V A n c bs f) (hB : BlC w0 A n bs) (hn : n ≤ 14) (hV : V ≤ 7) (hg : w0.heap.size ≤ g) (hT : TabOk w0)
    (u : Nat) (out : List (List Nat)) (W : World) (outv : Value) (vs : List Value) (hu : u < 2 ^ bs.length) (hroom : out.length + un bs.length u ≤ bs.length) (hW : Below w0.heap.size w0 W) (hS : Srch W g V A n c u outv) (hO : OutC W w0.heap.size outv vs (out.map il))
    (hp : pot bs.length u [] (fz bs.length u) ≤ f) :
    Calls Tryd.prog 63 #[.pointer (some ⟨g, 0, none⟩)] W (SPost w0 g w0.heap.size V A n c (if bs.length ≤ fz bs.length u then some out else rgo V bs f u out [] (fz bs.length u) 0) u (out.map il)) := by
  obtain ⟨hn1, _⟩ := id hB
  subst hn1
  obtain ⟨hz, hz0⟩ := fz_ctz (by omega) hu
  have hTW := hT.below hW
  have hub : u < 16384 := Nat.lt_of_lt_of_le hu (Nat.le_trans (Nat.pow_le_pow_right (by decide) hn) (by decide))
  have TZ := tz_any (2 ^ 64 - 1 - u) (by omega) hz0 W hTW
  rw [hz, ← not_form (show u < 2 ^ 64 by omega)] at TZ
  have TZ := hid TZ
  have c0 : W.cell? ⟨g, 0, none⟩ = some (.int .i64 V) := (blk_cell hS 0).trans rfl
  have c1 : W.cell? ⟨g, 1, none⟩ = some (.slice A bs.length c) := (blk_cell hS 1).trans rfl
  have c2 : W.cell? ⟨g, 2, none⟩ = some (.int .u64 u) := (blk_cell hS 2).trans rfl
  have c3 : W.cell? ⟨g, 3, none⟩ = some outv := (blk_cell hS 3).trans rfl
  have f3 : W.frozen? ⟨g, 3, none⟩ = false := blk_frozen hS 3
  have HZ := hid hz
  have HS := hid hS
  have HO := hid hO
  clear hz hS hO
  clear HZ
  obtain ⟨q, hq⟩ : ∃ q, fz bs.length u = q := ⟨_, rfl⟩
  rw [hq] at TZ hp ⊢
  have HQ := hid hq
  clear hq hz0
  have hqn : q < 2 ^ 62 := by
    have h1 := HQ.out
    rcases Nat.lt_or_ge q (bs.length + 1) with h | h
    · omega
    · unfold fz at h1
      cases hf : (List.range bs.length).find? (fun j => !u.testBit j) with
      | none => rw [hf] at h1; simp at h1; omega
      | some x => rw [hf] at h1; have := List.mem_of_find?_eq_some hf; simp at this h1; omega
  by_cases hlt : bs.length ≤ q
  · rw [if_pos hlt]
    have hge : decide ((bs.length : Int) ≤ (q : Int)) = true := by simp; omega
    go_enter Tryd.func63, Tryd.ntmps63
    go_wp2_with (go_at_call 64; refine TZ.out.mono ?_; rintro e w' ⟨rfl, rfl⟩)
    go_ret
    exact ⟨outv, vs, u, hW, HS.out, .inl ⟨out, rfl, rfl, HO.out⟩⟩
  · rw [if_neg hlt]
    have hge : decide ((bs.length : Int) ≤ (q : Int)) = false := by simp; omega
    have hol : vs.length + 1 ≤ 20 := by have := HO.out.2.1; simp at this; omega
    have POST : ∀ v1 w1, w1.ownsRow w0.heap.size 50 1 v1 (vs ++ [Value.slice none 0 0]).length (vs ++ [Value.slice none 0 0]) → W.grownBy w1 outv.ownBlock → Below w0.heap.size w0 w1 →
        Srch w1 g V A bs.length c u outv ∧ Calls Tryd.prog 72 #[.pointer (some ⟨g, 0, none⟩), .int .i64 q, .int .u64 0] (w1.setCell ⟨g, 3, none⟩ v1) (SPost w0 g w0.heap.size V A bs.length c (rgo V bs f u out [] q 0) u (out.map il)) := by
      intro v1 w1 hown hgr hb1
      have hgn : some g ≠ outv.ownBlock := own_ne HO.out.1 HS.out (by decide)
      have hS1 := HS.out.other hgr hgn (V := V)
      refine ⟨hS1, ?_⟩
      have hO1 := HO.out.push hown hgr
      have hS2 : Srch (w1.setCell ⟨g, 3, none⟩ v1) g V A bs.length c u v1 := by have := blk_set hS1 3 v1; simpa [Srch] using this
      have hO2 := hO1.other hS1 (by decide) 3 v1
      have hb2 : Below w0.heap.size w0 (w1.setCell ⟨g, 3, none⟩ v1) := hb1.setCell (by simpa using hg) _
      refine (hC u out [] q 0 _ v1 _ ⟨hu, by simpa using hroom, by simp; exact un_le _ _, hb2, hS2, hO2⟩ hp (Nat.two_pow_pos _) (by omega) (fun _ => rfl)).mono ?_
      rintro e W' ⟨ov, vs', u', hb', hS', h⟩
      refine ⟨ov, vs', u', hb', hS', h.imp id ?_⟩
      rintro ⟨h1, h2, h3, extra, h4⟩
      exact ⟨h1, h2, h3, [] :: extra, by simpa [il] using h4⟩
    have P := hid POST
    clear POST hp
    have hB1 : Below w0.heap.size w0 W := hW
    have hlen := hW.size
    go_enter Tryd.func63, Tryd.ntmps63
    go_wp2_with (first
      | (go_at_call 64; refine TZ.out.mono ?_; rintro e w' ⟨rfl, rfl⟩)
      | (at_builtin; refine print_append (w0 := w0) w0.heap.size rfl (.tmp 22) (.tmp 23) _ _ (.slice none 0 0) 24 rfl Tryd.underlying27 infoR rfl (by decide) outv vs (.slice none 0 0) (by simp [Act.eval]) (by simp [Act.eval]) rfl HO.out.1 hW hlen (by omega) ?_; intro v1 w1 hown1 hb1 hg1 hat1; have hq1 := P.out v1 w1 hown1 hg1 hb1; have d3 : w1.cell? ⟨g, 3, none⟩ = some outv := (blk_cell hq1.1 3).trans rfl; have e3 : w1.frozen? ⟨g, 3, none⟩ = false := blk_frozen hq1.1 3; have HQ1 := hid hq1.2; obtain ⟨A1, c1, rfl⟩ := own_slice (n := vs.length + 1) (by rw [List.length_append] at hown1; exact hown1); clear hq1 hown1 hb1 hg1 hat1)
      | (go_at_call 72; refine HQ1.out.mono ?_; rintro e W' ⟨ov, vs', u', hb', hS', ⟨r, hr, rfl, hO'⟩ | ⟨hr, rfl, h2, h3⟩⟩))
    · go_ret
      exact ⟨ov, vs', u', hb', hS', .inl ⟨r, by first | rfl | exact hr, rfl, hO'⟩⟩
    · go_ret
      exact ⟨ov, vs', u', hb', hS', .inr ⟨by first | rfl | exact hr, rfl, h2, h3⟩⟩
end Go.Proofs.YtoiahjncpngkeaaDoor
