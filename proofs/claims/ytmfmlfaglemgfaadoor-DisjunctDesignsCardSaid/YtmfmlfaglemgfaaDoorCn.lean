/- slices.Clone of []uint64, walked. -/
import Derived.Test.YtmfmlfaglemgfaaDoorSv
import Derived.Lib.LazyBuf
namespace Go.Proofs.YtmfmlfaglemgfaaDoor
set_option linter.unusedSimpArgs false
set_option linter.unusedVariables false
open Go.RowKit Go.Lib Go.Proofs.YtmfmlfaglemgfaaDoorW.PrintWords
attribute [local go_sem] Oper.semAt_some

set_option maxHeartbeats 2000000 in
set_option maxRecDepth 100000 in
theorem clone_any (A : Option Addr) (n c : Nat) (bs : List Nat) (w : World) (hB : BlC w A n bs) (hn : n < 2 ^ 40) :
    Calls Tryd.prog 41 #[.slice A n c] w fun e w' => ∃ v, e = .returned v ∧ w'.ownsRow w.heap.size 48 1 v n (nums .u64 (il bs)) ∧ Below w.heap.size w w' := by
  obtain ⟨i0, hi0, hz0, hz1, hz2⟩ := info_parts infoU
  have hnil := run_eql_slice_nil w 28 _ A n c Tryd.underlying28
  obtain ⟨hn1, hC, _⟩ := id hB
  subst hn1
  rcases A with _ | ad
  · have hl0 : bs.length = 0 := by
      rcases Nat.eq_zero_or_pos bs.length with h0 | h0
      · exact h0
      · obtain ⟨ad, e, _⟩ := Kd.at_int hC 0 (by omega) (by omega); cases e
    obtain rfl : bs = [] := List.eq_nil_of_length_eq_zero hl0
    clear hC hB hl0 hnil
    have hnil : (binOp .eql 28 (.slice none 0 c) (.slice none 0 0)).run Tryd.prog w = .ok (.bool true) w := run_eql_slice_nil w 28 _ none 0 c Tryd.underlying28
    go_enter Tryd.func41, Tryd.ntmps41
    go_wp2
    go_ret
    exact ⟨.slice none 0 0, rfl, ⟨by simp [nums, il], .inl ⟨rfl, by simp [nums, il]⟩⟩, Below.refl _ _⟩
  · have HR := hid (Reads.of_C hC)
    clear hC
    go_enter Tryd.func41, Tryd.ntmps41
    go_wp2_with (
      at_builtin
      refine wpList_append_any _ rfl (.tmp 5) (.tmp 6) _ rfl w.heap.size 48 i0 _ 1 8 Tryd.underlying28 hi0 hz0 hz1 hz2 rfl (by decide) (.slice (some ⟨w.heap.size, 0, none⟩) 0 0) 0 [] (by simp [Act.eval])
        (own_empty (heap_new rfl) (Nat.le_refl _)) w.heap.size (some ad) bs.length c (nums .u64 (il bs)) (by simp [Act.eval])
        (HR.out.keep fun p hp => World.cell?_alloc_lt w _ p hp) (nums_one _ _) (by simp only [maxLen] <;> omega) (by omega) (by simp) ?_
      intro v1 w1 hown1 hg1 hat1
      have hb1 : Below w.heap.size w w1 := below_grown_own (below_alloc (Below.refl _ _) _) (by simp) hg1 (by intro k hk; simp [Value.ownBlock] at hk; omega)
      have HO1 := hid hown1
      clear hown1)
    go_ret
    exact ⟨v1, rfl, by have := HO1.out; simpa using this, hb1⟩
end Go.Proofs.YtmfmlfaglemgfaaDoor
