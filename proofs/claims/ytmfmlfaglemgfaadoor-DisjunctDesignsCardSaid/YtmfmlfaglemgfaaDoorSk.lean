/- disjunct.Slack, walked. -/
import Derived.Test.YtmfmlfaglemgfaaDoorSl
namespace Go.Proofs.YtmfmlfaglemgfaaDoor
set_option linter.unusedSimpArgs false
set_option linter.unusedVariables false
open Go.RowKit Go.Lib Go.Shelf Go.Proofs.YtmfmlfaglemgfaaDoorW.PrintWords
attribute [local go_sem] Oper.semAt_some
/-- The slack of a pool. -/
def slackN (V d : Nat) (bs : List Nat) : Int := mlist bs.length (slackL V d bs V)
set_option maxHeartbeats 1000000 in
set_option maxRecDepth 100000 in
theorem slack_any (V d n c : Nat) (A : Option Addr) (E : Int) (bs : List Nat) (hV : V ≤ 16) (hd : d ≤ 16) (hn : n ≤ 15) (w : World) (hB : BlC w A n bs) :
    Calls Tryd.prog 7 #[.agg #[.int .i64 V, .slice A n c, .int .i64 d, .int .i64 E]] w fun e w' => e = .returned (.int .i64 (slackN V d bs)) ∧ Below w.heap.size w w' := by
  have hu := Tryd.underlying30
  obtain ⟨hn1, _⟩ := id hB
  subst hn1
  have HB := hid hB
  clear hB
  go_enter Tryd.func7, Tryd.ntmps7
  have L1 := hid (fun w1 (hw : w.alloc (.cells #[.int .i64 V, .slice A bs.length c, .int .i64 d, .int .i64 E] 30) = w1) =>
    least_any (bs.length : Int) 22 #[.pointer (some ⟨w.heap.size, 0, none⟩)] (slackL V d bs V) w1 (enters_of Tryd.func22 (by kernel_rfl) rfl) (fun W hW =>
      slack_iter V d bs.length c A E bs hV hd hn w.heap.size w1.heap.size w1 W rfl (by rw [← hw]; exact HB.out.below (below_alloc (Below.refl _ _) _)) (by rw [← hw]; exact Blk.new _ _ _) hW))
  go_wp2_with (go_at_call 21; refine (L1.out _ rfl).mono ?_; rintro e w' ⟨rfl, hb⟩)
  go_ret
  exact ⟨rfl, below_then (below_alloc (Below.refl _ _) _) (by simp) hb⟩
end Go.Proofs.YtmfmlfaglemgfaaDoor
