/- disjunct.upto, the call that makes the iterator, walked. -/
import Derived.Test.YtmfmlfaglemgfaaDoorUp
namespace Go.Proofs.YtmfmlfaglemgfaaDoor
set_option linter.unusedSimpArgs false
set_option linter.unusedVariables false
open Go.RowKit Go.Lib Go.Shelf Go.Proofs.YtmfmlfaglemgfaaDoorW.PrintWords
attribute [local go_sem] Oper.semAt_some
set_option maxHeartbeats 400000 in
theorem upto_any (items d : Nat) (w : World) : Calls Tryd.prog 23 #[.int .u64 items, .int .i64 d] w fun e w' =>
    e = .returned (.func (.func 35) #[] #[.pointer (some ⟨w.heap.size, 0, none⟩), .pointer (some ⟨w.heap.size + 1, 0, none⟩)]) ∧
    w'.cell? ⟨w.heap.size, 0, none⟩ = some (.int .u64 items) ∧ w'.cell? ⟨w.heap.size + 1, 0, none⟩ = some (.int .i64 d) ∧ Below w.heap.size w w' ∧ w'.heap.size = w.heap.size + 2 := by
  go_enter Tryd.func23, Tryd.ntmps23
  go_wp2
  go_ret
  refine ⟨by simp, by simp [go_sem], by simp [go_sem], below_alloc (below_alloc (Below.refl _ _) _) _, by simp⟩
end Go.Proofs.YtmfmlfaglemgfaaDoor
