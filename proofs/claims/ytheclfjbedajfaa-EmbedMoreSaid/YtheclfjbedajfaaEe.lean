/- What the printed functions of chapter 42 compute, Check and best among them; no walk in sight. -/
import Derived.Test.YtheclfjbedajfaaEn
import Derived.Test.YtheclfjbedajfaaPdx3
import Derived.Test.YtheclfjbedajfaaPdx8
namespace Go.Proofs.Ytheclfjbedajfaa.Pd
set_option linter.unusedSimpArgs false
set_option linter.unusedVariables false
open Go.RowKit Go.Lib Go.Proofs.YtheclfjbedajfaaW.PrintWords Go.Proofs.Ytheclfjbedajfaa Go.Proofs.YtheclfjbedajfaaW.PrintMore

/-- From some number of rounds on, the same answer. -/
def Ev {α : Type} (g : Nat → Option α) (r : α) : Prop := ∃ K0, ∀ K, K0 ≤ K → g K = some r
theorem Ev.succ {α : Type} {g g' : Nat → Option α} {r : α} (hs : ∀ k, g (k + 1) = g' k) (h : Ev g' r) : Ev g r := by
  obtain ⟨K0, h⟩ := h
  refine ⟨K0 + 1, fun K hK => ?_⟩
  obtain ⟨k, rfl⟩ : ∃ k, K = k + 1 := ⟨K - 1, by omega⟩
  rw [hs]
  exact h k (by omega)
theorem Ev.bind {α β : Type} {g : Nat → Option α} {f : Nat → α → Option β} {a : α} {r : β} (h : Ev g a) (hf : Ev (fun k => f k a) r) : Ev (fun k => (g k).bind (f k)) r := by
  obtain ⟨K0, h⟩ := h
  obtain ⟨K1, hf⟩ := hf
  exact ⟨max K0 K1, fun K hK => by show (g K).bind (f K) = _; rw [h K (by omega), Option.bind_some]; exact hf K (by omega)⟩
theorem okI_il {l : List Nat} (h : ∀ q ∈ l, q < 1000) : okI (il l) = true := okI_iff.2 fun x hx => by
  obtain ⟨i, hi, rfl⟩ := List.mem_map.1 hx
  have := h i hi
  simp [Lit.wf, IntKind.min, IntKind.max, IntKind.signed, IntKind.bits]
  omega
theorem doneL_lt {s n : Nat} : ∀ i ∈ doneL s n, i < n := fun i hi => List.mem_range.1 (List.mem_filter.1 hi).1
theorem doneL_nodup {s n : Nat} : (doneL s n).Nodup := List.nodup_range.sublist List.filter_sublist
theorem doneL_len {s n : Nat} : (doneL s n).length ≤ n := by
  have := List.length_filter_le (fun i => s.testBit i) (List.range n)
  rwa [List.length_range] at this
theorem kept_fE {F M D : List Int} (hM : M.length < 1000) (hD : D.length < 1000) : embed_Kept.f F M D = some (keptL M D) := by
  unfold embed_Kept.f
  exact if_pos ⟨Nat.lt_trans hM (by decide), Nat.lt_trans hD (by decide)⟩
end Go.Proofs.Ytheclfjbedajfaa.Pd
