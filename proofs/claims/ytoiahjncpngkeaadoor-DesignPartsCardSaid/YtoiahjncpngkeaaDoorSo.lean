/- A slice of slices of the call's own, as the printed contracts tell it; no condition. -/
import Derived.Test.YtoiahjncpngkeaaDoorRv
import Derived.Test.YtoiahjncpngkeaaDoorWNEv
namespace Go.Proofs.YtoiahjncpngkeaaDoor
set_option linter.unusedSimpArgs false
set_option linter.unusedVariables false
open Go.RowKit Go.Lib Go.Proofs.YtoiahjncpngkeaaDoorW.PrintWords

def blockIx (vs : List Value) (k : Nat) : Nat := (vs.findIdx? fun u => decide (u.ownBlock = some k)).getD 0
theorem blockIx_at {vs : List Value} {j k : Nat} {u : Value} (hu : vs[j]? = some u) (hk : u.ownBlock = some k) (hd : ∀ (i j : Nat) (u u' : Value) (b : Nat), vs[i]? = some u → vs[j]? = some u' → u.ownBlock = some b → u'.ownBlock = some b → i = j) : blockIx vs k = j := by
  unfold blockIx
  cases hf : vs.findIdx? fun u => decide (u.ownBlock = some k) with
  | none =>
    rw [List.findIdx?_eq_none_iff] at hf
    have := hf u (List.mem_of_getElem? hu)
    simp [hk] at this
  | some i =>
    rw [List.findIdx?_eq_some_iff_getElem] at hf
    obtain ⟨hi, h1, _⟩ := hf
    exact hd i j _ u k (List.getElem?_eq_getElem hi) hu (by simpa using h1) hk
theorem S_of_OutC {W : World} {B : Nat} {v : Value} {vs : List Value} {rs : List (List Int)} (h : OutC W B v vs rs) : Kd.S (Kd.slice 3 (Kd.int .i64)) 50 W B (fun _ => True) v rs := by
  obtain ⟨h1, h2, h3, h4⟩ := h
  refine ⟨blockIx vs, fun _ _ => trivial, vs, ?_, by rw [List.length_zipIdx, h2]; exact (Nat.mul_one _).symm, fun j p hp => ?_⟩
  · rw [List.length_zipIdx, ← h2]; exact h1
  · rw [List.getElem?_zipIdx] at hp
    obtain ⟨r, hr, rfl⟩ := Option.map_eq_some_iff.1 hp
    have hj : j < vs.length := by rw [h2]; exact (List.getElem?_eq_some_iff.1 hr).1
    have hu : vs[j]? = some vs[j] := List.getElem?_eq_getElem hj
    have hi := h3 j _ r hu hr
    have hne : vs[j].ownBlock = none ∨ vs[j].ownBlock ≠ v.ownBlock := own_type_ne hi h1 (by decide)
    refine ⟨vs[j], ?_, ?_⟩
    · show (vs.drop (j * 1)).take 1 = [vs[j]]
      rw [Nat.mul_one, List.drop_eq_getElem_cons hj]; rfl
    · refine Kd.R_of_own (enc := Value.int .i64) (by simpa [encs, nums] using hi) fun k hk => ⟨⟨trivial, fun e => ?_⟩, ?_⟩
      · rcases hne with e2 | e2
        · rw [e2] at hk; cases hk
        · exact e2 (hk.trans e)
      · rw [blockIx_at hu hk h4]; simp
end Go.Proofs.YtoiahjncpngkeaaDoor
