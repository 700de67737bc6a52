/-
  No cell of these rows narrows 'for every input' (looked for: loops, veiled, ifaces, maps, wideKeys, modest, calm, conditions, laid).
  DERIVED. THE GIVEN ROWS OF THIS SEAT. 5 by the template 'for every input the law returns true; each argument reads behind the call as it read before'; 0 by the template 'total and deterministic' (their statements: YtmfmlfaglemgfaaTotals.lean).
  GIVEN WITH THE SEED: the statements are not yours to turn. If you find one false, say at which input.
  Laid BY PROGRAM, IN A SANDBOX (cutbox-rows.mjs): the forced cells as the released guide's own fill.sh prints them over the translation af368a951571d35f… (all of the seat's roots in one cut). By AI agents, Wed Nov 11 2026. No macro, syntax, notation, axiom, sorry.
-/
import Derived.Test.YtmfmlfaglemgfaaChecked
import GoSem.Claim
import GoSem.ClaimJoined
import GoSem.ClaimMapViews
import Derived.JoinedTies
import Derived.KernelRfl
namespace Go.Proofs.Ytmfmlfaglemgfaa
/- THE CELL 'sum', in the pinned program and in every row, IS THE sha256 OF THE DUMP (.gsa) THAT YtmfmlfaglemgfaaProg.lean LOADS. Nothing in Lean hashes anything: it is a label: what it is worth is what the hold of that sum in a sandbox is worth. -/
noncomputable def Try.pinned : Pinned := { name := "ytmfmlfaglemgfaa", sum := "af368a951571d35f705439ce0cbc9bbfda64f7a336f74c88855ec4e35391ff14", checked := Try.checked }
namespace Rows
def none {H : Type} : Left H := { results := [], args := [] }

/-- 'plexuslaw12.DisjunctMatchesReference': WHATEVER THE INPUT: true; the input reads as it did. -/
def disjunctMatchesReferenceSpec : ChangeSpec := { name := "disjunctMatchesReference", fn := fun _ => fun
  | [d1, d2] => { results := [.lit (.bool true)], args := [d1, d2] }
  | _ => none }
def disjunctMatchesReferenceRow : OpenClaim := { program := "ytmfmlfaglemgfaa", sum := "af368a951571d35f705439ce0cbc9bbfda64f7a336f74c88855ec4e35391ff14", func := "plexus/plexuslaw12.DisjunctMatchesReference", spec := "disjunctMatchesReference", unfollowed := true, recurses := true, apart := false }
def DisjunctMatchesReferenceSaid : Prop := disjunctMatchesReferenceRow.holds Try.pinned (OpenSpec.ofChange disjunctMatchesReferenceSpec)

/-- ITS FALSE NEIGHBOUR: 'it returns false'. Refute it at one input. -/
def disjunctMatchesReferenceWrong : ChangeSpec := { name := "disjunctMatchesReference", fn := fun _ => fun
  | [d1, d2] => { results := [.lit (.bool false)], args := [d1, d2] }
  | _ => none }
def DisjunctMatchesReferenceWrongFalsely : Prop := disjunctMatchesReferenceRow.holds Try.pinned (OpenSpec.ofChange disjunctMatchesReferenceWrong)

/-- 'plexuslaw12.DisjunctOrder': WHATEVER THE INPUT: true; the input reads as it did. -/
def disjunctOrderSpec : ChangeSpec := { name := "disjunctOrder", fn := fun _ => fun
  | [d1, d2] => { results := [.lit (.bool true)], args := [d1, d2] }
  | _ => none }
def disjunctOrderRow : OpenClaim := { program := "ytmfmlfaglemgfaa", sum := "af368a951571d35f705439ce0cbc9bbfda64f7a336f74c88855ec4e35391ff14", func := "plexus/plexuslaw12.DisjunctOrder", spec := "disjunctOrder", unfollowed := true, recurses := true, apart := false }
def DisjunctOrderSaid : Prop := disjunctOrderRow.holds Try.pinned (OpenSpec.ofChange disjunctOrderSpec)

/-- ITS FALSE NEIGHBOUR: 'it returns false'. Refute it at one input. -/
def disjunctOrderWrong : ChangeSpec := { name := "disjunctOrder", fn := fun _ => fun
  | [d1, d2] => { results := [.lit (.bool false)], args := [d1, d2] }
  | _ => none }
def DisjunctOrderWrongFalsely : Prop := disjunctOrderRow.holds Try.pinned (OpenSpec.ofChange disjunctOrderWrong)

/-- 'plexuslaw12.DisjunctSeparates': WHATEVER THE INPUT: true; the input reads as it did. -/
def disjunctSeparatesSpec : ChangeSpec := { name := "disjunctSeparates", fn := fun _ => fun
  | [d] => { results := [.lit (.bool true)], args := [d] }
  | _ => none }
def disjunctSeparatesRow : OpenClaim := { program := "ytmfmlfaglemgfaa", sum := "af368a951571d35f705439ce0cbc9bbfda64f7a336f74c88855ec4e35391ff14", func := "plexus/plexuslaw12.DisjunctSeparates", spec := "disjunctSeparates", unfollowed := true, recurses := true, apart := false }
def DisjunctSeparatesSaid : Prop := disjunctSeparatesRow.holds Try.pinned (OpenSpec.ofChange disjunctSeparatesSpec)

/-- ITS FALSE NEIGHBOUR: 'it returns false'. Refute it at one input. -/
def disjunctSeparatesWrong : ChangeSpec := { name := "disjunctSeparates", fn := fun _ => fun
  | [d] => { results := [.lit (.bool false)], args := [d] }
  | _ => none }
def DisjunctSeparatesWrongFalsely : Prop := disjunctSeparatesRow.holds Try.pinned (OpenSpec.ofChange disjunctSeparatesWrong)

/-- 'plexuslaw12.DisjunctWords': WHATEVER THE INPUT: true; the input reads as it did. -/
def disjunctWordsSpec : ChangeSpec := { name := "disjunctWords", fn := fun _ => fun
  | [d1, d2] => { results := [.lit (.bool true)], args := [d1, d2] }
  | _ => none }
def disjunctWordsRow : OpenClaim := { program := "ytmfmlfaglemgfaa", sum := "af368a951571d35f705439ce0cbc9bbfda64f7a336f74c88855ec4e35391ff14", func := "plexus/plexuslaw12.DisjunctWords", spec := "disjunctWords", unfollowed := true, recurses := true, apart := false }
def DisjunctWordsSaid : Prop := disjunctWordsRow.holds Try.pinned (OpenSpec.ofChange disjunctWordsSpec)

/-- ITS FALSE NEIGHBOUR: 'it returns false'. Refute it at one input. -/
def disjunctWordsWrong : ChangeSpec := { name := "disjunctWords", fn := fun _ => fun
  | [d1, d2] => { results := [.lit (.bool false)], args := [d1, d2] }
  | _ => none }
def DisjunctWordsWrongFalsely : Prop := disjunctWordsRow.holds Try.pinned (OpenSpec.ofChange disjunctWordsWrong)

/-- 'plexuslaw12.DisjunctBest': WHATEVER THE INPUT: true; the input reads as it did. -/
def disjunctBestSpec : ChangeSpec := { name := "disjunctBest", fn := fun _ => fun
  | [d] => { results := [.lit (.bool true)], args := [d] }
  | _ => none }
def disjunctBestRow : OpenClaim := { program := "ytmfmlfaglemgfaa", sum := "af368a951571d35f705439ce0cbc9bbfda64f7a336f74c88855ec4e35391ff14", func := "plexus/plexuslaw12.DisjunctBest", spec := "disjunctBest", unfollowed := true, recurses := true, apart := false }
def DisjunctBestSaid : Prop := disjunctBestRow.holds Try.pinned (OpenSpec.ofChange disjunctBestSpec)

/-- ITS FALSE NEIGHBOUR: 'it returns false'. Refute it at one input. -/
def disjunctBestWrong : ChangeSpec := { name := "disjunctBest", fn := fun _ => fun
  | [d] => { results := [.lit (.bool false)], args := [d] }
  | _ => none }
def DisjunctBestWrongFalsely : Prop := disjunctBestRow.holds Try.pinned (OpenSpec.ofChange disjunctBestWrong)

/- THE SECOND FORM. 'bulk': how many values and letters a reading holds, each counted each time it is reached (what is shared counts as often as it is met; a slice's spare places count too). A statement '..UptoSaid' is the law's where the arguments, and the package variables that the reading takes, are together of bulk at most 1048576: NARROWER than '..Said'. Prove '..Said' where nothing that the law and all that it calls make is longer than what came in: it says more and counts as full. Else prove '..UptoSaid'. A law counts once. -/
mutual
def uptoBulk {H : Type} : DataW H → Nat
  | .lit (.string bytes) => bytes.length + 1
  | .lit _ => 1
  | .nil => 1
  | .ptr d => uptoBulk d + 1
  | .slice elems spare => uptoBulkAll elems + uptoBulkAll spare + 1
  | .agg parts => uptoBulkAll parts + 1
  | .iface _ d => uptoBulk d + 1
  | .map entries => uptoBulkEntries entries + 1
  | .held _ => 1
def uptoBulkAll {H : Type} : List (DataW H) → Nat
  | [] => 0
  | d :: r => uptoBulk d + uptoBulkAll r
def uptoBulkEntries {H : Type} : List (Lit × DataW H) → Nat
  | [] => 0
  | x :: r => uptoBulkEntry x + uptoBulkEntries r
def uptoBulkEntry {H : Type} : Lit × DataW H → Nat
  | (.string bytes, d) => bytes.length + uptoBulk d + 1
  | (_, d) => uptoBulk d + 1
 end
def uptoSmall : (H : Type) → List (DataW H) → Bool := fun _ ds => decide (uptoBulkAll ds ≤ 1048576)
def OpenSpec.upto (s : _root_.Go.ChangeSpec) : _root_.Go.OpenSpec := { _root_.Go.OpenSpec.ofChange s with cond := some uptoSmall }

/-- 'plexuslaw12.DisjunctMatchesReference', WHERE WHAT IT READS IS OF BULK AT MOST 1048576: true; the input reads as it did. -/
def disjunctMatchesReferenceUptoRow : OpenClaim := { program := "ytmfmlfaglemgfaa", sum := "af368a951571d35f705439ce0cbc9bbfda64f7a336f74c88855ec4e35391ff14", func := "plexus/plexuslaw12.DisjunctMatchesReference", spec := "disjunctMatchesReference", unfollowed := true, recurses := true, apart := false, narrowed := true }
def DisjunctMatchesReferenceUptoSaid : Prop := disjunctMatchesReferenceUptoRow.holds Try.pinned (OpenSpec.upto disjunctMatchesReferenceSpec)

/-- 'plexuslaw12.DisjunctOrder', WHERE WHAT IT READS IS OF BULK AT MOST 1048576: true; the input reads as it did. -/
def disjunctOrderUptoRow : OpenClaim := { program := "ytmfmlfaglemgfaa", sum := "af368a951571d35f705439ce0cbc9bbfda64f7a336f74c88855ec4e35391ff14", func := "plexus/plexuslaw12.DisjunctOrder", spec := "disjunctOrder", unfollowed := true, recurses := true, apart := false, narrowed := true }
def DisjunctOrderUptoSaid : Prop := disjunctOrderUptoRow.holds Try.pinned (OpenSpec.upto disjunctOrderSpec)

/-- 'plexuslaw12.DisjunctSeparates', WHERE WHAT IT READS IS OF BULK AT MOST 1048576: true; the input reads as it did. -/
def disjunctSeparatesUptoRow : OpenClaim := { program := "ytmfmlfaglemgfaa", sum := "af368a951571d35f705439ce0cbc9bbfda64f7a336f74c88855ec4e35391ff14", func := "plexus/plexuslaw12.DisjunctSeparates", spec := "disjunctSeparates", unfollowed := true, recurses := true, apart := false, narrowed := true }
def DisjunctSeparatesUptoSaid : Prop := disjunctSeparatesUptoRow.holds Try.pinned (OpenSpec.upto disjunctSeparatesSpec)

/-- 'plexuslaw12.DisjunctWords', WHERE WHAT IT READS IS OF BULK AT MOST 1048576: true; the input reads as it did. -/
def disjunctWordsUptoRow : OpenClaim := { program := "ytmfmlfaglemgfaa", sum := "af368a951571d35f705439ce0cbc9bbfda64f7a336f74c88855ec4e35391ff14", func := "plexus/plexuslaw12.DisjunctWords", spec := "disjunctWords", unfollowed := true, recurses := true, apart := false, narrowed := true }
def DisjunctWordsUptoSaid : Prop := disjunctWordsUptoRow.holds Try.pinned (OpenSpec.upto disjunctWordsSpec)

/-- 'plexuslaw12.DisjunctBest', WHERE WHAT IT READS IS OF BULK AT MOST 1048576: true; the input reads as it did. -/
def disjunctBestUptoRow : OpenClaim := { program := "ytmfmlfaglemgfaa", sum := "af368a951571d35f705439ce0cbc9bbfda64f7a336f74c88855ec4e35391ff14", func := "plexus/plexuslaw12.DisjunctBest", spec := "disjunctBest", unfollowed := true, recurses := true, apart := false, narrowed := true }
def DisjunctBestUptoSaid : Prop := disjunctBestUptoRow.holds Try.pinned (OpenSpec.upto disjunctBestSpec)

end Rows
end Go.Proofs.Ytmfmlfaglemgfaa
