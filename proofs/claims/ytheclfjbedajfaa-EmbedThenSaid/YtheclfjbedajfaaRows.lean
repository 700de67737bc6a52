/-
  No cell of these rows narrows 'for every input' (looked for: loops, veiled, ifaces, maps, wideKeys, modest, calm, conditions, laid).
  DERIVED. THE GIVEN ROWS OF THIS SEAT. 5 by the template 'for every input the law returns true; each argument reads behind the call as it read before'; 0 by the template 'total and deterministic' (their statements: YtheclfjbedajfaaTotals.lean).
  GIVEN WITH THE SEED: the statements are not yours to turn. If you find one false, say at which input.
  Laid BY PROGRAM, IN A SANDBOX (cutbox-rows.mjs): the forced cells as the released guide's own fill.sh prints them over the translation 54e8f5fc55a8b0e6… (all of the seat's roots in one cut). By AI agents, Wed Nov 11 2026. No macro, syntax, notation, axiom, sorry.
-/
import Derived.Test.YtheclfjbedajfaaChecked
import GoSem.Claim
import GoSem.ClaimJoined
import GoSem.ClaimMapViews
import Derived.JoinedTies
import Derived.KernelRfl
namespace Go.Proofs.Ytheclfjbedajfaa
/- THE CELL 'sum', in the pinned program and in every row, IS THE sha256 OF THE DUMP (.gsa) THAT YtheclfjbedajfaaProg.lean LOADS. Nothing in Lean hashes anything: it is a label: what it is worth is what the hold of that sum in a sandbox is worth. -/
noncomputable def Try.pinned : Pinned := { name := "ytheclfjbedajfaa", sum := "54e8f5fc55a8b0e689998680a64d3e69afb26fbba75c800782243cd15efa3496", checked := Try.checked }
namespace Rows
def none {H : Type} : Left H := { results := [], args := [] }

/-- 'plexuslaw42.EmbedMatchesReference': WHATEVER THE INPUT: true; the input reads as it did. -/
def embedMatchesReferenceSpec : ChangeSpec := { name := "embedMatchesReference", fn := fun _ => fun
  | [d1, d2, d3] => { results := [.lit (.bool true)], args := [d1, d2, d3] }
  | _ => none }
def embedMatchesReferenceRow : OpenClaim := { program := "ytheclfjbedajfaa", sum := "54e8f5fc55a8b0e689998680a64d3e69afb26fbba75c800782243cd15efa3496", func := "plexus/plexuslaw42.EmbedMatchesReference", spec := "embedMatchesReference", unfollowed := true, recurses := true, apart := false }
def EmbedMatchesReferenceSaid : Prop := embedMatchesReferenceRow.holds Try.pinned (OpenSpec.ofChange embedMatchesReferenceSpec)

/-- ITS FALSE NEIGHBOUR: 'it returns false'. Refute it at one input. -/
def embedMatchesReferenceWrong : ChangeSpec := { name := "embedMatchesReference", fn := fun _ => fun
  | [d1, d2, d3] => { results := [.lit (.bool false)], args := [d1, d2, d3] }
  | _ => none }
def EmbedMatchesReferenceWrongFalsely : Prop := embedMatchesReferenceRow.holds Try.pinned (OpenSpec.ofChange embedMatchesReferenceWrong)

/-- 'plexuslaw42.EmbedFits': WHATEVER THE INPUT: true; the input reads as it did. -/
def embedFitsSpec : ChangeSpec := { name := "embedFits", fn := fun _ => fun
  | [d1, d2] => { results := [.lit (.bool true)], args := [d1, d2] }
  | _ => none }
def embedFitsRow : OpenClaim := { program := "ytheclfjbedajfaa", sum := "54e8f5fc55a8b0e689998680a64d3e69afb26fbba75c800782243cd15efa3496", func := "plexus/plexuslaw42.EmbedFits", spec := "embedFits", unfollowed := true, recurses := true, apart := false }
def EmbedFitsSaid : Prop := embedFitsRow.holds Try.pinned (OpenSpec.ofChange embedFitsSpec)

/-- ITS FALSE NEIGHBOUR: 'it returns false'. Refute it at one input. -/
def embedFitsWrong : ChangeSpec := { name := "embedFits", fn := fun _ => fun
  | [d1, d2] => { results := [.lit (.bool false)], args := [d1, d2] }
  | _ => none }
def EmbedFitsWrongFalsely : Prop := embedFitsRow.holds Try.pinned (OpenSpec.ofChange embedFitsWrong)

/-- 'plexuslaw42.EmbedBest': WHATEVER THE INPUT: true; the input reads as it did. -/
def embedBestSpec : ChangeSpec := { name := "embedBest", fn := fun _ => fun
  | [d1, d2, d3] => { results := [.lit (.bool true)], args := [d1, d2, d3] }
  | _ => none }
def embedBestRow : OpenClaim := { program := "ytheclfjbedajfaa", sum := "54e8f5fc55a8b0e689998680a64d3e69afb26fbba75c800782243cd15efa3496", func := "plexus/plexuslaw42.EmbedBest", spec := "embedBest", unfollowed := true, recurses := true, apart := false }
def EmbedBestSaid : Prop := embedBestRow.holds Try.pinned (OpenSpec.ofChange embedBestSpec)

/-- ITS FALSE NEIGHBOUR: 'it returns false'. Refute it at one input. -/
def embedBestWrong : ChangeSpec := { name := "embedBest", fn := fun _ => fun
  | [d1, d2, d3] => { results := [.lit (.bool false)], args := [d1, d2, d3] }
  | _ => none }
def EmbedBestWrongFalsely : Prop := embedBestRow.holds Try.pinned (OpenSpec.ofChange embedBestWrong)

/-- 'plexuslaw42.EmbedThen': WHATEVER THE INPUT: true; the input reads as it did. -/
def embedThenSpec : ChangeSpec := { name := "embedThen", fn := fun _ => fun
  | [d1, d2, d3] => { results := [.lit (.bool true)], args := [d1, d2, d3] }
  | _ => none }
def embedThenRow : OpenClaim := { program := "ytheclfjbedajfaa", sum := "54e8f5fc55a8b0e689998680a64d3e69afb26fbba75c800782243cd15efa3496", func := "plexus/plexuslaw42.EmbedThen", spec := "embedThen", unfollowed := true, recurses := true, apart := false }
def EmbedThenSaid : Prop := embedThenRow.holds Try.pinned (OpenSpec.ofChange embedThenSpec)

/-- ITS FALSE NEIGHBOUR: 'it returns false'. Refute it at one input. -/
def embedThenWrong : ChangeSpec := { name := "embedThen", fn := fun _ => fun
  | [d1, d2, d3] => { results := [.lit (.bool false)], args := [d1, d2, d3] }
  | _ => none }
def EmbedThenWrongFalsely : Prop := embedThenRow.holds Try.pinned (OpenSpec.ofChange embedThenWrong)

/-- 'plexuslaw42.EmbedMore': WHATEVER THE INPUT: true; the input reads as it did. -/
def embedMoreSpec : ChangeSpec := { name := "embedMore", fn := fun _ => fun
  | [d1, d2, d3] => { results := [.lit (.bool true)], args := [d1, d2, d3] }
  | _ => none }
def embedMoreRow : OpenClaim := { program := "ytheclfjbedajfaa", sum := "54e8f5fc55a8b0e689998680a64d3e69afb26fbba75c800782243cd15efa3496", func := "plexus/plexuslaw42.EmbedMore", spec := "embedMore", unfollowed := true, recurses := true, apart := false }
def EmbedMoreSaid : Prop := embedMoreRow.holds Try.pinned (OpenSpec.ofChange embedMoreSpec)

/-- ITS FALSE NEIGHBOUR: 'it returns false'. Refute it at one input. -/
def embedMoreWrong : ChangeSpec := { name := "embedMore", fn := fun _ => fun
  | [d1, d2, d3] => { results := [.lit (.bool false)], args := [d1, d2, d3] }
  | _ => none }
def EmbedMoreWrongFalsely : Prop := embedMoreRow.holds Try.pinned (OpenSpec.ofChange embedMoreWrong)

/- THE SECOND FORM. 'bulk': how many values and letters a reading holds, each counted each time it is reached (what is shared counts as often as it is met; a slice's spare places count too). A statement '..UptoSaid' is the law's where the arguments, and the package variables that the reading takes, are together of bulk at most 1048576: NARROWER than '..Said'. Prove '..Said' where nothing that the law and all that it calls make is longer than what came in: it says more and counts as full. Else prove '..UptoSaid'. A law counts once. -/
mutual
def uptoBulk {H : Type} : DataW H → Nat
  | .lit (.string bytes) => bytes.length + 1
  | .lit _ => 1
  | .nil => 1
  | .ptr d => uptoBulk d + 1
  | .slice elems spare => uptoBulkAll elems + uptoBulkAll spare + 1
  | .agg parts => uptoBulkAll parts + 1
  | .iface _ d => uptoBulk d + 1
  | .map entries => uptoBulkEntries entries + 1
  | .held _ => 1
def uptoBulkAll {H : Type} : List (DataW H) → Nat
  | [] => 0
  | d :: r => uptoBulk d + uptoBulkAll r
def uptoBulkEntries {H : Type} : List (Lit × DataW H) → Nat
  | [] => 0
  | x :: r => uptoBulkEntry x + uptoBulkEntries r
def uptoBulkEntry {H : Type} : Lit × DataW H → Nat
  | (.string bytes, d) => bytes.length + uptoBulk d + 1
  | (_, d) => uptoBulk d + 1
 end
def uptoSmall : (H : Type) → List (DataW H) → Bool := fun _ ds => decide (uptoBulkAll ds ≤ 1048576)
def OpenSpec.upto (s : _root_.Go.ChangeSpec) : _root_.Go.OpenSpec := { _root_.Go.OpenSpec.ofChange s with cond := some uptoSmall }

/-- 'plexuslaw42.EmbedMatchesReference', WHERE WHAT IT READS IS OF BULK AT MOST 1048576: true; the input reads as it did. -/
def embedMatchesReferenceUptoRow : OpenClaim := { program := "ytheclfjbedajfaa", sum := "54e8f5fc55a8b0e689998680a64d3e69afb26fbba75c800782243cd15efa3496", func := "plexus/plexuslaw42.EmbedMatchesReference", spec := "embedMatchesReference", unfollowed := true, recurses := true, apart := false, narrowed := true }
def EmbedMatchesReferenceUptoSaid : Prop := embedMatchesReferenceUptoRow.holds Try.pinned (OpenSpec.upto embedMatchesReferenceSpec)

/-- 'plexuslaw42.EmbedFits', WHERE WHAT IT READS IS OF BULK AT MOST 1048576: true; the input reads as it did. -/
def embedFitsUptoRow : OpenClaim := { program := "ytheclfjbedajfaa", sum := "54e8f5fc55a8b0e689998680a64d3e69afb26fbba75c800782243cd15efa3496", func := "plexus/plexuslaw42.EmbedFits", spec := "embedFits", unfollowed := true, recurses := true, apart := false, narrowed := true }
def EmbedFitsUptoSaid : Prop := embedFitsUptoRow.holds Try.pinned (OpenSpec.upto embedFitsSpec)

/-- 'plexuslaw42.EmbedBest', WHERE WHAT IT READS IS OF BULK AT MOST 1048576: true; the input reads as it did. -/
def embedBestUptoRow : OpenClaim := { program := "ytheclfjbedajfaa", sum := "54e8f5fc55a8b0e689998680a64d3e69afb26fbba75c800782243cd15efa3496", func := "plexus/plexuslaw42.EmbedBest", spec := "embedBest", unfollowed := true, recurses := true, apart := false, narrowed := true }
def EmbedBestUptoSaid : Prop := embedBestUptoRow.holds Try.pinned (OpenSpec.upto embedBestSpec)

/-- 'plexuslaw42.EmbedThen', WHERE WHAT IT READS IS OF BULK AT MOST 1048576: true; the input reads as it did. -/
def embedThenUptoRow : OpenClaim := { program := "ytheclfjbedajfaa", sum := "54e8f5fc55a8b0e689998680a64d3e69afb26fbba75c800782243cd15efa3496", func := "plexus/plexuslaw42.EmbedThen", spec := "embedThen", unfollowed := true, recurses := true, apart := false, narrowed := true }
def EmbedThenUptoSaid : Prop := embedThenUptoRow.holds Try.pinned (OpenSpec.upto embedThenSpec)

/-- 'plexuslaw42.EmbedMore', WHERE WHAT IT READS IS OF BULK AT MOST 1048576: true; the input reads as it did. -/
def embedMoreUptoRow : OpenClaim := { program := "ytheclfjbedajfaa", sum := "54e8f5fc55a8b0e689998680a64d3e69afb26fbba75c800782243cd15efa3496", func := "plexus/plexuslaw42.EmbedMore", spec := "embedMore", unfollowed := true, recurses := true, apart := false, narrowed := true }
def EmbedMoreUptoSaid : Prop := embedMoreUptoRow.holds Try.pinned (OpenSpec.upto embedMoreSpec)

end Rows
end Go.Proofs.Ytheclfjbedajfaa
