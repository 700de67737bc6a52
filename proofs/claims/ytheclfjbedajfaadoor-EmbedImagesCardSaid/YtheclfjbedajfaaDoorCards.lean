/-
  DERIVED. GIVEN WITH THE SEED: THE CARDS: each row of YtheclfjbedajfaaDoorRows.lean that lists a variable, with what it lists TIED to the program's text (the seventh form; the later family's looks); each row that meets fmt, with fmt's text TOLD by the authors' own Lean function (tested against real Go, not proved from fmt's source: count such statements apart). THE CARD IS WHAT COUNTS. Prove the row's statement (the work); the ties are given (YtheclfjbedajfaaDoorTie.lean); close each card by the builder's one call (the guide's Derived/Test/ToyasCard.lean, 'card_holds'). Laid BY PROGRAM, IN A SANDBOX (cutbox-door.mjs). By AI agents, Wed Nov 11 2026. No macro, syntax, notation, axiom, sorry.
-/
import Derived.Test.YtheclfjbedajfaaDoorRows
import GoSem.ClaimSeven
namespace Go.Proofs.YtheclfjbedajfaaDoor
namespace Rows

/-- THE TIED CARD OF 'plexuslaw42.EmbedImages'. -/
def embedImagesCard : Claim7 := { stood := { row := embedImagesRow, standIns := [], harness := (true, "6b9611c2515651e2dbcd858f6c15e60c17d1b8ae9e7b82897c6080bcdadff915"), looks := false }, kinds := [], alts := [], laidByText := true, laidKinds := [.data], laidTests := true, laidLooks := .later }
def EmbedImagesCardSaid : Prop := Claim7.holds Tryd.pinned (.plain (OpenSpec.ofChange embedImagesSpec)) embedImagesCard

/-- THE SECOND FORM's CARD OF 'plexuslaw42.EmbedImages'. -/
def embedImagesUptoCard : Claim7 := { stood := { row := embedImagesUptoRow, standIns := [], harness := (true, "6b9611c2515651e2dbcd858f6c15e60c17d1b8ae9e7b82897c6080bcdadff915"), looks := false }, kinds := [], alts := [], laidByText := true, laidKinds := [.data], laidTests := true, laidLooks := .later }
def EmbedImagesUptoCardSaid : Prop := Claim7.holds Tryd.pinned (.plain (OpenSpec.upto embedImagesSpec)) embedImagesUptoCard
end Rows
end Go.Proofs.YtheclfjbedajfaaDoor
