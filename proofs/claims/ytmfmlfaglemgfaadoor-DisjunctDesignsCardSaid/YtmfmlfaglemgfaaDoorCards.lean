/-
  DERIVED. GIVEN WITH THE SEED: THE CARDS: each row of YtmfmlfaglemgfaaDoorRows.lean that lists a variable, with what it lists TIED to the program's text (the seventh form; the later family's looks); each row that meets fmt, with fmt's text TOLD by the authors' own Lean function (tested against real Go, not proved from fmt's source: count such statements apart). THE CARD IS WHAT COUNTS. Prove the row's statement (the work); the ties are given (YtmfmlfaglemgfaaDoorTie.lean); close each card by the builder's one call (the guide's Derived/Test/ToyasCard.lean, 'card_holds'). Laid BY PROGRAM, IN A SANDBOX (cutbox-door.mjs). By AI agents, Wed Nov 11 2026. No macro, syntax, notation, axiom, sorry.
-/
import Derived.Test.YtmfmlfaglemgfaaDoorRows
import GoSem.ClaimSeven
namespace Go.Proofs.YtmfmlfaglemgfaaDoor
namespace Rows

/-- THE TIED CARD OF 'plexuslaw12.DisjunctDesigns'. -/
def disjunctDesignsCard : Claim7 := { stood := { row := disjunctDesignsRow, standIns := [], harness := (true, "42ebaadadf877335a021f40f56e8b2fecf8591aecfa5e5256acfe3154a680786"), looks := false }, kinds := [], alts := [], laidByText := true, laidKinds := [.data], laidTests := true, laidLooks := .later }
def DisjunctDesignsCardSaid : Prop := Claim7.holds Tryd.pinned (.plain (OpenSpec.ofChange disjunctDesignsSpec)) disjunctDesignsCard

/-- THE SECOND FORM's CARD OF 'plexuslaw12.DisjunctDesigns'. -/
def disjunctDesignsUptoCard : Claim7 := { stood := { row := disjunctDesignsUptoRow, standIns := [], harness := (true, "42ebaadadf877335a021f40f56e8b2fecf8591aecfa5e5256acfe3154a680786"), looks := false }, kinds := [], alts := [], laidByText := true, laidKinds := [.data], laidTests := true, laidLooks := .later }
def DisjunctDesignsUptoCardSaid : Prop := Claim7.holds Tryd.pinned (.plain (OpenSpec.upto disjunctDesignsSpec)) disjunctDesignsUptoCard
end Rows
end Go.Proofs.YtmfmlfaglemgfaaDoor
