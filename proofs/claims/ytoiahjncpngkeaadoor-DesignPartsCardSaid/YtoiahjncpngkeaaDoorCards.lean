/-
  DERIVED. GIVEN WITH THE SEED: THE CARDS: each row of YtoiahjncpngkeaaDoorRows.lean that lists a variable, with what it lists TIED to the program's text (the seventh form; the later family's looks); each row that meets fmt, with fmt's text TOLD by the authors' own Lean function (tested against real Go, not proved from fmt's source: count such statements apart). THE CARD IS WHAT COUNTS. Prove the row's statement (the work); the ties are given (YtoiahjncpngkeaaDoorTie.lean); close each card by the builder's one call (the guide's Derived/Test/ToyasCard.lean, 'card_holds'). Laid BY PROGRAM, IN A SANDBOX (cutbox-door.mjs). By AI agents, Wed Nov 11 2026. No macro, syntax, notation, axiom, sorry.
-/
import Derived.Test.YtoiahjncpngkeaaDoorRows
import GoSem.ClaimSeven
namespace Go.Proofs.YtoiahjncpngkeaaDoor
namespace Rows

/-- THE TIED CARD OF 'plexuslaw09.DesignMatchesReference'. -/
def designMatchesReferenceCard : Claim7 := { stood := { row := designMatchesReferenceRow, standIns := [], harness := (true, "5bef8d757bf5975e2d4bfd6f7aef2fefe831bc379bdb3c28e3d3f2d345d4dedb"), looks := false }, kinds := [], alts := [], laidByText := true, laidKinds := [.data], laidTests := true, laidLooks := .later }
def DesignMatchesReferenceCardSaid : Prop := Claim7.holds Tryd.pinned (.plain (OpenSpec.ofChange designMatchesReferenceSpec)) designMatchesReferenceCard

/-- THE TIED CARD OF 'plexuslaw09.DesignLesser'. -/
def designLesserCard : Claim7 := { stood := { row := designLesserRow, standIns := [], harness := (true, "5bef8d757bf5975e2d4bfd6f7aef2fefe831bc379bdb3c28e3d3f2d345d4dedb"), looks := false }, kinds := [], alts := [], laidByText := true, laidKinds := [.data], laidTests := true, laidLooks := .later }
def DesignLesserCardSaid : Prop := Claim7.holds Tryd.pinned (.plain (OpenSpec.ofChange designLesserSpec)) designLesserCard

/-- THE TIED CARD OF 'plexuslaw09.DesignResolves'. -/
def designResolvesCard : Claim7 := { stood := { row := designResolvesRow, standIns := [], harness := (true, "5bef8d757bf5975e2d4bfd6f7aef2fefe831bc379bdb3c28e3d3f2d345d4dedb"), looks := false }, kinds := [], alts := [], laidByText := true, laidKinds := [.data], laidTests := true, laidLooks := .later }
def DesignResolvesCardSaid : Prop := Claim7.holds Tryd.pinned (.plain (OpenSpec.ofChange designResolvesSpec)) designResolvesCard

/-- THE TIED CARD OF 'plexuslaw09.DesignCounts'. -/
def designCountsCard : Claim7 := { stood := { row := designCountsRow, standIns := [], harness := (true, "5bef8d757bf5975e2d4bfd6f7aef2fefe831bc379bdb3c28e3d3f2d345d4dedb"), looks := false }, kinds := [], alts := [], laidByText := true, laidKinds := [.data], laidTests := true, laidLooks := .later }
def DesignCountsCardSaid : Prop := Claim7.holds Tryd.pinned (.plain (OpenSpec.ofChange designCountsSpec)) designCountsCard

/-- THE TIED CARD OF 'plexuslaw09.DesignComplements'. -/
def designComplementsCard : Claim7 := { stood := { row := designComplementsRow, standIns := [], harness := (true, "5bef8d757bf5975e2d4bfd6f7aef2fefe831bc379bdb3c28e3d3f2d345d4dedb"), looks := false }, kinds := [], alts := [], laidByText := true, laidKinds := [.data], laidTests := true, laidLooks := .later }
def DesignComplementsCardSaid : Prop := Claim7.holds Tryd.pinned (.plain (OpenSpec.ofChange designComplementsSpec)) designComplementsCard

/-- THE TIED CARD OF 'plexuslaw09.DesignParts'. -/
def designPartsCard : Claim7 := { stood := { row := designPartsRow, standIns := [], harness := (true, "5bef8d757bf5975e2d4bfd6f7aef2fefe831bc379bdb3c28e3d3f2d345d4dedb"), looks := false }, kinds := [], alts := [], laidByText := true, laidKinds := [.data], laidTests := true, laidLooks := .later }
def DesignPartsCardSaid : Prop := Claim7.holds Tryd.pinned (.plain (OpenSpec.ofChange designPartsSpec)) designPartsCard

/-- THE SECOND FORM's CARD OF 'plexuslaw09.DesignMatchesReference'. -/
def designMatchesReferenceUptoCard : Claim7 := { stood := { row := designMatchesReferenceUptoRow, standIns := [], harness := (true, "5bef8d757bf5975e2d4bfd6f7aef2fefe831bc379bdb3c28e3d3f2d345d4dedb"), looks := false }, kinds := [], alts := [], laidByText := true, laidKinds := [.data], laidTests := true, laidLooks := .later }
def DesignMatchesReferenceUptoCardSaid : Prop := Claim7.holds Tryd.pinned (.plain (OpenSpec.upto designMatchesReferenceSpec)) designMatchesReferenceUptoCard

/-- THE SECOND FORM's CARD OF 'plexuslaw09.DesignLesser'. -/
def designLesserUptoCard : Claim7 := { stood := { row := designLesserUptoRow, standIns := [], harness := (true, "5bef8d757bf5975e2d4bfd6f7aef2fefe831bc379bdb3c28e3d3f2d345d4dedb"), looks := false }, kinds := [], alts := [], laidByText := true, laidKinds := [.data], laidTests := true, laidLooks := .later }
def DesignLesserUptoCardSaid : Prop := Claim7.holds Tryd.pinned (.plain (OpenSpec.upto designLesserSpec)) designLesserUptoCard

/-- THE SECOND FORM's CARD OF 'plexuslaw09.DesignResolves'. -/
def designResolvesUptoCard : Claim7 := { stood := { row := designResolvesUptoRow, standIns := [], harness := (true, "5bef8d757bf5975e2d4bfd6f7aef2fefe831bc379bdb3c28e3d3f2d345d4dedb"), looks := false }, kinds := [], alts := [], laidByText := true, laidKinds := [.data], laidTests := true, laidLooks := .later }
def DesignResolvesUptoCardSaid : Prop := Claim7.holds Tryd.pinned (.plain (OpenSpec.upto designResolvesSpec)) designResolvesUptoCard

/-- THE SECOND FORM's CARD OF 'plexuslaw09.DesignCounts'. -/
def designCountsUptoCard : Claim7 := { stood := { row := designCountsUptoRow, standIns := [], harness := (true, "5bef8d757bf5975e2d4bfd6f7aef2fefe831bc379bdb3c28e3d3f2d345d4dedb"), looks := false }, kinds := [], alts := [], laidByText := true, laidKinds := [.data], laidTests := true, laidLooks := .later }
def DesignCountsUptoCardSaid : Prop := Claim7.holds Tryd.pinned (.plain (OpenSpec.upto designCountsSpec)) designCountsUptoCard

/-- THE SECOND FORM's CARD OF 'plexuslaw09.DesignComplements'. -/
def designComplementsUptoCard : Claim7 := { stood := { row := designComplementsUptoRow, standIns := [], harness := (true, "5bef8d757bf5975e2d4bfd6f7aef2fefe831bc379bdb3c28e3d3f2d345d4dedb"), looks := false }, kinds := [], alts := [], laidByText := true, laidKinds := [.data], laidTests := true, laidLooks := .later }
def DesignComplementsUptoCardSaid : Prop := Claim7.holds Tryd.pinned (.plain (OpenSpec.upto designComplementsSpec)) designComplementsUptoCard

/-- THE SECOND FORM's CARD OF 'plexuslaw09.DesignParts'. -/
def designPartsUptoCard : Claim7 := { stood := { row := designPartsUptoRow, standIns := [], harness := (true, "5bef8d757bf5975e2d4bfd6f7aef2fefe831bc379bdb3c28e3d3f2d345d4dedb"), looks := false }, kinds := [], alts := [], laidByText := true, laidKinds := [.data], laidTests := true, laidLooks := .later }
def DesignPartsUptoCardSaid : Prop := Claim7.holds Tryd.pinned (.plain (OpenSpec.upto designPartsSpec)) designPartsUptoCard
end Rows
end Go.Proofs.YtoiahjncpngkeaaDoor
