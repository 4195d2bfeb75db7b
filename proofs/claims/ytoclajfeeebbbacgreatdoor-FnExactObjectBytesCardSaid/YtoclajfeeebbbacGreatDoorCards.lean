/-
  DERIVED. GIVEN WITH THE SEED: THE CARDS: each row of YtoclajfeeebbbacGreatDoorRows.lean that lists a variable, with what it lists TIED to the program's text (the seventh form; the later family's looks); each row that meets fmt, with fmt's text TOLD by the authors' own Lean function (tested against real Go, not proved from fmt's source: count such statements apart). THE CARD IS WHAT COUNTS. Prove the row's statement (the work); the ties are given (YtoclajfeeebbbacGreatDoorTie.lean); close each card by the builder's one call (the guide's Derived/Test/ToyasCard.lean, 'card_holds'). Laid BY PROGRAM, IN A SANDBOX (cutbox-door.mjs). By AI agents, Wed Nov 11 2026. No macro, syntax, notation, axiom, sorry.
-/
import Derived.Test.YtoclajfeeebbbacGreatDoorRows
import GoSem.ClaimSeven
namespace Go.Proofs.YtoclajfeeebbbacGreatDoor
namespace Rows

/-- THE TIED CARD OF 'laws.FnExactObjectBytes'. -/
def fnExactObjectBytesCard : Claim7 := { stood := { row := fnExactObjectBytesRow, standIns := [], harness := (true, "26012edd1741000c2744d83bf8c6096afeecddf6bfd53309630bc8a5eb36e808"), looks := false }, kinds := [], alts := [], laidByText := true, laidKinds := [.listed, .data], laidTests := true, laidLooks := .later }
def FnExactObjectBytesCardSaid : Prop := Claim7.holds Tryz.pinned (.plain (OpenSpec.ofChange fnExactObjectBytesSpec)) fnExactObjectBytesCard

/-- THE SECOND FORM's CARD OF 'laws.FnExactObjectBytes'. -/
def fnExactObjectBytesUptoCard : Claim7 := { stood := { row := fnExactObjectBytesUptoRow, standIns := [], harness := (true, "26012edd1741000c2744d83bf8c6096afeecddf6bfd53309630bc8a5eb36e808"), looks := false }, kinds := [], alts := [], laidByText := true, laidKinds := [.listed, .data], laidTests := true, laidLooks := .later }
def FnExactObjectBytesUptoCardSaid : Prop := Claim7.holds Tryz.pinned (.plain (OpenSpec.upto fnExactObjectBytesSpec)) fnExactObjectBytesUptoCard
end Rows
end Go.Proofs.YtoclajfeeebbbacGreatDoor
