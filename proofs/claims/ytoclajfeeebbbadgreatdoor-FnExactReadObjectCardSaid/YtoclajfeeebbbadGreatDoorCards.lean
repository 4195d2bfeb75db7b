/-
  DERIVED. GIVEN WITH THE SEED: THE CARDS: each row of YtoclajfeeebbbadGreatDoorRows.lean that lists a variable, with what it lists TIED to the program's text (the seventh form; the later family's looks); each row that meets fmt, with fmt's text TOLD by the authors' own Lean function (tested against real Go, not proved from fmt's source: count such statements apart). THE CARD IS WHAT COUNTS. Prove the row's statement (the work); the ties are given (YtoclajfeeebbbadGreatDoorTie.lean); close each card by the builder's one call (the guide's Derived/Test/ToyasCard.lean, 'card_holds'). Laid BY PROGRAM, IN A SANDBOX (cutbox-door.mjs). By AI agents, Wed Nov 11 2026. No macro, syntax, notation, axiom, sorry.
-/
import Derived.Test.YtoclajfeeebbbadGreatDoorRows
import GoSem.ClaimSeven
namespace Go.Proofs.YtoclajfeeebbbadGreatDoor
namespace Rows

/-- THE TIED CARD OF 'laws.FnExactReadObject'. -/
def fnExactReadObjectCard : Claim7 := { stood := { row := fnExactReadObjectRow, standIns := [], harness := (true, "bd4fbebb202c8c1b1be4724e5376e92b6f218d4562c7e3b8adfad629f6ec2fca"), looks := false }, kinds := [], alts := [], laidByText := true, laidKinds := [.listed, .data], laidTests := true, laidLooks := .later }
def FnExactReadObjectCardSaid : Prop := Claim7.holds Tryz.pinned (.plain (OpenSpec.ofChange fnExactReadObjectSpec)) fnExactReadObjectCard

/-- THE SECOND FORM's CARD OF 'laws.FnExactReadObject'. -/
def fnExactReadObjectUptoCard : Claim7 := { stood := { row := fnExactReadObjectUptoRow, standIns := [], harness := (true, "bd4fbebb202c8c1b1be4724e5376e92b6f218d4562c7e3b8adfad629f6ec2fca"), looks := false }, kinds := [], alts := [], laidByText := true, laidKinds := [.listed, .data], laidTests := true, laidLooks := .later }
def FnExactReadObjectUptoCardSaid : Prop := Claim7.holds Tryz.pinned (.plain (OpenSpec.upto fnExactReadObjectSpec)) fnExactReadObjectUptoCard
end Rows
end Go.Proofs.YtoclajfeeebbbadGreatDoor
