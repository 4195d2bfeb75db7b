/-
  DERIVED. GIVEN WITH THE SEED: THE CARDS: each row of YtoclajfeeebbbabGreatDoorRows.lean that lists a variable, with what it lists TIED to the program's text (the seventh form; the later family's looks); each row that meets fmt, with fmt's text TOLD by the authors' own Lean function (tested against real Go, not proved from fmt's source: count such statements apart). THE CARD IS WHAT COUNTS. Prove the row's statement (the work); the ties are given (YtoclajfeeebbbabGreatDoorTie.lean); close each card by the builder's one call (the guide's Derived/Test/ToyasCard.lean, 'card_holds'). Laid BY PROGRAM, IN A SANDBOX (cutbox-door.mjs). By AI agents, Wed Nov 11 2026. No macro, syntax, notation, axiom, sorry.
-/
import Derived.Test.YtoclajfeeebbbabGreatDoorRows
import GoSem.ClaimSeven
namespace Go.Proofs.YtoclajfeeebbbabGreatDoor
namespace Rows

/-- THE TIED CARD OF 'laws.FnExactReadInterface'. -/
def fnExactReadInterfaceCard : Claim7 := { stood := { row := fnExactReadInterfaceRow, standIns := [], harness := (true, "2059b04d7164962b55cd244c1ec26a4aa38258c9c08b135d2a5f750dcf7243ea"), looks := false }, kinds := [], alts := [], laidByText := true, laidKinds := [.listed, .data], laidTests := true, laidLooks := .later }
def FnExactReadInterfaceCardSaid : Prop := Claim7.holds Tryz.pinned (.plain (OpenSpec.ofChange fnExactReadInterfaceSpec)) fnExactReadInterfaceCard

/-- THE SECOND FORM's CARD OF 'laws.FnExactReadInterface'. -/
def fnExactReadInterfaceUptoCard : Claim7 := { stood := { row := fnExactReadInterfaceUptoRow, standIns := [], harness := (true, "2059b04d7164962b55cd244c1ec26a4aa38258c9c08b135d2a5f750dcf7243ea"), looks := false }, kinds := [], alts := [], laidByText := true, laidKinds := [.listed, .data], laidTests := true, laidLooks := .later }
def FnExactReadInterfaceUptoCardSaid : Prop := Claim7.holds Tryz.pinned (.plain (OpenSpec.upto fnExactReadInterfaceSpec)) fnExactReadInterfaceUptoCard
end Rows
end Go.Proofs.YtoclajfeeebbbabGreatDoor
