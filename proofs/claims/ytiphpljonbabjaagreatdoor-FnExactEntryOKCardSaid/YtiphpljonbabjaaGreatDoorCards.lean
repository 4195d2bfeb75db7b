/-
  DERIVED. GIVEN WITH THE SEED: THE CARDS: each row of YtiphpljonbabjaaGreatDoorRows.lean that lists a variable, with what it lists TIED to the program's text (the seventh form; the later family's looks); each row that meets fmt, with fmt's text TOLD by the authors' own Lean function (tested against real Go, not proved from fmt's source: count such statements apart). THE CARD IS WHAT COUNTS. Prove the row's statement (the work); the ties are given (YtiphpljonbabjaaGreatDoorTie.lean); close each card by the builder's one call (the guide's Derived/Test/ToyasCard.lean, 'card_holds'). Laid BY PROGRAM, IN A SANDBOX (cutbox-door.mjs). By AI agents, Wed Nov 11 2026. No macro, syntax, notation, axiom, sorry.
-/
import Derived.Test.YtiphpljonbabjaaGreatDoorRows
import GoSem.ClaimSeven
namespace Go.Proofs.YtiphpljonbabjaaGreatDoor
namespace Rows

/-- THE TIED CARD OF 'laws.FnExactEntryOK'. -/
def fnExactEntryOKCard : Claim7 := { stood := { row := fnExactEntryOKRow, standIns := [], harness := (true, "9bde0dd55bab8a409ad4c0d031bcd92053a8ad7437a51932b63a6329ffef2ea2"), looks := false }, kinds := [], alts := [], laidByText := true, laidKinds := [.listed, .data], laidTests := true, laidLooks := .later }
def FnExactEntryOKCardSaid : Prop := Claim7.holds Tryz.pinned (.plain (OpenSpec.ofChange fnExactEntryOKSpec)) fnExactEntryOKCard

/-- THE SECOND FORM's CARD OF 'laws.FnExactEntryOK'. -/
def fnExactEntryOKUptoCard : Claim7 := { stood := { row := fnExactEntryOKUptoRow, standIns := [], harness := (true, "9bde0dd55bab8a409ad4c0d031bcd92053a8ad7437a51932b63a6329ffef2ea2"), looks := false }, kinds := [], alts := [], laidByText := true, laidKinds := [.listed, .data], laidTests := true, laidLooks := .later }
def FnExactEntryOKUptoCardSaid : Prop := Claim7.holds Tryz.pinned (.plain (OpenSpec.upto fnExactEntryOKSpec)) fnExactEntryOKUptoCard
end Rows
end Go.Proofs.YtiphpljonbabjaaGreatDoor
