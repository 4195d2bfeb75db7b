/-
  DERIVED. GIVEN WITH THE SEED: THE CARDS: each row of YthpacjlaeknidabGreatDoorRows.lean that lists a variable, with what it lists TIED to the program's text (the seventh form; the later family's looks); each row that meets fmt, with fmt's text TOLD by the authors' own Lean function (tested against real Go, not proved from fmt's source: count such statements apart). THE CARD IS WHAT COUNTS. Prove the row's statement (the work); the ties are given (YthpacjlaeknidabGreatDoorTie.lean); close each card by the builder's one call (the guide's Derived/Test/ToyasCard.lean, 'card_holds'). Laid BY PROGRAM, IN A SANDBOX (cutbox-door.mjs). By AI agents, Wed Nov 11 2026. No macro, syntax, notation, axiom, sorry.
-/
import Derived.Test.YthpacjlaeknidabGreatDoorRows
import GoSem.ClaimSeven
namespace Go.Proofs.YthpacjlaeknidabGreatDoor
namespace Rows

/-- THE TIED CARD OF 'laws.FnChars'. -/
def fnCharsCard : Claim7 := { stood := { row := fnCharsRow, standIns := [], harness := (true, "8a265c336c545bae9f91b4b75313c1c508bce62292ad523f0e9d250ebce4a288"), looks := true }, kinds := [], alts := [], laidByText := true, laidKinds := [.data, .data, .data, .data, .sentinel, .sentinel, .listed, .data, .pinned, .pinned], laidTests := true, laidLooks := .later }
def FnCharsCardSaid : Prop := Claim7.holds Tryz.pinned (.plain (OpenSpec.ofChange fnCharsSpec)) fnCharsCard

/-- THE SECOND FORM's CARD OF 'laws.FnChars'. -/
def fnCharsUptoCard : Claim7 := { stood := { row := fnCharsUptoRow, standIns := [], harness := (true, "8a265c336c545bae9f91b4b75313c1c508bce62292ad523f0e9d250ebce4a288"), looks := true }, kinds := [], alts := [], laidByText := true, laidKinds := [.data, .data, .data, .data, .sentinel, .sentinel, .listed, .data, .pinned, .pinned], laidTests := true, laidLooks := .later }
def FnCharsUptoCardSaid : Prop := Claim7.holds Tryz.pinned (.plain (OpenSpec.upto fnCharsSpec)) fnCharsUptoCard
end Rows
end Go.Proofs.YthpacjlaeknidabGreatDoor
