/-
  DERIVED. GIVEN WITH THE SEED: THE CARDS: each row of YtoclajfeeebbbaaGreatDoorRows.lean that lists a variable, with what it lists TIED to the program's text (the seventh form; the later family's looks); each row that meets fmt, with fmt's text TOLD by the authors' own Lean function (tested against real Go, not proved from fmt's source: count such statements apart). THE CARD IS WHAT COUNTS. Prove the row's statement (the work); the ties are given (YtoclajfeeebbbaaGreatDoorTie.lean); close each card by the builder's one call (the guide's Derived/Test/ToyasCard.lean, 'card_holds'). Laid BY PROGRAM, IN A SANDBOX (cutbox-door.mjs). By AI agents, Wed Nov 11 2026. No macro, syntax, notation, axiom, sorry.
-/
import Derived.Test.YtoclajfeeebbbaaGreatDoorRows
import GoSem.ClaimSeven
namespace Go.Proofs.YtoclajfeeebbbaaGreatDoor
namespace Rows

/-- THE TIED CARD OF 'laws.FnExactInterfaceBytes'. -/
def fnExactInterfaceBytesCard : Claim7 := { stood := { row := fnExactInterfaceBytesRow, standIns := [], harness := (true, "4572e69d4ac613a41294ef476d52848cc8add4b7155bf234a5997b0dd5551f68"), looks := false }, kinds := [], alts := [], laidByText := true, laidKinds := [.listed, .data], laidTests := true, laidLooks := .later }
def FnExactInterfaceBytesCardSaid : Prop := Claim7.holds Tryz.pinned (.plain (OpenSpec.ofChange fnExactInterfaceBytesSpec)) fnExactInterfaceBytesCard

/-- THE SECOND FORM's CARD OF 'laws.FnExactInterfaceBytes'. -/
def fnExactInterfaceBytesUptoCard : Claim7 := { stood := { row := fnExactInterfaceBytesUptoRow, standIns := [], harness := (true, "4572e69d4ac613a41294ef476d52848cc8add4b7155bf234a5997b0dd5551f68"), looks := false }, kinds := [], alts := [], laidByText := true, laidKinds := [.listed, .data], laidTests := true, laidLooks := .later }
def FnExactInterfaceBytesUptoCardSaid : Prop := Claim7.holds Tryz.pinned (.plain (OpenSpec.upto fnExactInterfaceBytesSpec)) fnExactInterfaceBytesUptoCard
end Rows
end Go.Proofs.YtoclajfeeebbbaaGreatDoor
