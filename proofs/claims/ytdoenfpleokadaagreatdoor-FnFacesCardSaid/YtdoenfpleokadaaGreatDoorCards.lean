/-
  DERIVED. GIVEN WITH THE SEED: THE CARDS: each row of YtdoenfpleokadaaGreatDoorRows.lean that lists a variable, with what it lists TIED to the program's text (the seventh form; the later family's looks); each row that meets fmt, with fmt's text TOLD by the authors' own Lean function (tested against real Go, not proved from fmt's source: count such statements apart). THE CARD IS WHAT COUNTS. Prove the row's statement (the work); the ties are given (YtdoenfpleokadaaGreatDoorTie.lean); close each card by the builder's one call (the guide's Derived/Test/ToyasCard.lean, 'card_holds'). Laid BY PROGRAM, IN A SANDBOX (cutbox-door.mjs). By AI agents, Wed Nov 11 2026. No macro, syntax, notation, axiom, sorry.
-/
import Derived.Test.YtdoenfpleokadaaGreatDoorRows
import GoSem.ClaimSeven
namespace Go.Proofs.YtdoenfpleokadaaGreatDoor
namespace Rows

/-- THE TIED CARD OF 'laws.FnExactPrintOf'. -/
def fnExactPrintOfCard : Claim7 := { stood := { row := fnExactPrintOfRow, standIns := [], harness := (true, "c27e6c5f4a7e5cb11291a0bf7f09e01b6a6c71f7fc140c21b1bb9b6b22f9f001"), looks := false }, kinds := [], alts := [], laidByText := true, laidKinds := [.listed, .data], laidTests := true, laidLooks := .later }
def FnExactPrintOfCardSaid : Prop := Claim7.holds Tryz.pinned (.plain (OpenSpec.ofChange fnExactPrintOfSpec)) fnExactPrintOfCard

/-- THE TIED CARD OF 'laws.FnExactReadInterface'. -/
def fnExactReadInterfaceCard : Claim7 := { stood := { row := fnExactReadInterfaceRow, standIns := [], harness := (true, "c27e6c5f4a7e5cb11291a0bf7f09e01b6a6c71f7fc140c21b1bb9b6b22f9f001"), looks := false }, kinds := [], alts := [], laidByText := true, laidKinds := [.listed, .data], laidTests := true, laidLooks := .later }
def FnExactReadInterfaceCardSaid : Prop := Claim7.holds Tryz.pinned (.plain (OpenSpec.ofChange fnExactReadInterfaceSpec)) fnExactReadInterfaceCard

/-- THE TIED CARD OF 'laws.FnExactInterfaceBytes'. -/
def fnExactInterfaceBytesCard : Claim7 := { stood := { row := fnExactInterfaceBytesRow, standIns := [], harness := (true, "c27e6c5f4a7e5cb11291a0bf7f09e01b6a6c71f7fc140c21b1bb9b6b22f9f001"), looks := false }, kinds := [], alts := [], laidByText := true, laidKinds := [.listed, .data], laidTests := true, laidLooks := .later }
def FnExactInterfaceBytesCardSaid : Prop := Claim7.holds Tryz.pinned (.plain (OpenSpec.ofChange fnExactInterfaceBytesSpec)) fnExactInterfaceBytesCard

/-- THE TIED CARD OF 'laws.FnExactOrder'. -/
def fnExactOrderCard : Claim7 := { stood := { row := fnExactOrderRow, standIns := [], harness := (true, "c27e6c5f4a7e5cb11291a0bf7f09e01b6a6c71f7fc140c21b1bb9b6b22f9f001"), looks := false }, kinds := [], alts := [], laidByText := true, laidKinds := [.listed, .data], laidTests := true, laidLooks := .later }
def FnExactOrderCardSaid : Prop := Claim7.holds Tryz.pinned (.plain (OpenSpec.ofChange fnExactOrderSpec)) fnExactOrderCard

/-- THE TIED CARD OF 'laws.FnExactEntryOK'. -/
def fnExactEntryOKCard : Claim7 := { stood := { row := fnExactEntryOKRow, standIns := [], harness := (true, "c27e6c5f4a7e5cb11291a0bf7f09e01b6a6c71f7fc140c21b1bb9b6b22f9f001"), looks := false }, kinds := [], alts := [], laidByText := true, laidKinds := [.listed, .data], laidTests := true, laidLooks := .later }
def FnExactEntryOKCardSaid : Prop := Claim7.holds Tryz.pinned (.plain (OpenSpec.ofChange fnExactEntryOKSpec)) fnExactEntryOKCard

/-- THE TIED CARD OF 'laws.FnExactObjectOK'. -/
def fnExactObjectOKCard : Claim7 := { stood := { row := fnExactObjectOKRow, standIns := [], harness := (true, "c27e6c5f4a7e5cb11291a0bf7f09e01b6a6c71f7fc140c21b1bb9b6b22f9f001"), looks := false }, kinds := [], alts := [], laidByText := true, laidKinds := [.listed, .data], laidTests := true, laidLooks := .later }
def FnExactObjectOKCardSaid : Prop := Claim7.holds Tryz.pinned (.plain (OpenSpec.ofChange fnExactObjectOKSpec)) fnExactObjectOKCard

/-- THE TIED CARD OF 'laws.FnExactReadObject'. -/
def fnExactReadObjectCard : Claim7 := { stood := { row := fnExactReadObjectRow, standIns := [], harness := (true, "c27e6c5f4a7e5cb11291a0bf7f09e01b6a6c71f7fc140c21b1bb9b6b22f9f001"), looks := false }, kinds := [], alts := [], laidByText := true, laidKinds := [.listed, .data], laidTests := true, laidLooks := .later }
def FnExactReadObjectCardSaid : Prop := Claim7.holds Tryz.pinned (.plain (OpenSpec.ofChange fnExactReadObjectSpec)) fnExactReadObjectCard

/-- THE TIED CARD OF 'laws.FnExactObjectBytes'. -/
def fnExactObjectBytesCard : Claim7 := { stood := { row := fnExactObjectBytesRow, standIns := [], harness := (true, "c27e6c5f4a7e5cb11291a0bf7f09e01b6a6c71f7fc140c21b1bb9b6b22f9f001"), looks := false }, kinds := [], alts := [], laidByText := true, laidKinds := [.listed, .data], laidTests := true, laidLooks := .later }
def FnExactObjectBytesCardSaid : Prop := Claim7.holds Tryz.pinned (.plain (OpenSpec.ofChange fnExactObjectBytesSpec)) fnExactObjectBytesCard

/-- THE TIED CARD OF 'laws.FnFaces'. -/
def fnFacesCard : Claim7 := { stood := { row := fnFacesRow, standIns := [], harness := (true, "c27e6c5f4a7e5cb11291a0bf7f09e01b6a6c71f7fc140c21b1bb9b6b22f9f001"), looks := false }, kinds := [], alts := [], laidByText := true, laidKinds := [.listed, .data], laidTests := true, laidLooks := .later }
def FnFacesCardSaid : Prop := Claim7.holds Tryz.pinned (.plain (OpenSpec.ofChange fnFacesSpec)) fnFacesCard

/-- THE SECOND FORM's CARD OF 'laws.FnExactPrintOf'. -/
def fnExactPrintOfUptoCard : Claim7 := { stood := { row := fnExactPrintOfUptoRow, standIns := [], harness := (true, "c27e6c5f4a7e5cb11291a0bf7f09e01b6a6c71f7fc140c21b1bb9b6b22f9f001"), looks := false }, kinds := [], alts := [], laidByText := true, laidKinds := [.listed, .data], laidTests := true, laidLooks := .later }
def FnExactPrintOfUptoCardSaid : Prop := Claim7.holds Tryz.pinned (.plain (OpenSpec.upto fnExactPrintOfSpec)) fnExactPrintOfUptoCard

/-- THE SECOND FORM's CARD OF 'laws.FnExactReadInterface'. -/
def fnExactReadInterfaceUptoCard : Claim7 := { stood := { row := fnExactReadInterfaceUptoRow, standIns := [], harness := (true, "c27e6c5f4a7e5cb11291a0bf7f09e01b6a6c71f7fc140c21b1bb9b6b22f9f001"), looks := false }, kinds := [], alts := [], laidByText := true, laidKinds := [.listed, .data], laidTests := true, laidLooks := .later }
def FnExactReadInterfaceUptoCardSaid : Prop := Claim7.holds Tryz.pinned (.plain (OpenSpec.upto fnExactReadInterfaceSpec)) fnExactReadInterfaceUptoCard

/-- THE SECOND FORM's CARD OF 'laws.FnExactInterfaceBytes'. -/
def fnExactInterfaceBytesUptoCard : Claim7 := { stood := { row := fnExactInterfaceBytesUptoRow, standIns := [], harness := (true, "c27e6c5f4a7e5cb11291a0bf7f09e01b6a6c71f7fc140c21b1bb9b6b22f9f001"), looks := false }, kinds := [], alts := [], laidByText := true, laidKinds := [.listed, .data], laidTests := true, laidLooks := .later }
def FnExactInterfaceBytesUptoCardSaid : Prop := Claim7.holds Tryz.pinned (.plain (OpenSpec.upto fnExactInterfaceBytesSpec)) fnExactInterfaceBytesUptoCard

/-- THE SECOND FORM's CARD OF 'laws.FnExactOrder'. -/
def fnExactOrderUptoCard : Claim7 := { stood := { row := fnExactOrderUptoRow, standIns := [], harness := (true, "c27e6c5f4a7e5cb11291a0bf7f09e01b6a6c71f7fc140c21b1bb9b6b22f9f001"), looks := false }, kinds := [], alts := [], laidByText := true, laidKinds := [.listed, .data], laidTests := true, laidLooks := .later }
def FnExactOrderUptoCardSaid : Prop := Claim7.holds Tryz.pinned (.plain (OpenSpec.upto fnExactOrderSpec)) fnExactOrderUptoCard

/-- THE SECOND FORM's CARD OF 'laws.FnExactEntryOK'. -/
def fnExactEntryOKUptoCard : Claim7 := { stood := { row := fnExactEntryOKUptoRow, standIns := [], harness := (true, "c27e6c5f4a7e5cb11291a0bf7f09e01b6a6c71f7fc140c21b1bb9b6b22f9f001"), looks := false }, kinds := [], alts := [], laidByText := true, laidKinds := [.listed, .data], laidTests := true, laidLooks := .later }
def FnExactEntryOKUptoCardSaid : Prop := Claim7.holds Tryz.pinned (.plain (OpenSpec.upto fnExactEntryOKSpec)) fnExactEntryOKUptoCard

/-- THE SECOND FORM's CARD OF 'laws.FnExactObjectOK'. -/
def fnExactObjectOKUptoCard : Claim7 := { stood := { row := fnExactObjectOKUptoRow, standIns := [], harness := (true, "c27e6c5f4a7e5cb11291a0bf7f09e01b6a6c71f7fc140c21b1bb9b6b22f9f001"), looks := false }, kinds := [], alts := [], laidByText := true, laidKinds := [.listed, .data], laidTests := true, laidLooks := .later }
def FnExactObjectOKUptoCardSaid : Prop := Claim7.holds Tryz.pinned (.plain (OpenSpec.upto fnExactObjectOKSpec)) fnExactObjectOKUptoCard

/-- THE SECOND FORM's CARD OF 'laws.FnExactReadObject'. -/
def fnExactReadObjectUptoCard : Claim7 := { stood := { row := fnExactReadObjectUptoRow, standIns := [], harness := (true, "c27e6c5f4a7e5cb11291a0bf7f09e01b6a6c71f7fc140c21b1bb9b6b22f9f001"), looks := false }, kinds := [], alts := [], laidByText := true, laidKinds := [.listed, .data], laidTests := true, laidLooks := .later }
def FnExactReadObjectUptoCardSaid : Prop := Claim7.holds Tryz.pinned (.plain (OpenSpec.upto fnExactReadObjectSpec)) fnExactReadObjectUptoCard

/-- THE SECOND FORM's CARD OF 'laws.FnExactObjectBytes'. -/
def fnExactObjectBytesUptoCard : Claim7 := { stood := { row := fnExactObjectBytesUptoRow, standIns := [], harness := (true, "c27e6c5f4a7e5cb11291a0bf7f09e01b6a6c71f7fc140c21b1bb9b6b22f9f001"), looks := false }, kinds := [], alts := [], laidByText := true, laidKinds := [.listed, .data], laidTests := true, laidLooks := .later }
def FnExactObjectBytesUptoCardSaid : Prop := Claim7.holds Tryz.pinned (.plain (OpenSpec.upto fnExactObjectBytesSpec)) fnExactObjectBytesUptoCard

/-- THE SECOND FORM's CARD OF 'laws.FnFaces'. -/
def fnFacesUptoCard : Claim7 := { stood := { row := fnFacesUptoRow, standIns := [], harness := (true, "c27e6c5f4a7e5cb11291a0bf7f09e01b6a6c71f7fc140c21b1bb9b6b22f9f001"), looks := false }, kinds := [], alts := [], laidByText := true, laidKinds := [.listed, .data], laidTests := true, laidLooks := .later }
def FnFacesUptoCardSaid : Prop := Claim7.holds Tryz.pinned (.plain (OpenSpec.upto fnFacesSpec)) fnFacesUptoCard
end Rows
end Go.Proofs.YtdoenfpleokadaaGreatDoor
