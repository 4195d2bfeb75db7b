/-
  DERIVED. GIVEN WITH THE SEED: THE CARDS: each row of YtaikjjlbfdkgmaaDoorRows.lean that lists a variable, with what it lists TIED to the program's text (the seventh form; the later family's looks); each row that meets fmt, with fmt's text TOLD by the authors' own Lean function (tested against real Go, not proved from fmt's source: count such statements apart). THE CARD IS WHAT COUNTS. Prove the row's statement (the work); the ties are given (YtaikjjlbfdkgmaaDoorTie.lean); close each card by the builder's one call (the guide's Derived/Test/ToyasCard.lean, 'card_holds'). Laid BY PROGRAM, IN A SANDBOX (cutbox-door.mjs). By AI agents, Wed Nov 11 2026. No macro, syntax, notation, axiom, sorry.
-/
import Derived.Test.YtaikjjlbfdkgmaaDoorRows
import GoSem.ClaimSeven
namespace Go.Proofs.YtaikjjlbfdkgmaaDoor
namespace Rows

/-- THE TIED CARD OF 'laws.FnExactVerifyCode'. -/
def fnExactVerifyCodeCard : Claim7 := { stood := { row := fnExactVerifyCodeRow, standIns := [], harness := (true, "7eb44c92e1ab4acbfcb406825c1b7080b8b148221a0aa7ee6d4e4e6984bc4354"), looks := false }, kinds := [], alts := [], laidByText := true, laidKinds := [.listed, .data], laidTests := true, laidLooks := .later }
def FnExactVerifyCodeCardSaid : Prop := Claim7.holds Tryd.pinned (.plain (OpenSpec.ofChange fnExactVerifyCodeSpec)) fnExactVerifyCodeCard

/-- THE TIED CARD OF 'laws.FnExactInterfaceOK'. -/
def fnExactInterfaceOKCard : Claim7 := { stood := { row := fnExactInterfaceOKRow, standIns := [], harness := (true, "7eb44c92e1ab4acbfcb406825c1b7080b8b148221a0aa7ee6d4e4e6984bc4354"), looks := false }, kinds := [], alts := [], laidByText := true, laidKinds := [.listed, .data], laidTests := true, laidLooks := .later }
def FnExactInterfaceOKCardSaid : Prop := Claim7.holds Tryd.pinned (.plain (OpenSpec.ofChange fnExactInterfaceOKSpec)) fnExactInterfaceOKCard

/-- THE TIED CARD OF 'laws.FnExactBuiltText'. -/
def fnExactBuiltTextCard : Claim7 := { stood := { row := fnExactBuiltTextRow, standIns := [], harness := (true, "7eb44c92e1ab4acbfcb406825c1b7080b8b148221a0aa7ee6d4e4e6984bc4354"), looks := false }, kinds := [], alts := [], laidByText := true, laidKinds := [.data, .data, .data], laidTests := true, laidLooks := .later }
def FnExactBuiltTextCardSaid : Prop := Claim7.holds Tryd.pinned (.plain (OpenSpec.ofChange fnExactBuiltTextSpec)) fnExactBuiltTextCard

/-- THE TIED CARD OF 'laws.FnExactOutText'. -/
def fnExactOutTextCard : Claim7 := { stood := { row := fnExactOutTextRow, standIns := [], harness := (true, "7eb44c92e1ab4acbfcb406825c1b7080b8b148221a0aa7ee6d4e4e6984bc4354"), looks := false }, kinds := [], alts := [], laidByText := true, laidKinds := [.data, .data, .data, .data, .pinned, .pinned], laidTests := true, laidLooks := .later }
def FnExactOutTextCardSaid : Prop := Claim7.holds Tryd.pinned (.plain (OpenSpec.ofChange fnExactOutTextSpec)) fnExactOutTextCard

/-- THE TIED CARD OF 'laws.FnExactImageOK'. -/
def fnExactImageOKCard : Claim7 := { stood := { row := fnExactImageOKRow, standIns := [], harness := (true, "7eb44c92e1ab4acbfcb406825c1b7080b8b148221a0aa7ee6d4e4e6984bc4354"), looks := false }, kinds := [], alts := [], laidByText := true, laidKinds := [.listed, .data], laidTests := true, laidLooks := .later }
def FnExactImageOKCardSaid : Prop := Claim7.holds Tryd.pinned (.plain (OpenSpec.ofChange fnExactImageOKSpec)) fnExactImageOKCard

/-- THE TIED CARD OF 'laws.FnExactListing'. -/
def fnExactListingCard : Claim7 := { stood := { row := fnExactListingRow, standIns := [], harness := (true, "7eb44c92e1ab4acbfcb406825c1b7080b8b148221a0aa7ee6d4e4e6984bc4354"), looks := false }, kinds := [], alts := [], laidByText := true, laidKinds := [.data, .data, .data, .listed, .data], laidTests := true, laidLooks := .later }
def FnExactListingCardSaid : Prop := Claim7.holds Tryd.pinned (.plain (OpenSpec.ofChange fnExactListingSpec)) fnExactListingCard

/-- THE SECOND FORM's CARD OF 'laws.FnExactVerifyCode'. -/
def fnExactVerifyCodeUptoCard : Claim7 := { stood := { row := fnExactVerifyCodeUptoRow, standIns := [], harness := (true, "7eb44c92e1ab4acbfcb406825c1b7080b8b148221a0aa7ee6d4e4e6984bc4354"), looks := false }, kinds := [], alts := [], laidByText := true, laidKinds := [.listed, .data], laidTests := true, laidLooks := .later }
def FnExactVerifyCodeUptoCardSaid : Prop := Claim7.holds Tryd.pinned (.plain (OpenSpec.upto fnExactVerifyCodeSpec)) fnExactVerifyCodeUptoCard

/-- THE SECOND FORM's CARD OF 'laws.FnExactInterfaceOK'. -/
def fnExactInterfaceOKUptoCard : Claim7 := { stood := { row := fnExactInterfaceOKUptoRow, standIns := [], harness := (true, "7eb44c92e1ab4acbfcb406825c1b7080b8b148221a0aa7ee6d4e4e6984bc4354"), looks := false }, kinds := [], alts := [], laidByText := true, laidKinds := [.listed, .data], laidTests := true, laidLooks := .later }
def FnExactInterfaceOKUptoCardSaid : Prop := Claim7.holds Tryd.pinned (.plain (OpenSpec.upto fnExactInterfaceOKSpec)) fnExactInterfaceOKUptoCard

/-- THE SECOND FORM's CARD OF 'laws.FnExactBuiltText'. -/
def fnExactBuiltTextUptoCard : Claim7 := { stood := { row := fnExactBuiltTextUptoRow, standIns := [], harness := (true, "7eb44c92e1ab4acbfcb406825c1b7080b8b148221a0aa7ee6d4e4e6984bc4354"), looks := false }, kinds := [], alts := [], laidByText := true, laidKinds := [.data, .data, .data], laidTests := true, laidLooks := .later }
def FnExactBuiltTextUptoCardSaid : Prop := Claim7.holds Tryd.pinned (.plain (OpenSpec.upto fnExactBuiltTextSpec)) fnExactBuiltTextUptoCard

/-- THE SECOND FORM's CARD OF 'laws.FnExactOutText'. -/
def fnExactOutTextUptoCard : Claim7 := { stood := { row := fnExactOutTextUptoRow, standIns := [], harness := (true, "7eb44c92e1ab4acbfcb406825c1b7080b8b148221a0aa7ee6d4e4e6984bc4354"), looks := false }, kinds := [], alts := [], laidByText := true, laidKinds := [.data, .data, .data, .data, .pinned, .pinned], laidTests := true, laidLooks := .later }
def FnExactOutTextUptoCardSaid : Prop := Claim7.holds Tryd.pinned (.plain (OpenSpec.upto fnExactOutTextSpec)) fnExactOutTextUptoCard

/-- THE SECOND FORM's CARD OF 'laws.FnExactImageOK'. -/
def fnExactImageOKUptoCard : Claim7 := { stood := { row := fnExactImageOKUptoRow, standIns := [], harness := (true, "7eb44c92e1ab4acbfcb406825c1b7080b8b148221a0aa7ee6d4e4e6984bc4354"), looks := false }, kinds := [], alts := [], laidByText := true, laidKinds := [.listed, .data], laidTests := true, laidLooks := .later }
def FnExactImageOKUptoCardSaid : Prop := Claim7.holds Tryd.pinned (.plain (OpenSpec.upto fnExactImageOKSpec)) fnExactImageOKUptoCard

/-- THE SECOND FORM's CARD OF 'laws.FnExactListing'. -/
def fnExactListingUptoCard : Claim7 := { stood := { row := fnExactListingUptoRow, standIns := [], harness := (true, "7eb44c92e1ab4acbfcb406825c1b7080b8b148221a0aa7ee6d4e4e6984bc4354"), looks := false }, kinds := [], alts := [], laidByText := true, laidKinds := [.data, .data, .data, .listed, .data], laidTests := true, laidLooks := .later }
def FnExactListingUptoCardSaid : Prop := Claim7.holds Tryd.pinned (.plain (OpenSpec.upto fnExactListingSpec)) fnExactListingUptoCard
end Rows
end Go.Proofs.YtaikjjlbfdkgmaaDoor
