/-
  DERIVED. GIVEN WITH THE SEED: THE CARDS: each row of YtdoenfpleokadaaDoorRows.lean that lists a variable, with what it lists TIED to the program's text (the seventh form; the later family's looks); each row that meets fmt, with fmt's text TOLD by the authors' own Lean function (tested against real Go, not proved from fmt's source: count such statements apart). THE CARD IS WHAT COUNTS. Prove the row's statement (the work); the ties are given (YtdoenfpleokadaaDoorTie.lean); close each card by the builder's one call (the guide's Derived/Test/ToyasCard.lean, 'card_holds'). Laid BY PROGRAM, IN A SANDBOX (cutbox-door.mjs). By AI agents, Wed Nov 11 2026. No macro, syntax, notation, axiom, sorry.
-/
import Derived.Test.YtdoenfpleokadaaDoorRows
import GoSem.ClaimSeven
namespace Go.Proofs.YtdoenfpleokadaaDoor
namespace Rows

/-- THE TIED CARD OF 'laws.FnExactOutText'. -/
def fnExactOutTextCard : Claim7 := { stood := { row := fnExactOutTextRow, standIns := [], harness := (true, "a8d9c1b22fcfe0090d06b96b91ab209acf9bd63c11be9b26de26f299d9361f28"), looks := false }, kinds := [], alts := [], laidByText := true, laidKinds := [.data, .data, .data, .data, .pinned, .pinned], laidTests := true, laidLooks := .later }
def FnExactOutTextCardSaid : Prop := Claim7.holds Tryd.pinned (.plain (OpenSpec.ofChange fnExactOutTextSpec)) fnExactOutTextCard

/-- THE TIED CARD OF 'laws.FnExactListing'. -/
def fnExactListingCard : Claim7 := { stood := { row := fnExactListingRow, standIns := [], harness := (true, "a8d9c1b22fcfe0090d06b96b91ab209acf9bd63c11be9b26de26f299d9361f28"), looks := false }, kinds := [], alts := [], laidByText := true, laidKinds := [.data, .data, .data, .listed, .data], laidTests := true, laidLooks := .later }
def FnExactListingCardSaid : Prop := Claim7.holds Tryd.pinned (.plain (OpenSpec.ofChange fnExactListingSpec)) fnExactListingCard

/-- THE TIED CARD OF 'laws.FnExactTreeOK'. -/
def fnExactTreeOKCard : Claim7 := { stood := { row := fnExactTreeOKRow, standIns := [], harness := (true, "a8d9c1b22fcfe0090d06b96b91ab209acf9bd63c11be9b26de26f299d9361f28"), looks := false }, kinds := [], alts := [], laidByText := true, laidKinds := [.listed, .data], laidTests := true, laidLooks := .later }
def FnExactTreeOKCardSaid : Prop := Claim7.holds Tryd.pinned (.plain (OpenSpec.ofChange fnExactTreeOKSpec)) fnExactTreeOKCard

/-- THE SECOND FORM's CARD OF 'laws.FnExactOutText'. -/
def fnExactOutTextUptoCard : Claim7 := { stood := { row := fnExactOutTextUptoRow, standIns := [], harness := (true, "a8d9c1b22fcfe0090d06b96b91ab209acf9bd63c11be9b26de26f299d9361f28"), looks := false }, kinds := [], alts := [], laidByText := true, laidKinds := [.data, .data, .data, .data, .pinned, .pinned], laidTests := true, laidLooks := .later }
def FnExactOutTextUptoCardSaid : Prop := Claim7.holds Tryd.pinned (.plain (OpenSpec.upto fnExactOutTextSpec)) fnExactOutTextUptoCard

/-- THE SECOND FORM's CARD OF 'laws.FnExactListing'. -/
def fnExactListingUptoCard : Claim7 := { stood := { row := fnExactListingUptoRow, standIns := [], harness := (true, "a8d9c1b22fcfe0090d06b96b91ab209acf9bd63c11be9b26de26f299d9361f28"), looks := false }, kinds := [], alts := [], laidByText := true, laidKinds := [.data, .data, .data, .listed, .data], laidTests := true, laidLooks := .later }
def FnExactListingUptoCardSaid : Prop := Claim7.holds Tryd.pinned (.plain (OpenSpec.upto fnExactListingSpec)) fnExactListingUptoCard

/-- THE SECOND FORM's CARD OF 'laws.FnExactTreeOK'. -/
def fnExactTreeOKUptoCard : Claim7 := { stood := { row := fnExactTreeOKUptoRow, standIns := [], harness := (true, "a8d9c1b22fcfe0090d06b96b91ab209acf9bd63c11be9b26de26f299d9361f28"), looks := false }, kinds := [], alts := [], laidByText := true, laidKinds := [.listed, .data], laidTests := true, laidLooks := .later }
def FnExactTreeOKUptoCardSaid : Prop := Claim7.holds Tryd.pinned (.plain (OpenSpec.upto fnExactTreeOKSpec)) fnExactTreeOKUptoCard
end Rows
end Go.Proofs.YtdoenfpleokadaaDoor
