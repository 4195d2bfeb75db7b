/-
  DERIVED. GIVEN WITH THE SEED: THE CARDS: each row of YtnjbmpabnceneaaDoorRows.lean that lists a variable, with what it lists TIED to the program's text (the seventh form; the later family's looks); each row that meets fmt, with fmt's text TOLD by the authors' own Lean function (tested against real Go, not proved from fmt's source: count such statements apart). THE CARD IS WHAT COUNTS. Prove the row's statement (the work); the ties are given (YtnjbmpabnceneaaDoorTie.lean); close each card by the builder's one call (the guide's Derived/Test/ToyasCard.lean, 'card_holds'). Laid BY PROGRAM, IN A SANDBOX (cutbox-door.mjs). By AI agents, Wed Nov 11 2026. No macro, syntax, notation, axiom, sorry.
-/
import Derived.Test.YtnjbmpabnceneaaDoorRows
import GoSem.ClaimSeven
namespace Go.Proofs.YtnjbmpabnceneaaDoor
namespace Rows

/-- THE TIED CARD OF 'laws.FnExactIsKey'. -/
def fnExactIsKeyCard : Claim7 := { stood := { row := fnExactIsKeyRow, standIns := [], harness := (true, "fe7c6341c3355dbbf35edc304075e32c0268a5088c5e74b9d4379cc3a7cadc1a"), looks := false }, kinds := [], alts := [], laidByText := true, laidKinds := [.listed, .data], laidTests := true, laidLooks := .later }
def FnExactIsKeyCardSaid : Prop := Claim7.holds Tryd.pinned (.plain (OpenSpec.ofChange fnExactIsKeySpec)) fnExactIsKeyCard

/-- THE TIED CARD OF 'laws.FnExactFilesOK'. -/
def fnExactFilesOKCard : Claim7 := { stood := { row := fnExactFilesOKRow, standIns := [], harness := (true, "fe7c6341c3355dbbf35edc304075e32c0268a5088c5e74b9d4379cc3a7cadc1a"), looks := false }, kinds := [], alts := [], laidByText := true, laidKinds := [.listed, .data], laidTests := true, laidLooks := .later }
def FnExactFilesOKCardSaid : Prop := Claim7.holds Tryd.pinned (.plain (OpenSpec.ofChange fnExactFilesOKSpec)) fnExactFilesOKCard

/-- THE TIED CARD OF 'laws.FnExactCharText'. -/
def fnExactCharTextCard : Claim7 := { stood := { row := fnExactCharTextRow, standIns := [], harness := (true, "fe7c6341c3355dbbf35edc304075e32c0268a5088c5e74b9d4379cc3a7cadc1a"), looks := false }, kinds := [], alts := [], laidByText := true, laidKinds := [.data, .data, .data, .data, .pinned, .pinned], laidTests := true, laidLooks := .later }
def FnExactCharTextCardSaid : Prop := Claim7.holds Tryd.pinned (.plain (OpenSpec.ofChange fnExactCharTextSpec)) fnExactCharTextCard

/-- THE TIED CARD OF 'laws.FnExactTreeOK'. -/
def fnExactTreeOKCard : Claim7 := { stood := { row := fnExactTreeOKRow, standIns := [], harness := (true, "fe7c6341c3355dbbf35edc304075e32c0268a5088c5e74b9d4379cc3a7cadc1a"), looks := false }, kinds := [], alts := [], laidByText := true, laidKinds := [.listed, .data], laidTests := true, laidLooks := .later }
def FnExactTreeOKCardSaid : Prop := Claim7.holds Tryd.pinned (.plain (OpenSpec.ofChange fnExactTreeOKSpec)) fnExactTreeOKCard

/-- THE SECOND FORM's CARD OF 'laws.FnExactIsKey'. -/
def fnExactIsKeyUptoCard : Claim7 := { stood := { row := fnExactIsKeyUptoRow, standIns := [], harness := (true, "fe7c6341c3355dbbf35edc304075e32c0268a5088c5e74b9d4379cc3a7cadc1a"), looks := false }, kinds := [], alts := [], laidByText := true, laidKinds := [.listed, .data], laidTests := true, laidLooks := .later }
def FnExactIsKeyUptoCardSaid : Prop := Claim7.holds Tryd.pinned (.plain (OpenSpec.upto fnExactIsKeySpec)) fnExactIsKeyUptoCard

/-- THE SECOND FORM's CARD OF 'laws.FnExactFilesOK'. -/
def fnExactFilesOKUptoCard : Claim7 := { stood := { row := fnExactFilesOKUptoRow, standIns := [], harness := (true, "fe7c6341c3355dbbf35edc304075e32c0268a5088c5e74b9d4379cc3a7cadc1a"), looks := false }, kinds := [], alts := [], laidByText := true, laidKinds := [.listed, .data], laidTests := true, laidLooks := .later }
def FnExactFilesOKUptoCardSaid : Prop := Claim7.holds Tryd.pinned (.plain (OpenSpec.upto fnExactFilesOKSpec)) fnExactFilesOKUptoCard

/-- THE SECOND FORM's CARD OF 'laws.FnExactCharText'. -/
def fnExactCharTextUptoCard : Claim7 := { stood := { row := fnExactCharTextUptoRow, standIns := [], harness := (true, "fe7c6341c3355dbbf35edc304075e32c0268a5088c5e74b9d4379cc3a7cadc1a"), looks := false }, kinds := [], alts := [], laidByText := true, laidKinds := [.data, .data, .data, .data, .pinned, .pinned], laidTests := true, laidLooks := .later }
def FnExactCharTextUptoCardSaid : Prop := Claim7.holds Tryd.pinned (.plain (OpenSpec.upto fnExactCharTextSpec)) fnExactCharTextUptoCard

/-- THE SECOND FORM's CARD OF 'laws.FnExactTreeOK'. -/
def fnExactTreeOKUptoCard : Claim7 := { stood := { row := fnExactTreeOKUptoRow, standIns := [], harness := (true, "fe7c6341c3355dbbf35edc304075e32c0268a5088c5e74b9d4379cc3a7cadc1a"), looks := false }, kinds := [], alts := [], laidByText := true, laidKinds := [.listed, .data], laidTests := true, laidLooks := .later }
def FnExactTreeOKUptoCardSaid : Prop := Claim7.holds Tryd.pinned (.plain (OpenSpec.upto fnExactTreeOKSpec)) fnExactTreeOKUptoCard
end Rows
end Go.Proofs.YtnjbmpabnceneaaDoor
