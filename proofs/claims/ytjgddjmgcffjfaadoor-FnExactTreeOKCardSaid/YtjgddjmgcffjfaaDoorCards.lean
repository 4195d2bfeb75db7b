/-
  DERIVED. GIVEN WITH THE SEED: THE CARDS: each row of YtjgddjmgcffjfaaDoorRows.lean that lists a variable, with what it lists TIED to the program's text (the seventh form; the later family's looks); each row that meets fmt, with fmt's text TOLD by the authors' own Lean function (tested against real Go, not proved from fmt's source: count such statements apart). THE CARD IS WHAT COUNTS. Prove the row's statement (the work); the ties are given (YtjgddjmgcffjfaaDoorTie.lean); close each card by the builder's one call (the guide's Derived/Test/ToyasCard.lean, 'card_holds'). Laid BY PROGRAM, IN A SANDBOX (cutbox-door.mjs). By AI agents, Wed Nov 11 2026. No macro, syntax, notation, axiom, sorry.
-/
import Derived.Test.YtjgddjmgcffjfaaDoorRows
import GoSem.ClaimSeven
namespace Go.Proofs.YtjgddjmgcffjfaaDoor
namespace Rows

/-- THE TIED CARD OF 'laws.FnExactCharText'. -/
def fnExactCharTextCard : Claim7 := { stood := { row := fnExactCharTextRow, standIns := [], harness := (true, "6b46ca8abb42a3d001a590dc5643d47ff37a947997762ec9d9550b1c7c1d0f46"), looks := false }, kinds := [], alts := [], laidByText := true, laidKinds := [.data, .data, .data, .data, .pinned, .pinned], laidTests := true, laidLooks := .later }
def FnExactCharTextCardSaid : Prop := Claim7.holds Tryd.pinned (.plain (OpenSpec.ofChange fnExactCharTextSpec)) fnExactCharTextCard

/-- THE TIED CARD OF 'laws.FnExactTreeOK'. -/
def fnExactTreeOKCard : Claim7 := { stood := { row := fnExactTreeOKRow, standIns := [], harness := (true, "6b46ca8abb42a3d001a590dc5643d47ff37a947997762ec9d9550b1c7c1d0f46"), looks := false }, kinds := [], alts := [], laidByText := true, laidKinds := [.listed, .data], laidTests := true, laidLooks := .later }
def FnExactTreeOKCardSaid : Prop := Claim7.holds Tryd.pinned (.plain (OpenSpec.ofChange fnExactTreeOKSpec)) fnExactTreeOKCard

/-- THE TIED CARD OF 'laws.FnExactOutText'. -/
def fnExactOutTextCard : Claim7 := { stood := { row := fnExactOutTextRow, standIns := [], harness := (true, "6b46ca8abb42a3d001a590dc5643d47ff37a947997762ec9d9550b1c7c1d0f46"), looks := false }, kinds := [], alts := [], laidByText := true, laidKinds := [.data, .data, .data, .data, .pinned, .pinned], laidTests := true, laidLooks := .later }
def FnExactOutTextCardSaid : Prop := Claim7.holds Tryd.pinned (.plain (OpenSpec.ofChange fnExactOutTextSpec)) fnExactOutTextCard

/-- THE SECOND FORM's CARD OF 'laws.FnExactCharText'. -/
def fnExactCharTextUptoCard : Claim7 := { stood := { row := fnExactCharTextUptoRow, standIns := [], harness := (true, "6b46ca8abb42a3d001a590dc5643d47ff37a947997762ec9d9550b1c7c1d0f46"), looks := false }, kinds := [], alts := [], laidByText := true, laidKinds := [.data, .data, .data, .data, .pinned, .pinned], laidTests := true, laidLooks := .later }
def FnExactCharTextUptoCardSaid : Prop := Claim7.holds Tryd.pinned (.plain (OpenSpec.upto fnExactCharTextSpec)) fnExactCharTextUptoCard

/-- THE SECOND FORM's CARD OF 'laws.FnExactTreeOK'. -/
def fnExactTreeOKUptoCard : Claim7 := { stood := { row := fnExactTreeOKUptoRow, standIns := [], harness := (true, "6b46ca8abb42a3d001a590dc5643d47ff37a947997762ec9d9550b1c7c1d0f46"), looks := false }, kinds := [], alts := [], laidByText := true, laidKinds := [.listed, .data], laidTests := true, laidLooks := .later }
def FnExactTreeOKUptoCardSaid : Prop := Claim7.holds Tryd.pinned (.plain (OpenSpec.upto fnExactTreeOKSpec)) fnExactTreeOKUptoCard

/-- THE SECOND FORM's CARD OF 'laws.FnExactOutText'. -/
def fnExactOutTextUptoCard : Claim7 := { stood := { row := fnExactOutTextUptoRow, standIns := [], harness := (true, "6b46ca8abb42a3d001a590dc5643d47ff37a947997762ec9d9550b1c7c1d0f46"), looks := false }, kinds := [], alts := [], laidByText := true, laidKinds := [.data, .data, .data, .data, .pinned, .pinned], laidTests := true, laidLooks := .later }
def FnExactOutTextUptoCardSaid : Prop := Claim7.holds Tryd.pinned (.plain (OpenSpec.upto fnExactOutTextSpec)) fnExactOutTextUptoCard
end Rows
end Go.Proofs.YtjgddjmgcffjfaaDoor
