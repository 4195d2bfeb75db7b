/- The row of the law FnExactTreeOK: whatever the input, it returns true. Conditions: those of the row alone. -/
import Derived.Test.YtjgddjmgcffjfaaDoorRows
import Derived.Test.YtjgddjmgcffjfaaDoorCards
import Derived.Test.YtjgddjmgcffjfaaDoorTie
import Derived.SevenTiedAt
import Derived.LaidMore
import Derived.Lay
import Derived.WalkKit
import Derived.ProofKit
import Derived.OpenShut
import Derived.ShutString
import Derived.ChangeOld
import Derived.Below
import Derived.SizedLaws
import Derived.Test.YtjgddjmgcffjfaaDoorProg
import Derived.KernelRfl
set_option linter.unusedVariables false
namespace Go.Proofs.YtjgddjmgcffjfaaDoor.fnExactTreeOK
open Go.ChangeShapes Go.WideShapes Go.ChangeAt Go.RowKit
open Go.ChangeMaps (open_string shut_string)
theorem k2 : (mapsRowed Tryd.prog) = true := by kernel_rfl
theorem k5 : ((Rows.fnExactTreeOKRow.stops == [])) = true := by kernel_rfl
theorem k8 : ((Tryd.prog.stopKnobs == [])) = true := by kernel_rfl
theorem k11 : ((Rows.fnExactTreeOKRow.recurses == Tryd.prog.recurses 4)) = true := by kernel_rfl
theorem k14 : ((Rows.fnExactTreeOKRow.ifaces == (Tryd.f4.params.toList ++ Rows.fnExactTreeOKSpec.plain.varTypes Tryd.prog).any (Tryd.prog.ifacesRec ·))) = true := by kernel_rfl
theorem k17 : ((Rows.fnExactTreeOKRow.wideKeys == (Tryd.f4.params.toList ++ Rows.fnExactTreeOKSpec.plain.varTypes Tryd.prog ++ Tryd.f4.resultTypes.toList).any (Tryd.prog.wideKeysFrom ·))) = true := by kernel_rfl
theorem k20 : ((Rows.fnExactTreeOKRow.ifacesOut == Tryd.f4.resultTypes.toList.any (Tryd.prog.ifacesRec ·))) = true := by kernel_rfl
theorem k23 : (Rows.fnExactTreeOKRow.shortTexts.isNone) = true := by kernel_rfl
theorem k26 : ((Rows.fnExactTreeOKRow.lifted == Tryd.prog.liftsFinal)) = true := by kernel_rfl
theorem k29 : ((Rows.fnExactTreeOKRow.pinned == Rows.fnExactTreeOKRow.pinnedBy)) = true := by kernel_rfl
end Go.Proofs.YtjgddjmgcffjfaaDoor.fnExactTreeOK
