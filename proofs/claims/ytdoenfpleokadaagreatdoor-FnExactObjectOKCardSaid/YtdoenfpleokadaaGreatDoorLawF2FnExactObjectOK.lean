/- The row of the law FnExactObjectOK: whatever the input, it returns true. Conditions: those of the row alone. -/
import Derived.Test.YtdoenfpleokadaaGreatDoorRows
import Derived.Test.YtdoenfpleokadaaGreatDoorCards
import Derived.Test.YtdoenfpleokadaaGreatDoorTie
import Derived.SevenTiedAt
import Derived.LaidMore
import Derived.WalkKit
import Derived.ProofKit
import Derived.OpenShut
import Derived.ShutString
import Derived.ChangeOld
import Derived.Below
import Derived.SizedLaws
import Derived.Test.YtdoenfpleokadaaGreatDoorProg
import Derived.KernelRfl
set_option linter.unusedVariables false
namespace Go.Proofs.YtdoenfpleokadaaGreatDoor.fnExactObjectOK
open Go.ChangeShapes Go.WideShapes Go.ChangeAt Go.RowKit
open Go.ChangeMaps (open_string shut_string)
theorem k2 : (mapsRowed Tryz.prog) = true := by kernel_rfl
theorem k5 : ((Rows.fnExactObjectOKRow.stops == [])) = true := by kernel_rfl
theorem k8 : ((Tryz.prog.stopKnobs == [])) = true := by kernel_rfl
theorem k11 : ((Rows.fnExactObjectOKRow.recurses == Tryz.prog.recurses 8)) = true := by kernel_rfl
theorem k14 : ((Rows.fnExactObjectOKRow.ifaces == (Tryz.f8.params.toList ++ Rows.fnExactObjectOKSpec.plain.varTypes Tryz.prog).any (Tryz.prog.ifacesRec ·))) = true := by kernel_rfl
theorem k17 : ((Rows.fnExactObjectOKRow.wideKeys == (Tryz.f8.params.toList ++ Rows.fnExactObjectOKSpec.plain.varTypes Tryz.prog ++ Tryz.f8.resultTypes.toList).any (Tryz.prog.wideKeysFrom ·))) = true := by kernel_rfl
theorem k20 : ((Rows.fnExactObjectOKRow.ifacesOut == Tryz.f8.resultTypes.toList.any (Tryz.prog.ifacesRec ·))) = true := by kernel_rfl
theorem k23 : (Rows.fnExactObjectOKRow.shortTexts.isNone) = true := by kernel_rfl
theorem k26 : ((Rows.fnExactObjectOKRow.lifted == Tryz.prog.liftsFinal)) = true := by kernel_rfl
theorem k29 : ((Rows.fnExactObjectOKRow.pinned == Rows.fnExactObjectOKRow.pinnedBy)) = true := by kernel_rfl
end Go.Proofs.YtdoenfpleokadaaGreatDoor.fnExactObjectOK
