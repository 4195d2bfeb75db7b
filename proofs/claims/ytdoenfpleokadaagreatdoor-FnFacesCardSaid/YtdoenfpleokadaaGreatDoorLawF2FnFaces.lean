/- The row of the law FnFaces: whatever the input, it returns true. Conditions: those of the row alone. -/
import Derived.Test.YtdoenfpleokadaaGreatDoorRows
import Derived.Test.YtdoenfpleokadaaGreatDoorCards
import Derived.Test.YtdoenfpleokadaaGreatDoorTie
import Derived.SevenTiedAt
import Derived.LaidMore
import Derived.WalkKit
import Derived.ProofKit
import Derived.OpenShut
import Derived.ShutString
import Derived.ChangeOld
import Derived.Below
import Derived.SizedLaws
import Derived.Test.YtdoenfpleokadaaGreatDoorProg
import Derived.KernelRfl
set_option linter.unusedVariables false
namespace Go.Proofs.YtdoenfpleokadaaGreatDoor.fnFaces
open Go.ChangeShapes Go.WideShapes Go.ChangeAt Go.RowKit
open Go.ChangeMaps (open_string shut_string)
theorem k2 : (mapsRowed Tryz.prog) = true := by kernel_rfl
theorem k5 : ((Rows.fnFacesRow.stops == [])) = true := by kernel_rfl
theorem k8 : ((Tryz.prog.stopKnobs == [])) = true := by kernel_rfl
theorem k11 : ((Rows.fnFacesRow.recurses == Tryz.prog.recurses 11)) = true := by kernel_rfl
theorem k14 : ((Rows.fnFacesRow.ifaces == (Tryz.f11.params.toList ++ Rows.fnFacesSpec.plain.varTypes Tryz.prog).any (Tryz.prog.ifacesRec ·))) = true := by kernel_rfl
theorem k17 : ((Rows.fnFacesRow.wideKeys == (Tryz.f11.params.toList ++ Rows.fnFacesSpec.plain.varTypes Tryz.prog ++ Tryz.f11.resultTypes.toList).any (Tryz.prog.wideKeysFrom ·))) = true := by kernel_rfl
theorem k20 : ((Rows.fnFacesRow.ifacesOut == Tryz.f11.resultTypes.toList.any (Tryz.prog.ifacesRec ·))) = true := by kernel_rfl
theorem k23 : (Rows.fnFacesRow.shortTexts.isNone) = true := by kernel_rfl
theorem k26 : ((Rows.fnFacesRow.lifted == Tryz.prog.liftsFinal)) = true := by kernel_rfl
theorem k29 : ((Rows.fnFacesRow.pinned == Rows.fnFacesRow.pinnedBy)) = true := by kernel_rfl
end Go.Proofs.YtdoenfpleokadaaGreatDoor.fnFaces
