/- The row of the law FnExactEntryOK: whatever the input, it returns true. Conditions: those of the row alone. -/
import Derived.Test.YtiphpljonbabjaaGreatDoorRows
import Derived.Test.YtiphpljonbabjaaGreatDoorCards
import Derived.Test.YtiphpljonbabjaaGreatDoorTie
import Derived.SevenTiedAt
import Derived.LaidMore
import Derived.WalkKit
import Derived.ProofKit
import Derived.OpenShut
import Derived.ShutString
import Derived.ChangeOld
import Derived.Below
import Derived.SizedLaws
import Derived.Test.YtiphpljonbabjaaGreatDoorProg
import Derived.KernelRfl
set_option linter.unusedVariables false
namespace Go.Proofs.YtiphpljonbabjaaGreatDoor.fnExactEntryOK
open Go.ChangeShapes Go.WideShapes Go.ChangeAt Go.RowKit
open Go.ChangeMaps (open_string shut_string)
theorem k2 : (mapsRowed Tryz.prog) = true := by kernel_rfl
theorem k5 : ((Rows.fnExactEntryOKRow.stops == [])) = true := by kernel_rfl
theorem k8 : ((Tryz.prog.stopKnobs == [])) = true := by kernel_rfl
theorem k11 : ((Rows.fnExactEntryOKRow.recurses == Tryz.prog.recurses 3)) = true := by kernel_rfl
theorem k14 : ((Rows.fnExactEntryOKRow.ifaces == (Tryz.f3.params.toList ++ Rows.fnExactEntryOKSpec.plain.varTypes Tryz.prog).any (Tryz.prog.ifacesRec ·))) = true := by kernel_rfl
theorem k17 : ((Rows.fnExactEntryOKRow.wideKeys == (Tryz.f3.params.toList ++ Rows.fnExactEntryOKSpec.plain.varTypes Tryz.prog ++ Tryz.f3.resultTypes.toList).any (Tryz.prog.wideKeysFrom ·))) = true := by kernel_rfl
theorem k20 : ((Rows.fnExactEntryOKRow.ifacesOut == Tryz.f3.resultTypes.toList.any (Tryz.prog.ifacesRec ·))) = true := by kernel_rfl
theorem k23 : (Rows.fnExactEntryOKRow.shortTexts.isNone) = true := by kernel_rfl
theorem k26 : ((Rows.fnExactEntryOKRow.lifted == Tryz.prog.liftsFinal)) = true := by kernel_rfl
theorem k29 : ((Rows.fnExactEntryOKRow.pinned == Rows.fnExactEntryOKRow.pinnedBy)) = true := by kernel_rfl
end Go.Proofs.YtiphpljonbabjaaGreatDoor.fnExactEntryOK
