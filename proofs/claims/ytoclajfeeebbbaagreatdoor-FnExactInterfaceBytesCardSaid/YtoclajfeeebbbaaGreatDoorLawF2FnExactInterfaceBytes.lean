/- The row of the law FnExactInterfaceBytes: whatever the input, it returns true. Conditions: those of the row alone. -/
import Derived.Test.YtoclajfeeebbbaaGreatDoorRows
import Derived.Test.YtoclajfeeebbbaaGreatDoorCards
import Derived.Test.YtoclajfeeebbbaaGreatDoorTie
import Derived.Test.YtoclajfeeebbbaaGreatDoorZFnExactInterfaceBytes
import Derived.SevenTiedAt
import Derived.LaidMore
import Derived.Lay
import Derived.WalkKit
import Derived.ProofKit
import Derived.OpenShut
import Derived.ShutString
import Derived.ChangeOld
import Derived.Below
import Derived.SizedLaws
import Derived.Test.YtoclajfeeebbbaaGreatDoorProg
import Derived.KernelRfl
set_option linter.unusedVariables false
namespace Go.Proofs.YtoclajfeeebbbaaGreatDoor.fnExactInterfaceBytes
open Go.ChangeShapes Go.WideShapes Go.ChangeAt Go.RowKit
open Go.ChangeMaps (open_string shut_string)
theorem k2 : (mapsRowed Tryz.prog) = true := by kernel_rfl
theorem k5 : ((Rows.fnExactInterfaceBytesRow.stops == [])) = true := by kernel_rfl
theorem k8 : ((Tryz.prog.stopKnobs == [])) = true := by kernel_rfl
theorem k11 : ((Rows.fnExactInterfaceBytesRow.recurses == Tryz.prog.recurses 3)) = true := by kernel_rfl
theorem k14 : ((Rows.fnExactInterfaceBytesRow.ifaces == (Tryz.f3.params.toList ++ Rows.fnExactInterfaceBytesSpec.plain.varTypes Tryz.prog).any (Tryz.prog.ifacesRec ·))) = true := by kernel_rfl
theorem k17 : ((Rows.fnExactInterfaceBytesRow.wideKeys == (Tryz.f3.params.toList ++ Rows.fnExactInterfaceBytesSpec.plain.varTypes Tryz.prog ++ Tryz.f3.resultTypes.toList).any (Tryz.prog.wideKeysFrom ·))) = true := by kernel_rfl
theorem k20 : ((Rows.fnExactInterfaceBytesRow.ifacesOut == Tryz.f3.resultTypes.toList.any (Tryz.prog.ifacesRec ·))) = true := by kernel_rfl
theorem k23 : (Rows.fnExactInterfaceBytesRow.shortTexts.isNone) = true := by kernel_rfl
theorem k26 : ((Rows.fnExactInterfaceBytesRow.lifted == Tryz.prog.liftsFinal)) = true := by kernel_rfl
theorem k29 : ((Rows.fnExactInterfaceBytesRow.pinned == Rows.fnExactInterfaceBytesRow.pinnedBy)) = true := by kernel_rfl
end Go.Proofs.YtoclajfeeebbbaaGreatDoor.fnExactInterfaceBytes
