/- The row of the law FnExactReadInterface: whatever the input, it returns true. Conditions: those of the row alone. -/
import Derived.Test.YtoclajfeeebbbabGreatDoorRows
import Derived.Test.YtoclajfeeebbbabGreatDoorCards
import Derived.Test.YtoclajfeeebbbabGreatDoorTie
import Derived.Test.YtoclajfeeebbbabGreatDoorZFnExactReadInterface
import Derived.SevenTiedAt
import Derived.LaidMore
import Derived.Lay
import Derived.WalkKit
import Derived.ProofKit
import Derived.OpenShut
import Derived.ShutString
import Derived.ChangeOld
import Derived.Below
import Derived.SizedLaws
import Derived.Test.YtoclajfeeebbbabGreatDoorProg
import Derived.KernelRfl
set_option linter.unusedVariables false
namespace Go.Proofs.YtoclajfeeebbbabGreatDoor.fnExactReadInterface
open Go.ChangeShapes Go.WideShapes Go.ChangeAt Go.RowKit
open Go.ChangeMaps (open_string shut_string)
theorem k2 : (mapsRowed Tryz.prog) = true := by kernel_rfl
theorem k5 : ((Rows.fnExactReadInterfaceRow.stops == [])) = true := by kernel_rfl
theorem k8 : ((Tryz.prog.stopKnobs == [])) = true := by kernel_rfl
theorem k11 : ((Rows.fnExactReadInterfaceRow.recurses == Tryz.prog.recurses 3)) = true := by kernel_rfl
theorem k14 : ((Rows.fnExactReadInterfaceRow.ifaces == (Tryz.f3.params.toList ++ Rows.fnExactReadInterfaceSpec.plain.varTypes Tryz.prog).any (Tryz.prog.ifacesRec ·))) = true := by kernel_rfl
theorem k17 : ((Rows.fnExactReadInterfaceRow.wideKeys == (Tryz.f3.params.toList ++ Rows.fnExactReadInterfaceSpec.plain.varTypes Tryz.prog ++ Tryz.f3.resultTypes.toList).any (Tryz.prog.wideKeysFrom ·))) = true := by kernel_rfl
theorem k20 : ((Rows.fnExactReadInterfaceRow.ifacesOut == Tryz.f3.resultTypes.toList.any (Tryz.prog.ifacesRec ·))) = true := by kernel_rfl
theorem k23 : (Rows.fnExactReadInterfaceRow.shortTexts.isNone) = true := by kernel_rfl
theorem k26 : ((Rows.fnExactReadInterfaceRow.lifted == Tryz.prog.liftsFinal)) = true := by kernel_rfl
theorem k29 : ((Rows.fnExactReadInterfaceRow.pinned == Rows.fnExactReadInterfaceRow.pinnedBy)) = true := by kernel_rfl
end Go.Proofs.YtoclajfeeebbbabGreatDoor.fnExactReadInterface
