/- The row of the law FnExactReadInterface: whatever the input, it returns true. Conditions: those of the row alone. -/
import Derived.Test.YtoclajfeeebbbabGreatDoorRows
import Derived.Test.YtoclajfeeebbbabGreatDoorCards
import Derived.Test.YtoclajfeeebbbabGreatDoorTie
import Derived.Test.YtoclajfeeebbbabGreatDoorZFnExactReadInterface
import Derived.SevenTiedAt
import Derived.LaidMore
import Derived.Lay
import Derived.WalkKit
import Derived.ProofKit
import Derived.OpenShut
import Derived.ShutString
import Derived.ChangeOld
import Derived.Below
import Derived.SizedLaws
import Derived.Test.YtoclajfeeebbbabGreatDoorProg
import Derived.KernelRfl
set_option linter.unusedVariables false
namespace Go.Proofs.YtoclajfeeebbbabGreatDoor.fnExactReadInterface
open Go.ChangeShapes Go.WideShapes Go.ChangeAt Go.RowKit
open Go.ChangeMaps (open_string shut_string)
theorem k0 : (Rows.fnExactReadInterfaceRow.wf (OpenSpec.ofChange Rows.fnExactReadInterfaceSpec)) = true := by kernel_rfl
theorem k3 : (Tryz.f3.params.all (Tryz.prog.readableRec ·)) = true := by kernel_rfl
theorem k6 : ((Tryz.prog.stops == [])) = true := by kernel_rfl
theorem k9 : ((Rows.fnExactReadInterfaceRow.inPlace == Tryz.prog.inPlace 3)) = true := by kernel_rfl
theorem k12 : ((Rows.fnExactReadInterfaceRow.named == Tryz.prog.varsNamed 3)) = true := by kernel_rfl
theorem k15 : ((Rows.fnExactReadInterfaceRow.mapsOut == Tryz.prog.mapsAmong Tryz.f3.resultTypes.toList)) = true := by kernel_rfl
theorem k18 : (Rows.fnExactReadInterfaceSpec.vars.all (Tryz.prog.varReadable ·)) = true := by kernel_rfl
theorem k21 : ((Rows.fnExactReadInterfaceRow.loopsOut == Tryz.f3.resultTypes.toList.any (Tryz.prog.loopsFrom ·))) = true := by kernel_rfl
theorem k24 : (Tryz.prog.stopsHeard) = true := by kernel_rfl
theorem k27 : ((Tryz.prog.make == some Rows.fnExactReadInterfaceRow.make)) = true := by kernel_rfl
theorem k30 : ((Rows.fnExactReadInterfaceRow.veiled == (Tryz.f3.params.toList ++ Rows.fnExactReadInterfaceSpec.plain.varTypes Tryz.prog ++ Tryz.f3.resultTypes.toList).any (Tryz.prog.veiledRec ·))) = true := by kernel_rfl
end Go.Proofs.YtoclajfeeebbbabGreatDoor.fnExactReadInterface
