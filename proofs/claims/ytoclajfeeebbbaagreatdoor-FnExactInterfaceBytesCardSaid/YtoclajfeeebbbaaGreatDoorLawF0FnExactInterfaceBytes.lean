/- The row of the law FnExactInterfaceBytes: whatever the input, it returns true. Conditions: those of the row alone. -/
import Derived.Test.YtoclajfeeebbbaaGreatDoorRows
import Derived.Test.YtoclajfeeebbbaaGreatDoorCards
import Derived.Test.YtoclajfeeebbbaaGreatDoorTie
import Derived.Test.YtoclajfeeebbbaaGreatDoorZFnExactInterfaceBytes
import Derived.SevenTiedAt
import Derived.LaidMore
import Derived.Lay
import Derived.WalkKit
import Derived.ProofKit
import Derived.OpenShut
import Derived.ShutString
import Derived.ChangeOld
import Derived.Below
import Derived.SizedLaws
import Derived.Test.YtoclajfeeebbbaaGreatDoorProg
import Derived.KernelRfl
set_option linter.unusedVariables false
namespace Go.Proofs.YtoclajfeeebbbaaGreatDoor.fnExactInterfaceBytes
open Go.ChangeShapes Go.WideShapes Go.ChangeAt Go.RowKit
open Go.ChangeMaps (open_string shut_string)
theorem k0 : (Rows.fnExactInterfaceBytesRow.wf (OpenSpec.ofChange Rows.fnExactInterfaceBytesSpec)) = true := by kernel_rfl
theorem k3 : (Tryz.f3.params.all (Tryz.prog.readableRec ·)) = true := by kernel_rfl
theorem k6 : ((Tryz.prog.stops == [])) = true := by kernel_rfl
theorem k9 : ((Rows.fnExactInterfaceBytesRow.inPlace == Tryz.prog.inPlace 3)) = true := by kernel_rfl
theorem k12 : ((Rows.fnExactInterfaceBytesRow.named == Tryz.prog.varsNamed 3)) = true := by kernel_rfl
theorem k15 : ((Rows.fnExactInterfaceBytesRow.mapsOut == Tryz.prog.mapsAmong Tryz.f3.resultTypes.toList)) = true := by kernel_rfl
theorem k18 : (Rows.fnExactInterfaceBytesSpec.vars.all (Tryz.prog.varReadable ·)) = true := by kernel_rfl
theorem k21 : ((Rows.fnExactInterfaceBytesRow.loopsOut == Tryz.f3.resultTypes.toList.any (Tryz.prog.loopsFrom ·))) = true := by kernel_rfl
theorem k24 : (Tryz.prog.stopsHeard) = true := by kernel_rfl
theorem k27 : ((Tryz.prog.make == some Rows.fnExactInterfaceBytesRow.make)) = true := by kernel_rfl
theorem k30 : ((Rows.fnExactInterfaceBytesRow.veiled == (Tryz.f3.params.toList ++ Rows.fnExactInterfaceBytesSpec.plain.varTypes Tryz.prog ++ Tryz.f3.resultTypes.toList).any (Tryz.prog.veiledRec ·))) = true := by kernel_rfl
end Go.Proofs.YtoclajfeeebbbaaGreatDoor.fnExactInterfaceBytes
