/- The row of the law FnExactReadObject: whatever the input, it returns true. Conditions: those of the row alone. -/
import Derived.Test.YtoclajfeeebbbadGreatDoorRows
import Derived.Test.YtoclajfeeebbbadGreatDoorCards
import Derived.Test.YtoclajfeeebbbadGreatDoorTie
import Derived.Test.YtoclajfeeebbbadGreatDoorZFnExactReadObject
import Derived.SevenTiedAt
import Derived.LaidMore
import Derived.Lay
import Derived.WalkKit
import Derived.ProofKit
import Derived.OpenShut
import Derived.ShutString
import Derived.ChangeOld
import Derived.Below
import Derived.SizedLaws
import Derived.Test.YtoclajfeeebbbadGreatDoorProg
import Derived.KernelRfl
set_option linter.unusedVariables false
namespace Go.Proofs.YtoclajfeeebbbadGreatDoor.fnExactReadObject
open Go.ChangeShapes Go.WideShapes Go.ChangeAt Go.RowKit
open Go.ChangeMaps (open_string shut_string)
theorem k0 : (Rows.fnExactReadObjectRow.wf (OpenSpec.ofChange Rows.fnExactReadObjectSpec)) = true := by kernel_rfl
theorem k3 : (Tryz.f3.params.all (Tryz.prog.readableRec ·)) = true := by kernel_rfl
theorem k6 : ((Tryz.prog.stops == [])) = true := by kernel_rfl
theorem k9 : ((Rows.fnExactReadObjectRow.inPlace == Tryz.prog.inPlace 3)) = true := by kernel_rfl
theorem k12 : ((Rows.fnExactReadObjectRow.named == Tryz.prog.varsNamed 3)) = true := by kernel_rfl
theorem k15 : ((Rows.fnExactReadObjectRow.mapsOut == Tryz.prog.mapsAmong Tryz.f3.resultTypes.toList)) = true := by kernel_rfl
theorem k18 : (Rows.fnExactReadObjectSpec.vars.all (Tryz.prog.varReadable ·)) = true := by kernel_rfl
theorem k21 : ((Rows.fnExactReadObjectRow.loopsOut == Tryz.f3.resultTypes.toList.any (Tryz.prog.loopsFrom ·))) = true := by kernel_rfl
theorem k24 : (Tryz.prog.stopsHeard) = true := by kernel_rfl
theorem k27 : ((Tryz.prog.make == some Rows.fnExactReadObjectRow.make)) = true := by kernel_rfl
theorem k30 : ((Rows.fnExactReadObjectRow.veiled == (Tryz.f3.params.toList ++ Rows.fnExactReadObjectSpec.plain.varTypes Tryz.prog ++ Tryz.f3.resultTypes.toList).any (Tryz.prog.veiledRec ·))) = true := by kernel_rfl
end Go.Proofs.YtoclajfeeebbbadGreatDoor.fnExactReadObject
