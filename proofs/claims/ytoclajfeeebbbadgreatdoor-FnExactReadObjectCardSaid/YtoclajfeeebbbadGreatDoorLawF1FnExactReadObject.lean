/- The row of the law FnExactReadObject: whatever the input, it returns true. Conditions: those of the row alone. -/
import Derived.Test.YtoclajfeeebbbadGreatDoorRows
import Derived.Test.YtoclajfeeebbbadGreatDoorCards
import Derived.Test.YtoclajfeeebbbadGreatDoorTie
import Derived.Test.YtoclajfeeebbbadGreatDoorZFnExactReadObject
import Derived.SevenTiedAt
import Derived.LaidMore
import Derived.Lay
import Derived.WalkKit
import Derived.ProofKit
import Derived.OpenShut
import Derived.ShutString
import Derived.ChangeOld
import Derived.Below
import Derived.SizedLaws
import Derived.Test.YtoclajfeeebbbadGreatDoorProg
import Derived.KernelRfl
set_option linter.unusedVariables false
namespace Go.Proofs.YtoclajfeeebbbadGreatDoor.fnExactReadObject
open Go.ChangeShapes Go.WideShapes Go.ChangeAt Go.RowKit
open Go.ChangeMaps (open_string shut_string)
theorem k1 : (laidOutB Tryz.prog) = true := by kernel_rfl
theorem k4 : (namedTie Tryz.prog Rows.fnExactReadObjectRow.named Rows.fnExactReadObjectSpec.vars) = true := by kernel_rfl
theorem k7 : ((Rows.fnExactReadObjectRow.knobs == [])) = true := by kernel_rfl
theorem k10 : ((Rows.fnExactReadObjectRow.unfollowed == Tryz.prog.unfollowed 3)) = true := by kernel_rfl
theorem k13 : ((Rows.fnExactReadObjectRow.maps == (Tryz.f3.params.toList ++ Rows.fnExactReadObjectSpec.plain.varTypes Tryz.prog).any (Tryz.prog.mapsRec ·))) = true := by kernel_rfl
theorem k16 : ((Rows.fnExactReadObjectRow.loops == (Tryz.f3.params.toList ++ Rows.fnExactReadObjectSpec.plain.varTypes Tryz.prog).any (Tryz.prog.loopsFrom ·))) = true := by kernel_rfl
theorem k19 : (Tryz.f3.resultTypes.all (fun t => Tryz.prog.readableRec t && decide (t < Tryz.prog.types.size))) = true := by kernel_rfl
theorem k22 : ((Rows.fnExactReadObjectRow.plainKeys == Tryz.prog.plainKeys)) = true := by kernel_rfl
theorem k25 : (Tryz.prog.mayEnter) = true := by kernel_rfl
theorem k28 : ((Rows.fnExactReadObjectRow.kinds == (if Rows.fnExactReadObjectRow.domain.isEmpty then [] else Tryz.f3.params.toList.map fun t => match Tryz.prog.underlying t with | some (.int k) => some k | _ => none))) = true := by kernel_rfl
theorem k31 : (Rows.fnExactReadObjectRow.veiledFits Tryz.prog Tryz.f3.params.toList (Tryz.f3.params.toList ++ Rows.fnExactReadObjectSpec.plain.varTypes Tryz.prog ++ Tryz.f3.resultTypes.toList)) = true := by kernel_rfl
end Go.Proofs.YtoclajfeeebbbadGreatDoor.fnExactReadObject
