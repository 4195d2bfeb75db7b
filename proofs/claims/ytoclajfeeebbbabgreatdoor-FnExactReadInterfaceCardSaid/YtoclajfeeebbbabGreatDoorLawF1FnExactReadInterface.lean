/- The row of the law FnExactReadInterface: whatever the input, it returns true. Conditions: those of the row alone. -/
import Derived.Test.YtoclajfeeebbbabGreatDoorRows
import Derived.Test.YtoclajfeeebbbabGreatDoorCards
import Derived.Test.YtoclajfeeebbbabGreatDoorTie
import Derived.Test.YtoclajfeeebbbabGreatDoorZFnExactReadInterface
import Derived.SevenTiedAt
import Derived.LaidMore
import Derived.Lay
import Derived.WalkKit
import Derived.ProofKit
import Derived.OpenShut
import Derived.ShutString
import Derived.ChangeOld
import Derived.Below
import Derived.SizedLaws
import Derived.Test.YtoclajfeeebbbabGreatDoorProg
import Derived.KernelRfl
set_option linter.unusedVariables false
namespace Go.Proofs.YtoclajfeeebbbabGreatDoor.fnExactReadInterface
open Go.ChangeShapes Go.WideShapes Go.ChangeAt Go.RowKit
open Go.ChangeMaps (open_string shut_string)
theorem k1 : (laidOutB Tryz.prog) = true := by kernel_rfl
theorem k4 : (namedTie Tryz.prog Rows.fnExactReadInterfaceRow.named Rows.fnExactReadInterfaceSpec.vars) = true := by kernel_rfl
theorem k7 : ((Rows.fnExactReadInterfaceRow.knobs == [])) = true := by kernel_rfl
theorem k10 : ((Rows.fnExactReadInterfaceRow.unfollowed == Tryz.prog.unfollowed 3)) = true := by kernel_rfl
theorem k13 : ((Rows.fnExactReadInterfaceRow.maps == (Tryz.f3.params.toList ++ Rows.fnExactReadInterfaceSpec.plain.varTypes Tryz.prog).any (Tryz.prog.mapsRec ·))) = true := by kernel_rfl
theorem k16 : ((Rows.fnExactReadInterfaceRow.loops == (Tryz.f3.params.toList ++ Rows.fnExactReadInterfaceSpec.plain.varTypes Tryz.prog).any (Tryz.prog.loopsFrom ·))) = true := by kernel_rfl
theorem k19 : (Tryz.f3.resultTypes.all (fun t => Tryz.prog.readableRec t && decide (t < Tryz.prog.types.size))) = true := by kernel_rfl
theorem k22 : ((Rows.fnExactReadInterfaceRow.plainKeys == Tryz.prog.plainKeys)) = true := by kernel_rfl
theorem k25 : (Tryz.prog.mayEnter) = true := by kernel_rfl
theorem k28 : ((Rows.fnExactReadInterfaceRow.kinds == (if Rows.fnExactReadInterfaceRow.domain.isEmpty then [] else Tryz.f3.params.toList.map fun t => match Tryz.prog.underlying t with | some (.int k) => some k | _ => none))) = true := by kernel_rfl
theorem k31 : (Rows.fnExactReadInterfaceRow.veiledFits Tryz.prog Tryz.f3.params.toList (Tryz.f3.params.toList ++ Rows.fnExactReadInterfaceSpec.plain.varTypes Tryz.prog ++ Tryz.f3.resultTypes.toList)) = true := by kernel_rfl
end Go.Proofs.YtoclajfeeebbbabGreatDoor.fnExactReadInterface
