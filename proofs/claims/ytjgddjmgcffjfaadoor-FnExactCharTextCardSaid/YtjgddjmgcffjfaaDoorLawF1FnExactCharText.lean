/- The row of the law FnExactCharText: whatever the input, it returns true. Conditions: those of the row alone. -/
import Derived.Test.YtjgddjmgcffjfaaDoorRows
import Derived.Test.YtjgddjmgcffjfaaDoorCards
import Derived.Test.YtjgddjmgcffjfaaDoorTie
import Derived.SevenTiedAt
import Derived.LaidMore
import Derived.Lay
import Derived.WalkKit
import Derived.ProofKit
import Derived.OpenShut
import Derived.ShutString
import Derived.ChangeOld
import Derived.Below
import Derived.SizedLaws
import Derived.Test.YtjgddjmgcffjfaaDoorProg
import Derived.KernelRfl
set_option linter.unusedVariables false
namespace Go.Proofs.YtjgddjmgcffjfaaDoor.fnExactCharText
open Go.ChangeShapes Go.WideShapes Go.ChangeAt Go.RowKit
open Go.ChangeMaps (open_string shut_string)
theorem k1 : (laidOutB Tryd.prog) = true := by kernel_rfl
theorem k4 : (namedTie Tryd.prog Rows.fnExactCharTextRow.named Rows.fnExactCharTextSpec.vars) = true := by kernel_rfl
theorem k7 : ((Rows.fnExactCharTextRow.knobs == [])) = true := by kernel_rfl
theorem k10 : ((Rows.fnExactCharTextRow.unfollowed == Tryd.prog.unfollowed 3)) = true := by kernel_rfl
theorem k13 : ((Rows.fnExactCharTextRow.maps == (Tryd.f3.params.toList ++ Rows.fnExactCharTextSpec.plain.varTypes Tryd.prog).any (Tryd.prog.mapsRec ·))) = true := by kernel_rfl
theorem k16 : ((Rows.fnExactCharTextRow.loops == (Tryd.f3.params.toList ++ Rows.fnExactCharTextSpec.plain.varTypes Tryd.prog).any (Tryd.prog.loopsFrom ·))) = true := by kernel_rfl
theorem k19 : (Tryd.f3.resultTypes.all (fun t => Tryd.prog.readableRec t && decide (t < Tryd.prog.types.size))) = true := by kernel_rfl
theorem k22 : ((Rows.fnExactCharTextRow.plainKeys == Tryd.prog.plainKeys)) = true := by kernel_rfl
theorem k25 : (Tryd.prog.mayEnter) = true := by kernel_rfl
theorem k28 : ((Rows.fnExactCharTextRow.kinds == (if Rows.fnExactCharTextRow.domain.isEmpty then [] else Tryd.f3.params.toList.map fun t => match Tryd.prog.underlying t with | some (.int k) => some k | _ => none))) = true := by kernel_rfl
theorem k31 : (Rows.fnExactCharTextRow.veiledFits Tryd.prog Tryd.f3.params.toList (Tryd.f3.params.toList ++ Rows.fnExactCharTextSpec.plain.varTypes Tryd.prog ++ Tryd.f3.resultTypes.toList)) = true := by kernel_rfl
end Go.Proofs.YtjgddjmgcffjfaaDoor.fnExactCharText
