/- The row of the law FnExactTreeOK: whatever the input, it returns true. Conditions: those of the row alone. -/
import Derived.Test.YtjgddjmgcffjfaaDoorRows
import Derived.Test.YtjgddjmgcffjfaaDoorCards
import Derived.Test.YtjgddjmgcffjfaaDoorTie
import Derived.SevenTiedAt
import Derived.LaidMore
import Derived.Lay
import Derived.WalkKit
import Derived.ProofKit
import Derived.OpenShut
import Derived.ShutString
import Derived.ChangeOld
import Derived.Below
import Derived.SizedLaws
import Derived.Test.YtjgddjmgcffjfaaDoorProg
import Derived.KernelRfl
set_option linter.unusedVariables false
namespace Go.Proofs.YtjgddjmgcffjfaaDoor.fnExactTreeOK
open Go.ChangeShapes Go.WideShapes Go.ChangeAt Go.RowKit
open Go.ChangeMaps (open_string shut_string)
theorem k1 : (laidOutB Tryd.prog) = true := by kernel_rfl
theorem k4 : (namedTie Tryd.prog Rows.fnExactTreeOKRow.named Rows.fnExactTreeOKSpec.vars) = true := by kernel_rfl
theorem k7 : ((Rows.fnExactTreeOKRow.knobs == [])) = true := by kernel_rfl
theorem k10 : ((Rows.fnExactTreeOKRow.unfollowed == Tryd.prog.unfollowed 4)) = true := by kernel_rfl
theorem k13 : ((Rows.fnExactTreeOKRow.maps == (Tryd.f4.params.toList ++ Rows.fnExactTreeOKSpec.plain.varTypes Tryd.prog).any (Tryd.prog.mapsRec ·))) = true := by kernel_rfl
theorem k16 : ((Rows.fnExactTreeOKRow.loops == (Tryd.f4.params.toList ++ Rows.fnExactTreeOKSpec.plain.varTypes Tryd.prog).any (Tryd.prog.loopsFrom ·))) = true := by kernel_rfl
theorem k19 : (Tryd.f4.resultTypes.all (fun t => Tryd.prog.readableRec t && decide (t < Tryd.prog.types.size))) = true := by kernel_rfl
theorem k22 : ((Rows.fnExactTreeOKRow.plainKeys == Tryd.prog.plainKeys)) = true := by kernel_rfl
theorem k25 : (Tryd.prog.mayEnter) = true := by kernel_rfl
theorem k28 : ((Rows.fnExactTreeOKRow.kinds == (if Rows.fnExactTreeOKRow.domain.isEmpty then [] else Tryd.f4.params.toList.map fun t => match Tryd.prog.underlying t with | some (.int k) => some k | _ => none))) = true := by kernel_rfl
theorem k31 : (Rows.fnExactTreeOKRow.veiledFits Tryd.prog Tryd.f4.params.toList (Tryd.f4.params.toList ++ Rows.fnExactTreeOKSpec.plain.varTypes Tryd.prog ++ Tryd.f4.resultTypes.toList)) = true := by kernel_rfl
end Go.Proofs.YtjgddjmgcffjfaaDoor.fnExactTreeOK
