/- The row of the law FnExactCharText: whatever the input, it returns true. Conditions: those of the row alone. -/
import Derived.Test.YtjgddjmgcffjfaaDoorRows
import Derived.Test.YtjgddjmgcffjfaaDoorCards
import Derived.Test.YtjgddjmgcffjfaaDoorTie
import Derived.SevenTiedAt
import Derived.LaidMore
import Derived.Lay
import Derived.WalkKit
import Derived.ProofKit
import Derived.OpenShut
import Derived.ShutString
import Derived.ChangeOld
import Derived.Below
import Derived.SizedLaws
import Derived.Test.YtjgddjmgcffjfaaDoorProg
import Derived.KernelRfl
set_option linter.unusedVariables false
namespace Go.Proofs.YtjgddjmgcffjfaaDoor.fnExactCharText
open Go.ChangeShapes Go.WideShapes Go.ChangeAt Go.RowKit
open Go.ChangeMaps (open_string shut_string)
theorem k0 : (Rows.fnExactCharTextRow.wf (OpenSpec.ofChange Rows.fnExactCharTextSpec)) = true := by kernel_rfl
theorem k3 : (Tryd.f3.params.all (Tryd.prog.readableRec ·)) = true := by kernel_rfl
theorem k6 : ((Tryd.prog.stops == [])) = true := by kernel_rfl
theorem k9 : ((Rows.fnExactCharTextRow.inPlace == Tryd.prog.inPlace 3)) = true := by kernel_rfl
theorem k12 : ((Rows.fnExactCharTextRow.named == Tryd.prog.varsNamed 3)) = true := by kernel_rfl
theorem k15 : ((Rows.fnExactCharTextRow.mapsOut == Tryd.prog.mapsAmong Tryd.f3.resultTypes.toList)) = true := by kernel_rfl
theorem k18 : (Rows.fnExactCharTextSpec.vars.all (Tryd.prog.varReadable ·)) = true := by kernel_rfl
theorem k21 : ((Rows.fnExactCharTextRow.loopsOut == Tryd.f3.resultTypes.toList.any (Tryd.prog.loopsFrom ·))) = true := by kernel_rfl
theorem k24 : (Tryd.prog.stopsHeard) = true := by kernel_rfl
theorem k27 : ((Tryd.prog.make == some Rows.fnExactCharTextRow.make)) = true := by kernel_rfl
theorem k30 : ((Rows.fnExactCharTextRow.veiled == (Tryd.f3.params.toList ++ Rows.fnExactCharTextSpec.plain.varTypes Tryd.prog ++ Tryd.f3.resultTypes.toList).any (Tryd.prog.veiledRec ·))) = true := by kernel_rfl
end Go.Proofs.YtjgddjmgcffjfaaDoor.fnExactCharText
