/- The row of the law FnExactTreeOK: whatever the input, it returns true. Conditions: those of the row alone. -/
import Derived.Test.YtjgddjmgcffjfaaDoorRows
import Derived.Test.YtjgddjmgcffjfaaDoorCards
import Derived.Test.YtjgddjmgcffjfaaDoorTie
import Derived.SevenTiedAt
import Derived.LaidMore
import Derived.Lay
import Derived.WalkKit
import Derived.ProofKit
import Derived.OpenShut
import Derived.ShutString
import Derived.ChangeOld
import Derived.Below
import Derived.SizedLaws
import Derived.Test.YtjgddjmgcffjfaaDoorProg
import Derived.KernelRfl
set_option linter.unusedVariables false
namespace Go.Proofs.YtjgddjmgcffjfaaDoor.fnExactTreeOK
open Go.ChangeShapes Go.WideShapes Go.ChangeAt Go.RowKit
open Go.ChangeMaps (open_string shut_string)
theorem k0 : (Rows.fnExactTreeOKRow.wf (OpenSpec.ofChange Rows.fnExactTreeOKSpec)) = true := by kernel_rfl
theorem k3 : (Tryd.f4.params.all (Tryd.prog.readableRec ·)) = true := by kernel_rfl
theorem k6 : ((Tryd.prog.stops == [])) = true := by kernel_rfl
theorem k9 : ((Rows.fnExactTreeOKRow.inPlace == Tryd.prog.inPlace 4)) = true := by kernel_rfl
theorem k12 : ((Rows.fnExactTreeOKRow.named == Tryd.prog.varsNamed 4)) = true := by kernel_rfl
theorem k15 : ((Rows.fnExactTreeOKRow.mapsOut == Tryd.prog.mapsAmong Tryd.f4.resultTypes.toList)) = true := by kernel_rfl
theorem k18 : (Rows.fnExactTreeOKSpec.vars.all (Tryd.prog.varReadable ·)) = true := by kernel_rfl
theorem k21 : ((Rows.fnExactTreeOKRow.loopsOut == Tryd.f4.resultTypes.toList.any (Tryd.prog.loopsFrom ·))) = true := by kernel_rfl
theorem k24 : (Tryd.prog.stopsHeard) = true := by kernel_rfl
theorem k27 : ((Tryd.prog.make == some Rows.fnExactTreeOKRow.make)) = true := by kernel_rfl
theorem k30 : ((Rows.fnExactTreeOKRow.veiled == (Tryd.f4.params.toList ++ Rows.fnExactTreeOKSpec.plain.varTypes Tryd.prog ++ Tryd.f4.resultTypes.toList).any (Tryd.prog.veiledRec ·))) = true := by kernel_rfl
end Go.Proofs.YtjgddjmgcffjfaaDoor.fnExactTreeOK
