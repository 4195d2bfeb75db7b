/- The row of the law FnExactOutText: whatever the input, it returns true. Conditions: those of the row alone. -/
import Derived.Test.YtjgddjmgcffjfaaDoorRows
import Derived.Test.YtjgddjmgcffjfaaDoorCards
import Derived.Test.YtjgddjmgcffjfaaDoorTie
import Derived.SevenTiedAt
import Derived.LaidMore
import Derived.Lay
import Derived.WalkKit
import Derived.ProofKit
import Derived.OpenShut
import Derived.ShutString
import Derived.ChangeOld
import Derived.Below
import Derived.SizedLaws
import Derived.Test.YtjgddjmgcffjfaaDoorProg
import Derived.KernelRfl
set_option linter.unusedVariables false
namespace Go.Proofs.YtjgddjmgcffjfaaDoor.fnExactOutText
open Go.ChangeShapes Go.WideShapes Go.ChangeAt Go.RowKit
open Go.ChangeMaps (open_string shut_string)
theorem k0 : (Rows.fnExactOutTextRow.wf (OpenSpec.ofChange Rows.fnExactOutTextSpec)) = true := by kernel_rfl
theorem k3 : (Tryd.f5.params.all (Tryd.prog.readableRec ·)) = true := by kernel_rfl
theorem k6 : ((Tryd.prog.stops == [])) = true := by kernel_rfl
theorem k9 : ((Rows.fnExactOutTextRow.inPlace == Tryd.prog.inPlace 5)) = true := by kernel_rfl
theorem k12 : ((Rows.fnExactOutTextRow.named == Tryd.prog.varsNamed 5)) = true := by kernel_rfl
theorem k15 : ((Rows.fnExactOutTextRow.mapsOut == Tryd.prog.mapsAmong Tryd.f5.resultTypes.toList)) = true := by kernel_rfl
theorem k18 : (Rows.fnExactOutTextSpec.vars.all (Tryd.prog.varReadable ·)) = true := by kernel_rfl
theorem k21 : ((Rows.fnExactOutTextRow.loopsOut == Tryd.f5.resultTypes.toList.any (Tryd.prog.loopsFrom ·))) = true := by kernel_rfl
theorem k24 : (Tryd.prog.stopsHeard) = true := by kernel_rfl
theorem k27 : ((Tryd.prog.make == some Rows.fnExactOutTextRow.make)) = true := by kernel_rfl
theorem k30 : ((Rows.fnExactOutTextRow.veiled == (Tryd.f5.params.toList ++ Rows.fnExactOutTextSpec.plain.varTypes Tryd.prog ++ Tryd.f5.resultTypes.toList).any (Tryd.prog.veiledRec ·))) = true := by kernel_rfl
end Go.Proofs.YtjgddjmgcffjfaaDoor.fnExactOutText
