/- The row of the law FnExactObjectOK: whatever the input, it returns true. Conditions: those of the row alone. -/
import Derived.Test.YtdoenfpleokadaaGreatDoorRows
import Derived.Test.YtdoenfpleokadaaGreatDoorCards
import Derived.Test.YtdoenfpleokadaaGreatDoorTie
import Derived.SevenTiedAt
import Derived.LaidMore
import Derived.WalkKit
import Derived.ProofKit
import Derived.OpenShut
import Derived.ShutString
import Derived.ChangeOld
import Derived.Below
import Derived.SizedLaws
import Derived.Test.YtdoenfpleokadaaGreatDoorProg
import Derived.KernelRfl
set_option linter.unusedVariables false
namespace Go.Proofs.YtdoenfpleokadaaGreatDoor.fnExactObjectOK
open Go.ChangeShapes Go.WideShapes Go.ChangeAt Go.RowKit
open Go.ChangeMaps (open_string shut_string)
theorem k0 : (Rows.fnExactObjectOKRow.wf (OpenSpec.ofChange Rows.fnExactObjectOKSpec)) = true := by kernel_rfl
theorem k3 : (Tryz.f8.params.all (Tryz.prog.readableRec ·)) = true := by kernel_rfl
theorem k6 : ((Tryz.prog.stops == [])) = true := by kernel_rfl
theorem k9 : ((Rows.fnExactObjectOKRow.inPlace == Tryz.prog.inPlace 8)) = true := by kernel_rfl
theorem k12 : ((Rows.fnExactObjectOKRow.named == Tryz.prog.varsNamed 8)) = true := by kernel_rfl
theorem k15 : ((Rows.fnExactObjectOKRow.mapsOut == Tryz.prog.mapsAmong Tryz.f8.resultTypes.toList)) = true := by kernel_rfl
theorem k18 : (Rows.fnExactObjectOKSpec.vars.all (Tryz.prog.varReadable ·)) = true := by kernel_rfl
theorem k21 : ((Rows.fnExactObjectOKRow.loopsOut == Tryz.f8.resultTypes.toList.any (Tryz.prog.loopsFrom ·))) = true := by kernel_rfl
theorem k24 : (Tryz.prog.stopsHeard) = true := by kernel_rfl
theorem k27 : ((Tryz.prog.make == some Rows.fnExactObjectOKRow.make)) = true := by kernel_rfl
theorem k30 : ((Rows.fnExactObjectOKRow.veiled == (Tryz.f8.params.toList ++ Rows.fnExactObjectOKSpec.plain.varTypes Tryz.prog ++ Tryz.f8.resultTypes.toList).any (Tryz.prog.veiledRec ·))) = true := by kernel_rfl
end Go.Proofs.YtdoenfpleokadaaGreatDoor.fnExactObjectOK
