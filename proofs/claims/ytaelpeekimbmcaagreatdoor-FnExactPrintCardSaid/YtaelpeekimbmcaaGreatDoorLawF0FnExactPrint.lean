/- The row of the law FnExactPrint: whatever the input, it returns true. Conditions: those of the row alone. -/
import Derived.Test.YtaelpeekimbmcaaGreatDoorRows
import Derived.Test.YtaelpeekimbmcaaGreatDoorCards
import Derived.Test.YtaelpeekimbmcaaGreatDoorTie
import Derived.SevenTiedAt
import Derived.LaidMore
import Derived.Lay
import Derived.WalkKit
import Derived.ProofKit
import Derived.OpenShut
import Derived.ShutString
import Derived.ChangeOld
import Derived.Below
import Derived.SizedLaws
import Derived.Test.YtaelpeekimbmcaaGreatDoorProg
import Derived.KernelRfl
set_option linter.unusedVariables false
namespace Go.Proofs.YtaelpeekimbmcaaGreatDoor.fnExactPrint
open Go.ChangeShapes Go.WideShapes Go.ChangeAt Go.RowKit
open Go.ChangeMaps (open_string shut_string)
theorem k0:(Rows.fnExactPrintRow.wf (OpenSpec.ofChange Rows.fnExactPrintSpec)) = true:=by kernel_rfl
theorem k3:(Tryz.f3.params.all (Tryz.prog.readableRec ·)) = true:=by kernel_rfl
theorem k6:((Tryz.prog.stops == [])) = true:=by kernel_rfl
theorem k9:((Rows.fnExactPrintRow.inPlace == Tryz.prog.inPlace 3)) = true:=by kernel_rfl
theorem k12:((Rows.fnExactPrintRow.named == Tryz.prog.varsNamed 3)) = true:=by kernel_rfl
theorem k15:((Rows.fnExactPrintRow.mapsOut == Tryz.prog.mapsAmong Tryz.f3.resultTypes.toList)) = true:=by kernel_rfl
theorem k18:(Rows.fnExactPrintSpec.vars.all (Tryz.prog.varReadable ·)) = true:=by kernel_rfl
theorem k21:((Rows.fnExactPrintRow.loopsOut == Tryz.f3.resultTypes.toList.any (Tryz.prog.loopsFrom ·))) = true:=by kernel_rfl
theorem k24:(Tryz.prog.stopsHeard) = true:=by kernel_rfl
theorem k27:((Tryz.prog.make == some Rows.fnExactPrintRow.make)) = true:=by kernel_rfl
theorem k30:((Rows.fnExactPrintRow.veiled == (Tryz.f3.params.toList ++ Rows.fnExactPrintSpec.plain.varTypes Tryz.prog ++ Tryz.f3.resultTypes.toList).any (Tryz.prog.veiledRec ·))) = true:=by kernel_rfl
end Go.Proofs.YtaelpeekimbmcaaGreatDoor.fnExactPrint
