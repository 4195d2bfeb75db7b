/- The row of the law FnExactPrint: whatever the input, it returns true. Conditions: those of the row alone. -/
import Derived.Test.YtaelpeekimbmcaaGreatDoorRows
import Derived.Test.YtaelpeekimbmcaaGreatDoorCards
import Derived.Test.YtaelpeekimbmcaaGreatDoorTie
import Derived.SevenTiedAt
import Derived.LaidMore
import Derived.Lay
import Derived.WalkKit
import Derived.ProofKit
import Derived.OpenShut
import Derived.ShutString
import Derived.ChangeOld
import Derived.Below
import Derived.SizedLaws
import Derived.Test.YtaelpeekimbmcaaGreatDoorProg
import Derived.KernelRfl
set_option linter.unusedVariables false
namespace Go.Proofs.YtaelpeekimbmcaaGreatDoor.fnExactPrint
open Go.ChangeShapes Go.WideShapes Go.ChangeAt Go.RowKit
open Go.ChangeMaps (open_string shut_string)
theorem k2:(mapsRowed Tryz.prog) = true:=by kernel_rfl
theorem k5:((Rows.fnExactPrintRow.stops == [])) = true:=by kernel_rfl
theorem k8:((Tryz.prog.stopKnobs == [])) = true:=by kernel_rfl
theorem k11:((Rows.fnExactPrintRow.recurses == Tryz.prog.recurses 3)) = true:=by kernel_rfl
theorem k14:((Rows.fnExactPrintRow.ifaces == (Tryz.f3.params.toList ++ Rows.fnExactPrintSpec.plain.varTypes Tryz.prog).any (Tryz.prog.ifacesRec ·))) = true:=by kernel_rfl
theorem k17:((Rows.fnExactPrintRow.wideKeys == (Tryz.f3.params.toList ++ Rows.fnExactPrintSpec.plain.varTypes Tryz.prog ++ Tryz.f3.resultTypes.toList).any (Tryz.prog.wideKeysFrom ·))) = true:=by kernel_rfl
theorem k20:((Rows.fnExactPrintRow.ifacesOut == Tryz.f3.resultTypes.toList.any (Tryz.prog.ifacesRec ·))) = true:=by kernel_rfl
theorem k23:(Rows.fnExactPrintRow.shortTexts.isNone) = true:=by kernel_rfl
theorem k26:((Rows.fnExactPrintRow.lifted == Tryz.prog.liftsFinal)) = true:=by kernel_rfl
theorem k29:((Rows.fnExactPrintRow.pinned == Rows.fnExactPrintRow.pinnedBy)) = true:=by kernel_rfl
end Go.Proofs.YtaelpeekimbmcaaGreatDoor.fnExactPrint
