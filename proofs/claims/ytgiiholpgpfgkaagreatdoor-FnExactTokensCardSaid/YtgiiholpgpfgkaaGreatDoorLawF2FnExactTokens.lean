/- The row of the law FnExactTokens: whatever the input, it returns true. Conditions: those of the row alone. -/
import Derived.Test.YtgiiholpgpfgkaaGreatDoorRows
import Derived.Test.YtgiiholpgpfgkaaGreatDoorCards
import Derived.Test.YtgiiholpgpfgkaaGreatDoorTie
import Derived.SevenTiedAt
import Derived.LaidMore
import Derived.Lay
import Derived.WalkKit
import Derived.ProofKit
import Derived.OpenShut
import Derived.ShutString
import Derived.ChangeOld
import Derived.Below
import Derived.SizedLaws
import Derived.Test.YtgiiholpgpfgkaaGreatDoorProg
import Derived.KernelRfl
set_option linter.unusedVariables false
namespace Go.Proofs.YtgiiholpgpfgkaaGreatDoor.fnExactTokens
open Go.ChangeShapes Go.WideShapes Go.ChangeAt Go.RowKit
open Go.ChangeMaps (open_string shut_string)
theorem k2 : (mapsRowed Tryz.prog) = true := by kernel_rfl
theorem k5 : ((Rows.fnExactTokensRow.stops == [])) = true := by kernel_rfl
theorem k8 : ((Tryz.prog.stopKnobs == [])) = true := by kernel_rfl
theorem k11 : ((Rows.fnExactTokensRow.recurses == Tryz.prog.recurses 3)) = true := by kernel_rfl
theorem k14 : ((Rows.fnExactTokensRow.ifaces == (Tryz.f3.params.toList ++ Rows.fnExactTokensSpec.plain.varTypes Tryz.prog).any (Tryz.prog.ifacesRec ·))) = true := by kernel_rfl
theorem k17 : ((Rows.fnExactTokensRow.wideKeys == (Tryz.f3.params.toList ++ Rows.fnExactTokensSpec.plain.varTypes Tryz.prog ++ Tryz.f3.resultTypes.toList).any (Tryz.prog.wideKeysFrom ·))) = true := by kernel_rfl
theorem k20 : ((Rows.fnExactTokensRow.ifacesOut == Tryz.f3.resultTypes.toList.any (Tryz.prog.ifacesRec ·))) = true := by kernel_rfl
theorem k23 : (Rows.fnExactTokensRow.shortTexts.isNone) = true := by kernel_rfl
theorem k26 : ((Rows.fnExactTokensRow.lifted == Tryz.prog.liftsFinal)) = true := by kernel_rfl
theorem k29 : ((Rows.fnExactTokensRow.pinned == Rows.fnExactTokensRow.pinnedBy)) = true := by kernel_rfl
end Go.Proofs.YtgiiholpgpfgkaaGreatDoor.fnExactTokens
