/- The row of the law FnChars: whatever the input, it returns true. Conditions: those of the row alone. -/
import Derived.Test.YthpacjlaeknidabGreatDoorRows
import Derived.Test.YthpacjlaeknidabGreatDoorCards
import Derived.Test.YthpacjlaeknidabGreatDoorTie
import Derived.SevenTiedAt
import Derived.LaidMore
import Derived.Lay
import Derived.WalkKit
import Derived.ProofKit
import Derived.OpenShut
import Derived.ShutString
import Derived.ChangeOld
import Derived.Below
import Derived.SizedLaws
import Derived.Test.YthpacjlaeknidabGreatDoorProg
import Derived.KernelRfl
set_option linter.unusedVariables false
namespace Go.Proofs.YthpacjlaeknidabGreatDoor.fnChars
open Go.ChangeShapes Go.WideShapes Go.ChangeAt Go.RowKit
open Go.ChangeMaps (open_string shut_string)
theorem k2 : (mapsRowed Tryz.prog) = true := by kernel_rfl
theorem k5 : ((Rows.fnCharsRow.stops == [])) = true := by kernel_rfl
theorem k8 : ((Tryz.prog.stopKnobs == [])) = true := by kernel_rfl
theorem k11 : ((Rows.fnCharsRow.recurses == Tryz.prog.recurses 3)) = true := by kernel_rfl
theorem k14 : ((Rows.fnCharsRow.ifaces == (Tryz.f3.params.toList ++ Rows.fnCharsSpec.plain.varTypes Tryz.prog).any (Tryz.prog.ifacesRec ·))) = true := by kernel_rfl
theorem k17 : ((Rows.fnCharsRow.wideKeys == (Tryz.f3.params.toList ++ Rows.fnCharsSpec.plain.varTypes Tryz.prog ++ Tryz.f3.resultTypes.toList).any (Tryz.prog.wideKeysFrom ·))) = true := by kernel_rfl
theorem k20 : ((Rows.fnCharsRow.ifacesOut == Tryz.f3.resultTypes.toList.any (Tryz.prog.ifacesRec ·))) = true := by kernel_rfl
theorem k23 : (Rows.fnCharsRow.shortTexts.isNone) = true := by kernel_rfl
theorem k26 : ((Rows.fnCharsRow.lifted == Tryz.prog.liftsFinal)) = true := by kernel_rfl
theorem k29 : ((Rows.fnCharsRow.pinned == Rows.fnCharsRow.pinnedBy)) = true := by kernel_rfl
end Go.Proofs.YthpacjlaeknidabGreatDoor.fnChars
