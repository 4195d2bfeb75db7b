/- The row of the law FnExactListing: whatever the input, it returns true. Conditions: those of the row alone. -/
import Derived.Test.YtdoenfpleokadaaDoorRows
import Derived.Test.YtdoenfpleokadaaDoorCards
import Derived.Test.YtdoenfpleokadaaDoorTie
import Derived.SevenTiedAt
import Derived.LaidMore
import Derived.WalkKit
import Derived.ProofKit
import Derived.OpenShut
import Derived.ShutString
import Derived.ChangeOld
import Derived.Below
import Derived.SizedLaws
import Derived.Test.YtdoenfpleokadaaDoorProg
import Derived.KernelRfl
set_option linter.unusedVariables false
namespace Go.Proofs.YtdoenfpleokadaaDoor.fnExactListing
open Go.ChangeShapes Go.WideShapes Go.ChangeAt Go.RowKit
open Go.ChangeMaps (open_string shut_string)
theorem k2 : (mapsRowed Tryd.prog) = true := by kernel_rfl
theorem k5 : ((Rows.fnExactListingRow.stops == [])) = true := by kernel_rfl
theorem k8 : ((Tryd.prog.stopKnobs == [])) = true := by kernel_rfl
theorem k11 : ((Rows.fnExactListingRow.recurses == Tryd.prog.recurses 4)) = true := by kernel_rfl
theorem k14 : ((Rows.fnExactListingRow.ifaces == (Tryd.f4.params.toList ++ Rows.fnExactListingSpec.plain.varTypes Tryd.prog).any (Tryd.prog.ifacesRec ·))) = true := by kernel_rfl
theorem k17 : ((Rows.fnExactListingRow.wideKeys == (Tryd.f4.params.toList ++ Rows.fnExactListingSpec.plain.varTypes Tryd.prog ++ Tryd.f4.resultTypes.toList).any (Tryd.prog.wideKeysFrom ·))) = true := by kernel_rfl
theorem k20 : ((Rows.fnExactListingRow.ifacesOut == Tryd.f4.resultTypes.toList.any (Tryd.prog.ifacesRec ·))) = true := by kernel_rfl
theorem k23 : (Rows.fnExactListingRow.shortTexts.isNone) = true := by kernel_rfl
theorem k26 : ((Rows.fnExactListingRow.lifted == Tryd.prog.liftsFinal)) = true := by kernel_rfl
theorem k29 : ((Rows.fnExactListingRow.pinned == Rows.fnExactListingRow.pinnedBy)) = true := by kernel_rfl
end Go.Proofs.YtdoenfpleokadaaDoor.fnExactListing
