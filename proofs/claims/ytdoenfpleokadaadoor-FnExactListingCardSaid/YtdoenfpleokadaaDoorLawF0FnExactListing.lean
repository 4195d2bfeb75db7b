/- The row of the law FnExactListing: whatever the input, it returns true. Conditions: those of the row alone. -/
import Derived.Test.YtdoenfpleokadaaDoorRows
import Derived.Test.YtdoenfpleokadaaDoorCards
import Derived.Test.YtdoenfpleokadaaDoorTie
import Derived.SevenTiedAt
import Derived.LaidMore
import Derived.WalkKit
import Derived.ProofKit
import Derived.OpenShut
import Derived.ShutString
import Derived.ChangeOld
import Derived.Below
import Derived.SizedLaws
import Derived.Test.YtdoenfpleokadaaDoorProg
import Derived.KernelRfl
set_option linter.unusedVariables false
namespace Go.Proofs.YtdoenfpleokadaaDoor.fnExactListing
open Go.ChangeShapes Go.WideShapes Go.ChangeAt Go.RowKit
open Go.ChangeMaps (open_string shut_string)
theorem k0 : (Rows.fnExactListingRow.wf (OpenSpec.ofChange Rows.fnExactListingSpec)) = true := by kernel_rfl
theorem k3 : (Tryd.f4.params.all (Tryd.prog.readableRec ·)) = true := by kernel_rfl
theorem k6 : ((Tryd.prog.stops == [])) = true := by kernel_rfl
theorem k9 : ((Rows.fnExactListingRow.inPlace == Tryd.prog.inPlace 4)) = true := by kernel_rfl
theorem k12 : ((Rows.fnExactListingRow.named == Tryd.prog.varsNamed 4)) = true := by kernel_rfl
theorem k15 : ((Rows.fnExactListingRow.mapsOut == Tryd.prog.mapsAmong Tryd.f4.resultTypes.toList)) = true := by kernel_rfl
theorem k18 : (Rows.fnExactListingSpec.vars.all (Tryd.prog.varReadable ·)) = true := by kernel_rfl
theorem k21 : ((Rows.fnExactListingRow.loopsOut == Tryd.f4.resultTypes.toList.any (Tryd.prog.loopsFrom ·))) = true := by kernel_rfl
theorem k24 : (Tryd.prog.stopsHeard) = true := by kernel_rfl
theorem k27 : ((Tryd.prog.make == some Rows.fnExactListingRow.make)) = true := by kernel_rfl
theorem k30 : ((Rows.fnExactListingRow.veiled == (Tryd.f4.params.toList ++ Rows.fnExactListingSpec.plain.varTypes Tryd.prog ++ Tryd.f4.resultTypes.toList).any (Tryd.prog.veiledRec ·))) = true := by kernel_rfl
end Go.Proofs.YtdoenfpleokadaaDoor.fnExactListing
