/- The row of the law FnExactListing: whatever the input, it returns true. Conditions: those of the row alone. -/
import Derived.Test.YtdoenfpleokadaaDoorRows
import Derived.Test.YtdoenfpleokadaaDoorCards
import Derived.Test.YtdoenfpleokadaaDoorTie
import Derived.SevenTiedAt
import Derived.LaidMore
import Derived.WalkKit
import Derived.ProofKit
import Derived.OpenShut
import Derived.ShutString
import Derived.ChangeOld
import Derived.Below
import Derived.SizedLaws
import Derived.Test.YtdoenfpleokadaaDoorProg
import Derived.KernelRfl
set_option linter.unusedVariables false
namespace Go.Proofs.YtdoenfpleokadaaDoor.fnExactListing
open Go.ChangeShapes Go.WideShapes Go.ChangeAt Go.RowKit
open Go.ChangeMaps (open_string shut_string)
theorem k1 : (laidOutB Tryd.prog) = true := by kernel_rfl
theorem k4 : (namedTie Tryd.prog Rows.fnExactListingRow.named Rows.fnExactListingSpec.vars) = true := by kernel_rfl
theorem k7 : ((Rows.fnExactListingRow.knobs == [])) = true := by kernel_rfl
theorem k10 : ((Rows.fnExactListingRow.unfollowed == Tryd.prog.unfollowed 4)) = true := by kernel_rfl
theorem k13 : ((Rows.fnExactListingRow.maps == (Tryd.f4.params.toList ++ Rows.fnExactListingSpec.plain.varTypes Tryd.prog).any (Tryd.prog.mapsRec ·))) = true := by kernel_rfl
theorem k16 : ((Rows.fnExactListingRow.loops == (Tryd.f4.params.toList ++ Rows.fnExactListingSpec.plain.varTypes Tryd.prog).any (Tryd.prog.loopsFrom ·))) = true := by kernel_rfl
theorem k19 : (Tryd.f4.resultTypes.all (fun t => Tryd.prog.readableRec t && decide (t < Tryd.prog.types.size))) = true := by kernel_rfl
theorem k22 : ((Rows.fnExactListingRow.plainKeys == Tryd.prog.plainKeys)) = true := by kernel_rfl
theorem k25 : (Tryd.prog.mayEnter) = true := by kernel_rfl
theorem k28 : ((Rows.fnExactListingRow.kinds == (if Rows.fnExactListingRow.domain.isEmpty then [] else Tryd.f4.params.toList.map fun t => match Tryd.prog.underlying t with | some (.int k) => some k | _ => none))) = true := by kernel_rfl
theorem k31 : (Rows.fnExactListingRow.veiledFits Tryd.prog Tryd.f4.params.toList (Tryd.f4.params.toList ++ Rows.fnExactListingSpec.plain.varTypes Tryd.prog ++ Tryd.f4.resultTypes.toList)) = true := by kernel_rfl
end Go.Proofs.YtdoenfpleokadaaDoor.fnExactListing
