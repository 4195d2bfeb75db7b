/- The row of the law FnFaces: whatever the input, it returns true. Conditions: those of the row alone. -/
import Derived.Test.YtdoenfpleokadaaGreatDoorRows
import Derived.Test.YtdoenfpleokadaaGreatDoorCards
import Derived.Test.YtdoenfpleokadaaGreatDoorTie
import Derived.SevenTiedAt
import Derived.LaidMore
import Derived.WalkKit
import Derived.ProofKit
import Derived.OpenShut
import Derived.ShutString
import Derived.ChangeOld
import Derived.Below
import Derived.SizedLaws
import Derived.Test.YtdoenfpleokadaaGreatDoorProg
import Derived.KernelRfl
set_option linter.unusedVariables false
namespace Go.Proofs.YtdoenfpleokadaaGreatDoor.fnFaces
open Go.ChangeShapes Go.WideShapes Go.ChangeAt Go.RowKit
open Go.ChangeMaps (open_string shut_string)
theorem k1 : (laidOutB Tryz.prog) = true := by kernel_rfl
theorem k4 : (namedTie Tryz.prog Rows.fnFacesRow.named Rows.fnFacesSpec.vars) = true := by kernel_rfl
theorem k7 : ((Rows.fnFacesRow.knobs == [])) = true := by kernel_rfl
theorem k10 : ((Rows.fnFacesRow.unfollowed == Tryz.prog.unfollowed 11)) = true := by kernel_rfl
theorem k13 : ((Rows.fnFacesRow.maps == (Tryz.f11.params.toList ++ Rows.fnFacesSpec.plain.varTypes Tryz.prog).any (Tryz.prog.mapsRec ·))) = true := by kernel_rfl
theorem k16 : ((Rows.fnFacesRow.loops == (Tryz.f11.params.toList ++ Rows.fnFacesSpec.plain.varTypes Tryz.prog).any (Tryz.prog.loopsFrom ·))) = true := by kernel_rfl
theorem k19 : (Tryz.f11.resultTypes.all (fun t => Tryz.prog.readableRec t && decide (t < Tryz.prog.types.size))) = true := by kernel_rfl
theorem k22 : ((Rows.fnFacesRow.plainKeys == Tryz.prog.plainKeys)) = true := by kernel_rfl
theorem k25 : (Tryz.prog.mayEnter) = true := by kernel_rfl
theorem k28 : ((Rows.fnFacesRow.kinds == (if Rows.fnFacesRow.domain.isEmpty then [] else Tryz.f11.params.toList.map fun t => match Tryz.prog.underlying t with | some (.int k) => some k | _ => none))) = true := by kernel_rfl
theorem k31 : (Rows.fnFacesRow.veiledFits Tryz.prog Tryz.f11.params.toList (Tryz.f11.params.toList ++ Rows.fnFacesSpec.plain.varTypes Tryz.prog ++ Tryz.f11.resultTypes.toList)) = true := by kernel_rfl
end Go.Proofs.YtdoenfpleokadaaGreatDoor.fnFaces
