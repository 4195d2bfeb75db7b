/- The row of the law FnFaces: whatever the input, it returns true. Conditions: those of the row alone. -/
import Derived.Test.YtdoenfpleokadaaGreatDoorRows
import Derived.Test.YtdoenfpleokadaaGreatDoorCards
import Derived.Test.YtdoenfpleokadaaGreatDoorTie
import Derived.SevenTiedAt
import Derived.LaidMore
import Derived.WalkKit
import Derived.ProofKit
import Derived.OpenShut
import Derived.ShutString
import Derived.ChangeOld
import Derived.Below
import Derived.SizedLaws
import Derived.Test.YtdoenfpleokadaaGreatDoorProg
import Derived.KernelRfl
set_option linter.unusedVariables false
namespace Go.Proofs.YtdoenfpleokadaaGreatDoor.fnFaces
open Go.ChangeShapes Go.WideShapes Go.ChangeAt Go.RowKit
open Go.ChangeMaps (open_string shut_string)
theorem k0 : (Rows.fnFacesRow.wf (OpenSpec.ofChange Rows.fnFacesSpec)) = true := by kernel_rfl
theorem k3 : (Tryz.f11.params.all (Tryz.prog.readableRec ·)) = true := by kernel_rfl
theorem k6 : ((Tryz.prog.stops == [])) = true := by kernel_rfl
theorem k9 : ((Rows.fnFacesRow.inPlace == Tryz.prog.inPlace 11)) = true := by kernel_rfl
theorem k12 : ((Rows.fnFacesRow.named == Tryz.prog.varsNamed 11)) = true := by kernel_rfl
theorem k15 : ((Rows.fnFacesRow.mapsOut == Tryz.prog.mapsAmong Tryz.f11.resultTypes.toList)) = true := by kernel_rfl
theorem k18 : (Rows.fnFacesSpec.vars.all (Tryz.prog.varReadable ·)) = true := by kernel_rfl
theorem k21 : ((Rows.fnFacesRow.loopsOut == Tryz.f11.resultTypes.toList.any (Tryz.prog.loopsFrom ·))) = true := by kernel_rfl
theorem k24 : (Tryz.prog.stopsHeard) = true := by kernel_rfl
theorem k27 : ((Tryz.prog.make == some Rows.fnFacesRow.make)) = true := by kernel_rfl
theorem k30 : ((Rows.fnFacesRow.veiled == (Tryz.f11.params.toList ++ Rows.fnFacesSpec.plain.varTypes Tryz.prog ++ Tryz.f11.resultTypes.toList).any (Tryz.prog.veiledRec ·))) = true := by kernel_rfl
end Go.Proofs.YtdoenfpleokadaaGreatDoor.fnFaces
