/- The row of the law FnExactObjectBytes: whatever the input, it returns true. Conditions: those of the row alone. -/
import Derived.Test.YtoclajfeeebbbacGreatDoorLawAFnExactObjectBytes
import Derived.Test.YtoclajfeeebbbacGreatDoorLawF0FnExactObjectBytes
import Derived.Test.YtoclajfeeebbbacGreatDoorLawF1FnExactObjectBytes
import Derived.Test.YtoclajfeeebbbacGreatDoorLawF2FnExactObjectBytes
import Derived.Test.YtoclajfeeebbbacGreatDoorRows
import Derived.Test.YtoclajfeeebbbacGreatDoorCards
import Derived.Test.YtoclajfeeebbbacGreatDoorTie
import Derived.Test.YtoclajfeeebbbacGreatDoorZFnExactObjectBytes
import Derived.Test.YtoclajfeeebbbacGreatDoorPureFnExactObjectBytes
import Derived.SevenTiedAt
import Derived.LaidMore
import Derived.Lay
import Derived.WalkKit
import Derived.ProofKit
import Derived.OpenShut
import Derived.ShutString
import Derived.ChangeOld
import Derived.Below
import Derived.SizedLaws
set_option linter.unusedVariables false
namespace Go.Proofs.YtoclajfeeebbbacGreatDoor.fnExactObjectBytes
open Go.ChangeShapes Go.WideShapes Go.ChangeAt Go.RowKit Go.Proofs.YtoclajfeeebbbacGreatDoor.E
open Go.ChangeMaps (open_string shut_string)
theorem and_mk {a b : Bool} (h : a = true) (k : b = true) : (a && b) = true := by rw [h, k]; rfl
set_option maxRecDepth 100000 in
theorem closed : joinedFacts Tryz.prog 3 Tryz.f3 Rows.fnExactObjectBytesSpec Rows.fnExactObjectBytesRow = true := by
  unfold joinedFacts
  exact (and_mk (and_mk (and_mk (and_mk (and_mk (and_mk (and_mk (and_mk (and_mk (and_mk (and_mk (and_mk (and_mk (and_mk (and_mk (and_mk (and_mk (and_mk (and_mk (and_mk (and_mk (and_mk (and_mk (and_mk (and_mk (and_mk (and_mk (and_mk (and_mk (and_mk (and_mk k0 k1) k2) k3) k4) k5) k6) k7) k8) k9) k10) k11) k12) k13) k14) k15) k16) k17) k18) k19) k20) k21) k22) k23) k24) k25) k26) k27) k28) k29) k30) k31 : (Rows.fnExactObjectBytesRow.wf (OpenSpec.ofChange Rows.fnExactObjectBytesSpec) && laidOutB Tryz.prog && mapsRowed Tryz.prog && Tryz.f3.params.all (Tryz.prog.readableRec ·) && namedTie Tryz.prog Rows.fnExactObjectBytesRow.named Rows.fnExactObjectBytesSpec.vars && (Rows.fnExactObjectBytesRow.stops == []) && (Tryz.prog.stops == []) && (Rows.fnExactObjectBytesRow.knobs == []) && (Tryz.prog.stopKnobs == []) && (Rows.fnExactObjectBytesRow.inPlace == Tryz.prog.inPlace 3) && (Rows.fnExactObjectBytesRow.unfollowed == Tryz.prog.unfollowed 3) && (Rows.fnExactObjectBytesRow.recurses == Tryz.prog.recurses 3) && (Rows.fnExactObjectBytesRow.named == Tryz.prog.varsNamed 3) && (Rows.fnExactObjectBytesRow.maps == (Tryz.f3.params.toList ++ Rows.fnExactObjectBytesSpec.plain.varTypes Tryz.prog).any (Tryz.prog.mapsRec ·)) && (Rows.fnExactObjectBytesRow.ifaces == (Tryz.f3.params.toList ++ Rows.fnExactObjectBytesSpec.plain.varTypes Tryz.prog).any (Tryz.prog.ifacesRec ·)) && (Rows.fnExactObjectBytesRow.mapsOut == Tryz.prog.mapsAmong Tryz.f3.resultTypes.toList) && (Rows.fnExactObjectBytesRow.loops == (Tryz.f3.params.toList ++ Rows.fnExactObjectBytesSpec.plain.varTypes Tryz.prog).any (Tryz.prog.loopsFrom ·)) && (Rows.fnExactObjectBytesRow.wideKeys == (Tryz.f3.params.toList ++ Rows.fnExactObjectBytesSpec.plain.varTypes Tryz.prog ++ Tryz.f3.resultTypes.toList).any (Tryz.prog.wideKeysFrom ·)) && Rows.fnExactObjectBytesSpec.vars.all (Tryz.prog.varReadable ·) && Tryz.f3.resultTypes.all (fun t => Tryz.prog.readableRec t && decide (t < Tryz.prog.types.size)) && (Rows.fnExactObjectBytesRow.ifacesOut == Tryz.f3.resultTypes.toList.any (Tryz.prog.ifacesRec ·)) && (Rows.fnExactObjectBytesRow.loopsOut == Tryz.f3.resultTypes.toList.any (Tryz.prog.loopsFrom ·)) && (Rows.fnExactObjectBytesRow.plainKeys == Tryz.prog.plainKeys) && Rows.fnExactObjectBytesRow.shortTexts.isNone && Tryz.prog.stopsHeard && Tryz.prog.mayEnter && (Rows.fnExactObjectBytesRow.lifted == Tryz.prog.liftsFinal) && (Tryz.prog.make == some Rows.fnExactObjectBytesRow.make) && (Rows.fnExactObjectBytesRow.kinds == (if Rows.fnExactObjectBytesRow.domain.isEmpty then [] else Tryz.f3.params.toList.map fun t => match Tryz.prog.underlying t with | some (.int k) => some k | _ => none)) && (Rows.fnExactObjectBytesRow.pinned == Rows.fnExactObjectBytesRow.pinnedBy) && (Rows.fnExactObjectBytesRow.veiled == (Tryz.f3.params.toList ++ Rows.fnExactObjectBytesSpec.plain.varTypes Tryz.prog ++ Tryz.f3.resultTypes.toList).any (Tryz.prog.veiledRec ·)) && Rows.fnExactObjectBytesRow.veiledFits Tryz.prog Tryz.f3.params.toList (Tryz.f3.params.toList ++ Rows.fnExactObjectBytesSpec.plain.varTypes Tryz.prog ++ Tryz.f3.resultTypes.toList)) = true)
theorem named_ : Tryz.prog.funcNamed Rows.fnExactObjectBytesRow.func = some 3 := by kernel_rfl
theorem inst_ : Tryz.f3.isInstance Tryz.prog Rows.fnExactObjectBytesRow.origin Rows.fnExactObjectBytesRow.targs := of_decide_eq_true (by kernel_rfl)
theorem wrap_ : Tryz.f3.isWrapper Tryz.prog Rows.fnExactObjectBytesRow.wrapper Rows.fnExactObjectBytesRow.mainSum := by unfold Func.isWrapper; first | (rw [if_pos (by decide +kernel)]; kernel_rfl) | (rw [if_neg (by decide +kernel)]; exact ⟨rfl, rfl⟩)
theorem over : Rows.fnExactObjectBytesRow.holds Tryz.pinned (OpenSpec.ofChange Rows.fnExactObjectBytesSpec) :=
  OpenClaim.holds_of_wide 3 Tryz.f3 rfl rfl rfl rfl rfl rfl rfl ⟨rfl, rfl, rfl, rfl, rfl⟩ rfl rfl rfl rfl rfl named_ Tryz.func3 closed
    inst_ wrap_
    (fun os started H enc _ => lifted os started H enc)
theorem proved : Rows.FnExactObjectBytesSaid := over
end Go.Proofs.YtoclajfeeebbbacGreatDoor.fnExactObjectBytes
