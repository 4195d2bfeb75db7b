/- The row of the law FnExactReadObject: whatever the input, it returns true. Conditions: those of the row alone. -/
import Derived.Test.YtoclajfeeebbbadGreatDoorLawAFnExactReadObject
import Derived.Test.YtoclajfeeebbbadGreatDoorLawF0FnExactReadObject
import Derived.Test.YtoclajfeeebbbadGreatDoorLawF1FnExactReadObject
import Derived.Test.YtoclajfeeebbbadGreatDoorLawF2FnExactReadObject
import Derived.Test.YtoclajfeeebbbadGreatDoorRows
import Derived.Test.YtoclajfeeebbbadGreatDoorCards
import Derived.Test.YtoclajfeeebbbadGreatDoorTie
import Derived.Test.YtoclajfeeebbbadGreatDoorZFnExactReadObject
import Derived.Test.YtoclajfeeebbbadGreatDoorPureFnExactReadObject
import Derived.SevenTiedAt
import Derived.LaidMore
import Derived.Lay
import Derived.WalkKit
import Derived.ProofKit
import Derived.OpenShut
import Derived.ShutString
import Derived.ChangeOld
import Derived.Below
import Derived.SizedLaws
set_option linter.unusedVariables false
namespace Go.Proofs.YtoclajfeeebbbadGreatDoor.fnExactReadObject
open Go.ChangeShapes Go.WideShapes Go.ChangeAt Go.RowKit Go.Proofs.YtoclajfeeebbbadGreatDoor.E
open Go.ChangeMaps (open_string shut_string)
theorem and_mk {a b : Bool} (h : a = true) (k : b = true) : (a && b) = true := by rw [h, k]; rfl
set_option maxRecDepth 100000 in
theorem closed : joinedFacts Tryz.prog 3 Tryz.f3 Rows.fnExactReadObjectSpec Rows.fnExactReadObjectRow = true := by
  unfold joinedFacts
  exact (and_mk (and_mk (and_mk (and_mk (and_mk (and_mk (and_mk (and_mk (and_mk (and_mk (and_mk (and_mk (and_mk (and_mk (and_mk (and_mk (and_mk (and_mk (and_mk (and_mk (and_mk (and_mk (and_mk (and_mk (and_mk (and_mk (and_mk (and_mk (and_mk (and_mk (and_mk k0 k1) k2) k3) k4) k5) k6) k7) k8) k9) k10) k11) k12) k13) k14) k15) k16) k17) k18) k19) k20) k21) k22) k23) k24) k25) k26) k27) k28) k29) k30) k31 : (Rows.fnExactReadObjectRow.wf (OpenSpec.ofChange Rows.fnExactReadObjectSpec) && laidOutB Tryz.prog && mapsRowed Tryz.prog && Tryz.f3.params.all (Tryz.prog.readableRec ·) && namedTie Tryz.prog Rows.fnExactReadObjectRow.named Rows.fnExactReadObjectSpec.vars && (Rows.fnExactReadObjectRow.stops == []) && (Tryz.prog.stops == []) && (Rows.fnExactReadObjectRow.knobs == []) && (Tryz.prog.stopKnobs == []) && (Rows.fnExactReadObjectRow.inPlace == Tryz.prog.inPlace 3) && (Rows.fnExactReadObjectRow.unfollowed == Tryz.prog.unfollowed 3) && (Rows.fnExactReadObjectRow.recurses == Tryz.prog.recurses 3) && (Rows.fnExactReadObjectRow.named == Tryz.prog.varsNamed 3) && (Rows.fnExactReadObjectRow.maps == (Tryz.f3.params.toList ++ Rows.fnExactReadObjectSpec.plain.varTypes Tryz.prog).any (Tryz.prog.mapsRec ·)) && (Rows.fnExactReadObjectRow.ifaces == (Tryz.f3.params.toList ++ Rows.fnExactReadObjectSpec.plain.varTypes Tryz.prog).any (Tryz.prog.ifacesRec ·)) && (Rows.fnExactReadObjectRow.mapsOut == Tryz.prog.mapsAmong Tryz.f3.resultTypes.toList) && (Rows.fnExactReadObjectRow.loops == (Tryz.f3.params.toList ++ Rows.fnExactReadObjectSpec.plain.varTypes Tryz.prog).any (Tryz.prog.loopsFrom ·)) && (Rows.fnExactReadObjectRow.wideKeys == (Tryz.f3.params.toList ++ Rows.fnExactReadObjectSpec.plain.varTypes Tryz.prog ++ Tryz.f3.resultTypes.toList).any (Tryz.prog.wideKeysFrom ·)) && Rows.fnExactReadObjectSpec.vars.all (Tryz.prog.varReadable ·) && Tryz.f3.resultTypes.all (fun t => Tryz.prog.readableRec t && decide (t < Tryz.prog.types.size)) && (Rows.fnExactReadObjectRow.ifacesOut == Tryz.f3.resultTypes.toList.any (Tryz.prog.ifacesRec ·)) && (Rows.fnExactReadObjectRow.loopsOut == Tryz.f3.resultTypes.toList.any (Tryz.prog.loopsFrom ·)) && (Rows.fnExactReadObjectRow.plainKeys == Tryz.prog.plainKeys) && Rows.fnExactReadObjectRow.shortTexts.isNone && Tryz.prog.stopsHeard && Tryz.prog.mayEnter && (Rows.fnExactReadObjectRow.lifted == Tryz.prog.liftsFinal) && (Tryz.prog.make == some Rows.fnExactReadObjectRow.make) && (Rows.fnExactReadObjectRow.kinds == (if Rows.fnExactReadObjectRow.domain.isEmpty then [] else Tryz.f3.params.toList.map fun t => match Tryz.prog.underlying t with | some (.int k) => some k | _ => none)) && (Rows.fnExactReadObjectRow.pinned == Rows.fnExactReadObjectRow.pinnedBy) && (Rows.fnExactReadObjectRow.veiled == (Tryz.f3.params.toList ++ Rows.fnExactReadObjectSpec.plain.varTypes Tryz.prog ++ Tryz.f3.resultTypes.toList).any (Tryz.prog.veiledRec ·)) && Rows.fnExactReadObjectRow.veiledFits Tryz.prog Tryz.f3.params.toList (Tryz.f3.params.toList ++ Rows.fnExactReadObjectSpec.plain.varTypes Tryz.prog ++ Tryz.f3.resultTypes.toList)) = true)
theorem named_ : Tryz.prog.funcNamed Rows.fnExactReadObjectRow.func = some 3 := by kernel_rfl
theorem inst_ : Tryz.f3.isInstance Tryz.prog Rows.fnExactReadObjectRow.origin Rows.fnExactReadObjectRow.targs := of_decide_eq_true (by kernel_rfl)
theorem wrap_ : Tryz.f3.isWrapper Tryz.prog Rows.fnExactReadObjectRow.wrapper Rows.fnExactReadObjectRow.mainSum := by unfold Func.isWrapper; first | (rw [if_pos (by decide +kernel)]; kernel_rfl) | (rw [if_neg (by decide +kernel)]; exact ⟨rfl, rfl⟩)
theorem over : Rows.fnExactReadObjectRow.holds Tryz.pinned (OpenSpec.ofChange Rows.fnExactReadObjectSpec) :=
  OpenClaim.holds_of_wide 3 Tryz.f3 rfl rfl rfl rfl rfl rfl rfl ⟨rfl, rfl, rfl, rfl, rfl⟩ rfl rfl rfl rfl rfl named_ Tryz.func3 closed
    inst_ wrap_
    (fun os started H enc _ => lifted os started H enc)
theorem proved : Rows.FnExactReadObjectSaid := over
end Go.Proofs.YtoclajfeeebbbadGreatDoor.fnExactReadObject
