/- The row of the law FnExactReadInterface: whatever the input, it returns true. Conditions: those of the row alone. -/
import Derived.Test.YtoclajfeeebbbabGreatDoorLawAFnExactReadInterface
import Derived.Test.YtoclajfeeebbbabGreatDoorLawF0FnExactReadInterface
import Derived.Test.YtoclajfeeebbbabGreatDoorLawF1FnExactReadInterface
import Derived.Test.YtoclajfeeebbbabGreatDoorLawF2FnExactReadInterface
import Derived.Test.YtoclajfeeebbbabGreatDoorRows
import Derived.Test.YtoclajfeeebbbabGreatDoorCards
import Derived.Test.YtoclajfeeebbbabGreatDoorTie
import Derived.Test.YtoclajfeeebbbabGreatDoorZFnExactReadInterface
import Derived.Test.YtoclajfeeebbbabGreatDoorPureFnExactReadInterface
import Derived.SevenTiedAt
import Derived.LaidMore
import Derived.Lay
import Derived.WalkKit
import Derived.ProofKit
import Derived.OpenShut
import Derived.ShutString
import Derived.ChangeOld
import Derived.Below
import Derived.SizedLaws
set_option linter.unusedVariables false
namespace Go.Proofs.YtoclajfeeebbbabGreatDoor.fnExactReadInterface
open Go.ChangeShapes Go.WideShapes Go.ChangeAt Go.RowKit Go.Proofs.YtoclajfeeebbbabGreatDoor.E
open Go.ChangeMaps (open_string shut_string)
theorem and_mk {a b : Bool} (h : a = true) (k : b = true) : (a && b) = true := by rw [h, k]; rfl
set_option maxRecDepth 100000 in
theorem closed : joinedFacts Tryz.prog 3 Tryz.f3 Rows.fnExactReadInterfaceSpec Rows.fnExactReadInterfaceRow = true := by
  unfold joinedFacts
  exact (and_mk (and_mk (and_mk (and_mk (and_mk (and_mk (and_mk (and_mk (and_mk (and_mk (and_mk (and_mk (and_mk (and_mk (and_mk (and_mk (and_mk (and_mk (and_mk (and_mk (and_mk (and_mk (and_mk (and_mk (and_mk (and_mk (and_mk (and_mk (and_mk (and_mk (and_mk k0 k1) k2) k3) k4) k5) k6) k7) k8) k9) k10) k11) k12) k13) k14) k15) k16) k17) k18) k19) k20) k21) k22) k23) k24) k25) k26) k27) k28) k29) k30) k31 : (Rows.fnExactReadInterfaceRow.wf (OpenSpec.ofChange Rows.fnExactReadInterfaceSpec) && laidOutB Tryz.prog && mapsRowed Tryz.prog && Tryz.f3.params.all (Tryz.prog.readableRec ·) && namedTie Tryz.prog Rows.fnExactReadInterfaceRow.named Rows.fnExactReadInterfaceSpec.vars && (Rows.fnExactReadInterfaceRow.stops == []) && (Tryz.prog.stops == []) && (Rows.fnExactReadInterfaceRow.knobs == []) && (Tryz.prog.stopKnobs == []) && (Rows.fnExactReadInterfaceRow.inPlace == Tryz.prog.inPlace 3) && (Rows.fnExactReadInterfaceRow.unfollowed == Tryz.prog.unfollowed 3) && (Rows.fnExactReadInterfaceRow.recurses == Tryz.prog.recurses 3) && (Rows.fnExactReadInterfaceRow.named == Tryz.prog.varsNamed 3) && (Rows.fnExactReadInterfaceRow.maps == (Tryz.f3.params.toList ++ Rows.fnExactReadInterfaceSpec.plain.varTypes Tryz.prog).any (Tryz.prog.mapsRec ·)) && (Rows.fnExactReadInterfaceRow.ifaces == (Tryz.f3.params.toList ++ Rows.fnExactReadInterfaceSpec.plain.varTypes Tryz.prog).any (Tryz.prog.ifacesRec ·)) && (Rows.fnExactReadInterfaceRow.mapsOut == Tryz.prog.mapsAmong Tryz.f3.resultTypes.toList) && (Rows.fnExactReadInterfaceRow.loops == (Tryz.f3.params.toList ++ Rows.fnExactReadInterfaceSpec.plain.varTypes Tryz.prog).any (Tryz.prog.loopsFrom ·)) && (Rows.fnExactReadInterfaceRow.wideKeys == (Tryz.f3.params.toList ++ Rows.fnExactReadInterfaceSpec.plain.varTypes Tryz.prog ++ Tryz.f3.resultTypes.toList).any (Tryz.prog.wideKeysFrom ·)) && Rows.fnExactReadInterfaceSpec.vars.all (Tryz.prog.varReadable ·) && Tryz.f3.resultTypes.all (fun t => Tryz.prog.readableRec t && decide (t < Tryz.prog.types.size)) && (Rows.fnExactReadInterfaceRow.ifacesOut == Tryz.f3.resultTypes.toList.any (Tryz.prog.ifacesRec ·)) && (Rows.fnExactReadInterfaceRow.loopsOut == Tryz.f3.resultTypes.toList.any (Tryz.prog.loopsFrom ·)) && (Rows.fnExactReadInterfaceRow.plainKeys == Tryz.prog.plainKeys) && Rows.fnExactReadInterfaceRow.shortTexts.isNone && Tryz.prog.stopsHeard && Tryz.prog.mayEnter && (Rows.fnExactReadInterfaceRow.lifted == Tryz.prog.liftsFinal) && (Tryz.prog.make == some Rows.fnExactReadInterfaceRow.make) && (Rows.fnExactReadInterfaceRow.kinds == (if Rows.fnExactReadInterfaceRow.domain.isEmpty then [] else Tryz.f3.params.toList.map fun t => match Tryz.prog.underlying t with | some (.int k) => some k | _ => none)) && (Rows.fnExactReadInterfaceRow.pinned == Rows.fnExactReadInterfaceRow.pinnedBy) && (Rows.fnExactReadInterfaceRow.veiled == (Tryz.f3.params.toList ++ Rows.fnExactReadInterfaceSpec.plain.varTypes Tryz.prog ++ Tryz.f3.resultTypes.toList).any (Tryz.prog.veiledRec ·)) && Rows.fnExactReadInterfaceRow.veiledFits Tryz.prog Tryz.f3.params.toList (Tryz.f3.params.toList ++ Rows.fnExactReadInterfaceSpec.plain.varTypes Tryz.prog ++ Tryz.f3.resultTypes.toList)) = true)
theorem named_ : Tryz.prog.funcNamed Rows.fnExactReadInterfaceRow.func = some 3 := by kernel_rfl
theorem inst_ : Tryz.f3.isInstance Tryz.prog Rows.fnExactReadInterfaceRow.origin Rows.fnExactReadInterfaceRow.targs := of_decide_eq_true (by kernel_rfl)
theorem wrap_ : Tryz.f3.isWrapper Tryz.prog Rows.fnExactReadInterfaceRow.wrapper Rows.fnExactReadInterfaceRow.mainSum := by unfold Func.isWrapper; first | (rw [if_pos (by decide +kernel)]; kernel_rfl) | (rw [if_neg (by decide +kernel)]; exact ⟨rfl, rfl⟩)
theorem over : Rows.fnExactReadInterfaceRow.holds Tryz.pinned (OpenSpec.ofChange Rows.fnExactReadInterfaceSpec) :=
  OpenClaim.holds_of_wide 3 Tryz.f3 rfl rfl rfl rfl rfl rfl rfl ⟨rfl, rfl, rfl, rfl, rfl⟩ rfl rfl rfl rfl rfl named_ Tryz.func3 closed
    inst_ wrap_
    (fun os started H enc _ => lifted os started H enc)
theorem proved : Rows.FnExactReadInterfaceSaid := over
end Go.Proofs.YtoclajfeeebbbabGreatDoor.fnExactReadInterface
