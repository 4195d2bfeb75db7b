/- The row of the law FnExactInterfaceBytes: whatever the input, it returns true. Conditions: those of the row alone. -/
import Derived.Test.YtoclajfeeebbbaaGreatDoorLawAFnExactInterfaceBytes
import Derived.Test.YtoclajfeeebbbaaGreatDoorLawF0FnExactInterfaceBytes
import Derived.Test.YtoclajfeeebbbaaGreatDoorLawF1FnExactInterfaceBytes
import Derived.Test.YtoclajfeeebbbaaGreatDoorLawF2FnExactInterfaceBytes
import Derived.Test.YtoclajfeeebbbaaGreatDoorRows
import Derived.Test.YtoclajfeeebbbaaGreatDoorCards
import Derived.Test.YtoclajfeeebbbaaGreatDoorTie
import Derived.Test.YtoclajfeeebbbaaGreatDoorZFnExactInterfaceBytes
import Derived.Test.YtoclajfeeebbbaaGreatDoorPureFnExactInterfaceBytes
import Derived.SevenTiedAt
import Derived.LaidMore
import Derived.Lay
import Derived.WalkKit
import Derived.ProofKit
import Derived.OpenShut
import Derived.ShutString
import Derived.ChangeOld
import Derived.Below
import Derived.SizedLaws
set_option linter.unusedVariables false
namespace Go.Proofs.YtoclajfeeebbbaaGreatDoor.fnExactInterfaceBytes
open Go.ChangeShapes Go.WideShapes Go.ChangeAt Go.RowKit Go.Proofs.YtoclajfeeebbbaaGreatDoor.E
open Go.ChangeMaps (open_string shut_string)
theorem and_mk {a b : Bool} (h : a = true) (k : b = true) : (a && b) = true := by rw [h, k]; rfl
set_option maxRecDepth 100000 in
theorem closed : joinedFacts Tryz.prog 3 Tryz.f3 Rows.fnExactInterfaceBytesSpec Rows.fnExactInterfaceBytesRow = true := by
  unfold joinedFacts
  exact (and_mk (and_mk (and_mk (and_mk (and_mk (and_mk (and_mk (and_mk (and_mk (and_mk (and_mk (and_mk (and_mk (and_mk (and_mk (and_mk (and_mk (and_mk (and_mk (and_mk (and_mk (and_mk (and_mk (and_mk (and_mk (and_mk (and_mk (and_mk (and_mk (and_mk (and_mk k0 k1) k2) k3) k4) k5) k6) k7) k8) k9) k10) k11) k12) k13) k14) k15) k16) k17) k18) k19) k20) k21) k22) k23) k24) k25) k26) k27) k28) k29) k30) k31 : (Rows.fnExactInterfaceBytesRow.wf (OpenSpec.ofChange Rows.fnExactInterfaceBytesSpec) && laidOutB Tryz.prog && mapsRowed Tryz.prog && Tryz.f3.params.all (Tryz.prog.readableRec ·) && namedTie Tryz.prog Rows.fnExactInterfaceBytesRow.named Rows.fnExactInterfaceBytesSpec.vars && (Rows.fnExactInterfaceBytesRow.stops == []) && (Tryz.prog.stops == []) && (Rows.fnExactInterfaceBytesRow.knobs == []) && (Tryz.prog.stopKnobs == []) && (Rows.fnExactInterfaceBytesRow.inPlace == Tryz.prog.inPlace 3) && (Rows.fnExactInterfaceBytesRow.unfollowed == Tryz.prog.unfollowed 3) && (Rows.fnExactInterfaceBytesRow.recurses == Tryz.prog.recurses 3) && (Rows.fnExactInterfaceBytesRow.named == Tryz.prog.varsNamed 3) && (Rows.fnExactInterfaceBytesRow.maps == (Tryz.f3.params.toList ++ Rows.fnExactInterfaceBytesSpec.plain.varTypes Tryz.prog).any (Tryz.prog.mapsRec ·)) && (Rows.fnExactInterfaceBytesRow.ifaces == (Tryz.f3.params.toList ++ Rows.fnExactInterfaceBytesSpec.plain.varTypes Tryz.prog).any (Tryz.prog.ifacesRec ·)) && (Rows.fnExactInterfaceBytesRow.mapsOut == Tryz.prog.mapsAmong Tryz.f3.resultTypes.toList) && (Rows.fnExactInterfaceBytesRow.loops == (Tryz.f3.params.toList ++ Rows.fnExactInterfaceBytesSpec.plain.varTypes Tryz.prog).any (Tryz.prog.loopsFrom ·)) && (Rows.fnExactInterfaceBytesRow.wideKeys == (Tryz.f3.params.toList ++ Rows.fnExactInterfaceBytesSpec.plain.varTypes Tryz.prog ++ Tryz.f3.resultTypes.toList).any (Tryz.prog.wideKeysFrom ·)) && Rows.fnExactInterfaceBytesSpec.vars.all (Tryz.prog.varReadable ·) && Tryz.f3.resultTypes.all (fun t => Tryz.prog.readableRec t && decide (t < Tryz.prog.types.size)) && (Rows.fnExactInterfaceBytesRow.ifacesOut == Tryz.f3.resultTypes.toList.any (Tryz.prog.ifacesRec ·)) && (Rows.fnExactInterfaceBytesRow.loopsOut == Tryz.f3.resultTypes.toList.any (Tryz.prog.loopsFrom ·)) && (Rows.fnExactInterfaceBytesRow.plainKeys == Tryz.prog.plainKeys) && Rows.fnExactInterfaceBytesRow.shortTexts.isNone && Tryz.prog.stopsHeard && Tryz.prog.mayEnter && (Rows.fnExactInterfaceBytesRow.lifted == Tryz.prog.liftsFinal) && (Tryz.prog.make == some Rows.fnExactInterfaceBytesRow.make) && (Rows.fnExactInterfaceBytesRow.kinds == (if Rows.fnExactInterfaceBytesRow.domain.isEmpty then [] else Tryz.f3.params.toList.map fun t => match Tryz.prog.underlying t with | some (.int k) => some k | _ => none)) && (Rows.fnExactInterfaceBytesRow.pinned == Rows.fnExactInterfaceBytesRow.pinnedBy) && (Rows.fnExactInterfaceBytesRow.veiled == (Tryz.f3.params.toList ++ Rows.fnExactInterfaceBytesSpec.plain.varTypes Tryz.prog ++ Tryz.f3.resultTypes.toList).any (Tryz.prog.veiledRec ·)) && Rows.fnExactInterfaceBytesRow.veiledFits Tryz.prog Tryz.f3.params.toList (Tryz.f3.params.toList ++ Rows.fnExactInterfaceBytesSpec.plain.varTypes Tryz.prog ++ Tryz.f3.resultTypes.toList)) = true)
theorem named_ : Tryz.prog.funcNamed Rows.fnExactInterfaceBytesRow.func = some 3 := by kernel_rfl
theorem inst_ : Tryz.f3.isInstance Tryz.prog Rows.fnExactInterfaceBytesRow.origin Rows.fnExactInterfaceBytesRow.targs := of_decide_eq_true (by kernel_rfl)
theorem wrap_ : Tryz.f3.isWrapper Tryz.prog Rows.fnExactInterfaceBytesRow.wrapper Rows.fnExactInterfaceBytesRow.mainSum := by unfold Func.isWrapper; first | (rw [if_pos (by decide +kernel)]; kernel_rfl) | (rw [if_neg (by decide +kernel)]; exact ⟨rfl, rfl⟩)
theorem over : Rows.fnExactInterfaceBytesRow.holds Tryz.pinned (OpenSpec.ofChange Rows.fnExactInterfaceBytesSpec) :=
  OpenClaim.holds_of_wide 3 Tryz.f3 rfl rfl rfl rfl rfl rfl rfl ⟨rfl, rfl, rfl, rfl, rfl⟩ rfl rfl rfl rfl rfl named_ Tryz.func3 closed
    inst_ wrap_
    (fun os started H enc _ => lifted os started H enc)
theorem proved : Rows.FnExactInterfaceBytesSaid := over
end Go.Proofs.YtoclajfeeebbbaaGreatDoor.fnExactInterfaceBytes
