/- The row of the law FnExactPrintOf: whatever the input, it returns true. Conditions: those of the row alone. -/
import Derived.Test.YtdoenfpleokadaaGreatDoorLawAFnExactPrintOf
import Derived.Test.YtdoenfpleokadaaGreatDoorLawF0FnExactPrintOf
import Derived.Test.YtdoenfpleokadaaGreatDoorLawF1FnExactPrintOf
import Derived.Test.YtdoenfpleokadaaGreatDoorLawF2FnExactPrintOf
import Derived.Test.YtdoenfpleokadaaGreatDoorRows
import Derived.Test.YtdoenfpleokadaaGreatDoorCards
import Derived.Test.YtdoenfpleokadaaGreatDoorTie
import Derived.Test.YtdoenfpleokadaaGreatDoorPFnExactPrintOf1
import Derived.Test.YtdoenfpleokadaaGreatDoorPureFnExactPrintOf
import Derived.SevenTiedAt
import Derived.LaidMore
import Derived.WalkKit
import Derived.ProofKit
import Derived.OpenShut
import Derived.ShutString
import Derived.ChangeOld
import Derived.Below
import Derived.SizedLaws
set_option linter.unusedVariables false
namespace Go.Proofs.YtdoenfpleokadaaGreatDoor.fnExactPrintOf
open Go.ChangeShapes Go.WideShapes Go.ChangeAt Go.RowKit Go.Proofs.YtdoenfpleokadaaGreatDoor.E
open Go.ChangeMaps (open_string shut_string)
theorem and_mk {a b : Bool} (h : a = true) (k : b = true) : (a && b) = true := by rw [h, k]; rfl
set_option maxRecDepth 100000 in
theorem closed : joinedFacts Tryz.prog 3 Tryz.f3 Rows.fnExactPrintOfSpec Rows.fnExactPrintOfRow = true := by
  unfold joinedFacts
  exact (and_mk (and_mk (and_mk (and_mk (and_mk (and_mk (and_mk (and_mk (and_mk (and_mk (and_mk (and_mk (and_mk (and_mk (and_mk (and_mk (and_mk (and_mk (and_mk (and_mk (and_mk (and_mk (and_mk (and_mk (and_mk (and_mk (and_mk (and_mk (and_mk (and_mk (and_mk k0 k1) k2) k3) k4) k5) k6) k7) k8) k9) k10) k11) k12) k13) k14) k15) k16) k17) k18) k19) k20) k21) k22) k23) k24) k25) k26) k27) k28) k29) k30) k31 : (Rows.fnExactPrintOfRow.wf (OpenSpec.ofChange Rows.fnExactPrintOfSpec) && laidOutB Tryz.prog && mapsRowed Tryz.prog && Tryz.f3.params.all (Tryz.prog.readableRec ·) && namedTie Tryz.prog Rows.fnExactPrintOfRow.named Rows.fnExactPrintOfSpec.vars && (Rows.fnExactPrintOfRow.stops == []) && (Tryz.prog.stops == []) && (Rows.fnExactPrintOfRow.knobs == []) && (Tryz.prog.stopKnobs == []) && (Rows.fnExactPrintOfRow.inPlace == Tryz.prog.inPlace 3) && (Rows.fnExactPrintOfRow.unfollowed == Tryz.prog.unfollowed 3) && (Rows.fnExactPrintOfRow.recurses == Tryz.prog.recurses 3) && (Rows.fnExactPrintOfRow.named == Tryz.prog.varsNamed 3) && (Rows.fnExactPrintOfRow.maps == (Tryz.f3.params.toList ++ Rows.fnExactPrintOfSpec.plain.varTypes Tryz.prog).any (Tryz.prog.mapsRec ·)) && (Rows.fnExactPrintOfRow.ifaces == (Tryz.f3.params.toList ++ Rows.fnExactPrintOfSpec.plain.varTypes Tryz.prog).any (Tryz.prog.ifacesRec ·)) && (Rows.fnExactPrintOfRow.mapsOut == Tryz.prog.mapsAmong Tryz.f3.resultTypes.toList) && (Rows.fnExactPrintOfRow.loops == (Tryz.f3.params.toList ++ Rows.fnExactPrintOfSpec.plain.varTypes Tryz.prog).any (Tryz.prog.loopsFrom ·)) && (Rows.fnExactPrintOfRow.wideKeys == (Tryz.f3.params.toList ++ Rows.fnExactPrintOfSpec.plain.varTypes Tryz.prog ++ Tryz.f3.resultTypes.toList).any (Tryz.prog.wideKeysFrom ·)) && Rows.fnExactPrintOfSpec.vars.all (Tryz.prog.varReadable ·) && Tryz.f3.resultTypes.all (fun t => Tryz.prog.readableRec t && decide (t < Tryz.prog.types.size)) && (Rows.fnExactPrintOfRow.ifacesOut == Tryz.f3.resultTypes.toList.any (Tryz.prog.ifacesRec ·)) && (Rows.fnExactPrintOfRow.loopsOut == Tryz.f3.resultTypes.toList.any (Tryz.prog.loopsFrom ·)) && (Rows.fnExactPrintOfRow.plainKeys == Tryz.prog.plainKeys) && Rows.fnExactPrintOfRow.shortTexts.isNone && Tryz.prog.stopsHeard && Tryz.prog.mayEnter && (Rows.fnExactPrintOfRow.lifted == Tryz.prog.liftsFinal) && (Tryz.prog.make == some Rows.fnExactPrintOfRow.make) && (Rows.fnExactPrintOfRow.kinds == (if Rows.fnExactPrintOfRow.domain.isEmpty then [] else Tryz.f3.params.toList.map fun t => match Tryz.prog.underlying t with | some (.int k) => some k | _ => none)) && (Rows.fnExactPrintOfRow.pinned == Rows.fnExactPrintOfRow.pinnedBy) && (Rows.fnExactPrintOfRow.veiled == (Tryz.f3.params.toList ++ Rows.fnExactPrintOfSpec.plain.varTypes Tryz.prog ++ Tryz.f3.resultTypes.toList).any (Tryz.prog.veiledRec ·)) && Rows.fnExactPrintOfRow.veiledFits Tryz.prog Tryz.f3.params.toList (Tryz.f3.params.toList ++ Rows.fnExactPrintOfSpec.plain.varTypes Tryz.prog ++ Tryz.f3.resultTypes.toList)) = true)
theorem named_ : Tryz.prog.funcNamed Rows.fnExactPrintOfRow.func = some 3 := by kernel_rfl
theorem inst_ : Tryz.f3.isInstance Tryz.prog Rows.fnExactPrintOfRow.origin Rows.fnExactPrintOfRow.targs := of_decide_eq_true (by kernel_rfl)
theorem wrap_ : Tryz.f3.isWrapper Tryz.prog Rows.fnExactPrintOfRow.wrapper Rows.fnExactPrintOfRow.mainSum := by unfold Func.isWrapper; first | (rw [if_pos (by decide +kernel)]; kernel_rfl) | (rw [if_neg (by decide +kernel)]; exact ⟨rfl, rfl⟩)
theorem over : Rows.fnExactPrintOfRow.holds Tryz.pinned (OpenSpec.ofChange Rows.fnExactPrintOfSpec) :=
  OpenClaim.holds_of_wide 3 Tryz.f3 rfl rfl rfl rfl rfl rfl rfl ⟨rfl, rfl, rfl, rfl, rfl⟩ rfl rfl rfl rfl rfl named_ Tryz.func3 closed
    inst_ wrap_
    (fun os started H enc _ => lifted os started H enc)
theorem proved : Rows.FnExactPrintOfSaid := over
end Go.Proofs.YtdoenfpleokadaaGreatDoor.fnExactPrintOf
