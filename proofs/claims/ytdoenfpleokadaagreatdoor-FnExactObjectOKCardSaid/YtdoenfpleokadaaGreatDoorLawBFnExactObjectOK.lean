/- The row of the law FnExactObjectOK: whatever the input, it returns true. Conditions: those of the row alone. -/
import Derived.Test.YtdoenfpleokadaaGreatDoorLawAFnExactObjectOK
import Derived.Test.YtdoenfpleokadaaGreatDoorLawF0FnExactObjectOK
import Derived.Test.YtdoenfpleokadaaGreatDoorLawF1FnExactObjectOK
import Derived.Test.YtdoenfpleokadaaGreatDoorLawF2FnExactObjectOK
import Derived.Test.YtdoenfpleokadaaGreatDoorRows
import Derived.Test.YtdoenfpleokadaaGreatDoorCards
import Derived.Test.YtdoenfpleokadaaGreatDoorTie
import Derived.Test.YtdoenfpleokadaaGreatDoorPFnExactObjectOK1
import Derived.Test.YtdoenfpleokadaaGreatDoorPureFnExactObjectOK
import Derived.SevenTiedAt
import Derived.LaidMore
import Derived.WalkKit
import Derived.ProofKit
import Derived.OpenShut
import Derived.ShutString
import Derived.ChangeOld
import Derived.Below
import Derived.SizedLaws
set_option linter.unusedVariables false
namespace Go.Proofs.YtdoenfpleokadaaGreatDoor.fnExactObjectOK
open Go.ChangeShapes Go.WideShapes Go.ChangeAt Go.RowKit Go.Proofs.YtdoenfpleokadaaGreatDoor.E
open Go.ChangeMaps (open_string shut_string)
theorem and_mk {a b : Bool} (h : a = true) (k : b = true) : (a && b) = true := by rw [h, k]; rfl
set_option maxRecDepth 100000 in
theorem closed : joinedFacts Tryz.prog 8 Tryz.f8 Rows.fnExactObjectOKSpec Rows.fnExactObjectOKRow = true := by
  unfold joinedFacts
  exact (and_mk (and_mk (and_mk (and_mk (and_mk (and_mk (and_mk (and_mk (and_mk (and_mk (and_mk (and_mk (and_mk (and_mk (and_mk (and_mk (and_mk (and_mk (and_mk (and_mk (and_mk (and_mk (and_mk (and_mk (and_mk (and_mk (and_mk (and_mk (and_mk (and_mk (and_mk k0 k1) k2) k3) k4) k5) k6) k7) k8) k9) k10) k11) k12) k13) k14) k15) k16) k17) k18) k19) k20) k21) k22) k23) k24) k25) k26) k27) k28) k29) k30) k31 : (Rows.fnExactObjectOKRow.wf (OpenSpec.ofChange Rows.fnExactObjectOKSpec) && laidOutB Tryz.prog && mapsRowed Tryz.prog && Tryz.f8.params.all (Tryz.prog.readableRec ·) && namedTie Tryz.prog Rows.fnExactObjectOKRow.named Rows.fnExactObjectOKSpec.vars && (Rows.fnExactObjectOKRow.stops == []) && (Tryz.prog.stops == []) && (Rows.fnExactObjectOKRow.knobs == []) && (Tryz.prog.stopKnobs == []) && (Rows.fnExactObjectOKRow.inPlace == Tryz.prog.inPlace 8) && (Rows.fnExactObjectOKRow.unfollowed == Tryz.prog.unfollowed 8) && (Rows.fnExactObjectOKRow.recurses == Tryz.prog.recurses 8) && (Rows.fnExactObjectOKRow.named == Tryz.prog.varsNamed 8) && (Rows.fnExactObjectOKRow.maps == (Tryz.f8.params.toList ++ Rows.fnExactObjectOKSpec.plain.varTypes Tryz.prog).any (Tryz.prog.mapsRec ·)) && (Rows.fnExactObjectOKRow.ifaces == (Tryz.f8.params.toList ++ Rows.fnExactObjectOKSpec.plain.varTypes Tryz.prog).any (Tryz.prog.ifacesRec ·)) && (Rows.fnExactObjectOKRow.mapsOut == Tryz.prog.mapsAmong Tryz.f8.resultTypes.toList) && (Rows.fnExactObjectOKRow.loops == (Tryz.f8.params.toList ++ Rows.fnExactObjectOKSpec.plain.varTypes Tryz.prog).any (Tryz.prog.loopsFrom ·)) && (Rows.fnExactObjectOKRow.wideKeys == (Tryz.f8.params.toList ++ Rows.fnExactObjectOKSpec.plain.varTypes Tryz.prog ++ Tryz.f8.resultTypes.toList).any (Tryz.prog.wideKeysFrom ·)) && Rows.fnExactObjectOKSpec.vars.all (Tryz.prog.varReadable ·) && Tryz.f8.resultTypes.all (fun t => Tryz.prog.readableRec t && decide (t < Tryz.prog.types.size)) && (Rows.fnExactObjectOKRow.ifacesOut == Tryz.f8.resultTypes.toList.any (Tryz.prog.ifacesRec ·)) && (Rows.fnExactObjectOKRow.loopsOut == Tryz.f8.resultTypes.toList.any (Tryz.prog.loopsFrom ·)) && (Rows.fnExactObjectOKRow.plainKeys == Tryz.prog.plainKeys) && Rows.fnExactObjectOKRow.shortTexts.isNone && Tryz.prog.stopsHeard && Tryz.prog.mayEnter && (Rows.fnExactObjectOKRow.lifted == Tryz.prog.liftsFinal) && (Tryz.prog.make == some Rows.fnExactObjectOKRow.make) && (Rows.fnExactObjectOKRow.kinds == (if Rows.fnExactObjectOKRow.domain.isEmpty then [] else Tryz.f8.params.toList.map fun t => match Tryz.prog.underlying t with | some (.int k) => some k | _ => none)) && (Rows.fnExactObjectOKRow.pinned == Rows.fnExactObjectOKRow.pinnedBy) && (Rows.fnExactObjectOKRow.veiled == (Tryz.f8.params.toList ++ Rows.fnExactObjectOKSpec.plain.varTypes Tryz.prog ++ Tryz.f8.resultTypes.toList).any (Tryz.prog.veiledRec ·)) && Rows.fnExactObjectOKRow.veiledFits Tryz.prog Tryz.f8.params.toList (Tryz.f8.params.toList ++ Rows.fnExactObjectOKSpec.plain.varTypes Tryz.prog ++ Tryz.f8.resultTypes.toList)) = true)
theorem named_ : Tryz.prog.funcNamed Rows.fnExactObjectOKRow.func = some 8 := by kernel_rfl
theorem inst_ : Tryz.f8.isInstance Tryz.prog Rows.fnExactObjectOKRow.origin Rows.fnExactObjectOKRow.targs := of_decide_eq_true (by kernel_rfl)
theorem wrap_ : Tryz.f8.isWrapper Tryz.prog Rows.fnExactObjectOKRow.wrapper Rows.fnExactObjectOKRow.mainSum := by unfold Func.isWrapper; first | (rw [if_pos (by decide +kernel)]; kernel_rfl) | (rw [if_neg (by decide +kernel)]; exact ⟨rfl, rfl⟩)
theorem over : Rows.fnExactObjectOKRow.holds Tryz.pinned (OpenSpec.ofChange Rows.fnExactObjectOKSpec) :=
  OpenClaim.holds_of_wide 8 Tryz.f8 rfl rfl rfl rfl rfl rfl rfl ⟨rfl, rfl, rfl, rfl, rfl⟩ rfl rfl rfl rfl rfl named_ Tryz.func8 closed
    inst_ wrap_
    (fun os started H enc _ => lifted os started H enc)
theorem proved : Rows.FnExactObjectOKSaid := over
end Go.Proofs.YtdoenfpleokadaaGreatDoor.fnExactObjectOK
