/- The row of the law FnFaces: whatever the input, it returns true. Conditions: those of the row alone. -/
import Derived.Test.YtdoenfpleokadaaGreatDoorLawAFnFaces
import Derived.Test.YtdoenfpleokadaaGreatDoorLawF0FnFaces
import Derived.Test.YtdoenfpleokadaaGreatDoorLawF1FnFaces
import Derived.Test.YtdoenfpleokadaaGreatDoorLawF2FnFaces
import Derived.Test.YtdoenfpleokadaaGreatDoorRows
import Derived.Test.YtdoenfpleokadaaGreatDoorCards
import Derived.Test.YtdoenfpleokadaaGreatDoorTie
import Derived.Test.YtdoenfpleokadaaGreatDoorPFnFaces1
import Derived.Test.YtdoenfpleokadaaGreatDoorPureFnFaces
import Derived.SevenTiedAt
import Derived.LaidMore
import Derived.WalkKit
import Derived.ProofKit
import Derived.OpenShut
import Derived.ShutString
import Derived.ChangeOld
import Derived.Below
import Derived.SizedLaws
set_option linter.unusedVariables false
namespace Go.Proofs.YtdoenfpleokadaaGreatDoor.fnFaces
open Go.ChangeShapes Go.WideShapes Go.ChangeAt Go.RowKit Go.Proofs.YtdoenfpleokadaaGreatDoor.E
open Go.ChangeMaps (open_string shut_string)
theorem and_mk {a b : Bool} (h : a = true) (k : b = true) : (a && b) = true := by rw [h, k]; rfl
set_option maxRecDepth 100000 in
theorem closed : joinedFacts Tryz.prog 11 Tryz.f11 Rows.fnFacesSpec Rows.fnFacesRow = true := by
  unfold joinedFacts
  exact (and_mk (and_mk (and_mk (and_mk (and_mk (and_mk (and_mk (and_mk (and_mk (and_mk (and_mk (and_mk (and_mk (and_mk (and_mk (and_mk (and_mk (and_mk (and_mk (and_mk (and_mk (and_mk (and_mk (and_mk (and_mk (and_mk (and_mk (and_mk (and_mk (and_mk (and_mk k0 k1) k2) k3) k4) k5) k6) k7) k8) k9) k10) k11) k12) k13) k14) k15) k16) k17) k18) k19) k20) k21) k22) k23) k24) k25) k26) k27) k28) k29) k30) k31 : (Rows.fnFacesRow.wf (OpenSpec.ofChange Rows.fnFacesSpec) && laidOutB Tryz.prog && mapsRowed Tryz.prog && Tryz.f11.params.all (Tryz.prog.readableRec ·) && namedTie Tryz.prog Rows.fnFacesRow.named Rows.fnFacesSpec.vars && (Rows.fnFacesRow.stops == []) && (Tryz.prog.stops == []) && (Rows.fnFacesRow.knobs == []) && (Tryz.prog.stopKnobs == []) && (Rows.fnFacesRow.inPlace == Tryz.prog.inPlace 11) && (Rows.fnFacesRow.unfollowed == Tryz.prog.unfollowed 11) && (Rows.fnFacesRow.recurses == Tryz.prog.recurses 11) && (Rows.fnFacesRow.named == Tryz.prog.varsNamed 11) && (Rows.fnFacesRow.maps == (Tryz.f11.params.toList ++ Rows.fnFacesSpec.plain.varTypes Tryz.prog).any (Tryz.prog.mapsRec ·)) && (Rows.fnFacesRow.ifaces == (Tryz.f11.params.toList ++ Rows.fnFacesSpec.plain.varTypes Tryz.prog).any (Tryz.prog.ifacesRec ·)) && (Rows.fnFacesRow.mapsOut == Tryz.prog.mapsAmong Tryz.f11.resultTypes.toList) && (Rows.fnFacesRow.loops == (Tryz.f11.params.toList ++ Rows.fnFacesSpec.plain.varTypes Tryz.prog).any (Tryz.prog.loopsFrom ·)) && (Rows.fnFacesRow.wideKeys == (Tryz.f11.params.toList ++ Rows.fnFacesSpec.plain.varTypes Tryz.prog ++ Tryz.f11.resultTypes.toList).any (Tryz.prog.wideKeysFrom ·)) && Rows.fnFacesSpec.vars.all (Tryz.prog.varReadable ·) && Tryz.f11.resultTypes.all (fun t => Tryz.prog.readableRec t && decide (t < Tryz.prog.types.size)) && (Rows.fnFacesRow.ifacesOut == Tryz.f11.resultTypes.toList.any (Tryz.prog.ifacesRec ·)) && (Rows.fnFacesRow.loopsOut == Tryz.f11.resultTypes.toList.any (Tryz.prog.loopsFrom ·)) && (Rows.fnFacesRow.plainKeys == Tryz.prog.plainKeys) && Rows.fnFacesRow.shortTexts.isNone && Tryz.prog.stopsHeard && Tryz.prog.mayEnter && (Rows.fnFacesRow.lifted == Tryz.prog.liftsFinal) && (Tryz.prog.make == some Rows.fnFacesRow.make) && (Rows.fnFacesRow.kinds == (if Rows.fnFacesRow.domain.isEmpty then [] else Tryz.f11.params.toList.map fun t => match Tryz.prog.underlying t with | some (.int k) => some k | _ => none)) && (Rows.fnFacesRow.pinned == Rows.fnFacesRow.pinnedBy) && (Rows.fnFacesRow.veiled == (Tryz.f11.params.toList ++ Rows.fnFacesSpec.plain.varTypes Tryz.prog ++ Tryz.f11.resultTypes.toList).any (Tryz.prog.veiledRec ·)) && Rows.fnFacesRow.veiledFits Tryz.prog Tryz.f11.params.toList (Tryz.f11.params.toList ++ Rows.fnFacesSpec.plain.varTypes Tryz.prog ++ Tryz.f11.resultTypes.toList)) = true)
theorem named_ : Tryz.prog.funcNamed Rows.fnFacesRow.func = some 11 := by kernel_rfl
theorem inst_ : Tryz.f11.isInstance Tryz.prog Rows.fnFacesRow.origin Rows.fnFacesRow.targs := of_decide_eq_true (by kernel_rfl)
theorem wrap_ : Tryz.f11.isWrapper Tryz.prog Rows.fnFacesRow.wrapper Rows.fnFacesRow.mainSum := by unfold Func.isWrapper; first | (rw [if_pos (by decide +kernel)]; kernel_rfl) | (rw [if_neg (by decide +kernel)]; exact ⟨rfl, rfl⟩)
theorem over : Rows.fnFacesRow.holds Tryz.pinned (OpenSpec.ofChange Rows.fnFacesSpec) :=
  OpenClaim.holds_of_wide 11 Tryz.f11 rfl rfl rfl rfl rfl rfl rfl ⟨rfl, rfl, rfl, rfl, rfl⟩ rfl rfl rfl rfl rfl named_ Tryz.func11 closed
    inst_ wrap_
    (fun os started H enc _ => lifted os started H enc)
theorem proved : Rows.FnFacesSaid := over
end Go.Proofs.YtdoenfpleokadaaGreatDoor.fnFaces
