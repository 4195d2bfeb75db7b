/- The row of the law FnExactEntryOK: whatever the input, it returns true. Conditions: those of the row alone. -/
import Derived.Test.YtiphpljonbabjaaGreatDoorLawAFnExactEntryOK
import Derived.Test.YtiphpljonbabjaaGreatDoorLawF0FnExactEntryOK
import Derived.Test.YtiphpljonbabjaaGreatDoorLawF1FnExactEntryOK
import Derived.Test.YtiphpljonbabjaaGreatDoorLawF2FnExactEntryOK
import Derived.Test.YtiphpljonbabjaaGreatDoorRows
import Derived.Test.YtiphpljonbabjaaGreatDoorCards
import Derived.Test.YtiphpljonbabjaaGreatDoorTie
import Derived.Test.YtiphpljonbabjaaGreatDoorPFnExactEntryOK1
import Derived.Test.YtiphpljonbabjaaGreatDoorPureFnExactEntryOK
import Derived.SevenTiedAt
import Derived.LaidMore
import Derived.WalkKit
import Derived.ProofKit
import Derived.OpenShut
import Derived.ShutString
import Derived.ChangeOld
import Derived.Below
import Derived.SizedLaws
set_option linter.unusedVariables false
namespace Go.Proofs.YtiphpljonbabjaaGreatDoor.fnExactEntryOK
open Go.ChangeShapes Go.WideShapes Go.ChangeAt Go.RowKit Go.Proofs.YtiphpljonbabjaaGreatDoor.E
open Go.ChangeMaps (open_string shut_string)
theorem and_mk {a b : Bool} (h : a = true) (k : b = true) : (a && b) = true := by rw [h, k]; rfl
set_option maxRecDepth 100000 in
theorem closed : joinedFacts Tryz.prog 3 Tryz.f3 Rows.fnExactEntryOKSpec Rows.fnExactEntryOKRow = true := by
  unfold joinedFacts
  exact (and_mk (and_mk (and_mk (and_mk (and_mk (and_mk (and_mk (and_mk (and_mk (and_mk (and_mk (and_mk (and_mk (and_mk (and_mk (and_mk (and_mk (and_mk (and_mk (and_mk (and_mk (and_mk (and_mk (and_mk (and_mk (and_mk (and_mk (and_mk (and_mk (and_mk (and_mk k0 k1) k2) k3) k4) k5) k6) k7) k8) k9) k10) k11) k12) k13) k14) k15) k16) k17) k18) k19) k20) k21) k22) k23) k24) k25) k26) k27) k28) k29) k30) k31 : (Rows.fnExactEntryOKRow.wf (OpenSpec.ofChange Rows.fnExactEntryOKSpec) && laidOutB Tryz.prog && mapsRowed Tryz.prog && Tryz.f3.params.all (Tryz.prog.readableRec ·) && namedTie Tryz.prog Rows.fnExactEntryOKRow.named Rows.fnExactEntryOKSpec.vars && (Rows.fnExactEntryOKRow.stops == []) && (Tryz.prog.stops == []) && (Rows.fnExactEntryOKRow.knobs == []) && (Tryz.prog.stopKnobs == []) && (Rows.fnExactEntryOKRow.inPlace == Tryz.prog.inPlace 3) && (Rows.fnExactEntryOKRow.unfollowed == Tryz.prog.unfollowed 3) && (Rows.fnExactEntryOKRow.recurses == Tryz.prog.recurses 3) && (Rows.fnExactEntryOKRow.named == Tryz.prog.varsNamed 3) && (Rows.fnExactEntryOKRow.maps == (Tryz.f3.params.toList ++ Rows.fnExactEntryOKSpec.plain.varTypes Tryz.prog).any (Tryz.prog.mapsRec ·)) && (Rows.fnExactEntryOKRow.ifaces == (Tryz.f3.params.toList ++ Rows.fnExactEntryOKSpec.plain.varTypes Tryz.prog).any (Tryz.prog.ifacesRec ·)) && (Rows.fnExactEntryOKRow.mapsOut == Tryz.prog.mapsAmong Tryz.f3.resultTypes.toList) && (Rows.fnExactEntryOKRow.loops == (Tryz.f3.params.toList ++ Rows.fnExactEntryOKSpec.plain.varTypes Tryz.prog).any (Tryz.prog.loopsFrom ·)) && (Rows.fnExactEntryOKRow.wideKeys == (Tryz.f3.params.toList ++ Rows.fnExactEntryOKSpec.plain.varTypes Tryz.prog ++ Tryz.f3.resultTypes.toList).any (Tryz.prog.wideKeysFrom ·)) && Rows.fnExactEntryOKSpec.vars.all (Tryz.prog.varReadable ·) && Tryz.f3.resultTypes.all (fun t => Tryz.prog.readableRec t && decide (t < Tryz.prog.types.size)) && (Rows.fnExactEntryOKRow.ifacesOut == Tryz.f3.resultTypes.toList.any (Tryz.prog.ifacesRec ·)) && (Rows.fnExactEntryOKRow.loopsOut == Tryz.f3.resultTypes.toList.any (Tryz.prog.loopsFrom ·)) && (Rows.fnExactEntryOKRow.plainKeys == Tryz.prog.plainKeys) && Rows.fnExactEntryOKRow.shortTexts.isNone && Tryz.prog.stopsHeard && Tryz.prog.mayEnter && (Rows.fnExactEntryOKRow.lifted == Tryz.prog.liftsFinal) && (Tryz.prog.make == some Rows.fnExactEntryOKRow.make) && (Rows.fnExactEntryOKRow.kinds == (if Rows.fnExactEntryOKRow.domain.isEmpty then [] else Tryz.f3.params.toList.map fun t => match Tryz.prog.underlying t with | some (.int k) => some k | _ => none)) && (Rows.fnExactEntryOKRow.pinned == Rows.fnExactEntryOKRow.pinnedBy) && (Rows.fnExactEntryOKRow.veiled == (Tryz.f3.params.toList ++ Rows.fnExactEntryOKSpec.plain.varTypes Tryz.prog ++ Tryz.f3.resultTypes.toList).any (Tryz.prog.veiledRec ·)) && Rows.fnExactEntryOKRow.veiledFits Tryz.prog Tryz.f3.params.toList (Tryz.f3.params.toList ++ Rows.fnExactEntryOKSpec.plain.varTypes Tryz.prog ++ Tryz.f3.resultTypes.toList)) = true)
theorem named_ : Tryz.prog.funcNamed Rows.fnExactEntryOKRow.func = some 3 := by kernel_rfl
theorem inst_ : Tryz.f3.isInstance Tryz.prog Rows.fnExactEntryOKRow.origin Rows.fnExactEntryOKRow.targs := of_decide_eq_true (by kernel_rfl)
theorem wrap_ : Tryz.f3.isWrapper Tryz.prog Rows.fnExactEntryOKRow.wrapper Rows.fnExactEntryOKRow.mainSum := by unfold Func.isWrapper; first | (rw [if_pos (by decide +kernel)]; kernel_rfl) | (rw [if_neg (by decide +kernel)]; exact ⟨rfl, rfl⟩)
theorem over : Rows.fnExactEntryOKRow.holds Tryz.pinned (OpenSpec.ofChange Rows.fnExactEntryOKSpec) :=
  OpenClaim.holds_of_wide 3 Tryz.f3 rfl rfl rfl rfl rfl rfl rfl ⟨rfl, rfl, rfl, rfl, rfl⟩ rfl rfl rfl rfl rfl named_ Tryz.func3 closed
    inst_ wrap_
    (fun os started H enc _ => lifted os started H enc)
theorem proved : Rows.FnExactEntryOKSaid := over
end Go.Proofs.YtiphpljonbabjaaGreatDoor.fnExactEntryOK
