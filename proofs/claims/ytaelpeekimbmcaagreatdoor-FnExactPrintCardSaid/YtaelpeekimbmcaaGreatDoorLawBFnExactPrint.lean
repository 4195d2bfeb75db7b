/- The row of the law FnExactPrint: whatever the input, it returns true. Conditions: those of the row alone. -/
import Derived.Test.YtaelpeekimbmcaaGreatDoorLawAFnExactPrint
import Derived.Test.YtaelpeekimbmcaaGreatDoorLawF0FnExactPrint
import Derived.Test.YtaelpeekimbmcaaGreatDoorLawF1FnExactPrint
import Derived.Test.YtaelpeekimbmcaaGreatDoorLawF2FnExactPrint
import Derived.Test.YtaelpeekimbmcaaGreatDoorRows
import Derived.Test.YtaelpeekimbmcaaGreatDoorCards
import Derived.Test.YtaelpeekimbmcaaGreatDoorTie
import Derived.Test.YtaelpeekimbmcaaGreatDoorPFnExactPrint1
import Derived.Test.YtaelpeekimbmcaaGreatDoorPureFnExactPrint
import Derived.SevenTiedAt
import Derived.LaidMore
import Derived.Lay
import Derived.WalkKit
import Derived.ProofKit
import Derived.OpenShut
import Derived.ShutString
import Derived.ChangeOld
import Derived.Below
import Derived.SizedLaws
set_option linter.unusedVariables false
namespace Go.Proofs.YtaelpeekimbmcaaGreatDoor.fnExactPrint
open Go.ChangeShapes Go.WideShapes Go.ChangeAt Go.RowKit Go.Proofs.YtaelpeekimbmcaaGreatDoor.E
open Go.ChangeMaps (open_string shut_string)
theorem and_mk {a b:Bool} (h:a = true) (k:b = true):(a && b) = true:=by rw [h,k]; rfl
set_option maxRecDepth 100000 in
theorem closed:joinedFacts Tryz.prog 3 Tryz.f3 Rows.fnExactPrintSpec Rows.fnExactPrintRow = true:=by
  unfold joinedFacts
  exact (and_mk (and_mk (and_mk (and_mk (and_mk (and_mk (and_mk (and_mk (and_mk (and_mk (and_mk (and_mk (and_mk (and_mk (and_mk (and_mk (and_mk (and_mk (and_mk (and_mk (and_mk (and_mk (and_mk (and_mk (and_mk (and_mk (and_mk (and_mk (and_mk (and_mk (and_mk k0 k1) k2) k3) k4) k5) k6) k7) k8) k9) k10) k11) k12) k13) k14) k15) k16) k17) k18) k19) k20) k21) k22) k23) k24) k25) k26) k27) k28) k29) k30) k31:(Rows.fnExactPrintRow.wf (OpenSpec.ofChange Rows.fnExactPrintSpec) && laidOutB Tryz.prog && mapsRowed Tryz.prog && Tryz.f3.params.all (Tryz.prog.readableRec ·) && namedTie Tryz.prog Rows.fnExactPrintRow.named Rows.fnExactPrintSpec.vars && (Rows.fnExactPrintRow.stops == []) && (Tryz.prog.stops == []) && (Rows.fnExactPrintRow.knobs == []) && (Tryz.prog.stopKnobs == []) && (Rows.fnExactPrintRow.inPlace == Tryz.prog.inPlace 3) && (Rows.fnExactPrintRow.unfollowed == Tryz.prog.unfollowed 3) && (Rows.fnExactPrintRow.recurses == Tryz.prog.recurses 3) && (Rows.fnExactPrintRow.named == Tryz.prog.varsNamed 3) && (Rows.fnExactPrintRow.maps == (Tryz.f3.params.toList ++ Rows.fnExactPrintSpec.plain.varTypes Tryz.prog).any (Tryz.prog.mapsRec ·)) && (Rows.fnExactPrintRow.ifaces == (Tryz.f3.params.toList ++ Rows.fnExactPrintSpec.plain.varTypes Tryz.prog).any (Tryz.prog.ifacesRec ·)) && (Rows.fnExactPrintRow.mapsOut == Tryz.prog.mapsAmong Tryz.f3.resultTypes.toList) && (Rows.fnExactPrintRow.loops == (Tryz.f3.params.toList ++ Rows.fnExactPrintSpec.plain.varTypes Tryz.prog).any (Tryz.prog.loopsFrom ·)) && (Rows.fnExactPrintRow.wideKeys == (Tryz.f3.params.toList ++ Rows.fnExactPrintSpec.plain.varTypes Tryz.prog ++ Tryz.f3.resultTypes.toList).any (Tryz.prog.wideKeysFrom ·)) && Rows.fnExactPrintSpec.vars.all (Tryz.prog.varReadable ·) && Tryz.f3.resultTypes.all (fun t=>Tryz.prog.readableRec t && decide (t < Tryz.prog.types.size)) && (Rows.fnExactPrintRow.ifacesOut == Tryz.f3.resultTypes.toList.any (Tryz.prog.ifacesRec ·)) && (Rows.fnExactPrintRow.loopsOut == Tryz.f3.resultTypes.toList.any (Tryz.prog.loopsFrom ·)) && (Rows.fnExactPrintRow.plainKeys == Tryz.prog.plainKeys) && Rows.fnExactPrintRow.shortTexts.isNone && Tryz.prog.stopsHeard && Tryz.prog.mayEnter && (Rows.fnExactPrintRow.lifted == Tryz.prog.liftsFinal) && (Tryz.prog.make == some Rows.fnExactPrintRow.make) && (Rows.fnExactPrintRow.kinds == (if Rows.fnExactPrintRow.domain.isEmpty then [] else Tryz.f3.params.toList.map fun t=>match Tryz.prog.underlying t with | some (.int k)=>some k | _=>none)) && (Rows.fnExactPrintRow.pinned == Rows.fnExactPrintRow.pinnedBy) && (Rows.fnExactPrintRow.veiled == (Tryz.f3.params.toList ++ Rows.fnExactPrintSpec.plain.varTypes Tryz.prog ++ Tryz.f3.resultTypes.toList).any (Tryz.prog.veiledRec ·)) && Rows.fnExactPrintRow.veiledFits Tryz.prog Tryz.f3.params.toList (Tryz.f3.params.toList ++ Rows.fnExactPrintSpec.plain.varTypes Tryz.prog ++ Tryz.f3.resultTypes.toList)) = true)
theorem named_:Tryz.prog.funcNamed Rows.fnExactPrintRow.func = some 3:=by kernel_rfl
theorem inst_:Tryz.f3.isInstance Tryz.prog Rows.fnExactPrintRow.origin Rows.fnExactPrintRow.targs:=of_decide_eq_true (by kernel_rfl)
theorem wrap_:Tryz.f3.isWrapper Tryz.prog Rows.fnExactPrintRow.wrapper Rows.fnExactPrintRow.mainSum:=by unfold Func.isWrapper; first | (rw [if_pos (by decide +kernel)]; kernel_rfl) | (rw [if_neg (by decide +kernel)]; exact ⟨rfl,rfl⟩)
theorem over:Rows.fnExactPrintRow.holds Tryz.pinned (OpenSpec.ofChange Rows.fnExactPrintSpec) :=
  OpenClaim.holds_of_wide 3 Tryz.f3 rfl rfl rfl rfl rfl rfl rfl ⟨rfl,rfl,rfl,rfl,rfl⟩ rfl rfl rfl rfl rfl named_ Tryz.func3 closed
    inst_ wrap_
    (fun os started H enc _=>lifted os started H enc)
theorem proved:Rows.FnExactPrintSaid:=over
end Go.Proofs.YtaelpeekimbmcaaGreatDoor.fnExactPrint
