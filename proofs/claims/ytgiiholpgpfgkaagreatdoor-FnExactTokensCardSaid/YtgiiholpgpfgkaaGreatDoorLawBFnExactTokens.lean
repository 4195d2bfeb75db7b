/- The row of the law FnExactTokens: whatever the input, it returns true. Conditions: those of the row alone. -/
import Derived.Test.YtgiiholpgpfgkaaGreatDoorLawAFnExactTokens
import Derived.Test.YtgiiholpgpfgkaaGreatDoorLawF0FnExactTokens
import Derived.Test.YtgiiholpgpfgkaaGreatDoorLawF1FnExactTokens
import Derived.Test.YtgiiholpgpfgkaaGreatDoorLawF2FnExactTokens
import Derived.Test.YtgiiholpgpfgkaaGreatDoorRows
import Derived.Test.YtgiiholpgpfgkaaGreatDoorCards
import Derived.Test.YtgiiholpgpfgkaaGreatDoorTie
import Derived.Test.YtgiiholpgpfgkaaGreatDoorPFnExactTokens0
import Derived.Test.YtgiiholpgpfgkaaGreatDoorPureFnExactTokens
import Derived.SevenTiedAt
import Derived.LaidMore
import Derived.Lay
import Derived.WalkKit
import Derived.ProofKit
import Derived.OpenShut
import Derived.ShutString
import Derived.ChangeOld
import Derived.Below
import Derived.SizedLaws
set_option linter.unusedVariables false
namespace Go.Proofs.YtgiiholpgpfgkaaGreatDoor.fnExactTokens
open Go.ChangeShapes Go.WideShapes Go.ChangeAt Go.RowKit Go.Proofs.YtgiiholpgpfgkaaGreatDoor.E
open Go.ChangeMaps (open_string shut_string)
theorem and_mk {a b : Bool} (h : a = true) (k : b = true) : (a && b) = true := by rw [h, k]; rfl
set_option maxRecDepth 100000 in
theorem closed : joinedFacts Tryz.prog 3 Tryz.f3 Rows.fnExactTokensSpec Rows.fnExactTokensRow = true := by
  unfold joinedFacts
  exact (and_mk (and_mk (and_mk (and_mk (and_mk (and_mk (and_mk (and_mk (and_mk (and_mk (and_mk (and_mk (and_mk (and_mk (and_mk (and_mk (and_mk (and_mk (and_mk (and_mk (and_mk (and_mk (and_mk (and_mk (and_mk (and_mk (and_mk (and_mk (and_mk (and_mk (and_mk k0 k1) k2) k3) k4) k5) k6) k7) k8) k9) k10) k11) k12) k13) k14) k15) k16) k17) k18) k19) k20) k21) k22) k23) k24) k25) k26) k27) k28) k29) k30) k31 : (Rows.fnExactTokensRow.wf (OpenSpec.ofChange Rows.fnExactTokensSpec) && laidOutB Tryz.prog && mapsRowed Tryz.prog && Tryz.f3.params.all (Tryz.prog.readableRec ·) && namedTie Tryz.prog Rows.fnExactTokensRow.named Rows.fnExactTokensSpec.vars && (Rows.fnExactTokensRow.stops == []) && (Tryz.prog.stops == []) && (Rows.fnExactTokensRow.knobs == []) && (Tryz.prog.stopKnobs == []) && (Rows.fnExactTokensRow.inPlace == Tryz.prog.inPlace 3) && (Rows.fnExactTokensRow.unfollowed == Tryz.prog.unfollowed 3) && (Rows.fnExactTokensRow.recurses == Tryz.prog.recurses 3) && (Rows.fnExactTokensRow.named == Tryz.prog.varsNamed 3) && (Rows.fnExactTokensRow.maps == (Tryz.f3.params.toList ++ Rows.fnExactTokensSpec.plain.varTypes Tryz.prog).any (Tryz.prog.mapsRec ·)) && (Rows.fnExactTokensRow.ifaces == (Tryz.f3.params.toList ++ Rows.fnExactTokensSpec.plain.varTypes Tryz.prog).any (Tryz.prog.ifacesRec ·)) && (Rows.fnExactTokensRow.mapsOut == Tryz.prog.mapsAmong Tryz.f3.resultTypes.toList) && (Rows.fnExactTokensRow.loops == (Tryz.f3.params.toList ++ Rows.fnExactTokensSpec.plain.varTypes Tryz.prog).any (Tryz.prog.loopsFrom ·)) && (Rows.fnExactTokensRow.wideKeys == (Tryz.f3.params.toList ++ Rows.fnExactTokensSpec.plain.varTypes Tryz.prog ++ Tryz.f3.resultTypes.toList).any (Tryz.prog.wideKeysFrom ·)) && Rows.fnExactTokensSpec.vars.all (Tryz.prog.varReadable ·) && Tryz.f3.resultTypes.all (fun t => Tryz.prog.readableRec t && decide (t < Tryz.prog.types.size)) && (Rows.fnExactTokensRow.ifacesOut == Tryz.f3.resultTypes.toList.any (Tryz.prog.ifacesRec ·)) && (Rows.fnExactTokensRow.loopsOut == Tryz.f3.resultTypes.toList.any (Tryz.prog.loopsFrom ·)) && (Rows.fnExactTokensRow.plainKeys == Tryz.prog.plainKeys) && Rows.fnExactTokensRow.shortTexts.isNone && Tryz.prog.stopsHeard && Tryz.prog.mayEnter && (Rows.fnExactTokensRow.lifted == Tryz.prog.liftsFinal) && (Tryz.prog.make == some Rows.fnExactTokensRow.make) && (Rows.fnExactTokensRow.kinds == (if Rows.fnExactTokensRow.domain.isEmpty then [] else Tryz.f3.params.toList.map fun t => match Tryz.prog.underlying t with | some (.int k) => some k | _ => none)) && (Rows.fnExactTokensRow.pinned == Rows.fnExactTokensRow.pinnedBy) && (Rows.fnExactTokensRow.veiled == (Tryz.f3.params.toList ++ Rows.fnExactTokensSpec.plain.varTypes Tryz.prog ++ Tryz.f3.resultTypes.toList).any (Tryz.prog.veiledRec ·)) && Rows.fnExactTokensRow.veiledFits Tryz.prog Tryz.f3.params.toList (Tryz.f3.params.toList ++ Rows.fnExactTokensSpec.plain.varTypes Tryz.prog ++ Tryz.f3.resultTypes.toList)) = true)
theorem named_ : Tryz.prog.funcNamed Rows.fnExactTokensRow.func = some 3 := by kernel_rfl
theorem inst_ : Tryz.f3.isInstance Tryz.prog Rows.fnExactTokensRow.origin Rows.fnExactTokensRow.targs := of_decide_eq_true (by kernel_rfl)
theorem wrap_ : Tryz.f3.isWrapper Tryz.prog Rows.fnExactTokensRow.wrapper Rows.fnExactTokensRow.mainSum := by unfold Func.isWrapper; first | (rw [if_pos (by decide +kernel)]; kernel_rfl) | (rw [if_neg (by decide +kernel)]; exact ⟨rfl, rfl⟩)
theorem over : Rows.fnExactTokensRow.holds Tryz.pinned (OpenSpec.ofChange Rows.fnExactTokensSpec) :=
  OpenClaim.holds_of_wide 3 Tryz.f3 rfl rfl rfl rfl rfl rfl rfl ⟨rfl, rfl, rfl, rfl, rfl⟩ rfl rfl rfl rfl rfl named_ Tryz.func3 closed
    inst_ wrap_
    (fun os started H enc _ => lifted os started H enc)
theorem proved : Rows.FnExactTokensSaid := over
end Go.Proofs.YtgiiholpgpfgkaaGreatDoor.fnExactTokens
