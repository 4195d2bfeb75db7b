/- The row of the law FnExactOutText: whatever the input, it returns true. Conditions: those of the row alone. -/
import Derived.Test.YtjgddjmgcffjfaaDoorLawAFnExactOutText
import Derived.Test.YtjgddjmgcffjfaaDoorLawF0FnExactOutText
import Derived.Test.YtjgddjmgcffjfaaDoorLawF1FnExactOutText
import Derived.Test.YtjgddjmgcffjfaaDoorLawF2FnExactOutText
import Derived.Test.YtjgddjmgcffjfaaDoorRows
import Derived.Test.YtjgddjmgcffjfaaDoorCards
import Derived.Test.YtjgddjmgcffjfaaDoorTie
import Derived.Test.YtjgddjmgcffjfaaDoorPFnExactOutText0
import Derived.Test.YtjgddjmgcffjfaaDoorPureFnExactOutText
import Derived.SevenTiedAt
import Derived.LaidMore
import Derived.Lay
import Derived.WalkKit
import Derived.ProofKit
import Derived.OpenShut
import Derived.ShutString
import Derived.ChangeOld
import Derived.Below
import Derived.SizedLaws
set_option linter.unusedVariables false
namespace Go.Proofs.YtjgddjmgcffjfaaDoor.fnExactOutText
open Go.ChangeShapes Go.WideShapes Go.ChangeAt Go.RowKit Go.Proofs.YtjgddjmgcffjfaaDoor.E
open Go.ChangeMaps (open_string shut_string)
theorem and_mk {a b : Bool} (h : a = true) (k : b = true) : (a && b) = true := by rw [h, k]; rfl
set_option maxRecDepth 100000 in
theorem closed : joinedFacts Tryd.prog 5 Tryd.f5 Rows.fnExactOutTextSpec Rows.fnExactOutTextRow = true := by
  unfold joinedFacts
  exact (and_mk (and_mk (and_mk (and_mk (and_mk (and_mk (and_mk (and_mk (and_mk (and_mk (and_mk (and_mk (and_mk (and_mk (and_mk (and_mk (and_mk (and_mk (and_mk (and_mk (and_mk (and_mk (and_mk (and_mk (and_mk (and_mk (and_mk (and_mk (and_mk (and_mk (and_mk k0 k1) k2) k3) k4) k5) k6) k7) k8) k9) k10) k11) k12) k13) k14) k15) k16) k17) k18) k19) k20) k21) k22) k23) k24) k25) k26) k27) k28) k29) k30) k31 : (Rows.fnExactOutTextRow.wf (OpenSpec.ofChange Rows.fnExactOutTextSpec) && laidOutB Tryd.prog && mapsRowed Tryd.prog && Tryd.f5.params.all (Tryd.prog.readableRec ·) && namedTie Tryd.prog Rows.fnExactOutTextRow.named Rows.fnExactOutTextSpec.vars && (Rows.fnExactOutTextRow.stops == []) && (Tryd.prog.stops == []) && (Rows.fnExactOutTextRow.knobs == []) && (Tryd.prog.stopKnobs == []) && (Rows.fnExactOutTextRow.inPlace == Tryd.prog.inPlace 5) && (Rows.fnExactOutTextRow.unfollowed == Tryd.prog.unfollowed 5) && (Rows.fnExactOutTextRow.recurses == Tryd.prog.recurses 5) && (Rows.fnExactOutTextRow.named == Tryd.prog.varsNamed 5) && (Rows.fnExactOutTextRow.maps == (Tryd.f5.params.toList ++ Rows.fnExactOutTextSpec.plain.varTypes Tryd.prog).any (Tryd.prog.mapsRec ·)) && (Rows.fnExactOutTextRow.ifaces == (Tryd.f5.params.toList ++ Rows.fnExactOutTextSpec.plain.varTypes Tryd.prog).any (Tryd.prog.ifacesRec ·)) && (Rows.fnExactOutTextRow.mapsOut == Tryd.prog.mapsAmong Tryd.f5.resultTypes.toList) && (Rows.fnExactOutTextRow.loops == (Tryd.f5.params.toList ++ Rows.fnExactOutTextSpec.plain.varTypes Tryd.prog).any (Tryd.prog.loopsFrom ·)) && (Rows.fnExactOutTextRow.wideKeys == (Tryd.f5.params.toList ++ Rows.fnExactOutTextSpec.plain.varTypes Tryd.prog ++ Tryd.f5.resultTypes.toList).any (Tryd.prog.wideKeysFrom ·)) && Rows.fnExactOutTextSpec.vars.all (Tryd.prog.varReadable ·) && Tryd.f5.resultTypes.all (fun t => Tryd.prog.readableRec t && decide (t < Tryd.prog.types.size)) && (Rows.fnExactOutTextRow.ifacesOut == Tryd.f5.resultTypes.toList.any (Tryd.prog.ifacesRec ·)) && (Rows.fnExactOutTextRow.loopsOut == Tryd.f5.resultTypes.toList.any (Tryd.prog.loopsFrom ·)) && (Rows.fnExactOutTextRow.plainKeys == Tryd.prog.plainKeys) && Rows.fnExactOutTextRow.shortTexts.isNone && Tryd.prog.stopsHeard && Tryd.prog.mayEnter && (Rows.fnExactOutTextRow.lifted == Tryd.prog.liftsFinal) && (Tryd.prog.make == some Rows.fnExactOutTextRow.make) && (Rows.fnExactOutTextRow.kinds == (if Rows.fnExactOutTextRow.domain.isEmpty then [] else Tryd.f5.params.toList.map fun t => match Tryd.prog.underlying t with | some (.int k) => some k | _ => none)) && (Rows.fnExactOutTextRow.pinned == Rows.fnExactOutTextRow.pinnedBy) && (Rows.fnExactOutTextRow.veiled == (Tryd.f5.params.toList ++ Rows.fnExactOutTextSpec.plain.varTypes Tryd.prog ++ Tryd.f5.resultTypes.toList).any (Tryd.prog.veiledRec ·)) && Rows.fnExactOutTextRow.veiledFits Tryd.prog Tryd.f5.params.toList (Tryd.f5.params.toList ++ Rows.fnExactOutTextSpec.plain.varTypes Tryd.prog ++ Tryd.f5.resultTypes.toList)) = true)
theorem named_ : Tryd.prog.funcNamed Rows.fnExactOutTextRow.func = some 5 := by kernel_rfl
theorem inst_ : Tryd.f5.isInstance Tryd.prog Rows.fnExactOutTextRow.origin Rows.fnExactOutTextRow.targs := of_decide_eq_true (by kernel_rfl)
theorem wrap_ : Tryd.f5.isWrapper Tryd.prog Rows.fnExactOutTextRow.wrapper Rows.fnExactOutTextRow.mainSum := by unfold Func.isWrapper; first | (rw [if_pos (by decide +kernel)]; kernel_rfl) | (rw [if_neg (by decide +kernel)]; exact ⟨rfl, rfl⟩)
theorem over : Rows.fnExactOutTextRow.holds Tryd.pinned (OpenSpec.ofChange Rows.fnExactOutTextSpec) :=
  OpenClaim.holds_of_wide 5 Tryd.f5 rfl rfl rfl rfl rfl rfl rfl ⟨rfl, rfl, rfl, rfl, rfl⟩ rfl rfl rfl rfl rfl named_ Tryd.func5 closed
    inst_ wrap_
    (fun os started H enc _ => lifted os started H enc)
theorem proved : Rows.FnExactOutTextSaid := over
end Go.Proofs.YtjgddjmgcffjfaaDoor.fnExactOutText
