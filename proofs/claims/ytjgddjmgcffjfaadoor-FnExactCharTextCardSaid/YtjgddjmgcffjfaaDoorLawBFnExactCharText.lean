/- The row of the law FnExactCharText: whatever the input, it returns true. Conditions: those of the row alone. -/
import Derived.Test.YtjgddjmgcffjfaaDoorLawAFnExactCharText
import Derived.Test.YtjgddjmgcffjfaaDoorLawF0FnExactCharText
import Derived.Test.YtjgddjmgcffjfaaDoorLawF1FnExactCharText
import Derived.Test.YtjgddjmgcffjfaaDoorLawF2FnExactCharText
import Derived.Test.YtjgddjmgcffjfaaDoorRows
import Derived.Test.YtjgddjmgcffjfaaDoorCards
import Derived.Test.YtjgddjmgcffjfaaDoorTie
import Derived.Test.YtjgddjmgcffjfaaDoorPFnExactCharText0
import Derived.Test.YtjgddjmgcffjfaaDoorPureFnExactCharText
import Derived.SevenTiedAt
import Derived.LaidMore
import Derived.Lay
import Derived.WalkKit
import Derived.ProofKit
import Derived.OpenShut
import Derived.ShutString
import Derived.ChangeOld
import Derived.Below
import Derived.SizedLaws
set_option linter.unusedVariables false
namespace Go.Proofs.YtjgddjmgcffjfaaDoor.fnExactCharText
open Go.ChangeShapes Go.WideShapes Go.ChangeAt Go.RowKit Go.Proofs.YtjgddjmgcffjfaaDoor.E
open Go.ChangeMaps (open_string shut_string)
theorem and_mk {a b : Bool} (h : a = true) (k : b = true) : (a && b) = true := by rw [h, k]; rfl
set_option maxRecDepth 100000 in
theorem closed : joinedFacts Tryd.prog 3 Tryd.f3 Rows.fnExactCharTextSpec Rows.fnExactCharTextRow = true := by
  unfold joinedFacts
  exact (and_mk (and_mk (and_mk (and_mk (and_mk (and_mk (and_mk (and_mk (and_mk (and_mk (and_mk (and_mk (and_mk (and_mk (and_mk (and_mk (and_mk (and_mk (and_mk (and_mk (and_mk (and_mk (and_mk (and_mk (and_mk (and_mk (and_mk (and_mk (and_mk (and_mk (and_mk k0 k1) k2) k3) k4) k5) k6) k7) k8) k9) k10) k11) k12) k13) k14) k15) k16) k17) k18) k19) k20) k21) k22) k23) k24) k25) k26) k27) k28) k29) k30) k31 : (Rows.fnExactCharTextRow.wf (OpenSpec.ofChange Rows.fnExactCharTextSpec) && laidOutB Tryd.prog && mapsRowed Tryd.prog && Tryd.f3.params.all (Tryd.prog.readableRec ·) && namedTie Tryd.prog Rows.fnExactCharTextRow.named Rows.fnExactCharTextSpec.vars && (Rows.fnExactCharTextRow.stops == []) && (Tryd.prog.stops == []) && (Rows.fnExactCharTextRow.knobs == []) && (Tryd.prog.stopKnobs == []) && (Rows.fnExactCharTextRow.inPlace == Tryd.prog.inPlace 3) && (Rows.fnExactCharTextRow.unfollowed == Tryd.prog.unfollowed 3) && (Rows.fnExactCharTextRow.recurses == Tryd.prog.recurses 3) && (Rows.fnExactCharTextRow.named == Tryd.prog.varsNamed 3) && (Rows.fnExactCharTextRow.maps == (Tryd.f3.params.toList ++ Rows.fnExactCharTextSpec.plain.varTypes Tryd.prog).any (Tryd.prog.mapsRec ·)) && (Rows.fnExactCharTextRow.ifaces == (Tryd.f3.params.toList ++ Rows.fnExactCharTextSpec.plain.varTypes Tryd.prog).any (Tryd.prog.ifacesRec ·)) && (Rows.fnExactCharTextRow.mapsOut == Tryd.prog.mapsAmong Tryd.f3.resultTypes.toList) && (Rows.fnExactCharTextRow.loops == (Tryd.f3.params.toList ++ Rows.fnExactCharTextSpec.plain.varTypes Tryd.prog).any (Tryd.prog.loopsFrom ·)) && (Rows.fnExactCharTextRow.wideKeys == (Tryd.f3.params.toList ++ Rows.fnExactCharTextSpec.plain.varTypes Tryd.prog ++ Tryd.f3.resultTypes.toList).any (Tryd.prog.wideKeysFrom ·)) && Rows.fnExactCharTextSpec.vars.all (Tryd.prog.varReadable ·) && Tryd.f3.resultTypes.all (fun t => Tryd.prog.readableRec t && decide (t < Tryd.prog.types.size)) && (Rows.fnExactCharTextRow.ifacesOut == Tryd.f3.resultTypes.toList.any (Tryd.prog.ifacesRec ·)) && (Rows.fnExactCharTextRow.loopsOut == Tryd.f3.resultTypes.toList.any (Tryd.prog.loopsFrom ·)) && (Rows.fnExactCharTextRow.plainKeys == Tryd.prog.plainKeys) && Rows.fnExactCharTextRow.shortTexts.isNone && Tryd.prog.stopsHeard && Tryd.prog.mayEnter && (Rows.fnExactCharTextRow.lifted == Tryd.prog.liftsFinal) && (Tryd.prog.make == some Rows.fnExactCharTextRow.make) && (Rows.fnExactCharTextRow.kinds == (if Rows.fnExactCharTextRow.domain.isEmpty then [] else Tryd.f3.params.toList.map fun t => match Tryd.prog.underlying t with | some (.int k) => some k | _ => none)) && (Rows.fnExactCharTextRow.pinned == Rows.fnExactCharTextRow.pinnedBy) && (Rows.fnExactCharTextRow.veiled == (Tryd.f3.params.toList ++ Rows.fnExactCharTextSpec.plain.varTypes Tryd.prog ++ Tryd.f3.resultTypes.toList).any (Tryd.prog.veiledRec ·)) && Rows.fnExactCharTextRow.veiledFits Tryd.prog Tryd.f3.params.toList (Tryd.f3.params.toList ++ Rows.fnExactCharTextSpec.plain.varTypes Tryd.prog ++ Tryd.f3.resultTypes.toList)) = true)
theorem named_ : Tryd.prog.funcNamed Rows.fnExactCharTextRow.func = some 3 := by kernel_rfl
theorem inst_ : Tryd.f3.isInstance Tryd.prog Rows.fnExactCharTextRow.origin Rows.fnExactCharTextRow.targs := of_decide_eq_true (by kernel_rfl)
theorem wrap_ : Tryd.f3.isWrapper Tryd.prog Rows.fnExactCharTextRow.wrapper Rows.fnExactCharTextRow.mainSum := by unfold Func.isWrapper; first | (rw [if_pos (by decide +kernel)]; kernel_rfl) | (rw [if_neg (by decide +kernel)]; exact ⟨rfl, rfl⟩)
theorem over : Rows.fnExactCharTextRow.holds Tryd.pinned (OpenSpec.ofChange Rows.fnExactCharTextSpec) :=
  OpenClaim.holds_of_wide 3 Tryd.f3 rfl rfl rfl rfl rfl rfl rfl ⟨rfl, rfl, rfl, rfl, rfl⟩ rfl rfl rfl rfl rfl named_ Tryd.func3 closed
    inst_ wrap_
    (fun os started H enc _ => lifted os started H enc)
theorem proved : Rows.FnExactCharTextSaid := over
end Go.Proofs.YtjgddjmgcffjfaaDoor.fnExactCharText
