/- The row of the law FnExactTreeOK: whatever the input, it returns true. Conditions: those of the row alone. -/
import Derived.Test.YtjgddjmgcffjfaaDoorLawAFnExactTreeOK
import Derived.Test.YtjgddjmgcffjfaaDoorLawF0FnExactTreeOK
import Derived.Test.YtjgddjmgcffjfaaDoorLawF1FnExactTreeOK
import Derived.Test.YtjgddjmgcffjfaaDoorLawF2FnExactTreeOK
import Derived.Test.YtjgddjmgcffjfaaDoorRows
import Derived.Test.YtjgddjmgcffjfaaDoorCards
import Derived.Test.YtjgddjmgcffjfaaDoorTie
import Derived.Test.YtjgddjmgcffjfaaDoorPFnExactTreeOK0
import Derived.Test.YtjgddjmgcffjfaaDoorPureFnExactTreeOK
import Derived.SevenTiedAt
import Derived.LaidMore
import Derived.Lay
import Derived.WalkKit
import Derived.ProofKit
import Derived.OpenShut
import Derived.ShutString
import Derived.ChangeOld
import Derived.Below
import Derived.SizedLaws
set_option linter.unusedVariables false
namespace Go.Proofs.YtjgddjmgcffjfaaDoor.fnExactTreeOK
open Go.ChangeShapes Go.WideShapes Go.ChangeAt Go.RowKit Go.Proofs.YtjgddjmgcffjfaaDoor.E
open Go.ChangeMaps (open_string shut_string)
theorem and_mk {a b : Bool} (h : a = true) (k : b = true) : (a && b) = true := by rw [h, k]; rfl
set_option maxRecDepth 100000 in
theorem closed : joinedFacts Tryd.prog 4 Tryd.f4 Rows.fnExactTreeOKSpec Rows.fnExactTreeOKRow = true := by
  unfold joinedFacts
  exact (and_mk (and_mk (and_mk (and_mk (and_mk (and_mk (and_mk (and_mk (and_mk (and_mk (and_mk (and_mk (and_mk (and_mk (and_mk (and_mk (and_mk (and_mk (and_mk (and_mk (and_mk (and_mk (and_mk (and_mk (and_mk (and_mk (and_mk (and_mk (and_mk (and_mk (and_mk k0 k1) k2) k3) k4) k5) k6) k7) k8) k9) k10) k11) k12) k13) k14) k15) k16) k17) k18) k19) k20) k21) k22) k23) k24) k25) k26) k27) k28) k29) k30) k31 : (Rows.fnExactTreeOKRow.wf (OpenSpec.ofChange Rows.fnExactTreeOKSpec) && laidOutB Tryd.prog && mapsRowed Tryd.prog && Tryd.f4.params.all (Tryd.prog.readableRec ·) && namedTie Tryd.prog Rows.fnExactTreeOKRow.named Rows.fnExactTreeOKSpec.vars && (Rows.fnExactTreeOKRow.stops == []) && (Tryd.prog.stops == []) && (Rows.fnExactTreeOKRow.knobs == []) && (Tryd.prog.stopKnobs == []) && (Rows.fnExactTreeOKRow.inPlace == Tryd.prog.inPlace 4) && (Rows.fnExactTreeOKRow.unfollowed == Tryd.prog.unfollowed 4) && (Rows.fnExactTreeOKRow.recurses == Tryd.prog.recurses 4) && (Rows.fnExactTreeOKRow.named == Tryd.prog.varsNamed 4) && (Rows.fnExactTreeOKRow.maps == (Tryd.f4.params.toList ++ Rows.fnExactTreeOKSpec.plain.varTypes Tryd.prog).any (Tryd.prog.mapsRec ·)) && (Rows.fnExactTreeOKRow.ifaces == (Tryd.f4.params.toList ++ Rows.fnExactTreeOKSpec.plain.varTypes Tryd.prog).any (Tryd.prog.ifacesRec ·)) && (Rows.fnExactTreeOKRow.mapsOut == Tryd.prog.mapsAmong Tryd.f4.resultTypes.toList) && (Rows.fnExactTreeOKRow.loops == (Tryd.f4.params.toList ++ Rows.fnExactTreeOKSpec.plain.varTypes Tryd.prog).any (Tryd.prog.loopsFrom ·)) && (Rows.fnExactTreeOKRow.wideKeys == (Tryd.f4.params.toList ++ Rows.fnExactTreeOKSpec.plain.varTypes Tryd.prog ++ Tryd.f4.resultTypes.toList).any (Tryd.prog.wideKeysFrom ·)) && Rows.fnExactTreeOKSpec.vars.all (Tryd.prog.varReadable ·) && Tryd.f4.resultTypes.all (fun t => Tryd.prog.readableRec t && decide (t < Tryd.prog.types.size)) && (Rows.fnExactTreeOKRow.ifacesOut == Tryd.f4.resultTypes.toList.any (Tryd.prog.ifacesRec ·)) && (Rows.fnExactTreeOKRow.loopsOut == Tryd.f4.resultTypes.toList.any (Tryd.prog.loopsFrom ·)) && (Rows.fnExactTreeOKRow.plainKeys == Tryd.prog.plainKeys) && Rows.fnExactTreeOKRow.shortTexts.isNone && Tryd.prog.stopsHeard && Tryd.prog.mayEnter && (Rows.fnExactTreeOKRow.lifted == Tryd.prog.liftsFinal) && (Tryd.prog.make == some Rows.fnExactTreeOKRow.make) && (Rows.fnExactTreeOKRow.kinds == (if Rows.fnExactTreeOKRow.domain.isEmpty then [] else Tryd.f4.params.toList.map fun t => match Tryd.prog.underlying t with | some (.int k) => some k | _ => none)) && (Rows.fnExactTreeOKRow.pinned == Rows.fnExactTreeOKRow.pinnedBy) && (Rows.fnExactTreeOKRow.veiled == (Tryd.f4.params.toList ++ Rows.fnExactTreeOKSpec.plain.varTypes Tryd.prog ++ Tryd.f4.resultTypes.toList).any (Tryd.prog.veiledRec ·)) && Rows.fnExactTreeOKRow.veiledFits Tryd.prog Tryd.f4.params.toList (Tryd.f4.params.toList ++ Rows.fnExactTreeOKSpec.plain.varTypes Tryd.prog ++ Tryd.f4.resultTypes.toList)) = true)
theorem named_ : Tryd.prog.funcNamed Rows.fnExactTreeOKRow.func = some 4 := by kernel_rfl
theorem inst_ : Tryd.f4.isInstance Tryd.prog Rows.fnExactTreeOKRow.origin Rows.fnExactTreeOKRow.targs := of_decide_eq_true (by kernel_rfl)
theorem wrap_ : Tryd.f4.isWrapper Tryd.prog Rows.fnExactTreeOKRow.wrapper Rows.fnExactTreeOKRow.mainSum := by unfold Func.isWrapper; first | (rw [if_pos (by decide +kernel)]; kernel_rfl) | (rw [if_neg (by decide +kernel)]; exact ⟨rfl, rfl⟩)
theorem over : Rows.fnExactTreeOKRow.holds Tryd.pinned (OpenSpec.ofChange Rows.fnExactTreeOKSpec) :=
  OpenClaim.holds_of_wide 4 Tryd.f4 rfl rfl rfl rfl rfl rfl rfl ⟨rfl, rfl, rfl, rfl, rfl⟩ rfl rfl rfl rfl rfl named_ Tryd.func4 closed
    inst_ wrap_
    (fun os started H enc _ => lifted os started H enc)
theorem proved : Rows.FnExactTreeOKSaid := over
end Go.Proofs.YtjgddjmgcffjfaaDoor.fnExactTreeOK
