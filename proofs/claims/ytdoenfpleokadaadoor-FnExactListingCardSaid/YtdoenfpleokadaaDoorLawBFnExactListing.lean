/- The row of the law FnExactListing: whatever the input, it returns true. Conditions: those of the row alone. -/
import Derived.Test.YtdoenfpleokadaaDoorLawAFnExactListing
import Derived.Test.YtdoenfpleokadaaDoorLawF0FnExactListing
import Derived.Test.YtdoenfpleokadaaDoorLawF1FnExactListing
import Derived.Test.YtdoenfpleokadaaDoorLawF2FnExactListing
import Derived.Test.YtdoenfpleokadaaDoorRows
import Derived.Test.YtdoenfpleokadaaDoorCards
import Derived.Test.YtdoenfpleokadaaDoorTie
import Derived.Test.YtdoenfpleokadaaDoorPFnExactListing1
import Derived.Test.YtdoenfpleokadaaDoorPureFnExactListing
import Derived.SevenTiedAt
import Derived.LaidMore
import Derived.WalkKit
import Derived.ProofKit
import Derived.OpenShut
import Derived.ShutString
import Derived.ChangeOld
import Derived.Below
import Derived.SizedLaws
set_option linter.unusedVariables false
namespace Go.Proofs.YtdoenfpleokadaaDoor.fnExactListing
open Go.ChangeShapes Go.WideShapes Go.ChangeAt Go.RowKit Go.Proofs.YtdoenfpleokadaaDoor.E
open Go.ChangeMaps (open_string shut_string)
theorem and_mk {a b : Bool} (h : a = true) (k : b = true) : (a && b) = true := by rw [h, k]; rfl
set_option maxRecDepth 100000 in
theorem closed : joinedFacts Tryd.prog 4 Tryd.f4 Rows.fnExactListingSpec Rows.fnExactListingRow = true := by
  unfold joinedFacts
  exact (and_mk (and_mk (and_mk (and_mk (and_mk (and_mk (and_mk (and_mk (and_mk (and_mk (and_mk (and_mk (and_mk (and_mk (and_mk (and_mk (and_mk (and_mk (and_mk (and_mk (and_mk (and_mk (and_mk (and_mk (and_mk (and_mk (and_mk (and_mk (and_mk (and_mk (and_mk k0 k1) k2) k3) k4) k5) k6) k7) k8) k9) k10) k11) k12) k13) k14) k15) k16) k17) k18) k19) k20) k21) k22) k23) k24) k25) k26) k27) k28) k29) k30) k31 : (Rows.fnExactListingRow.wf (OpenSpec.ofChange Rows.fnExactListingSpec) && laidOutB Tryd.prog && mapsRowed Tryd.prog && Tryd.f4.params.all (Tryd.prog.readableRec ·) && namedTie Tryd.prog Rows.fnExactListingRow.named Rows.fnExactListingSpec.vars && (Rows.fnExactListingRow.stops == []) && (Tryd.prog.stops == []) && (Rows.fnExactListingRow.knobs == []) && (Tryd.prog.stopKnobs == []) && (Rows.fnExactListingRow.inPlace == Tryd.prog.inPlace 4) && (Rows.fnExactListingRow.unfollowed == Tryd.prog.unfollowed 4) && (Rows.fnExactListingRow.recurses == Tryd.prog.recurses 4) && (Rows.fnExactListingRow.named == Tryd.prog.varsNamed 4) && (Rows.fnExactListingRow.maps == (Tryd.f4.params.toList ++ Rows.fnExactListingSpec.plain.varTypes Tryd.prog).any (Tryd.prog.mapsRec ·)) && (Rows.fnExactListingRow.ifaces == (Tryd.f4.params.toList ++ Rows.fnExactListingSpec.plain.varTypes Tryd.prog).any (Tryd.prog.ifacesRec ·)) && (Rows.fnExactListingRow.mapsOut == Tryd.prog.mapsAmong Tryd.f4.resultTypes.toList) && (Rows.fnExactListingRow.loops == (Tryd.f4.params.toList ++ Rows.fnExactListingSpec.plain.varTypes Tryd.prog).any (Tryd.prog.loopsFrom ·)) && (Rows.fnExactListingRow.wideKeys == (Tryd.f4.params.toList ++ Rows.fnExactListingSpec.plain.varTypes Tryd.prog ++ Tryd.f4.resultTypes.toList).any (Tryd.prog.wideKeysFrom ·)) && Rows.fnExactListingSpec.vars.all (Tryd.prog.varReadable ·) && Tryd.f4.resultTypes.all (fun t => Tryd.prog.readableRec t && decide (t < Tryd.prog.types.size)) && (Rows.fnExactListingRow.ifacesOut == Tryd.f4.resultTypes.toList.any (Tryd.prog.ifacesRec ·)) && (Rows.fnExactListingRow.loopsOut == Tryd.f4.resultTypes.toList.any (Tryd.prog.loopsFrom ·)) && (Rows.fnExactListingRow.plainKeys == Tryd.prog.plainKeys) && Rows.fnExactListingRow.shortTexts.isNone && Tryd.prog.stopsHeard && Tryd.prog.mayEnter && (Rows.fnExactListingRow.lifted == Tryd.prog.liftsFinal) && (Tryd.prog.make == some Rows.fnExactListingRow.make) && (Rows.fnExactListingRow.kinds == (if Rows.fnExactListingRow.domain.isEmpty then [] else Tryd.f4.params.toList.map fun t => match Tryd.prog.underlying t with | some (.int k) => some k | _ => none)) && (Rows.fnExactListingRow.pinned == Rows.fnExactListingRow.pinnedBy) && (Rows.fnExactListingRow.veiled == (Tryd.f4.params.toList ++ Rows.fnExactListingSpec.plain.varTypes Tryd.prog ++ Tryd.f4.resultTypes.toList).any (Tryd.prog.veiledRec ·)) && Rows.fnExactListingRow.veiledFits Tryd.prog Tryd.f4.params.toList (Tryd.f4.params.toList ++ Rows.fnExactListingSpec.plain.varTypes Tryd.prog ++ Tryd.f4.resultTypes.toList)) = true)
theorem named_ : Tryd.prog.funcNamed Rows.fnExactListingRow.func = some 4 := by kernel_rfl
theorem inst_ : Tryd.f4.isInstance Tryd.prog Rows.fnExactListingRow.origin Rows.fnExactListingRow.targs := of_decide_eq_true (by kernel_rfl)
theorem wrap_ : Tryd.f4.isWrapper Tryd.prog Rows.fnExactListingRow.wrapper Rows.fnExactListingRow.mainSum := by unfold Func.isWrapper; first | (rw [if_pos (by decide +kernel)]; kernel_rfl) | (rw [if_neg (by decide +kernel)]; exact ⟨rfl, rfl⟩)
theorem over : Rows.fnExactListingRow.holds Tryd.pinned (OpenSpec.ofChange Rows.fnExactListingSpec) :=
  OpenClaim.holds_of_wide 4 Tryd.f4 rfl rfl rfl rfl rfl rfl rfl ⟨rfl, rfl, rfl, rfl, rfl⟩ rfl rfl rfl rfl rfl named_ Tryd.func4 closed
    inst_ wrap_
    (fun os started H enc _ => lifted os started H enc)
theorem proved : Rows.FnExactListingSaid := over
end Go.Proofs.YtdoenfpleokadaaDoor.fnExactListing
