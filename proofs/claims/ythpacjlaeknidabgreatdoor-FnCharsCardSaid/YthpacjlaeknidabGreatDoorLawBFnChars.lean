/- The row of the law FnChars: whatever the input, it returns true. Conditions: those of the row alone. -/
import Derived.Test.YthpacjlaeknidabGreatDoorLawAFnChars
import Derived.Test.YthpacjlaeknidabGreatDoorLawF0FnChars
import Derived.Test.YthpacjlaeknidabGreatDoorLawF1FnChars
import Derived.Test.YthpacjlaeknidabGreatDoorLawF2FnChars
import Derived.Test.YthpacjlaeknidabGreatDoorRows
import Derived.Test.YthpacjlaeknidabGreatDoorCards
import Derived.Test.YthpacjlaeknidabGreatDoorTie
import Derived.Test.YthpacjlaeknidabGreatDoorPFnChars0
import Derived.Test.YthpacjlaeknidabGreatDoorPureFnChars
import Derived.SevenTiedAt
import Derived.LaidMore
import Derived.Lay
import Derived.WalkKit
import Derived.ProofKit
import Derived.OpenShut
import Derived.ShutString
import Derived.ChangeOld
import Derived.Below
import Derived.SizedLaws
set_option linter.unusedVariables false
namespace Go.Proofs.YthpacjlaeknidabGreatDoor.fnChars
open Go.ChangeShapes Go.WideShapes Go.ChangeAt Go.RowKit Go.Proofs.YthpacjlaeknidabGreatDoor.E
open Go.ChangeMaps (open_string shut_string)
theorem and_mk {a b : Bool} (h : a = true) (k : b = true) : (a && b) = true := by rw [h, k]; rfl
set_option maxRecDepth 100000 in
theorem closed : joinedFacts Tryz.prog 3 Tryz.f3 Rows.fnCharsSpec Rows.fnCharsRow = true := by
  unfold joinedFacts
  exact (and_mk (and_mk (and_mk (and_mk (and_mk (and_mk (and_mk (and_mk (and_mk (and_mk (and_mk (and_mk (and_mk (and_mk (and_mk (and_mk (and_mk (and_mk (and_mk (and_mk (and_mk (and_mk (and_mk (and_mk (and_mk (and_mk (and_mk (and_mk (and_mk (and_mk (and_mk k0 k1) k2) k3) k4) k5) k6) k7) k8) k9) k10) k11) k12) k13) k14) k15) k16) k17) k18) k19) k20) k21) k22) k23) k24) k25) k26) k27) k28) k29) k30) k31 : (Rows.fnCharsRow.wf (OpenSpec.ofChange Rows.fnCharsSpec) && laidOutB Tryz.prog && mapsRowed Tryz.prog && Tryz.f3.params.all (Tryz.prog.readableRec ·) && namedTie Tryz.prog Rows.fnCharsRow.named Rows.fnCharsSpec.vars && (Rows.fnCharsRow.stops == []) && (Tryz.prog.stops == []) && (Rows.fnCharsRow.knobs == []) && (Tryz.prog.stopKnobs == []) && (Rows.fnCharsRow.inPlace == Tryz.prog.inPlace 3) && (Rows.fnCharsRow.unfollowed == Tryz.prog.unfollowed 3) && (Rows.fnCharsRow.recurses == Tryz.prog.recurses 3) && (Rows.fnCharsRow.named == Tryz.prog.varsNamed 3) && (Rows.fnCharsRow.maps == (Tryz.f3.params.toList ++ Rows.fnCharsSpec.plain.varTypes Tryz.prog).any (Tryz.prog.mapsRec ·)) && (Rows.fnCharsRow.ifaces == (Tryz.f3.params.toList ++ Rows.fnCharsSpec.plain.varTypes Tryz.prog).any (Tryz.prog.ifacesRec ·)) && (Rows.fnCharsRow.mapsOut == Tryz.prog.mapsAmong Tryz.f3.resultTypes.toList) && (Rows.fnCharsRow.loops == (Tryz.f3.params.toList ++ Rows.fnCharsSpec.plain.varTypes Tryz.prog).any (Tryz.prog.loopsFrom ·)) && (Rows.fnCharsRow.wideKeys == (Tryz.f3.params.toList ++ Rows.fnCharsSpec.plain.varTypes Tryz.prog ++ Tryz.f3.resultTypes.toList).any (Tryz.prog.wideKeysFrom ·)) && Rows.fnCharsSpec.vars.all (Tryz.prog.varReadable ·) && Tryz.f3.resultTypes.all (fun t => Tryz.prog.readableRec t && decide (t < Tryz.prog.types.size)) && (Rows.fnCharsRow.ifacesOut == Tryz.f3.resultTypes.toList.any (Tryz.prog.ifacesRec ·)) && (Rows.fnCharsRow.loopsOut == Tryz.f3.resultTypes.toList.any (Tryz.prog.loopsFrom ·)) && (Rows.fnCharsRow.plainKeys == Tryz.prog.plainKeys) && Rows.fnCharsRow.shortTexts.isNone && Tryz.prog.stopsHeard && Tryz.prog.mayEnter && (Rows.fnCharsRow.lifted == Tryz.prog.liftsFinal) && (Tryz.prog.make == some Rows.fnCharsRow.make) && (Rows.fnCharsRow.kinds == (if Rows.fnCharsRow.domain.isEmpty then [] else Tryz.f3.params.toList.map fun t => match Tryz.prog.underlying t with | some (.int k) => some k | _ => none)) && (Rows.fnCharsRow.pinned == Rows.fnCharsRow.pinnedBy) && (Rows.fnCharsRow.veiled == (Tryz.f3.params.toList ++ Rows.fnCharsSpec.plain.varTypes Tryz.prog ++ Tryz.f3.resultTypes.toList).any (Tryz.prog.veiledRec ·)) && Rows.fnCharsRow.veiledFits Tryz.prog Tryz.f3.params.toList (Tryz.f3.params.toList ++ Rows.fnCharsSpec.plain.varTypes Tryz.prog ++ Tryz.f3.resultTypes.toList)) = true)
theorem named_ : Tryz.prog.funcNamed Rows.fnCharsRow.func = some 3 := by kernel_rfl
theorem inst_ : Tryz.f3.isInstance Tryz.prog Rows.fnCharsRow.origin Rows.fnCharsRow.targs := of_decide_eq_true (by kernel_rfl)
theorem wrap_ : Tryz.f3.isWrapper Tryz.prog Rows.fnCharsRow.wrapper Rows.fnCharsRow.mainSum := by unfold Func.isWrapper; first | (rw [if_pos (by decide +kernel)]; kernel_rfl) | (rw [if_neg (by decide +kernel)]; exact ⟨rfl, rfl⟩)
theorem over : Rows.fnCharsRow.holds Tryz.pinned (OpenSpec.ofChange Rows.fnCharsSpec) :=
  OpenClaim.holds_of_wide 3 Tryz.f3 rfl rfl rfl rfl rfl rfl rfl ⟨rfl, rfl, rfl, rfl, rfl⟩ rfl rfl rfl rfl rfl named_ Tryz.func3 closed
    inst_ wrap_
    (fun os started H enc _ => lifted os started H enc)
theorem proved : Rows.FnCharsSaid := over
end Go.Proofs.YthpacjlaeknidabGreatDoor.fnChars
