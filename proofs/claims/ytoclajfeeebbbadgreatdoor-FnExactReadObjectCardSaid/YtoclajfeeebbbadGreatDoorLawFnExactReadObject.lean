/- The row of the law FnExactReadObject: whatever the input, it returns true. Conditions: those of the row alone. -/
import Derived.Test.YtoclajfeeebbbadGreatDoorLawBFnExactReadObject
import Derived.Test.YtoclajfeeebbbadGreatDoorRows
import Derived.Test.YtoclajfeeebbbadGreatDoorCards
import Derived.Test.YtoclajfeeebbbadGreatDoorTie
import Derived.Test.YtoclajfeeebbbadGreatDoorZFnExactReadObject
import Derived.Test.YtoclajfeeebbbadGreatDoorPureFnExactReadObject
import Derived.SevenTiedAt
import Derived.LaidMore
import Derived.Lay
import Derived.WalkKit
import Derived.ProofKit
import Derived.OpenShut
import Derived.ShutString
import Derived.ChangeOld
import Derived.Below
import Derived.SizedLaws
set_option linter.unusedVariables false
namespace Go.Proofs.YtoclajfeeebbbadGreatDoor.fnExactReadObject
open Go.ChangeShapes Go.WideShapes Go.ChangeAt Go.RowKit Go.Proofs.YtoclajfeeebbbadGreatDoor.E
open Go.ChangeMaps (open_string shut_string)
/-- The tied card. -/
theorem card_w : Rows.fnExactReadObjectRow.wfByText (OpenSpec.ofChange Rows.fnExactReadObjectSpec) = true := by kernel_rfl
theorem card_m : Tryz.prog.mainIs = some ((true, "bd4fbebb202c8c1b1be4724e5376e92b6f218d4562c7e3b8adfad629f6ec2fca").1, (true, "bd4fbebb202c8c1b1be4724e5376e92b6f218d4562c7e3b8adfad629f6ec2fca").2.toList) := by kernel_rfl
theorem card_f : Tryz.prog.funcNamed "loop.example/g00168/laws.FnExactReadObject" = some 3 := by kernel_rfl
theorem card_l : false = Tryz.prog.looks [] := by kernel_rfl
theorem card_s : ([22].all fun u => !Tryz.prog.wantsStandIn u) = true := by kernel_rfl
theorem card_g : false = Rows.fnExactReadObjectRow.goesBy Tryz.prog := by kernel_rfl
theorem card : Rows.FnExactReadObjectCardSaid :=
  Claim7.holds_tied_plain_at .later [] [.listed, .data] true (true, "bd4fbebb202c8c1b1be4724e5376e92b6f218d4562c7e3b8adfad629f6ec2fca") false
    proved (fun _ h => by cases h) card_w (fun _ h => by cases h) fnExactReadObject_row_tie rfl ⟨rfl, rfl⟩ card_m rfl
    (fun f fn hf hfn => by
      obtain rfl : f = 3 := Option.some.inj (card_f.symm.trans hf) |>.symm
      obtain rfl : fn = Tryz.f3 := (Option.some.inj (Tryz.func3.symm.trans hfn)).symm
      exact ⟨card_l, fun j t ht => by
        rw [Tryz.params3] at ht
        have hm : t ∈ [22] := by simpa using Array.mem_of_getElem? ht
        exact (show Tryz.prog.wantsStandIn t = false by simpa using List.all_eq_true.1 card_s t hm)⟩)
    card_g
#print axioms card
end Go.Proofs.YtoclajfeeebbbadGreatDoor.fnExactReadObject
namespace Go.Proofs.YtoclajfeeebbbadGreatDoor
/-- The row, under a short name, for the claim. -/
theorem fnExactReadObject_holds : Rows.FnExactReadObjectCardSaid := fnExactReadObject.card
end Go.Proofs.YtoclajfeeebbbadGreatDoor
