/- The row of the law FnExactObjectBytes: whatever the input, it returns true. Conditions: those of the row alone. -/
import Derived.Test.YtoclajfeeebbbacGreatDoorLawBFnExactObjectBytes
import Derived.Test.YtoclajfeeebbbacGreatDoorRows
import Derived.Test.YtoclajfeeebbbacGreatDoorCards
import Derived.Test.YtoclajfeeebbbacGreatDoorTie
import Derived.Test.YtoclajfeeebbbacGreatDoorZFnExactObjectBytes
import Derived.Test.YtoclajfeeebbbacGreatDoorPureFnExactObjectBytes
import Derived.SevenTiedAt
import Derived.LaidMore
import Derived.Lay
import Derived.WalkKit
import Derived.ProofKit
import Derived.OpenShut
import Derived.ShutString
import Derived.ChangeOld
import Derived.Below
import Derived.SizedLaws
set_option linter.unusedVariables false
namespace Go.Proofs.YtoclajfeeebbbacGreatDoor.fnExactObjectBytes
open Go.ChangeShapes Go.WideShapes Go.ChangeAt Go.RowKit Go.Proofs.YtoclajfeeebbbacGreatDoor.E
open Go.ChangeMaps (open_string shut_string)
/-- The tied card. -/
theorem card_w : Rows.fnExactObjectBytesRow.wfByText (OpenSpec.ofChange Rows.fnExactObjectBytesSpec) = true := by kernel_rfl
theorem card_m : Tryz.prog.mainIs = some ((true, "26012edd1741000c2744d83bf8c6096afeecddf6bfd53309630bc8a5eb36e808").1, (true, "26012edd1741000c2744d83bf8c6096afeecddf6bfd53309630bc8a5eb36e808").2.toList) := by kernel_rfl
theorem card_f : Tryz.prog.funcNamed "loop.example/g00168/laws.FnExactObjectBytes" = some 3 := by kernel_rfl
theorem card_l : false = Tryz.prog.looks [] := by kernel_rfl
theorem card_s : ([26].all fun u => !Tryz.prog.wantsStandIn u) = true := by kernel_rfl
theorem card_g : false = Rows.fnExactObjectBytesRow.goesBy Tryz.prog := by kernel_rfl
theorem card : Rows.FnExactObjectBytesCardSaid :=
  Claim7.holds_tied_plain_at .later [] [.listed, .data] true (true, "26012edd1741000c2744d83bf8c6096afeecddf6bfd53309630bc8a5eb36e808") false
    proved (fun _ h => by cases h) card_w (fun _ h => by cases h) fnExactObjectBytes_row_tie rfl ⟨rfl, rfl⟩ card_m rfl
    (fun f fn hf hfn => by
      obtain rfl : f = 3 := Option.some.inj (card_f.symm.trans hf) |>.symm
      obtain rfl : fn = Tryz.f3 := (Option.some.inj (Tryz.func3.symm.trans hfn)).symm
      exact ⟨card_l, fun j t ht => by
        rw [Tryz.params3] at ht
        have hm : t ∈ [26] := by simpa using Array.mem_of_getElem? ht
        exact (show Tryz.prog.wantsStandIn t = false by simpa using List.all_eq_true.1 card_s t hm)⟩)
    card_g
#print axioms card
end Go.Proofs.YtoclajfeeebbbacGreatDoor.fnExactObjectBytes
namespace Go.Proofs.YtoclajfeeebbbacGreatDoor
/-- The row, under a short name, for the claim. -/
theorem fnExactObjectBytes_holds : Rows.FnExactObjectBytesCardSaid := fnExactObjectBytes.card
end Go.Proofs.YtoclajfeeebbbacGreatDoor
