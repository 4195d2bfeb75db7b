/- The row of the law FnExactReadInterface: whatever the input, it returns true. Conditions: those of the row alone. -/
import Derived.Test.YtoclajfeeebbbabGreatDoorLawBFnExactReadInterface
import Derived.Test.YtoclajfeeebbbabGreatDoorRows
import Derived.Test.YtoclajfeeebbbabGreatDoorCards
import Derived.Test.YtoclajfeeebbbabGreatDoorTie
import Derived.Test.YtoclajfeeebbbabGreatDoorZFnExactReadInterface
import Derived.Test.YtoclajfeeebbbabGreatDoorPureFnExactReadInterface
import Derived.SevenTiedAt
import Derived.LaidMore
import Derived.Lay
import Derived.WalkKit
import Derived.ProofKit
import Derived.OpenShut
import Derived.ShutString
import Derived.ChangeOld
import Derived.Below
import Derived.SizedLaws
set_option linter.unusedVariables false
namespace Go.Proofs.YtoclajfeeebbbabGreatDoor.fnExactReadInterface
open Go.ChangeShapes Go.WideShapes Go.ChangeAt Go.RowKit Go.Proofs.YtoclajfeeebbbabGreatDoor.E
open Go.ChangeMaps (open_string shut_string)
/-- The tied card. -/
theorem card_w : Rows.fnExactReadInterfaceRow.wfByText (OpenSpec.ofChange Rows.fnExactReadInterfaceSpec) = true := by kernel_rfl
theorem card_m : Tryz.prog.mainIs = some ((true, "2059b04d7164962b55cd244c1ec26a4aa38258c9c08b135d2a5f750dcf7243ea").1, (true, "2059b04d7164962b55cd244c1ec26a4aa38258c9c08b135d2a5f750dcf7243ea").2.toList) := by kernel_rfl
theorem card_f : Tryz.prog.funcNamed "loop.example/g00168/laws.FnExactReadInterface" = some 3 := by kernel_rfl
theorem card_l : false = Tryz.prog.looks [] := by kernel_rfl
theorem card_s : ([22].all fun u => !Tryz.prog.wantsStandIn u) = true := by kernel_rfl
theorem card_g : false = Rows.fnExactReadInterfaceRow.goesBy Tryz.prog := by kernel_rfl
theorem card : Rows.FnExactReadInterfaceCardSaid :=
  Claim7.holds_tied_plain_at .later [] [.listed, .data] true (true, "2059b04d7164962b55cd244c1ec26a4aa38258c9c08b135d2a5f750dcf7243ea") false
    proved (fun _ h => by cases h) card_w (fun _ h => by cases h) fnExactReadInterface_row_tie rfl ⟨rfl, rfl⟩ card_m rfl
    (fun f fn hf hfn => by
      obtain rfl : f = 3 := Option.some.inj (card_f.symm.trans hf) |>.symm
      obtain rfl : fn = Tryz.f3 := (Option.some.inj (Tryz.func3.symm.trans hfn)).symm
      exact ⟨card_l, fun j t ht => by
        rw [Tryz.params3] at ht
        have hm : t ∈ [22] := by simpa using Array.mem_of_getElem? ht
        exact (show Tryz.prog.wantsStandIn t = false by simpa using List.all_eq_true.1 card_s t hm)⟩)
    card_g
#print axioms card
end Go.Proofs.YtoclajfeeebbbabGreatDoor.fnExactReadInterface
namespace Go.Proofs.YtoclajfeeebbbabGreatDoor
/-- The row, under a short name, for the claim. -/
theorem fnExactReadInterface_holds : Rows.FnExactReadInterfaceCardSaid := fnExactReadInterface.card
end Go.Proofs.YtoclajfeeebbbabGreatDoor
