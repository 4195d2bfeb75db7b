/- The row of the law FnExactPrintOf: whatever the input, it returns true. Conditions: those of the row alone. -/
import Derived.Test.YtdoenfpleokadaaGreatDoorLawBFnExactPrintOf
import Derived.Test.YtdoenfpleokadaaGreatDoorRows
import Derived.Test.YtdoenfpleokadaaGreatDoorCards
import Derived.Test.YtdoenfpleokadaaGreatDoorTie
import Derived.Test.YtdoenfpleokadaaGreatDoorPFnExactPrintOf1
import Derived.Test.YtdoenfpleokadaaGreatDoorPureFnExactPrintOf
import Derived.SevenTiedAt
import Derived.LaidMore
import Derived.WalkKit
import Derived.ProofKit
import Derived.OpenShut
import Derived.ShutString
import Derived.ChangeOld
import Derived.Below
import Derived.SizedLaws
set_option linter.unusedVariables false
namespace Go.Proofs.YtdoenfpleokadaaGreatDoor.fnExactPrintOf
open Go.ChangeShapes Go.WideShapes Go.ChangeAt Go.RowKit Go.Proofs.YtdoenfpleokadaaGreatDoor.E
open Go.ChangeMaps (open_string shut_string)
/-- The tied card. -/
theorem card_w : Rows.fnExactPrintOfRow.wfByText (OpenSpec.ofChange Rows.fnExactPrintOfSpec) = true := by kernel_rfl
theorem card_m : Tryz.prog.mainIs = some ((true, "c27e6c5f4a7e5cb11291a0bf7f09e01b6a6c71f7fc140c21b1bb9b6b22f9f001").1, (true, "c27e6c5f4a7e5cb11291a0bf7f09e01b6a6c71f7fc140c21b1bb9b6b22f9f001").2.toList) := by kernel_rfl
theorem card_f : Tryz.prog.funcNamed "loop.example/g00168/laws.FnExactPrintOf" = some 3 := by kernel_rfl
theorem card_l : false = Tryz.prog.looks [] := by kernel_rfl
theorem card_s : ([24].all fun u => !Tryz.prog.wantsStandIn u) = true := by kernel_rfl
theorem card_g : false = Rows.fnExactPrintOfRow.goesBy Tryz.prog := by kernel_rfl
theorem card : Rows.FnExactPrintOfCardSaid :=
  Claim7.holds_tied_plain_at .later [] [.listed, .data] true (true, "c27e6c5f4a7e5cb11291a0bf7f09e01b6a6c71f7fc140c21b1bb9b6b22f9f001") false
    proved (fun _ h => by cases h) card_w (fun _ h => by cases h) fnExactPrintOf_row_tie rfl ⟨rfl, rfl⟩ card_m rfl
    (fun f fn hf hfn => by
      obtain rfl : f = 3 := Option.some.inj (card_f.symm.trans hf) |>.symm
      obtain rfl : fn = Tryz.f3 := (Option.some.inj (Tryz.func3.symm.trans hfn)).symm
      exact ⟨card_l, fun j t ht => by
        rw [Tryz.params3] at ht
        have hm : t ∈ [24] := by simpa using Array.mem_of_getElem? ht
        exact (show Tryz.prog.wantsStandIn t = false by simpa using List.all_eq_true.1 card_s t hm)⟩)
    card_g
#print axioms card
end Go.Proofs.YtdoenfpleokadaaGreatDoor.fnExactPrintOf
namespace Go.Proofs.YtdoenfpleokadaaGreatDoor
/-- The row, under a short name, for the claim. -/
theorem fnExactPrintOf_holds : Rows.FnExactPrintOfCardSaid := fnExactPrintOf.card
end Go.Proofs.YtdoenfpleokadaaGreatDoor
