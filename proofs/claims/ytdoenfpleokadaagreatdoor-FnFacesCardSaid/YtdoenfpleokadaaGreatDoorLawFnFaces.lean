/- The row of the law FnFaces: whatever the input, it returns true. Conditions: those of the row alone. -/
import Derived.Test.YtdoenfpleokadaaGreatDoorLawBFnFaces
import Derived.Test.YtdoenfpleokadaaGreatDoorRows
import Derived.Test.YtdoenfpleokadaaGreatDoorCards
import Derived.Test.YtdoenfpleokadaaGreatDoorTie
import Derived.Test.YtdoenfpleokadaaGreatDoorPFnFaces1
import Derived.Test.YtdoenfpleokadaaGreatDoorPureFnFaces
import Derived.SevenTiedAt
import Derived.LaidMore
import Derived.WalkKit
import Derived.ProofKit
import Derived.OpenShut
import Derived.ShutString
import Derived.ChangeOld
import Derived.Below
import Derived.SizedLaws
set_option linter.unusedVariables false
namespace Go.Proofs.YtdoenfpleokadaaGreatDoor.fnFaces
open Go.ChangeShapes Go.WideShapes Go.ChangeAt Go.RowKit Go.Proofs.YtdoenfpleokadaaGreatDoor.E
open Go.ChangeMaps (open_string shut_string)
/-- The tied card. -/
theorem card_w : Rows.fnFacesRow.wfByText (OpenSpec.ofChange Rows.fnFacesSpec) = true := by kernel_rfl
theorem card_m : Tryz.prog.mainIs = some ((true, "c27e6c5f4a7e5cb11291a0bf7f09e01b6a6c71f7fc140c21b1bb9b6b22f9f001").1, (true, "c27e6c5f4a7e5cb11291a0bf7f09e01b6a6c71f7fc140c21b1bb9b6b22f9f001").2.toList) := by kernel_rfl
theorem card_f : Tryz.prog.funcNamed "loop.example/g00168/laws.FnFaces" = some 11 := by kernel_rfl
theorem card_l : false = Tryz.prog.looks [] := by kernel_rfl
theorem card_s : ([34, 34].all fun u => !Tryz.prog.wantsStandIn u) = true := by kernel_rfl
theorem card_g : false = Rows.fnFacesRow.goesBy Tryz.prog := by kernel_rfl
theorem card : Rows.FnFacesCardSaid :=
  Claim7.holds_tied_plain_at .later [] [.listed, .data] true (true, "c27e6c5f4a7e5cb11291a0bf7f09e01b6a6c71f7fc140c21b1bb9b6b22f9f001") false
    proved (fun _ h => by cases h) card_w (fun _ h => by cases h) fnFaces_row_tie rfl ⟨rfl, rfl⟩ card_m rfl
    (fun f fn hf hfn => by
      obtain rfl : f = 11 := Option.some.inj (card_f.symm.trans hf) |>.symm
      obtain rfl : fn = Tryz.f11 := (Option.some.inj (Tryz.func11.symm.trans hfn)).symm
      exact ⟨card_l, fun j t ht => by
        rw [Tryz.params11] at ht
        have hm : t ∈ [34, 34] := by simpa using Array.mem_of_getElem? ht
        exact (show Tryz.prog.wantsStandIn t = false by simpa using List.all_eq_true.1 card_s t hm)⟩)
    card_g
#print axioms card
end Go.Proofs.YtdoenfpleokadaaGreatDoor.fnFaces
namespace Go.Proofs.YtdoenfpleokadaaGreatDoor
/-- The row, under a short name, for the claim. -/
theorem fnFaces_holds : Rows.FnFacesCardSaid := fnFaces.card
end Go.Proofs.YtdoenfpleokadaaGreatDoor
