/- The row of the law FnChars: whatever the input, it returns true. Conditions: those of the row alone. -/
import Derived.Test.YthpacjlaeknidabGreatDoorLawBFnChars
import Derived.Test.YthpacjlaeknidabGreatDoorRows
import Derived.Test.YthpacjlaeknidabGreatDoorCards
import Derived.Test.YthpacjlaeknidabGreatDoorTie
import Derived.Test.YthpacjlaeknidabGreatDoorPFnChars0
import Derived.Test.YthpacjlaeknidabGreatDoorPureFnChars
import Derived.SevenTiedAt
import Derived.LaidMore
import Derived.Lay
import Derived.WalkKit
import Derived.ProofKit
import Derived.OpenShut
import Derived.ShutString
import Derived.ChangeOld
import Derived.Below
import Derived.SizedLaws
set_option linter.unusedVariables false
namespace Go.Proofs.YthpacjlaeknidabGreatDoor.fnChars
open Go.ChangeShapes Go.WideShapes Go.ChangeAt Go.RowKit Go.Proofs.YthpacjlaeknidabGreatDoor.E
open Go.ChangeMaps (open_string shut_string)
/-- The tied card. -/
theorem card_w : Rows.fnCharsRow.wfByText (OpenSpec.ofChange Rows.fnCharsSpec) = true := by kernel_rfl
theorem card_m : Tryz.prog.mainIs = some ((true, "8a265c336c545bae9f91b4b75313c1c508bce62292ad523f0e9d250ebce4a288").1, (true, "8a265c336c545bae9f91b4b75313c1c508bce62292ad523f0e9d250ebce4a288").2.toList) := by kernel_rfl
theorem card_f : Tryz.prog.funcNamed "loop.example/g00168/laws.FnChars" = some 3 := by kernel_rfl
theorem card_l : true = Tryz.prog.looks [] := by kernel_rfl
theorem card_s : ([22].all fun u => !Tryz.prog.wantsStandIn u) = true := by kernel_rfl
theorem card_g : false = Rows.fnCharsRow.goesBy Tryz.prog := by kernel_rfl
theorem card : Rows.FnCharsCardSaid :=
  Claim7.holds_tied_plain_at .later [] [.data, .data, .data, .data, .sentinel, .sentinel, .listed, .data, .pinned, .pinned] true (true, "8a265c336c545bae9f91b4b75313c1c508bce62292ad523f0e9d250ebce4a288") true
    proved (fun _ h => by cases h) card_w (fun _ h => by cases h) fnChars_row_tie rfl ⟨rfl, rfl⟩ card_m rfl
    (fun f fn hf hfn => by
      obtain rfl : f = 3 := Option.some.inj (card_f.symm.trans hf) |>.symm
      obtain rfl : fn = Tryz.f3 := (Option.some.inj (Tryz.func3.symm.trans hfn)).symm
      exact ⟨card_l, fun j t ht => by
        rw [Tryz.params3] at ht
        have hm : t ∈ [22] := by simpa using Array.mem_of_getElem? ht
        exact (show Tryz.prog.wantsStandIn t = false by simpa using List.all_eq_true.1 card_s t hm)⟩)
    card_g
#print axioms card
end Go.Proofs.YthpacjlaeknidabGreatDoor.fnChars
namespace Go.Proofs.YthpacjlaeknidabGreatDoor
/-- The row, under a short name, for the claim. -/
theorem fnChars_holds : Rows.FnCharsCardSaid := fnChars.card
end Go.Proofs.YthpacjlaeknidabGreatDoor
