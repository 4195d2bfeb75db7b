/- The row of the law FnExactEntryOK: whatever the input, it returns true. Conditions: those of the row alone. -/
import Derived.Test.YtiphpljonbabjaaGreatDoorLawBFnExactEntryOK
import Derived.Test.YtiphpljonbabjaaGreatDoorRows
import Derived.Test.YtiphpljonbabjaaGreatDoorCards
import Derived.Test.YtiphpljonbabjaaGreatDoorTie
import Derived.Test.YtiphpljonbabjaaGreatDoorPFnExactEntryOK1
import Derived.Test.YtiphpljonbabjaaGreatDoorPureFnExactEntryOK
import Derived.SevenTiedAt
import Derived.LaidMore
import Derived.WalkKit
import Derived.ProofKit
import Derived.OpenShut
import Derived.ShutString
import Derived.ChangeOld
import Derived.Below
import Derived.SizedLaws
set_option linter.unusedVariables false
namespace Go.Proofs.YtiphpljonbabjaaGreatDoor.fnExactEntryOK
open Go.ChangeShapes Go.WideShapes Go.ChangeAt Go.RowKit Go.Proofs.YtiphpljonbabjaaGreatDoor.E
open Go.ChangeMaps (open_string shut_string)
/-- The tied card. -/
theorem card_w : Rows.fnExactEntryOKRow.wfByText (OpenSpec.ofChange Rows.fnExactEntryOKSpec) = true := by kernel_rfl
theorem card_m : Tryz.prog.mainIs = some ((true, "9bde0dd55bab8a409ad4c0d031bcd92053a8ad7437a51932b63a6329ffef2ea2").1, (true, "9bde0dd55bab8a409ad4c0d031bcd92053a8ad7437a51932b63a6329ffef2ea2").2.toList) := by kernel_rfl
theorem card_f : Tryz.prog.funcNamed "loop.example/g00168/laws.FnExactEntryOK" = some 3 := by kernel_rfl
theorem card_l : false = Tryz.prog.looks [] := by kernel_rfl
theorem card_s : ([23].all fun u => !Tryz.prog.wantsStandIn u) = true := by kernel_rfl
theorem card_g : false = Rows.fnExactEntryOKRow.goesBy Tryz.prog := by kernel_rfl
theorem card : Rows.FnExactEntryOKCardSaid :=
  Claim7.holds_tied_plain_at .later [] [.listed, .data] true (true, "9bde0dd55bab8a409ad4c0d031bcd92053a8ad7437a51932b63a6329ffef2ea2") false
    proved (fun _ h => by cases h) card_w (fun _ h => by cases h) fnExactEntryOK_row_tie rfl ⟨rfl, rfl⟩ card_m rfl
    (fun f fn hf hfn => by
      obtain rfl : f = 3 := Option.some.inj (card_f.symm.trans hf) |>.symm
      obtain rfl : fn = Tryz.f3 := (Option.some.inj (Tryz.func3.symm.trans hfn)).symm
      exact ⟨card_l, fun j t ht => by
        rw [Tryz.params3] at ht
        have hm : t ∈ [23] := by simpa using Array.mem_of_getElem? ht
        exact (show Tryz.prog.wantsStandIn t = false by simpa using List.all_eq_true.1 card_s t hm)⟩)
    card_g
#print axioms card
end Go.Proofs.YtiphpljonbabjaaGreatDoor.fnExactEntryOK
namespace Go.Proofs.YtiphpljonbabjaaGreatDoor
/-- The row, under a short name, for the claim. -/
theorem fnExactEntryOK_holds : Rows.FnExactEntryOKCardSaid := fnExactEntryOK.card
end Go.Proofs.YtiphpljonbabjaaGreatDoor
