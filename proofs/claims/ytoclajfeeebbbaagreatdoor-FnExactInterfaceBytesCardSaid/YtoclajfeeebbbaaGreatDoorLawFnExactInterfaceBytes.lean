/- The row of the law FnExactInterfaceBytes: whatever the input, it returns true. Conditions: those of the row alone. -/
import Derived.Test.YtoclajfeeebbbaaGreatDoorLawBFnExactInterfaceBytes
import Derived.Test.YtoclajfeeebbbaaGreatDoorRows
import Derived.Test.YtoclajfeeebbbaaGreatDoorCards
import Derived.Test.YtoclajfeeebbbaaGreatDoorTie
import Derived.Test.YtoclajfeeebbbaaGreatDoorZFnExactInterfaceBytes
import Derived.Test.YtoclajfeeebbbaaGreatDoorPureFnExactInterfaceBytes
import Derived.SevenTiedAt
import Derived.LaidMore
import Derived.Lay
import Derived.WalkKit
import Derived.ProofKit
import Derived.OpenShut
import Derived.ShutString
import Derived.ChangeOld
import Derived.Below
import Derived.SizedLaws
set_option linter.unusedVariables false
namespace Go.Proofs.YtoclajfeeebbbaaGreatDoor.fnExactInterfaceBytes
open Go.ChangeShapes Go.WideShapes Go.ChangeAt Go.RowKit Go.Proofs.YtoclajfeeebbbaaGreatDoor.E
open Go.ChangeMaps (open_string shut_string)
/-- The tied card. -/
theorem card_w : Rows.fnExactInterfaceBytesRow.wfByText (OpenSpec.ofChange Rows.fnExactInterfaceBytesSpec) = true := by kernel_rfl
theorem card_m : Tryz.prog.mainIs = some ((true, "4572e69d4ac613a41294ef476d52848cc8add4b7155bf234a5997b0dd5551f68").1, (true, "4572e69d4ac613a41294ef476d52848cc8add4b7155bf234a5997b0dd5551f68").2.toList) := by kernel_rfl
theorem card_f : Tryz.prog.funcNamed "loop.example/g00168/laws.FnExactInterfaceBytes" = some 3 := by kernel_rfl
theorem card_l : false = Tryz.prog.looks [] := by kernel_rfl
theorem card_s : ([24].all fun u => !Tryz.prog.wantsStandIn u) = true := by kernel_rfl
theorem card_g : false = Rows.fnExactInterfaceBytesRow.goesBy Tryz.prog := by kernel_rfl
theorem card : Rows.FnExactInterfaceBytesCardSaid :=
  Claim7.holds_tied_plain_at .later [] [.listed, .data] true (true, "4572e69d4ac613a41294ef476d52848cc8add4b7155bf234a5997b0dd5551f68") false
    proved (fun _ h => by cases h) card_w (fun _ h => by cases h) fnExactInterfaceBytes_row_tie rfl ⟨rfl, rfl⟩ card_m rfl
    (fun f fn hf hfn => by
      obtain rfl : f = 3 := Option.some.inj (card_f.symm.trans hf) |>.symm
      obtain rfl : fn = Tryz.f3 := (Option.some.inj (Tryz.func3.symm.trans hfn)).symm
      exact ⟨card_l, fun j t ht => by
        rw [Tryz.params3] at ht
        have hm : t ∈ [24] := by simpa using Array.mem_of_getElem? ht
        exact (show Tryz.prog.wantsStandIn t = false by simpa using List.all_eq_true.1 card_s t hm)⟩)
    card_g
#print axioms card
end Go.Proofs.YtoclajfeeebbbaaGreatDoor.fnExactInterfaceBytes
namespace Go.Proofs.YtoclajfeeebbbaaGreatDoor
/-- The row, under a short name, for the claim. -/
theorem fnExactInterfaceBytes_holds : Rows.FnExactInterfaceBytesCardSaid := fnExactInterfaceBytes.card
end Go.Proofs.YtoclajfeeebbbaaGreatDoor
