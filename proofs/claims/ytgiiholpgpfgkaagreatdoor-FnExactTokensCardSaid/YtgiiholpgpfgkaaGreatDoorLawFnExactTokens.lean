/- The row of the law FnExactTokens: whatever the input, it returns true. Conditions: those of the row alone. -/
import Derived.Test.YtgiiholpgpfgkaaGreatDoorLawBFnExactTokens
import Derived.Test.YtgiiholpgpfgkaaGreatDoorRows
import Derived.Test.YtgiiholpgpfgkaaGreatDoorCards
import Derived.Test.YtgiiholpgpfgkaaGreatDoorTie
import Derived.Test.YtgiiholpgpfgkaaGreatDoorPFnExactTokens0
import Derived.Test.YtgiiholpgpfgkaaGreatDoorPureFnExactTokens
import Derived.SevenTiedAt
import Derived.LaidMore
import Derived.Lay
import Derived.WalkKit
import Derived.ProofKit
import Derived.OpenShut
import Derived.ShutString
import Derived.ChangeOld
import Derived.Below
import Derived.SizedLaws
set_option linter.unusedVariables false
namespace Go.Proofs.YtgiiholpgpfgkaaGreatDoor.fnExactTokens
open Go.ChangeShapes Go.WideShapes Go.ChangeAt Go.RowKit Go.Proofs.YtgiiholpgpfgkaaGreatDoor.E
open Go.ChangeMaps (open_string shut_string)
/-- The tied card. -/
theorem card_w : Rows.fnExactTokensRow.wfByText (OpenSpec.ofChange Rows.fnExactTokensSpec) = true := by kernel_rfl
theorem card_m : Tryz.prog.mainIs = some ((true, "22d23ab053f03a207733bf9fa6ed42137cfdcaef30bb36508f739a90a4a95e54").1, (true, "22d23ab053f03a207733bf9fa6ed42137cfdcaef30bb36508f739a90a4a95e54").2.toList) := by kernel_rfl
theorem card_f : Tryz.prog.funcNamed "loop.example/g00168/laws.FnExactTokens" = some 3 := by kernel_rfl
theorem card_l : true = Tryz.prog.looks [] := by kernel_rfl
theorem card_s : ([9].all fun u => !Tryz.prog.wantsStandIn u) = true := by kernel_rfl
theorem card_g : false = Rows.fnExactTokensRow.goesBy Tryz.prog := by kernel_rfl
theorem card : Rows.FnExactTokensCardSaid :=
  Claim7.holds_tied_plain_at .later [] [.data, .data, .data, .data, .sentinel, .sentinel, .listed, .data, .pinned, .pinned] true (true, "22d23ab053f03a207733bf9fa6ed42137cfdcaef30bb36508f739a90a4a95e54") true
    proved (fun _ h => by cases h) card_w (fun _ h => by cases h) fnExactTokens_row_tie rfl ⟨rfl, rfl⟩ card_m rfl
    (fun f fn hf hfn => by
      obtain rfl : f = 3 := Option.some.inj (card_f.symm.trans hf) |>.symm
      obtain rfl : fn = Tryz.f3 := (Option.some.inj (Tryz.func3.symm.trans hfn)).symm
      exact ⟨card_l, fun j t ht => by
        rw [Tryz.params3] at ht
        have hm : t ∈ [9] := by simpa using Array.mem_of_getElem? ht
        exact (show Tryz.prog.wantsStandIn t = false by simpa using List.all_eq_true.1 card_s t hm)⟩)
    card_g
#print axioms card
end Go.Proofs.YtgiiholpgpfgkaaGreatDoor.fnExactTokens
namespace Go.Proofs.YtgiiholpgpfgkaaGreatDoor
/-- The row, under a short name, for the claim. -/
theorem fnExactTokens_holds : Rows.FnExactTokensCardSaid := fnExactTokens.card
end Go.Proofs.YtgiiholpgpfgkaaGreatDoor
