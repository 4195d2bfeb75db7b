/- The row of the law FnExactListing: whatever the input, it returns true. Conditions: those of the row alone. -/
import Derived.Test.YtdoenfpleokadaaDoorLawBFnExactListing
import Derived.Test.YtdoenfpleokadaaDoorRows
import Derived.Test.YtdoenfpleokadaaDoorCards
import Derived.Test.YtdoenfpleokadaaDoorTie
import Derived.Test.YtdoenfpleokadaaDoorPFnExactListing1
import Derived.Test.YtdoenfpleokadaaDoorPureFnExactListing
import Derived.SevenTiedAt
import Derived.LaidMore
import Derived.WalkKit
import Derived.ProofKit
import Derived.OpenShut
import Derived.ShutString
import Derived.ChangeOld
import Derived.Below
import Derived.SizedLaws
set_option linter.unusedVariables false
namespace Go.Proofs.YtdoenfpleokadaaDoor.fnExactListing
open Go.ChangeShapes Go.WideShapes Go.ChangeAt Go.RowKit Go.Proofs.YtdoenfpleokadaaDoor.E
open Go.ChangeMaps (open_string shut_string)
/-- The tied card. -/
theorem card_w : Rows.fnExactListingRow.wfByText (OpenSpec.ofChange Rows.fnExactListingSpec) = true := by kernel_rfl
theorem card_m : Tryd.prog.mainIs = some ((true, "a8d9c1b22fcfe0090d06b96b91ab209acf9bd63c11be9b26de26f299d9361f28").1, (true, "a8d9c1b22fcfe0090d06b96b91ab209acf9bd63c11be9b26de26f299d9361f28").2.toList) := by kernel_rfl
theorem card_f : Tryd.prog.funcNamed "loop.example/g00168/laws.FnExactListing" = some 4 := by kernel_rfl
theorem card_l : false = Tryd.prog.looks [] := by kernel_rfl
theorem card_s : ([32].all fun u => !Tryd.prog.wantsStandIn u) = true := by kernel_rfl
theorem card_g : false = Rows.fnExactListingRow.goesBy Tryd.prog := by kernel_rfl
theorem card : Rows.FnExactListingCardSaid :=
  Claim7.holds_tied_plain_at .later [] [.data, .data, .data, .listed, .data] true (true, "a8d9c1b22fcfe0090d06b96b91ab209acf9bd63c11be9b26de26f299d9361f28") false
    proved (fun _ h => by cases h) card_w (fun _ h => by cases h) fnExactListing_row_tie rfl ⟨rfl, rfl⟩ card_m rfl
    (fun f fn hf hfn => by
      obtain rfl : f = 4 := Option.some.inj (card_f.symm.trans hf) |>.symm
      obtain rfl : fn = Tryd.f4 := (Option.some.inj (Tryd.func4.symm.trans hfn)).symm
      exact ⟨card_l, fun j t ht => by
        rw [Tryd.params4] at ht
        have hm : t ∈ [32] := by simpa using Array.mem_of_getElem? ht
        exact (show Tryd.prog.wantsStandIn t = false by simpa using List.all_eq_true.1 card_s t hm)⟩)
    card_g
#print axioms card
end Go.Proofs.YtdoenfpleokadaaDoor.fnExactListing
namespace Go.Proofs.YtdoenfpleokadaaDoor
/-- The row, under a short name, for the claim. -/
theorem fnExactListing_holds : Rows.FnExactListingCardSaid := fnExactListing.card
end Go.Proofs.YtdoenfpleokadaaDoor
