/- The row of the law FnExactTreeOK: whatever the input, it returns true. Conditions: those of the row alone. -/
import Derived.Test.YtjgddjmgcffjfaaDoorLawBFnExactTreeOK
import Derived.Test.YtjgddjmgcffjfaaDoorRows
import Derived.Test.YtjgddjmgcffjfaaDoorCards
import Derived.Test.YtjgddjmgcffjfaaDoorTie
import Derived.Test.YtjgddjmgcffjfaaDoorPFnExactTreeOK0
import Derived.Test.YtjgddjmgcffjfaaDoorPureFnExactTreeOK
import Derived.SevenTiedAt
import Derived.LaidMore
import Derived.Lay
import Derived.WalkKit
import Derived.ProofKit
import Derived.OpenShut
import Derived.ShutString
import Derived.ChangeOld
import Derived.Below
import Derived.SizedLaws
set_option linter.unusedVariables false
namespace Go.Proofs.YtjgddjmgcffjfaaDoor.fnExactTreeOK
open Go.ChangeShapes Go.WideShapes Go.ChangeAt Go.RowKit Go.Proofs.YtjgddjmgcffjfaaDoor.E
open Go.ChangeMaps (open_string shut_string)
/-- The tied card. -/
theorem card_w : Rows.fnExactTreeOKRow.wfByText (OpenSpec.ofChange Rows.fnExactTreeOKSpec) = true := by kernel_rfl
theorem card_m : Tryd.prog.mainIs = some ((true, "6b46ca8abb42a3d001a590dc5643d47ff37a947997762ec9d9550b1c7c1d0f46").1, (true, "6b46ca8abb42a3d001a590dc5643d47ff37a947997762ec9d9550b1c7c1d0f46").2.toList) := by kernel_rfl
theorem card_f : Tryd.prog.funcNamed "loop.example/g00168/laws.FnExactTreeOK" = some 4 := by kernel_rfl
theorem card_l : false = Tryd.prog.looks [] := by kernel_rfl
theorem card_s : ([27].all fun u => !Tryd.prog.wantsStandIn u) = true := by kernel_rfl
theorem card_g : false = Rows.fnExactTreeOKRow.goesBy Tryd.prog := by kernel_rfl
theorem card : Rows.FnExactTreeOKCardSaid :=
  Claim7.holds_tied_plain_at .later [] [.listed, .data] true (true, "6b46ca8abb42a3d001a590dc5643d47ff37a947997762ec9d9550b1c7c1d0f46") false
    proved (fun _ h => by cases h) card_w (fun _ h => by cases h) fnExactTreeOK_row_tie rfl ⟨rfl, rfl⟩ card_m rfl
    (fun f fn hf hfn => by
      obtain rfl : f = 4 := Option.some.inj (card_f.symm.trans hf) |>.symm
      obtain rfl : fn = Tryd.f4 := (Option.some.inj (Tryd.func4.symm.trans hfn)).symm
      exact ⟨card_l, fun j t ht => by
        rw [Tryd.params4] at ht
        have hm : t ∈ [27] := by simpa using Array.mem_of_getElem? ht
        exact (show Tryd.prog.wantsStandIn t = false by simpa using List.all_eq_true.1 card_s t hm)⟩)
    card_g
#print axioms card
end Go.Proofs.YtjgddjmgcffjfaaDoor.fnExactTreeOK
namespace Go.Proofs.YtjgddjmgcffjfaaDoor
/-- The row, under a short name, for the claim. -/
theorem fnExactTreeOK_holds : Rows.FnExactTreeOKCardSaid := fnExactTreeOK.card
end Go.Proofs.YtjgddjmgcffjfaaDoor
