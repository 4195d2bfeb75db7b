/- The row of the law FnExactOutText: whatever the input, it returns true. Conditions: those of the row alone. -/
import Derived.Test.YtjgddjmgcffjfaaDoorLawBFnExactOutText
import Derived.Test.YtjgddjmgcffjfaaDoorRows
import Derived.Test.YtjgddjmgcffjfaaDoorCards
import Derived.Test.YtjgddjmgcffjfaaDoorTie
import Derived.Test.YtjgddjmgcffjfaaDoorPFnExactOutText0
import Derived.Test.YtjgddjmgcffjfaaDoorPureFnExactOutText
import Derived.SevenTiedAt
import Derived.LaidMore
import Derived.Lay
import Derived.WalkKit
import Derived.ProofKit
import Derived.OpenShut
import Derived.ShutString
import Derived.ChangeOld
import Derived.Below
import Derived.SizedLaws
set_option linter.unusedVariables false
namespace Go.Proofs.YtjgddjmgcffjfaaDoor.fnExactOutText
open Go.ChangeShapes Go.WideShapes Go.ChangeAt Go.RowKit Go.Proofs.YtjgddjmgcffjfaaDoor.E
open Go.ChangeMaps (open_string shut_string)
/-- The tied card. -/
theorem card_w : Rows.fnExactOutTextRow.wfByText (OpenSpec.ofChange Rows.fnExactOutTextSpec) = true := by kernel_rfl
theorem card_m : Tryd.prog.mainIs = some ((true, "6b46ca8abb42a3d001a590dc5643d47ff37a947997762ec9d9550b1c7c1d0f46").1, (true, "6b46ca8abb42a3d001a590dc5643d47ff37a947997762ec9d9550b1c7c1d0f46").2.toList) := by kernel_rfl
theorem card_f : Tryd.prog.funcNamed "loop.example/g00168/laws.FnExactOutText" = some 5 := by kernel_rfl
theorem card_l : false = Tryd.prog.looks [] := by kernel_rfl
theorem card_s : ([36].all fun u => !Tryd.prog.wantsStandIn u) = true := by kernel_rfl
theorem card_g : false = Rows.fnExactOutTextRow.goesBy Tryd.prog := by kernel_rfl
theorem card : Rows.FnExactOutTextCardSaid :=
  Claim7.holds_tied_plain_at .later [] [.data, .data, .data, .data, .pinned, .pinned] true (true, "6b46ca8abb42a3d001a590dc5643d47ff37a947997762ec9d9550b1c7c1d0f46") false
    proved (fun _ h => by cases h) card_w (fun _ h => by cases h) fnExactOutText_row_tie rfl ⟨rfl, rfl⟩ card_m rfl
    (fun f fn hf hfn => by
      obtain rfl : f = 5 := Option.some.inj (card_f.symm.trans hf) |>.symm
      obtain rfl : fn = Tryd.f5 := (Option.some.inj (Tryd.func5.symm.trans hfn)).symm
      exact ⟨card_l, fun j t ht => by
        rw [Tryd.params5] at ht
        have hm : t ∈ [36] := by simpa using Array.mem_of_getElem? ht
        exact (show Tryd.prog.wantsStandIn t = false by simpa using List.all_eq_true.1 card_s t hm)⟩)
    card_g
#print axioms card
end Go.Proofs.YtjgddjmgcffjfaaDoor.fnExactOutText
namespace Go.Proofs.YtjgddjmgcffjfaaDoor
/-- The row, under a short name, for the claim. -/
theorem fnExactOutText_holds : Rows.FnExactOutTextCardSaid := fnExactOutText.card
end Go.Proofs.YtjgddjmgcffjfaaDoor
