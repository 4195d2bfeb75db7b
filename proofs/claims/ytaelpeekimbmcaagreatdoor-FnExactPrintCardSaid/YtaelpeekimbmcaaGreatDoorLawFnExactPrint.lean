/- The row of the law FnExactPrint: whatever the input, it returns true. Conditions: those of the row alone. -/
import Derived.Test.YtaelpeekimbmcaaGreatDoorLawBFnExactPrint
import Derived.Test.YtaelpeekimbmcaaGreatDoorRows
import Derived.Test.YtaelpeekimbmcaaGreatDoorCards
import Derived.Test.YtaelpeekimbmcaaGreatDoorTie
import Derived.Test.YtaelpeekimbmcaaGreatDoorPFnExactPrint1
import Derived.Test.YtaelpeekimbmcaaGreatDoorPureFnExactPrint
import Derived.SevenTiedAt
import Derived.LaidMore
import Derived.Lay
import Derived.WalkKit
import Derived.ProofKit
import Derived.OpenShut
import Derived.ShutString
import Derived.ChangeOld
import Derived.Below
import Derived.SizedLaws
set_option linter.unusedVariables false
namespace Go.Proofs.YtaelpeekimbmcaaGreatDoor.fnExactPrint
open Go.ChangeShapes Go.WideShapes Go.ChangeAt Go.RowKit Go.Proofs.YtaelpeekimbmcaaGreatDoor.E
open Go.ChangeMaps (open_string shut_string)
/-- The tied card. -/
theorem card_w:Rows.fnExactPrintRow.wfByText (OpenSpec.ofChange Rows.fnExactPrintSpec) = true:=by kernel_rfl
theorem card_m : Tryz.prog.mainIs = some ((true, "861030b4bc1e3017c48c345a5fe5beff5153dbab1e926794dfcf3155c78fa457").1, (true, "861030b4bc1e3017c48c345a5fe5beff5153dbab1e926794dfcf3155c78fa457").2.toList) := by kernel_rfl
theorem card_f : Tryz.prog.funcNamed "loop.example/g00168/laws.FnExactPrint" = some 3 := by kernel_rfl
theorem card_l:false = Tryz.prog.looks []:=by kernel_rfl
theorem card_s:([24].all fun u=>!Tryz.prog.wantsStandIn u) = true:=by kernel_rfl
theorem card_g:false = Rows.fnExactPrintRow.goesBy Tryz.prog:=by kernel_rfl
theorem card:Rows.FnExactPrintCardSaid :=
  Claim7.holds_tied_plain_at .later [] [.data, .data, .data, .data, .listed, .data, .pinned, .pinned] true (true, "861030b4bc1e3017c48c345a5fe5beff5153dbab1e926794dfcf3155c78fa457") false
    proved (fun _ h=>by cases h) card_w (fun _ h=>by cases h) fnExactPrint_row_tie rfl ⟨rfl,rfl⟩ card_m rfl
    (fun f fn hf hfn=>by
      obtain rfl:f = 3:=Option.some.inj (card_f.symm.trans hf) |>.symm
      obtain rfl:fn = Tryz.f3:=(Option.some.inj (Tryz.func3.symm.trans hfn)).symm
      exact ⟨card_l,fun j t ht=>by
        rw [Tryz.params3] at ht
        have hm:t ∈ [24]:=by simpa using Array.mem_of_getElem? ht
        exact (show Tryz.prog.wantsStandIn t = false by simpa using List.all_eq_true.1 card_s t hm)⟩)
    card_g
#print axioms card
end Go.Proofs.YtaelpeekimbmcaaGreatDoor.fnExactPrint
namespace Go.Proofs.YtaelpeekimbmcaaGreatDoor
/-- The row, under a short name, for the claim. -/
theorem fnExactPrint_holds:Rows.FnExactPrintCardSaid:=fnExactPrint.card
end Go.Proofs.YtaelpeekimbmcaaGreatDoor
