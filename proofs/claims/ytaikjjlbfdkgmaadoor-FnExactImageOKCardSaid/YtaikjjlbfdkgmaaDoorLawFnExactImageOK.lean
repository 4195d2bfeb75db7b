/- The row of the law FnExactImageOK: whatever the input, it returns true. Conditions: those of the row alone. -/
import Derived.Test.YtaikjjlbfdkgmaaDoorRows
import Derived.Test.YtaikjjlbfdkgmaaDoorCards
import Derived.Test.YtaikjjlbfdkgmaaDoorTie
import Derived.Test.YtaikjjlbfdkgmaaDoorPFnExactImageOK1
import Derived.Test.YtaikjjlbfdkgmaaDoorPureFnExactImageOK
import Derived.SevenTiedAt
import Derived.LaidMore
import Derived.WalkKit
import Derived.ProofKit
import Derived.OpenShut
import Derived.ShutString
import Derived.ChangeOld
import Derived.Below
import Derived.SizedLaws
set_option linter.unusedVariables false
namespace Go.Proofs.YtaikjjlbfdkgmaaDoor.fnExactImageOK
open Go.ChangeShapes Go.WideShapes Go.ChangeAt Go.RowKit Go.Proofs.YtaikjjlbfdkgmaaDoor.E
open Go.ChangeMaps (open_string shut_string)
theorem own : ownKnob Tryd.prog.godebug = none := by kernel_rfl
theorem laidOut : laidOutB Tryd.prog = true := by kernel_rfl
/-- The heap that the door's own run leaves meets the condition. -/
theorem door_met (os : Os) (args : Array Value) : laidMetH Tryd.prog Rows.fnExactImageOKRow.laid ((World.doorLaid Tryd.prog 58 os).forCall (fun _ _ => 0) ⟨#[], args, []⟩).memory :=
  laidMetH_of_parts3 (fuel := 8) (laidMet_of_run' 8 (by kernel_rfl) (by kernel_rfl)) (by kernel_rfl) (by kernel_rfl)
set_option maxHeartbeats 8000000 in
set_option maxRecDepth 100000 in
theorem lifted (os : Os) (started : os.Started) (H : Type) (enc : TypeId × Value → H) :
    ReturnsInHanded {} Tryd.checked os 7 .any (fun w args => (Rows.fnExactImageOKSpec.pre enc Tryd.prog Tryd.f7 Rows.fnExactImageOKRow.domain false w args ∧ laidMetH Tryd.prog Rows.fnExactImageOKRow.laid w) ∧ sizedMet enc Tryd.prog Tryd.f7 (OpenSpec.ofChange Rows.fnExactImageOKSpec) false w args) (Rows.fnExactImageOKSpec.post enc Tryd.prog Tryd.f7 false true false false) := by
  refine returnsInHanded_of_change_and (C := Tryd.checked) (X := fun w _ => laidMetH Tryd.prog Rows.fnExactImageOKRow.laid w) (fun _ _ _ hh h => h.of_heap hh) own started (by kernel_rfl) Tryd.func7
    (ChangeSpec.witness_shaped (enc := enc) (C := Tryd.checked) (os := os) (X := fun w _ => laidMetH Tryd.prog Rows.fnExactImageOKRow.laid w) false (World.doorLaid Tryd.prog 58 os) #[(.agg #[(.int .i64 0), (.slice none 0 0), (.slice none 0 0), (.slice none 0 0)])] 8 rfl (World.shaped_of_RefB (by kernel_rfl) (by kernel_rfl)) (by kernel_rfl) (by kernel_rfl) (by kernel_rfl) (door_met os _)) ?_
  intro W base args ds gs before hval0 hW hcnd hsz0 hL0 _
  have hL1 : laidMet Tryd.prog Rows.fnExactImageOKRow.laid W := by
    rw [MakeChecks.laidMetH_plain _ _ _ (by kernel_rfl)] at hL0
    exact hL0
  have hlw : LaidFacts.LW W (fun g => g < W.heap.size) := ⟨tab0_laid hL1 (by unfold Rows.fnExactImageOKRow; repeat (first | exact List.Mem.head _ | apply List.Mem.tail)), trivial⟩
  clear hL1
  have hval : ∀ (j : Nat) t v, Tryd.f7.params[j]? = some t → args[j]? = some v → Value.okWide Tryd.prog W .any base t v := hval0
  have hW' := hW
  obtain ⟨p, q, hA0, hV, rfl, hfz, hnd⟩ := hW
  have hA : DataW.TrodAll enc Tryd.prog W 0 (fun _ => true) true Tryd.f7.params.toList args.toList ds p := hA0
  rw [Tryd.params7] at hA hval
  obtain ⟨v0, vs0, d0, ds0, p0, q0, hargs, rfl, rfl, h0, r0⟩ := trodAll_cons hA
  obtain ⟨rfl, rfl, rfl⟩ := trodAll_nil r0
  obtain rfl : args = #[v0] := by cases args; simp_all
  obtain ⟨rfl, rfl⟩ := trodVars_none hV
  have k0 := h0
  have lt0 : ∀ x ∈ p0, x.block < W.heap.size := by obtain ⟨m, hm⟩ := k0; exact DataW.trod_lt m _ _ _ hm
  obtain ⟨fu0, hf0⟩ := h0
  obtain ⟨x0, hx0, good0⟩ := op49 fu0 H enc W _ _ fu0 _ _ (Nat.le_refl _) hf0
  obtain ⟨cs0, rfl, _⟩ := okWide_struct Tryd.underlying49 (hval 0 49 v0 rfl rfl)
  clear hA0 hval0 hsz0
  obtain ⟨k, h⟩ := pureFnExactImageOK x0 good0
  refine ((laws_FnExactImageOK.fn k x0 true h).law (vals := [.agg cs0]) ⟨ArgR.agg hx0, trivial⟩ hlw).mono fun e W' ⟨he, bel0⟩ => ?_
  have bel : Below W.heap.size W W' := bel0
  subst he
  exact ⟨_, rfl, _, _, _, [], _, [], hW', trodAll_mk1 (shut_bool Tryd.underlying4 _), (trodAll_cons_mk (Below.trod laidOut (by kernel_rfl) (of_decide_eq_true (by kernel_rfl)) k0 bel lt0) trodAll_mk0), rfl, bel.frame _, fun h => by cases h⟩
theorem over : Rows.fnExactImageOKRow.holds Tryd.pinned (OpenSpec.ofChange Rows.fnExactImageOKSpec) :=
  OpenClaim.holds_of_wide 7 Tryd.f7 rfl rfl rfl rfl rfl rfl rfl ⟨rfl, rfl, rfl, rfl, rfl⟩ rfl rfl rfl rfl rfl (by kernel_rfl) Tryd.func7 (by kernel_rfl)
    (of_decide_eq_true (by kernel_rfl)) (by unfold Func.isWrapper; first | (rw [if_pos (by decide +kernel)]; kernel_rfl) | (rw [if_neg (by decide +kernel)]; exact ⟨rfl, rfl⟩))
    (fun os started H enc _ => lifted os started H enc)
theorem proved : Rows.FnExactImageOKSaid := over
/-- The tied card. -/
theorem card : Rows.FnExactImageOKCardSaid :=
  Claim7.holds_tied_plain_at .later [] [.listed, .data] true (true, "7eb44c92e1ab4acbfcb406825c1b7080b8b148221a0aa7ee6d4e4e6984bc4354") false
    proved (fun _ h => by cases h) (by kernel_rfl) (fun _ h => by cases h) fnExactImageOK_row_tie rfl ⟨rfl, rfl⟩ (by kernel_rfl) rfl
    (fun f fn hf hfn => by
      obtain rfl : f = 7 := Option.some.inj ((show Tryd.prog.funcNamed "loop.example/g00168/laws.FnExactImageOK" = some 7 by kernel_rfl).symm.trans hf) |>.symm
      obtain rfl : fn = Tryd.f7 := (Option.some.inj (Tryd.func7.symm.trans hfn)).symm
      exact ⟨by kernel_rfl, fun j t ht => by
        rw [Tryd.params7] at ht
        have hm : t ∈ [49] := by simpa using Array.mem_of_getElem? ht
        have hall : ([49].all fun u => !Tryd.prog.wantsStandIn u) = true := by kernel_rfl
        exact (show Tryd.prog.wantsStandIn t = false by simpa using List.all_eq_true.1 hall t hm)⟩)
    (by kernel_rfl)
#print axioms card
end Go.Proofs.YtaikjjlbfdkgmaaDoor.fnExactImageOK
namespace Go.Proofs.YtaikjjlbfdkgmaaDoor
/-- The row, under a short name, for the claim. -/
theorem fnExactImageOK_holds : Rows.FnExactImageOKCardSaid := fnExactImageOK.card
end Go.Proofs.YtaikjjlbfdkgmaaDoor
