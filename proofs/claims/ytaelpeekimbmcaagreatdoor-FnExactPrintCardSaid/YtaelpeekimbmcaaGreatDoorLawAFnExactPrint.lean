/- The row of the law FnExactPrint: whatever the input, it returns true. Conditions: those of the row alone. -/
import Derived.Test.YtaelpeekimbmcaaGreatDoorRows
import Derived.Test.YtaelpeekimbmcaaGreatDoorCards
import Derived.Test.YtaelpeekimbmcaaGreatDoorTie
import Derived.Test.YtaelpeekimbmcaaGreatDoorPFnExactPrint1
import Derived.Test.YtaelpeekimbmcaaGreatDoorPureFnExactPrint
import Derived.SevenTiedAt
import Derived.LaidMore
import Derived.Lay
import Derived.WalkKit
import Derived.ProofKit
import Derived.OpenShut
import Derived.ShutString
import Derived.ChangeOld
import Derived.Below
import Derived.SizedLaws
set_option linter.unusedVariables false
namespace Go.Proofs.YtaelpeekimbmcaaGreatDoor.fnExactPrint
open Go.ChangeShapes Go.WideShapes Go.ChangeAt Go.RowKit Go.Proofs.YtaelpeekimbmcaaGreatDoor.E
open Go.ChangeMaps (open_string shut_string)
theorem own:ownKnob Tryz.prog.godebug = none:=by kernel_rfl
theorem laidOut:laidOutB Tryz.prog = true:=by kernel_rfl
set_option maxHeartbeats 8000000 in
set_option maxRecDepth 100000 in
theorem lifted (os : Os) (started : os.Started) (H : Type) (enc : TypeId × Value → H) :
    ReturnsInHanded {} Tryz.checked os 3 .any (fun w args=>(Rows.fnExactPrintSpec.pre enc Tryz.prog Tryz.f3 Rows.fnExactPrintRow.domain false w args ∧ laidMetH Tryz.prog Rows.fnExactPrintRow.laid w) ∧ sizedMet enc Tryz.prog Tryz.f3 (OpenSpec.ofChange Rows.fnExactPrintSpec) false w args) (Rows.fnExactPrintSpec.post enc Tryz.prog Tryz.f3 false true false false):=by
  refine returnsInHanded_of_change_and (C:=Tryz.checked) (X:=fun w _=>laidMetH Tryz.prog Rows.fnExactPrintRow.laid w) (fun _ _ _ hh h=>h.of_heap hh) own started (by kernel_rfl) Tryz.func3
    (ChangeSpec.witness_shaped (enc:=enc) (C:=Tryz.checked) (os:=os) (X:=fun w _=>laidMetH Tryz.prog Rows.fnExactPrintRow.laid w) false (World.laidAll Tryz.prog os Rows.fnExactPrintRow.laid) #[(.agg #[(.int .i64 0),(.int .i64 0),(.string ⟨#[]⟩),(.string ⟨#[]⟩),(.slice none 0 0)])] 8 (World.laidAll_os _ _ _) (World.shaped_of_ZipB (by kernel_rfl) (by kernel_rfl)) (by kernel_rfl) (by kernel_rfl) (by kernel_rfl) (by rw [MakeChecks.laidMetH_plain _ _ _ (by kernel_rfl)]; exact laidMet_laidAll _ (by kernel_rfl) (by kernel_rfl))) ?_
  intro W base args ds gs before hval0 hW hcnd hsz0 hL0 _
  have hL1:laidMet Tryz.prog Rows.fnExactPrintRow.laid W:=by
    rw [MakeChecks.laidMetH_plain _ _ _ (by kernel_rfl)] at hL0
    exact hL0
  have hlw:LaidFacts.LW W (fun g=>g < W.heap.size):=⟨tab0_laid hL1 (by unfold Rows.fnExactPrintRow; repeat (first | exact List.Mem.head _ | apply List.Mem.tail)),tab1_laid hL1 (by unfold Rows.fnExactPrintRow; repeat (first | exact List.Mem.head _ | apply List.Mem.tail)),tab2_laid hL1 (by unfold Rows.fnExactPrintRow; repeat (first | exact List.Mem.head _ | apply List.Mem.tail)),trivial⟩
  clear hL1
  have hval:∀ (j:Nat) t v,Tryz.f3.params[j]? = some t → args[j]? = some v → Value.okWide Tryz.prog W .any base t v:=hval0
  have hW':=hW
  obtain ⟨p,q,hA0,hV,rfl,hfz,hnd⟩:=hW
  have hA:DataW.TrodAll enc Tryz.prog W 0 (fun _=>true) true Tryz.f3.params.toList args.toList ds p:=hA0
  rw [Tryz.params3] at hA hval
  obtain ⟨v0,vs0,d0,ds0,p0,q0,hargs,rfl,rfl,h0,r0⟩:=trodAll_cons hA
  obtain ⟨rfl,rfl,rfl⟩:=trodAll_nil r0
  obtain rfl:args = #[v0]:=by cases args; simp_all
  obtain ⟨rfl,rfl⟩:=trodVars_none hV
  have k0:=h0
  have lt0:∀ x ∈ p0,x.block < W.heap.size:=by obtain ⟨m,hm⟩:=k0; exact DataW.trod_lt m _ _ _ hm
  obtain ⟨fu0,hf0⟩:=h0
  obtain ⟨x0,hx0,good0⟩:=(fun n=>(op24 n).1) fu0 H enc W _ _ fu0 _ _ (Nat.le_refl _) hf0
  obtain ⟨cs0,rfl,_⟩:=okWide_struct Tryz.underlying24 (hval 0 24 v0 rfl rfl)
  clear hA0 hval0 hsz0
  obtain ⟨k,h⟩:=pureFnExactPrint x0 good0
  refine ((laws_FnExactPrint.fn h).law (vals:=[.agg cs0]) ⟨ArgR.agg (eSNode_v x0 ▸ hx0),trivial⟩ hlw).mono fun e W' ⟨he,bel0⟩=>?_
  have bel:Below W.heap.size W W':=bel0
  subst he
  exact ⟨_,rfl,_,_,_,[],_,[],hW',trodAll_mk1 (shut_bool Tryz.underlying4 _),(trodAll_cons_mk (Below.trod laidOut (by kernel_rfl) (of_decide_eq_true (by kernel_rfl)) k0 bel lt0) trodAll_mk0),rfl,bel.frame _,fun h=>by cases h⟩
end Go.Proofs.YtaelpeekimbmcaaGreatDoor.fnExactPrint
