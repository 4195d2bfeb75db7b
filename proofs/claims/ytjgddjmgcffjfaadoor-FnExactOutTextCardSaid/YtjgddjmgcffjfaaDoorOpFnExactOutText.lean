/- What reads as this law's arguments. -/
import Derived.Test.YtjgddjmgcffjfaaDoorPFnExactOutText0
set_option linter.unusedVariables false
namespace Go.Proofs.YtjgddjmgcffjfaaDoor.E
open Go.RowKit Go.WideShapes
def gSOut (x : SOut) : Prop := (Lit.int .i64 x.f0).wf = true ∧ (Lit.int .i64 x.f1).wf = true
set_option maxRecDepth 100000 in
theorem op56 : ∀ n, OpR Tryd.prog n 56 eSOut gSOut := opR_struct_all (s := 2) (f := fun y : Int × Int => eI y.1 ++ (eI y.2)) (good := fun y : Int × Int => (Lit.int .i64 y.1).wf = true ∧ (Lit.int .i64 y.2).wf = true) (fun y : Int × Int => (⟨y.1, y.2⟩ : SOut)) Tryd.underlying56 rfl (by first | rfl | kernel_rfl) (fun _ => rfl) (fun _ => rfl) (fun _ h => h) (fun n => (sufR_cons (off := 0) (ga := fun x => (Lit.int .i64 x).wf = true) (s := 1) (f := eI) rfl rfl (by first | rfl | kernel_rfl) (fun _ => rfl) ⟨((0 : Int), (0 : Int))⟩ ((opR_int Tryd.underlying3) n) (sufR_one (off := 1) (good := fun x => (Lit.int .i64 x).wf = true) (s := 1) (f := eI) rfl rfl (by first | rfl | kernel_rfl) (fun _ => rfl) ⟨(0 : Int)⟩ ((opR_int Tryd.underlying3) n))))
end Go.Proofs.YtjgddjmgcffjfaaDoor.E
