/- Objects: their bound, copy and comparison in a law. -/
import Derived.Test.YtoclajfeeebbbadGreatDoorPlOFnExactReadObject
import Derived.Test.YtoclajfeeebbbadGreatDoorPlCFnExactReadObject
set_option linter.unusedVariables false
set_option linter.unusedSimpArgs false
namespace Go.Proofs.YtoclajfeeebbbadGreatDoor.V
open Go.RowKit Go.Proofs.YtoclajfeeebbbadGreatDoor.E
theorem eqNeedS_ev (xs:List SNeed) (hn:xs.length ≤ 1048576):Evr (fun k=>laws_eqNeedS.f k xs xs) true:=by
  unfold laws_eqNeedS.f laws_eqNeedS.e2
  refine ev_pos rfl (ev_bind (.inr ()) ?_ ev_some)
  exact ev_same xs (fun k i=>laws_eqNeedS.l1 k xs xs i) _ (by omega) (ev_neg (by omega) ev_some) (fun i hi r h=>by
    refine ev_pos (by omega) ?_
    simp only [at?_nat hi,Option.bind_some,laws_eqNeed.f,if_true]
    rw [w64_next (by omega)]
    exact h)
theorem eqGlobalS_ev (xs:List SNeed) (hn:xs.length ≤ 1048576):Evr (fun k=>laws_eqGlobalS.f k xs xs) true:=by
  unfold laws_eqGlobalS.f laws_eqGlobalS.e2
  refine ev_pos rfl (ev_bind (.inr ()) ?_ ev_some)
  exact ev_same xs (fun k i=>laws_eqGlobalS.l1 k xs xs i) _ (by omega) (ev_neg (by omega) ev_some) (fun i hi r h=>by
    refine ev_pos (by omega) ?_
    simp only [at?_nat hi,Option.bind_some,laws_eqGlobal.f,if_true]
    rw [w64_next (by omega)]
    exact h)
/-- The bound: too large, or of a size that fits. -/
theorem eqObject_ev (o:SObj) (hs:SmallO o):Evr (fun k=>laws_eqObject.f k o o) true:=by
  unfold laws_eqObject.f
  exact ev_pos rfl (ev_pos rfl (ev_bind _ (eqNeedS_ev _ hs.needs) (ev_pos rfl (ev_bind _ (eqGlobalS_ev _ hs.globs) (ev_pos rfl (ev_bind _ (eqCodeS_ev _ hs.procs fun x hx=>(hs.proc x hx).len) ev_some))))))
end Go.Proofs.YtoclajfeeebbbadGreatDoor.V
