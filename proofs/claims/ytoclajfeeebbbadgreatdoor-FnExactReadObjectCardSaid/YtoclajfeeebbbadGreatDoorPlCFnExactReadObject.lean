/- Codes: their bounds, copies and comparisons in a law. -/
import Derived.Test.YtoclajfeeebbbadGreatDoorOpFnExactReadObject
import Derived.Test.YtoclajfeeebbbadGreatDoorPlL
set_option linter.unusedVariables false
set_option linter.unusedSimpArgs false
namespace Go.Proofs.YtoclajfeeebbbadGreatDoor.V
open Go.RowKit Go.Proofs.YtoclajfeeebbbadGreatDoor.E
theorem eqInsS_ev (xs:List SIns) (hn:xs.length ≤ 1048576):Evr (fun k=>laws_eqInsS.f k xs xs) true:=by
  unfold laws_eqInsS.f laws_eqInsS.e2
  refine ev_pos rfl (ev_bind (.inr ()) ?_ ev_some)
  exact ev_same xs (fun k i=>laws_eqInsS.l1 k xs xs i) _ (by omega) (ev_neg (by omega) ev_some) (fun i hi r h=>by
    refine ev_pos (by omega) ?_
    simp only [at?_nat hi,Option.bind_some,laws_eqIns.f,if_true]
    rw [w64_next (by omega)]
    exact h)
theorem eqCodeS_ev (xs:List SCode) (hn:xs.length ≤ 1048576) (hs:∀ x ∈ xs,x.f4.length ≤ 1048576):Evr (fun k=>laws_eqCodeS.f k xs xs) true:=by
  unfold laws_eqCodeS.f laws_eqCodeS.e2
  refine ev_pos rfl (ev_bind (.inr ()) ?_ ev_some)
  exact ev_same xs (fun k i=>laws_eqCodeS.l1 k xs xs i) _ (by omega) (ev_neg (by omega) ev_some) (fun i hi r h=>by
    refine ev_pos (by omega) ?_
    simp only [at?_nat hi,Option.bind_some]
    refine ev_bind true ?_ ?_
    · unfold laws_eqCode.f
      exact ev_pos rfl (ev_pos rfl (ev_pos rfl (ev_pos rfl (ev_bind true (eqInsS_ev _ (hs _ (List.getElem_mem hi))) ev_some))))
    · rw [w64_next (by omega)]
      exact ev_pos rfl h)
end Go.Proofs.YtoclajfeeebbbadGreatDoor.V
