/- Interfaces: their bound, copy and comparison in a law. -/
import Derived.Test.YtoclajfeeebbbabGreatDoorPlIFnExactReadInterface
set_option linter.unusedVariables false
set_option linter.unusedSimpArgs false
namespace Go.Proofs.YtoclajfeeebbbabGreatDoor.E
open Go.RowKit Go.Proofs.YtoclajfeeebbbabGreatDoor.V

/-- The bound: too large, or of a size that fits. -/
theorem eqParamS_ev (xs : List SParam) (hn : xs.length ≤ 1048576) : Evr (fun k => laws_eqParamS.f k xs xs) true := by
  unfold laws_eqParamS.f laws_eqParamS.e2
  refine ev_pos rfl (ev_bind (.inr ()) ?_ ev_some)
  exact ev_same xs (fun k i => laws_eqParamS.l1 k xs xs i) _ (by omega) (ev_neg (by omega) ev_some) (fun i hi r h => by
    refine ev_pos (by omega) ?_
    simp only [at?_nat hi, Option.bind_some]
    refine ev_bind true (ev_of fun k => ?_) ?_
    · unfold laws_eqParam.f laws_eqParam.e1
      cases xs[i].f1 <;> simp
    · rw [w64_next (by omega)]
      exact ev_pos rfl h)
theorem eqItemS_ev (xs : List SItem) (hn : xs.length ≤ 1048576) (hs : ∀ x ∈ xs, x.f5.length ≤ 1048576) : Evr (fun k => laws_eqItemS.f k xs xs) true := by
  unfold laws_eqItemS.f laws_eqItemS.e2
  refine ev_pos rfl (ev_bind (.inr ()) ?_ ev_some)
  exact ev_same xs (fun k i => laws_eqItemS.l1 k xs xs i) _ (by omega) (ev_neg (by omega) ev_some) (fun i hi r h => by
    refine ev_pos (by omega) ?_
    simp only [at?_nat hi, Option.bind_some]
    refine ev_bind true ?_ ?_
    · unfold laws_eqItem.f
      exact ev_pos rfl (ev_pos rfl (ev_pos rfl (ev_pos rfl (ev_pos rfl (ev_bind true (eqParamS_ev _ (hs _ (List.getElem_mem hi))) ev_some)))))
    · rw [w64_next (by omega)]
      exact ev_pos rfl h)
theorem eqFace_ev (x0 : SFace) (hn : x0.f1.length ≤ 1048576) (hs : ∀ x ∈ x0.f1, x.f5.length ≤ 1048576) : Evr (fun k => laws_eqInterface.f k x0 x0) true := by
  unfold laws_eqInterface.f
  exact ev_pos rfl (ev_bind true (eqItemS_ev _ hn hs) ev_some)
end Go.Proofs.YtoclajfeeebbbabGreatDoor.E
