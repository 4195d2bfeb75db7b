/- The program's IsKey returns what the reference's returns. For every text (longer ones than 2 to the 20 bytes: the statement answers true at once). -/
import Derived.Test.YtnjbmpabnceneaaDoorKeyFnExactIsKey
set_option linter.unusedVariables false
set_option linter.unusedSimpArgs false
namespace Go.Proofs.YtnjbmpabnceneaaDoor.Pure
open Go.RowKit Go.Proofs.YtnjbmpabnceneaaDoor.PFnExactIsKey Go.Proofs.YtnjbmpabnceneaaDoor.KyFnExactIsKey Go.Proofs.YtnjbmpabnceneaaDoorW.PrintWords Go.Proofs.YtnjbmpabnceneaaDoorW.PrintLast Go.Proofs.YtnjbmpabnceneaaDoorW.Loops

theorem FnExactIsKey : laws_FnExactIsKey.Pure := by
  intro a h
  refine Ev.rounds (g := fun k => laws_FnExactIsKey.f k a) ?_
  unfold laws_FnExactIsKey.f
  by_cases h1 : (a.size : Int) > 1048576
  · exact ev_if_pos h1 ev_some
  · refine ev_if_neg h1 (ev_bind _ (specKey_ev a) (ev_bind _ (implKey_ev a) ?_))
    simpa using ev_some

end Go.Proofs.YtnjbmpabnceneaaDoor.Pure
