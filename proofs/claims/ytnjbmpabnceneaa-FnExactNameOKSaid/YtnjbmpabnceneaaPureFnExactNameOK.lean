/- The program's NameOK returns what the reference's returns. For every text (longer ones than 2 to the 20 bytes: the statement answers true at once). -/
import Derived.Test.YtnjbmpabnceneaaNameFnExactNameOK
set_option linter.unusedVariables false
set_option linter.unusedSimpArgs false
namespace Go.Proofs.Ytnjbmpabnceneaa.Pure
open Go.RowKit Go.Proofs.Ytnjbmpabnceneaa.PFnExactNameOK Go.Proofs.Ytnjbmpabnceneaa.NmFnExactNameOK Go.Proofs.YtnjbmpabnceneaaW.PrintWords Go.Proofs.YtnjbmpabnceneaaW.PrintLast Go.Proofs.YtnjbmpabnceneaaW.Loops

theorem FnExactNameOK : laws_FnExactNameOK.Pure := by
  intro a h
  refine Ev.rounds (g := fun k => laws_FnExactNameOK.f k a) ?_
  unfold laws_FnExactNameOK.f
  by_cases h1 : (a.size : Int) > 1048576
  · exact ev_if_pos h1 ev_some
  · refine ev_if_neg h1 (ev_bind _ (specName_ev a) (ev_bind _ (implName_ev a (by omega)) ?_))
    simpa using ev_some

end Go.Proofs.Ytnjbmpabnceneaa.Pure
