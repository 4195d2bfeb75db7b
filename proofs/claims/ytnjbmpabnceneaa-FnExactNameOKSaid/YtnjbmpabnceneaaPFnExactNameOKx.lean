-- PRINTED BY gp.py, a program of this session over the kit's printer; Lean checks it.
import Derived.Test.YtnjbmpabnceneaaPFnExactNameOKx0
import Derived.Test.YtnjbmpabnceneaaPFnExactNameOKx1
import Derived.Test.YtnjbmpabnceneaaPFnExactNameOKx2
namespace Go.Proofs.Ytnjbmpabnceneaa.PFnExactNameOK
open Go.Proofs.YtnjbmpabnceneaaW.Fnv
open Go.RowKit Go.Proofs.YtnjbmpabnceneaaW.PrintWords Go.Proofs.YtnjbmpabnceneaaW.PrintLast Go.Proofs.YtnjbmpabnceneaaW.PrintMore
attribute [local go_sem] max2_int min2_int max_two min_two max_three min_three max_four min_four   -- for this text's walks alone
set_option linter.unusedVariables false
set_option linter.unusedSimpArgs false

end Go.Proofs.Ytnjbmpabnceneaa.PFnExactNameOK
