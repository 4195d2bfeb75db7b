-- PRINTED BY gp.py, a program of this session over the kit's printer; Lean checks it.
import Derived.Test.YtaikjjlbfdkgmaaDoorPFnExactBuiltTextx0
import Derived.Test.YtaikjjlbfdkgmaaDoorPFnExactBuiltTextx1
import Derived.Test.YtaikjjlbfdkgmaaDoorPFnExactBuiltTextx2
import Derived.Test.YtaikjjlbfdkgmaaDoorPFnExactBuiltTextx3
import Derived.Test.YtaikjjlbfdkgmaaDoorPFnExactBuiltTextx4
import Derived.Test.YtaikjjlbfdkgmaaDoorPFnExactBuiltTextx5
import Derived.Test.YtaikjjlbfdkgmaaDoorPFnExactBuiltTextx6
import Derived.Test.YtaikjjlbfdkgmaaDoorPFnExactBuiltTextx7
import Derived.Test.YtaikjjlbfdkgmaaDoorPFnExactBuiltTextx8
namespace Go.Proofs.YtaikjjlbfdkgmaaDoor.PFnExactBuiltText
open Go.Proofs.YtaikjjlbfdkgmaaDoorW.Fnv
open Go.RowKit Go.Proofs.YtaikjjlbfdkgmaaDoorW.PrintWords Go.Proofs.YtaikjjlbfdkgmaaDoorW.PrintLast Go.Proofs.YtaikjjlbfdkgmaaDoorW.PrintMore
attribute [local go_sem] max2_int min2_int max_two min_two max_three min_three max_four min_four   -- for this text's walks alone
set_option linter.unusedVariables false
set_option linter.unusedSimpArgs false

end Go.Proofs.YtaikjjlbfdkgmaaDoor.PFnExactBuiltText
