-- PRINTED BY gp.py, a program of this session over the kit's printer; Lean checks it.
import Derived.Test.YtnjbmpabnceneaaDoorPFnExactFilesOKx0
import Derived.Test.YtnjbmpabnceneaaDoorPFnExactFilesOKx1
import Derived.Test.YtnjbmpabnceneaaDoorPFnExactFilesOKx2
import Derived.Test.YtnjbmpabnceneaaDoorPFnExactFilesOKx3
import Derived.Test.YtnjbmpabnceneaaDoorPFnExactFilesOKx4
import Derived.Test.YtnjbmpabnceneaaDoorPFnExactFilesOKx5
import Derived.Test.YtnjbmpabnceneaaDoorPFnExactFilesOKx6
namespace Go.Proofs.YtnjbmpabnceneaaDoor.PFnExactFilesOK
open Go.Proofs.YtnjbmpabnceneaaDoorW.Fnv
open Go.RowKit Go.Proofs.YtnjbmpabnceneaaDoorW.PrintWords Go.Proofs.YtnjbmpabnceneaaDoorW.PrintLast Go.Proofs.YtnjbmpabnceneaaDoorW.PrintMore
attribute [local go_sem] max2_int min2_int max_two min_two max_three min_three max_four min_four   -- for this text's walks alone
set_option linter.unusedVariables false
set_option linter.unusedSimpArgs false

end Go.Proofs.YtnjbmpabnceneaaDoor.PFnExactFilesOK
