/- What reads as this law's arguments. -/
import Derived.Test.YtjgddjmgcffjfaaDoorPFnExactCharText0
set_option linter.unusedVariables false
namespace Go.Proofs.YtjgddjmgcffjfaaDoor.E
open Go.RowKit Go.WideShapes
end Go.Proofs.YtjgddjmgcffjfaaDoor.E
