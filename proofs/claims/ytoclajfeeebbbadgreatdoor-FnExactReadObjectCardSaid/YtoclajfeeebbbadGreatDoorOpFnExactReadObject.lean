/- What reads as this law's arguments. -/
import Derived.Test.YtoclajfeeebbbadGreatDoorZFnExactReadObject
set_option linter.unusedVariables false
namespace Go.Proofs.YtoclajfeeebbbadGreatDoor.E
open Go.RowKit Go.WideShapes
instance lentNone : Lent := ⟨[]⟩
end Go.Proofs.YtoclajfeeebbbadGreatDoor.E
