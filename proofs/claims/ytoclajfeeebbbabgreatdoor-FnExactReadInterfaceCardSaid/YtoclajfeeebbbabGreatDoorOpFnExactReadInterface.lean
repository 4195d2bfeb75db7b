/- What reads as this law's arguments. -/
import Derived.Test.YtoclajfeeebbbabGreatDoorZFnExactReadInterface
set_option linter.unusedVariables false
namespace Go.Proofs.YtoclajfeeebbbabGreatDoor.E
open Go.RowKit Go.WideShapes
instance lentNone : Lent := ⟨[]⟩
end Go.Proofs.YtoclajfeeebbbabGreatDoor.E
