/- What reads as this law's arguments. -/
import Derived.Test.YthpacjlaeknidabGreatDoorPFnChars0
set_option linter.unusedVariables false
namespace Go.Proofs.YthpacjlaeknidabGreatDoor.E
open Go.RowKit Go.WideShapes
end Go.Proofs.YthpacjlaeknidabGreatDoor.E
