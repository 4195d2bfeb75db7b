/- What reads as this law's arguments. -/
import Derived.Test.YtdoenfpleokadaaGreatDoorPFnFaces1
set_option linter.unusedVariables false
namespace Go.Proofs.YtdoenfpleokadaaGreatDoor.E
open Go.RowKit Go.WideShapes
end Go.Proofs.YtdoenfpleokadaaGreatDoor.E
