/- What reads as this law's arguments. -/
import Derived.Test.YtgiiholpgpfgkaaGreatDoorPFnExactTokens0
set_option linter.unusedVariables false
namespace Go.Proofs.YtgiiholpgpfgkaaGreatDoor.E
open Go.RowKit Go.WideShapes
end Go.Proofs.YtgiiholpgpfgkaaGreatDoor.E
