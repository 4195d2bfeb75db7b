-- PRINTED BY gp.py, a program of this session over the kit's printer; Lean checks it.
import Derived.Test.YtnjbmpabnceneaaProg
import Derived.Below
import Derived.Deep.Draws
import Derived.Deep.AppendLies
import Derived.Maps.AppendAt
import Derived.OwnWalk
import Derived.Laws.BytesArg
import Derived.Laws.MakeOwn
import Derived.Laws.OwnMore
import Derived.Deep.OwnRows
import Derived.Tactics
import Derived.Lib.ConvBytes
import Derived.Laws.Slices
import Derived.WalkKit
import Derived.KernelRfl
import Derived.RowKit3
import Derived.Deep.LoopGhost
import Derived.Deep.QuietTactic
import Derived.BigQuiet
import Derived.WideLaws
import Derived.Deep.DeepCutAuto
import Derived.Deep.CutBlock
import Derived.Deep.RegionHeld3
import Derived.Laws.Rows
import Derived.Lib.AppendStr
import Derived.ArgAppend
import Derived.Laws.IdiomCopy
import Derived.OrdersHeld
import Derived.Laws.BitsLemmas
import Derived.RowKit
import Derived.Test.YtnjbmpabnceneaaOpn
import Derived.Test.YtnjbmpabnceneaaFnv
import Derived.Test.YtnjbmpabnceneaaWWords
import Derived.Test.YtnjbmpabnceneaaWLast
import Derived.Test.YtnjbmpabnceneaaWTab
import Derived.Test.YtnjbmpabnceneaaWFour
import Derived.Test.YtnjbmpabnceneaaWQPut
import Derived.Test.YtnjbmpabnceneaaWApart
import Derived.Test.YtnjbmpabnceneaaWArr
import Derived.Test.YtnjbmpabnceneaaWZeros
import Derived.Test.YtnjbmpabnceneaaWFoot
import Derived.Test.YtnjbmpabnceneaaWKept
import Derived.Test.YtnjbmpabnceneaaWShare
import Derived.Test.YtnjbmpabnceneaaWN
import Derived.Test.YtnjbmpabnceneaaWFootNe
import Derived.Test.YtnjbmpabnceneaaWAt
import Derived.Test.YtnjbmpabnceneaaWEqStruct
import Derived.Test.YtnjbmpabnceneaaWRepsOne
import Derived.Test.YtnjbmpabnceneaaWInv
import Derived.Test.YtnjbmpabnceneaaWInvWords
import Derived.Test.YtnjbmpabnceneaaWGuard
import Derived.Test.YtnjbmpabnceneaaWNEv
import Derived.Test.YtnjbmpabnceneaaWMore
namespace Go.Proofs.Ytnjbmpabnceneaa.PFnExactNameOK
open Go.Proofs.YtnjbmpabnceneaaW.Fnv
open Go.RowKit Go.Proofs.YtnjbmpabnceneaaW.PrintWords Go.Proofs.YtnjbmpabnceneaaW.PrintLast Go.Proofs.YtnjbmpabnceneaaW.PrintMore
attribute [local go_sem] max2_int min2_int max_two min_two max_three min_three max_four min_four   -- for this text's walks alone
set_option linter.unusedVariables false
set_option linter.unusedSimpArgs false



def errW : Option Int → Value
  | none => .nilIface
  | some c => .iface 0 (.int .i64 c)
theorem errW_none : errW none = .nilIface := rfl
theorem errW_some (c : Int) : errW (some c) = .iface 0 (.int .i64 c) := rfl

-- the values' own types


end Go.Proofs.Ytnjbmpabnceneaa.PFnExactNameOK
