/- Every exported constant of the program is the document's. No condition. -/
import Derived.Test.YtnjbmpabnceneaaPFnExactConstantsx1
namespace Go.Proofs.Ytnjbmpabnceneaa.Pure
open Go.RowKit Go.Proofs.Ytnjbmpabnceneaa.PFnExactConstants Go.Proofs.YtnjbmpabnceneaaW.PrintWords Go.Proofs.YtnjbmpabnceneaaW.PrintLast

theorem FnExactConstants : laws_FnExactConstants.Pure := by
  rfl

end Go.Proofs.Ytnjbmpabnceneaa.Pure
