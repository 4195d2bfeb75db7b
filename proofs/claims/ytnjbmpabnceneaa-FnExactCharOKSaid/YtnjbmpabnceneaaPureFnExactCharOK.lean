/- The program's CharOK returns what the reference's returns. For every int. -/
import Derived.Test.YtnjbmpabnceneaaPFnExactCharOKx1
namespace Go.Proofs.Ytnjbmpabnceneaa.Pure
open Go.RowKit Go.Proofs.Ytnjbmpabnceneaa.PFnExactCharOK Go.Proofs.YtnjbmpabnceneaaW.PrintWords Go.Proofs.YtnjbmpabnceneaaW.PrintLast

theorem FnExactCharOK : laws_FnExactCharOK.Pure := by
  intro a0 _
  unfold laws_FnExactCharOK.f spec_CharOK.f impl_CharOK.f spec_l01In.f impl_within.f
  by_cases h1 : 0 ≤ a0 <;> by_cases h2 : a0 ≤ 55295 <;> by_cases h3 : 57344 ≤ a0 <;> by_cases h4 : a0 ≤ 1114111 <;> by_cases h5 : a0 ≤ 57343 <;> by_cases h6 : 55296 ≤ a0 <;>
    first | omega | simp [h1, h2, h3, h4, h5, h6]

end Go.Proofs.Ytnjbmpabnceneaa.Pure
