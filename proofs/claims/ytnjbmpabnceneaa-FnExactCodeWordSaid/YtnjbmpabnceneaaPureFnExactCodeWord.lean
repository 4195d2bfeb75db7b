/- The program's CodeWord returns what the reference's returns. For every int. -/
import Derived.Test.YtnjbmpabnceneaaPFnExactCodeWordx1
namespace Go.Proofs.Ytnjbmpabnceneaa.Pure
open Go.RowKit Go.Proofs.Ytnjbmpabnceneaa.PFnExactCodeWord Go.Proofs.YtnjbmpabnceneaaW.PrintWords Go.Proofs.YtnjbmpabnceneaaW.PrintLast

theorem FnExactCodeWord : laws_FnExactCodeWord.Pure := by
  intro a0 _
  unfold laws_FnExactCodeWord.f spec_CodeWord.f impl_CodeWord.f impl_within.f impl_codeWords.f
  simp only [Option.bind_some, List.length_cons, List.length_nil]
  by_cases h1 : a0 < 0
  · have h2 : ¬ (0 ≤ a0) := by omega
    simp [h1, h2]
  · have h2 : 0 ≤ a0 := by omega
    by_cases h3 : a0 ≤ 18
    · have h4 : ¬ (19 ≤ a0) := by omega
      have h5 : a0 < 19 := by omega
      simp [h1, h2, h3, h4, h5]
    · have h4 : 19 ≤ a0 := by omega
      simp [h1, h2, h3, h4]

end Go.Proofs.Ytnjbmpabnceneaa.Pure
