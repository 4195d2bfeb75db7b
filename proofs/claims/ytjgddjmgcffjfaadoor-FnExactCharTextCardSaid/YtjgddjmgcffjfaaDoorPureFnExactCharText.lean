import Derived.Test.YtjgddjmgcffjfaaDoorPlHFnExactCharText
set_option linter.unusedVariables false
namespace Go.Proofs.YtjgddjmgcffjfaaDoor.E
open Go.RowKit Go.Proofs.YtjgddjmgcffjfaaDoor.H
theorem pureFnExactCharText (x0 : Int) (h0 : (Lit.int .i64 x0).wf = true) : ∃ k, laws_FnExactCharText.f k x0 = some true := by
  refine Evr.rounds ?_
  have key : ∃ r, Evr (fun k => spec_CharText.f k x0) r ∧ ∀ k, impl_CharText.f k x0 = some r := by
    by_cases h : chB x0 = true
    · refine ⟨(chT x0, 0), ?_, fun k => ?_⟩
      · unfold spec_CharText.f
        exact ev_bind true (ev_of fun k => (sCh k x0).trans (by rw [h])) (ev_pos rfl (ev_bind _ (sChar h) ev_some))
      · unfold impl_CharText.f
        rw [iCh, h, Option.bind_some, if_pos rfl, iChar k h]; rfl
    · have h' : chB x0 = false := by simpa using h
      refine ⟨((⟨#[]⟩ : ByteArray), 11), ?_, fun k => ?_⟩
      · unfold spec_CharText.f
        exact ev_bind false (ev_of fun k => (sCh k x0).trans (by rw [h'])) (ev_neg (by simp) ev_some)
      · unfold impl_CharText.f
        rw [iCh, h', Option.bind_some, if_neg (by simp)]
  obtain ⟨r, h1, h2⟩ := key
  unfold laws_FnExactCharText.f
  refine ev_bind r h1 (ev_bind r (ev_of h2) (ev_bind false (ev_of fun k => ?_) (ev_neg (by simp) ev_some)))
  simp [laws_FnExactCharText.e1]
end Go.Proofs.YtjgddjmgcffjfaaDoor.E
