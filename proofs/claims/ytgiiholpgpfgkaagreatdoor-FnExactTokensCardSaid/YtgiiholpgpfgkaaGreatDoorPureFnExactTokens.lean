/- The law of Tokens: what both compute is one answer; the marks that are written into the first answer are held, behind a second call too. -/
import Derived.Test.YtgiiholpgpfgkaaGreatDoorPlTk9FnExactTokens
import Derived.Test.YtgiiholpgpfgkaaGreatDoorPlTmFnExactTokens
set_option linter.unusedVariables false
set_option linter.unusedSimpArgs false
namespace Go.Proofs.YtgiiholpgpfgkaaGreatDoor.E
open Go.RowKit
theorem same_e1 (r : List STok × Int × Int) (h : r.1.length ≤ 1200) : Evr (fun k => laws_FnExactTokens.e1 k r r) false := by
  unfold laws_FnExactTokens.e1
  refine ev_bind _ (same_ev r.1 h) (ev_pos rfl (ev_pos rfl (ev_of fun k => ?_)))
  simp
theorem pureFnExactTokens (x0 : ByteArray) (h0 : x0.size ≤ maxLen) : ∃ k, laws_FnExactTokens.f k x0 = some true := by
  refine Evr.rounds ?_
  unfold laws_FnExactTokens.f
  refine ev_ite (fun _ => ev_some) fun hs => ?_
  obtain ⟨r, hl, h1, h2⟩ := tokens_both x0 (by omega)
  refine ev_bind _ h1 (ev_bind _ h2 (ev_bind _ (same_e1 r hl) (ev_neg (by simp) ?_)))
  refine ev_bind _ (mark_ev r.1 hl) ?_
  have hh := held_ev r.1.length hl
  refine ev_bind _ hh (ev_neg (by omega) (ev_pos rfl ?_))
  refine ev_bind _ h2 (ev_bind _ (same_e1 r hl) (ev_neg (by simp) ?_))
  exact ev_bind _ hh (ev_neg (by omega) (ev_pos rfl ev_some))
end Go.Proofs.YtgiiholpgpfgkaaGreatDoor.E
