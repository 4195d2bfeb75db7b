/- The program's EndText returns what the reference's returns, and leaves its argument alone. For every Result (a longer list than 2 to the 20: the statement answers true at once). -/
import Derived.Test.YtnjbmpabnceneaaPFnExactEndTextx
import Derived.Test.YtnjbmpabnceneaaLoops
set_option linter.unusedVariables false
set_option linter.unusedSimpArgs false
namespace Go.Proofs.Ytnjbmpabnceneaa.Pure
open Go.RowKit Go.Proofs.Ytnjbmpabnceneaa.PFnExactEndText Go.Proofs.YtnjbmpabnceneaaW.PrintWords Go.Proofs.YtnjbmpabnceneaaW.PrintLast Go.Proofs.YtnjbmpabnceneaaW.Loops

def cvOut (x : S67) : S65 := ⟨x.f0, x.f1⟩

theorem toOutS_ev (l : List S67) (h : l.length ≤ 1048576) : Ev (fun k => laws_toOutS.f k l) (l.map cvOut) := by
  unfold laws_toOutS.f
  refine ev_if_pos (by omega) (ev_if_pos (by omega) ?_)
  have e : ((l.length : Int) : Int).toNat = l.length := by omega
  rw [e]
  refine map_loop l z67 cvOut _ (fun _ x => some (cvOut x)) (fun k acc i => laws_toOutS.l0 k l acc i) ?_ (fun x _ => ev_some) (by omega)
  intro k acc i
  simp only [laws_toOutS.l0, laws_toOut.f, Option.bind_some]
  rfl

theorem eqOutS_ev (l : List S65) (h : l.length ≤ 1048576) : Ev (fun k => laws_eqOutS.f k l l) true := by
  unfold laws_eqOutS.f
  refine ev_if_pos rfl ?_
  refine same_loop l z65 (fun _ x y => laws_eqOut.f x.f0 x.f1 y.f0 y.f1) (fun k i => laws_eqOutS.l0 k l l i) ?_ (fun x _ => ev_const (by simp [laws_eqOut.f])) (by omega)
  intro k i
  simp only [laws_eqOutS.l0]
  rfl

theorem toResult_ev (a b c : Int) (l : List S67) (h : l.length ≤ 1048576) : Ev (fun k => laws_toResult.f k a b l c) (a, b, l.map cvOut, c) := by
  unfold laws_toResult.f
  exact ev_bind _ (toOutS_ev l h) ev_some

theorem trap_at (b : Int) (l : List S65) (c : Int) (h : b = 1 ∨ b = 2 ∨ b = 3 ∨ b = 4 ∨ b = 5) : ∃ r, impl_endText.f 2 b l c = some r ∧ spec_l08End.f 2 b l c = some r := by
  have hw : wrap64 (b - 1) = b - 1 := by unfold wrap64; omega
  unfold impl_endText.f spec_l08End.f
  rw [hw]
  rcases h with rfl | rfl | rfl | rfl | rfl <;> exact ⟨_, rfl, rfl⟩

theorem both (a b c : Int) (l : List S65) (wb : (Lit.int .i64 b).wf = true) : ∃ r, spec_EndText.f a b l c = some r ∧ impl_EndText.f a b l c = some r := by
  have hb : -9223372036854775808 ≤ b ∧ b ≤ 9223372036854775807 := wf_i64 wb
  unfold spec_EndText.f impl_EndText.f spec_l01In.f impl_within.f
  by_cases h1 : 1 ≤ a
  · by_cases h2 : a ≤ 4
    · by_cases h3 : 1 ≤ b
      · by_cases h4 : b ≤ 5
        · by_cases h5 : a = 2
          · subst h5
            obtain ⟨r, e1, e2⟩ := trap_at b l c (by omega)
            exact ⟨(r, 0), by simp [h3, h4, e2], by simp [h3, h4, e1]⟩
          · refine ⟨(⟨#[]⟩, 1), ?_, ?_⟩ <;> simp [h1, h2, h3, h4, h5]
        · by_cases h5 : a = 2
          · subst h5
            refine ⟨(⟨#[]⟩, 1), ?_, ?_⟩ <;> simp [h1, h2, h3, h4]
          · have hc : a = 1 ∨ a = 3 ∨ a = 4 := by omega
            rcases hc with rfl | rfl | rfl <;> simp [h3, h4, spec_l08End.f, impl_endText.f]
      · by_cases h5 : a = 2
        · subst h5
          refine ⟨(⟨#[]⟩, 1), ?_, ?_⟩ <;> simp [h1, h2, h3]
        · have hc : a = 1 ∨ a = 3 ∨ a = 4 := by omega
          rcases hc with rfl | rfl | rfl <;> simp [h3, spec_l08End.f, impl_endText.f]
    · refine ⟨(⟨#[]⟩, 1), ?_, ?_⟩
      · simp [h1, h2]
      · by_cases h3 : 1 ≤ b <;> simp [h1, h2, h3]
  · refine ⟨(⟨#[]⟩, 1), ?_, ?_⟩
    · simp [h1]
    · by_cases h3 : 1 ≤ b <;> simp [h1, h3]

theorem FnExactEndText : laws_FnExactEndText.Pure := by
  intro x0 good
  obtain ⟨g0, g1, ⟨g2, _⟩, g3⟩ := good
  refine Ev.rounds (g := fun k => laws_FnExactEndText.f k x0.f0 x0.f1 x0.f2 x0.f3) ?_
  unfold laws_FnExactEndText.f
  have hm : (maxLen : Nat) = 9223372036854775807 := rfl
  by_cases h : x0.f2.length ≤ 1048576
  · have hw : wrap64 (1048576 - (x0.f2.length : Int)) = 1048576 - (x0.f2.length : Int) := by unfold wrap64; omega
    have hs : laws_szResult.f x0.f0 x0.f1 x0.f2 x0.f3 1048576 = some (1048576 - (x0.f2.length : Int)) := by
      unfold laws_szResult.f laws_szOutS.f
      rw [hw, if_neg (by omega)]
      simp only [Option.bind_some]
      rw [if_neg (by omega)]
    obtain ⟨r, h1, h2⟩ := both x0.f0 x0.f1 x0.f3 (x0.f2.map cvOut) g1
    refine ev_bind _ (ev_const hs) (ev_if_neg (by omega) ?_)
    refine ev_bind _ (toResult_ev x0.f0 x0.f1 x0.f3 x0.f2 h) ?_
    refine ev_bind _ (ev_const h1) ?_
    refine ev_bind _ (toResult_ev x0.f0 x0.f1 x0.f3 x0.f2 h) ?_
    refine ev_bind _ (ev_const h2) (ev_if_pos rfl ?_)
    have hne : (r.2 != r.2) = false := by simp
    rw [hne]
    refine ev_step (fun k => ((laws_toResult.f k x0.f0 x0.f1 x0.f2 x0.f3).bind fun bt164 => ((laws_eqResult.f k x0.f0 x0.f1 (x0.f2.map cvOut) x0.f3 bt164.1 bt164.2.1 bt164.2.2.1 bt164.2.2.2).bind fun t170 => (if t170 = true then (some true) else (some false))))) (fun k => by simp [laws_FnExactEndText.j0]) ?_
    refine ev_bind _ (toResult_ev x0.f0 x0.f1 x0.f3 x0.f2 h) ?_
    refine ev_bind true ?_ (ev_if_pos rfl ev_some)
    unfold laws_eqResult.f
    refine ev_if_pos rfl (ev_if_pos rfl ?_)
    exact ev_bind true (eqOutS_ev _ (by simpa using h)) (ev_if_pos rfl (ev_if_pos rfl ev_some))
  · have hw : wrap64 (1048576 - (x0.f2.length : Int)) = 1048576 - (x0.f2.length : Int) := by unfold wrap64; omega
    have hs : laws_szResult.f x0.f0 x0.f1 x0.f2 x0.f3 1048576 = some (-1) := by
      unfold laws_szResult.f laws_szOutS.f
      rw [hw, if_pos (by omega)]
      rfl
    exact ev_bind _ (ev_const hs) (ev_if_pos (by omega) ev_some)

end Go.Proofs.Ytnjbmpabnceneaa.Pure
