/- The law of ReadInterface, in plain Lean: both answer alike, and the answer keeps what is marked. -/
import Derived.Test.YtoclajfeeebbbabGreatDoorPlTwFnExactReadInterface
import Derived.Test.YtoclajfeeebbbabGreatDoorPlRmFnExactReadInterface
set_option linter.unusedVariables false
set_option linter.unusedSimpArgs false
namespace Go.Proofs.YtoclajfeeebbbabGreatDoor.E
open Go.RowKit Go.Proofs.YtoclajfeeebbbabGreatDoor.V
theorem toByteS_ev (xs : List Int) (hn : xs.length ≤ 1048576) : Evr (fun k => laws_toByteS.f k xs) xs := by
  unfold laws_toByteS.f laws_toByteS.e2
  refine ev_pos (by omega) (ev_bind _ ?_ ev_some)
  have := ev_copy xs id (0 : Int) (fun k acc i => laws_toByteS.l1 k xs acc i) (by omega) (fun acc _ => ev_neg (by omega) ev_some) (fun acc i hi ha r h => by
    refine ev_pos (by omega) ?_
    simp only [at?_nat hi, Option.bind_some, at?_nat (l := acc) (i := i) (by omega), Int.toNat_natCast]
    rw [w64_next (by omega)]
    exact h)
  simpa using this
theorem oct_of {l : List Int} (h : ∀ y_, y_ ∈ l → (Lit.int .u8 y_).wf = true) : Oct l := fun v hv => by
  have := h v hv
  simp [Lit.wf, IntKind.min, IntKind.max, IntKind.signed, IntKind.bits] at this
  omega
theorem pureFnExactReadInterface (x0 : List Int) (h0 : x0.length ≤ maxLen ∧ ∀ y_, y_ ∈ x0 → (Lit.int .u8 y_).wf = true) : ∃ k, laws_FnExactReadInterface.f k x0 = some true := by
  refine Evr.rounds (g := fun k => laws_FnExactReadInterface.f k x0) ?_
  have ho := oct_of h0.2
  unfold laws_FnExactReadInterface.f
  refine ev_ite (fun _ => ev_some) (fun hn => ?_)
  have hc := toByteS_ev x0 (by omega)
  obtain ⟨r, ⟨hr0, hr1, hr2⟩, hs, hi⟩ := both_ev ho
  have hq : Evr (fun k => laws_eqInterface.f k r.1 r.1) true := eqFace_ev r.1 (by omega) fun x hx => by have := (hr2 x hx).2; omega
  have e1 : Evr (fun k => laws_FnExactReadInterface.e1 k r r) false := by
    unfold laws_FnExactReadInterface.e1
    exact ev_bind _ hq (ev_pos rfl (ev_const (by simp)))
  have hmb := markB_ev x0 (by omega)
  have e2 : Evr (fun k => laws_FnExactReadInterface.e2 k r r ((1 + x0.length : Nat) : Int)) false := by
    unfold laws_FnExactReadInterface.e2
    exact ev_neg (by omega) (ev_bind _ hq (ev_pos rfl (ev_const (by simp))))
  obtain ⟨n, z, hm, hh⟩ := marks_face r.1 hr1 fun x hx => (hr2 x hx).2
  refine ev_bind _ hc (ev_bind _ hs (ev_bind _ hc (ev_bind _ hi (ev_bind false e1 (ev_neg (by simp) ?_)))))
  refine ev_bind _ hc (ev_bind true (eqB_ev x0 (by omega)) (ev_pos rfl ?_))
  refine ev_bind _ hmb (ev_bind false e2 (ev_neg (by simp) ?_))
  refine ev_bind _ hm (ev_bind _ hh (ev_neg (by omega) (ev_pos rfl ?_)))
  refine ev_bind _ hc (ev_bind _ hi (ev_bind false e1 (ev_neg (by simp) ?_)))
  exact ev_bind _ hh (ev_neg (by omega) (ev_pos rfl ev_some))
end Go.Proofs.YtoclajfeeebbbabGreatDoor.E
