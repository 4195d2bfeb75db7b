/- The law of ObjectBytes, in plain Lean: both answer alike, and the answer keeps what is marked. -/
import Derived.Test.YtoclajfeeebbbacGreatDoorPlQoFnExactObjectBytes
import Derived.Test.YtoclajfeeebbbacGreatDoorPlOsFnExactObjectBytes
import Derived.Test.YtoclajfeeebbbacGreatDoorPlRoFnExactObjectBytes
set_option linter.unusedVariables false
set_option linter.unusedSimpArgs false
namespace Go.Proofs.YtoclajfeeebbbacGreatDoor.E
open Go.RowKit Go.Proofs.YtoclajfeeebbbacGreatDoor.V
theorem markO_ev (o : SObj) (hs : SmallO o) : ∃ n : Nat, Evr (fun k => laws_markObject.f k o 1) (n : Int) := by
  have h1 := endN_eq o.f2 1
  have h2 := endN_eq o.f3 (endN o.f2 1)
  have h3 := endC_max (M := 1048576) o.f4 (endN o.f3 (endN o.f2 1)) fun c hc => (hs.proc c hc).len
  have h4 : (4 + 5 * 1048576) * o.f4.length ≤ (4 + 5 * 1048576) * 1048576 := Nat.mul_le_mul_left _ hs.procs
  have n2 := hs.needs
  have n3 := hs.globs
  have n4 := hs.procs
  have a := markN_ev o.f2 1 (by omega) (by omega)
  have b := markG_ev o.f3 (endN o.f2 1) (by omega) (by omega)
  have c := markC_loop o.f4 [] (endN o.f3 (endN o.f2 1)) (by simp; omega) (by omega) fun x hx => by have := (hs.proc x hx).len; omega
  refine ⟨endC o.f4 (endN o.f3 (endN o.f2 1)), ?_⟩
  unfold laws_markObject.f
  exact ev_bind _ a (ev_bind _ b (ev_bind _ c ev_some))
theorem pureFnExactObjectBytes (x0 : SObj) (h0 : gSObj x0) : ∃ k, laws_FnExactObjectBytes.f k x0 = some true := by
  refine Evr.rounds (g := fun k => laws_FnExactObjectBytes.f k x0) ?_
  obtain ⟨t, ht, hb⟩ := szObject_ev x0 h0
  unfold laws_FnExactObjectBytes.f
  refine ev_bind _ ht (ev_ite (fun _ => ev_some) (fun hneg => ?_))
  have hs : SmallO x0 := by
    rcases hb with h | h
    · exact absurd h hneg
    · exact h
  obtain ⟨z, hc⟩ := toObject_ev x0 hs
  obtain ⟨ha, hr⟩ := bytesO_ev x0 hs
  have hl := bytesO_len x0
  have hq := eqB_ev (bytesO x0).1 (by omega)
  have e1 : Evr (fun k => laws_FnExactObjectBytes.e1 k (bytesO x0) (bytesO x0)) false := by
    unfold laws_FnExactObjectBytes.e1
    exact ev_bind _ hq (ev_pos rfl (ev_const (by simp)))
  have e3 : Evr (fun k => laws_FnExactObjectBytes.e3 k (bytesO x0) (bytesO x0)) false := by
    unfold laws_FnExactObjectBytes.e3
    exact ev_bind _ hq (ev_pos rfl (ev_const (by simp)))
  obtain ⟨r, hm⟩ := markO_ev x0 hs
  have e2 : Evr (fun k => laws_FnExactObjectBytes.e2 k (bytesO x0) (bytesO x0) (r : Int)) false := by
    unfold laws_FnExactObjectBytes.e2
    exact ev_neg (by omega) (ev_bind _ hq (ev_pos rfl (ev_const (by simp))))
  have hmb := markB_ev (bytesO x0).1 (by omega)
  have hhb := heldB_ev (bytesO x0).1.length (by omega)
  refine ev_bind _ hc (ev_bind _ ha (ev_bind _ hc (ev_bind _ hr (ev_bind false e1 (ev_neg (by simp) ?_)))))
  refine ev_bind _ hc (ev_bind true (eqObject_ev x0 hs) (ev_pos rfl ?_))
  refine ev_bind _ hm (ev_bind false e2 (ev_neg (by simp) ?_))
  refine ev_bind _ hmb (ev_bind _ hhb (ev_neg (by omega) (ev_pos rfl ?_)))
  refine ev_bind _ hc (ev_bind _ hr (ev_bind false e3 (ev_neg (by simp) ?_)))
  exact ev_bind _ hhb (ev_neg (by omega) (ev_pos rfl ev_some))
end Go.Proofs.YtoclajfeeebbbacGreatDoor.E
