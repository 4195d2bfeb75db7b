/- The law of InterfaceBytes, in plain Lean: both answer alike, and the answer keeps what is marked. -/
import Derived.Test.YtoclajfeeebbbaaGreatDoorPlPlFnExactInterfaceBytes
import Derived.Test.YtoclajfeeebbbaaGreatDoorPlJFnExactInterfaceBytes
import Derived.Test.YtoclajfeeebbbaaGreatDoorPlMiFnExactInterfaceBytes
set_option linter.unusedVariables false
set_option linter.unusedSimpArgs false
namespace Go.Proofs.YtoclajfeeebbbaaGreatDoor.E
open Go.RowKit Go.Proofs.YtoclajfeeebbbaaGreatDoor.V
def bytesM (c : SFace) : List Int × Int := if faceB c = true then (faceL c, 0) else ([], 1)
theorem bytes_ev (c : SFace) (h0 : c.f0.size < 9223372036854775807) (hn : c.f1.length ≤ 1048576) (hs : ∀ x ∈ c.f1, x.f4.size < 9223372036854775807 ∧ x.f5.length < 9223372036854775807) :
    Evr (fun k => spec_InterfaceBytes.f k c) (bytesM c) ∧ Evr (fun k => impl_InterfaceBytes.f k c) (bytesM c) ∧ (bytesM c).1.length ≤ 1000000 := by
  unfold spec_InterfaceBytes.f impl_InterfaceBytes.f bytesM
  have a := sface_ev c hn hs
  have b := iface_ev c h0 hn hs
  by_cases h : faceB c = true
  · have hf := fitI h
    have hl := faceL_len c hf
    rw [if_pos h]
    refine ⟨ev_bind _ a (ev_pos h (ev_bind _ (sbytes_ev c hf) ev_some)), ev_bind _ b (ev_pos h (ev_bind _ (ibytes_ev c hf) (ev_pos ?_ ?_))), hl⟩
    · rw [size_bytes, bytes_str (faceL_ok c)]; omega
    · rw [bytes_str (faceL_ok c)]; exact ev_some
  · rw [if_neg h]
    exact ⟨ev_bind _ a (ev_neg h ev_some), ev_bind _ b (ev_neg h ev_some), by simp⟩
theorem pureFnExactInterfaceBytes (x0 : SFace) (h0 : gSFace x0) : ∃ k, laws_FnExactInterfaceBytes.f k x0 = some true := by
  refine Evr.rounds (g := fun k => laws_FnExactInterfaceBytes.f k x0) ?_
  obtain ⟨t, ht, hb⟩ := szFace_ev x0 h0
  unfold laws_FnExactInterfaceBytes.f
  refine ev_bind _ ht (ev_ite (fun _ => ev_some) (fun hneg => ?_))
  obtain ⟨hn, hs0, hsx⟩ : x0.f1.length ≤ 1048576 ∧ x0.f0.size ≤ 1048576 ∧ ∀ x ∈ x0.f1, x.f4.size ≤ 1048576 ∧ x.f5.length ≤ 1048576 := by
    rcases hb with h | h
    · exact absurd h hneg
    · exact h
  obtain ⟨z, hc⟩ := toFace_ev x0 hn fun x hx => (hsx x hx).2
  obtain ⟨ha, hr, hl⟩ := bytes_ev x0 (by omega) hn (fun x hx => by have := hsx x hx; omega)
  have hq := eqB_ev (bytesM x0).1 (by omega)
  have e1 : Evr (fun k => laws_FnExactInterfaceBytes.e1 k (bytesM x0) (bytesM x0)) false := by
    unfold laws_FnExactInterfaceBytes.e1
    exact ev_bind _ hq (ev_pos rfl (ev_const (by simp)))
  have e3 : Evr (fun k => laws_FnExactInterfaceBytes.e3 k (bytesM x0) (bytesM x0)) false := by
    unfold laws_FnExactInterfaceBytes.e3
    exact ev_bind _ hq (ev_pos rfl (ev_const (by simp)))
  have hm : ∃ r : Nat, Evr (fun k => laws_markInterface.f k x0 1) (r : Int) := by
    have hle := totI_le (x0.f1.map (·.f5)) 1048576 fun p hp => by obtain ⟨x, hx, rfl⟩ := List.mem_map.1 hp; exact (hsx x hx).2
    rw [List.length_map] at hle
    have hle2 : x0.f1.length * (5 + 2 * 1048576) ≤ 1048576 * (5 + 2 * 1048576) := Nat.mul_le_mul_right _ hn
    have := mkI_loop (x0.f1.map (·.f5)) (by simpa using hn) (x0.f1.map (·.f5)).length 0 1 (by simp) (by rw [List.drop_zero]; omega)
    exact ⟨_, this⟩
  obtain ⟨r, hm⟩ := hm
  have e2 : Evr (fun k => laws_FnExactInterfaceBytes.e2 k (bytesM x0) (bytesM x0) (r : Int)) false := by
    unfold laws_FnExactInterfaceBytes.e2
    exact ev_neg (by omega) (ev_bind _ hq (ev_pos rfl (ev_const (by simp))))
  have hmb := markB_ev (bytesM x0).1 (by omega)
  have hhb := heldB_ev (bytesM x0).1.length (by omega)
  refine ev_bind _ hc (ev_bind _ ha (ev_bind _ hc (ev_bind _ hr (ev_bind false e1 (ev_neg (by simp) ?_)))))
  refine ev_bind _ hc (ev_bind true (eqFace_ev x0 hn fun x hx => (hsx x hx).2) (ev_pos rfl ?_))
  refine ev_bind _ hm (ev_bind false e2 (ev_neg (by simp) ?_))
  refine ev_bind _ hmb (ev_bind _ hhb (ev_neg (by omega) (ev_pos rfl ?_)))
  refine ev_bind _ hc (ev_bind _ hr (ev_bind false e3 (ev_neg (by simp) ?_)))
  exact ev_bind _ hhb (ev_neg (by omega) (ev_pos rfl ev_some))
end Go.Proofs.YtoclajfeeebbbaaGreatDoor.E
