/- Marks in an interface: the count that they come to. -/
import Derived.Test.YtoclajfeeebbbaaGreatDoorPlMbFnExactInterfaceBytes
set_option linter.unusedVariables false
set_option linter.unusedSimpArgs false
namespace Go.Proofs.YtoclajfeeebbbaaGreatDoor.E
theorem markP_loop (l : List SParam) (N : Nat) (hl : N + 2 * l.length ≤ 4611686018427387000) : ∀ (m i : Nat) (z : List SParam), i + m = l.length → z.length = l.length → ∃ z', Evr (fun k => laws_markParamS_1.l1 k z ((N + 2 * i : Nat) : Int) (i : Int)) (z', ((N + 2 * l.length : Nat) : Int)) := by
  intro m
  induction m with
  | zero =>
    intro i z hi hz
    obtain rfl : i = l.length := by omega
    refine ⟨z, ev_step _ (fun k => ?_) ev_some⟩
    rw [laws_markParamS_1.l1.eq_2, if_neg (by omega)]
  | succ m ih =>
    intro i z hi hz
    have e1 : w64 (((N + 2 * i : Nat) : Int) + 1) = ((N + 2 * i + 1 : Nat) : Int) := w64_1 (by omega)
    have e2 : w64 (((N + 2 * i + 1 : Nat) : Int) + 1) = ((N + 2 * (i + 1) : Nat) : Int) := w64_1 (by omega)
    have e5 : w64 ((i : Int) + 1) = ((i + 1 : Nat) : Int) := w64_next (by omega)
    have h1 : at? z (i : Int) = some (z[i]'(by omega)) := at?_nat (by omega)
    obtain ⟨z', hz'⟩ := ih (i + 1) ((z.set (Int.toNat (i : Int)) (⟨((N + 2 * i : Nat) : Int), (z[i]'(by omega)).f1⟩ : SParam)).set (Int.toNat (i : Int)) (⟨((N + 2 * i : Nat) : Int), (decide ((Int.tmod ((N + 2 * i + 1 : Nat) : Int) 3) = 0))⟩ : SParam)) (by omega) (by simp [hz])
    refine ⟨z', ev_step _ (fun k => laws_markParamS_1.l1.eq_2 ..) (ev_pos (by omega) ?_)⟩
    refine ev_bind _ (ev_const h1) ?_
    refine ev_bind (⟨((N + 2 * i : Nat) : Int), (z[i]'(by omega)).f1⟩ : SParam) (ev_const ?_) ?_
    · rw [at?_nat (by simp; omega)]; simp
    rw [e1, e2, e5]
    exact hz'
theorem markP_ev (l : List SParam) (N : Nat) (hl : N + 2 * l.length ≤ 4611686018427387000) : ∃ z', Evr (fun k => laws_markParamS_1.f k l (N : Int)) (((N + 2 * l.length : Nat) : Int), z') := by
  obtain ⟨z', h⟩ := markP_loop l N hl l.length 0 l (by omega) rfl
  refine ⟨z', ?_⟩
  unfold laws_markParamS_1.f laws_markParamS_1.e2
  exact ev_bind _ h ev_some
def totI (ps : List (List SParam)) : Nat := (ps.map fun p => 5 + 2 * p.length).sum
theorem mkI_loop (ps : List (List SParam)) (hn : ps.length ≤ 1048576) : ∀ (m i N : Nat), i + m = ps.length → N + totI (ps.drop i) ≤ 4611686018427380000 → Evr (fun k => mkI.l1 k ps (N : Int) (i : Int)) ((N + totI (ps.drop i) : Nat) : Int) := by
  intro m
  induction m with
  | zero =>
    intro i N hi hN
    obtain rfl : i = ps.length := by omega
    rw [List.drop_length]
    refine ev_step _ (fun k => ?_) ev_some
    rw [mkI.l1.eq_2, if_neg (by omega)]
    rfl
  | succ m ih =>
    intro i N hi hN
    have hlt : i < ps.length := by omega
    have hd : totI (ps.drop i) = 5 + 2 * ps[i].length + totI (ps.drop (i + 1)) := by rw [List.drop_eq_getElem_cons hlt]; unfold totI; rw [List.map_cons, List.sum_cons]
    rw [hd] at hN ⊢
    have e1 : w64 ((N : Int) + 1) = ((N + 1 : Nat) : Int) := w64_1 (by omega)
    have e2 : w64 (((N + 1 : Nat) : Int) + 1) = ((N + 2 : Nat) : Int) := w64_1 (by omega)
    have e3 : w64 (((N + 2 : Nat) : Int) + 1) = ((N + 3 : Nat) : Int) := w64_1 (by omega)
    have e4 : w64 (((N + 3 : Nat) : Int) + 1) = ((N + 4 : Nat) : Int) := w64_1 (by omega)
    have e5 : w64 (((N + 4 : Nat) : Int) + 1) = ((N + 5 : Nat) : Int) := w64_1 (by omega)
    have e6 : w64 ((i : Int) + 1) = ((i + 1 : Nat) : Int) := w64_next (by omega)
    obtain ⟨z', hz'⟩ := markP_ev ps[i] (N + 5) (by omega)
    refine ev_step _ (fun k => mkI.l1.eq_2 ..) (ev_pos (by omega) ?_)
    refine ev_bind _ (ev_const (at?_nat hlt)) ?_
    rw [e1, e2, e3, e4, e5, e6]
    refine ev_bind _ (mT_ev (by omega)) (ev_bind _ hz' (ev_pos (by omega) ?_))
    have := ih (i + 1) (N + 5 + 2 * ps[i].length) (by omega) (by omega)
    refine ev_eq this ?_
    omega
theorem totI_le (ps : List (List SParam)) (B : Nat) (h : ∀ p ∈ ps, p.length ≤ B) : totI ps ≤ ps.length * (5 + 2 * B) := by
  induction ps with
  | nil => simp [totI]
  | cons p ps ih =>
    have h1 := h p (List.mem_cons_self ..)
    have h2 := ih fun q hq => h q (List.mem_cons_of_mem _ hq)
    have h3 : totI (p :: ps) = 5 + 2 * p.length + totI ps := by simp [totI]
    rw [h3, List.length_cons, Nat.add_mul]
    omega
end Go.Proofs.YtoclajfeeebbbaaGreatDoor.E
