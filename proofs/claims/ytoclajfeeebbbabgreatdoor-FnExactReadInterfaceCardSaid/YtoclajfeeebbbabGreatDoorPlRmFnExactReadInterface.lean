/- Marks in an interface that is kept: they are written, and held. -/
import Derived.Test.YtoclajfeeebbbabGreatDoorPlMbFnExactReadInterface
import Derived.Test.YtoclajfeeebbbabGreatDoorPlJFnExactReadInterface
set_option linter.unusedVariables false
set_option linter.unusedSimpArgs false
namespace Go.Proofs.YtoclajfeeebbbabGreatDoor.E
def mkPm (n i : Nat) : SParam := ⟨((n + 2 * i : Nat) : Int), decide (Int.tmod ((n + 2 * i + 1 : Nat) : Int) 3 = 0)⟩
def mkPs (n m : Nat) : List SParam := (List.range m).map (mkPm n)
theorem markP_loop (l : List SParam) (n : Nat) (hn : n + 2 * l.length ≤ 1000000000) : ∀ (m i : Nat), i + m = l.length → Evr (fun k => laws_markParamS_1.l1 k (mkPs n i ++ l.drop i) ((n + 2 * i : Nat) : Int) (i : Int)) (mkPs n l.length, ((n + 2 * l.length : Nat) : Int)) := by
  intro m
  induction m with
  | zero =>
    intro i hi
    obtain rfl : i = l.length := by omega
    rw [List.drop_length, List.append_nil]
    refine ev_step _ (fun k => laws_markParamS_1.l1.eq_2 ..) (ev_neg (by simp [mkPs]) ev_some)
  | succ m ih =>
    intro i hi
    have hlt : i < l.length := by omega
    have hA : (mkPs n i).length = i := by simp [mkPs]
    have hih := ih (i + 1) (by omega)
    have es : mkPs n (i + 1) = mkPs n i ++ [mkPm n i] := by unfold mkPs; rw [List.range_succ, List.map_append, List.map_singleton]
    rw [es, List.append_assoc, List.singleton_append] at hih
    rw [List.drop_eq_getElem_cons hlt]
    generalize mkPs n i = A at hA hih ⊢
    generalize l[i] = y
    generalize l.drop (i + 1) = B at hih ⊢
    have e1 : w64 (((n + 2 * i : Nat) : Int) + 1) = ((n + 2 * i + 1 : Nat) : Int) := w64_1 (by omega)
    have e2 : w64 (((n + 2 * i + 1 : Nat) : Int) + 1) = ((n + 2 * (i + 1) : Nat) : Int) := by rw [w64_1 (by omega)]; congr 1
    have e5 : w64 ((i : Int) + 1) = ((i + 1 : Nat) : Int) := w64_next (by omega)
    refine ev_step _ (fun k => laws_markParamS_1.l1.eq_2 ..) (ev_pos (by simp [hA]; omega) ?_)
    refine ev_bind _ (ev_const (at_mid hA)) ?_
    rw [set_mid hA]
    refine ev_bind _ (ev_const (at_mid hA)) ?_
    rw [set_mid hA, e1, e2, e5]
    exact hih
theorem markP_ev (l : List SParam) (n : Nat) (hn : n + 2 * l.length ≤ 1000000000) : Evr (fun k => laws_markParamS_1.f k l (n : Int)) (((n + 2 * l.length : Nat) : Int), mkPs n l.length) := by
  have h := markP_loop l n hn l.length 0 (by omega)
  unfold laws_markParamS_1.f laws_markParamS_1.e2
  exact ev_bind _ h ev_some
theorem heldP_loop (n c : Nat) (hn : n + 2 * c ≤ 1000000000) : ∀ (m i : Nat), i + m = c → Evr (fun k => laws_heldParamS.l2 k (mkPs n c) ((n + 2 * i : Nat) : Int) (i : Int)) (.inr ((n + 2 * c : Nat) : Int)) := by
  intro m
  induction m with
  | zero =>
    intro i hi
    obtain rfl : i = c := by omega
    refine ev_step _ (fun k => laws_heldParamS.l2.eq_2 ..) (ev_neg (by simp [mkPs]) ev_some)
  | succ m ih =>
    intro i hi
    have e1 : w64 (((n + 2 * i : Nat) : Int) + 1) = ((n + 2 * i + 1 : Nat) : Int) := w64_1 (by omega)
    have e2 : w64 (((n + 2 * i + 1 : Nat) : Int) + 1) = ((n + 2 * (i + 1) : Nat) : Int) := by rw [w64_1 (by omega)]; congr 1
    have e5 : w64 ((i : Int) + 1) = ((i + 1 : Nat) : Int) := w64_next (by omega)
    have hat : at? (mkPs n c) (i : Int) = some (mkPm n i) := by rw [at?_nat (by simp [mkPs]; omega)]; simp [mkPs]
    refine ev_step _ (fun k => laws_heldParamS.l2.eq_2 ..) (ev_pos (by simp [mkPs]; omega) ?_)
    refine ev_bind _ (ev_const hat) (ev_pos rfl (ev_bind (.inr ()) ?_ ?_))
    · unfold laws_heldParamS.e1 mkPm
      rw [e1]
      by_cases h : Int.tmod ((n + 2 * i + 1 : Nat) : Int) 3 = 0
      · exact ev_pos (by simp only [decide_eq_true_eq]; exact h) (ev_pos h ev_some)
      · exact ev_neg (by simp only [decide_eq_true_eq]; exact h) (ev_neg h ev_some)
    · rw [e1, e2, e5]
      exact ih (i + 1) (by omega)
theorem heldP_ev (n c : Nat) (hn : n + 2 * c ≤ 1000000000) : Evr (fun k => laws_heldParamS.f k (mkPs n c) (n : Int)) ((n + 2 * c : Nat) : Int) := by
  have h := heldP_loop n c hn c 0 (by omega)
  unfold laws_heldParamS.f laws_heldParamS.e3
  exact ev_bind _ h ev_some
noncomputable def mkIt (n c : Nat) : SItem := ⟨(n : Int), ((n + 1 : Nat) : Int), ((n + 1 + 1 : Nat) : Int), ((n + 1 + 1 + 1 : Nat) : Int), mT (n + 1 + 1 + 1 + 1), mkPs (n + 1 + 1 + 1 + 1 + 1) c⟩
def endI : List SItem → Nat → Nat
  | [], n => n
  | x :: l, n => endI l (n + 1 + 1 + 1 + 1 + 1 + 2 * x.f5.length)
noncomputable def mkIs : List SItem → Nat → List SItem
  | [], _ => []
  | x :: l, n => mkIt n x.f5.length :: mkIs l (n + 1 + 1 + 1 + 1 + 1 + 2 * x.f5.length)
theorem endI_le : ∀ (l : List SItem) (n : Nat), n ≤ endI l n
  | [], n => Nat.le_refl _
  | x :: l, n => Nat.le_trans (by omega) (endI_le l _)
theorem endI_max : ∀ (l : List SItem) (n : Nat), (∀ x ∈ l, x.f5.length ≤ 255) → endI l n ≤ n + 515 * l.length
  | [], n, _ => Nat.le_refl _
  | x :: l, n, h => by
    have h1 := h x (List.mem_cons_self ..)
    have h2 := endI_max l (n + 1 + 1 + 1 + 1 + 1 + 2 * x.f5.length) fun y hy => h y (List.mem_cons_of_mem _ hy)
    show endI l _ ≤ _
    rw [List.length_cons]
    omega
theorem mkIs_len : ∀ (l : List SItem) (n : Nat), (mkIs l n).length = l.length
  | [], n => rfl
  | x :: l, n => by show (mkIs l _).length + 1 = l.length + 1; rw [mkIs_len]
theorem markI_loop : ∀ (l A : List SItem) (n : Nat), A.length + l.length ≤ 1000000 → endI l n ≤ 1000000000 → Evr (fun k => mkI.l1 k (A ++ l) (n : Int) (A.length : Int)) (A ++ mkIs l n, ((endI l n : Nat) : Int))
  | [], A, n, hl, hn => ev_step _ (fun k => mkI.l1.eq_2 ..) (ev_neg (by simp) ev_some)
  | x :: l, A, n, hl, hn => by
    rw [List.length_cons] at hl
    have hle := endI_le l (n + 1 + 1 + 1 + 1 + 1 + 2 * x.f5.length)
    have hn' : endI l (n + 1 + 1 + 1 + 1 + 1 + 2 * x.f5.length) ≤ 1000000000 := hn
    have e1 : w64 ((n : Int) + 1) = ((n + 1 : Nat) : Int) := w64_1 (by omega)
    have e2 : w64 (((n + 1 : Nat) : Int) + 1) = ((n + 1 + 1 : Nat) : Int) := w64_1 (by omega)
    have e3 : w64 (((n + 1 + 1 : Nat) : Int) + 1) = ((n + 1 + 1 + 1 : Nat) : Int) := w64_1 (by omega)
    have e4 : w64 (((n + 1 + 1 + 1 : Nat) : Int) + 1) = ((n + 1 + 1 + 1 + 1 : Nat) : Int) := w64_1 (by omega)
    have e6 : w64 (((n + 1 + 1 + 1 + 1 : Nat) : Int) + 1) = ((n + 1 + 1 + 1 + 1 + 1 : Nat) : Int) := w64_1 (by omega)
    have e5 : w64 ((A.length : Int) + 1) = ((A.length + 1 : Nat) : Int) := w64_next (by omega)
    refine ev_step _ (fun k => mkI.l1.eq_2 ..) (ev_pos (by simp; omega) (ev_bind _ (ev_const (at_mid rfl)) ?_))
    rw [e1, e2, e3, e4, e6, e5]
    refine ev_bind _ (mT_ev (by omega)) (ev_bind _ (markP_ev _ _ (by omega)) ?_)
    rw [set_mid rfl]
    have ih := markI_loop l (A ++ [mkIt n x.f5.length]) (n + 1 + 1 + 1 + 1 + 1 + 2 * x.f5.length) (by simp; omega) hn'
    rw [List.append_assoc, List.append_assoc, List.length_append, List.length_singleton] at ih
    exact ih
theorem heldI_loop : ∀ (l A : List SItem) (n : Nat), A.length + l.length ≤ 1000000 → endI l n ≤ 1000000000 → Evr (fun k => laws_heldItemS.l1 k (A ++ mkIs l n) (n : Int) (A.length : Int)) (.inr ((endI l n : Nat) : Int))
  | [], A, n, hl, hn => ev_step _ (fun k => laws_heldItemS.l1.eq_2 ..) (ev_neg (by simp [mkIs]) ev_some)
  | x :: l, A, n, hl, hn => by
    rw [List.length_cons] at hl
    have hle := endI_le l (n + 1 + 1 + 1 + 1 + 1 + 2 * x.f5.length)
    have hn' : endI l (n + 1 + 1 + 1 + 1 + 1 + 2 * x.f5.length) ≤ 1000000000 := hn
    have e1 : w64 ((n : Int) + 1) = ((n + 1 : Nat) : Int) := w64_1 (by omega)
    have e2 : w64 (((n + 1 : Nat) : Int) + 1) = ((n + 1 + 1 : Nat) : Int) := w64_1 (by omega)
    have e3 : w64 (((n + 1 + 1 : Nat) : Int) + 1) = ((n + 1 + 1 + 1 : Nat) : Int) := w64_1 (by omega)
    have e4 : w64 (((n + 1 + 1 + 1 : Nat) : Int) + 1) = ((n + 1 + 1 + 1 + 1 : Nat) : Int) := w64_1 (by omega)
    have e6 : w64 (((n + 1 + 1 + 1 + 1 : Nat) : Int) + 1) = ((n + 1 + 1 + 1 + 1 + 1 : Nat) : Int) := w64_1 (by omega)
    have e5 : w64 ((A.length : Int) + 1) = ((A.length + 1 : Nat) : Int) := w64_next (by omega)
    show Evr (fun k => laws_heldItemS.l1 k (A ++ mkIt n x.f5.length :: mkIs l (n + 1 + 1 + 1 + 1 + 1 + 2 * x.f5.length)) (n : Int) (A.length : Int)) _
    refine ev_step _ (fun k => laws_heldItemS.l1.eq_2 ..) (ev_pos (by simp; omega) (ev_bind _ (ev_const (at_mid rfl)) ?_))
    rw [e1, e2, e3, e4, e6, e5]
    refine ev_pos rfl (ev_pos rfl (ev_pos rfl (ev_pos rfl (ev_bind _ (mT_ev (by omega)) (ev_pos rfl (ev_bind _ (heldP_ev _ _ (by omega)) (ev_neg (by omega) ?_)))))))
    have ih := heldI_loop l (A ++ [mkIt n x.f5.length]) (n + 1 + 1 + 1 + 1 + 1 + 2 * x.f5.length) (by simp; omega) hn'
    rw [List.append_assoc, List.length_append, List.length_singleton] at ih
    exact ih
/-- What is marked is held. -/
theorem marks_face (c : SFace) (hl : c.f1.length ≤ 255) (hs : ∀ x ∈ c.f1, x.f5.length ≤ 255) : ∃ (n : Nat) (z : SFace), Evr (fun k => laws_markInterface.f k c 1) ((n : Int), z) ∧ Evr (fun k => laws_heldInterface.f k z 1) (n : Int) := by
  have hm := endI_max c.f1 1 hs
  refine ⟨endI c.f1 1, ⟨c.f0, mkIs c.f1 1⟩, ?_, ?_⟩
  · unfold laws_markInterface.f
    exact ev_bind _ (markI_loop c.f1 [] 1 (by simp; omega) (by omega)) ev_some
  · unfold laws_heldInterface.f laws_heldItemS.f laws_heldItemS.e2
    exact ev_bind _ (ev_bind _ (heldI_loop c.f1 [] 1 (by simp; omega) (by omega)) ev_some) (ev_neg (by omega) ev_some)
end Go.Proofs.YtoclajfeeebbbabGreatDoor.E
