/- Marks in tokens: they are written, and held. -/
import Derived.Test.YtgiiholpgpfgkaaGreatDoorOpFnExactTokens
import Derived.Test.YtgiiholpgpfgkaaGreatDoorPlA
set_option linter.unusedVariables false
set_option linter.unusedSimpArgs false
namespace Go.Proofs.YtgiiholpgpfgkaaGreatDoor.E
theorem dig_size (x : Int) : (strOfNums ([x] : List Int)).size = 1 := rfl
theorem mt_loop : ∀ (n : Nat) (z : ByteArray), z.size + n ≤ 100000 → ∃ y, Evr (fun k => laws_markText.l1 k (n : Int) z) y ∧ y.size ≤ 100000 := by
  intro n
  induction n using Nat.strongRecOn with
  | _ n ih =>
    intro z hz
    by_cases h0 : n = 0
    · refine ⟨z, ev_step _ (fun k => ?_) ev_some, by omega⟩
      rw [laws_markText.l1.eq_2, if_neg (by omega)]
    · have hd : Int.tdiv (n : Int) 10 = ((n / 10 : Nat) : Int) := rfl
      obtain ⟨y, h1, h2⟩ := ih (n / 10) (by omega) (strOfNums ([IntKind.u8.wrap (w64 (48 + (Int.tmod (n : Int) 10)))] : List Int) ++ z) (by rw [ByteArray.size_append, dig_size]; omega)
      refine ⟨y, ev_step _ (fun k => ?_) h1, h2⟩
      rw [laws_markText.l1.eq_2, if_pos (by omega), if_pos (by rw [dig_size]; omega), hd, w64_id (n := ((n / 10 : Nat) : Int)) (by omega) (by omega)]
theorem mt_some (n : Nat) (h : n ≤ 50000) : ∃ y, Evr (fun k => laws_markText.f k (n : Int)) y := by
  by_cases h0 : n = 0
  · exact ⟨_, ev_of fun k => by unfold laws_markText.f; rw [if_pos (by omega)]⟩
  · obtain ⟨y, h1, h2⟩ := mt_loop n ⟨#[]⟩ (by show 0 + n ≤ 100000; omega)
    refine ⟨(⟨#[109]⟩ : ByteArray) ++ y, ?_⟩
    unfold laws_markText.f laws_markText.e2
    refine ev_neg (by omega) (ev_bind _ h1 (ev_pos ?_ ev_some))
    have : (⟨#[109]⟩ : ByteArray).size = 1 := rfl
    omega
noncomputable def mT (n : Nat) : ByteArray := if h : n ≤ 50000 then (mt_some n h).choose else ⟨#[]⟩
theorem mT_ev {n : Nat} (h : n ≤ 50000) : Evr (fun k => laws_markText.f k (n : Int)) (mT n) := by
  unfold mT
  rw [dif_pos h]
  exact (mt_some n h).choose_spec
noncomputable def mkT (i : Nat) : STok := ⟨((1 + 4 * i : Nat) : Int), ((2 + 4 * i : Nat) : Int), mT (3 + 4 * i), ((4 + 4 * i : Nat) : Int)⟩
theorem at_mid {α : Type} {A B : List α} {y : α} {i : Nat} (h : A.length = i) : at? (A ++ y :: B) (i : Int) = some y := by
  subst h
  unfold at?
  rw [if_pos (by omega), Int.toNat_natCast, List.getElem?_append_right (Nat.le_refl _), Nat.sub_self]
  rfl
theorem set_mid {α : Type} {A B : List α} {x y : α} {i : Nat} (h : A.length = i) : (A ++ y :: B).set (Int.toNat (i : Int)) x = A ++ x :: B := by
  subst h
  rw [Int.toNat_natCast]
  simp
theorem w64_k {a b : Nat} (h : a + b ≤ 100000) : w64 ((a : Int) + (b : Int)) = ((a + b : Nat) : Int) := by rw [w64_id (by omega) (by omega)]; rfl
theorem mark_loop (l : List STok) (hl : l.length ≤ 1200) : ∀ (m i : Nat), i + m = l.length → Evr (fun k => laws_markTokenS_1.l1 k ((List.range i).map mkT ++ l.drop i) ((1 + 4 * i : Nat) : Int) (i : Int)) ((List.range l.length).map mkT, ((1 + 4 * l.length : Nat) : Int)) := by
  intro m
  induction m with
  | zero =>
    intro i hi
    obtain rfl : i = l.length := by omega
    rw [List.drop_length, List.append_nil]
    refine ev_step _ (fun k => ?_) ev_some
    rw [laws_markTokenS_1.l1.eq_2, if_neg (by simp)]
  | succ m ih =>
    intro i hi
    have hlt : i < l.length := by omega
    have hA : ((List.range i).map mkT).length = i := by simp
    have hih := ih (i + 1) (by omega)
    rw [List.range_succ, List.map_append, List.map_singleton, List.append_assoc] at hih
    rw [List.drop_eq_getElem_cons hlt]
    generalize (List.range i).map mkT = A at hA hih ⊢
    generalize l[i] = y
    generalize l.drop (i + 1) = B at hih ⊢
    have e1 : w64 (((1 + 4 * i : Nat) : Int) + 1) = ((2 + 4 * i : Nat) : Int) := by rw [w64_id (by omega) (by omega)]; omega
    have e2 : w64 (((2 + 4 * i : Nat) : Int) + 1) = ((3 + 4 * i : Nat) : Int) := by rw [w64_id (by omega) (by omega)]; omega
    have e3 : w64 (((3 + 4 * i : Nat) : Int) + 1) = ((4 + 4 * i : Nat) : Int) := by rw [w64_id (by omega) (by omega)]; omega
    have e4 : w64 (((4 + 4 * i : Nat) : Int) + 1) = ((1 + 4 * (i + 1) : Nat) : Int) := by rw [w64_id (by omega) (by omega)]; omega
    have e5 : w64 ((i : Int) + 1) = ((i + 1 : Nat) : Int) := w64_next (by omega)
    refine ev_step _ (fun k => laws_markTokenS_1.l1.eq_2 ..) (ev_pos (by simp [hA]; omega) ?_)
    refine ev_bind _ (ev_const (at_mid hA)) ?_
    rw [set_mid hA]
    refine ev_bind _ (ev_const (at_mid hA)) ?_
    rw [e1, e2, set_mid hA]
    refine ev_bind _ (mT_ev (n := 3 + 4 * i) (by omega)) ?_
    refine ev_bind _ (ev_const (at_mid hA)) ?_
    rw [set_mid hA]
    refine ev_bind _ (ev_const (at_mid hA)) ?_
    rw [set_mid hA, e3, e4, e5]
    exact hih
theorem mark_ev (l : List STok) (hl : l.length ≤ 1200) : Evr (fun k => laws_markTokenS_1.f k l 1) (((1 + 4 * l.length : Nat) : Int), (List.range l.length).map mkT) := by
  have h := mark_loop l hl l.length 0 (by omega)
  unfold laws_markTokenS_1.f laws_markTokenS_1.e2
  exact ev_bind _ h ev_some
theorem held_loop (n : Nat) (hn : n ≤ 1200) : ∀ (m i : Nat), i + m = n → Evr (fun k => laws_heldTokenS.l1 k ((List.range n).map mkT) ((1 + 4 * i : Nat) : Int) (i : Int)) (.inr ((1 + 4 * n : Nat) : Int)) := by
  intro m
  induction m with
  | zero =>
    intro i hi
    obtain rfl : i = n := by omega
    refine ev_step _ (fun k => ?_) ev_some
    rw [laws_heldTokenS.l1.eq_2, if_neg (by simp)]
  | succ m ih =>
    intro i hi
    have e1 : w64 (((1 + 4 * i : Nat) : Int) + 1) = ((2 + 4 * i : Nat) : Int) := by rw [w64_id (by omega) (by omega)]; omega
    have e2 : w64 (((2 + 4 * i : Nat) : Int) + 1) = ((3 + 4 * i : Nat) : Int) := by rw [w64_id (by omega) (by omega)]; omega
    have e3 : w64 (((3 + 4 * i : Nat) : Int) + 1) = ((4 + 4 * i : Nat) : Int) := by rw [w64_id (by omega) (by omega)]; omega
    have e4 : w64 (((4 + 4 * i : Nat) : Int) + 1) = ((1 + 4 * (i + 1) : Nat) : Int) := by rw [w64_id (by omega) (by omega)]; omega
    have e5 : w64 ((i : Int) + 1) = ((i + 1 : Nat) : Int) := w64_next (by omega)
    have hat : at? ((List.range n).map mkT) (i : Int) = some (mkT i) := by rw [at?_nat (by simp; omega)]; simp
    refine ev_step _ (fun k => laws_heldTokenS.l1.eq_2 ..) (ev_pos (by simp; omega) ?_)
    refine ev_bind _ (ev_const hat) (ev_pos rfl ?_)
    rw [e1]
    refine ev_pos rfl ?_
    rw [e2]
    refine ev_bind _ (mT_ev (n := 3 + 4 * i) (by omega)) (ev_pos rfl ?_)
    rw [e3]
    refine ev_pos rfl ?_
    rw [e4, e5]
    exact ih (i + 1) (by omega)
theorem held_ev (n : Nat) (hn : n ≤ 1200) : Evr (fun k => laws_heldTokenS.f k ((List.range n).map mkT) 1) ((1 + 4 * n : Nat) : Int) := by
  have h := held_loop n hn n 0 (by omega)
  unfold laws_heldTokenS.f laws_heldTokenS.e2
  exact ev_bind _ h ev_some
theorem same_ev (l : List STok) (hl : l.length ≤ 1200) : Evr (fun k => laws_eqTokenS.f k l l) true := by
  have hr : ∀ k x, laws_eqToken.f k x x = some true := fun k x => by unfold laws_eqToken.f; rw [if_pos rfl, if_pos rfl, if_pos rfl, if_pos rfl]
  have h : ∀ (m i : Nat), i + m = l.length → Evr (fun k => laws_eqTokenS.l1 k l l (i : Int)) (.inr ()) := by
    intro m
    induction m with
    | zero =>
      intro i hi
      refine ev_step _ (fun k => ?_) ev_some
      rw [laws_eqTokenS.l1.eq_2, if_neg (by omega)]
    | succ m ih =>
      intro i hi
      refine ev_step _ (fun k => ?_) (ih (i + 1) (by omega))
      rw [laws_eqTokenS.l1.eq_2, if_pos (by omega), at?_nat (by omega), Option.bind_some, Option.bind_some, hr, Option.bind_some, if_pos rfl, w64_next (by omega)]
  unfold laws_eqTokenS.f laws_eqTokenS.e2
  exact ev_pos rfl (ev_bind _ (h l.length 0 (by omega)) ev_some)
end Go.Proofs.YtgiiholpgpfgkaaGreatDoor.E
