/- Interfaces: their bound, copy and comparison in a law. -/
import Derived.Test.YtoclajfeeebbbaaGreatDoorPlIFnExactInterfaceBytes
set_option linter.unusedVariables false
set_option linter.unusedSimpArgs false
namespace Go.Proofs.YtoclajfeeebbbaaGreatDoor.E
open Go.RowKit Go.Proofs.YtoclajfeeebbbaaGreatDoor.V

theorem szItem_left (x : SItem) (hx : x.f4.size ≤ maxLen ∧ x.f5.length ≤ maxLen) (left : Int) (h0 : 0 ≤ left) (hB : left ≤ 1048576) : ∃ t, LeftOf left (x.f4.size + x.f5.length) t ∧ ∀ k, laws_szItem.f k x left = some t := by
  have hm : maxLen = 9223372036854775807 := rfl
  have hw : w64 (left - (x.f4.size : Int)) = left - x.f4.size := w64_id (by omega) (by omega)
  unfold laws_szItem.f laws_szParamS.f
  simp only [hw]
  by_cases h : left - (x.f4.size : Int) < 0
  · exact ⟨-1, .inl (by omega), fun k => by rw [if_pos h]⟩
  · have hw2 : w64 (left - (x.f4.size : Int) - (x.f5.length : Int)) = left - x.f4.size - x.f5.length := w64_id (by omega) (by omega)
    simp only [hw2]
    by_cases h' : left - (x.f4.size : Int) - (x.f5.length : Int) < 0
    · exact ⟨-1, .inl (by omega), fun k => by rw [if_neg h, if_pos h']; rfl⟩
    · exact ⟨left - x.f4.size - x.f5.length, .inr ⟨by omega, by omega⟩, fun k => by rw [if_neg h, if_neg h']; simp only [Option.bind_some]; rw [if_neg h']⟩
/-- The bound: too large, or of a size that fits. -/
theorem szFace_ev (x0 : SFace) (h0 : gSFace x0) : ∃ t, Evr (fun k => laws_szInterface.f k x0 1048576) t ∧ (t < 0 ∨ (x0.f1.length ≤ 1048576 ∧ x0.f0.size ≤ 1048576 ∧ ∀ x ∈ x0.f1, x.f4.size ≤ 1048576 ∧ x.f5.length ≤ 1048576)) := by
  obtain ⟨g0, gl, gx⟩ := h0
  have hm : maxLen = 9223372036854775807 := rfl
  unfold laws_szInterface.f
  have hw : w64 (1048576 - (x0.f0.size : Int)) = 1048576 - x0.f0.size := w64_id (by omega) (by omega)
  simp only [hw]
  by_cases h : 1048576 - (x0.f0.size : Int) < 0
  · exact ⟨-1, ev_pos h ev_some, .inl (by omega)⟩
  · have hw2 : w64 (1048576 - (x0.f0.size : Int) - (x0.f1.length : Int)) = 1048576 - x0.f0.size - x0.f1.length := w64_id (by omega) (by omega)
    unfold laws_szItemS.f laws_szItemS.e2
    simp only [hw2]
    by_cases h' : 1048576 - (x0.f0.size : Int) - (x0.f1.length : Int) < 0
    · exact ⟨-1, ev_neg h (ev_bind (-1) (ev_pos h' ev_some) ev_some), .inl (by omega)⟩
    · have main := ev_left (ρ := Int) x0.f1 (fun x => x.f4.size + x.f5.length) 1048576 (fun k left i => laws_szItemS.l1 k x0.f1 left i) (-1) (by omega) (fun left _ _ => ev_neg (by omega) ev_some) (fun left i hi h1 h2 => by
        obtain ⟨t, ht, he⟩ := szItem_left x0.f1[i] (by have := gx _ (List.getElem_mem hi); unfold gSItem at this; exact ⟨this.2.2.2.2.1, this.2.2.2.2.2.1⟩) left h1 h2
        refine ⟨t, ht, fun hneg => ev_pos (by omega) ?_, fun hpos r hr => ev_pos (by omega) ?_⟩
        · simp only [at?_nat hi, Option.bind_some, he, if_pos hneg]
          exact ev_some
        · simp only [at?_nat hi, Option.bind_some, he]
          refine ev_neg (by omega) ?_
          rw [w64_next (by omega)]
          exact hr) _ (by omega : 0 ≤ 1048576 - (x0.f0.size : Int) - (x0.f1.length : Int)) (by omega)
      rcases main with hb | ⟨t, ht, hsum, he⟩
      · exact ⟨-1, ev_neg h (ev_bind (-1) (ev_neg h' (ev_bind _ hb ev_some)) ev_some), .inl (by omega)⟩
      · exact ⟨t, ev_neg h (ev_bind t (ev_neg h' (ev_bind _ he ev_some)) (ev_neg (by omega) ev_some)), .inr ⟨by omega, by omega, fun x hx => by have := le_sum (fun x : SItem => x.f4.size + x.f5.length) hx; omega⟩⟩
theorem toParamS_ev (xs : List SParam) (hn : xs.length ≤ 1048576) : Evr (fun k => laws_toParamS.f k xs) xs := by
  unfold laws_toParamS.f laws_toParamS.e2
  refine ev_pos (by omega) (ev_bind _ ?_ ev_some)
  have := ev_copy xs id (⟨0, false⟩ : SParam) (fun k acc i => laws_toParamS.l1 k xs acc i) (by omega) (fun acc _ => ev_neg (by omega) ev_some) (fun acc i hi ha r h => by
    refine ev_pos (by omega) ?_
    simp only [at?_nat hi, Option.bind_some, laws_toParam.f, at?_nat (l := acc) (i := i) (by omega), Int.toNat_natCast]
    rw [w64_next (by omega)]
    exact h)
  simpa using this
theorem toItem_ev (x : SItem) (hn : x.f5.length ≤ 1048576) : ∃ z, Evr (fun k => laws_toItem.f k x) (x, z) := by
  unfold laws_toItem.f
  exact ⟨_, ev_bind _ (toParamS_ev _ hn) ev_some⟩
theorem toItemS_ev (xs : List SItem) (hn : xs.length ≤ 1048576) (hs : ∀ x ∈ xs, x.f5.length ≤ 1048576) : Evr (fun k => laws_toItemS.f k xs) xs := by
  unfold laws_toItemS.f laws_toItemS.e2
  refine ev_pos (by omega) (ev_bind _ ?_ ev_some)
  have := ev_copy xs id (⟨0, 0, 0, 0, ⟨#[]⟩, []⟩ : SItem) (fun k acc i => laws_toItemS.l1 k xs acc i) (by omega) (fun acc _ => ev_neg (by omega) ev_some) (fun acc i hi ha r h => by
    obtain ⟨z, hz⟩ := toItem_ev xs[i] (hs _ (List.getElem_mem hi))
    refine ev_pos (by omega) ?_
    simp only [at?_nat hi, Option.bind_some]
    refine ev_bind _ hz ?_
    simp only [at?_nat (l := acc) (i := i) (by omega), Option.bind_some, Int.toNat_natCast]
    rw [w64_next (by omega)]
    exact h)
  simpa using this
theorem eqParamS_ev (xs : List SParam) (hn : xs.length ≤ 1048576) : Evr (fun k => laws_eqParamS.f k xs xs) true := by
  unfold laws_eqParamS.f laws_eqParamS.e2
  refine ev_pos rfl (ev_bind (.inr ()) ?_ ev_some)
  exact ev_same xs (fun k i => laws_eqParamS.l1 k xs xs i) _ (by omega) (ev_neg (by omega) ev_some) (fun i hi r h => by
    refine ev_pos (by omega) ?_
    simp only [at?_nat hi, Option.bind_some]
    refine ev_bind true (ev_of fun k => ?_) ?_
    · unfold laws_eqParam.f laws_eqParam.e1
      cases xs[i].f1 <;> simp
    · rw [w64_next (by omega)]
      exact ev_pos rfl h)
theorem eqItemS_ev (xs : List SItem) (hn : xs.length ≤ 1048576) (hs : ∀ x ∈ xs, x.f5.length ≤ 1048576) : Evr (fun k => laws_eqItemS.f k xs xs) true := by
  unfold laws_eqItemS.f laws_eqItemS.e2
  refine ev_pos rfl (ev_bind (.inr ()) ?_ ev_some)
  exact ev_same xs (fun k i => laws_eqItemS.l1 k xs xs i) _ (by omega) (ev_neg (by omega) ev_some) (fun i hi r h => by
    refine ev_pos (by omega) ?_
    simp only [at?_nat hi, Option.bind_some]
    refine ev_bind true ?_ ?_
    · unfold laws_eqItem.f
      exact ev_pos rfl (ev_pos rfl (ev_pos rfl (ev_pos rfl (ev_pos rfl (ev_bind true (eqParamS_ev _ (hs _ (List.getElem_mem hi))) ev_some)))))
    · rw [w64_next (by omega)]
      exact ev_pos rfl h)
theorem toFace_ev (x0 : SFace) (hn : x0.f1.length ≤ 1048576) (hs : ∀ x ∈ x0.f1, x.f5.length ≤ 1048576) : ∃ z, Evr (fun k => laws_toInterface.f k x0) (x0, z) := by
  unfold laws_toInterface.f
  exact ⟨_, ev_bind _ (toItemS_ev _ hn hs) ev_some⟩
theorem eqFace_ev (x0 : SFace) (hn : x0.f1.length ≤ 1048576) (hs : ∀ x ∈ x0.f1, x.f5.length ≤ 1048576) : Evr (fun k => laws_eqInterface.f k x0 x0) true := by
  unfold laws_eqInterface.f
  exact ev_pos rfl (ev_bind true (eqItemS_ev _ hn hs) ev_some)
end Go.Proofs.YtoclajfeeebbbaaGreatDoor.E
