/- Codes: their bounds, copies and comparisons in a law. -/
import Derived.Test.YtoclajfeeebbbacGreatDoorOpFnExactObjectBytes
import Derived.Test.YtoclajfeeebbbacGreatDoorPlL
set_option linter.unusedVariables false
set_option linter.unusedSimpArgs false
namespace Go.Proofs.YtoclajfeeebbbacGreatDoor.V
open Go.RowKit Go.Proofs.YtoclajfeeebbbacGreatDoor.E
def wIns (x : SIns) : Nat := x.f3.size + x.f4.size
def wCode (a : SCode) : Nat := a.f0.size + (a.f4.length + (a.f4.map wIns).sum)
theorem szIns_left (x : SIns) (hx : gSIns x) (left : Int) (h0 : 0 ≤ left) (hB : left ≤ 1048576) : ∃ t, LeftOf left (wIns x) t ∧ ∀ k, laws_szIns.f k x left = some t := by
  have hm : maxLen = 9223372036854775807 := rfl
  have h3 := hx.2.2.2.1
  have h4 := hx.2.2.2.2
  have hw : w64 (left - (x.f3.size : Int)) = left - x.f3.size := w64_id (by omega) (by omega)
  unfold laws_szIns.f wIns
  simp only [hw]
  by_cases h : left - (x.f3.size : Int) < 0
  · exact ⟨-1, .inl (by omega), fun k => by rw [if_pos h]⟩
  · have hw2 : w64 (left - (x.f3.size : Int) - (x.f4.size : Int)) = left - x.f3.size - x.f4.size := w64_id (by omega) (by omega)
    simp only [hw2]
    by_cases h' : left - (x.f3.size : Int) - (x.f4.size : Int) < 0
    · exact ⟨-1, .inl (by omega), fun k => by rw [if_neg h, if_pos h']⟩
    · exact ⟨left - x.f3.size - x.f4.size, .inr ⟨by omega, by omega⟩, fun k => by rw [if_neg h, if_neg h']⟩
theorem szInsS_left (xs : List SIns) (hl : xs.length ≤ maxLen) (hx : ∀ x ∈ xs, gSIns x) (left : Int) (h0 : 0 ≤ left) (hB : left ≤ 1048576) : ∃ t, LeftOf left (xs.length + (xs.map wIns).sum) t ∧ Evr (fun k => laws_szInsS.f k xs left) t := by
  have hm : maxLen = 9223372036854775807 := rfl
  have hw2 : w64 (left - (xs.length : Int)) = left - xs.length := w64_id (by omega) (by omega)
  unfold laws_szInsS.f laws_szInsS.e2
  simp only [hw2]
  by_cases h' : left - (xs.length : Int) < 0
  · exact ⟨-1, .inl (by omega), ev_pos h' ev_some⟩
  · have main := ev_left (ρ := Int) xs wIns 1048576 (fun k left i => laws_szInsS.l1 k xs left i) (-1) (by omega) (fun left _ _ => ev_neg (by omega) ev_some) (fun left i hi h1 h2 => by
      obtain ⟨t, ht, he⟩ := szIns_left xs[i] (hx _ (List.getElem_mem hi)) left h1 h2
      refine ⟨t, ht, fun hneg => ev_pos (by omega) ?_, fun hpos r hr => ev_pos (by omega) ?_⟩
      · simp only [at?_nat hi, Option.bind_some, he, if_pos hneg]
        exact ev_some
      · simp only [at?_nat hi, Option.bind_some, he]
        refine ev_neg (by omega) ?_
        rw [w64_next (by omega)]
        exact hr) _ (by omega : 0 ≤ left - (xs.length : Int)) (by omega)
    rcases main with hb | ⟨t, ht, hsum, he⟩
    · exact ⟨-1, .inl (by omega), ev_neg h' (ev_bind _ hb ev_some)⟩
    · exact ⟨t, .inr ⟨ht, by omega⟩, ev_neg h' (ev_bind _ he ev_some)⟩
theorem szCode_left (a : SCode) (hx : gSCode a) (left : Int) (h0 : 0 ≤ left) (hB : left ≤ 1048576) : ∃ t, LeftOf left (wCode a) t ∧ Evr (fun k => laws_szCode.f k a left) t := by
  have hm : maxLen = 9223372036854775807 := rfl
  obtain ⟨g0, _, _, _, gl, gx⟩ := hx
  unfold laws_szCode.f wCode
  have hw : w64 (left - (a.f0.size : Int)) = left - a.f0.size := w64_id (by omega) (by omega)
  simp only [hw]
  by_cases h : left - (a.f0.size : Int) < 0
  · exact ⟨-1, .inl (by omega), ev_pos h ev_some⟩
  · obtain ⟨t, ht, he⟩ := szInsS_left a.f4 gl gx (left - a.f0.size) (by omega) (by omega)
    by_cases hn : t < 0
    · exact ⟨-1, .inl (by omega), ev_neg h (ev_bind _ he (ev_pos hn ev_some))⟩
    · refine ⟨t, ?_, ev_neg h (ev_bind _ he (ev_neg hn ev_some))⟩
      rcases ht with ht | ⟨ht, ht'⟩
      · omega
      · exact .inr ⟨ht, by omega⟩
theorem szCodeS_left (xs : List SCode) (hl : xs.length ≤ maxLen) (hx : ∀ x ∈ xs, gSCode x) (left : Int) (h0 : 0 ≤ left) (hB : left ≤ 1048576) : ∃ t, LeftOf left (xs.length + (xs.map wCode).sum) t ∧ Evr (fun k => laws_szCodeS.f k xs left) t := by
  have hm : maxLen = 9223372036854775807 := rfl
  have hw2 : w64 (left - (xs.length : Int)) = left - xs.length := w64_id (by omega) (by omega)
  unfold laws_szCodeS.f laws_szCodeS.e2
  simp only [hw2]
  by_cases h' : left - (xs.length : Int) < 0
  · exact ⟨-1, .inl (by omega), ev_pos h' ev_some⟩
  · have main := ev_left (ρ := Int) xs wCode 1048576 (fun k left i => laws_szCodeS.l1 k xs left i) (-1) (by omega) (fun left _ _ => ev_neg (by omega) ev_some) (fun left i hi h1 h2 => by
      obtain ⟨t, ht, he⟩ := szCode_left xs[i] (hx _ (List.getElem_mem hi)) left h1 h2
      refine ⟨t, ht, fun hneg => ev_pos (by omega) ?_, fun hpos r hr => ev_pos (by omega) ?_⟩
      · simp only [at?_nat hi, Option.bind_some]
        exact ev_bind _ he (ev_pos hneg ev_some)
      · simp only [at?_nat hi, Option.bind_some]
        refine ev_bind _ he (ev_neg (by omega) ?_)
        rw [w64_next (by omega)]
        exact hr) _ (by omega : 0 ≤ left - (xs.length : Int)) (by omega)
    rcases main with hb | ⟨t, ht, hsum, he⟩
    · exact ⟨-1, .inl (by omega), ev_neg h' (ev_bind _ hb ev_some)⟩
    · exact ⟨t, .inr ⟨ht, by omega⟩, ev_neg h' (ev_bind _ he ev_some)⟩
theorem toInsS_ev (xs : List SIns) (hn : xs.length ≤ 1048576) : Evr (fun k => laws_toInsS.f k xs) xs := by
  unfold laws_toInsS.f laws_toInsS.e2
  refine ev_pos (by omega) (ev_bind _ ?_ ev_some)
  have := ev_copy xs id (⟨0, 0, 0, ⟨#[]⟩, ⟨#[]⟩⟩ : SIns) (fun k acc i => laws_toInsS.l1 k xs acc i) (by omega) (fun acc _ => ev_neg (by omega) ev_some) (fun acc i hi ha r h => by
    refine ev_pos (by omega) ?_
    simp only [at?_nat hi, Option.bind_some, laws_toIns.f, at?_nat (l := acc) (i := i) (by omega), Int.toNat_natCast]
    rw [w64_next (by omega)]
    exact h)
  simpa using this
theorem toCodeS_ev (xs : List SCode) (hn : xs.length ≤ 1048576) (hs : ∀ x ∈ xs, x.f4.length ≤ 1048576) : Evr (fun k => laws_toCodeS.f k xs) xs := by
  unfold laws_toCodeS.f laws_toCodeS.e2
  refine ev_pos (by omega) (ev_bind _ ?_ ev_some)
  have := ev_copy xs id (⟨⟨#[]⟩, 0, 0, 0, []⟩ : SCode) (fun k acc i => laws_toCodeS.l1 k xs acc i) (by omega) (fun acc _ => ev_neg (by omega) ev_some) (fun acc i hi ha r h => by
    refine ev_pos (by omega) ?_
    simp only [at?_nat hi, Option.bind_some]
    unfold laws_toCode.f
    refine ev_bind _ (ev_bind _ (toInsS_ev _ (hs _ (List.getElem_mem hi))) ev_some) ?_
    simp only [at?_nat (l := acc) (i := i) (by omega), Option.bind_some, Int.toNat_natCast]
    rw [w64_next (by omega)]
    exact h)
  simpa using this
theorem eqInsS_ev (xs : List SIns) (hn : xs.length ≤ 1048576) : Evr (fun k => laws_eqInsS.f k xs xs) true := by
  unfold laws_eqInsS.f laws_eqInsS.e2
  refine ev_pos rfl (ev_bind (.inr ()) ?_ ev_some)
  exact ev_same xs (fun k i => laws_eqInsS.l1 k xs xs i) _ (by omega) (ev_neg (by omega) ev_some) (fun i hi r h => by
    refine ev_pos (by omega) ?_
    simp only [at?_nat hi, Option.bind_some, laws_eqIns.f, if_true]
    rw [w64_next (by omega)]
    exact h)
theorem eqCodeS_ev (xs : List SCode) (hn : xs.length ≤ 1048576) (hs : ∀ x ∈ xs, x.f4.length ≤ 1048576) : Evr (fun k => laws_eqCodeS.f k xs xs) true := by
  unfold laws_eqCodeS.f laws_eqCodeS.e2
  refine ev_pos rfl (ev_bind (.inr ()) ?_ ev_some)
  exact ev_same xs (fun k i => laws_eqCodeS.l1 k xs xs i) _ (by omega) (ev_neg (by omega) ev_some) (fun i hi r h => by
    refine ev_pos (by omega) ?_
    simp only [at?_nat hi, Option.bind_some]
    refine ev_bind true ?_ ?_
    · unfold laws_eqCode.f
      exact ev_pos rfl (ev_pos rfl (ev_pos rfl (ev_pos rfl (ev_bind true (eqInsS_ev _ (hs _ (List.getElem_mem hi))) ev_some))))
    · rw [w64_next (by omega)]
      exact ev_pos rfl h)
end Go.Proofs.YtoclajfeeebbbacGreatDoor.V
