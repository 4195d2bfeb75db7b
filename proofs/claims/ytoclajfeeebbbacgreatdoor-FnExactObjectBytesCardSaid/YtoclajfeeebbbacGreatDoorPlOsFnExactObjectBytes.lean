/- Objects: their bound, copy and comparison in a law. -/
import Derived.Test.YtoclajfeeebbbacGreatDoorPlOFnExactObjectBytes
import Derived.Test.YtoclajfeeebbbacGreatDoorPlCFnExactObjectBytes
set_option linter.unusedVariables false
set_option linter.unusedSimpArgs false
namespace Go.Proofs.YtoclajfeeebbbacGreatDoor.V
open Go.RowKit Go.Proofs.YtoclajfeeebbbacGreatDoor.E
def wNeed (x : SNeed) : Nat := x.f0.size
theorem szNeed_left (x : SNeed) (hx : gSNeed x) (left : Int) (h0 : 0 ≤ left) (hB : left ≤ 1048576) : ∃ t, LeftOf left (wNeed x) t ∧ (∀ k, laws_szNeed.f k x left = some t) ∧ ∀ k, laws_szGlobal.f k x left = some t := by
  have hm : maxLen = 9223372036854775807 := rfl
  have h3 := hx.1
  have hw : w64 (left - (x.f0.size : Int)) = left - x.f0.size := w64_id (by omega) (by omega)
  unfold laws_szNeed.f laws_szGlobal.f wNeed
  simp only [hw]
  by_cases h : left - (x.f0.size : Int) < 0
  · exact ⟨-1, .inl (by omega), fun k => by rw [if_pos h], fun k => by rw [if_pos h]⟩
  · exact ⟨left - x.f0.size, .inr ⟨by omega, by omega⟩, fun k => by rw [if_neg h], fun k => by rw [if_neg h]⟩
theorem szNeedS_left (xs : List SNeed) (hl : xs.length ≤ maxLen) (hx : ∀ x ∈ xs, gSNeed x) (left : Int) (h0 : 0 ≤ left) (hB : left ≤ 1048576) : ∃ t, LeftOf left (xs.length + (xs.map wNeed).sum) t ∧ Evr (fun k => laws_szNeedS.f k xs left) t := by
  have hm : maxLen = 9223372036854775807 := rfl
  have hw2 : w64 (left - (xs.length : Int)) = left - xs.length := w64_id (by omega) (by omega)
  unfold laws_szNeedS.f laws_szNeedS.e2
  simp only [hw2]
  by_cases h' : left - (xs.length : Int) < 0
  · exact ⟨-1, .inl (by omega), ev_pos h' ev_some⟩
  · have main := ev_left (ρ := Int) xs wNeed 1048576 (fun k left i => laws_szNeedS.l1 k xs left i) (-1) (by omega) (fun left _ _ => ev_neg (by omega) ev_some) (fun left i hi h1 h2 => by
      obtain ⟨t, ht, he1, he2⟩ := szNeed_left xs[i] (hx _ (List.getElem_mem hi)) left h1 h2
      refine ⟨t, ht, fun hneg => ev_pos (by omega) ?_, fun hpos r hr => ev_pos (by omega) ?_⟩
      · simp only [at?_nat hi, Option.bind_some, he1, he2, if_pos hneg]
        exact ev_some
      · simp only [at?_nat hi, Option.bind_some, he1, he2]
        refine ev_neg (by omega) ?_
        rw [w64_next (by omega)]
        exact hr) _ (by omega : 0 ≤ left - (xs.length : Int)) (by omega)
    rcases main with hb | ⟨t, ht, hsum, he⟩
    · exact ⟨-1, .inl (by omega), ev_neg h' (ev_bind _ hb ev_some)⟩
    · exact ⟨t, .inr ⟨ht, by omega⟩, ev_neg h' (ev_bind _ he ev_some)⟩
theorem toNeedS_ev (xs : List SNeed) (hn : xs.length ≤ 1048576) : Evr (fun k => laws_toNeedS.f k xs) xs := by
  unfold laws_toNeedS.f laws_toNeedS.e2
  refine ev_pos (by omega) (ev_bind _ ?_ ev_some)
  have := ev_copy xs id (⟨⟨#[]⟩, 0⟩ : SNeed) (fun k acc i => laws_toNeedS.l1 k xs acc i) (by omega) (fun acc _ => ev_neg (by omega) ev_some) (fun acc i hi ha r h => by
    refine ev_pos (by omega) ?_
    simp only [at?_nat hi, Option.bind_some, laws_toNeed.f, at?_nat (l := acc) (i := i) (by omega), Int.toNat_natCast]
    rw [w64_next (by omega)]
    exact h)
  simpa using this
theorem eqNeedS_ev (xs : List SNeed) (hn : xs.length ≤ 1048576) : Evr (fun k => laws_eqNeedS.f k xs xs) true := by
  unfold laws_eqNeedS.f laws_eqNeedS.e2
  refine ev_pos rfl (ev_bind (.inr ()) ?_ ev_some)
  exact ev_same xs (fun k i => laws_eqNeedS.l1 k xs xs i) _ (by omega) (ev_neg (by omega) ev_some) (fun i hi r h => by
    refine ev_pos (by omega) ?_
    simp only [at?_nat hi, Option.bind_some, laws_eqNeed.f, if_true]
    rw [w64_next (by omega)]
    exact h)
theorem szGlobalS_left (xs : List SNeed) (hl : xs.length ≤ maxLen) (hx : ∀ x ∈ xs, gSNeed x) (left : Int) (h0 : 0 ≤ left) (hB : left ≤ 1048576) : ∃ t, LeftOf left (xs.length + (xs.map wNeed).sum) t ∧ Evr (fun k => laws_szGlobalS.f k xs left) t := by
  have hm : maxLen = 9223372036854775807 := rfl
  have hw2 : w64 (left - (xs.length : Int)) = left - xs.length := w64_id (by omega) (by omega)
  unfold laws_szGlobalS.f laws_szGlobalS.e2
  simp only [hw2]
  by_cases h' : left - (xs.length : Int) < 0
  · exact ⟨-1, .inl (by omega), ev_pos h' ev_some⟩
  · have main := ev_left (ρ := Int) xs wNeed 1048576 (fun k left i => laws_szGlobalS.l1 k xs left i) (-1) (by omega) (fun left _ _ => ev_neg (by omega) ev_some) (fun left i hi h1 h2 => by
      obtain ⟨t, ht, he1, he2⟩ := szNeed_left xs[i] (hx _ (List.getElem_mem hi)) left h1 h2
      refine ⟨t, ht, fun hneg => ev_pos (by omega) ?_, fun hpos r hr => ev_pos (by omega) ?_⟩
      · simp only [at?_nat hi, Option.bind_some, he1, he2, if_pos hneg]
        exact ev_some
      · simp only [at?_nat hi, Option.bind_some, he1, he2]
        refine ev_neg (by omega) ?_
        rw [w64_next (by omega)]
        exact hr) _ (by omega : 0 ≤ left - (xs.length : Int)) (by omega)
    rcases main with hb | ⟨t, ht, hsum, he⟩
    · exact ⟨-1, .inl (by omega), ev_neg h' (ev_bind _ hb ev_some)⟩
    · exact ⟨t, .inr ⟨ht, by omega⟩, ev_neg h' (ev_bind _ he ev_some)⟩
theorem toGlobalS_ev (xs : List SNeed) (hn : xs.length ≤ 1048576) : Evr (fun k => laws_toGlobalS.f k xs) xs := by
  unfold laws_toGlobalS.f laws_toGlobalS.e2
  refine ev_pos (by omega) (ev_bind _ ?_ ev_some)
  have := ev_copy xs id (⟨⟨#[]⟩, 0⟩ : SNeed) (fun k acc i => laws_toGlobalS.l1 k xs acc i) (by omega) (fun acc _ => ev_neg (by omega) ev_some) (fun acc i hi ha r h => by
    refine ev_pos (by omega) ?_
    simp only [at?_nat hi, Option.bind_some, laws_toGlobal.f, at?_nat (l := acc) (i := i) (by omega), Int.toNat_natCast]
    rw [w64_next (by omega)]
    exact h)
  simpa using this
theorem eqGlobalS_ev (xs : List SNeed) (hn : xs.length ≤ 1048576) : Evr (fun k => laws_eqGlobalS.f k xs xs) true := by
  unfold laws_eqGlobalS.f laws_eqGlobalS.e2
  refine ev_pos rfl (ev_bind (.inr ()) ?_ ev_some)
  exact ev_same xs (fun k i => laws_eqGlobalS.l1 k xs xs i) _ (by omega) (ev_neg (by omega) ev_some) (fun i hi r h => by
    refine ev_pos (by omega) ?_
    simp only [at?_nat hi, Option.bind_some, laws_eqGlobal.f, if_true]
    rw [w64_next (by omega)]
    exact h)
/-- The bound: too large, or of a size that fits. -/
theorem szObject_ev (x0 : SObj) (h0 : gSObj x0) : ∃ t, Evr (fun k => laws_szObject.f k x0 1048576) t ∧ (t < 0 ∨ SmallO x0) := by
  have hm : maxLen = 9223372036854775807 := rfl
  obtain ⟨l0, _, ⟨l2, g2⟩, ⟨l3, g3⟩, ⟨l4, g4⟩⟩ := h0
  unfold laws_szObject.f
  have hw : w64 (1048576 - (x0.f0.size : Int)) = 1048576 - x0.f0.size := w64_id (by omega) (by omega)
  simp only [hw]
  by_cases n0 : 1048576 - (x0.f0.size : Int) < 0
  · exact ⟨-1, ev_pos n0 ev_some, .inl (by omega)⟩
  obtain ⟨t1, ht1, he1⟩ := szNeedS_left x0.f2 l2 g2 (1048576 - x0.f0.size) (by omega) (by omega)
  by_cases n1 : t1 < 0
  · exact ⟨-1, ev_neg n0 (ev_bind _ he1 (ev_pos n1 ev_some)), .inl (by omega)⟩
  have ht1 : t1 = 1048576 - x0.f0.size - ((x0.f2.length + (x0.f2.map wNeed).sum : Nat) : Int) := by rcases ht1 with h | h <;> omega
  obtain ⟨t2, ht2, he2⟩ := szGlobalS_left x0.f3 l3 g3 t1 (by omega) (by omega)
  by_cases n2 : t2 < 0
  · exact ⟨-1, ev_neg n0 (ev_bind _ he1 (ev_neg n1 (ev_bind _ he2 (ev_pos n2 ev_some)))), .inl (by omega)⟩
  have ht2 : t2 = t1 - ((x0.f3.length + (x0.f3.map wNeed).sum : Nat) : Int) := by rcases ht2 with h | h <;> omega
  obtain ⟨t3, ht3, he3⟩ := szCodeS_left x0.f4 l4 g4 t2 (by omega) (by omega)
  by_cases n3 : t3 < 0
  · exact ⟨-1, ev_neg n0 (ev_bind _ he1 (ev_neg n1 (ev_bind _ he2 (ev_neg n2 (ev_bind _ he3 (ev_pos n3 ev_some)))))), .inl (by omega)⟩
  have ht3 : t3 = t2 - ((x0.f4.length + (x0.f4.map wCode).sum : Nat) : Int) := by rcases ht3 with h | h <;> omega
  refine ⟨t3, ev_neg n0 (ev_bind _ he1 (ev_neg n1 (ev_bind _ he2 (ev_neg n2 (ev_bind _ he3 (ev_neg n3 ev_some)))))), .inr ⟨by omega, by omega, by omega, by omega, fun x hx => ?_, fun x hx => ?_, fun a ha => ?_⟩⟩
  · have hs := le_sum wNeed hx
    unfold wNeed at hs ht1
    omega
  · have hs := le_sum wNeed hx
    unfold wNeed at hs ht2
    omega
  · have hs := le_sum wCode ha
    have hwc : wCode a ≤ 1048576 := by omega
    unfold wCode at hwc
    refine ⟨by omega, by omega, fun x hx => ?_⟩
    have hi := le_sum wIns hx
    unfold wIns at hi hwc
    omega
theorem toObject_ev (o : SObj) (hs : SmallO o) : ∃ z, Evr (fun k => laws_toObject.f k o) (o, z) := by
  unfold laws_toObject.f
  exact ⟨_, ev_bind _ (toNeedS_ev _ hs.needs) (ev_bind _ (toGlobalS_ev _ hs.globs) (ev_bind _ (toCodeS_ev _ hs.procs fun x hx => (hs.proc x hx).len) ev_some))⟩
theorem eqObject_ev (o : SObj) (hs : SmallO o) : Evr (fun k => laws_eqObject.f k o o) true := by
  unfold laws_eqObject.f
  exact ev_pos rfl (ev_pos rfl (ev_bind _ (eqNeedS_ev _ hs.needs) (ev_pos rfl (ev_bind _ (eqGlobalS_ev _ hs.globs) (ev_pos rfl (ev_bind _ (eqCodeS_ev _ hs.procs fun x hx => (hs.proc x hx).len) ev_some))))))
end Go.Proofs.YtoclajfeeebbbacGreatDoor.V
