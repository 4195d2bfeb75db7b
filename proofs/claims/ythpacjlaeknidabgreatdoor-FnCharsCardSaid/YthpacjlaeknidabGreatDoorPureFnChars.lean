/- The law of characters: whatever is drawn is one of 17 characters, and the text of each is one token. -/
import Derived.Test.YthpacjlaeknidabGreatDoorOpFnChars
import Derived.Test.YthpacjlaeknidabGreatDoorPlA
set_option linter.unusedVariables false
set_option linter.unusedSimpArgs false
namespace Go.Proofs.YthpacjlaeknidabGreatDoor.E
open Go.RowKit
def chars17 : List Int := [97, 122, 32, 126, 233, 945, 8364, 128512, 0, 10, 34, 127, 2047, 2048, 65535, 65536, 1114111]
def rest17 (k : Nat) (c : Int) : Option Bool := (impl_CharText.f k c).bind fun r4 => (spec_CharText.f k c).bind fun r6 => (impl_Tokens.f k r4.1).bind fun r8 => (laws_FnChars.e1 k c r4 r6 r8).bind fun y20 => some y20
set_option maxRecDepth 1000000 in
theorem rest_all : (chars17.all fun c => decide (rest17 60 c = some true)) = true := by decide +kernel
theorem byte_some (k : Nat) (x0 : List Int) (h : x0.length ≤ 1048576) (hw : ∀ y, y ∈ x0 → 0 ≤ y ∧ y < 256) (s : Int) (h0 : 0 ≤ s) (h1 : s < 1000) : ∃ v a b, spec_l00Src__byte_2.f k ⟨x0, 0, s⟩ = some (v, a, b) ∧ 0 ≤ v ∧ v < 256 := by
  unfold spec_l00Src__byte_2.f
  simp only
  have e1 : w64 ((0 : Int) + 1) = 1 := by decide
  have e2 : w64 ((1 : Int) - 1) = 0 := by decide
  rw [e1, e2]
  by_cases hl : (1 : Int) ≤ (x0.length : Int)
  · rw [if_pos hl]
    have hlt : 0 < x0.length := by omega
    have ha : at? x0 0 = some x0[0] := at?_nat hlt
    have hb := hw _ (List.getElem_mem hlt)
    rw [ha]
    generalize x0[0] = y at hb
    exact ⟨_, _, _, rfl, by rw [w64_id (by omega) (by omega)]; omega, by rw [w64_id (by omega) (by omega)]; omega⟩
  · rw [if_neg hl, if_neg (by decide)]
    refine ⟨_, _, _, rfl, ?_, ?_⟩
    · rw [w64_id (n := s * 1103515245) (by omega) (by omega), w64_id (n := s * 1103515245 + 12345) (by omega) (by omega)]
      have h2 : Int.tmod (s * 1103515245 + 12345) 2147483648 = (s * 1103515245 + 12345) % 2147483648 := Int.tmod_eq_emod_of_nonneg (by omega)
      rw [h2]
      have h3 : Int.tdiv ((s * 1103515245 + 12345) % 2147483648) 65536 = ((s * 1103515245 + 12345) % 2147483648) / 65536 := Int.tdiv_eq_ediv_of_nonneg (by omega)
      rw [h3, w64_id (by omega) (by omega)]
      have h4 : Int.tmod (((s * 1103515245 + 12345) % 2147483648) / 65536) 256 = (((s * 1103515245 + 12345) % 2147483648) / 65536) % 256 := Int.tmod_eq_emod_of_nonneg (by omega)
      rw [h4]; omega
    · rw [w64_id (n := s * 1103515245) (by omega) (by omega), w64_id (n := s * 1103515245 + 12345) (by omega) (by omega)]
      have h2 : Int.tmod (s * 1103515245 + 12345) 2147483648 = (s * 1103515245 + 12345) % 2147483648 := Int.tmod_eq_emod_of_nonneg (by omega)
      rw [h2]
      have h3 : Int.tdiv ((s * 1103515245 + 12345) % 2147483648) 65536 = ((s * 1103515245 + 12345) % 2147483648) / 65536 := Int.tdiv_eq_ediv_of_nonneg (by omega)
      rw [h3, w64_id (by omega) (by omega)]
      have h4 : Int.tmod (((s * 1103515245 + 12345) % 2147483648) / 65536) 256 = (((s * 1103515245 + 12345) % 2147483648) / 65536) % 256 := Int.tmod_eq_emod_of_nonneg (by omega)
      rw [h4]; omega
theorem charOf_some (k : Nat) (x0 : List Int) (h : x0.length ≤ 1048576) (hw : ∀ y, y ∈ x0 → 0 ≤ y ∧ y < 256) : ∃ c, spec_CharOf.f k x0 = some c ∧ c ∈ chars17 := by
  have hs : Int.tmod (x0.length : Int) 1000 = (x0.length : Int) % 1000 := Int.tmod_eq_emod_of_nonneg (by omega)
  obtain ⟨v, a, b, h1, h2, h3⟩ := byte_some k x0 h hw (Int.tmod (x0.length : Int) 1000) (by rw [hs]; omega) (by rw [hs]; omega)
  have hv : Int.tmod v 17 = v % 17 := Int.tmod_eq_emod_of_nonneg h2
  have hn : spec_l00Src__next_2.f k 17 ⟨x0, 0, Int.tmod (x0.length : Int) 1000⟩ = some (v % 17, a, b) := by
    unfold spec_l00Src__next_2.f
    rw [if_neg (by decide), if_pos (by decide), h1, Option.bind_some, if_pos (by decide), hv]
  obtain ⟨j, hj, hjv⟩ : ∃ j : Nat, j < 17 ∧ v % 17 = (j : Int) := ⟨(v % 17).toNat, by omega, by omega⟩
  have hc : spec_l00Src__char_2.f k ⟨x0, 0, Int.tmod (x0.length : Int) 1000⟩ = some (chars17[j]'hj, a, b) := by
    unfold spec_l00Src__char_2.f
    rw [hn, Option.bind_some]
    show ((at? chars17 (v % 17)).bind _) = _
    rw [hjv, at?_nat (l := chars17) hj]
    rfl
  refine ⟨chars17[j]'hj, ?_, List.getElem_mem _⟩
  unfold spec_CharOf.f spec_l00Source.f
  rw [Option.bind_some]
  show ((spec_l00Src__char_2.f k ⟨x0, 0, Int.tmod (x0.length : Int) 1000⟩).bind _) = _
  rw [hc]
  rfl
theorem u8_wf {y : Int} (h : (Lit.int .u8 y).wf = true) : 0 ≤ y ∧ y < 256 := by
  have h2 : 0 ≤ y ∧ y ≤ 255 := by simpa [Lit.wf, IntKind.min, IntKind.max, IntKind.signed, IntKind.bits] using h
  omega
theorem pureFnChars (x0 : (List Int)) (h0 : (x0.length ≤ maxLen ∧ ∀ y_, y_ ∈ x0 → (Lit.int .u8 y_).wf = true)) : ∃ k, laws_FnChars.f k x0 = some true := by
  refine ⟨60, ?_⟩
  unfold laws_FnChars.f
  by_cases hl : (1048576 : Int) < (x0.length : Int)
  · rw [if_pos hl]
  · rw [if_neg hl]
    obtain ⟨c, h1, h2⟩ := charOf_some 60 x0 (by omega) (fun y hy => u8_wf (h0.2 y hy))
    rw [h1, Option.bind_some]
    exact of_decide_eq_true (List.all_eq_true.1 rest_all c h2)
end Go.Proofs.YthpacjlaeknidabGreatDoor.E
