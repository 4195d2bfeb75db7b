/- The program's CodeOf returns what the reference's returns. For every text (longer ones than 2 to the 20 bytes: the statement answers true at once). -/
import Derived.Test.YtnjbmpabnceneaaPFnExactCodeOfx1
namespace Go.Proofs.Ytnjbmpabnceneaa.Pure
open Go.RowKit Go.Proofs.Ytnjbmpabnceneaa.PFnExactCodeOf Go.Proofs.YtnjbmpabnceneaaW.PrintWords Go.Proofs.YtnjbmpabnceneaaW.PrintLast

/-- The words of the codes. -/
def words : List ByteArray := [(⟨#[111, 107]⟩ : ByteArray), (⟨#[98, 97, 100]⟩ : ByteArray), (⟨#[108, 111, 110, 103]⟩ : ByteArray), (⟨#[102, 111, 114, 109]⟩ : ByteArray), (⟨#[115, 121, 110, 116, 97, 120]⟩ : ByteArray), (⟨#[110, 97, 109, 101]⟩ : ByteArray), (⟨#[116, 119, 105, 99, 101]⟩ : ByteArray), (⟨#[116, 121, 112, 101]⟩ : ByteArray), (⟨#[99, 111, 117, 110, 116]⟩ : ByteArray), (⟨#[114, 101, 115, 117, 108, 116]⟩ : ByteArray), (⟨#[112, 108, 97, 99, 101]⟩ : ByteArray), (⟨#[114, 97, 110, 103, 101]⟩ : ByteArray), (⟨#[110, 111, 110, 101]⟩ : ByteArray), (⟨#[109, 97, 110, 121]⟩ : ByteArray), (⟨#[100, 101, 101, 112]⟩ : ByteArray), (⟨#[115, 105, 122, 101]⟩ : ByteArray), (⟨#[115, 117, 109]⟩ : ByteArray), (⟨#[112, 114, 105, 110, 116]⟩ : ByteArray), (⟨#[99, 121, 99, 108, 101]⟩ : ByteArray)]

theorem word_at (i : Nat) (h : i < 19) : spec_CodeWord.f (i : Int) = some (rdOf ByteArray.empty words (i : Int)) := by
  unfold spec_CodeWord.f
  have e : words = [(⟨#[111, 107]⟩ : ByteArray), (⟨#[98, 97, 100]⟩ : ByteArray), (⟨#[108, 111, 110, 103]⟩ : ByteArray), (⟨#[102, 111, 114, 109]⟩ : ByteArray), (⟨#[115, 121, 110, 116, 97, 120]⟩ : ByteArray), (⟨#[110, 97, 109, 101]⟩ : ByteArray), (⟨#[116, 119, 105, 99, 101]⟩ : ByteArray), (⟨#[116, 121, 112, 101]⟩ : ByteArray), (⟨#[99, 111, 117, 110, 116]⟩ : ByteArray), (⟨#[114, 101, 115, 117, 108, 116]⟩ : ByteArray), (⟨#[112, 108, 97, 99, 101]⟩ : ByteArray), (⟨#[114, 97, 110, 103, 101]⟩ : ByteArray), (⟨#[110, 111, 110, 101]⟩ : ByteArray), (⟨#[109, 97, 110, 121]⟩ : ByteArray), (⟨#[100, 101, 101, 112]⟩ : ByteArray), (⟨#[115, 105, 122, 101]⟩ : ByteArray), (⟨#[115, 117, 109]⟩ : ByteArray), (⟨#[112, 114, 105, 110, 116]⟩ : ByteArray), (⟨#[99, 121, 99, 108, 101]⟩ : ByteArray)] := rfl
  rw [← e]
  have hl : words.length = 19 := rfl
  simp only [Option.bind_some, hl]
  rw [if_neg (by omega), if_neg (by omega), if_pos (by omega), if_pos (by omega)]

theorem both (a0 : ByteArray) (k : Nat) : ∀ i : Nat, i + k ≥ 20 → i ≤ 19 → ∃ r, spec_CodeOf.l0 k a0 (i : Int) = some r ∧ slices_Index_string_string.l0 k words a0 19 (i : Int) = some r := by
  induction k with
  | zero => intro i h1 h2; omega
  | succ k ih =>
    intro i h1 h2
    have hl : words.length = 19 := rfl
    simp only [spec_CodeOf.l0, slices_Index_string_string.l0, hl]
    by_cases hi : i < 19
    · have ew : wrap64 ((i : Int) + 1) = ((i + 1 : Nat) : Int) := by unfold wrap64; omega
      rw [word_at i hi, if_pos (show (i : Int) ≤ 18 by omega), if_pos (show (i : Int) < 19 by omega), if_pos (show (0 : Int) ≤ i by omega), if_pos (show (i : Int) < ((19 : Nat) : Int) by omega)]
      simp only [Option.bind_some]
      by_cases e : (rdOf ByteArray.empty words (i : Int)).toList = a0.toList
      · exact ⟨i, by rw [if_pos e], by rw [if_pos e.symm]⟩
      · rw [if_neg e, if_neg (fun h => e h.symm), ew]
        exact ih (i + 1) (by omega) (by omega)
    · rw [if_neg (show ¬ (i : Int) ≤ 18 by omega), if_neg (show ¬ (i : Int) < 19 by omega)]
      exact ⟨-1, rfl, rfl⟩

theorem FnExactCodeOf : laws_FnExactCodeOf.Pure := by
  intro a0 _
  refine ⟨40, ?_⟩
  unfold laws_FnExactCodeOf.f
  split
  · rfl
  · have ew : impl_codeWords.f = some words := rfl
    have hl : ((words.length : Nat) : Int) = 19 := rfl
    unfold impl_CodeOf.f spec_CodeOf.f slices_Index_string_string.f
    rw [ew]
    simp only [Option.bind_some, hl]
    have h := both a0 20 0 (by omega) (by omega)
    obtain ⟨r, h1, h2⟩ := h
    have e0 : ((0 : Nat) : Int) = 0 := rfl
    rw [e0] at h1 h2
    rw [at_rounds (g := fun k => spec_CodeOf.l0 k a0 0) (fun k => (spec_CodeOf.mono_l k) _ _) (show 20 ≤ 40 by omega) h1]
    simp only [Option.bind_some]
    rw [at_rounds (g := fun k => slices_Index_string_string.l0 k words a0 19 0) (fun k => (slices_Index_string_string.mono_l k) _ _ _ _) (show 20 ≤ 40 by omega) h2]
    simp

end Go.Proofs.Ytnjbmpabnceneaa.Pure
