/- What a name is: the program's and the reference's answer, as one Bool. Plain lemmas over the printed functions. -/
import Derived.Test.YtnjbmpabnceneaaDoorPFnExactFilesOKx
import Derived.Test.YtnjbmpabnceneaaDoorLoops
set_option linter.unusedVariables false
set_option linter.unusedSimpArgs false
namespace Go.Proofs.YtnjbmpabnceneaaDoor.NmFnExactFilesOK
open Go.RowKit Go.Proofs.YtnjbmpabnceneaaDoor.PFnExactFilesOK Go.Proofs.YtnjbmpabnceneaaDoorW.PrintWords Go.Proofs.YtnjbmpabnceneaaDoorW.PrintLast Go.Proofs.YtnjbmpabnceneaaDoorW.Loops

def letterB (c : Int) : Bool := (decide (97 ≤ c) && decide (c ≤ 122)) || (decide (65 ≤ c) && decide (c ≤ 90)) || c == 95
def digitB (c : Int) : Bool := decide (48 ≤ c) && decide (c ≤ 57)
def wordB (c : Int) : Bool := letterB c || digitB c
/-- A name. -/
def nameB (a : ByteArray) : Bool := decide (1 ≤ a.size) && decide (a.size ≤ 40) && letterB (bt a 0) && (bytesOf a).all wordB

theorem specLetter_eq (c : Int) : spec_l00Letter.f c = some (letterB c) := by
  unfold spec_l00Letter.f letterB
  by_cases h1 : c ≥ 97 <;> by_cases h2 : c ≤ 122 <;> by_cases h3 : c ≥ 65 <;> by_cases h4 : c ≤ 90 <;> simp [h1, h2, h3, h4] <;> omega
theorem implLetter_eq (c : Int) : impl_isLetter.f c = some (letterB c) := specLetter_eq c
theorem specDigit_eq (c : Int) : spec_l00Digit.f c = some (digitB c) := by
  unfold spec_l00Digit.f digitB
  by_cases h1 : c ≥ 48 <;> simp [h1]
theorem implDigit_eq (c : Int) : impl_isDigit.f c = some (digitB c) := specDigit_eq c
theorem implWord_eq (c : Int) : impl_isWordByte.f c = some (wordB c) := by
  unfold impl_isWordByte.f wordB
  rw [implLetter_eq, implDigit_eq]
  cases letterB c <;> simp
theorem implWithin_eq (a b c : Int) : impl_within.f a b c = some (decide (b ≤ a) && decide (a ≤ c)) := by
  unfold impl_within.f
  by_cases h : b ≤ a <;> simp [h]

/-- areAll over bytes. -/
theorem areAllByte_ev (l : List Int) (b : Int → Bool) (p : Nat → Int → Option Bool) (hp : ∀ x, x ∈ l → Ev (fun k => p k x) (b x)) (hn : l.length ≤ 9223372036854775806) : Ev (fun k => impl_areAll_byte.f k l (p k)) (l.all b) := by
  unfold impl_areAll_byte.f slices_ContainsFunc_byte_byte.f slices_IndexFunc_byte_byte.f impl_areAll_byte_1.f
  have h : Ev (fun k => slices_IndexFunc_byte_byte.l0 k l (fun az0 => (p k az0).bind fun t => some (!t)) (l.length : Int) 0) (idxOf (fun x => !b x) l) := by
    obtain ⟨K, hK⟩ : ∃ K, ∀ x, x ∈ l → ∀ k, K ≤ k → p k x = some (b x) := by
      clear hn
      induction l with
      | nil => exact ⟨0, fun x hx => by cases hx⟩
      | cons y ys ih =>
        obtain ⟨K1, h1⟩ := ih (fun x hx => hp x (by simp [hx]))
        obtain ⟨K2, h2⟩ := hp y (by simp)
        refine ⟨max K1 K2, fun x hx k hk => ?_⟩
        rcases List.mem_cons.1 hx with rfl | hx
        · exact h2 k (by omega)
        · exact h1 x hx k (by omega)
    obtain ⟨K2, h2⟩ := idx_loop l 0 (fun x => !b x) (fun _ x => some (!b x)) (fun k i => slices_IndexFunc_byte_byte.l0 k l (fun az0 => some (!b az0)) (l.length : Int) i) (fun k i => by simp only [slices_IndexFunc_byte_byte.l0]; rfl) (fun x _ => ev_some) hn
    refine ⟨max K K2, fun k hk => ?_⟩
    have h3 := h2 k (by omega)
    have same : ∀ (m : Nat) (i : Int), slices_IndexFunc_byte_byte.l0 m l (fun az0 => (p k az0).bind fun t => some (!t)) (l.length : Int) i = slices_IndexFunc_byte_byte.l0 m l (fun az0 => some (!b az0)) (l.length : Int) i := by
      intro m
      induction m with
      | zero => intro i; rfl
      | succ m ih =>
        intro i
        simp only [slices_IndexFunc_byte_byte.l0, ih]
        by_cases c1 : i < (l.length : Int)
        · by_cases c2 : 0 ≤ i
          · have hm : rd l i ∈ l := by
              have e : rd l i = l[i.toNat]'(by omega) := by
                unfold rd
                simp [List.getD_eq_getElem?_getD, List.getElem?_eq_getElem (show i.toNat < l.length by omega)]
              rw [e]
              exact List.getElem_mem _
            rw [hK _ hm k (by omega)]
            simp
          · simp [c2]
        · simp [c1]
    show slices_IndexFunc_byte_byte.l0 k l (fun az0 => (p k az0).bind fun t => some (!t)) (l.length : Int) 0 = _
    rw [same]
    exact h3
  have e : l.all b = !(decide (idxOf (fun x => !b x) l ≥ 0)) := by
    rw [idxOf_ge]
    simp [List.all_eq_not_any_not]
  rw [e]
  exact ev_bind _ (ev_bind _ h ev_some) ev_some

theorem bytesOf_get (a : ByteArray) (i : Nat) (h : i < a.size) : (bytesOf a)[i]'(by rw [bytesOf_length]; exact h) = bt a i := by
  have h1 := rd_bytesOf a (i : Int)
  unfold rd at h1
  rw [← h1]
  simp [List.getD_eq_getElem?_getD, List.getElem?_eq_getElem (show i < (bytesOf a).length by rw [bytesOf_length]; exact h)]

theorem implName_ev (a : ByteArray) (hn : a.size ≤ 9223372036854775806) : Ev (fun k => impl_NameOK.f k a) (nameB a) := by
  unfold impl_NameOK.f nameB
  rw [implWithin_eq]
  refine ev_bind _ ev_some ?_
  by_cases h1 : 1 ≤ a.size
  · by_cases h2 : a.size ≤ 40
    · have e : (decide ((1 : Int) ≤ (a.size : Int)) && decide ((a.size : Int) ≤ 40)) = true := by simp; omega
      rw [e]
      refine ev_if_pos rfl (ev_if_pos (by omega) ?_)
      refine ev_bind _ (ev_const (implLetter_eq _)) ?_
      cases hl : letterB (bt a 0) with
      | false => simpa using ev_some
      | true =>
        refine ev_if_pos rfl (ev_if_pos (by omega) ?_)
        have h := areAllByte_ev (bytesOf a) wordB (fun _ x => impl_isWordByte.f x) (fun x _ => ev_const (implWord_eq x)) (by rw [bytesOf_length]; omega)
        simpa [h1, h2] using ev_bind _ h ev_some
    · have e : (decide ((1 : Int) ≤ (a.size : Int)) && decide ((a.size : Int) ≤ 40)) = false := by simp; omega
      rw [e]
      simpa [h2] using ev_some
  · have e : (decide ((1 : Int) ≤ (a.size : Int)) && decide ((a.size : Int) ≤ 40)) = false := by simp; omega
    rw [e]
    simpa [h1] using ev_some

theorem specWord_loop (a : ByteArray) (h40 : a.size ≤ 40) : ∀ (m i : Nat), i + m = a.size → Ev (fun k => spec_l00Word.l0 k a (i : Int)) (((bytesOf a).drop i).all wordB) := by
  intro m
  induction m with
  | zero =>
    intro i hi
    rw [List.drop_eq_nil_of_le (by rw [bytesOf_length]; omega)]
    exact ev_step _ (fun k => spec_l00Word.l0.eq_2 _ _ k) (ev_if_neg (by omega) ev_some)
  | succ m ih =>
    intro i hi
    have hlt : i < (bytesOf a).length := by rw [bytesOf_length]; omega
    rw [List.drop_eq_getElem_cons hlt, List.all_cons, bytesOf_get a i (by omega)]
    refine ev_step _ (fun k => spec_l00Word.l0.eq_2 _ _ k) (ev_if_pos (by omega) (ev_if_pos (by omega) ?_))
    refine ev_bind _ (ev_const (specLetter_eq _)) ?_
    rw [wrap_next (show i < a.size by omega) (by omega)]
    cases hl : letterB (bt a i) with
    | true => simpa [wordB, hl] using ih (i + 1) (by omega)
    | false =>
      refine ev_if_neg (by simp) (ev_bind _ (ev_const (specDigit_eq _)) ?_)
      cases hd : digitB (bt a i) with
      | true => simpa [wordB, hl, hd] using ih (i + 1) (by omega)
      | false => simpa [wordB, hl, hd] using ev_some

theorem specWord_ev (a : ByteArray) : Ev (fun k => spec_l00Word.f k a) (nameB a) := by
  unfold spec_l00Word.f nameB
  by_cases h1 : 1 ≤ a.size
  · by_cases h2 : a.size ≤ 40
    · refine ev_if_neg (by omega) (ev_if_neg (by omega) (ev_if_pos (by omega) (ev_bind _ (ev_const (specLetter_eq _)) ?_)))
      cases hl : letterB (bt a 0) with
      | false => exact ev_step _ (fun k => spec_l00Word.j0.eq_2 _ _ k) (by simpa using ev_some)
      | true =>
        have h := specWord_loop a h2 (a.size - 1) 1 (by omega)
        have hlt : 0 < (bytesOf a).length := by rw [bytesOf_length]; omega
        have e : (bytesOf a).all wordB = ((bytesOf a).drop 1).all wordB := by
          conv => lhs; rw [← List.drop_zero (l := bytesOf a), List.drop_eq_getElem_cons hlt, List.all_cons, bytesOf_get a 0 (by omega)]
          simp [wordB, hl]
        rw [e]
        refine ev_step _ (fun k => spec_l00Word.j0.eq_2 _ _ k) ?_
        simpa [h1, h2] using h
    · refine ev_if_neg (by omega) (ev_if_pos (by omega) ?_)
      exact ev_step _ (fun k => spec_l00Word.j0.eq_2 _ _ k) (by simpa [h2] using ev_some)
  · refine ev_if_pos (by omega) ?_
    exact ev_step _ (fun k => spec_l00Word.j0.eq_2 _ _ k) (by simpa [h1] using ev_some)
theorem specName_ev (a : ByteArray) : Ev (fun k => spec_NameOK.f k a) (nameB a) := by
  unfold spec_NameOK.f
  exact ev_bind _ (specWord_ev a) ev_some

end Go.Proofs.YtnjbmpabnceneaaDoor.NmFnExactFilesOK
