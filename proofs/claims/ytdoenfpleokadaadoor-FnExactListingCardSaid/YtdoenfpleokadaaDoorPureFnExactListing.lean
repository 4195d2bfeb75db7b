/- The law of Listing, in plain Lean: both answer alike. -/
import Derived.Test.YtdoenfpleokadaaDoorPlYFnExactListing
import Derived.Test.YtdoenfpleokadaaDoorPlBFnExactListing
import Derived.Lib.ItoaLen
set_option linter.unusedVariables false
set_option linter.unusedSimpArgs false
namespace Go.Proofs.YtdoenfpleokadaaDoor.V
open Go.RowKit Go.Proofs.YtdoenfpleokadaaDoor.E
/-! The numeral. -/
def itoaB (n : Int) : ByteArray := ⟨(Lib.itoa n).toArray⟩
def i64B (n : Int) : Prop := -9223372036854775808 ≤ n ∧ n ≤ 9223372036854775807
theorem itoaB_size {n : Int} (h : i64B n) : (itoaB n).size ≤ 21 := by
  show (Lib.itoa n).toArray.size ≤ 21
  simpa using Lib.itoa_length_le n h.1 h.2
theorem itoa_f (k : Nat) {n : Int} (h : i64B n) : strconv_Itoa.f k n = some (itoaB n) := if_pos h
theorem u8_dig {m : Nat} (h : m < 10) : IntKind.u8.wrap (w64 (48 + (m : Int))) = 48 + (m : Int) := by
  rw [w64_id (by omega) (by omega)]
  unfold IntKind.wrap
  simp [IntKind.signed, IntKind.bits]
  omega
theorem str_dig {m : Nat} (h : m < 10) : strOfNums [IntKind.u8.wrap (w64 (48 + (m : Int)))] = ⟨#[UInt8.ofNat (48 + m)]⟩ := by
  rw [u8_dig h]
  unfold strOfNums
  have : (48 + (m : Int)).toNat = 48 + m := by omega
  simp [this]
theorem digits_nat : ∀ (u : Nat), u ≤ 9223372036854775807 → Evr (fun k => spec_l00Digits.f k (u : Int)) ⟨(Lib.decDigits u).toArray⟩ := fun u => by
  induction u using Nat.strongRecOn with
  | _ u ih =>
    intro hu
    refine ev_step _ (fun k => rfl) (ev_neg (by omega) (ev_neg (by omega) ?_))
    by_cases h : u < 10
    · rw [Lib.decDigits, dif_pos h]
      refine ev_pos (by omega) ?_
      rw [str_dig h]
      exact ev_some
    · rw [Lib.decDigits, dif_neg h]
      refine ev_neg (by omega) ?_
      have e1 : w64 (Int.tdiv (u : Int) 10) = ((u / 10 : Nat) : Int) := by
        rw [show Int.tdiv (u : Int) 10 = ((u / 10 : Nat) : Int) from rfl, w64_id (by omega) (by omega)]
      have e2 : Int.tmod (u : Int) 10 = ((u % 10 : Nat) : Int) := rfl
      rw [e1, e2, str_dig (by omega)]
      have hs : (⟨(Lib.decDigits (u / 10)).toArray⟩ : ByteArray).size ≤ 21 := by
        have := itoaB_size (n := ((u / 10 : Nat) : Int)) ⟨by omega, by omega⟩
        unfold itoaB at this
        rwa [Lib.itoa_nonneg] at this
      refine ev_bind _ (ih (u / 10) (by omega) (by omega)) (ev_pos ?_ (ev_eq ev_some ?_))
      · show _ + 1 ≤ _
        omega
      · apply ByteArray.ext
        simp [ByteArray.data_append]
theorem digits_ev {n : Int} (h : i64B n) : Evr (fun k => spec_l00Digits.f k n) (itoaB n) := by
  unfold itoaB
  by_cases h0 : 0 ≤ n
  · obtain ⟨u, rfl⟩ := Int.eq_ofNat_of_zero_le h0
    rw [Lib.itoa_nonneg]
    exact digits_nat u (by have := h.2; omega)
  · obtain ⟨u, rfl⟩ : ∃ u : Nat, n = -(u : Int) := ⟨n.natAbs, by omega⟩
    have hu : 1 ≤ u := by omega
    rw [Lib.itoa_neg u hu]
    by_cases hm : u = 9223372036854775808
    · subst hm
      refine ev_step _ (fun k => rfl) (ev_pos rfl (ev_eq ev_some ?_))
      have : Lib.decDigits 9223372036854775808 = [57, 50, 50, 51, 51, 55, 50, 48, 51, 54, 56, 53, 52, 55, 55, 53, 56, 48, 56] := by
        rw [Lib.decDigits_eq]
        rw [Lib.nDigits_unique 18 9223372036854775808 (by decide) (by decide)]
        decide
      rw [this]
    · have := h.1
      refine ev_step _ (fun k => rfl) (ev_neg (by omega) (ev_pos (by omega) ?_))
      have e1 : w64 (0 - -(u : Int)) = (u : Int) := by rw [w64_id (by omega) (by omega)]; omega
      rw [e1]
      have hs : (⟨(Lib.decDigits u).toArray⟩ : ByteArray).size ≤ 21 := by
        have := itoaB_size (n := (u : Int)) ⟨by omega, by omega⟩
        unfold itoaB at this
        rwa [Lib.itoa_nonneg] at this
      refine ev_bind _ (digits_nat u (by omega)) (ev_pos ?_ (ev_eq ev_some ?_))
      · show 1 + _ ≤ _
        omega
      · apply ByteArray.ext
        simp [ByteArray.data_append]
/-! Words. -/
def wordsL : List ByteArray := (spec_l04Words.f 0).getD []
theorem words_eq (k : Nat) : spec_l04Words.f k = some wordsL := rfl
theorem opWords_eq (k : Nat) : impl_opWords.f k = some wordsL := by
  have : impl_opWords.f 0 = some wordsL := by kernel_rfl
  exact this
theorem wordsL_len : wordsL.length = 18 := by decide +kernel
theorem wordsL_size : ∀ w ∈ wordsL, w.size ≤ 9 := by decide +kernel
theorem signsL_size : ∀ w ∈ signsL, w.size ≤ 9 := by decide +kernel
def wordAt (n : Int) : ByteArray := wordsL.getD n.toNat e0
theorem wordAt_at {n : Int} (h0 : 1 ≤ n) (h1 : n ≤ 17) : at? wordsL n = some (wordAt n) := by
  have hl : n.toNat < wordsL.length := by rw [wordsL_len]; omega
  rw [at?_int (by omega) (by rw [wordsL_len]; omega)]
  unfold wordAt
  rw [getD_at hl]
theorem wordAt_size (n : Int) : (wordAt n).size ≤ 9 := by
  unfold wordAt
  by_cases h : n.toNat < wordsL.length
  · rw [getD_at h]
    exact wordsL_size _ (List.getElem_mem h)
  · rw [List.getD_eq_getElem?_getD, List.getElem?_eq_none (by omega)]
    exact Nat.zero_le _
def signAt (n : Int) : ByteArray := signsL.getD n.toNat e0
theorem signAt_at {n : Int} (h0 : 0 ≤ n) (h1 : n ≤ 10) : at? signsL n = some (signAt n) := by
  have hl : n.toNat < signsL.length := by rw [signs_len]; omega
  rw [at?_int (by omega) (by rw [signs_len]; omega)]
  unfold signAt
  rw [getD_at hl]
theorem signAt_size (n : Int) : (signAt n).size ≤ 9 := by
  unfold signAt
  by_cases h : n.toNat < signsL.length
  · rw [getD_at h]
    exact signsL_size _ (List.getElem_mem h)
  · rw [List.getD_eq_getElem?_getD, List.getElem?_eq_none (by omega)]
    exact Nat.zero_le _
/-! What an instruction that is right holds. -/
structure Fit (x : SIns) : Prop where
  op : 1 ≤ x.f0 ∧ x.f0 ≤ 17
  nm : x.f0 = 3 ∨ x.f0 = 13 → x.f3.size ≤ 40 ∧ x.f4.size ≤ 40
  wk : x.f0 = 7 → 0 ≤ x.f1 ∧ x.f1 ≤ 10
  a : i64B x.f1
  b : i64B x.f2
theorem modB_size {s : ByteArray} (h : modB s = true) : s.size ≤ 40 := by
  unfold modB nameB at h
  simp only [Bool.and_eq_true, decide_eq_true_eq] at h
  exact h.1.1.1.2
theorem fit {c : SCode} {x : SIns} (h : insB c x = true) (hg : gSIns x) : Fit x := by
  unfold insB at h
  simp only [Bool.and_eq_true] at h
  obtain ⟨hh, ht⟩ := h
  refine ⟨?_, fun h3 => ?_, fun h7 => ?_, wf_i64 hg.2.1, wf_i64 hg.2.2.1⟩
  · unfold tailB btw at ht
    by_cases h1 : 1 ≤ x.f0 ∧ x.f0 ≤ 17
    · exact h1
    · exfalso
      rw [if_neg (by omega), if_neg (by omega), if_neg (by omega), if_neg (by omega), if_neg (by omega), if_neg (by omega), if_neg (by omega), if_neg (by omega), if_neg (by omega), if_neg (by omega)] at ht
      simp only [Bool.and_eq_true, decide_eq_true_eq] at ht
      exact h1 ht.1
  · unfold headB at hh
    rw [if_pos h3] at hh
    simp only [Bool.and_eq_true] at hh
    exact ⟨modB_size hh.1.1, modB_size hh.1.2⟩
  · unfold tailB btw at ht
    simp [h7] at ht
    exact ht
/-! One line. -/
def isI (n : Int) : Bool := decide (n = 1 ∨ n = 2 ∨ n = 6 ∨ n = 11 ∨ n = 12 ∨ n = 15 ∨ n = 16 ∨ n = 17)
def isW (n : Int) : Bool := decide (n = 4 ∨ n = 5 ∨ n = 8 ∨ n = 9 ∨ n = 10 ∨ n = 14)
theorem sI_eq (k : Nat) (x : SIns) : spec_Listing.e1 k x = some (isI x.f0) := by
  unfold spec_Listing.e1 isI
  repeat' split
  all_goals simp [*]
theorem iW_eq (k : Nat) (x : SIns) : impl_Ins__listed.e1 k x = some (isW x.f0) := by
  unfold impl_Ins__listed.e1 isW
  repeat' split
  all_goals simp [*]
/-- What stands behind the word. -/
def argT (x : SIns) : ByteArray :=
  if isI x.f0 = true then (⟨#[32]⟩ : ByteArray) ++ itoaB x.f1 else if x.f0 = 7 then (⟨#[32]⟩ : ByteArray) ++ signAt x.f1 else if x.f0 = 3 then (⟨#[32]⟩ : ByteArray) ++ x.f3 ++ (⟨#[46]⟩ : ByteArray) ++ x.f4
  else if x.f0 = 13 then (⟨#[32]⟩ : ByteArray) ++ x.f3 ++ (⟨#[46]⟩ : ByteArray) ++ x.f4 ++ (⟨#[32]⟩ : ByteArray) ++ itoaB x.f1 ++ (⟨#[32]⟩ : ByteArray) ++ itoaB x.f2 else e0
theorem argT_size {x : SIns} (h : Fit x) : (argT x).size ≤ 130 := by
  have h1 := itoaB_size h.a
  have h2 := itoaB_size h.b
  have h3 := signAt_size x.f1
  have s1 : (⟨#[32]⟩ : ByteArray).size = 1 := rfl
  have s2 : (⟨#[46]⟩ : ByteArray).size = 1 := rfl
  unfold argT
  split
  · rw [ByteArray.size_append]; omega
  split
  · rw [ByteArray.size_append]; omega
  split
  · rename_i h4
    have := h.nm (.inl h4)
    simp only [ByteArray.size_append]; omega
  split
  · rename_i h4
    have := h.nm (.inr h4)
    simp only [ByteArray.size_append]; omega
  · exact Nat.zero_le _
theorem app_e0 (a : ByteArray) : a ++ e0 = a := by
  apply ByteArray.ext
  simp [ByteArray.data_append, e0]
theorem size3 : (⟨#[32]⟩ : ByteArray).size = 1 ∧ (⟨#[46]⟩ : ByteArray).size = 1 ∧ (⟨#[10]⟩ : ByteArray).size = 1 := ⟨rfl, rfl, rfl⟩
/-- The reference's line, without its end. -/
theorem sline_ev {x : SIns} (h : Fit x) (a w : ByteArray) (ha : a.size ≤ 21) (hw : w.size ≤ 9) : Evr (fun k => spec_Listing.e2 k x a w) (a ++ (⟨#[32]⟩ : ByteArray) ++ w ++ argT x) := by
  have h1 := itoaB_size h.a
  have h2 := itoaB_size h.b
  have h3 := signAt_size x.f1
  have hn := h.nm
  obtain ⟨s1, s2, _⟩ := size3
  obtain ⟨K1, d1⟩ := digits_ev h.a
  obtain ⟨K2, d2⟩ := digits_ev h.b
  refine ⟨max K1 K2, fun k hk => ?_⟩
  have d1 := d1 k (by omega)
  have d2 := d2 k (by omega)
  simp only [spec_Listing.e2, sI_eq, Option.bind_some, d1, d2, signs_eq, argT]
  cases hI : isI x.f0 with
  | true =>
    simp only [if_true]
    rw [if_pos (by omega), if_pos (by simp only [ByteArray.size_append, s1, s2]; omega)]
  | false =>
    simp only [Bool.false_eq_true, if_false]
    by_cases h7 : x.f0 = 7
    · have hwk := h.wk h7
      simp only [if_pos h7, signAt_at hwk.1 hwk.2, Option.bind_some]
      rw [if_pos (by omega), if_pos (by simp only [ByteArray.size_append, s1, s2]; omega)]
    · simp only [if_neg h7]
      by_cases h3' : x.f0 = 3
      · have hm := hn (.inl h3')
        simp only [if_pos h3']
        rw [if_pos (by omega), if_pos (by simp only [ByteArray.size_append, s1, s2]; omega), if_pos (by simp only [ByteArray.size_append, s1, s2]; omega), if_pos (by simp only [ByteArray.size_append, s1, s2]; omega)]
      · simp only [if_neg h3']
        by_cases h13 : x.f0 = 13
        · have hm := hn (.inr h13)
          simp only [if_pos h13]
          iterate 8 rw [if_pos (by simp only [ByteArray.size_append, s1, s2]; omega)]
        · simp only [if_neg h13]
          rw [app_e0]
theorem word3 : wordAt 3 ++ (⟨#[32]⟩ : ByteArray) = (⟨#[103, 108, 111, 98, 97, 108, 32]⟩ : ByteArray) := by decide +kernel
theorem word7 : wordAt 7 ++ (⟨#[32]⟩ : ByteArray) = (⟨#[119, 111, 114, 107, 32]⟩ : ByteArray) := by decide +kernel
theorem word13 : wordAt 13 ++ (⟨#[32]⟩ : ByteArray) = (⟨#[99, 97, 108, 108, 32]⟩ : ByteArray) := by decide +kernel
theorem size4 : (⟨#[103, 108, 111, 98, 97, 108, 32]⟩ : ByteArray).size = 7 ∧ (⟨#[119, 111, 114, 107, 32]⟩ : ByteArray).size = 5 ∧ (⟨#[99, 97, 108, 108, 32]⟩ : ByteArray).size = 5 := ⟨rfl, rfl, rfl⟩
/-- The program's. -/
theorem iline_eq (k : Nat) {x : SIns} (h : Fit x) : impl_Ins__listed.f k x = some (wordAt x.f0 ++ argT x) := by
  have h1 := itoaB_size h.a
  have h2 := itoaB_size h.b
  have h3 := signAt_size x.f1
  have h4 := wordAt_size x.f0
  have hn := h.nm
  obtain ⟨s1, s2, _⟩ := size3
  obtain ⟨t1, t2, t3⟩ := size4
  simp only [impl_Ins__listed.f, itoa_f k h.a, itoa_f k h.b, Option.bind_some, iW_eq, opWords_eq, wordAt_at h.op.1 h.op.2, works_eq, argT]
  by_cases h3' : x.f0 = 3
  · have hm := hn (.inl h3')
    have hI : isI x.f0 = false := by unfold isI; rw [h3']; decide
    simp only [if_pos h3']
    rw [if_pos (by omega)]
    iterate 2 rw [if_pos (by simp only [ByteArray.size_append, s1, s2, t1]; omega)]
    rw [hI, h3']
    simp only [Bool.false_eq_true, if_false, if_true]
    rw [if_neg (by omega), ← ByteArray.append_assoc, ← ByteArray.append_assoc, ← ByteArray.append_assoc, word3]
  simp only [if_neg h3']
  by_cases h7 : x.f0 = 7
  · have hwk := h.wk h7
    have hI : isI x.f0 = false := by unfold isI; rw [h7]; decide
    simp only [if_pos h7, signAt_at hwk.1 hwk.2, Option.bind_some]
    rw [if_pos (by omega), hI, h7]
    simp only [Bool.false_eq_true, if_false]
    rw [← ByteArray.append_assoc, word7]
  simp only [if_neg h7]
  by_cases h13 : x.f0 = 13
  · have hm := hn (.inr h13)
    have hI : isI x.f0 = false := by unfold isI; rw [h13]; decide
    simp only [if_pos h13]
    rw [if_pos (by omega)]
    iterate 6 rw [if_pos (by simp only [ByteArray.size_append, s1, s2, t3]; omega)]
    rw [hI, h13]
    simp only [Bool.false_eq_true, if_false]
    simp only [← ByteArray.append_assoc]
    rw [word13]
  simp only [if_neg h13]
  have ho := h.op
  cases hW : isW x.f0 with
  | true =>
    have hI : isI x.f0 = false := by
      unfold isW at hW
      unfold isI
      rw [decide_eq_true_eq] at hW
      rw [decide_eq_false_iff_not]
      omega
    rw [hI]
    simp only [Bool.false_eq_true, if_false, if_true]
    rw [app_e0]
  | false =>
    have hI : isI x.f0 = true := by
      unfold isW at hW
      unfold isI
      rw [decide_eq_false_iff_not] at hW
      rw [decide_eq_true_eq]
      omega
    rw [hI]
    simp only [Bool.false_eq_true, if_false, if_true]
    rw [if_pos (by omega), if_pos (by simp only [ByteArray.size_append, s1, s2]; omega), ← ByteArray.append_assoc]
/-! The loops. -/
def lineT (i : Nat) (x : SIns) : ByteArray := itoaB (i : Int) ++ (⟨#[32]⟩ : ByteArray) ++ wordAt x.f0 ++ argT x
theorem lineT_size {i : Nat} {x : SIns} (h : Fit x) (hi : i ≤ 2000) : (lineT i x).size ≤ 170 := by
  have h1 := itoaB_size (n := (i : Int)) ⟨by omega, by omega⟩
  have h2 := argT_size h
  have h4 := wordAt_size x.f0
  obtain ⟨s1, s2, _⟩ := size3
  unfold lineT
  simp only [ByteArray.size_append, s1, s2]
  omega
def outL : List SIns → Nat → List Int → List Int
  | [], _, s => s
  | x :: l, i, s => outL l (i + 1) (s ++ bytesOf (lineT i x) ++ [10])
theorem bytesOf_append (a b : ByteArray) : bytesOf (a ++ b) = bytesOf a ++ bytesOf b := by
  simp [bytesOf, ByteArray.data_append]
theorem bytesOf_ok (a : ByteArray) : ∀ v ∈ bytesOf a, 0 ≤ v ∧ v < 256 := by
  intro v hv
  unfold bytesOf at hv
  obtain ⟨b, _, rfl⟩ := List.mem_map.1 hv
  have := b.toNat_lt
  omega
theorem outL_ok : ∀ (l : List SIns) (i : Nat) (s : List Int), (∀ v ∈ s, 0 ≤ v ∧ v < 256) → ∀ v ∈ outL l i s, 0 ≤ v ∧ v < 256
  | [], _, s, h => h
  | x :: l, i, s, h => outL_ok l (i + 1) _ (by
      intro v hv
      rcases List.mem_append.1 hv with hv | hv
      · rcases List.mem_append.1 hv with hv | hv
        · exact h v hv
        · exact bytesOf_ok _ v hv
      · rw [List.mem_singleton] at hv
        omega)
theorem outL_len : ∀ (l : List SIns) (i : Nat) (s : List Int), s.length + l.length ≤ (outL l i s).length
  | [], _, s => Nat.le_refl _
  | x :: l, i, s => by
    have := outL_len l (i + 1) (s ++ bytesOf (lineT i x) ++ [10])
    simp only [outL, List.length_append, List.length_cons, List.length_nil] at this ⊢
    omega
theorem step_len {i : Nat} {x : SIns} {s : List Int} (h : Fit x) (hi : i < 2000) (hs : s.length ≤ i * 200) : (s ++ bytesOf (lineT i x) ++ [10]).length ≤ (i + 1) * 200 := by
  have := lineT_size h (i := i) (by omega)
  simp only [List.length_append, bytesOf_length, List.length_cons, List.length_nil]
  omega
theorem sloop_ev (c : SCode) (hn : c.f4.length ≤ 2000) (hf : ∀ x ∈ c.f4, Fit x) : ∀ (m i : Nat) (s : List Int), i + m = c.f4.length → s.length ≤ i * 200 → Evr (fun k => spec_Listing.l3 k c s (i : Int)) (outL (c.f4.drop i) i s)
  | 0, i, s, hm, _ => by
    rw [List.drop_eq_nil_of_le (by omega)]
    exact ev_step _ (fun k => rfl) (ev_neg (by omega) ev_some)
  | m + 1, i, s, hm, hs => by
    have hi : i < c.f4.length := by omega
    have hfi := hf _ (List.getElem_mem hi)
    have hI : i64B (i : Int) := ⟨by omega, by omega⟩
    have h1 := itoaB_size hI
    have h4 := wordAt_size c.f4[i].f0
    obtain ⟨s1, s2, _⟩ := size3
    rw [List.drop_eq_getElem_cons hi]
    refine ev_step _ (fun k => rfl) (ev_pos (by omega) ?_)
    simp only [at?_nat hi, Option.bind_some, words_eq, wordAt_at hfi.op.1 hfi.op.2]
    refine ev_bind _ (digits_ev hI) (ev_pos (by omega) (ev_pos (by simp only [ByteArray.size_append, s1, s2]; omega) (ev_bind _ (sline_ev hfi _ _ h1 h4) ?_)))
    have hl := step_len hfi (i := i) (by omega) hs
    have hl' : (s ++ bytesOf (lineT i c.f4[i])).length ≤ (i + 1) * 200 := by simp only [List.length_append] at hl ⊢; omega
    refine ev_pos (by show (s ++ bytesOf (lineT i c.f4[i])).length * 1 ≤ _; omega) (ev_pos (by show (s ++ bytesOf (lineT i c.f4[i]) ++ [10]).length * 1 ≤ _; omega) ?_)
    rw [w64_next (by omega)]
    exact sloop_ev c hn hf m (i + 1) _ (by omega) hl
theorem iloop_ev (c : SCode) (hn : c.f4.length ≤ 2000) (hf : ∀ x ∈ c.f4, Fit x) : ∀ (m i : Nat) (b : Bool) (s : List Int), i + m = c.f4.length → s.length ≤ i * 200 → ∃ b', Evr (fun k => impl_Listing.l1 k c (i : Int) b s) (b', outL (c.f4.drop i) i s)
  | 0, i, b, s, hm, _ => by
    rw [List.drop_eq_nil_of_le (by omega)]
    exact ⟨b, ev_step _ (fun k => rfl) (ev_neg (by omega) ev_some)⟩
  | m + 1, i, b, s, hm, hs => by
    have hi : i < c.f4.length := by omega
    have hfi := hf _ (List.getElem_mem hi)
    have hI : i64B (i : Int) := ⟨by omega, by omega⟩
    have h1 := itoaB_size hI
    have h4 := wordAt_size c.f4[i].f0
    have h5 := argT_size hfi
    obtain ⟨s1, s2, s3⟩ := size3
    have hl := step_len hfi (i := i) (by omega) hs
    have e1 : itoaB (i : Int) ++ (⟨#[32]⟩ : ByteArray) ++ (wordAt c.f4[i].f0 ++ argT c.f4[i]) ++ ⟨#[10]⟩ = lineT i c.f4[i] ++ ⟨#[10]⟩ := by
      unfold lineT
      simp only [ByteArray.append_assoc]
    have e2 : s ++ bytesOf (lineT i c.f4[i] ++ ⟨#[10]⟩) = s ++ bytesOf (lineT i c.f4[i]) ++ [10] := by
      rw [bytesOf_append, List.append_assoc]; rfl
    obtain ⟨b', hr⟩ := iloop_ev c hn hf m (i + 1) true _ (by omega) hl
    refine ⟨b', ?_⟩
    rw [List.drop_eq_getElem_cons hi]
    refine ev_step _ (fun k => rfl) (ev_pos (by omega) ?_)
    simp only [at?_nat hi, Option.bind_some, itoa_f _ hI, iline_eq _ hfi]
    refine ev_pos (by omega) (ev_pos (by simp only [ByteArray.size_append, s1, s2]; omega) (ev_pos (by simp only [ByteArray.size_append, s1, s2, s3]; omega) ?_))
    refine ev_bind (((lineT i c.f4[i] ++ ⟨#[10]⟩ : ByteArray).size : Int), true, s ++ bytesOf (lineT i c.f4[i]) ++ [10]) (ev_of fun k => ?_) ?_
    · rw [e1]
      unfold strings_Builder__WriteString_1.f strings_Builder__copyCheck_2.f
      rw [e2]
      have : (s ++ bytesOf (lineT i c.f4[i]) ++ [10]).length * 1 ≤ 140737488355328 := by omega
      cases b <;> simp only [Bool.false_eq_true, if_false, if_true, Option.bind_some, if_pos this]
    · rw [w64_next (by omega)]
      exact hr
/-! The answers. -/
def listM (c : SCode) : ByteArray × Int := if (verM c).1 = 0 then (strOfNums (outL c.f4 0 []), 0) else (e0, 1)
theorem ver0 {c : SCode} (h : (verM c).1 = 0) : 1 ≤ c.f4.length ∧ Ok c := by
  unfold verM at h
  cases hh : hdrB c with
  | false => rw [hh] at h; simp at h
  | true =>
    rw [hh] at h
    simp only [if_true] at h
    have hc : (1 ≤ c.f4.length ∧ c.f4.length ≤ 2000) ∧ (0 ≤ c.f3 ∧ c.f3 ≤ 1) := by
      unfold hdrB btw at hh
      simp only [Bool.and_eq_true, decide_eq_true_eq] at hh
      omega
    cases hb : badAt c with
    | some i => rw [hb] at h; simp at h
    | none =>
      refine ⟨hc.1.1, ⟨fun x hx => ?_, hc.1.2, hc.2⟩⟩
      have := firstAt_none.1 hb x hx
      simpa using this
theorem answers_ev (c : SCode) (hg : gSCode c) (h0 : c.f0.size < 9223372036854775807) (hs : ∀ x ∈ c.f4, x.f3.size < 9223372036854775807 ∧ x.f4.size < 9223372036854775807) :
    Evr (fun k => spec_Listing.f k c) (listM c) ∧ Evr (fun k => impl_Listing.f k c) (listM c) := by
  obtain ⟨hv, hw⟩ := both_evM c h0 hs
  unfold spec_Listing.f impl_Listing.f listM impl_Code__verifies.f
  by_cases h : (verM c).1 = 0
  · obtain ⟨hl, ok⟩ := ver0 h
    have hf : ∀ x ∈ c.f4, Fit x := fun x hx => fit (ok.ins x hx) (hg.2.2.2.2.2 x hx)
    have hne : outL c.f4 0 [] ≠ [] := fun e => by
      have := outL_len c.f4 0 []
      rw [e] at this
      have h0 : ([] : List Int).length = 0 := rfl
      omega
    have hall : (outL c.f4 0 []).all (fun n => decide (0 ≤ n) && decide (n < 256)) = true := List.all_eq_true.2 fun v hv => by
      have := outL_ok c.f4 0 [] (fun v hv => absurd hv List.not_mem_nil) v hv
      simp [this]
    rw [if_pos h]
    constructor
    · refine ev_bind _ hv (ev_pos h (ev_bind _ (sloop_ev c ok.len hf _ 0 [] (Nat.zero_add _) (Nat.zero_le _)) ?_))
      exact ev_pos hne ev_some
    · obtain ⟨b', hr⟩ := iloop_ev c ok.len hf _ 0 false [] (Nat.zero_add _) (Nat.zero_le _)
      refine ev_bind _ (ev_bind _ hw ev_some) (ev_pos (by simpa using h) (ev_bind _ hr ?_))
      refine ev_bind (strOfNums (outL c.f4 0 [])) (ev_of fun k => ?_) ev_some
      unfold strings_Builder_String_2.f strings_Builder_String.f
      exact if_pos hall
  · rw [if_neg h]
    exact ⟨ev_bind _ hv (ev_neg h ev_some), ev_bind _ (ev_bind _ hw ev_some) (ev_neg (by simpa using h) ev_some)⟩
end Go.Proofs.YtdoenfpleokadaaDoor.V
namespace Go.Proofs.YtdoenfpleokadaaDoor.E
open Go.RowKit Go.Proofs.YtdoenfpleokadaaDoor.V
theorem pureFnExactListing (x0 : SCode) (h0 : gSCode x0) : ∃ k, laws_FnExactListing.f k x0 = some true := by
  refine Evr.rounds (g := fun k => laws_FnExactListing.f k x0) ?_
  obtain ⟨t, ht, he⟩ := szCode_left x0 h0 1048576 (by omega) (by omega)
  unfold laws_FnExactListing.f
  refine ev_bind _ he (ev_ite (fun _ => ev_some) (fun hneg => ?_))
  have hw : wCode x0 ≤ 1048576 := by
    rcases ht with h | ⟨h, h'⟩
    · exact absurd h hneg
    · omega
  unfold wCode at hw
  have hi : ∀ x ∈ x0.f4, x.f3.size ≤ 1048576 ∧ x.f4.size ≤ 1048576 := fun x hx => by
    have := le_sum wIns hx
    have e : wIns x = x.f3.size + x.f4.size := rfl
    omega
  have hn : x0.f4.length ≤ 1048576 := by omega
  have hc : Evr (fun k => laws_toCode.f k x0) (x0, x0.f0, x0.f1, x0.f2, x0.f3, x0.f4, x0.f0, x0.f1, x0.f2, x0.f3, x0.f4) := by
    unfold laws_toCode.f
    exact ev_bind _ (toInsS_ev _ hn) ev_some
  refine ev_bind _ hc ?_
  obtain ⟨ha, hr⟩ := answers_ev x0 h0 (by omega) (fun x hx => by have := hi x hx; omega)
  refine ev_bind _ ha (ev_bind _ hc (ev_bind _ hr (ev_bind false (ev_of fun k => ?_) ?_)))
  · unfold laws_FnExactListing.e1
    simp
  · refine ev_neg (by simp) (ev_bind _ hc (ev_bind true ?_ ev_some))
    unfold laws_eqCode.f
    exact ev_pos rfl (ev_pos rfl (ev_pos rfl (ev_pos rfl (ev_bind true (eqInsS_ev _ hn) ev_some))))
end Go.Proofs.YtdoenfpleokadaaDoor.E
