/- What a name is, and what a key is: the program's and the reference's answers, as one Bool each. -/
import Derived.Test.YtoclajfeeebbbadGreatDoorOpFnExactReadObject
import Derived.Test.YtoclajfeeebbbadGreatDoorPlA
set_option linter.unusedVariables false
set_option linter.unusedSimpArgs false
namespace Go.Proofs.YtoclajfeeebbbadGreatDoor.E
def btw (n lo hi:Int):Bool:=decide (lo ≤ n) && decide (n ≤ hi)
def letterB (c:Int):Bool:=(decide (97 ≤ c) && decide (c ≤ 122)) || (decide (65 ≤ c) && decide (c ≤ 90)) || decide (c = 95)
def digitB (c:Int):Bool:=decide (48 ≤ c) && decide (c ≤ 57)
def wordB (c:Int):Bool:=letterB c || digitB c
/-- A name. -/
def nameB (a:ByteArray):Bool:=decide (1 ≤ a.size) && decide (a.size ≤ 40) && letterB (byteAt a 0) && (bytesOf a).all wordB
theorem within_eq (k:Nat) (n lo hi:Int):impl_within.f k n lo hi = some (decide (lo ≤ n) && decide (n ≤ hi)):=by
  simp only [impl_within.f,impl_within.e1]
  by_cases h:lo ≤ n <;> simp [h]
theorem in_eq (k:Nat) (n lo hi:Int):spec_l01In.f k n lo hi = some (decide (lo ≤ n) && decide (n ≤ hi)):=by
  simp only [spec_l01In.f,spec_l01In.e1]
  by_cases h:lo ≤ n <;> simp [h]
theorem letter_eq (k:Nat) (c:Int):spec_l00Letter.f k c = some (letterB c):=by
  unfold spec_l00Letter.f spec_l00Letter.e1 letterB
  by_cases h1:97 ≤ c <;> by_cases h2:c ≤ 122 <;> by_cases h3:65 ≤ c <;> by_cases h4:c ≤ 90 <;> simp [h1,h2,h3,h4] <;> omega
theorem iletter_eq (k:Nat) (c:Int):impl_isLetter.f k c = some (letterB c):=letter_eq k c
theorem digit_eq (k:Nat) (c:Int):spec_l00Digit.f k c = some (digitB c):=by
  unfold spec_l00Digit.f spec_l00Digit.e1 digitB
  by_cases h1:48 ≤ c <;> simp [h1]
theorem idigit_eq (k:Nat) (c:Int):impl_isDigit.f k c = some (digitB c):=digit_eq k c
theorem iword_eq (k:Nat) (c:Int):impl_isWordByte.f k c = some (wordB c):=by
  unfold impl_isWordByte.f impl_isWordByte.e1 wordB
  rw [iletter_eq,idigit_eq]
  cases letterB c <;> simp
theorem bytesOf_length (a:ByteArray):(bytesOf a).length = a.size:=by simp only [bytesOf,List.length_map,Array.length_toList]; rfl
theorem bytesOf_get (a:ByteArray) (i:Nat) (h:i < a.size):(bytesOf a)[i]'(by rw [bytesOf_length]; exact h) = byteAt a i:=by
  have hi2:i < a.data.toList.length:=by simpa using h
  simp only [bytesOf,byteAt,List.getElem_map,Int.toNat_natCast,List.getD_eq_getElem?_getD,List.getElem?_eq_getElem hi2,Option.getD_some]
/-- Are all bytes so? -/
theorem areAllBytes_ev (l:List Int) (hn:l.length < 9223372036854775807):Evr (fun k=>impl_areAll_byte_1.f k l) (l.all wordB):=by
  have h:Evr (fun k=>slices_IndexFunc___byte_byte_1.l1 k l 0) (match firstAt (fun x=>!wordB x) l 0 with | some i=>.inl (i:Int) | none=>.inr ()):=by
    refine ev_first l (fun x=>!wordB x) (fun k i=>slices_IndexFunc___byte_byte_1.l1 k l i) (fun i=>.inl (i:Int)) (.inr ()) hn ?_ (fun i h hp=>?_) (fun i h hp r hr=>?_)
    · exact ev_of fun k=>by simp [slices_IndexFunc___byte_byte_1.l1]
    · exact ev_of fun k => by
        have hw:wordB l[i] = false:=by simpa using hp
        rw [slices_IndexFunc___byte_byte_1.l1.eq_2,if_pos (by omega),at?_nat h]
        simp [impl_areAll_byte__1_1.f,iword_eq,hw]
    · refine ev_congr _ (fun k=>?_) hr
      have hw:wordB l[i] = true:=by simpa using hp
      rw [slices_IndexFunc___byte_byte_1.l1.eq_2,if_pos (by omega),at?_nat h,w64_next (by omega)]
      simp [impl_areAll_byte__1_1.f,iword_eq,hw]
  unfold impl_areAll_byte_1.f slices_ContainsFunc___byte_byte_1.f slices_IndexFunc___byte_byte_1.f slices_IndexFunc___byte_byte_1.e2
  cases hf:firstAt (fun x=>!wordB x) l 0 with
  | none =>
    rw [hf] at h
    have e:l.all wordB = true:=List.all_eq_true.2 fun x hx=>by simpa using firstAt_none.1 hf x hx
    rw [e]
    exact ev_bind _ (ev_bind _ (ev_bind _ h ev_some) ev_some) (ev_of fun _=>by simp)
  | some i =>
    rw [hf] at h
    obtain ⟨_,_,h3,h4⟩:=firstAt_some hf
    have e:l.all wordB = false:=by
      rw [List.all_eq_false]
      exact ⟨_,List.getElem_mem h3,by simpa using h4⟩
    rw [e]
    exact ev_bind _ (ev_bind _ (ev_bind _ h ev_some) ev_some) (ev_of fun _=>by simp)
theorem iname_ev (a:ByteArray) (hn:a.size < 9223372036854775807):Evr (fun k=>impl_NameOK.f k a) (nameB a):=by
  unfold impl_NameOK.f impl_NameOK.e1
  simp only [within_eq,Option.bind_some]
  by_cases h:1 ≤ a.size ∧ a.size ≤ 40
  · have e:(decide ((1:Int) ≤ (a.size:Int)) && decide ((a.size:Int) ≤ 40)) = true:=by simp; omega
    simp only [e,if_true,if_pos (show (0:Int) ≤ 0 by omega),if_pos (show (0:Int) < (a.size:Int) by omega),iletter_eq,Option.bind_some]
    cases hl:letterB (byteAt a 0)
    · have:nameB a = false:=by simp [nameB,hl]
      rw [this]
      exact ev_of fun k=>by simp
    · have:nameB a = (bytesOf a).all wordB:=by simp [nameB,hl,h.1,h.2]
      rw [this]
      simp only [if_true]
      exact ev_bind _ (ev_bind _ (areAllBytes_ev (bytesOf a) (by rw [bytesOf_length]; exact hn)) ev_some) ev_some
  · have e:(decide ((1:Int) ≤ (a.size:Int)) && decide ((a.size:Int) ≤ 40)) = false:=by simp; omega
    have:nameB a = false:=by
      simp only [nameB]
      by_cases h1:1 ≤ a.size
      · have:¬ a.size ≤ 40:=fun h2=>h ⟨h1,h2⟩
        simp [this]
      · simp [h1]
    rw [this]
    exact ev_of fun k=>by simp [e]
theorem word_loop (a:ByteArray) (h40:a.size ≤ 40):∀ (m i:Nat),i + m = a.size → Evr (fun k=>spec_l00Word.l3 k a (i:Int)) (if ((bytesOf a).drop i).all wordB then .inr () else .inl false):=by
  intro m
  induction m with
  | zero =>
    intro i hi
    rw [List.drop_eq_nil_of_le (by rw [bytesOf_length]; omega)]
    exact ev_step _ (fun k=>rfl) (ev_of fun k=>by rw [spec_l00Word.l3.eq_2,if_neg (by omega)]; rfl)
  | succ m ih =>
    intro i hi
    have hlt:i < (bytesOf a).length:=by rw [bytesOf_length]; omega
    rw [List.drop_eq_getElem_cons hlt,List.all_cons,bytesOf_get a i (by omega)]
    have step:∀ k,spec_l00Word.l3 (k + 1) a (i:Int) = if wordB (byteAt a i) then spec_l00Word.l3 k a ((i + 1:Nat):Int) else some (.inl false):=by
      intro k
      rw [spec_l00Word.l3.eq_2,if_pos (by omega),w64_next (by omega)]
      simp only [spec_l00Word.e2,if_pos (show (0:Int) ≤ (i:Int) by omega),letter_eq,digit_eq,Option.bind_some,wordB]
      by_cases hl:letterB (byteAt a (i:Int)) = true <;> by_cases hd:digitB (byteAt a (i:Int)) = true <;> simp [hl,hd]
    refine ev_step _ step ?_
    cases hw:wordB (byteAt a (i:Int))
    · simp only [Bool.false_and,Bool.false_eq_true,if_false]; exact ev_some
    · simp only [Bool.true_and,if_true]; exact ih (i + 1) (by omega)
theorem word_ev (a:ByteArray):Evr (fun k=>spec_l00Word.f k a) (nameB a):=by
  unfold spec_l00Word.f spec_l00Word.e1 spec_l00Word.e4
  by_cases h1:1 ≤ a.size
  · by_cases h2:a.size ≤ 40
    · simp only [if_neg (show ¬ (a.size:Int) < 1 by omega),if_neg (show ¬ (40:Int) < (a.size:Int) by omega),if_pos (show (0:Int) ≤ 0 by omega),if_pos (show (0:Int) < (a.size:Int) by omega),letter_eq,Option.bind_some]
      cases hl:letterB (byteAt a 0)
      · have:nameB a = false:=by simp [nameB,hl]
        rw [this]
        exact ev_of fun k=>by simp
      · have h:=word_loop a h2 (a.size - 1) 1 (by omega)
        have hlt:0 < (bytesOf a).length:=by rw [bytesOf_length]; omega
        have hall:(bytesOf a).all wordB = ((bytesOf a).drop 1).all wordB:=by
          conv=>lhs; rw [← List.drop_zero (l:=bytesOf a),List.drop_eq_getElem_cons hlt,List.all_cons,bytesOf_get a 0 (by omega)]
          simp [wordB,hl]
        have:nameB a = ((bytesOf a).drop 1).all wordB:=by rw [← hall]; simp [nameB,hl,h1,h2]
        rw [this]
        simp only [Bool.not_true,Bool.false_eq_true,if_false]
        cases hb:((bytesOf a).drop 1).all wordB
        · rw [hb] at h; exact ev_bind _ h ev_some
        · rw [hb] at h; exact ev_bind _ h ev_some
    · have:nameB a = false:=by simp [nameB,h2]
      rw [this]
      exact ev_of fun k=>by simp only [if_neg (show ¬ (a.size:Int) < 1 by omega),if_pos (show (40:Int) < (a.size:Int) by omega),Option.bind_some,if_true]
  · have:nameB a = false:=by simp [nameB,h1]
    rw [this]
    exact ev_of fun k=>by simp only [if_pos (show (a.size:Int) < 1 by omega),Option.bind_some,if_true]
theorem name_ev (a:ByteArray):Evr (fun k=>spec_NameOK.f k a) (nameB a):=by
  unfold spec_NameOK.f
  exact ev_bind _ (word_ev a) ev_some
/-! Keys. -/
def keysL:List ByteArray:=(spec_l01Keys.f 0).getD []
theorem keys_eq (k:Nat):spec_l01Keys.f k = some keysL:=rfl
set_option maxRecDepth 100000 in
theorem ikeys_eq (k:Nat):impl_keys.f k = some keysL:=by
  have:impl_keys.f 0 = some keysL:=by kernel_rfl
  exact this
theorem keysL_length:keysL.length < 9223372036854775807:=by decide +kernel
/-- Is it one of these? -/
def oneOf (l:List ByteArray) (a:ByteArray):Bool:=l.any fun x=>decide (x = a)
def keyB (a:ByteArray):Bool:=oneOf keysL a
theorem place_ev (l:List ByteArray) (a:ByteArray) (hn:l.length < 9223372036854775807):Evr (fun k=>spec_l01Place.f k l a) (match firstAt (fun x=>decide (x = a)) l 0 with | some i=>(i:Int) | none=>-1):=by
  have h:Evr (fun k=>spec_l01Place.l1 k l a 0) (match firstAt (fun x=>decide (x = a)) l 0 with | some i=>.inl (i:Int) | none=>.inr ()):=by
    refine ev_first l _ (fun k i=>spec_l01Place.l1 k l a i) (fun i=>.inl (i:Int)) (.inr ()) hn ?_ (fun i h hp=>?_) (fun i h hp r hr=>?_)
    · exact ev_of fun k=>by simp [spec_l01Place.l1]
    · exact ev_of fun k => by
        rw [spec_l01Place.l1.eq_2,if_pos (by omega),at?_nat h]
        simp only [decide_eq_true_eq] at hp
        simp [hp]
    · refine ev_congr _ (fun k=>?_) hr
      rw [spec_l01Place.l1.eq_2,if_pos (by omega),at?_nat h,w64_next (by omega)]
      simp only [decide_eq_false_iff_not] at hp
      simp [hp]
  unfold spec_l01Place.f spec_l01Place.e2
  cases hf:firstAt (fun x=>decide (x = a)) l 0 with
  | none=>rw [hf] at h; exact ev_bind _ h ev_some
  | some i=>rw [hf] at h; exact ev_bind _ h ev_some
theorem iplace_ev (l:List ByteArray) (a:ByteArray) (hn:l.length < 9223372036854775807):Evr (fun k=>slices_Index___string_string.f k l a) (match firstAt (fun x=>decide (x = a)) l 0 with | some i=>(i:Int) | none=>-1):=by
  have h:Evr (fun k=>slices_Index___string_string.l1 k l a 0) (match firstAt (fun x=>decide (x = a)) l 0 with | some i=>.inl (i:Int) | none=>.inr ()):=by
    refine ev_first l _ (fun k i=>slices_Index___string_string.l1 k l a i) (fun i=>.inl (i:Int)) (.inr ()) hn ?_ (fun i h hp=>?_) (fun i h hp r hr=>?_)
    · exact ev_of fun k=>by simp [slices_Index___string_string.l1]
    · exact ev_of fun k => by
        rw [slices_Index___string_string.l1.eq_2,if_pos (by omega),at?_nat h]
        simp only [decide_eq_true_eq] at hp
        simp [hp]
    · refine ev_congr _ (fun k=>?_) hr
      rw [slices_Index___string_string.l1.eq_2,if_pos (by omega),at?_nat h,w64_next (by omega)]
      simp only [decide_eq_false_iff_not] at hp
      simp only [Option.bind_some,if_neg (fun e=>hp (Eq.symm e))]
  unfold slices_Index___string_string.f slices_Index___string_string.e2
  cases hf:firstAt (fun x=>decide (x = a)) l 0 with
  | none=>rw [hf] at h; exact ev_bind _ h ev_some
  | some i=>rw [hf] at h; exact ev_bind _ h ev_some
theorem oneOf_eq (l:List ByteArray) (a:ByteArray):decide ((0:Int) ≤ (match firstAt (fun x=>decide (x = a)) l 0 with | some i=>(i:Int) | none=>-1)) = oneOf l a:=by
  cases hf:firstAt (fun x=>decide (x = a)) l 0 with
  | none =>
    have:oneOf l a = false:=by
      unfold oneOf
      rw [List.any_eq_false]
      intro x hx
      simpa using firstAt_none.1 hf x hx
    rw [this]; rfl
  | some i =>
    obtain ⟨_,_,h3,h4⟩:=firstAt_some hf
    have:oneOf l a = true:=by
      unfold oneOf
      rw [List.any_eq_true]
      exact ⟨_,List.getElem_mem h3,h4⟩
    rw [this]; simp
theorem contains_ev (l:List ByteArray) (a:ByteArray) (hn:l.length < 9223372036854775807):Evr (fun k=>slices_Contains___string_string.f k l a) (oneOf l a):=by
  unfold slices_Contains___string_string.f
  rw [← oneOf_eq]
  exact ev_bind _ (iplace_ev l a hn) ev_some
theorem key_ev (a:ByteArray):Evr (fun k=>spec_IsKey.f k a) (keyB a):=by
  unfold spec_IsKey.f
  unfold keyB
  rw [← oneOf_eq]
  exact ev_bind _ (ev_of keys_eq) (ev_bind _ (place_ev keysL a keysL_length) ev_some)
theorem ikey_ev (a:ByteArray):Evr (fun k=>impl_IsKey.f k a) (keyB a):=by
  unfold impl_IsKey.f
  exact ev_bind _ (ev_of ikeys_eq) (ev_bind _ (contains_ev keysL a keysL_length) ev_some)
/-- A name of a module's. -/
def modB (a:ByteArray):Bool:=nameB a && !keyB a
theorem lname_ev (a:ByteArray):Evr (fun k=>spec_l02Name.f k a) (modB a):=by
  unfold spec_l02Name.f spec_l02Name.e1
  refine ev_bind _ (ev_bind _ (name_ev a) ?_) ev_some
  unfold modB
  cases nameB a
  · exact ev_of fun k=>by simp
  · simp only [if_true,Bool.true_and]
    exact ev_bind _ (key_ev a) ev_some
theorem isname_ev (a:ByteArray) (hn:a.size < 9223372036854775807):Evr (fun k=>impl_isName.f k a) (modB a):=by
  unfold impl_isName.f impl_isName.e1
  refine ev_bind _ (ev_bind _ (iname_ev a hn) ?_) ev_some
  unfold modB
  cases nameB a
  · exact ev_of fun k=>by simp
  · simp only [if_true,Bool.true_and]
    exact ev_bind _ (ikey_ev a) ev_some
end Go.Proofs.YtoclajfeeebbbadGreatDoor.E
