/- Two scanners along one text: blanks and remarks are passed over alike; words have one size; keys are keys. -/
import Derived.Test.YtgiiholpgpfgkaaGreatDoorPlTk1FnExactTokens
set_option linter.unusedVariables false
set_option linter.unusedSimpArgs false
namespace Go.Proofs.YtgiiholpgpfgkaaGreatDoor.E
def letterB (c : Int) : Bool := (decide (97 ≤ c) && decide (c ≤ 122)) || (decide (65 ≤ c) && decide (c ≤ 90)) || decide (c = 95)
def digitB (c : Int) : Bool := decide (48 ≤ c) && decide (c ≤ 57)
def wordB (c : Int) : Bool := letterB c || digitB c
theorem letter_eq (k : Nat) (c : Int) : spec_l00Letter.f k c = some (letterB c) := by
  unfold spec_l00Letter.f spec_l00Letter.e1 letterB
  by_cases h1 : 97 ≤ c <;> by_cases h2 : c ≤ 122 <;> by_cases h3 : 65 ≤ c <;> by_cases h4 : c ≤ 90 <;> simp [h1, h2, h3, h4] <;> omega
theorem iletter_eq (k : Nat) (c : Int) : impl_isLetter.f k c = some (letterB c) := letter_eq k c
theorem digit_eq (k : Nat) (c : Int) : spec_l00Digit.f k c = some (digitB c) := by
  unfold spec_l00Digit.f spec_l00Digit.e1 digitB
  by_cases h1 : 48 ≤ c <;> simp [h1]
theorem idigit_eq (k : Nat) (c : Int) : impl_isDigit.f k c = some (digitB c) := digit_eq k c
theorem iword_eq (k : Nat) (c : Int) : impl_isWordByte.f k c = some (wordB c) := by
  unfold impl_isWordByte.f impl_isWordByte.e1 wordB
  rw [iletter_eq, idigit_eq]
  cases letterB c <;> simp
/-! Keys. -/
def keysL : List ByteArray := (spec_l01Keys.f 0).getD []
theorem keys_eq (k : Nat) : spec_l01Keys.f k = some keysL := rfl
set_option maxRecDepth 100000 in
theorem ikeys_eq (k : Nat) : impl_keys.f k = some keysL := by
  have : impl_keys.f 0 = some keysL := by kernel_rfl
  exact this
theorem keysL_length : keysL.length < 9223372036854775807 := by decide +kernel
def oneOf (l : List ByteArray) (a : ByteArray) : Bool := l.any fun x => decide (x = a)
def keyB (a : ByteArray) : Bool := oneOf keysL a
theorem place_ev (l : List ByteArray) (a : ByteArray) (hn : l.length < 9223372036854775807) : Evr (fun k => spec_l01Place.f k l a) (match firstAt (fun x => decide (x = a)) l 0 with | some i => (i : Int) | none => -1) := by
  have h : Evr (fun k => spec_l01Place.l1 k l a 0) (match firstAt (fun x => decide (x = a)) l 0 with | some i => .inl (i : Int) | none => .inr ()) := by
    refine ev_first l _ (fun k i => spec_l01Place.l1 k l a i) (fun i => .inl (i : Int)) (.inr ()) hn ?_ (fun i h hp => ?_) (fun i h hp r hr => ?_)
    · exact ev_of fun k => by simp [spec_l01Place.l1]
    · exact ev_of fun k => by
        rw [spec_l01Place.l1.eq_2, if_pos (by omega), at?_nat h]
        simp only [decide_eq_true_eq] at hp
        simp [hp]
    · refine ev_congr _ (fun k => ?_) hr
      rw [spec_l01Place.l1.eq_2, if_pos (by omega), at?_nat h, w64_next (by omega)]
      simp only [decide_eq_false_iff_not] at hp
      simp [hp]
  unfold spec_l01Place.f spec_l01Place.e2
  cases hf : firstAt (fun x => decide (x = a)) l 0 with
  | none => rw [hf] at h; exact ev_bind _ h ev_some
  | some i => rw [hf] at h; exact ev_bind _ h ev_some
theorem iplace_ev (l : List ByteArray) (a : ByteArray) (hn : l.length < 9223372036854775807) : Evr (fun k => slices_Index___string_string.f k l a) (match firstAt (fun x => decide (x = a)) l 0 with | some i => (i : Int) | none => -1) := by
  have h : Evr (fun k => slices_Index___string_string.l1 k l a 0) (match firstAt (fun x => decide (x = a)) l 0 with | some i => .inl (i : Int) | none => .inr ()) := by
    refine ev_first l _ (fun k i => slices_Index___string_string.l1 k l a i) (fun i => .inl (i : Int)) (.inr ()) hn ?_ (fun i h hp => ?_) (fun i h hp r hr => ?_)
    · exact ev_of fun k => by simp [slices_Index___string_string.l1]
    · exact ev_of fun k => by
        rw [slices_Index___string_string.l1.eq_2, if_pos (by omega), at?_nat h]
        simp only [decide_eq_true_eq] at hp
        simp [hp]
    · refine ev_congr _ (fun k => ?_) hr
      rw [slices_Index___string_string.l1.eq_2, if_pos (by omega), at?_nat h, w64_next (by omega)]
      simp only [decide_eq_false_iff_not] at hp
      simp only [Option.bind_some, if_neg (fun e => hp (Eq.symm e))]
  unfold slices_Index___string_string.f slices_Index___string_string.e2
  cases hf : firstAt (fun x => decide (x = a)) l 0 with
  | none => rw [hf] at h; exact ev_bind _ h ev_some
  | some i => rw [hf] at h; exact ev_bind _ h ev_some
theorem oneOf_eq (l : List ByteArray) (a : ByteArray) : decide ((0 : Int) ≤ (match firstAt (fun x => decide (x = a)) l 0 with | some i => (i : Int) | none => -1)) = oneOf l a := by
  cases hf : firstAt (fun x => decide (x = a)) l 0 with
  | none =>
    have : oneOf l a = false := by
      unfold oneOf
      rw [List.any_eq_false]
      intro x hx
      simpa using firstAt_none.1 hf x hx
    rw [this]; rfl
  | some i =>
    obtain ⟨_, _, h3, h4⟩ := firstAt_some hf
    have : oneOf l a = true := by
      unfold oneOf
      rw [List.any_eq_true]
      exact ⟨_, List.getElem_mem h3, h4⟩
    rw [this]; simp
theorem contains_ev (l : List ByteArray) (a : ByteArray) (hn : l.length < 9223372036854775807) : Evr (fun k => slices_Contains___string_string.f k l a) (oneOf l a) := by
  unfold slices_Contains___string_string.f
  rw [← oneOf_eq]
  exact ev_bind _ (iplace_ev l a hn) ev_some
theorem key_ev (a : ByteArray) : Evr (fun k => spec_IsKey.f k a) (keyB a) := by
  unfold spec_IsKey.f
  unfold keyB
  rw [← oneOf_eq]
  exact ev_bind _ (ev_of keys_eq) (ev_bind _ (place_ev keysL a keysL_length) ev_some)
theorem ikey_ev (a : ByteArray) : Evr (fun k => impl_IsKey.f k a) (keyB a) := by
  unfold impl_IsKey.f
  exact ev_bind _ (ev_of ikeys_eq) (ev_bind _ (contains_ev keysL a keysL_length) ev_some)

/-! Blanks. -/
def wsB (c : Int) : Bool := decide (c = 32) || decide (c = 9) || decide (c = 10) || decide (c = 13)
theorem ws_all : ∀ n : Fin 256, decide ((0 : Int) ≤ Lib.indexByte [32, 9, 10, 13] (((n : Nat) : Int).toNat.toUInt8)) = wsB ((n : Nat) : Int) := by decide +kernel
theorem ws_index {c : Int} (h0 : 0 ≤ c) (h1 : c < 256) : ((0 : Int) ≤ Lib.indexByte [32, 9, 10, 13] c.toNat.toUInt8) ↔ wsB c = true := by
  have := ws_all ⟨c.toNat, by omega⟩
  simp only [Int.toNat_of_nonneg h0] at this
  rw [← this, decide_eq_true_iff]
theorem prefix_cut (t x : ByteArray) {p : Nat} (hp : p ≤ t.size) : Lib.hasPrefix (t.extract p t.size).data.toList x.data.toList = decide (p + x.size ≤ t.size ∧ t.extract p (p + x.size) = x) := by
  have hl : (t.extract p t.size).data.toList = t.data.toList.drop p := by
    rw [Lib.extract_data]; exact List.take_of_length_le (by rw [List.length_drop, ← Lib.size_eq]; exact Nat.le_refl _)
  have hx : (t.extract p (p + x.size)).data.toList = (t.data.toList.drop p).take x.size := by
    rw [Lib.extract_data, Nat.add_sub_cancel_left]
  unfold Lib.hasPrefix
  rw [hl]
  by_cases h : x.data.toList.isPrefixOf (t.data.toList.drop p) = true
  · rw [h]
    have h2 := List.isPrefixOf_iff_prefix.1 h
    have h3 := List.prefix_iff_eq_take.1 h2
    refine (decide_eq_true ⟨?_, ?_⟩).symm
    · have := h2.length_le
      rw [List.length_drop, ← Lib.size_eq, ← Lib.size_eq] at this
      omega
    · apply Go.WideShapes.bytes_inj
      rw [hx, Lib.size_eq x]
      exact h3.symm
  · rw [Bool.not_eq_true] at h
    rw [h]
    refine (decide_eq_false fun ⟨h1, h2⟩ => ?_).symm
    have h3 : x.data.toList = (t.data.toList.drop p).take x.size := by rw [← hx, h2]
    have : x.data.toList.isPrefixOf (t.data.toList.drop p) = true := List.isPrefixOf_iff_prefix.2 (by rw [h3]; exact List.take_prefix _ _)
    rw [h] at this
    cases this
/-- A remark begins here. -/
def isRem (t : ByteArray) (p : Nat) : Prop := p + 2 ≤ t.size ∧ byteAt t p = 40 ∧ byteAt t ((p + 1 : Nat) : Int) = 42
instance (t : ByteArray) (p : Nat) : Decidable (isRem t p) := by unfold isRem; exact inferInstance
theorem rem_prefix (t : ByteArray) {p : Nat} (hp : p ≤ t.size) (k : Nat) : strings_HasPrefix.f k (t.extract p t.size) (⟨#[40, 42]⟩ : ByteArray) = some (decide (isRem t p)) := by
  unfold strings_HasPrefix.f
  rw [prefix_cut t _ hp]
  have e : (⟨#[40, 42]⟩ : ByteArray).size = 2 := rfl
  rw [e]
  congr 1
  refine decide_eq_decide.2 ?_
  unfold isRem
  constructor
  · rintro ⟨h1, h2⟩; exact ⟨h1, (two h1 40 42).1 h2⟩
  · rintro ⟨h1, h2⟩; exact ⟨h1, (two h1 40 42).2 h2⟩

/-! The reference's loop. -/
theorem slp_end (t : ByteArray) (q : Int) (out : List STok) (c pl : Int) (h : c ≠ 0 ∨ (t.size : Int) ≤ q) : Evr (fun k => spec_l01Tokens.l2 k t q out c pl) (q, out, c, pl) := by
  refine ev_step _ (fun k => ?_) ev_some
  rw [spec_l01Tokens.l2.eq_2]
  unfold spec_l01Tokens.e1
  by_cases hc : c = 0
  · rw [if_pos hc]
    rcases h with h | h
    · exact absurd hc h
    · simp only [Option.bind_some]
      rw [if_neg (by simp; omega)]
  · rw [if_neg hc]; rfl
theorem slp_on (t : ByteArray) {q : Nat} (hq : q < t.size) {out : List STok} {x : Int × List STok × Int × Int} {v : Int × List STok × Int × Int} (h1 : Evr (fun k => spec_l01Scanner__one_2.f k ⟨t, q, out, 0, 0⟩) x) (h2 : Evr (fun k => spec_l01Tokens.l2 k t x.1 x.2.1 x.2.2.1 x.2.2.2) v) :
    Evr (fun k => spec_l01Tokens.l2 k t q out 0 0) v := by
  refine ev_step _ (fun k => ?_) (ev_bind (f := fun k r25 => spec_l01Tokens.l2 k t r25.1 r25.2.1 r25.2.2.1 r25.2.2.2) _ h1 h2)
  rw [spec_l01Tokens.l2.eq_2]
  unfold spec_l01Tokens.e1
  rw [if_pos rfl]
  simp only [Option.bind_some]
  rw [if_pos (by simp; omega)]
theorem sone_ws (t : ByteArray) (h : t.size ≤ 4000) {q : Nat} (hq : q < t.size) (out : List STok) (hw : wsB (byteAt t q) = true) : Evr (fun k => spec_l01Scanner__one_2.f k ⟨t, q, out, 0, 0⟩) (((q + 1 : Nat) : Int), out, 0, 0) := ev_of fun k => by
  unfold spec_l01Scanner__one_2.f spec_l01Scanner__one_2.e1
  simp only
  rw [if_pos (by omega), if_pos (by omega), w64_1 (by omega)]
  unfold wsB at hw
  simp only [Bool.or_eq_true, decide_eq_true_eq] at hw
  by_cases h1 : byteAt t q = 32
  · simp [h1]
  · by_cases h2 : byteAt t q = 9
    · simp [h1, h2]
    · by_cases h3 : byteAt t q = 10
      · simp [h1, h2, h3]
      · have h4 : byteAt t q = 13 := by rcases hw with ((h | h) | h) | h <;> first | exact absurd h ‹_› | exact h
        simp [h1, h2, h3, h4]
theorem ws_no {c : Int} (h : wsB c = false) (k : Nat) (b0 : S65b163) (hb : byteAt b0.f0 b0.f1 = c) : spec_l01Scanner__one_2.e1 k b0 = some false := by
  unfold spec_l01Scanner__one_2.e1
  rw [hb]
  unfold wsB at h
  simp only [Bool.or_eq_false_iff, decide_eq_false_iff_not] at h
  obtain ⟨⟨⟨h1, h2⟩, h3⟩, h4⟩ := h
  rw [if_neg h1, if_neg h2, if_neg h3, decide_eq_false h4]
theorem srem_no (t : ByteArray) (h : t.size ≤ 4000) {q : Nat} (hq : q < t.size) (out : List STok) (k : Nat) : spec_l01Scanner__one_2.e2 k ⟨t, q, out, 0, 0⟩ = some (decide (isRem t q)) := by
  unfold spec_l01Scanner__one_2.e2
  simp only
  rw [w64_1 (by omega)]
  by_cases h2 : q + 2 ≤ t.size
  · rw [if_pos (by omega), w64_2 (by omega), if_pos (by omega), if_pos (by omega)]
    simp only [Int.toNat_natCast]
    congr 1
    exact decide_eq_decide.2 ((two h2 40 42).trans ⟨fun h3 => ⟨h2, h3⟩, fun h3 => h3.2⟩)
  · rw [if_neg (by omega), decide_eq_false (fun h3 => h2 h3.1)]
theorem sone_rem (t : ByteArray) (h : t.size ≤ 4000) {q : Nat} (hq : q < t.size) (out : List STok) (hw : wsB (byteAt t q) = false) (hr : isRem t q) :
    Evr (fun k => spec_l01Scanner__one_2.f k ⟨t, q, out, 0, 0⟩) (match remark ((bytesOf t).drop q) with | some n => (((q + n : Nat) : Int), out, 0, 0) | none => ((t.size : Int), out, 4, (q : Int))) := by
  have h2 := srem_ev t h out hr.1 hr.2.1 hr.2.2
  refine ev_congr (fun k => (spec_l01Scanner__remark_2.f k ⟨t, q, out, 0, 0⟩).bind fun r17 => some (r17.1, out, r17.2.1, r17.2.2)) (fun k => ?_) ?_
  · unfold spec_l01Scanner__one_2.f
    simp only
    rw [if_pos (by omega), if_pos (by omega), ws_no hw k _ rfl, Option.bind_some, if_neg (by simp), srem_no t h hq, Option.bind_some, if_pos (by simpa using hr)]
  · refine ev_bind _ h2 ?_
    cases remark ((bytesOf t).drop q) with
    | none => exact ev_some
    | some n => exact ev_some
/-- Blanks and remarks are passed over alike. -/
theorem skip_both (t : ByteArray) (h : t.size ≤ 4000) (z : Int) : ∀ (m q : Nat), q + m = t.size → ∃ (b : Bool) (q' : Nat) (e : (Bool × Int) ⊕ Int), q ≤ q' ∧ q' ≤ t.size ∧
    Evr (fun k => impl_scanner__skip_2.l1 k ⟨t, z⟩ q) e ∧ (match e with | .inl r => r | .inr y => (true, y)) = (b, (q' : Int)) ∧
    (b = false → ∀ out, Evr (fun k => spec_l01Tokens.l2 k t q out 0 0) ((t.size : Int), out, 4, (q' : Int))) ∧
    (b = true → (∀ out v, Evr (fun k => spec_l01Tokens.l2 k t q' out 0 0) v → Evr (fun k => spec_l01Tokens.l2 k t q out 0 0) v) ∧ (q' = t.size ∨ q' < t.size ∧ wsB (byteAt t q') = false ∧ ¬ isRem t q')) := by
  intro m
  induction m using Nat.strongRecOn with
  | _ m ih =>
    intro q hm
    by_cases hq : q < t.size
    · have hb := byte_range t q
      cases hw : wsB (byteAt t q)
      · have hix : ¬ (0 : Int) ≤ Lib.indexByte [32, 9, 10, 13] (byteAt t q).toNat.toUInt8 := fun hx => by rw [(ws_index hb.1 hb.2).1 hx] at hw; cases hw
        by_cases hr : isRem t q
        · have hir := irem_ev (t.extract q t.size) (by rw [cut_size t (Nat.le_refl _)]; omega) (by rw [cut_size t (Nat.le_refl _)]; have := hr.1; omega)
            ((byte_tail t q 0).trans hr.2.1) ((byte_tail t q 1).trans hr.2.2)
          rw [bytes_tail] at hir
          have hstep : ∀ k, impl_scanner__skip_2.l1 (k + 1) ⟨t, z⟩ q = (impl_remark.f k (t.extract q t.size)).bind fun r23 => if r23 = 0 then (some (.inl (false, (q : Int)))) else (impl_scanner__skip_2.l1 k ⟨t, z⟩ (w64 ((q : Int) + r23))) := fun k => by
            rw [impl_scanner__skip_2.l1.eq_2]
            simp only
            rw [if_pos (by omega), if_pos (by omega)]
            unfold strings_IndexByte.f
            simp only [Option.bind_some]
            rw [if_neg (by exact hix), if_pos (by omega)]
            simp only [Int.toNat_natCast]
            rw [rem_prefix t (by omega)]
            simp only [Option.bind_some]
            rw [if_pos (by simpa using hr)]
          have hso := fun out => sone_rem t h hq out hw hr
          cases hrm : remark ((bytesOf t).drop q) with
          | none =>
            rw [hrm] at hir hso
            refine ⟨false, q, .inl (false, (q : Int)), Nat.le_refl _, by omega, ev_step _ hstep (ev_bind _ hir (ev_pos rfl ev_some)), rfl, fun _ out => ?_, fun h => by cases h⟩
            exact slp_on t hq (hso out) (slp_end t _ _ _ _ (.inl (by simp)))
          | some n =>
            rw [hrm] at hir hso
            replace hir : Evr (fun k => impl_remark.f k (t.extract q t.size)) (n : Int) := hir
            have hn : 4 ≤ n ∧ q + n ≤ t.size := by
              unfold remark at hrm
              obtain ⟨j, h1, rfl⟩ := Option.map_eq_some_iff.1 hrm
              have h2 := rem_le _ _ _ h1
              have h3 : (((bytesOf t).drop q).drop 2).length = t.size - q - 2 := by rw [List.length_drop, List.length_drop, bytesOf_length]
              have := hr.1
              omega
            obtain ⟨b, q', e, k1, k2, k3, k4, k5, k6⟩ := ih (m - n) (by omega) (q + n) (by omega)
            refine ⟨b, q', e, by omega, k2, ev_step _ hstep (ev_bind _ hir (ev_neg (by omega) ?_)), k4, fun hb out => slp_on t hq (hso out) (k5 hb out), fun hb => ⟨fun out v hv => slp_on t hq (hso out) ((k6 hb).1 out v hv), (k6 hb).2⟩⟩
            rw [show w64 ((q : Int) + (n : Int)) = ((q + n : Nat) : Int) by rw [w64_id (by omega) (by omega)]; rfl]
            exact k3
        · have hstep : ∀ k, impl_scanner__skip_2.l1 (k + 1) ⟨t, z⟩ q = some (.inl (true, (q : Int))) := fun k => by
            rw [impl_scanner__skip_2.l1.eq_2]
            simp only
            rw [if_pos (by omega), if_pos (by omega)]
            unfold strings_IndexByte.f
            simp only [Option.bind_some]
            rw [if_neg (by exact hix), if_pos (by omega)]
            simp only [Int.toNat_natCast]
            rw [rem_prefix t (by omega)]
            simp only [Option.bind_some]
            rw [if_neg (by simpa using hr)]
          exact ⟨true, q, _, Nat.le_refl _, by omega, ev_step _ hstep ev_some, rfl, (fun h => by cases h), fun _ => ⟨fun out v hv => hv, .inr ⟨hq, hw, hr⟩⟩⟩
      · have hix : (0 : Int) ≤ Lib.indexByte [32, 9, 10, 13] (byteAt t q).toNat.toUInt8 := (ws_index hb.1 hb.2).2 hw
        obtain ⟨b, q', e, k1, k2, k3, k4, k5, k6⟩ := ih (m - 1) (by omega) (q + 1) (by omega)
        have hso := fun out => sone_ws t h hq out hw
        refine ⟨b, q', e, by omega, k2, ev_step _ (fun k => ?_) k3, k4, fun hb out => slp_on t hq (hso out) (k5 hb out), fun hb => ⟨fun out v hv => slp_on t hq (hso out) ((k6 hb).1 out v hv), (k6 hb).2⟩⟩
        rw [impl_scanner__skip_2.l1.eq_2]
        simp only
        rw [if_pos (by omega), if_pos (by omega)]
        unfold strings_IndexByte.f
        simp only [Option.bind_some]
        rw [if_pos (by exact hix), w64_1 (by omega)]
    · obtain rfl : q = t.size := by omega
      refine ⟨true, t.size, .inr (t.size : Int), Nat.le_refl _, Nat.le_refl _, ev_step _ (fun k => ?_) ev_some, rfl, (fun h => by cases h), fun _ => ⟨fun out v hv => hv, .inl rfl⟩⟩
      rw [impl_scanner__skip_2.l1.eq_2]
      simp only
      rw [if_neg (by omega)]
/-! Words. -/
def wl (l : List Int) : Nat := (l.takeWhile wordB).length
theorem wl_le (l : List Int) : wl l ≤ l.length := (List.takeWhile_sublist _).length_le
theorem wl_cons (c : Int) (l : List Int) : wl (c :: l) = if wordB c = true then wl l + 1 else 0 := by
  unfold wl
  rw [List.takeWhile_cons]
  split <;> rfl
theorem wl_loop (t : ByteArray) (h : t.size ≤ 4000) (L : Nat → Int → Option Int) (h1 : ∀ k i : Nat, i < t.size → wordB (byteAt t i) = true → L (k + 1) i = L k ((i + 1 : Nat) : Int)) (h2 : ∀ k i : Nat, i ≤ t.size → (i < t.size → wordB (byteAt t i) = false) → L (k + 1) i = some (i : Int)) :
    ∀ (m q : Nat), q + m = t.size → Evr (fun k => L k q) ((q + wl ((bytesOf t).drop q) : Nat) : Int) := by
  intro m
  induction m with
  | zero =>
    intro q hq
    rw [List.drop_eq_nil_of_le (by rw [bytesOf_length]; omega)]
    exact ev_step (g := fun k => L k q) _ (fun k => h2 k q (by omega) (fun h => by omega)) ev_some
  | succ m ih =>
    intro q hq
    rw [drop_cons2 t (by omega), wl_cons]
    cases hw : wordB (byteAt t q)
    · exact ev_step (g := fun k => L k q) _ (fun k => h2 k q (by omega) (fun _ => hw)) (ev_eq ev_some (by simp))
    · refine ev_step (g := fun k => L k q) _ (fun k => h1 k q (by omega) hw) (ev_eq (ih (q + 1) (by omega)) ?_)
      rw [if_pos rfl]
      rw [show q + 1 + wl ((bytesOf t).drop (q + 1)) = q + (wl ((bytesOf t).drop (q + 1)) + 1) by omega]
theorem iword_ev (a : ByteArray) (h : a.size ≤ 4000) : Evr (fun k => impl_wordSize.f k a) (wl (bytesOf a) : Int) := by
  unfold impl_wordSize.f impl_wordSize.e3
  refine ev_bind _ (ev_eq (wl_loop a h (fun k i => impl_wordSize.l2 k a i) (fun k i hi hw => ?_) (fun k i hi hw => ?_) a.size 0 (by omega)) (by rw [List.drop_zero, Nat.zero_add])) ev_some
  · rw [impl_wordSize.l2.eq_2]
    unfold impl_wordSize.e1
    rw [if_pos (by omega), if_pos (by omega), iword_eq, hw, w64_1 (by omega)]
    rfl
  · rw [impl_wordSize.l2.eq_2]
    unfold impl_wordSize.e1
    by_cases hs : i < a.size
    · rw [if_pos (by omega), if_pos (by omega), iword_eq, hw hs]; rfl
    · rw [if_neg (by omega)]; rfl
theorem sword_e3 (k : Nat) (b0 : S65b163) (z : Nat) : spec_l01Scanner__one_2.e3 k b0 z = some (decide (z < b0.f0.size) && wordB (byteAt b0.f0 z)) := by
  unfold spec_l01Scanner__one_2.e3 wordB
  by_cases hz : z < b0.f0.size
  · rw [if_pos (by omega), if_pos (by omega), digit_eq, letter_eq]
    cases digitB (byteAt b0.f0 z) <;> cases letterB (byteAt b0.f0 z) <;> simp [hz]
  · rw [if_neg (by omega)]; simp [hz]
theorem sword_e1 (k : Nat) (b0 : S65b163) (z : Nat) : spec_l01Scanner__number_2.e1 k b0 z = some (decide (z < b0.f0.size) && wordB (byteAt b0.f0 z)) := sword_e3 k b0 z
theorem sword_ev (b0 : S65b163) (h : b0.f0.size ≤ 4000) {p : Nat} (hp : p ≤ b0.f0.size) : Evr (fun k => spec_l01Scanner__one_2.l4 k b0 p) ((p + wl ((bytesOf b0.f0).drop p) : Nat) : Int) := by
  refine wl_loop b0.f0 h (fun k i => spec_l01Scanner__one_2.l4 k b0 i) (fun k i hi hw => ?_) (fun k i hi hw => ?_) (b0.f0.size - p) p (by omega)
  · rw [spec_l01Scanner__one_2.l4.eq_2, sword_e3, hw, decide_eq_true hi, w64_1 (by omega)]; rfl
  · rw [spec_l01Scanner__one_2.l4.eq_2, sword_e3]
    by_cases hs : i < b0.f0.size
    · rw [hw hs, Bool.and_false]; rfl
    · rw [decide_eq_false hs, Bool.false_and]; rfl
theorem snum_ev (b0 : S65b163) (h : b0.f0.size ≤ 4000) {p : Nat} (hp : p ≤ b0.f0.size) : Evr (fun k => spec_l01Scanner__number_2.l2 k b0 p) ((p + wl ((bytesOf b0.f0).drop p) : Nat) : Int) := by
  refine wl_loop b0.f0 h (fun k i => spec_l01Scanner__number_2.l2 k b0 i) (fun k i hi hw => ?_) (fun k i hi hw => ?_) (b0.f0.size - p) p (by omega)
  · rw [spec_l01Scanner__number_2.l2.eq_2, sword_e1, hw, decide_eq_true hi, w64_1 (by omega)]; rfl
  · rw [spec_l01Scanner__number_2.l2.eq_2, sword_e1]
    by_cases hs : i < b0.f0.size
    · rw [hw hs, Bool.and_false]; rfl
    · rw [decide_eq_false hs, Bool.false_and]; rfl
end Go.Proofs.YtgiiholpgpfgkaaGreatDoor.E
