/- Two scanners along one text: what begins here is one token to both, or none. -/
import Derived.Test.YtgiiholpgpfgkaaGreatDoorPlTk7FnExactTokens
set_option linter.unusedVariables false
set_option linter.unusedSimpArgs false
namespace Go.Proofs.YtgiiholpgpfgkaaGreatDoor.E
/-- What a step of both tells: a token and its size, or none. -/
def Step2 (t : ByteArray) (p : Nat) (out : List STok) : Prop := ∃ (o : Option (STok × Nat)) (r : STok × Bool × Int × Int × Int × ByteArray × Int) (q : Int),
  Evr (fun k => impl_scanner__next_2.f k ⟨t, p⟩) r ∧ Evr (fun k => spec_l01Scanner__one_2.f k ⟨t, p, out, 0, 0⟩) (match o with | some (tk, n) => addR ((p + n : Nat) : Int) out tk p | none => failR q out p) ∧
  r.2.1 = o.isSome ∧ ∀ tk n, o = some (tk, n) → r.1 = tk ∧ r.2.2.1 = ((p + n : Nat) : Int) ∧ 1 ≤ n ∧ p + n ≤ t.size
theorem next_of {t : ByteArray} (h : t.size ≤ 4000) {p : Nat} (hp : p < t.size) {v : (STok × Bool × Int × Int × Int × ByteArray × Int) ⊕ (Int × Bool × Int × Int × ByteArray × Int)} (hv : Evr (fun k => impl_scanner__next_2.e2 k ⟨t, p⟩ ((wl ((bytesOf t).drop p) : Nat) : Int)) v) :
    Evr (fun k => impl_scanner__next_2.f k ⟨t, p⟩) (match v with | .inl r => r | .inr y => ((⟨y.2.2.1, y.2.2.2.1, y.2.2.2.2.1, p⟩ : STok), y.2.1, w64 ((p : Int) + y.1), y.2.2.1, y.2.2.2.1, y.2.2.2.2.1, (p : Int))) := by
  unfold impl_scanner__next_2.f
  simp only
  refine ev_pos (by omega) (ev_pos (by omega) ?_)
  have h1 := iword_ev (t.extract p t.size) (by rw [cut_size t (Nat.le_refl _)]; omega)
  rw [bytes_tail] at h1
  rw [Int.toNat_natCast, Int.toNat_natCast]
  refine ev_bind _ h1 (ev_bind _ hv ?_)
  cases v with
  | inl r => exact ev_some
  | inr y => obtain ⟨y1, y2, y3, y4, y5, y6⟩ := y; exact ev_some
theorem tail0 (t : ByteArray) (p : Nat) : byteAt (t.extract p t.size) 0 = byteAt t p := byte_tail t p 0
theorem digit_facts {c : Int} (h : digitB c = true) : wsB c = false ∧ letterB c = false ∧ c ≠ 40 ∧ c ≠ 34 := by
  unfold digitB at h
  simp only [Bool.and_eq_true, decide_eq_true_eq] at h
  unfold wsB letterB
  refine ⟨?_, ?_, by omega, by omega⟩
  · simp; omega
  · simp; omega
theorem letter_facts {c : Int} (h : letterB c = true) : wsB c = false ∧ digitB c = false ∧ c ≠ 40 ∧ c ≠ 34 := by
  unfold letterB at h
  simp only [Bool.or_eq_true, Bool.and_eq_true, decide_eq_true_eq] at h
  unfold wsB digitB
  refine ⟨?_, ?_, by omega, by omega⟩
  · simp; omega
  · simp; omega
/-! A number. -/
theorem step_digit (t : ByteArray) (h : t.size ≤ 4000) {p : Nat} (hp : p < t.size) (out : List STok) (ho : out.length ≤ 1200) (hd : digitB (byteAt t p) = true) : Step2 t p out := by
  obtain ⟨f1, f2, f3, f4⟩ := digit_facts hd
  have hrem : ¬ isRem t p := fun hr => f3 hr.2.1
  have hn1 : 1 ≤ wl ((bytesOf t).drop p) := by
    rw [drop_cons2 t hp]
    exact wl_pos (by unfold wordB; rw [hd, Bool.or_true])
  have hb := wl_bound t (p := p) (by omega)
  have hs := snum_ev2 t h hp hd out ho _ rfl _ rfl
  have hi := fun k => inumeral t h (p := p) (by omega) k
  have hcc := cut_cut t hb
  generalize hn : wl ((bytesOf t).drop p) = n at hn1 hb hs hi hcc
  generalize hR : Nm.res ((t.data.toList.drop p).take n) = R at hs hi
  have he2 : Evr (fun k => impl_scanner__next_2.e2 k ⟨t, p⟩ ((n : Nat) : Int)) (.inr ((n : Int), R.2.2, R.1, R.2.1, (⟨#[]⟩ : ByteArray), 0)) := ev_of fun k => by
    unfold impl_scanner__next_2.e2
    simp only
    rw [Int.toNat_natCast, Int.toNat_natCast, tail0, cut_size t (Nat.le_refl _), if_pos (by omega), if_pos (by omega), iletter_eq, f2, Option.bind_some, if_neg (by simp), idigit_eq, hd, Option.bind_some, if_pos rfl, if_pos (by omega), if_pos (by omega), Int.toNat_natCast]
    show ((impl_numeral.f k ((t.extract p t.size).extract 0 n)).bind _) = _
    rw [hcc, hi]
    rfl
  have hnx := next_of (v := _) h hp (by rw [hn]; exact he2)
  simp only at hnx
  have hw : w64 ((p : Int) + (n : Int)) = ((p + n : Nat) : Int) := by rw [w64_id (by omega) (by omega)]; rfl
  rw [hw] at hnx
  have hone : Evr (fun k => spec_l01Scanner__one_2.f k ⟨t, p, out, 0, 0⟩) (if R.2.2 = true then addR ((p + n : Nat) : Int) out ⟨R.1, R.2.1, ⟨#[]⟩, p⟩ p else failR ((p + n : Nat) : Int) out p) := by
    refine ev_congr _ (fun k => by
      unfold spec_l01Scanner__one_2.f
      simp only
      rw [if_pos (by omega), if_pos (by omega), ws_no f1 k _ rfl, Option.bind_some, if_neg (by simp), srem_no t h hp, Option.bind_some, if_neg (by simpa using hrem), digit_eq, hd, Option.bind_some, if_pos rfl]) (ev_bind _ hs ev_some)
  cases hok : R.2.2
  · refine ⟨none, _, ((p + n : Nat) : Int), hnx, ?_, hok, fun tk m h => by cases h⟩
    rw [hok, if_neg (by simp)] at hone
    exact hone
  · refine ⟨some (⟨R.1, R.2.1, ⟨#[]⟩, p⟩, n), _, 0, hnx, ?_, hok, fun tk m h => ?_⟩
    · rw [hok, if_pos rfl] at hone
      exact hone
    · injection h with h
      injection h with h1 h2
      subst h1; subst h2
      exact ⟨rfl, rfl, hn1, hb⟩
/-! A word. -/
theorem step_letter (t : ByteArray) (h : t.size ≤ 4000) {p : Nat} (hp : p < t.size) (out : List STok) (ho : out.length ≤ 1200) (hd : letterB (byteAt t p) = true) : Step2 t p out := by
  obtain ⟨f1, f2, f3, f4⟩ := letter_facts hd
  have hrem : ¬ isRem t p := fun hr => f3 hr.2.1
  have hn1 : 1 ≤ wl ((bytesOf t).drop p) := by
    rw [drop_cons2 t hp]
    exact wl_pos (by unfold wordB; rw [hd, Bool.true_or])
  have hb := wl_bound t (p := p) (by omega)
  have hs := sword_ev ⟨t, p, out, 0, 0⟩ h (p := p) (by show p ≤ t.size; omega)
  simp only at hs
  have hcc := cut_cut t hb
  generalize hn : wl ((bytesOf t).drop p) = n at hn1 hb hs hcc
  obtain ⟨T, hT⟩ : ∃ T, T = t.extract p (p + n) := ⟨_, rfl⟩
  have hTs : T.size = n := by rw [hT, cut_size t hb]; omega
  rw [← hT] at hcc
  obtain ⟨kd, hkd⟩ : ∃ kd : Int, kd = if keyB T = true then 2 else 1 := ⟨_, rfl⟩
  have he2 : Evr (fun k => impl_scanner__next_2.e2 k ⟨t, p⟩ ((n : Nat) : Int)) (.inr ((n : Int), decide ((n : Int) ≤ 40), kd, 0, T, 0)) := by
    have h1 : Evr (fun k => impl_scanner__next_2.e1 k ⟨t, p⟩ ((n : Nat) : Int)) kd := by
      unfold impl_scanner__next_2.e1
      simp only
      rw [Int.toNat_natCast, Int.toNat_natCast, Int.toNat_natCast]
      show Evr (fun k => (impl_IsKey.f k ((t.extract p t.size).extract 0 n)).bind _) kd
      rw [hcc]
      refine ev_bind _ (ikey_ev T) ?_
      rw [hkd]
      cases keyB T
      · exact ev_some
      · exact ev_some
    refine ev_congr _ (fun k => by
      unfold impl_scanner__next_2.e2
      simp only
      rw [Int.toNat_natCast, Int.toNat_natCast, tail0, cut_size t (Nat.le_refl _), if_pos (by omega), if_pos (by omega), iletter_eq, hd, Option.bind_some, if_pos rfl, if_pos (by omega), if_pos (by omega), Int.toNat_natCast]) ?_
    refine ev_bind _ h1 (ev_of fun k => ?_)
    show some (Sum.inr ((n : Int), decide ((n : Int) ≤ 40), kd, (0 : Int), (t.extract p t.size).extract 0 n, (0 : Int))) = _
    rw [hcc]
  have hnx := next_of (v := _) h hp (by rw [hn]; exact he2)
  simp only at hnx
  have hw : w64 ((p : Int) + (n : Int)) = ((p + n : Nat) : Int) := by rw [w64_id (by omega) (by omega)]; rfl
  rw [hw] at hnx
  have hone : Evr (fun k => spec_l01Scanner__one_2.f k ⟨t, p, out, 0, 0⟩) (if n ≤ 40 then addR ((p + n : Nat) : Int) out ⟨kd, 0, T, p⟩ p else failR ((p + n : Nat) : Int) out p) := by
    refine ev_congr _ (fun k => by
      unfold spec_l01Scanner__one_2.f
      simp only
      rw [if_pos (by omega), if_pos (by omega), ws_no f1 k _ rfl, Option.bind_some, if_neg (by simp), srem_no t h hp, Option.bind_some, if_neg (by simpa using hrem), digit_eq, f2, Option.bind_some, if_neg (by simp), letter_eq, hd, Option.bind_some, if_pos rfl]) ?_
    unfold spec_l01Scanner__one_2.e5
    refine ev_bind _ hs (ev_pos (by omega) (ev_pos (by omega) ?_))
    rw [Int.toNat_natCast, Int.toNat_natCast, ← hT, hTs]
    by_cases h40 : n ≤ 40
    · rw [if_pos h40]
      refine ev_neg (by omega) (ev_bind _ (key_ev T) ?_)
      rw [hkd]
      cases keyB T
      · refine ev_neg (by simp) (ev_of fun k => ?_)
        exact add_eq k 1 0 T p t ((p + n : Nat) : Int) out ho
      · refine ev_pos rfl (ev_of fun k => ?_)
        exact add_eq k 2 0 T p t ((p + n : Nat) : Int) out ho
    · rw [if_neg h40]
      exact ev_pos (by omega) (ev_of fun k => rfl)
  by_cases h40 : n ≤ 40
  · refine ⟨some (⟨kd, 0, T, p⟩, n), _, 0, hnx, ?_, decide_eq_true (by omega), fun tk m h => ?_⟩
    · rw [if_pos h40] at hone
      exact hone
    · injection h with h
      injection h with h1 h2
      subst h1; subst h2
      exact ⟨rfl, rfl, hn1, hb⟩
  · refine ⟨none, _, ((p + n : Nat) : Int), hnx, ?_, decide_eq_false (by omega), fun tk m h => by cases h⟩
    rw [if_neg h40] at hone
    exact hone
/-! A character between quotes. -/
theorem plain_eq (k : Nat) (c : Int) : impl_isPlain.f k c = some (decide (32 ≤ c) && (!decide (c = 127) && !decide (c = 34))) := by
  unfold impl_isPlain.f impl_isPlain.e1
  by_cases h1 : (32 : Int) ≤ c
  · rw [if_pos h1, decide_eq_true h1]
    by_cases h2 : c = 127
    · rw [if_pos h2, decide_eq_true h2]; rfl
    · rw [if_neg h2, decide_eq_false h2]; simp
  · rw [if_neg h1, decide_eq_false h1]; rfl
theorem quote_prefix (t : ByteArray) {p : Nat} (hp : p ≤ t.size) (k : Nat) : strings_HasPrefix.f k (t.extract p t.size) (⟨#[34]⟩ : ByteArray) = some (decide (p < t.size ∧ byteAt t p = 34)) := by
  unfold strings_HasPrefix.f
  rw [prefix_cut t _ hp]
  have e : (⟨#[34]⟩ : ByteArray).size = 1 := rfl
  rw [e]
  congr 1
  refine decide_eq_decide.2 ?_
  have key : p < t.size → bytesOf (t.extract p (p + 1)) = [byteAt t p] := fun hlt => by
    rw [bytes_cut, drop_cons2 t hlt, Nat.add_sub_cancel_left]; rfl
  constructor
  · rintro ⟨h1, h2⟩
    have h3 := key (by omega)
    rw [h2] at h3
    injection h3 with h3 _
    exact ⟨by omega, h3.symm⟩
  · rintro ⟨h1, h2⟩
    refine ⟨by omega, ?_⟩
    apply bytes_inj
    rw [key h1, h2]; rfl
theorem step_quote (t : ByteArray) (h : t.size ≤ 4000) {p : Nat} (hp : p < t.size) (out : List STok) (ho : out.length ≤ 1200) (hq : byteAt t p = 34) : Step2 t p out := by
  have f1 : wsB (byteAt t p) = false := by rw [hq]; rfl
  have f2 : digitB (byteAt t p) = false := by rw [hq]; rfl
  have f3 : letterB (byteAt t p) = false := by rw [hq]; rfl
  have hrem : ¬ isRem t p := fun hr => by have := hr.2.1; omega
  have hsr := srune_ev t h (p + 1) (by omega)
  have hrb := rune_both t (p + 1) (by omega)
  have hcs : (t.extract p t.size).size = t.size - p := cut_size t (Nat.le_refl _)
  have hdr : ∀ k, unicode_utf8_DecodeRuneInString.f k ((t.extract p t.size).extract 1 (t.size - p)) = some (((Lib.decodeGo (t.extract (p + 1) t.size)).1 : Int), ((Lib.decodeGo (t.extract (p + 1) t.size)).2 : Int)) := fun k => by
    have e : (t.extract p t.size).extract 1 (t.size - p) = t.extract (p + 1) t.size := by
      apply bytes_inj
      rw [← hcs, bytes_tail, bytes_tail, bytes_tail, List.drop_drop]
    rw [e]; rfl
  have hpre : ∀ (k n : Nat), p + 1 + n ≤ t.size → strings_HasPrefix.f k ((t.extract p t.size).extract (1 + n) (t.size - p)) (⟨#[34]⟩ : ByteArray) = some (decide (p + 1 + n < t.size ∧ byteAt t ((p + 1 + n : Nat) : Int) = 34)) := fun k n hn => by
    have e : (t.extract p t.size).extract (1 + n) (t.size - p) = t.extract (p + 1 + n) t.size := by
      apply bytes_inj
      rw [← hcs, bytes_tail, bytes_tail, bytes_tail, List.drop_drop]
      congr 1
      omega
    rw [e]; exact quote_prefix t hn k
  generalize hD : Lib.decodeGo (t.extract (p + 1) t.size) = D at hrb hdr
  generalize hR : runeR t (p + 1) = R at hrb hsr
  -- the reference
  obtain ⟨good, hgood⟩ : ∃ b : Bool, b = (decide (1 ≤ R.2) && decide (32 ≤ R.1) && !decide (R.1 = 34) && !decide (R.1 = 127) && decide (p + 1 + R.2 < t.size) && decide (byteAt t ((p + 1 + R.2 : Nat) : Int) = 34)) := ⟨_, rfl⟩
  have hR4 : R.2 ≤ 4 := by
    rcases hrb with ⟨r1, _⟩ | ⟨_, _, _, _, _, r⟩ <;> omega
  have hRl : R.2 = 0 ∨ p + 1 + R.2 ≤ t.size := by
    rcases hrb with ⟨r1, _⟩ | ⟨_, _, _, r, _, _⟩
    · exact .inl r1
    · exact .inr r
  have he6 : ∀ k, spec_l01Scanner__one_2.e6 k ⟨t, p, out, 0, 0⟩ ((R.1 : Int), (R.2 : Int)) = some (!good) := fun k => by
    rw [hgood]
    unfold spec_l01Scanner__one_2.e6
    simp only
    rw [w64_1 (by omega), show w64 (((p + 1 : Nat) : Int) + (R.2 : Int)) = ((p + 1 + R.2 : Nat) : Int) by rw [w64_id (by omega) (by omega)]; rfl]
    by_cases a1 : R.2 = 0
    · rw [if_pos (by omega), decide_eq_false (show ¬ 1 ≤ R.2 by omega)]; simp
    · rw [if_neg (by omega), decide_eq_true (show 1 ≤ R.2 by omega)]
      by_cases a2 : R.1 < 32
      · rw [if_pos (by omega), decide_eq_false (show ¬ 32 ≤ R.1 by omega)]; simp
      · rw [if_neg (by omega), decide_eq_true (show 32 ≤ R.1 by omega)]
        by_cases a3 : R.1 = 34
        · rw [if_pos (by omega), decide_eq_true a3]; simp
        · rw [if_neg (by omega), decide_eq_false a3]
          by_cases a4 : R.1 = 127
          · rw [if_pos (by omega), decide_eq_true a4]; simp
          · rw [if_neg (by omega), decide_eq_false a4]
            by_cases a5 : p + 1 + R.2 < t.size
            · rw [if_neg (by omega), if_pos (by omega), if_pos (by omega), decide_eq_true a5]; simp
            · rw [if_pos (by omega), decide_eq_false a5]; simp
  have hone : Evr (fun k => spec_l01Scanner__one_2.f k ⟨t, p, out, 0, 0⟩) (if good = true then addR ((p + (R.2 + 2) : Nat) : Int) out ⟨4, (R.1 : Int), ⟨#[]⟩, p⟩ p else failR (p : Int) out p) := by
    refine ev_congr _ (fun k => by
      unfold spec_l01Scanner__one_2.f
      simp only
      rw [if_pos (by omega), if_pos (by omega), ws_no f1 k _ rfl, Option.bind_some, if_neg (by simp), srem_no t h hp, Option.bind_some, if_neg (by simpa using hrem), digit_eq, f2, Option.bind_some, if_neg (by simp), letter_eq, f3, Option.bind_some, if_neg (by simp), if_pos hq, w64_1 (by omega)]) ?_
    refine ev_bind _ hsr (ev_bind _ (ev_of he6) ?_)
    cases good
    · exact ev_pos rfl (ev_of fun k => rfl)
    · refine ev_neg (by simp) (ev_of fun k => ?_)
      simp only [if_true]
      rw [w64_2 (by omega), show w64 ((p : Int) + ((R.2 + 2 : Nat) : Int)) = ((p + (R.2 + 2) : Nat) : Int) by rw [w64_id (by omega) (by omega)]; rfl]
      exact add_eq k 4 (R.1 : Int) ⟨#[]⟩ p t _ out ho
  -- the program
  have hquo : ∀ k, impl_quoted.f k (t.extract p t.size) = if good = true then some ((⟨4, (R.1 : Int), (⟨#[]⟩ : ByteArray), 0⟩ : STok), ((R.2 + 2 : Nat) : Int), true, 4, (R.1 : Int), (⟨#[]⟩ : ByteArray), 0) else some ((⟨0, 0, (⟨#[]⟩ : ByteArray), 0⟩ : STok), 0, false, 0, 0, (⟨#[]⟩ : ByteArray), 0) := fun k => by
    unfold impl_quoted.f
    rw [hcs, if_pos (by omega)]
    show ((unicode_utf8_DecodeRuneInString.f k ((t.extract p t.size).extract 1 (t.size - p))).bind _) = _
    rw [hdr, Option.bind_some]
    have he1 : impl_quoted.e1 k (t.extract p t.size) ((D.1 : Int), (D.2 : Int)) = some (!good) := by
      rw [hgood]
      unfold impl_quoted.e1
      simp only
      rw [hcs]
      rcases hrb with ⟨r1, r2, r3⟩ | ⟨r1, r2, r3, r4, r5, r6⟩
      · rw [if_pos (by omega), if_pos (by omega), decide_eq_false (show ¬ 1 ≤ R.2 by omega)]; simp
      · rw [r2]
        have hpl : impl_isPlain.f k (w64 (R.1 : Int)) = some (decide (32 ≤ R.1) && (!decide (R.1 = 127) && !decide (R.1 = 34))) := by
          rw [w64_id (by omega) (by omega), plain_eq]
          congr 1
          congr 1
          · exact decide_eq_decide.2 (by omega)
          · congr 1
            · congr 1; exact decide_eq_decide.2 (by omega)
            · congr 1; exact decide_eq_decide.2 (by omega)
        have hrest : ((impl_isPlain.f k (w64 (R.1 : Int))).bind fun r13 => if r13 = true then (if (0 : Int) ≤ (w64 (1 + (R.2 : Int))) then (if (w64 (1 + (R.2 : Int))) ≤ ((t.size - p : Nat) : Int) then ((strings_HasPrefix.f k ((t.extract p t.size).extract (Int.toNat (w64 (1 + (R.2 : Int)))) (Int.toNat ((t.size - p : Nat) : Int))) (⟨#[34]⟩ : ByteArray)).bind fun r18 => some (!r18)) else none) else none) else (some true)) =
            some (!(decide (1 ≤ R.2) && decide (32 ≤ R.1) && !decide (R.1 = 34) && !decide (R.1 = 127) && decide (p + 1 + R.2 < t.size) && decide (byteAt t ((p + 1 + R.2 : Nat) : Int) = 34))) := by
          have hw : w64 (1 + (R.2 : Int)) = ((1 + R.2 : Nat) : Int) := by rw [w64_id (by omega) (by omega)]; rfl
          have hB : (decide (1 ≤ R.2) && decide (32 ≤ R.1) && !decide (R.1 = 34) && !decide (R.1 = 127) && decide (p + 1 + R.2 < t.size) && decide (byteAt t ((p + 1 + R.2 : Nat) : Int) = 34)) = ((decide (32 ≤ R.1) && (!decide (R.1 = 127) && !decide (R.1 = 34))) && decide (p + 1 + R.2 < t.size ∧ byteAt t ((p + 1 + R.2 : Nat) : Int) = 34)) := by
            rw [decide_eq_true r1, Bool.decide_and]
            cases decide (32 ≤ R.1) <;> cases decide (R.1 = 34) <;> cases decide (R.1 = 127) <;> rfl
          rw [hB, hpl, Option.bind_some]
          cases (decide (32 ≤ R.1) && (!decide (R.1 = 127) && !decide (R.1 = 34)))
          · rfl
          · rw [if_pos rfl, hw, if_pos (by omega), if_pos (by omega), Int.toNat_natCast, Int.toNat_natCast, hpre k R.2 r4, Option.bind_some, Bool.true_and]
        by_cases a1 : (R.1 : Int) = 65533
        · rw [if_pos a1, if_neg (by omega)]; exact hrest
        · rw [if_neg a1]; exact hrest
    rw [he1, Option.bind_some]
    cases hg : good
    · rfl
    · rw [hg] at hgood
      rw [if_neg (by simp), if_pos rfl]
      have hDR : D = R := by
        rcases hrb with ⟨r1, _⟩ | ⟨_, r2, _⟩
        · rw [decide_eq_false (show ¬ 1 ≤ R.2 by omega)] at hgood; simp at hgood
        · exact r2
      rw [hDR]
      have hR1 : R.1 ≤ 1114111 := by
        rcases hrb with ⟨r1, _⟩ | ⟨_, _, _, _, r, _⟩
        · rw [decide_eq_false (show ¬ 1 ≤ R.2 by omega)] at hgood; simp at hgood
        · exact r
      simp only
      rw [w64_id (n := (R.1 : Int)) (by omega) (by omega), w64_2 (by omega)]
  obtain ⟨n, hn⟩ : ∃ n, n = wl ((bytesOf t).drop p) := ⟨_, rfl⟩
  have he2 : ∀ k, impl_scanner__next_2.e2 k ⟨t, p⟩ ((n : Nat) : Int) = ((impl_quoted.f k (t.extract p t.size)).bind fun r26 => some (.inr (r26.2.1, r26.2.2.1, r26.1.f0, r26.1.f1, r26.1.f2, r26.1.f3))) := fun k => by
    unfold impl_scanner__next_2.e2
    simp only
    rw [Int.toNat_natCast, Int.toNat_natCast, tail0, hcs, if_pos (by omega), if_pos (by omega), iletter_eq, f3, Option.bind_some, if_neg (by simp), idigit_eq, f2, Option.bind_some, if_neg (by simp), if_pos hq]
  cases hg : good
  · rw [hg] at hone hquo
    have hnx := next_of (v := .inr (0, false, 0, 0, (⟨#[]⟩ : ByteArray), 0)) h hp (by rw [← hn]; exact ev_of fun k => by rw [he2, hquo]; rfl)
    exact ⟨none, _, (p : Int), hnx, hone, rfl, fun tk m h => by cases h⟩
  · rw [hg] at hone hquo hgood
    have hsz : p + 1 + R.2 < t.size := by
      have := hgood.symm
      simp only [Bool.and_eq_true, decide_eq_true_eq] at this
      exact this.1.2
    have hnx := next_of (v := .inr (((R.2 + 2 : Nat) : Int), true, 4, (R.1 : Int), (⟨#[]⟩ : ByteArray), 0)) h hp (by rw [← hn]; exact ev_of fun k => by rw [he2, hquo]; rfl)
    simp only at hnx
    rw [show w64 ((p : Int) + ((R.2 + 2 : Nat) : Int)) = ((p + (R.2 + 2) : Nat) : Int) by rw [w64_id (by omega) (by omega)]; rfl] at hnx
    refine ⟨some (⟨4, (R.1 : Int), ⟨#[]⟩, p⟩, R.2 + 2), _, 0, hnx, hone, rfl, fun tk m h => ?_⟩
    injection h with h
    injection h with h1 h2
    subst h1; subst h2
    exact ⟨rfl, rfl, by omega, by omega⟩
end Go.Proofs.YtgiiholpgpfgkaaGreatDoor.E
