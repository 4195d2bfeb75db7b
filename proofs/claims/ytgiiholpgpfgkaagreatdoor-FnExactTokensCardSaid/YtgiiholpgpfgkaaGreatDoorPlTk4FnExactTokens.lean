/- Two scanners along one text: what begins with a digit is one token to both. -/
import Derived.Test.YtgiiholpgpfgkaaGreatDoorPlTk3FnExactTokens
set_option linter.unusedVariables false
set_option linter.unusedSimpArgs false
namespace Go.Proofs.YtgiiholpgpfgkaaGreatDoor.E
/-! Results of the reference's steps. -/
def addR (q : Int) (out : List STok) (tk : STok) (p : Int) : Int × List STok × Int × Int := if out.length = 1200 then (q, out, 13, p) else (q, out ++ [tk], 0, 0)
def failR (q : Int) (out : List STok) (p : Int) : Int × List STok × Int × Int := (q, out, 4, p)
theorem add_eq (k : Nat) (kd n : Int) (x : ByteArray) (p : Int) (t : ByteArray) (q : Int) (out : List STok) (ho : out.length ≤ 1200) : (spec_l01Scanner__add_2.f k kd n x p ⟨t, q, out, 0, 0⟩).bind (fun r => some (q, r.1, r.2.1, r.2.2)) = some (addR q out ⟨kd, n, x, p⟩ p) := by
  unfold spec_l01Scanner__add_2.f spec_l01Scanner__fail_2.f addR
  simp only
  by_cases h : out.length = 1200
  · rw [if_pos (by omega), if_pos h]; rfl
  · rw [if_neg (by omega), if_neg h, if_pos (by simp; omega)]; rfl
theorem fail_eq (k : Nat) (p : Int) (t : ByteArray) (q : Int) (out : List STok) : (spec_l01Scanner__fail_2.f k 4 p ⟨t, q, out, 0, 0⟩).bind (fun r => some (q, out, r.1, r.2)) = some (failR q out p) := rfl
/-! Digits at base 16. -/
def hexU (c : UInt8) : Bool := digU c || (decide (65 ≤ c.toNat) && decide (c.toNat ≤ 70))
theorem upper_eq (k : Nat) (c : Int) : spec_l01Upper.f k c = some (decide (65 ≤ c) && decide (c ≤ 70)) := by
  unfold spec_l01Upper.f spec_l01Upper.e1
  by_cases h : (65 : Int) ≤ c <;> simp [h]
theorem l01In_eq (k : Nat) (n a b : Int) : spec_l01In.f k n a b = some (decide (a ≤ n) && decide (n ≤ b)) := by
  unfold spec_l01In.f spec_l01In.e1
  by_cases h : a ≤ n <;> simp [h]
theorem charOK_nat (k n : Nat) : spec_CharOK.f k (n : Int) = some (Nm.chOK n) := by
  unfold spec_CharOK.f spec_CharOK.e1 Nm.chOK
  rw [l01In_eq, l01In_eq]
  by_cases h1 : (n : Int) ≤ 55295
  · rw [decide_eq_true (show (0 : Int) ≤ n by omega), decide_eq_true h1, decide_eq_true (show (n : Int) ≤ 1114111 by omega), decide_eq_false (show ¬ (55296 : Int) ≤ n by omega)]
    rfl
  · rw [decide_eq_true (show (0 : Int) ≤ n by omega), decide_eq_false h1]
    by_cases h2 : (57344 : Int) ≤ n
    · rw [decide_eq_true h2, decide_eq_false (show ¬ (n : Int) ≤ 57343 by omega)]
      by_cases h3 : (n : Int) ≤ 1114111
      · rw [decide_eq_true h3]; simp
      · rw [decide_eq_false h3]; simp
    · rw [decide_eq_false h2, decide_eq_true (show (55296 : Int) ≤ n by omega), decide_eq_true (show (n : Int) ≤ 57343 by omega)]
      simp
theorem charOK_some (k : Nat) (c : Int) : ∃ b, ∀ k, spec_CharOK.f k c = some b := by
  refine ⟨(spec_CharOK.f 0 c).getD false, fun k => ?_⟩
  unfold spec_CharOK.f spec_CharOK.e1
  rw [l01In_eq, l01In_eq]
  simp only [Option.bind_some]
  rw [l01In_eq, l01In_eq]
  simp only [Option.bind_some]
  split <;> rfl
theorem hex_some : ∀ (l : List UInt8) (acc : Nat), l.all hexU = true → ∃ n, Hx.val acc l = some n
  | [], acc, _ => ⟨acc, rfl⟩
  | c :: r, acc, h => by
    rw [List.all_cons, Bool.and_eq_true] at h
    unfold Hx.val
    by_cases hd : 48 ≤ c.toNat ∧ c.toNat ≤ 57
    · rw [if_pos hd]; exact hex_some r _ h.2
    · rw [if_neg hd]
      have h2 := h.1
      unfold hexU digU at h2
      simp only [Bool.or_eq_true, Bool.and_eq_true, decide_eq_true_eq] at h2
      rw [if_pos (by rcases h2 with h2 | h2 <;> omega)]
      exact hex_some r _ h.2
theorem hex_none : ∀ (l : List UInt8) (acc : Nat), l.all hexU = false → Hx.val acc l = none
  | [], _, h => by cases h
  | c :: r, acc, h => by
    unfold Hx.val
    by_cases hc : hexU c = true
    · have hr : r.all hexU = false := by rw [List.all_cons, hc, Bool.true_and] at h; exact h
      split
      · exact hex_none r _ hr
      · split
        · exact hex_none r _ hr
        · rfl
    · unfold hexU digU at hc
      simp only [Bool.or_eq_true, Bool.and_eq_true, decide_eq_true_eq] at hc
      rw [if_neg (fun h => hc (.inl h)), if_neg (fun h => hc (.inr h))]
theorem up_hex_all : ∀ n : Fin 256, hexU (UInt8.ofNat n) = true → Lib.upperB (UInt8.ofNat n) = UInt8.ofNat n ∧ UInt8.ofNat n ≠ 95 ∧ Nm.wordB (UInt8.ofNat n) = true := by decide +kernel
theorem up_hex (c : UInt8) (h : hexU c = true) : Lib.upperB c = c ∧ c ≠ 95 ∧ Nm.wordB c = true := by
  have e : UInt8.ofNat c.toNat = c := by simp
  have := up_hex_all ⟨c.toNat, c.toNat_lt⟩
  simp only [e] at this
  exact this h
theorem up_map : ∀ (l : List UInt8), l.all hexU = true → Lib.toUpperA l = l
  | [], _ => rfl
  | c :: r, h => by
    rw [List.all_cons, Bool.and_eq_true] at h
    show Lib.upperB c :: Lib.toUpperA r = c :: r
    rw [(up_hex c h.1).1, up_map r h.2]
theorem idx_no : ∀ (l : List UInt8), l.all hexU = true → Lib.indexByte l 95 = -1
  | [], _ => rfl
  | c :: r, h => by
    rw [List.all_cons, Bool.and_eq_true] at h
    unfold Lib.indexByte
    rw [if_neg (by have := (up_hex c h.1).2.1; simpa using this), idx_no r h.2]
    rfl
theorem suffix88 (d : List UInt8) (x : UInt8) : Lib.hasSuffix (d ++ [x]) [88] = decide (x = 88) := by
  unfold Lib.hasSuffix List.isSuffixOf
  rw [List.reverse_append]
  by_cases h : x = 88
  · subst h; simp
  · rw [decide_eq_false h]
    have e : ([88] : List UInt8).isPrefixOf (x :: d.reverse) = false := by
      have h2 : ((88 : UInt8) == x) = false := beq_eq_false_iff_ne.2 fun h3 => h h3.symm
      simp [List.isPrefixOf, h2]
    exact e
theorem trim88 (d : List UInt8) : Lib.trimSuffix (d ++ [88]) [88] = d := by
  unfold Lib.trimSuffix
  rw [suffix88, if_pos (by simp)]
  simp
/-- What numeral tells of a word with an end. -/
def hexOK (d : List UInt8) : Bool := decide (1 ≤ d.length) && decide (d.length ≤ 7) && d.all hexU
theorem res_hex {d : List UInt8} (hr : Nm.rn (d ++ [88]) = none) {n : Nat} (hx : hexOK d = true) (hn : Hx.val 0 d = some n) : Nm.res (d ++ [88]) = (4, (n : Int), Nm.chOK n) := by
  unfold hexOK at hx
  simp only [Bool.and_eq_true] at hx
  unfold Nm.res
  rw [hr, trim88, suffix88]
  simp only
  have he : Nm.hexish d = true := by
    unfold Nm.hexish
    rw [up_map d hx.2, idx_no d hx.2, hx.1.1, hx.1.2]
    simp
  rw [if_pos (by rw [he]; simp), hn]
theorem res_nohex {d : List UInt8} (hr : Nm.rn (d ++ [88]) = none) (hx : hexOK d = false) : (Nm.res (d ++ [88])).2.2 = false := by
  unfold Nm.res
  rw [hr, trim88, suffix88]
  simp only
  split
  · rename_i h
    have h2 := h.2
    unfold Nm.hexish at h2
    simp only [Bool.and_eq_true] at h2
    have h3 : d.all hexU = false := by
      unfold hexOK at hx
      rw [h2.1.1.1, h2.1.1.2, Bool.true_and, Bool.true_and] at hx
      exact hx
    rw [hex_none d 0 h3]
  · rfl
theorem res_no {d : List UInt8} {x : UInt8} (hr : Nm.rn (d ++ [x]) = none) (hx : x ≠ 88) : (Nm.res (d ++ [x])).2.2 = false := by
  unfold Nm.res
  rw [hr, suffix88, decide_eq_false hx]
  simp
theorem res_num {l : List UInt8} {v : Int} (hr : Nm.rn l = some v) : Nm.res l = (3, v, true) := by
  unfold Nm.res
  rw [hr]
/-! The reference's loop over digits at base 16. -/
theorem hex_loop (b0 : S65b163) (y : Int) (w : ByteArray) (hw : b0.f0.extract (Int.toNat b0.f1) (Int.toNat y) = w) (h : w.size ≤ 4000) : ∀ (m i : Nat) (c : Int) (ok : Bool), i + m + 1 = w.size → ∃ c' : Int,
    Evr (fun k => spec_l01Scanner__number_2.l6 k b0 y c ok i) (c', ok && ((w.data.toList.drop i).take m).all hexU) ∧
    (w.size ≤ 9 → ((w.data.toList.drop i).take m).all hexU = true → ∀ acc : Nat, c = acc → acc < 16 ^ i → ∃ n, Hx.val acc ((w.data.toList.drop i).take m) = some n ∧ c' = (n : Int)) := by
  intro m
  induction m with
  | zero =>
    intro i c ok hi
    refine ⟨c, ev_step _ (fun k => ?_) (ev_eq (ev_some (r := (c, ok))) (by simp)), fun _ _ acc hc _ => ⟨acc, by simp [Hx.val], hc⟩⟩
    rw [spec_l01Scanner__number_2.l6.eq_2, hw, w64_1 (by omega), if_neg (by omega)]
  | succ m ih =>
    intro i c ok hi
    have hd : (w.data.toList.drop i).take (m + 1) = w.data.toList.getD i 0 :: (w.data.toList.drop (i + 1)).take m := by rw [drop_u8 w (by omega), List.take_succ_cons]
    rw [hd]
    have hb := byte_u8 w i
    have hx : ∀ (k : Nat), spec_l01Scanner__number_2.l6 (k + 1) b0 y c ok i = (spec_l01Scanner__number_2.e5 k b0 y c ok i).bind fun v => match v with | (y63, y64) => spec_l01Scanner__number_2.l6 k b0 y y63 y64 ((i + 1 : Nat) : Int) := fun k => by
      rw [spec_l01Scanner__number_2.l6.eq_2, hw, w64_1 (by omega), if_pos (by omega)]
    have he5 : ∀ k, spec_l01Scanner__number_2.e5 k b0 y c ok i = if digitB (byteAt w i) = true then some (w64 ((w64 ((w64 (c * 16)) + (w64 (byteAt w i)))) - 48), ok) else if (decide (65 ≤ byteAt w i) && decide (byteAt w i ≤ 70)) = true then some (w64 ((w64 ((w64 (c * 16)) + (w64 (byteAt w i)))) - 55), ok) else some (c, false) := fun k => by
      unfold spec_l01Scanner__number_2.e5
      rw [hw, if_pos (by omega), if_pos (by omega), digit_eq, upper_eq]
      rfl
    rw [hb] at he5
    generalize w.data.toList.getD i 0 = u at he5 ⊢
    have hu := u.toNat_lt
    rw [List.all_cons]
    have hdd : digitB (u.toNat : Int) = digU u := by
      unfold digitB digU
      congr 1
      · exact decide_eq_decide.2 (by omega)
      · exact decide_eq_decide.2 (by omega)
    have hdu : (decide (65 ≤ (u.toNat : Int)) && decide ((u.toNat : Int) ≤ 70)) = (decide (65 ≤ u.toNat) && decide (u.toNat ≤ 70)) := by
      congr 1
      · exact decide_eq_decide.2 (by omega)
      · exact decide_eq_decide.2 (by omega)
    rw [hdd, hdu] at he5
    have pw : (16 : Nat) ^ (i + 1) = 16 ^ i * 16 := Nat.pow_succ ..
    have bnd : w.size ≤ 9 → (16 : Nat) ^ i ≤ 16 ^ 8 := fun hs => Nat.pow_le_pow_right (by decide) (by omega)
    have p8 : (16 : Nat) ^ 8 = 4294967296 := by decide
    cases h1 : digU u
    · cases h2 : (decide (65 ≤ u.toNat) && decide (u.toNat ≤ 70))
      · obtain ⟨c', k1, k2⟩ := ih (i + 1) c false (by omega)
        refine ⟨c', ev_step _ hx (ev_bind (c, false) (ev_of fun k => by rw [he5, h1, h2, if_neg (by simp), if_neg (by simp)]) (ev_eq k1 ?_)), fun _ hall => ?_⟩
        · unfold hexU; rw [h1, h2]; simp
        · unfold hexU at hall; rw [h1, h2] at hall; simp at hall
      · obtain ⟨c', k1, k2⟩ := ih (i + 1) (w64 ((w64 ((w64 (c * 16)) + (w64 (u.toNat : Int)))) - 55)) ok (by omega)
        simp only [Bool.and_eq_true, decide_eq_true_eq] at h2
        have hux : hexU u = true := by unfold hexU; simp [h2.1, h2.2]
        refine ⟨c', ev_step _ hx (ev_bind (w64 ((w64 ((w64 (c * 16)) + (w64 (u.toNat : Int)))) - 55), ok) (ev_of fun k => by rw [he5, h1, if_neg (by simp), if_pos (by simp [h2.1, h2.2])]) (ev_eq k1 ?_)), fun hs hall acc hc ha => ?_⟩
        · rw [hux, Bool.true_and]
        · rw [hux, Bool.true_and] at hall
          have := bnd hs
          have hv : w64 ((w64 ((w64 (c * 16)) + (w64 (u.toNat : Int)))) - 55) = ((acc * 16 + (u.toNat - 55) : Nat) : Int) := by
            rw [hc, w64_id (n := (acc : Int) * 16) (by omega) (by omega), w64_id (n := (u.toNat : Int)) (by omega) (by omega), w64_id (n := (acc : Int) * 16 + (u.toNat : Int)) (by omega) (by omega), w64_id (by omega) (by omega)]
            omega
          obtain ⟨n, e1, e2⟩ := k2 hs hall _ hv (by omega)
          refine ⟨n, ?_, e2⟩
          rw [Hx.val, if_neg (fun h => by rw [digU_iff.2 h] at h1; cases h1), if_pos h2]
          exact e1
    · have h2 := digU_iff.1 h1
      obtain ⟨c', k1, k2⟩ := ih (i + 1) (w64 ((w64 ((w64 (c * 16)) + (w64 (u.toNat : Int)))) - 48)) ok (by omega)
      have hux : hexU u = true := by unfold hexU; rw [h1]; rfl
      refine ⟨c', ev_step _ hx (ev_bind (w64 ((w64 ((w64 (c * 16)) + (w64 (u.toNat : Int)))) - 48), ok) (ev_of fun k => by rw [he5, h1, if_pos rfl]) (ev_eq k1 ?_)), fun hs hall acc hc ha => ?_⟩
      · rw [hux, Bool.true_and]
      · rw [hux, Bool.true_and] at hall
        have := bnd hs
        have hv : w64 ((w64 ((w64 (c * 16)) + (w64 (u.toNat : Int)))) - 48) = ((acc * 16 + (u.toNat - 48) : Nat) : Int) := by
          rw [hc, w64_id (n := (acc : Int) * 16) (by omega) (by omega), w64_id (n := (u.toNat : Int)) (by omega) (by omega), w64_id (n := (acc : Int) * 16 + (u.toNat : Int)) (by omega) (by omega), w64_id (by omega) (by omega)]
          omega
        obtain ⟨n, e1, e2⟩ := k2 hs hall _ hv (by omega)
        refine ⟨n, ?_, e2⟩
        rw [Hx.val, if_pos h2]
        exact e1
end Go.Proofs.YtgiiholpgpfgkaaGreatDoor.E
