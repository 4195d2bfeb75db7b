/- Two scanners along one text: numbers, and characters by their codes. -/
import Derived.Test.YtgiiholpgpfgkaaGreatDoorPlTk2FnExactTokens
set_option linter.unusedVariables false
set_option linter.unusedSimpArgs false
namespace Go.Proofs.YtgiiholpgpfgkaaGreatDoor.E
/-! Numbers, as lists of bytes. -/
def digU (c : UInt8) : Bool := decide (48 ≤ c.toNat) && decide (c.toNat ≤ 57)
def valD (acc : Nat) (l : List UInt8) : Nat := l.foldl (fun a c => a * 10 + (c.toNat - 48)) acc
theorem digU_iff {c : UInt8} : digU c = true ↔ 48 ≤ c.toNat ∧ c.toNat ≤ 57 := by unfold digU; simp
theorem parse_ok : ∀ (l : List UInt8) (acc j : Nat), l.all digU = true → acc < 10 ^ j → j + l.length ≤ 18 → Lib.parseUint10 acc l = .ok (valD acc l) ∧ valD acc l < 10 ^ (j + l.length)
  | [], acc, j, h, ha, hj => ⟨rfl, ha⟩
  | c :: r, acc, j, h, ha, hj => by
    simp only [List.all_cons, Bool.and_eq_true] at h
    have hc := digU_iff.1 h.1
    simp only [List.length_cons] at hj
    have p1 : (10 : Nat) ^ (j + 1) = 10 ^ j * 10 := Nat.pow_succ ..
    have p2 : (10 : Nat) ^ j ≤ 10 ^ 17 := Nat.pow_le_pow_right (by decide) (by omega)
    have p3 : (10 : Nat) ^ 17 = 100000000000000000 := by decide
    obtain ⟨h1, h2⟩ := parse_ok r (acc * 10 + (c.toNat - 48)) (j + 1) h.2 (by omega) (by omega)
    refine ⟨?_, ?_⟩
    · rw [Lib.parseUint10, if_pos hc, if_neg (by omega), if_neg (by omega), h1]
      rfl
    · rw [List.length_cons, show j + (r.length + 1) = j + 1 + r.length by omega]
      exact h2
theorem parse_no : ∀ (l : List UInt8) (acc u : Nat), l.all digU = false → Lib.parseUint10 acc l ≠ .ok u
  | [], _, _, h => by cases h
  | c :: r, acc, u, h => by
    rw [Lib.parseUint10]
    by_cases hc : 48 ≤ c.toNat ∧ c.toNat ≤ 57
    · rw [if_pos hc]
      have hr : r.all digU = false := by
        rw [List.all_cons, digU_iff.2 hc, Bool.true_and] at h
        exact h
      split
      · intro h; cases h
      · split
        · intro h; cases h
        · exact parse_no r _ u hr
    · rw [if_neg hc]; intro h; cases h
theorem valD_app (acc : Nat) (l : List UInt8) (c : UInt8) : valD acc (l ++ [c]) = valD acc l * 10 + (c.toNat - 48) := by unfold valD; rw [List.foldl_append]; rfl
theorem valD_pos : ∀ (l : List UInt8) (acc : Nat), 1 ≤ acc → 1 ≤ valD acc l
  | [], acc, h => h
  | c :: r, acc, h => valD_pos r (acc * 10 + (c.toNat - 48)) (by omega)
theorem dec_val : ∀ (n : Nat) (l : List UInt8), l.length = n → l.all digU = true → 1 ≤ n → (n = 1 ∨ l.head? ≠ some 48) → Lib.decDigits (valD 0 l) = l
  | 0, _, _, _, h, _ => by omega
  | n + 1, l, hl, hd, _, h0 => by
    obtain ⟨d, c, rfl⟩ : ∃ d c, l = d ++ [c] := by
      have hne : l ≠ [] := by intro h; rw [h] at hl; cases hl
      exact ⟨l.dropLast, l.getLast hne, (List.dropLast_concat_getLast hne).symm⟩
    rw [List.all_append, Bool.and_eq_true] at hd
    have hc := digU_iff.1 (by simpa using hd.2 : digU c = true)
    rw [valD_app]
    have hch : UInt8.ofNat (48 + (c.toNat - 48)) = c := by
      rw [show 48 + (c.toNat - 48) = c.toNat by omega]; simp
    cases hdl : d with
    | nil =>
      have e : valD 0 ([] : List UInt8) = 0 := rfl
      rw [e, Nat.zero_mul, Nat.zero_add, Lib.decDigits_one (by omega), hch]
      rfl
    | cons x r =>
      rw [← hdl]
      have hlen : d.length = n := by simpa using hl
      have hn1 : 1 ≤ n := by rw [← hlen, hdl]; simp
      have hx : x ≠ 48 := by
        rcases h0 with h0 | h0
        · omega
        · rw [hdl] at h0; simpa using h0
      have hxd : digU x = true := by
        have := hd.1
        rw [hdl, List.all_cons, Bool.and_eq_true] at this
        exact this.1
      have hx2 := digU_iff.1 hxd
      have hx3 : x.toNat ≠ 48 := fun h => hx (UInt8.toNat_inj.1 h)
      have hpos : 1 ≤ valD 0 d := by
        rw [hdl]
        exact valD_pos r (0 * 10 + (x.toNat - 48)) (by omega)
      have ih := dec_val n d hlen hd.1 hn1 (.inr (by rw [hdl]; simpa using hx))
      rw [Lib.decDigits, dif_neg (by omega), show (valD 0 d * 10 + (c.toNat - 48)) / 10 = valD 0 d by omega, show (valD 0 d * 10 + (c.toNat - 48)) % 10 = c.toNat - 48 by omega, ih, hch]
theorem dec_head (u : Nat) : 1 ≤ u → (Lib.decDigits u).head? ≠ some 48 := by
  induction u using Nat.strongRecOn with
  | _ u ih =>
    intro hu
    by_cases h : u < 10
    · rw [Lib.decDigits_one h]
      intro h2
      have h3 := Option.some.inj h2
      have h4 := congrArg UInt8.toNat h3
      simp at h4
      omega
    · rw [Lib.decDigits, dif_neg h]
      have h1 := ih (u / 10) (by omega) (by omega)
      cases hd : Lib.decDigits (u / 10) with
      | nil =>
        have h2 := Lib.decDigits_length (u / 10)
        rw [hd] at h2
        unfold Lib.nDigits at h2
        split at h2
        · cases h2
        · simp at h2
      | cons x r => rw [hd] at h1; simpa using h1
/-- A number as it must be spelled. -/
def numU (l : List UInt8) : Bool := l.all digU && decide (l.length ≤ 18) && !(decide (l.head? = some 48) && decide (1 < l.length))
theorem rn_eq (c : UInt8) (r : List UInt8) (hc : digU c = true) : Nm.rn (c :: r) = if numU (c :: r) = true then some ((valD 0 (c :: r) : Nat) : Int) else none := by
  have hc2 := digU_iff.1 hc
  have h45 : ¬ (c.toNat = 43 ∨ c.toNat = 45) := by omega
  have h45' : ¬ c.toNat = 45 := by omega
  have htp : Lib.trimPrefix (c :: r) [45] = c :: r := by
    unfold Lib.trimPrefix Lib.hasPrefix
    rw [if_neg]
    intro h
    have h2 := List.isPrefixOf_iff_prefix.1 h
    obtain ⟨s, hs⟩ := h2
    injection hs with h3 _
    apply h45'
    rw [← h3]
    rfl
  have hA1 : ∀ u, Lib.parseUint10 0 (c :: r) = .ok u → Lib.atoiAll (c :: r) = if 9223372036854775808 ≤ u then .range else .ok (u : Int) := fun u hu => by
    unfold Lib.atoiAll
    simp only [show ¬ c.toNat = 43 by omega, h45', or_self, not_false_eq_true, true_and, false_and, if_false]
    unfold Lib.parseMag
    rw [if_neg (by simp), hu]
  have hA2 : (∀ u, Lib.parseUint10 0 (c :: r) ≠ .ok u) → ∀ v, Lib.atoiAll (c :: r) ≠ .ok v := fun hn v => by
    unfold Lib.atoiAll
    simp only [show ¬ c.toNat = 43 by omega, h45', or_self, not_false_eq_true, true_and, false_and, if_false]
    unfold Lib.parseMag
    rw [if_neg (by simp)]
    cases hq : Lib.parseUint10 0 (c :: r) with
    | ok u => exact absurd hq (hn u)
    | _ => intro h; cases h
  have hrn : ∀ v, Lib.atoiAll (c :: r) = .ok v → Nm.rn (c :: r) = if (c :: r).length ≤ 18 ∧ Lib.itoa v = c :: r then some v else none := fun v hv => by
    unfold Nm.rn
    rw [hv, htp]
  have hrn0 : (∀ v, Lib.atoiAll (c :: r) ≠ .ok v) → Nm.rn (c :: r) = none := fun hv => by
    unfold Nm.rn
    cases hq : Lib.atoiAll (c :: r) with
    | ok v => exact absurd hq (hv v)
    | _ => rfl
  by_cases hd : (c :: r).all digU = true
  · by_cases hl : (c :: r).length ≤ 18
    · obtain ⟨h1, h2⟩ := parse_ok (c :: r) 0 0 hd (by decide) (by omega)
      have hp : (10 : Nat) ^ (0 + (c :: r).length) ≤ 10 ^ 18 := Nat.pow_le_pow_right (by decide) (by omega)
      have hp18 : (10 : Nat) ^ 18 = 1000000000000000000 := by decide
      rw [hrn _ ((hA1 _ h1).trans (if_neg (by omega)))]
      rw [Lib.itoa_nonneg]
      by_cases hz : (c :: r).head? = some 48 ∧ 1 < (c :: r).length
      · rw [if_neg, if_neg]
        · unfold numU
          rw [decide_eq_true hz.1, decide_eq_true hz.2]
          simp
        · rintro ⟨_, h3⟩
          by_cases hv : 1 ≤ valD 0 (c :: r)
          · exact dec_head _ hv ((congrArg List.head? h3).trans hz.1)
          · rw [show valD 0 (c :: r) = 0 by omega, Lib.decDigits_one (by decide)] at h3
            have h4 := congrArg List.length h3
            have h5 := hz.2
            rw [← h4] at h5
            simp at h5
      · rw [if_pos, if_pos]
        · unfold numU
          rw [hd, decide_eq_true hl]
          simp only [Bool.true_and, Bool.not_eq_true', Bool.and_eq_false_iff, decide_eq_false_iff_not]
          by_cases h0 : (c :: r).head? = some 48
          · exact .inr fun h => hz ⟨h0, h⟩
          · exact .inl h0
        · refine ⟨hl, dec_val _ _ rfl hd (by simp) ?_⟩
          by_cases h0 : (c :: r).head? = some 48
          · exact .inl (by have : ¬ 1 < (c :: r).length := fun h => hz ⟨h0, h⟩; simp only [List.length_cons] at *; omega)
          · exact .inr h0
    · have hN : numU (c :: r) = false := by unfold numU; rw [decide_eq_false hl]; simp
      rw [hN, if_neg (by simp)]
      cases hq : Lib.parseUint10 0 (c :: r) with
      | ok u =>
        by_cases hu : 9223372036854775808 ≤ u
        · exact hrn0 fun v hv => by rw [hA1 u hq, if_pos hu] at hv; cases hv
        · rw [hrn _ ((hA1 u hq).trans (if_neg hu)), if_neg (fun h => hl h.1)]
      | _ => exact hrn0 (hA2 fun u hu => by rw [hq] at hu; cases hu)
  · rw [Bool.not_eq_true] at hd
    have hN : numU (c :: r) = false := by unfold numU; rw [hd]; simp
    rw [hN, if_neg (by simp)]
    exact hrn0 (hA2 fun u => parse_no (c :: r) 0 u hd)
/-! The reference's number. -/
theorem byte_u8 (a : ByteArray) (i : Nat) : byteAt a (i : Int) = ((a.data.toList.getD i 0).toNat : Int) := by unfold byteAt; rw [Int.toNat_natCast]
theorem drop_u8 (a : ByteArray) {i : Nat} (h : i < a.size) : a.data.toList.drop i = a.data.toList.getD i 0 :: a.data.toList.drop (i + 1) := by
  have hl : i < a.data.toList.length := by rw [← Lib.size_eq]; exact h
  rw [List.drop_eq_getElem_cons hl]
  congr 1
  simp [List.getD_eq_getElem?_getD, List.getElem?_eq_getElem hl]
theorem snumber_loop (a : ByteArray) (h : a.size ≤ 18) : ∀ (m i acc : Nat), i + m = a.size → acc < 10 ^ i →
    Evr (fun k => spec_l00Number.l5 k a acc i) (if (a.data.toList.drop i).all digU = true then .inr ((valD acc (a.data.toList.drop i) : Nat) : Int) else .inl (0, false)) := by
  intro m
  induction m with
  | zero =>
    intro i acc hi ha
    rw [List.drop_eq_nil_of_le (by rw [← Lib.size_eq]; omega)]
    refine ev_step _ (fun k => ?_) ev_some
    rw [spec_l00Number.l5.eq_2, if_neg (by omega)]
    rfl
  | succ m ih =>
    intro i acc hi ha
    have hp : (10 : Nat) ^ i ≤ 10 ^ 17 := Nat.pow_le_pow_right (by decide) (by omega)
    have hp17 : (10 : Nat) ^ 17 = 100000000000000000 := by decide
    have hps : (10 : Nat) ^ (i + 1) = 10 ^ i * 10 := Nat.pow_succ ..
    rw [drop_u8 a (by omega), List.all_cons]
    have hb := byte_u8 a i
    generalize a.data.toList.getD i 0 = c at hb ⊢
    have hc := c.toNat_lt
    by_cases hd : digU c = true
    · have hd2 := digU_iff.1 hd
      refine ev_step (fun k => spec_l00Number.l5 k a ((acc * 10 + (c.toNat - 48) : Nat) : Int) ((i + 1 : Nat) : Int)) (fun k => ?_) (ev_eq (ih (i + 1) (acc * 10 + (c.toNat - 48)) (by omega) (by omega)) ?_)
      · rw [spec_l00Number.l5.eq_2, if_pos (by omega)]
        unfold spec_l00Number.e4
        rw [if_pos (by omega), hb, if_neg (by omega), decide_eq_false (by omega)]
        simp only [Option.bind_some]
        rw [if_neg (by simp), if_pos (by omega), w64_1 (by omega), w64_id (n := (acc : Int) * 10) (by omega) (by omega), w64_id (n := (c.toNat : Int)) (by omega) (by omega), w64_id (n := (acc : Int) * 10 + (c.toNat : Int)) (by omega) (by omega), w64_id (by omega) (by omega)]
        congr 1
        omega
      · rw [hd, Bool.true_and]
        rfl
    · have hd2 : ¬ (48 ≤ c.toNat ∧ c.toNat ≤ 57) := fun h => hd (digU_iff.2 h)
      rw [Bool.not_eq_true] at hd
      rw [hd, Bool.false_and, if_neg (by simp)]
      refine ev_step _ (fun k => ?_) ev_some
      rw [spec_l00Number.l5.eq_2, if_pos (by omega)]
      unfold spec_l00Number.e4
      rw [if_pos (by omega), hb]
      by_cases h48 : (c.toNat : Int) < 48
      · rw [if_pos h48]; rfl
      · rw [if_neg h48, decide_eq_true (by omega)]; rfl
theorem snumber_ev (a : ByteArray) (c : UInt8) (r : List UInt8) (hl : a.data.toList = c :: r) (hc : digU c = true) :
    Evr (fun k => spec_l00Number.f k a) (if numU (c :: r) = true then (((valD 0 (c :: r) : Nat) : Int), true) else (0, false)) := by
  have hc2 := digU_iff.1 hc
  have hsz : a.size = r.length + 1 := by rw [Lib.size_eq, hl]; rfl
  have hb : byteAt a 0 = (c.toNat : Int) := by have := byte_u8 a 0; rw [hl] at this; exact this
  have he2 : ∀ k, spec_l00Number.e2 k a = some (a, 1) := fun k => by
    unfold spec_l00Number.e2 spec_l00Number.e1
    rw [if_pos (by omega), if_pos (by omega), if_pos (by omega), hb, decide_eq_false (by omega)]
    rfl
  have hlen : (c :: r).length = a.size := by rw [hsz]; rfl
  by_cases h18 : a.size ≤ 18
  · have he3 : ∀ k, spec_l00Number.e3 k a 1 = some (decide ((c :: r).head? = some 48) && decide (1 < (c :: r).length)) := fun k => by
      unfold spec_l00Number.e3
      rw [if_neg (by omega), if_neg (by omega), if_pos (by omega), if_pos (by omega), hb, hlen]
      by_cases h48 : (c.toNat : Int) = 48
      · have hc48 : c = 48 := UInt8.toNat_inj.1 (by show c.toNat = 48; omega)
        rw [if_pos h48, hc48]
        by_cases h1 : 1 < a.size
        · rw [if_pos (by omega), decide_eq_true h1]; rfl
        · rw [if_neg (by omega), decide_eq_false h1]; rfl
      · rw [if_neg h48]
        have : ¬ ((c :: r).head? = some 48) := by
          intro h
          have h2 : c = 48 := Option.some.inj h
          rw [h2] at h48
          exact h48 rfl
        rw [decide_eq_false this]; rfl
    have hL := snumber_loop a h18 a.size 0 0 (by omega) (by decide)
    rw [List.drop_zero, hl] at hL
    unfold spec_l00Number.f
    refine ev_bind _ (ev_of he2) ?_
    simp only
    refine ev_bind _ (ev_of he3) ?_
    unfold numU
    rw [decide_eq_true (show (c :: r).length ≤ 18 by omega), Bool.and_true]
    cases hz : (decide ((c :: r).head? = some 48) && decide (1 < (c :: r).length))
    · refine ev_neg (by simp) ?_
      unfold spec_l00Number.e6
      refine ev_bind _ hL ?_
      by_cases hd : (c :: r).all digU = true
      · rw [if_pos hd, hd, if_pos (by rfl)]
        refine ev_of fun k => ?_
        obtain ⟨_, h2⟩ := parse_ok (c :: r) 0 0 hd (by decide) (by omega)
        have hp : (10 : Nat) ^ (0 + (c :: r).length) ≤ 10 ^ 18 := Nat.pow_le_pow_right (by decide) (by omega)
        have hp18 : (10 : Nat) ^ 18 = 1000000000000000000 := by decide
        simp only
        rw [w64_id (by omega) (by omega), Int.one_mul]
      · rw [if_neg hd]
        rw [Bool.not_eq_true] at hd
        rw [hd, if_neg (by simp)]
        exact ev_some
    · refine ev_pos rfl ?_
      rw [if_neg (by simp)]
      exact ev_some
  · have he3 : ∀ k, spec_l00Number.e3 k a 1 = some true := fun k => by
      unfold spec_l00Number.e3
      rw [if_neg (by omega), if_pos (by omega)]
    unfold spec_l00Number.f
    refine ev_bind _ (ev_of he2) ?_
    simp only
    refine ev_bind _ (ev_of he3) (ev_pos rfl ?_)
    unfold numU
    rw [decide_eq_false (show ¬ (c :: r).length ≤ 18 by omega)]
    rw [if_neg (by simp)]
    exact ev_some
end Go.Proofs.YtgiiholpgpfgkaaGreatDoor.E
