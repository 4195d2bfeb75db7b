/- Two scanners along one text: bytes, remarks, blanks, words. The program's and the reference's loops as one function each. -/
import Derived.Test.YtgiiholpgpfgkaaGreatDoorOpFnExactTokens
import Derived.Test.YtgiiholpgpfgkaaGreatDoorPlA
set_option linter.unusedVariables false
set_option linter.unusedSimpArgs false
namespace Go.Proofs.YtgiiholpgpfgkaaGreatDoor.E

/-! Bytes. -/
theorem bytesOf_length (a : ByteArray) : (bytesOf a).length = a.size := by simp only [bytesOf, List.length_map, Array.length_toList]; rfl
theorem bytesOf_get (a : ByteArray) (i : Nat) (h : i < a.size) : (bytesOf a)[i]'(by rw [bytesOf_length]; exact h) = byteAt a i := by
  have hi2 : i < a.data.toList.length := by simpa using h
  simp only [bytesOf, byteAt, List.getElem_map, Int.toNat_natCast, List.getD_eq_getElem?_getD, List.getElem?_eq_getElem hi2, Option.getD_some]
theorem u8_inj : ∀ {l m : List UInt8}, l.map (fun x => (x.toNat : Int)) = m.map (fun x => (x.toNat : Int)) → l = m
  | [], [], _ => rfl
  | a :: l, b :: m, h => by
    injection h with h1 h2
    rw [UInt8.toNat_inj.1 (Int.ofNat_inj.1 h1), u8_inj h2]
theorem bytes_inj {a b : ByteArray} (h : bytesOf a = bytesOf b) : a = b := by
  have h2 := u8_inj h
  cases a with | mk a => cases b with | mk b =>
    congr 1
    exact Array.toList_inj.1 h2
theorem bytes_cut (t : ByteArray) (a b : Nat) : bytesOf (t.extract a b) = ((bytesOf t).drop a).take (b - a) := by
  unfold bytesOf
  rw [Lib.extract_data]
  simp [List.map_take, List.map_drop]
theorem bytes_tail (t : ByteArray) (a : Nat) : bytesOf (t.extract a t.size) = (bytesOf t).drop a := by
  rw [bytes_cut]
  exact List.take_of_length_le (by rw [List.length_drop, bytesOf_length]; exact Nat.le_refl _)
theorem cut_size (t : ByteArray) {a b : Nat} (h : b ≤ t.size) : (t.extract a b).size = b - a := by
  rw [← bytesOf_length, bytes_cut, List.length_take, List.length_drop, bytesOf_length]; omega
theorem cut_cut (t : ByteArray) {a m : Nat} (h : a + m ≤ t.size) : (t.extract a t.size).extract 0 m = t.extract a (a + m) := by
  apply bytes_inj
  rw [bytes_cut, bytes_tail, bytes_cut, List.drop_zero]
  congr 1
  omega
theorem byte_range (t : ByteArray) (i : Int) : 0 ≤ byteAt t i ∧ byteAt t i < 256 := by
  unfold byteAt
  have := (t.data.toList.getD i.toNat 0).toNat_lt
  omega
theorem byte_getD (t : ByteArray) (i : Nat) : byteAt t (i : Int) = (bytesOf t).getD i 0 := by
  unfold byteAt bytesOf
  rw [Int.toNat_natCast]
  simp only [List.getD_eq_getElem?_getD, List.getElem?_map]
  cases t.data.toList[i]? <;> rfl
theorem byte_tail (t : ByteArray) (a i : Nat) : byteAt (t.extract a t.size) (i : Int) = byteAt t ((a + i : Nat) : Int) := by
  rw [byte_getD, byte_getD, bytes_tail]
  simp [List.getD_eq_getElem?_getD, List.getElem?_drop]
theorem drop_cons2 (t : ByteArray) {q : Nat} (h : q < t.size) : (bytesOf t).drop q = byteAt t q :: (bytesOf t).drop (q + 1) := by
  rw [List.drop_eq_getElem_cons (by rw [bytesOf_length]; exact h), bytesOf_get t q h]
theorem two {t : ByteArray} {q : Nat} (h : q + 2 ≤ t.size) (x y : UInt8) : (t.extract q (q + 2) = (⟨#[x, y]⟩ : ByteArray)) ↔ byteAt t q = x.toNat ∧ byteAt t ((q + 1 : Nat) : Int) = y.toNat := by
  have e : bytesOf (t.extract q (q + 2)) = [byteAt t q, byteAt t ((q + 1 : Nat) : Int)] := by
    rw [bytes_cut, drop_cons2 t (by omega), drop_cons2 t (by omega), show q + 2 - q = 2 by omega]
    rfl
  have e2 : bytesOf (⟨#[x, y]⟩ : ByteArray) = [(x.toNat : Int), (y.toNat : Int)] := rfl
  constructor
  · intro h
    rw [h, e2] at e
    injection e with e3 e4
    injection e4 with e4 _
    exact ⟨e3.symm, e4.symm⟩
  · rintro ⟨h1, h2⟩
    apply bytes_inj
    rw [e, e2, h1, h2]
theorem w64_2 {q : Nat} (h : q < 9000000) : w64 ((q : Int) + 2) = ((q + 2 : Nat) : Int) := by rw [w64_id (by omega) (by omega)]; rfl
theorem w64_1 {q : Nat} (h : q < 9000000) : w64 ((q : Int) + 1) = ((q + 1 : Nat) : Int) := by rw [w64_id (by omega) (by omega)]; rfl

/-! Remarks. -/
/-- How many bytes the rest of a remark has; none if it does not end. -/
def rem (d : Nat) : List Int → Option Nat
  | a :: b :: r => if a = 40 ∧ b = 42 then (rem (d + 1) r).map (· + 2) else if a = 42 ∧ b = 41 then (if d ≤ 1 then some 2 else (rem (d - 1) r).map (· + 2)) else (rem d (b :: r)).map (· + 1)
  | _ => none
theorem rem_le : ∀ (d : Nat) (l : List Int) (n : Nat), rem d l = some n → 2 ≤ n ∧ n ≤ l.length
  | d, a :: b :: r, n, h => by
    unfold rem at h
    split at h
    · obtain ⟨m, h1, rfl⟩ := Option.map_eq_some_iff.1 h
      have := rem_le _ r m h1
      simp only [List.length_cons]; omega
    · split at h
      · split at h
        · obtain rfl := Option.some.inj h
          simp only [List.length_cons]; omega
        · obtain ⟨m, h1, rfl⟩ := Option.map_eq_some_iff.1 h
          have := rem_le _ r m h1
          simp only [List.length_cons]; omega
      · obtain ⟨m, h1, rfl⟩ := Option.map_eq_some_iff.1 h
        have := rem_le _ (b :: r) m h1
        simp only [List.length_cons] at *; omega
  | d, [], n, h => by simp [rem] at h
  | d, [a], n, h => by simp [rem] at h
theorem srem_step (b0 : S65b163) (h : b0.f0.size ≤ 4000) {q d : Nat} (hq : q + 2 ≤ b0.f0.size) (hd : 1 ≤ d) (hdq : d ≤ 9000) (k : Nat) : spec_l01Scanner__remark_2.l2 (k + 1) b0 d q =
    if byteAt b0.f0 q = 40 ∧ byteAt b0.f0 ((q + 1 : Nat) : Int) = 42 then spec_l01Scanner__remark_2.l2 k b0 ((d + 1 : Nat) : Int) ((q + 2 : Nat) : Int)
    else if byteAt b0.f0 q = 42 ∧ byteAt b0.f0 ((q + 1 : Nat) : Int) = 41 then (if d ≤ 1 then some (.inl (((q + 2 : Nat) : Int), b0.f3, b0.f4)) else spec_l01Scanner__remark_2.l2 k b0 ((d - 1 : Nat) : Int) ((q + 2 : Nat) : Int))
    else spec_l01Scanner__remark_2.l2 k b0 d ((q + 1 : Nat) : Int) := by
  rw [spec_l01Scanner__remark_2.l2.eq_2, w64_1 (by omega), if_pos (by omega), if_pos (by omega), w64_2 (by omega), if_pos (by omega), if_pos (by omega)]
  unfold spec_l01Scanner__remark_2.e1
  rw [w64_2 (by omega), w64_1 (by omega), w64_1 (by omega)]
  simp only [Int.toNat_natCast, two hq]
  by_cases c1 : byteAt b0.f0 q = 40 ∧ byteAt b0.f0 ((q + 1 : Nat) : Int) = 42
  · rw [if_pos c1, if_pos (by exact c1)]
    simp only [Option.bind_some]
    rw [if_neg (by omega)]
  · rw [if_neg c1, if_neg (by exact c1)]
    by_cases c2 : byteAt b0.f0 q = 42 ∧ byteAt b0.f0 ((q + 1 : Nat) : Int) = 41
    · rw [if_pos c2, if_pos (by exact c2), w64_id (by omega) (by omega)]
      simp only [Option.bind_some]
      by_cases c3 : d ≤ 1
      · rw [if_pos c3, if_pos (by omega)]
      · rw [if_neg c3, if_neg (by omega), show ((d : Int) - 1) = ((d - 1 : Nat) : Int) by omega]
    · rw [if_neg c2, if_neg (by exact c2)]
      simp only [Option.bind_some]
      rw [if_neg (by omega)]
theorem srem_loop (b0 : S65b163) (h : b0.f0.size ≤ 4000) : ∀ (m q d : Nat), q + m = b0.f0.size → 1 ≤ d → d ≤ q + 1 → ∃ y : Int,
    Evr (fun k => spec_l01Scanner__remark_2.l2 k b0 d q) (match rem d ((bytesOf b0.f0).drop q) with | some n => .inl (((q + n : Nat) : Int), b0.f3, b0.f4) | none => .inr y) := by
  intro m
  induction m using Nat.strongRecOn with
  | _ m ih =>
    intro q d hm hd hdq
    by_cases hq : q + 2 ≤ b0.f0.size
    · rw [drop_cons2 b0.f0 (q := q) (by omega), drop_cons2 b0.f0 (q := q + 1) (by omega)]
      unfold rem
      by_cases c1 : byteAt b0.f0 q = 40 ∧ byteAt b0.f0 ((q + 1 : Nat) : Int) = 42
      · obtain ⟨y, hy⟩ := ih (m - 2) (by omega) (q + 2) (d + 1) (by omega) (by omega) (by omega)
        refine ⟨y, ev_step _ (fun k => (srem_step b0 h hq hd (by omega) k).trans (if_pos c1)) (ev_eq hy ?_)⟩
        rw [if_pos c1]
        cases rem (d + 1) ((bytesOf b0.f0).drop (q + 2)) with
        | none => rfl
        | some n => simp only [Option.map_some]; rw [show q + 2 + n = q + (n + 2) by omega]
      · rw [if_neg c1]
        by_cases c2 : byteAt b0.f0 q = 42 ∧ byteAt b0.f0 ((q + 1 : Nat) : Int) = 41
        · rw [if_pos c2]
          by_cases c3 : d ≤ 1
          · refine ⟨0, ev_step _ (fun k => ((srem_step b0 h hq hd (by omega) k).trans (if_neg c1)).trans ((if_pos c2).trans (if_pos c3))) ?_⟩
            rw [if_pos c3]
            exact ev_some
          · obtain ⟨y, hy⟩ := ih (m - 2) (by omega) (q + 2) (d - 1) (by omega) (by omega) (by omega)
            refine ⟨y, ev_step _ (fun k => ((srem_step b0 h hq hd (by omega) k).trans (if_neg c1)).trans ((if_pos c2).trans (if_neg c3))) (ev_eq hy ?_)⟩
            rw [if_neg c3]
            cases rem (d - 1) ((bytesOf b0.f0).drop (q + 2)) with
            | none => rfl
            | some n => simp only [Option.map_some]; rw [show q + 2 + n = q + (n + 2) by omega]
        · obtain ⟨y, hy⟩ := ih (m - 1) (by omega) (q + 1) d (by omega) (by omega) (by omega)
          refine ⟨y, ev_step _ (fun k => ((srem_step b0 h hq hd (by omega) k).trans (if_neg c1)).trans (if_neg c2)) (ev_eq hy ?_)⟩
          rw [if_neg c2, drop_cons2 b0.f0 (q := q + 1) (by omega)]
          cases rem d (byteAt b0.f0 ((q + 1 : Nat) : Int) :: (bytesOf b0.f0).drop (q + 1 + 1)) with
          | none => rfl
          | some n => simp only [Option.map_some]; rw [show q + 1 + n = q + (n + 1) by omega]
    · have e : rem d ((bytesOf b0.f0).drop q) = none := by
        have hl : ((bytesOf b0.f0).drop q).length ≤ 1 := by rw [List.length_drop, bytesOf_length]; omega
        match (bytesOf b0.f0).drop q, hl with
        | [], _ => rfl
        | [a], _ => rfl
      rw [e]
      refine ⟨q, ev_step _ (fun k => ?_) ev_some⟩
      rw [spec_l01Scanner__remark_2.l2.eq_2, w64_1 (by omega), if_neg (by omega)]
/-- A whole remark: its bytes from the sign at its begin on. -/
def remark (l : List Int) : Option Nat := (rem 1 (l.drop 2)).map (· + 2)
theorem srem_ev (t : ByteArray) (h : t.size ≤ 4000) {p : Nat} (out : List STok) (hp : p + 2 ≤ t.size) (h1 : byteAt t p = 40) (h2 : byteAt t ((p + 1 : Nat) : Int) = 42) :
    Evr (fun k => spec_l01Scanner__remark_2.f k ⟨t, p, out, 0, 0⟩) (match remark ((bytesOf t).drop p) with | some n => (((p + n : Nat) : Int), 0, 0) | none => ((t.size : Int), 4, (p : Int))) := by
  have hs : ∀ k, spec_l01Scanner__remark_2.l2 (k + 1) ⟨t, p, out, 0, 0⟩ 0 p = spec_l01Scanner__remark_2.l2 k ⟨t, p, out, 0, 0⟩ ((1 : Nat) : Int) ((p + 2 : Nat) : Int) := fun k => by
    rw [spec_l01Scanner__remark_2.l2.eq_2, w64_1 (by omega)]
    simp only
    rw [if_pos (by omega), if_pos (by omega), w64_2 (by omega), if_pos (by omega), if_pos (by omega)]
    unfold spec_l01Scanner__remark_2.e1
    simp only
    rw [w64_2 (by omega)]
    simp only [Int.toNat_natCast, two hp]
    rw [if_pos (by exact ⟨h1, h2⟩)]
    rfl
  obtain ⟨y, hy⟩ := srem_loop ⟨t, p, out, 0, 0⟩ h (t.size - (p + 2)) (p + 2) 1 (by show p + 2 + (t.size - (p + 2)) = t.size; omega) (by omega) (by omega)
  have h3 := ev_step (g := fun k => spec_l01Scanner__remark_2.l2 k ⟨t, p, out, 0, 0⟩ 0 p) _ hs hy
  simp only at h3
  unfold spec_l01Scanner__remark_2.f spec_l01Scanner__remark_2.e3 remark
  rw [List.drop_drop]
  refine ev_bind _ h3 ?_
  cases rem 1 ((bytesOf t).drop (p + 2)) with
  | none => exact ev_of fun k => rfl
  | some n => simp only [Option.map_some]; exact ev_of fun k => by rw [show p + 2 + n = p + (n + 2) by omega]
theorem irem_step (a0 : ByteArray) (h : a0.size ≤ 4000) {q d : Nat} (hq : q + 2 ≤ a0.size) (hdq : d ≤ 9000) (k : Nat) : impl_remark.l2 (k + 1) a0 d q =
    if byteAt a0 q = 40 ∧ byteAt a0 ((q + 1 : Nat) : Int) = 42 then impl_remark.l2 k a0 ((d + 1 : Nat) : Int) ((q + 2 : Nat) : Int)
    else if byteAt a0 q = 42 ∧ byteAt a0 ((q + 1 : Nat) : Int) = 41 then (if d = 1 then some (.inl (((q + 2 : Nat) : Int))) else impl_remark.l2 k a0 ((d : Int) - 1) ((q + 2 : Nat) : Int))
    else impl_remark.l2 k a0 d ((q + 1 : Nat) : Int) := by
  rw [impl_remark.l2.eq_2, w64_1 (by omega), if_pos (by omega)]
  unfold impl_remark.e1
  rw [w64_2 (by omega), if_pos (by omega), if_pos (by omega), if_pos (by omega), w64_1 (by omega), w64_1 (by omega), w64_id (n := (d : Int) - 1) (by omega) (by omega)]
  simp only [Int.toNat_natCast, two hq]
  have e : w64 (((q + 1 : Nat) : Int) + 1) = ((q + 2 : Nat) : Int) := w64_1 (by omega)
  by_cases c1 : byteAt a0 q = 40 ∧ byteAt a0 ((q + 1 : Nat) : Int) = 42
  · rw [if_pos c1, if_pos (by exact c1)]
    simp only [Option.bind_some]
    rw [e]
  · rw [if_neg c1, if_neg (by exact c1)]
    by_cases c2 : byteAt a0 q = 42 ∧ byteAt a0 ((q + 1 : Nat) : Int) = 41
    · rw [if_pos c2, if_pos (by exact c2)]
      by_cases c3 : d = 1
      · rw [if_pos c3, if_pos (by omega), e]
        rfl
      · rw [if_neg c3, if_neg (by omega)]
        simp only [Option.bind_some]
        rw [e]
    · rw [if_neg c2, if_neg (by exact c2)]
      simp only [Option.bind_some]
      rw [w64_1 (by omega)]
theorem irem_loop (a0 : ByteArray) (h : a0.size ≤ 4000) : ∀ (m q d : Nat), q + m = a0.size → 1 ≤ d → d ≤ q + 1 →
    Evr (fun k => impl_remark.l2 k a0 d q) (match rem d ((bytesOf a0).drop q) with | some n => .inl ((q + n : Nat) : Int) | none => .inr ()) := by
  intro m
  induction m using Nat.strongRecOn with
  | _ m ih =>
    intro q d hm hd hdq
    by_cases hq : q + 2 ≤ a0.size
    · rw [drop_cons2 a0 (q := q) (by omega), drop_cons2 a0 (q := q + 1) (by omega)]
      unfold rem
      by_cases c1 : byteAt a0 q = 40 ∧ byteAt a0 ((q + 1 : Nat) : Int) = 42
      · have hy := ih (m - 2) (by omega) (q + 2) (d + 1) (by omega) (by omega) (by omega)
        refine ev_step _ (fun k => (irem_step a0 h hq (by omega) k).trans (if_pos c1)) (ev_eq hy ?_)
        rw [if_pos c1]
        cases rem (d + 1) ((bytesOf a0).drop (q + 2)) with
        | none => rfl
        | some n => simp only [Option.map_some]; rw [show q + 2 + n = q + (n + 2) by omega]
      · rw [if_neg c1]
        by_cases c2 : byteAt a0 q = 42 ∧ byteAt a0 ((q + 1 : Nat) : Int) = 41
        · rw [if_pos c2]
          by_cases c3 : d = 1
          · refine ev_step _ (fun k => ((irem_step a0 h hq (by omega) k).trans (if_neg c1)).trans ((if_pos c2).trans (if_pos c3))) ?_
            rw [if_pos (by omega)]
            exact ev_some
          · have hy := ih (m - 2) (by omega) (q + 2) (d - 1) (by omega) (by omega) (by omega)
            rw [show ((d - 1 : Nat) : Int) = (d : Int) - 1 by omega] at hy
            refine ev_step _ (fun k => ((irem_step a0 h hq (by omega) k).trans (if_neg c1)).trans ((if_pos c2).trans (if_neg c3))) (ev_eq hy ?_)
            rw [if_neg (by omega)]
            cases rem (d - 1) ((bytesOf a0).drop (q + 2)) with
            | none => rfl
            | some n => simp only [Option.map_some]; rw [show q + 2 + n = q + (n + 2) by omega]
        · have hy := ih (m - 1) (by omega) (q + 1) d (by omega) (by omega) (by omega)
          refine ev_step _ (fun k => ((irem_step a0 h hq (by omega) k).trans (if_neg c1)).trans (if_neg c2)) (ev_eq hy ?_)
          rw [if_neg c2, drop_cons2 a0 (q := q + 1) (by omega)]
          cases rem d (byteAt a0 ((q + 1 : Nat) : Int) :: (bytesOf a0).drop (q + 1 + 1)) with
          | none => rfl
          | some n => simp only [Option.map_some]; rw [show q + 1 + n = q + (n + 1) by omega]
    · have e : rem d ((bytesOf a0).drop q) = none := by
        have hl : ((bytesOf a0).drop q).length ≤ 1 := by rw [List.length_drop, bytesOf_length]; omega
        match (bytesOf a0).drop q, hl with
        | [], _ => rfl
        | [a], _ => rfl
      rw [e]
      refine ev_step _ (fun k => ?_) ev_some
      rw [impl_remark.l2.eq_2, w64_1 (by omega), if_neg (by omega)]
theorem irem_ev (a0 : ByteArray) (h : a0.size ≤ 4000) (hp : 2 ≤ a0.size) (h1 : byteAt a0 0 = 40) (h2 : byteAt a0 1 = 42) :
    Evr (fun k => impl_remark.f k a0) (match remark (bytesOf a0) with | some n => (n : Int) | none => 0) := by
  have hs : ∀ k, impl_remark.l2 (k + 1) a0 0 0 = impl_remark.l2 k a0 ((1 : Nat) : Int) ((2 : Nat) : Int) := fun k =>
    (irem_step a0 h (q := 0) (d := 0) (by omega) (by omega) k).trans (if_pos ⟨h1, h2⟩)
  have hy := irem_loop a0 h (a0.size - 2) 2 1 (by omega) (by omega) (by omega)
  have h3 := ev_step (g := fun k => impl_remark.l2 k a0 0 0) _ hs hy
  unfold impl_remark.f impl_remark.e3 remark
  refine ev_bind _ h3 ?_
  cases rem 1 ((bytesOf a0).drop 2) with
  | none => exact ev_some
  | some n => simp only [Option.map_some]; exact ev_of fun k => by rw [show 2 + n = n + 2 by omega]
end Go.Proofs.YtgiiholpgpfgkaaGreatDoor.E
