/- Two scanners along one text: numbers to both; words; signs. -/
import Derived.Test.YtgiiholpgpfgkaaGreatDoorPlTk4FnExactTokens
set_option linter.unusedVariables false
set_option linter.unusedSimpArgs false
namespace Go.Proofs.YtgiiholpgpfgkaaGreatDoor.E
theorem cut_list (t : ByteArray) (p n : Nat) : (t.extract p (p + n)).data.toList = (t.data.toList.drop p).take n := by rw [Lib.extract_data, Nat.add_sub_cancel_left]
theorem wl_pos {c : Int} {l : List Int} (h : wordB c = true) : 1 ≤ wl (c :: l) := by rw [wl_cons, if_pos h]; omega
theorem wl_bound (t : ByteArray) {p : Nat} (hp : p ≤ t.size) : p + wl ((bytesOf t).drop p) ≤ t.size := by
  have := wl_le ((bytesOf t).drop p)
  rw [List.length_drop, bytesOf_length] at this
  omega
theorem wl_all (t : ByteArray) (p : Nat) : Nm.word ((t.data.toList.drop p).take (wl ((bytesOf t).drop p))) = true := by
  have key : ∀ (l : List UInt8), Nm.word (l.take (wl (l.map fun x => (x.toNat : Int)))) = true := by
    intro l
    induction l with
    | nil => simp [Nm.word]
    | cons c r ih =>
      rw [List.map_cons, wl_cons]
      by_cases hw : wordB (c.toNat : Int) = true
      · rw [if_pos hw, List.take_succ_cons]
        unfold Nm.word at ih ⊢
        rw [List.all_cons, ih, Bool.and_true]
        unfold wordB letterB digitB at hw
        unfold Nm.wordB
        simp only [Bool.or_eq_true, Bool.and_eq_true, decide_eq_true_eq] at hw ⊢
        omega
      · rw [if_neg hw]; rfl
  unfold bytesOf
  rw [← List.map_drop]
  exact key _
theorem inumeral (t : ByteArray) (h : t.size ≤ 4000) {p : Nat} (hp : p ≤ t.size) (k : Nat) : impl_numeral.f k (t.extract p (p + wl ((bytesOf t).drop p))) =
    some (⟨(Nm.res ((t.data.toList.drop p).take (wl ((bytesOf t).drop p)))).1, (Nm.res ((t.data.toList.drop p).take (wl ((bytesOf t).drop p)))).2.1, ⟨#[]⟩, 0⟩, (Nm.res ((t.data.toList.drop p).take (wl ((bytesOf t).drop p)))).2.2) := by
  unfold impl_numeral.f
  have hb := wl_bound t hp
  rw [cut_list, if_pos ⟨by rw [cut_size t hb]; omega, wl_all t p⟩]
theorem snum_ev2 (t : ByteArray) (h : t.size ≤ 4000) {p : Nat} (hp : p < t.size) (hd : digitB (byteAt t p) = true) (out : List STok) (ho : out.length ≤ 1200) (n : Nat) (hn : n = wl ((bytesOf t).drop p)) (l : List UInt8) (hl : l = (t.data.toList.drop p).take n) :
    Evr (fun k => spec_l01Scanner__number_2.f k ⟨t, p, out, 0, 0⟩) (if (Nm.res l).2.2 = true then addR ((p + n : Nat) : Int) out ⟨(Nm.res l).1, (Nm.res l).2.1, ⟨#[]⟩, p⟩ p else failR ((p + n : Nat) : Int) out p) := by
  have hb : p + n ≤ t.size := hn ▸ wl_bound t (by omega)
  have hn1 : 1 ≤ n := by
    rw [hn, drop_cons2 t hp]
    exact wl_pos (by unfold wordB; rw [hd, Bool.or_true])
  have hWl : (t.extract p (p + n)).data.toList = l := by rw [hl, cut_list]
  have hWs : (t.extract p (p + n)).size = n := by rw [cut_size t hb]; omega
  have h0 := snum_ev ⟨t, p, out, 0, 0⟩ h (p := p) (by show p ≤ t.size; omega)
  simp only at h0
  rw [← hn] at h0
  have hcut : t.extract (Int.toNat (p : Int)) (Int.toNat ((p + n : Nat) : Int)) = t.extract p (p + n) := by rw [Int.toNat_natCast, Int.toNat_natCast]
  obtain ⟨W, hW⟩ : ∃ W, W = t.extract p (p + n) := ⟨_, rfl⟩
  rw [← hW] at hWl hWs hcut
  have hll : l.length = n := by rw [← hWl, ← Lib.size_eq, hWs]
  obtain ⟨c, r, hcr⟩ : ∃ c r, l = c :: r := by
    cases l with
    | nil => simp at hll; omega
    | cons c r => exact ⟨c, r, rfl⟩
  have hc : digU c = true := by
    have h1 : byteAt t p = (c.toNat : Int) := by
      rw [byte_u8]
      have h2 : t.data.toList.drop p = t.data.toList.getD p 0 :: t.data.toList.drop (p + 1) := drop_u8 t hp
      rw [h2] at hl
      obtain ⟨m, rfl⟩ : ∃ m, n = m + 1 := ⟨n - 1, by omega⟩
      rw [List.take_succ_cons, hcr] at hl
      injection hl with h3 _
      rw [h3]
    rw [h1] at hd
    unfold digitB at hd
    simp only [Bool.and_eq_true, decide_eq_true_eq] at hd
    exact digU_iff.2 (by omega)
  obtain ⟨d, x, hdx⟩ : ∃ d x, l = d ++ [x] := by
    have hne : l ≠ [] := by rw [hcr]; simp
    exact ⟨l.dropLast, l.getLast hne, (List.dropLast_concat_getLast hne).symm⟩
  have hdl : d.length = n - 1 := by rw [hdx] at hll; simp at hll; omega
  have hlast : byteAt W ((n - 1 : Nat) : Int) = (x.toNat : Int) := by
    rw [byte_u8, hWl, hdx, List.getD_eq_getElem?_getD, List.getElem?_append_right (by omega), hdl, Nat.sub_self]
    rfl
  have hrn := rn_eq c r hc
  unfold spec_l01Scanner__number_2.f
  simp only
  refine ev_bind _ h0 (ev_pos (by omega) (ev_pos (by omega) (ev_pos (by omega) ?_)))
  have he9 : ∀ k, spec_l01Scanner__number_2.e9 k ⟨t, p, out, 0, 0⟩ ((p + n : Nat) : Int) = if (x.toNat : Int) = 88 then ((spec_l01Scanner__number_2.e4 k ⟨t, p, out, 0, 0⟩ ((p + n : Nat) : Int)).bind fun y35 => (spec_l01Scanner__number_2.e7 k ⟨t, p, out, 0, 0⟩ ((p + n : Nat) : Int) y35).bind fun v => match v with | (y68, y69) => (spec_l01Scanner__number_2.e8 k y68 y69).bind fun y75 => if y75 = true then ((spec_l01Scanner__fail_2.f k 4 p (⟨t, ((p + n : Nat) : Int), out, 0, 0⟩ : S65b163)).bind fun r79 => some (.inl (((p + n : Nat) : Int), out, r79.1, r79.2))) else ((spec_l01Scanner__add_2.f k 4 y68 (⟨#[]⟩ : ByteArray) p (⟨t, ((p + n : Nat) : Int), out, 0, 0⟩ : S65b163)).bind fun r81 => some (.inl (((p + n : Nat) : Int), r81.1, r81.2.1, r81.2.2)))) else (some (.inr ())) := fun k => by
    unfold spec_l01Scanner__number_2.e9
    simp only
    rw [hcut, hWs, show w64 ((n : Int) - 1) = ((n - 1 : Nat) : Int) by rw [w64_id (by omega) (by omega)]; omega, if_pos (by omega), if_pos (by omega), hlast]
  by_cases hx : x = 88
  · have hx2 : (x.toNat : Int) = 88 := by rw [hx]; rfl
    have hrn0 : Nm.rn (d ++ [88]) = none := by
      rw [← hx, ← hdx, hcr, hrn, ← hcr, hdx, hx]
      rw [if_neg]
      unfold numU
      rw [List.all_append]
      simp [digU]
    have he4 : ∀ k, spec_l01Scanner__number_2.e4 k ⟨t, p, out, 0, 0⟩ ((p + n : Nat) : Int) = some (decide (1 < n) && decide (n < 9)) := fun k => by
      unfold spec_l01Scanner__number_2.e4
      simp only
      rw [hcut, hWs]
      by_cases h1 : 1 < n
      · rw [if_pos (by omega), decide_eq_true h1, Bool.true_and]
        congr 1
        exact decide_eq_decide.2 (by omega)
      · rw [if_neg (by omega), decide_eq_false h1]; rfl
    obtain ⟨c', k1, k2⟩ := hex_loop ⟨t, p, out, 0, 0⟩ ((p + n : Nat) : Int) W hcut (by omega) (n - 1) 0 0 (decide (1 < n) && decide (n < 9)) (by omega)
    have hd0 : (W.data.toList.drop 0).take (n - 1) = d := by rw [List.drop_zero, hWl, hdx, ← hdl]; simp
    rw [hd0] at k1 k2
    have hok : ((decide (1 < n) && decide (n < 9)) && d.all hexU) = hexOK d := by
      unfold hexOK
      rw [hdl]
      congr 1
      congr 1
      · exact decide_eq_decide.2 (by omega)
      · exact decide_eq_decide.2 (by omega)
    rw [hok] at k1
    refine ev_congr _ (fun k => by rw [he9, if_pos hx2]) ?_
    rw [hdx, hx]
    cases hh : hexOK d
    · rw [hh] at k1
      rw [res_nohex hrn0 hh, if_neg (by simp)]
      refine ev_bind (.inl (failR ((p + n : Nat) : Int) out p)) ?_ ev_some
      refine ev_bind _ (ev_of he4) ?_
      unfold spec_l01Scanner__number_2.e7
      refine ev_bind _ k1 ?_
      refine ev_bind true (ev_of fun k => rfl) (ev_pos rfl ?_)
      exact ev_of fun k => rfl
    · rw [hh] at k1
      have hh2 := hh
      unfold hexOK at hh2
      simp only [Bool.and_eq_true, decide_eq_true_eq] at hh2
      obtain ⟨m, e1, e2⟩ := k2 (by omega) hh2.2 0 rfl (by decide)
      rw [res_hex hrn0 hh e1]
      subst e2
      cases hch : Nm.chOK m
      · rw [if_neg (by simp)]
        refine ev_bind (.inl (failR ((p + n : Nat) : Int) out p)) ?_ ev_some
        refine ev_bind _ (ev_of he4) ?_
        unfold spec_l01Scanner__number_2.e7
        refine ev_bind _ k1 ?_
        refine ev_bind true (ev_of fun k => ?_) (ev_pos rfl ?_)
        · unfold spec_l01Scanner__number_2.e8
          rw [if_pos rfl, charOK_nat, hch]; rfl
        · exact ev_of fun k => rfl
      · rw [if_pos rfl]
        refine ev_bind (.inl (addR ((p + n : Nat) : Int) out ⟨4, (m : Int), ⟨#[]⟩, p⟩ p)) ?_ ev_some
        refine ev_bind _ (ev_of he4) ?_
        unfold spec_l01Scanner__number_2.e7
        refine ev_bind _ k1 ?_
        refine ev_bind false (ev_of fun k => ?_) (ev_neg (by simp) ?_)
        · unfold spec_l01Scanner__number_2.e8
          rw [if_pos rfl, charOK_nat, hch]; rfl
        · refine ev_of fun k => ?_
          have := add_eq k 4 (m : Int) ⟨#[]⟩ p t ((p + n : Nat) : Int) out ho
          cases hq : spec_l01Scanner__add_2.f k 4 (m : Int) ⟨#[]⟩ p ⟨t, ((p + n : Nat) : Int), out, 0, 0⟩ with
          | none => rw [hq] at this; cases this
          | some r =>
            rw [hq] at this
            simp only [Option.bind_some] at this ⊢
            rw [Option.some.inj this]
  · have hx2 : ¬ (x.toNat : Int) = 88 := fun h => hx (UInt8.toNat_inj.1 (by show x.toNat = 88; omega))
    refine ev_bind (.inr ()) (ev_of fun k => by rw [he9, if_neg hx2]) ?_
    have hs := snumber_ev W c r (hWl.trans hcr) hc
    simp only
    rw [hcut]
    refine ev_bind _ hs ?_
    rw [← hcr] at hrn ⊢
    by_cases hnu : numU l = true
    · rw [if_pos hnu] at hrn ⊢
      rw [res_num hrn, if_pos rfl]
      refine ev_pos rfl (ev_of fun k => add_eq k 3 _ ⟨#[]⟩ p t ((p + n : Nat) : Int) out ho)
    · rw [if_neg hnu] at hrn ⊢
      have : (Nm.res l).2.2 = false := by rw [hdx] at hrn ⊢; exact res_no hrn hx
      rw [this, if_neg (by simp)]
      exact ev_neg (by simp) (ev_of fun k => fail_eq k p t ((p + n : Nat) : Int) out)
end Go.Proofs.YtgiiholpgpfgkaaGreatDoor.E
