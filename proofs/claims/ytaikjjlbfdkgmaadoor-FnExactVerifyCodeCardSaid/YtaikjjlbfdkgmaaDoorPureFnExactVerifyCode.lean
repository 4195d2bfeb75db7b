import Derived.Test.YtaikjjlbfdkgmaaDoorPlW
import Derived.IntWalk
set_option linter.unusedVariables false
set_option linter.unusedSimpArgs false
namespace Go.Proofs.YtaikjjlbfdkgmaaDoor.V
open Go.Proofs.YtaikjjlbfdkgmaaDoor.E

/-! The rows of -1. -/
theorem cp_rep {c m k : Nat} (hk : k ≤ c) (hk' : k ≤ m) (z : Int) : cpRow (List.replicate c (-1 : Int) ++ List.replicate m z) (List.replicate c (-1)) c k = List.replicate (c + k) (-1) ++ List.replicate (m - k) z := by
  have e1 : List.drop (c + k) (List.replicate c (-1 : Int) ++ List.replicate m z) = List.replicate (m - k) z := by
    rw [List.drop_append]
    simp
  unfold cpRow
  rw [List.take_append_of_le_length (by simp), List.take_of_length_le (by simp), List.take_replicate, Nat.min_eq_left hk, e1, ← List.append_assoc, List.replicate_append_replicate]
theorem rep_loop : ∀ (m c : Nat), 1 ≤ c → c + m ≤ 2000 → Evr (fun k => slices_Repeat___int_int.l2 k (List.replicate c (-1) ++ List.replicate m 0) (c : Int)) (List.replicate (c + m) (-1)) := by
  intro m
  induction m using Nat.strongRecOn with
  | ind m ih =>
    intro c hc hm
    refine ev_step _ (fun k => rfl) ?_
    have hl : (List.replicate c (-1 : Int) ++ List.replicate m 0).length = c + m := by simp
    simp only [slices_Repeat___int_int.l2, hl]
    by_cases h0 : m = 0
    · subst h0
      refine ev_neg (by omega) ?_
      simp only [List.replicate_zero, List.append_nil]
      exact ev_some
    · refine ev_pos (by omega) (ev_pos (by omega) (ev_pos (by omega) ?_))
      have e1 : List.take (Int.toNat ((c : Int) - 0)) (List.drop (Int.toNat 0) (List.replicate c (-1 : Int) ++ List.replicate m 0)) = List.replicate c (-1) := by
        rw [show Int.toNat 0 = 0 from rfl, List.drop_zero, show Int.toNat ((c : Int) - 0) = c by omega, List.take_append_of_le_length (by simp), List.take_of_length_le (by simp)]
      have e2 : Nat.min (List.take (Int.toNat ((c : Int) - 0)) (List.drop (Int.toNat 0) (List.map eI (List.replicate c (-1 : Int) ++ List.replicate m 0)))).length (Int.toNat (((List.map eI (List.replicate c (-1 : Int) ++ List.replicate m 0)).length : Int) - c)) = min c m := by
        have : Int.toNat ((c : Int) - 0) = c := by omega
        simp only [List.length_take, List.length_drop, List.length_map, hl, this]
        show min (min c _) _ = _
        have : Int.toNat 0 = 0 := rfl
        omega
      rw [e1, e2]
      have e3 : w64 ((c : Int) + ((min c m : Nat) : Int)) = ((c + min c m : Nat) : Int) := by rw [w64_id (by omega) (by omega)]; omega
      rw [e3, show Int.toNat (c : Int) = c by omega, cp_rep (by omega) (by omega)]
      have := ih (m - min c m) (by omega) (c + min c m) (by omega) (by omega)
      exact ev_eq this (by congr 1; omega)
theorem repeat_ev (n : Nat) (h1 : 1 ≤ n) (h2 : n ≤ 2000) : Evr (fun k => slices_Repeat___int_int.f k [-1] (n : Int)) (List.replicate n (-1)) := by
  unfold slices_Repeat___int_int.f
  refine ev_neg (by omega) ?_
  have hw : ∀ m : Nat, m ≤ 2000 → IntKind.u64.wrap (m : Int) = m := fun m hm => IntWalk.u64_in _ (by omega)
  refine ev_bind ((0 : Int), (n : Int)) (ev_of fun k => ?_) (ev_bind false (ev_of fun k => ?_) ?_)
  · rw [show ((([-1] : List Int).length : Nat) : Int) = ((1 : Nat) : Int) from rfl, hw 1 (by omega), hw n h2]
    unfold math_bits_Mul.f
    rw [if_pos (by omega)]
    congr 2
    · simp only [Int.toNat_natCast]; omega
    · simp only [Int.toNat_natCast]; omega
  · unfold slices_Repeat___int_int.e1
    simp; omega
  · have hn : w64 (n : Int) = n := w64_nat (by omega)
    simp only [Bool.false_eq_true, if_false, hn]
    refine ev_pos (by omega) (ev_pos (by omega) (ev_bind _ ?_ ev_some))
    unfold slices_Repeat___int_int.e3
    simp only [hn, Int.toNat_natCast]
    have e1 : Nat.min (List.map eI ([-1] : List Int)).length ((List.map eI (List.replicate n (0 : Int))).length) = 1 := by
      simp only [List.length_map, List.length_replicate, List.length_singleton]
      show min 1 n = 1
      omega
    rw [e1]
    have e2 : cpRow (List.replicate n (0 : Int)) [-1] 0 1 = List.replicate 1 (-1) ++ List.replicate (n - 1) 0 := by
      simp [cpRow, List.drop_replicate]
    rw [e2]
    have := rep_loop (n - 1) 1 (by omega) (by omega)
    exact ev_eq this (by congr 1; omega)
theorem l4_ev (c : S1) (hn : c.f4.length ≤ 2000) : ∀ (m j : Nat), j + m = c.f4.length → Evr (fun k => spec_l04Verify.l4 k c (List.replicate j (-1)) (j : Int)) (List.replicate c.f4.length (-1))
  | 0, j, hj => by
    obtain rfl : j = c.f4.length := by omega
    exact ev_step _ (fun k => rfl) (ev_neg (by omega) ev_some)
  | m + 1, j, hj => by
    refine ev_step _ (fun k => rfl) (ev_pos (by omega) (ev_pos (by simp; omega) ?_))
    rw [w64_next (by omega), ← List.replicate_succ']
    exact l4_ev c hn m (j + 1) (by omega)
theorem good_start {n : Nat} (h : 1 ≤ n) : Good n ((List.replicate n (-1 : Int)).set (Int.toNat 0) 0) :=
  Good.set ⟨by simp, fun v hv => by have := List.eq_of_mem_replicate hv; omega⟩ _ (by omega) (by omega)

/-! The header. -/
def hdrB (c : S1) : Bool :=
  btw c.f4.length 1 2000 && btw c.f1 0 20 && btw c.f2 c.f1 2000 && btw c.f3 0 1 && (modB c.f0 || (decide (c.f0 = e0) && (decide (c.f2 = 0) && decide (c.f3 = 0))))
theorem shdr_ev (c : S1) : Evr (fun k => spec_l04Verify.e1 k c) (!hdrB c) := by
  unfold spec_l04Verify.e1 hdrB btw
  simp only [in_eq, Option.bind_some]
  by_cases h1 : (c.f4.length : Int) = 0
  · simp only [h1, if_true]
    exact ev_some
  rw [decide_eq_true (by omega : (1 : Int) ≤ c.f4.length), Bool.true_and]
  refine ev_neg h1 (ev_ite (fun h2 => ?_) (fun h2 => ?_))
  · rw [decide_eq_false (by omega : ¬ (c.f4.length : Int) ≤ 2000)]
    exact ev_some
  rw [decide_eq_true (by omega : (c.f4.length : Int) ≤ 2000), Bool.true_and]
  cases decide (0 ≤ c.f1) && decide (c.f1 ≤ 20)
  · exact ev_some
  simp only [if_true, Bool.true_and]
  cases decide (c.f1 ≤ c.f2) && decide (c.f2 ≤ 2000)
  · exact ev_some
  simp only [if_true, Bool.true_and]
  cases decide (0 ≤ c.f3) && decide (c.f3 ≤ 1)
  · exact ev_some
  simp only [if_true, Bool.true_and]
  show Evr (fun k => if c.f0 = e0 then _ else _) _
  refine ev_ite (fun h => ?_) (fun h => ?_)
  · rw [h, modB_e0]
    by_cases h2 : c.f2 = 0
    · simp only [h2, if_true, decide_true, Bool.true_and, Bool.false_or]; exact ev_some
    · simp only [h2, if_false, decide_false, Bool.false_and, Bool.and_false, Bool.or_false]; exact ev_some
  · refine ev_bind _ (lname_ev c.f0) ?_
    rw [decide_eq_false h]
    cases modB c.f0 <;> exact ev_some
theorem ihdr_ev (c : S1) (hs : c.f0.size < 9223372036854775807) : Evr (fun k => (impl_Code__verify.e1 k c).bind fun y => impl_Code__verify.e2 k c y) (!hdrB c) := by
  refine ev_bind (decide (c.f0 = e0) && (decide (c.f2 = 0) && decide (c.f3 = 0))) (ev_of fun k => ?_) ?_
  · unfold impl_Code__verify.e1
    show (if c.f0 = e0 then _ else _) = _
    by_cases h : c.f0 = e0 <;> by_cases h' : c.f2 = 0 <;> simp [h, h']
  unfold impl_Code__verify.e2 hdrB btw
  simp only [within_eq, Option.bind_some]
  cases decide (1 ≤ (c.f4.length : Int)) && decide ((c.f4.length : Int) ≤ 2000)
  · exact ev_some
  simp only [if_true, Bool.true_and]
  cases decide (0 ≤ c.f1) && decide (c.f1 ≤ 20)
  · exact ev_some
  simp only [if_true, Bool.true_and]
  cases decide (c.f1 ≤ c.f2) && decide (c.f2 ≤ 2000)
  · exact ev_some
  simp only [if_true, Bool.true_and]
  cases decide (0 ≤ c.f3) && decide (c.f3 ≤ 1)
  · exact ev_some
  simp only [if_true, Bool.true_and]
  refine ev_bind _ (isname_ev c.f0 hs) ?_
  cases modB c.f0
  · simp only [Bool.false_eq_true, if_false, Bool.false_or]; exact ev_some
  · exact ev_some

/-! The first instruction that is not right. -/
def badAt (c : S1) : Option Nat := firstAt (fun x => !insB c x) c.f4 0
theorem sbad_ev (c : S1) (hn : c.f4.length ≤ 2000) : Evr (fun k => spec_l04Verify.e3 k c) (match badAt c with | some i => .inl (3, (i : Int)) | none => .inr ()) := by
  refine ev_first c.f4 (fun x => !insB c x) (fun k i => spec_l04Verify.l2 k c i) (fun i => .inl (3, (i : Int))) (.inr ()) (by omega) (ev_neg (by omega) ev_some) (fun i hi hp => ?_) (fun i hi hp r h => ?_)
  · refine ev_pos (by omega) ?_
    simp only [at?_nat hi, Option.bind_some]
    refine ev_bind _ (lIns_ev c c.f4[i]) ?_
    simp only [Bool.not_eq_true'] at hp
    rw [hp]
    exact ev_some
  · refine ev_pos (by omega) ?_
    simp only [at?_nat hi, Option.bind_some]
    refine ev_bind _ (lIns_ev c c.f4[i]) ?_
    simp only [Bool.not_eq_false'] at hp
    rw [hp, w64_next (by omega)]
    exact h
theorem ibad_ev (c : S1) (hn : c.f4.length ≤ 2000) (hs : ∀ x ∈ c.f4, x.f3.size < 9223372036854775807 ∧ x.f4.size < 9223372036854775807) : Evr (fun k => slices_IndexFunc___impl_Ins_impl_Ins_1.f k c.f4 c) (match badAt c with | some i => (i : Int) | none => -1) := by
  have h := ev_first c.f4 (fun x => !insB c x) (fun k i => slices_IndexFunc___impl_Ins_impl_Ins_1.l1 k c.f4 c i) (fun i => .inl (i : Int)) (.inr ()) (by omega) (ev_neg (by omega) ev_some) (fun i hi hp => ?_) (fun i hi hp r h => ?_)
  · refine ev_bind _ h ?_
    unfold badAt
    cases firstAt (fun x => !insB c x) c.f4 0 <;> exact ev_some
  all_goals
    have hx := hs _ (List.getElem_mem hi)
    have hv : Evr (fun k => impl_Code__verify_1_1.f k c.f4[i] c) (!insB c c.f4[i]) := ev_bind _ (isIns_ev c c.f4[i] hx.1 hx.2) ev_some
    refine ev_pos (by omega) ?_
    simp only [at?_nat hi, Option.bind_some]
    refine ev_bind _ hv ?_
    rw [hp]
  · exact ev_some
  · rw [w64_next (by omega)]
    exact h

/-- Both answer, and alike. -/
theorem both_ev (c : S1) (h0 : c.f0.size < 9223372036854775807) (hs : ∀ x ∈ c.f4, x.f3.size < 9223372036854775807 ∧ x.f4.size < 9223372036854775807) : ∃ r : Int × Int, Evr (fun k => spec_VerifyCode.f k c) r ∧ Evr (fun k => impl_VerifyCode.f k c) r := by
  suffices ∃ r : Int × Int, Evr (fun k => spec_l04Verify.f k c) r ∧ Evr (fun k => impl_Code__verify.f k c) r by
    obtain ⟨r, a, b⟩ := this
    exact ⟨r, ev_bind _ a ev_some, ev_bind _ b ev_some⟩
  have hi := ihdr_ev c h0
  have ib : ∀ {r : Int × Int}, Evr (fun k => if (!hdrB c) = true then (some (1, 0)) else ((slices_IndexFunc___impl_Ins_impl_Ins_1.f k c.f4 c).bind fun r25 => if (0 : Int) ≤ r25 then (some (3, r25)) else ((impl_Code__flow.f k c).bind fun r28 => some (r28.1, r28.2)))) r → Evr (fun k => impl_Code__verify.f k c) r := fun {r} h => by
    refine ev_congr (fun k => ((impl_Code__verify.e1 k c).bind fun y => impl_Code__verify.e2 k c y).bind fun y21 => if y21 = true then (some (1, 0)) else ((slices_IndexFunc___impl_Ins_impl_Ins_1.f k c.f4 c).bind fun r25 => if (0 : Int) ≤ r25 then (some (3, r25)) else ((impl_Code__flow.f k c).bind fun r28 => some (r28.1, r28.2)))) (fun k => ?_) (ev_bind _ hi h)
    rw [Option.bind_assoc]
    rfl
  cases hh : hdrB c with
  | false =>
    refine ⟨(1, 0), ev_bind _ (shdr_ev c) ?_, ib ?_⟩
    · rw [hh]; exact ev_some
    · rw [hh]; exact ev_some
  | true =>
    have hc : (1 ≤ c.f4.length ∧ c.f4.length ≤ 2000) ∧ (0 ≤ c.f3 ∧ c.f3 ≤ 1) := by
      unfold hdrB btw at hh
      simp only [Bool.and_eq_true, decide_eq_true_eq] at hh
      omega
    have hlen := hc.1.2
    cases hb : badAt c with
    | some i =>
      have a := sbad_ev c hlen
      have b := ibad_ev c hlen hs
      rw [hb] at a b
      dsimp only at a b
      refine ⟨(3, i), ev_bind _ (shdr_ev c) ?_, ib ?_⟩
      · rw [hh]; exact ev_bind _ a ev_some
      · rw [hh]; exact ev_bind _ b (ev_pos (by omega) ev_some)
    | none =>
      have a := sbad_ev c hlen
      have b := ibad_ev c hlen hs
      rw [hb] at a b
      dsimp only at a b
      have ok : Ok c := ⟨fun x hx => by
        have := firstAt_none.1 hb x hx
        simpa using this, hlen, hc.2⟩
      obtain ⟨r, u, v⟩ := loops_ev ok _ _ (Nat.le_refl _) (good_start hc.1.1)
      have e5 : Evr (fun k => spec_l04Verify.e5 k c) (List.replicate c.f4.length (-1)) := l4_ev c hlen _ 0 (Nat.zero_add _)
      have at0 : at? (List.replicate c.f4.length (-1 : Int)) 0 = some (-1) := by
        have := at?_nat (l := List.replicate c.f4.length (-1 : Int)) (i := 0) (by simp; omega)
        simpa using this
      refine ⟨match r with | .inl r => r | .inr _ => (0, 0), ev_bind _ (shdr_ev c) ?_, ib ?_⟩
      · rw [hh]
        refine ev_bind _ a (ev_bind _ e5 ?_)
        simp only [at0, Option.bind_some]
        refine ev_bind _ u ?_
        cases r <;> exact ev_some
      · rw [hh]
        refine ev_bind _ b (ev_neg (by omega) (ev_bind _ (ev_bind _ (repeat_ev c.f4.length hc.1.1 hlen) ?_) ev_some))
        simp only [at0, Option.bind_some]
        refine ev_bind _ v ?_
        cases r <;> exact ev_some
end Go.Proofs.YtaikjjlbfdkgmaaDoor.V
namespace Go.Proofs.YtaikjjlbfdkgmaaDoor.E
open Go.RowKit Go.Proofs.YtaikjjlbfdkgmaaDoor.V

theorem szIns_left (x : S0) (hx : x.f3.size ≤ maxLen ∧ x.f4.size ≤ maxLen) (left : Int) (h0 : 0 ≤ left) (hB : left ≤ 1048576) : ∃ t, LeftOf left (x.f3.size + x.f4.size) t ∧ ∀ k, laws_szIns.f k x left = some t := by
  have hm : maxLen = 9223372036854775807 := rfl
  have hw : w64 (left - (x.f3.size : Int)) = left - x.f3.size := w64_id (by omega) (by omega)
  unfold laws_szIns.f
  simp only [hw]
  by_cases h : left - (x.f3.size : Int) < 0
  · exact ⟨-1, .inl (by omega), fun k => by rw [if_pos h]⟩
  · have hw2 : w64 (left - (x.f3.size : Int) - (x.f4.size : Int)) = left - x.f3.size - x.f4.size := w64_id (by omega) (by omega)
    simp only [hw2]
    by_cases h' : left - (x.f3.size : Int) - (x.f4.size : Int) < 0
    · exact ⟨-1, .inl (by omega), fun k => by rw [if_neg h, if_pos h']⟩
    · exact ⟨left - x.f3.size - x.f4.size, .inr ⟨by omega, by omega⟩, fun k => by rw [if_neg h, if_neg h']⟩
theorem le_sum {α : Type} (w : α → Nat) : ∀ {l : List α} {x : α}, x ∈ l → w x ≤ (l.map w).sum
  | y :: l, x, h => by
    simp only [List.map_cons, List.sum_cons]
    rcases List.mem_cons.1 h with rfl | h
    · omega
    · have := le_sum w h; omega
/-- The bound: too large, or of a size that fits. -/
theorem szCode_ev (x0 : S1) (h0 : gS1 x0) : ∃ t, Evr (fun k => laws_szCode.f k x0 1048576) t ∧ (t < 0 ∨ (x0.f4.length ≤ 1048576 ∧ x0.f0.size ≤ 1048576 ∧ ∀ x ∈ x0.f4, x.f3.size ≤ 1048576 ∧ x.f4.size ≤ 1048576)) := by
  obtain ⟨g0, _, _, _, gl, gx⟩ := h0
  have hm : maxLen = 9223372036854775807 := rfl
  unfold laws_szCode.f
  have hw : w64 (1048576 - (x0.f0.size : Int)) = 1048576 - x0.f0.size := w64_id (by omega) (by omega)
  simp only [hw]
  by_cases h : 1048576 - (x0.f0.size : Int) < 0
  · exact ⟨-1, ev_pos h ev_some, .inl (by omega)⟩
  · have hw2 : w64 (1048576 - (x0.f0.size : Int) - (x0.f4.length : Int)) = 1048576 - x0.f0.size - x0.f4.length := w64_id (by omega) (by omega)
    unfold laws_szInsS.f laws_szInsS.e2
    simp only [hw2]
    by_cases h' : 1048576 - (x0.f0.size : Int) - (x0.f4.length : Int) < 0
    · exact ⟨-1, ev_neg h (ev_bind (-1) (ev_pos h' ev_some) ev_some), .inl (by omega)⟩
    · have main := ev_left (ρ := Int) x0.f4 (fun x => x.f3.size + x.f4.size) 1048576 (fun k left i => laws_szInsS.l1 k x0.f4 left i) (-1) (by omega) (fun left _ _ => ev_neg (by omega) ev_some) (fun left i hi h1 h2 => by
        obtain ⟨t, ht, he⟩ := szIns_left x0.f4[i] ⟨(gx _ (List.getElem_mem hi)).2.2.2.1, (gx _ (List.getElem_mem hi)).2.2.2.2⟩ left h1 h2
        refine ⟨t, ht, fun hneg => ev_pos (by omega) ?_, fun hpos r hr => ev_pos (by omega) ?_⟩
        · simp only [at?_nat hi, Option.bind_some, he, if_pos hneg]
          exact ev_some
        · simp only [at?_nat hi, Option.bind_some, he]
          refine ev_neg (by omega) ?_
          rw [w64_next (by omega)]
          exact hr) _ (by omega : 0 ≤ 1048576 - (x0.f0.size : Int) - (x0.f4.length : Int)) (by omega)
      rcases main with hb | ⟨t, ht, hsum, he⟩
      · exact ⟨-1, ev_neg h (ev_bind (-1) (ev_neg h' (ev_bind _ hb ev_some)) ev_some), .inl (by omega)⟩
      · exact ⟨t, ev_neg h (ev_bind t (ev_neg h' (ev_bind _ he ev_some)) (ev_neg (by omega) ev_some)), .inr ⟨by omega, by omega, fun x hx => by have := le_sum (fun x : S0 => x.f3.size + x.f4.size) hx; omega⟩⟩
theorem toInsS_ev (xs : List S0) (hn : xs.length ≤ 1048576) : Evr (fun k => laws_toInsS.f k xs) xs := by
  unfold laws_toInsS.f laws_toInsS.e2
  refine ev_pos (by omega) (ev_bind _ ?_ ev_some)
  have := ev_copy xs id (⟨0, 0, 0, ⟨#[]⟩, ⟨#[]⟩⟩ : S0) (fun k acc i => laws_toInsS.l1 k xs acc i) (by omega) (fun acc _ => ev_neg (by omega) ev_some) (fun acc i hi ha r h => by
    refine ev_pos (by omega) ?_
    simp only [at?_nat hi, Option.bind_some, laws_toIns.f, at?_nat (l := acc) (i := i) (by omega), Int.toNat_natCast]
    rw [w64_next (by omega)]
    exact h)
  simpa using this
theorem eqInsS_ev (xs : List S0) (hn : xs.length ≤ 1048576) : Evr (fun k => laws_eqInsS.f k xs xs) true := by
  unfold laws_eqInsS.f laws_eqInsS.e2
  refine ev_pos rfl (ev_bind (.inr ()) ?_ ev_some)
  exact ev_same xs (fun k i => laws_eqInsS.l1 k xs xs i) _ (by omega) (ev_neg (by omega) ev_some) (fun i hi r h => by
    refine ev_pos (by omega) ?_
    simp only [at?_nat hi, Option.bind_some, laws_eqIns.f, if_true]
    rw [w64_next (by omega)]
    exact h)
theorem pureFnExactVerifyCode (x0 : S1) (h0 : gS1 x0) : ∃ k, laws_FnExactVerifyCode.f k x0 = some true := by
  refine Evr.rounds (g := fun k => laws_FnExactVerifyCode.f k x0) ?_
  have hm : maxLen = 9223372036854775807 := rfl
  obtain ⟨t, ht, hb⟩ := szCode_ev x0 h0
  unfold laws_FnExactVerifyCode.f
  refine ev_bind _ ht (ev_ite (fun _ => ev_some) (fun hneg => ?_))
  obtain ⟨hn, hs0, hsx⟩ : x0.f4.length ≤ 1048576 ∧ x0.f0.size ≤ 1048576 ∧ ∀ x ∈ x0.f4, x.f3.size ≤ 1048576 ∧ x.f4.size ≤ 1048576 := by
    rcases hb with h | h
    · exact absurd h hneg
    · exact h
  have hc : Evr (fun k => laws_toCode.f k x0) (x0, x0.f0, x0.f1, x0.f2, x0.f3, x0.f4, x0.f0, x0.f1, x0.f2, x0.f3, x0.f4) := by
    unfold laws_toCode.f
    exact ev_bind _ (toInsS_ev _ hn) ev_some
  refine ev_bind _ hc ?_
  obtain ⟨r, ha, hr⟩ := both_ev x0 (by omega) (fun x hx => by have := hsx x hx; omega)
  · refine ev_bind _ ha (ev_bind _ hc (ev_bind _ hr (ev_bind false (ev_of fun k => ?_) ?_)))
    · unfold laws_FnExactVerifyCode.e1
      simp
    · refine ev_neg (by simp) (ev_bind _ hc (ev_bind true ?_ ev_some))
      unfold laws_eqCode.f
      refine ev_pos rfl (ev_pos rfl (ev_pos rfl (ev_pos rfl (ev_bind true (eqInsS_ev _ hn) ev_some))))
end Go.Proofs.YtaikjjlbfdkgmaaDoor.E
