/- Two scanners along one text: signs, and all tokens. -/
import Derived.Test.YtgiiholpgpfgkaaGreatDoorPlTk8FnExactTokens
set_option linter.unusedVariables false
set_option linter.unusedSimpArgs false
namespace Go.Proofs.YtgiiholpgpfgkaaGreatDoor.E
def signsL : List ByteArray := [(⟨#[58, 61]⟩ : ByteArray), (⟨#[60, 61]⟩ : ByteArray), (⟨#[62, 61]⟩ : ByteArray), (⟨#[61]⟩ : ByteArray), (⟨#[35]⟩ : ByteArray), (⟨#[60]⟩ : ByteArray), (⟨#[62]⟩ : ByteArray), (⟨#[43]⟩ : ByteArray), (⟨#[45]⟩ : ByteArray), (⟨#[42]⟩ : ByteArray), (⟨#[40]⟩ : ByteArray), (⟨#[41]⟩ : ByteArray), (⟨#[91]⟩ : ByteArray), (⟨#[93]⟩ : ByteArray), (⟨#[44]⟩ : ByteArray), (⟨#[59]⟩ : ByteArray), (⟨#[58]⟩ : ByteArray), (⟨#[46]⟩ : ByteArray), (⟨#[38]⟩ : ByteArray), (⟨#[126]⟩ : ByteArray)]
set_option maxRecDepth 100000 in
theorem isigns_eq (k : Nat) : impl_signs.f k = some signsL := by
  have : impl_signs.f 0 = some signsL := by kernel_rfl
  exact this
theorem signs_len : signsL.length = 20 := rfl
theorem signs_size : ∀ x ∈ signsL, 1 ≤ x.size ∧ x.size ≤ 2 := by decide
/-- A sign lies here. -/
def signAt (t : ByteArray) (p : Nat) (x : ByteArray) : Bool := decide (p + x.size ≤ t.size ∧ t.extract p (p + x.size) = x)
theorem isign_ev (t : ByteArray) {p : Nat} (hp : p ≤ t.size) : Evr (fun k => slices_IndexFunc___string_string_1.f k signsL (t.extract p t.size)) (match firstAt (signAt t p) signsL 0 with | some i => (i : Int) | none => -1) := by
  have hc : ∀ k x, impl_scanner__next_1_1.f k x (t.extract p t.size) = some (signAt t p x) := fun k x => by
    unfold impl_scanner__next_1_1.f strings_HasPrefix.f
    rw [prefix_cut t x hp]; rfl
  have h : Evr (fun k => slices_IndexFunc___string_string_1.l1 k signsL (t.extract p t.size) 0) (match firstAt (signAt t p) signsL 0 with | some i => .inl (i : Int) | none => .inr ()) := by
    refine ev_first signsL _ (fun k i => slices_IndexFunc___string_string_1.l1 k signsL (t.extract p t.size) i) (fun i => .inl (i : Int)) (.inr ()) (by rw [signs_len]; omega) ?_ (fun i h hp => ?_) (fun i h hp r hr => ?_)
    · exact ev_of fun k => by rw [slices_IndexFunc___string_string_1.l1.eq_2, if_neg (by omega)]
    · exact ev_of fun k => by
        rw [slices_IndexFunc___string_string_1.l1.eq_2, if_pos (by omega), at?_nat h, Option.bind_some, hc, hp]
        rfl
    · refine ev_congr _ (fun k => ?_) hr
      rw [slices_IndexFunc___string_string_1.l1.eq_2, if_pos (by omega), at?_nat h, w64_next (by have := signs_len; omega), Option.bind_some, hc, hp]
      rfl
  unfold slices_IndexFunc___string_string_1.f slices_IndexFunc___string_string_1.e2
  cases hf : firstAt (signAt t p) signsL 0 with
  | none => rw [hf] at h; exact ev_bind _ h ev_some
  | some i => rw [hf] at h; exact ev_bind _ h ev_some
theorem ssign_e1 (t : ByteArray) (h : t.size ≤ 4000) {p : Nat} (hp : p < t.size) (out : List STok) (k : Nat) {i : Nat} (hi : i < signsL.length) : spec_l01Scanner__sign_2.e1 k ⟨t, p, out, 0, 0⟩ (i : Int) = some (signAt t p signsL[i]) := by
  unfold spec_l01Scanner__sign_2.e1
  show (at? signsL (i : Int)).bind _ = _
  rw [at?_nat hi, Option.bind_some]
  have hx := signs_size _ (List.getElem_mem hi)
  generalize signsL[i] = x at hx ⊢
  simp only
  rw [show w64 ((p : Int) + (x.size : Int)) = ((p + x.size : Nat) : Int) by rw [w64_id (by omega) (by omega)]; rfl]
  unfold signAt
  by_cases h1 : p + x.size ≤ t.size
  · rw [if_pos (by omega), if_pos (by omega), if_pos (by omega), Int.toNat_natCast, Int.toNat_natCast]
    congr 1
    exact decide_eq_decide.2 ⟨fun h2 => ⟨h1, h2⟩, fun h2 => h2.2⟩
  · rw [if_neg (by omega), decide_eq_false (fun h2 => h1 h2.1)]
theorem ssign_l2 (t : ByteArray) (p : Nat) (out : List STok) (k : Nat) (z : Int) : spec_l01Scanner__sign_2.l2 (k + 1) ⟨t, p, out, 0, 0⟩ z = if z < (signsL.length : Int) then ((spec_l01Scanner__sign_2.e1 k ⟨t, p, out, 0, 0⟩ z).bind fun y22 => if y22 = true then ((at? signsL z).bind fun x26 => (spec_l01Scanner__add_2.f k 5 0 x26 p (⟨t, p, out, 0, 0⟩ : S65b163)).bind fun r28 => some (.inl (w64 ((p : Int) + (x26.size : Int)), r28.1, r28.2.1, r28.2.2))) else (spec_l01Scanner__sign_2.l2 k ⟨t, p, out, 0, 0⟩ (w64 (z + 1)))) else (some (.inr ())) := rfl
theorem ssign_ev (t : ByteArray) (h : t.size ≤ 4000) {p : Nat} (hp : p < t.size) (out : List STok) (ho : out.length ≤ 1200) : Evr (fun k => spec_l01Scanner__sign_2.f k ⟨t, p, out, 0, 0⟩) (match firstAt (signAt t p) signsL 0 with | some i => addR ((p + (signsL.getD i default).size : Nat) : Int) out ⟨5, 0, signsL.getD i default, p⟩ p | none => failR p out p) := by
  have hL : Evr (fun k => spec_l01Scanner__sign_2.l2 k ⟨t, p, out, 0, 0⟩ 0) (match firstAt (signAt t p) signsL 0 with | some i => .inl (addR ((p + (signsL.getD i default).size : Nat) : Int) out ⟨5, 0, signsL.getD i default, p⟩ p) | none => .inr ()) := by
    refine ev_first signsL _ (fun k i => spec_l01Scanner__sign_2.l2 k ⟨t, p, out, 0, 0⟩ i) (fun i => .inl (addR ((p + (signsL.getD i default).size : Nat) : Int) out ⟨5, 0, signsL.getD i default, p⟩ p)) (.inr ()) (by rw [signs_len]; omega) ?_ (fun i hi hpi => ?_) (fun i hi hpi r hr => ?_)
    · exact ev_of fun k => by rw [ssign_l2, if_neg (by omega)]
    · refine ev_of fun k => ?_
      rw [ssign_l2, if_pos (by omega), ssign_e1 t h hp out k hi, hpi, Option.bind_some, if_pos rfl, at?_nat hi, Option.bind_some]
      have hg : signsL.getD i default = signsL[i] := by simp [List.getD_eq_getElem?_getD, List.getElem?_eq_getElem hi]
      rw [hg]
      have hx := signs_size _ (List.getElem_mem hi)
      generalize signsL[i] = x at hx ⊢
      have ha := add_eq k 5 0 x p t ((p + x.size : Nat) : Int) out ho
      have ha2 : spec_l01Scanner__add_2.f k 5 0 x p ⟨t, p, out, 0, 0⟩ = spec_l01Scanner__add_2.f k 5 0 x p ⟨t, ((p + x.size : Nat) : Int), out, 0, 0⟩ := rfl
      rw [show w64 ((p : Int) + (x.size : Int)) = ((p + x.size : Nat) : Int) by rw [w64_id (by omega) (by omega)]; rfl, ha2]
      cases hq : spec_l01Scanner__add_2.f k 5 0 x p ⟨t, ((p + x.size : Nat) : Int), out, 0, 0⟩ with
      | none => rw [hq] at ha; cases ha
      | some r =>
        rw [hq] at ha
        simp only [Option.bind_some] at ha ⊢
        rw [Option.some.inj ha]
    · refine ev_congr _ (fun k => ?_) hr
      rw [ssign_l2, if_pos (by omega), ssign_e1 t h hp out k hi, hpi, Option.bind_some, if_neg (by simp), w64_next (by have := signs_len; omega)]
  unfold spec_l01Scanner__sign_2.f spec_l01Scanner__sign_2.e3
  cases hf : firstAt (signAt t p) signsL 0 with
  | none => rw [hf] at hL; exact ev_bind _ hL (ev_of fun k => rfl)
  | some i => rw [hf] at hL; exact ev_bind _ hL ev_some
theorem step_sign (t : ByteArray) (h : t.size ≤ 4000) {p : Nat} (hp : p < t.size) (out : List STok) (ho : out.length ≤ 1200) (f1 : wsB (byteAt t p) = false) (hrem : ¬ isRem t p) (f2 : digitB (byteAt t p) = false) (f3 : letterB (byteAt t p) = false) (hq : byteAt t p ≠ 34) : Step2 t p out := by
  have hcs : (t.extract p t.size).size = t.size - p := cut_size t (Nat.le_refl _)
  have hs := ssign_ev t h hp out ho
  have hi := isign_ev t (p := p) (by omega)
  have hone : Evr (fun k => spec_l01Scanner__one_2.f k ⟨t, p, out, 0, 0⟩) (match firstAt (signAt t p) signsL 0 with | some i => addR ((p + (signsL.getD i default).size : Nat) : Int) out ⟨5, 0, signsL.getD i default, p⟩ p | none => failR p out p) := by
    refine ev_congr _ (fun k => by
      unfold spec_l01Scanner__one_2.f
      simp only
      rw [if_pos (by omega), if_pos (by omega), ws_no f1 k _ rfl, Option.bind_some, if_neg (by simp), srem_no t h hp, Option.bind_some, if_neg (by simpa using hrem), digit_eq, f2, Option.bind_some, if_neg (by simp), letter_eq, f3, Option.bind_some, if_neg (by simp), if_neg hq]) (ev_bind _ hs ev_some)
  obtain ⟨n, hn⟩ : ∃ n, n = wl ((bytesOf t).drop p) := ⟨_, rfl⟩
  have he2 : ∀ k, impl_scanner__next_2.e2 k ⟨t, p⟩ ((n : Nat) : Int) = ((impl_signs.f k).bind fun r28 => (slices_IndexFunc___string_string_1.f k r28 (t.extract p t.size)).bind fun r30 => if r30 < 0 then (some (.inl ((⟨0, 0, (⟨#[]⟩ : ByteArray), 0⟩ : STok), false, (p : Int), 0, 0, (⟨#[]⟩ : ByteArray), 0))) else ((impl_signs.f k).bind fun r33 => (at? r33 r30).bind fun x35 => some (.inr ((x35.size : Int), true, 5, 0, x35, 0)))) := fun k => by
    unfold impl_scanner__next_2.e2
    simp only
    rw [Int.toNat_natCast, Int.toNat_natCast, tail0, hcs, if_pos (by omega), if_pos (by omega), iletter_eq, f3, Option.bind_some, if_neg (by simp), idigit_eq, f2, Option.bind_some, if_neg (by simp), if_neg hq]
  cases hf : firstAt (signAt t p) signsL 0 with
  | none =>
    rw [hf] at hi hone
    have hnx := next_of (v := .inl ((⟨0, 0, (⟨#[]⟩ : ByteArray), 0⟩ : STok), false, (p : Int), 0, 0, (⟨#[]⟩ : ByteArray), 0)) h hp (by
      rw [← hn]
      refine ev_congr _ he2 ?_
      exact ev_bind _ (ev_of isigns_eq) (ev_bind _ hi (ev_pos (by simp) ev_some)))
    exact ⟨none, _, (p : Int), hnx, hone, rfl, fun tk m h => by cases h⟩
  | some i =>
    rw [hf] at hi hone
    obtain ⟨_, hi2, hi3, hi4⟩ := firstAt_some hf
    have hil : i < signsL.length := by omega
    have hg : signsL.getD i default = signsL[i] := by simp [List.getD_eq_getElem?_getD, List.getElem?_eq_getElem hil]
    have hsa : signAt t p signsL[i] = true := by
      have : signsL[i - 0] = signsL[i] := rfl
      exact hi4
    have hx := signs_size _ (List.getElem_mem hil)
    simp only at hone hi
    rw [hg] at hone
    have hat : ∀ k : Nat, at? signsL (i : Int) = some signsL[i] := fun k => at?_nat hil
    generalize signsL[i] = x at hone hsa hx hat
    have hnx := next_of (v := .inr ((x.size : Int), true, 5, 0, x, 0)) h hp (by
      rw [← hn]
      refine ev_congr _ he2 ?_
      refine ev_bind _ (ev_of isigns_eq) (ev_bind _ hi (ev_neg (by simp) (ev_bind _ (ev_of isigns_eq) (ev_of fun k => ?_))))
      rw [hat k]; rfl)
    simp only at hnx
    rw [show w64 ((p : Int) + (x.size : Int)) = ((p + x.size : Nat) : Int) by rw [w64_id (by omega) (by omega)]; rfl] at hnx
    have hle := (of_decide_eq_true hsa).1
    refine ⟨some (⟨5, 0, x, p⟩, x.size), _, 0, hnx, hone, rfl, fun tk m h => ?_⟩
    injection h with h
    injection h with h1 h2
    subst h1; subst h2
    exact ⟨rfl, rfl, hx.1, hle⟩
theorem step_any (t : ByteArray) (h : t.size ≤ 4000) {p : Nat} (hp : p < t.size) (out : List STok) (ho : out.length ≤ 1200) (f1 : wsB (byteAt t p) = false) (hrem : ¬ isRem t p) : Step2 t p out := by
  cases h1 : digitB (byteAt t p)
  · cases h2 : letterB (byteAt t p)
    · by_cases h3 : byteAt t p = 34
      · exact step_quote t h hp out ho h3
      · exact step_sign t h hp out ho f1 hrem h1 h2 h3
    · exact step_letter t h hp out ho h2
  · exact step_digit t h hp out ho h1
/-- All tokens, from a place on: both go the same way. -/
theorem all_both (t : ByteArray) (h : t.size ≤ 4000) : ∀ (m q : Nat) (out : List STok), q + m = t.size → out.length ≤ 1200 → (∀ x ∈ out, True) → ∃ (v : Int × List STok × Int × Int),
    Evr (fun k => spec_l01Tokens.l2 k t q out 0 0) v ∧ v.2.1.length ≤ 1200 ∧ Evr (fun k => impl_tokens.l1 k t out q) (if v.2.2.1 = 0 then (v.2.1, 0, 0) else ([], v.2.2.1, v.2.2.2)) := by
  intro m
  induction m using Nat.strongRecOn with
  | _ m ih =>
    intro q out hm ho _
    obtain ⟨b, q', e, k1, k2, k3, k4, k5, k6⟩ := skip_both t h q m q hm
    have hskip : Evr (fun k => impl_scanner__skip_2.f k ⟨t, q⟩) (b, (q' : Int)) := by
      unfold impl_scanner__skip_2.f impl_scanner__skip_2.e2
      refine ev_bind _ k3 ?_
      rw [← k4]
      cases e <;> exact ev_some
    cases b
    · refine ⟨_, k5 rfl out, ho, ?_⟩
      refine ev_step _ (fun k => impl_tokens.l1.eq_2 ..) (ev_bind _ hskip (ev_neg (by simp) ?_))
      exact ev_some
    · obtain ⟨k7, k8⟩ := k6 rfl
      rcases k8 with k8 | ⟨k8, f1, hrem⟩
      · refine ⟨_, k7 out _ (slp_end t _ out 0 0 (.inr (by omega))), ho, ?_⟩
        refine ev_step _ (fun k => impl_tokens.l1.eq_2 ..) (ev_bind _ hskip (ev_pos rfl (ev_pos (by simp only; omega) ?_)))
        exact ev_some
      · obtain ⟨o, r, q2, n1, n2, n3, n4⟩ := step_any t h k8 out ho f1 hrem
        cases o with
        | none =>
          refine ⟨_, k7 out _ (slp_on t k8 n2 (slp_end t _ _ _ _ (.inl (by simp [failR])))), by simpa [failR] using ho, ?_⟩
          refine ev_step _ (fun k => impl_tokens.l1.eq_2 ..) (ev_bind _ hskip (ev_pos rfl (ev_neg (by simp only; omega) (ev_bind _ n1 (ev_neg (by rw [n3]; simp) ?_)))))
          exact ev_some
        | some z =>
          obtain ⟨tk, n⟩ := z
          obtain ⟨m1, m2, m3, m4⟩ := n4 tk n rfl
          by_cases hl : out.length = 1200
          · have hadd : addR ((q' + n : Nat) : Int) out tk q' = (((q' + n : Nat) : Int), out, 13, (q' : Int)) := by unfold addR; rw [if_pos hl]
            simp only at n2
            rw [hadd] at n2
            refine ⟨_, k7 out _ (slp_on t k8 n2 (slp_end t _ _ _ _ (.inl (by simp)))), ho, ?_⟩
            refine ev_step _ (fun k => impl_tokens.l1.eq_2 ..) (ev_bind _ hskip (ev_pos rfl (ev_neg (by simp only; omega) (ev_bind _ n1 (ev_pos (by rw [n3]; rfl) (ev_pos (by omega) ?_))))))
            exact ev_some
          · have hadd : addR ((q' + n : Nat) : Int) out tk q' = (((q' + n : Nat) : Int), out ++ [tk], 0, 0) := by unfold addR; rw [if_neg hl]
            simp only at n2
            rw [hadd] at n2
            obtain ⟨v, v1, v2, v3⟩ := ih (t.size - (q' + n)) (by omega) (q' + n) (out ++ [tk]) (by omega) (by simp; omega) (fun _ _ => trivial)
            refine ⟨v, k7 out _ (slp_on t k8 n2 v1), v2, ?_⟩
            refine ev_step _ (fun k => impl_tokens.l1.eq_2 ..) (ev_bind _ hskip (ev_pos rfl (ev_neg (by simp only; omega) (ev_bind _ n1 (ev_pos (by rw [n3]; rfl) (ev_neg (by omega) (ev_pos (by simp; omega) ?_)))))))
            rw [m1, m2]
            exact v3
/-- What both tell of a text: one answer. -/
theorem tokens_both (t : ByteArray) (h1 : t.size ≤ 1048576) : ∃ r : List STok × Int × Int, r.1.length ≤ 1200 ∧ Evr (fun k => spec_Tokens.f k t) r ∧ Evr (fun k => impl_Tokens.f k t) r := by
  by_cases h65 : t.size ≤ 65536
  · have hsh : ∀ k, impl_isShort_string.f k t = some true := fun k => by unfold impl_isShort_string.f; rw [decide_eq_true (by omega)]
    by_cases h4 : t.size ≤ 4000
    · obtain ⟨v, v1, v2, v3⟩ := all_both t h4 t.size 0 [] (by omega) (by simp) (fun _ _ => trivial)
      obtain ⟨v0, vo, vc, vp⟩ := v
      refine ⟨if vc = 0 then (vo, 0, 0) else ([], vc, vp), ?_, ?_, ?_⟩
      · split
        · exact v2
        · simp
      · unfold spec_Tokens.f
        refine ev_neg (by omega) (ev_neg (by omega) ?_)
        refine ev_bind (if vc = 0 then (vo, 0, 0) else ([], vc, vp)) ?_ (ev_of fun k => rfl)
        unfold spec_l01Tokens.f spec_l01Tokens.e3
        refine ev_bind _ v1 ?_
        by_cases hc : vc = 0
        · simp only [hc, if_true]
          refine ev_pos (by simp at v2 ⊢; omega) ?_
          exact ev_of fun k => by simp
        · simp only [if_neg hc]
          exact ev_some
      · unfold impl_Tokens.f
        refine ev_bind _ (ev_of hsh) (ev_pos rfl ?_)
        refine ev_bind (if vc = 0 then (vo, 0, 0) else ([], vc, vp)) ?_ (ev_of fun k => rfl)
        unfold impl_tokens.f
        exact ev_neg (by omega) v3
    · refine ⟨([], 15, 0), by simp, ?_, ?_⟩
      · unfold spec_Tokens.f
        exact ev_neg (by omega) (ev_pos (by omega) ev_some)
      · unfold impl_Tokens.f impl_tokens.f
        refine ev_bind _ (ev_of hsh) (ev_pos rfl (ev_bind ([], 15, 0) (ev_pos (by omega) ev_some) ev_some))
  · refine ⟨([], 2, 0), by simp, ?_, ?_⟩
    · unfold spec_Tokens.f
      exact ev_pos (by omega) ev_some
    · unfold impl_Tokens.f
      have hsh : ∀ k, impl_isShort_string.f k t = some false := fun k => by unfold impl_isShort_string.f; rw [decide_eq_false (by omega)]
      exact ev_bind _ (ev_of hsh) (ev_neg (by simp) ev_some)
end Go.Proofs.YtgiiholpgpfgkaaGreatDoor.E
