import Derived.Test.YtjgddjmgcffjfaaDoorPlHFnExactOutText
import Derived.Test.YtjgddjmgcffjfaaDoorPlGFnExactOutText
import Derived.Test.YtjgddjmgcffjfaaDoorPlL
set_option linter.unusedVariables false
set_option linter.unusedSimpArgs false
namespace Go.Proofs.YtjgddjmgcffjfaaDoor.O
open Go.RowKit Go.Proofs.YtjgddjmgcffjfaaDoor.E Go.Proofs.YtjgddjmgcffjfaaDoor.H Go.Proofs.YtjgddjmgcffjfaaDoor.G Go.Proofs.YtjgddjmgcffjfaaDoor.V
def bT : ByteArray := ⟨#[84, 82, 85, 69]⟩
def bF : ByteArray := ⟨#[70, 65, 76, 83, 69]⟩
/-- Is it a value that is told? -/
def tellB (x : SOut) : Bool := decide (x.f0 = 1 ∨ (x.f0 = 2 ∧ 0 ≤ x.f1 ∧ x.f1 ≤ 1) ∨ (x.f0 = 3 ∧ chB x.f1 = true))
def textO (x : SOut) : ByteArray := if x.f0 = 1 then itoaB x.f1 else if x.f0 = 2 then (if x.f1 = 1 then bT else bF) else chT x.f1
theorem textO_size {x : SOut} (hg : gSOut x) (h : tellB x = true) : (textO x).size ≤ 30 := by
  have h := of_decide_eq_true h
  have hi := wf_i64 hg.2
  unfold textO
  split
  · have := itoaB_size (n := x.f1) hi; omega
  · split
    · split <;> exact Nat.le_of_ble_eq_true rfl
    · have h3 : chB x.f1 = true := by rcases h with h | h | h <;> simp_all
      have := chT_size h3; omega
def outL : List SOut → List Int → List Int
  | [], s => s
  | x :: l, s => outL l (s ++ bytesOf (textO x) ++ [10])
theorem outL_ok : ∀ (l : List SOut) (s : List Int), (∀ v ∈ s, 0 ≤ v ∧ v < 256) → ∀ v ∈ outL l s, 0 ≤ v ∧ v < 256
  | [], s, h => h
  | x :: l, s, h => outL_ok l _ (by
      intro v hv
      rcases List.mem_append.1 hv with hv | hv
      · rcases List.mem_append.1 hv with hv | hv
        · exact h v hv
        · exact bytesOf_ok _ v hv
      · rw [List.mem_singleton] at hv
        omega)
theorem bytesOf_len (a : ByteArray) : (bytesOf a).length = a.size := by unfold bytesOf; rw [List.length_map, Array.length_toList]; rfl
/-! The reference. -/
theorem sone_ev (s : List Int) {x : SOut} (hg : gSOut x) (hs : s.length ≤ 200000) : Evr (fun k => spec_OutText.e3 k s x) (if tellB x then .inr (s ++ bytesOf (textO x)) else .inl ((⟨#[]⟩ : ByteArray), 1)) := by
  have hi := wf_i64 hg.2
  have hl (a : ByteArray) (h : a.size ≤ 30) : (s ++ bytesOf a).length * 1 ≤ 140737488355328 := by rw [List.length_append, bytesOf_len]; omega
  unfold spec_OutText.e3
  by_cases h1 : x.f0 = 1
  · refine ev_pos h1 (ev_bind _ (digits_ev (n := x.f1) hi) (ev_pos (hl _ (by have := itoaB_size (n := x.f1) hi; omega)) ?_))
    rw [if_pos (show tellB x = true from decide_eq_true (.inl h1))]
    unfold textO
    rw [if_pos h1]
    exact ev_some
  · refine ev_neg h1 ?_
    by_cases h2 : x.f0 = 2 ∧ 0 ≤ x.f1 ∧ x.f1 ≤ 1
    · refine ev_bind true (ev_of fun k => ?_) (ev_pos rfl ?_)
      · unfold spec_OutText.e1
        rw [if_pos h2.1, l01In_eq, decide_eq_true h2.2]; rfl
      · have ht : tellB x = true := decide_eq_true (.inr (.inl h2))
        refine ev_bind (textO x) (ev_of fun k => ?_) (ev_pos (hl _ (textO_size hg ht)) (by rw [if_pos ht]; exact ev_some))
        unfold textO
        rw [if_neg h1, if_pos h2.1]
        rcases (by omega : x.f1 = 0 ∨ x.f1 = 1) with h | h <;> rw [h] <;> rfl
    · refine ev_bind false (ev_of fun k => ?_) (ev_neg (by simp) ?_)
      · unfold spec_OutText.e1
        by_cases h0 : x.f0 = 2
        · rw [if_pos h0, l01In_eq, decide_eq_false (fun h => h2 ⟨h0, h⟩)]; rfl
        · rw [if_neg h0]
      · by_cases h3 : x.f0 = 3 ∧ chB x.f1 = true
        · have ht : tellB x = true := decide_eq_true (.inr (.inr h3))
          refine ev_bind true (ev_of fun k => ?_) (ev_pos rfl ?_)
          · unfold spec_OutText.e2
            rw [if_pos h3.1, sCh, h3.2]; rfl
          · have e : textO x = chT x.f1 := by unfold textO; rw [if_neg h1, if_neg (by omega)]
            refine ev_bind (textO x) (by rw [e]; exact sChar h3.2) (ev_pos (hl _ (textO_size hg ht)) (by rw [if_pos ht]; exact ev_some))
        · refine ev_bind false (ev_of fun k => ?_) (ev_neg (by simp) ?_)
          · unfold spec_OutText.e2
            by_cases h0 : x.f0 = 3
            · rw [if_pos h0, sCh, show chB x.f1 = false by simpa using fun h => h3 ⟨h0, h⟩]; rfl
            · rw [if_neg h0]
          · rw [if_neg (show ¬ tellB x = true by
              intro h
              rcases of_decide_eq_true h with h | h | h
              · exact h1 h
              · exact h2 h
              · exact h3 h)]
            exact ev_some
theorem sloop_ev (l : List SOut) (hn : l.length ≤ 4096) (hg : ∀ x ∈ l, gSOut x) : ∀ (m i : Nat) (s : List Int), i + m = l.length → s.length ≤ i * 40 → Evr (fun k => spec_OutText.l4 k l s (i : Int)) (if (l.drop i).all tellB then .inr (outL (l.drop i) s) else .inl ((⟨#[]⟩ : ByteArray), 1))
  | 0, i, s, hm, _ => by
    rw [List.drop_eq_nil_of_le (by omega)]
    exact ev_step _ (fun k => rfl) (ev_neg (by omega) ev_some)
  | m + 1, i, s, hm, hs => by
    have hi : i < l.length := by omega
    have hgi := hg _ (List.getElem_mem hi)
    rw [List.drop_eq_getElem_cons hi]
    refine ev_step _ (fun k => rfl) (ev_pos (by omega) ?_)
    simp only [at?_nat hi, Option.bind_some]
    refine ev_bind _ (sone_ev s hgi (by omega)) ?_
    cases ht : tellB l[i] with
    | false =>
      simp only [List.all_cons, ht, Bool.false_and, Bool.false_eq_true, if_false]
      exact ev_some
    | true =>
      have h1 := textO_size hgi ht
      have hl : (s ++ bytesOf (textO l[i]) ++ [10]).length ≤ (i + 1) * 40 := by simp only [List.length_append, bytesOf_len, List.length_singleton]; omega
      simp only [List.all_cons, ht, Bool.true_and, if_true, outL]
      refine ev_pos (by omega) ?_
      rw [w64_next (by omega)]
      exact sloop_ev l hn hg m (i + 1) _ (by omega) hl
/-! The program. -/
theorem itold (k : Nat) (x : SOut) : impl_isTold.f k x = some (tellB x) := by
  unfold impl_isTold.f impl_isValueOf.f impl_isValueOf.e1 tellB
  simp only [within_eq, iCh, Option.bind_some]
  by_cases h1 : x.f0 = 1
  · rw [if_pos h1, decide_eq_true (.inl h1)]; rfl
  · rw [if_neg h1]
    by_cases h2 : x.f0 = 2
    · rw [if_pos h2]
      by_cases h3 : 0 ≤ x.f1 ∧ x.f1 ≤ 1
      · rw [decide_eq_true h3, decide_eq_true (.inr (.inl ⟨h2, h3⟩))]; rfl
      · rw [decide_eq_false h3, if_neg (by simp), if_neg (by omega)]
        simp [h1, h2, h3]
    · rw [if_neg h2]
      by_cases h4 : x.f0 = 3
      · rw [if_pos h4]
        simp [h1, h2, h4]
      · rw [if_neg h4]
        simp [h1, h2, h4]
theorem iall_ev (l : List SOut) (hn : l.length ≤ 4096) : Evr (fun k => impl_areAll_impl_Out_1.f k l) (l.all tellB) := by
  unfold impl_areAll_impl_Out_1.f slices_ContainsFunc___impl_Out_impl_Out_1.f slices_IndexFunc___impl_Out_impl_Out_1.f slices_IndexFunc___impl_Out_impl_Out_1.e2
  exact ev_allInt (L := fun k i => slices_IndexFunc___impl_Out_impl_Out_1.l1 k l i) (g := fun k x => impl_areAll_impl_Out__1_1.f k x) (by omega) (fun k => if_neg (by omega)) (fun x _ => ev_of fun k => by
    unfold impl_areAll_impl_Out__1_1.f
    rw [itold]; rfl) (fun k i hi => by
    show (if _ then _ else _) = _
    rw [if_pos (by omega), at?_nat hi]; rfl)
theorem iline_ev {x : SOut} (hg : gSOut x) (ht : tellB x = true) : Evr (fun k => impl_outText.e1 k x (itoaB x.f1)) (textO x) := by
  have h := of_decide_eq_true ht
  unfold impl_outText.e1 textO
  by_cases h2 : x.f0 = 2
  · refine ev_pos h2 ?_
    rw [if_neg (by omega), if_pos h2]
    refine ev_bind _ (ev_step (fun _ => _) (fun k => rfl) ?_) ev_some
    refine ev_neg (by simp) (ev_neg (by simp) (ev_pos rfl ?_))
    by_cases h1 : x.f1 = 1
    · exact ev_pos h1 (by rw [if_pos h1]; exact ev_some)
    · exact ev_neg h1 (by rw [if_neg h1]; exact ev_some)
  · refine ev_neg h2 ?_
    by_cases h3 : x.f0 = 3
    · rw [if_neg (by omega), if_neg h2]
      have hc : chB x.f1 = true := by rcases h with h | h | h <;> simp_all
      exact ev_pos h3 (ev_bind _ (ev_of fun k => iChar k hc) ev_some)
    · have h1 : x.f0 = 1 := by omega
      rw [if_pos h1]
      exact ev_neg h3 ev_some
theorem iloop_ev (l : List SOut) (hn : l.length ≤ 4096) (hg : ∀ x ∈ l, gSOut x) (ht : ∀ x ∈ l, tellB x = true) : ∀ (m i : Nat) (b : Bool) (s : List Int), i + m = l.length → s.length ≤ i * 40 → ∃ b', Evr (fun k => impl_outText.l2 k l (i : Int) b s) (b', outL (l.drop i) s)
  | 0, i, b, s, hm, _ => by
    rw [List.drop_eq_nil_of_le (by omega)]
    exact ⟨b, ev_step _ (fun k => rfl) (ev_neg (by omega) ev_some)⟩
  | m + 1, i, b, s, hm, hs => by
    have hi : i < l.length := by omega
    have hgi := hg _ (List.getElem_mem hi)
    have hti := ht _ (List.getElem_mem hi)
    have h1 := textO_size hgi hti
    have hl : (s ++ bytesOf (textO l[i]) ++ [10]).length ≤ (i + 1) * 40 := by simp only [List.length_append, bytesOf_len, List.length_singleton]; omega
    have s3 : (⟨#[10]⟩ : ByteArray).size = 1 := rfl
    have e2 : s ++ bytesOf (textO l[i] ++ ⟨#[10]⟩) = s ++ bytesOf (textO l[i]) ++ [10] := by
      rw [bytesOf_append, List.append_assoc]; rfl
    obtain ⟨b', hr⟩ := iloop_ev l hn hg ht m (i + 1) true _ (by omega) hl
    refine ⟨b', ?_⟩
    rw [List.drop_eq_getElem_cons hi]
    refine ev_step _ (fun k => rfl) (ev_pos (by omega) ?_)
    simp only [at?_nat hi, Option.bind_some, itoa_f _ (wf_i64 hgi.2)]
    refine ev_bind _ (iline_ev hgi hti) (ev_pos (by omega) (ev_bind (((textO l[i] ++ ⟨#[10]⟩ : ByteArray).size : Int), true, s ++ bytesOf (textO l[i]) ++ [10]) (ev_of fun k => ?_) ?_))
    · unfold strings_Builder__WriteString_1.f strings_Builder__copyCheck_2.f
      rw [e2]
      have : (s ++ bytesOf (textO l[i]) ++ [10]).length * 1 ≤ 140737488355328 := by omega
      cases b <;> simp only [Bool.false_eq_true, if_false, if_true, Option.bind_some, if_pos this]
    · rw [w64_next (by omega)]
      exact hr
def outM (l : List SOut) : ByteArray × Int := if 4096 < l.length then ((⟨#[]⟩ : ByteArray), 2) else if l.all tellB then (strOfNums (outL l []), 0) else ((⟨#[]⟩ : ByteArray), 1)
theorem smain_ev (l : List SOut) (hn : l.length ≤ 1048576) (hg : ∀ x ∈ l, gSOut x) : Evr (fun k => spec_OutText.f k l) (outM l) := by
  unfold spec_OutText.f outM
  by_cases h : 4096 < l.length
  · rw [if_pos h]
    exact ev_pos (by omega) ev_some
  · rw [if_neg h]
    refine ev_neg (by omega) (ev_bind _ (sloop_ev l (by omega) hg l.length 0 [] (by omega) (by simp)) ?_)
    rw [List.drop_zero]
    cases l.all tellB <;> exact ev_some
theorem imain_ev (l : List SOut) (hn : l.length ≤ 1048576) (hg : ∀ x ∈ l, gSOut x) : Evr (fun k => impl_OutText.f k l) (outM l) := by
  unfold impl_OutText.f outM impl_isList_impl_Out.f
  by_cases h : 4096 < l.length
  · rw [if_pos h]
    refine ev_bind false (ev_of fun k => ?_) (ev_neg (by simp) ev_some)
    rw [decide_eq_false (by omega)]
  · rw [if_neg h]
    refine ev_bind true (ev_of fun k => ?_) (ev_pos rfl (ev_bind _ (iall_ev l (by omega)) ?_))
    · rw [decide_eq_true (by omega)]
    · cases ha : l.all tellB with
      | false => exact ev_neg (by simp) ev_some
      | true =>
        obtain ⟨b', hr⟩ := iloop_ev l (by omega) hg (List.all_eq_true.1 ha) l.length 0 false [] (by omega) (by simp)
        rw [List.drop_zero] at hr
        refine ev_pos rfl (ev_bind (strOfNums (outL l [])) ?_ ev_some)
        unfold impl_outText.f impl_outText.e3
        refine ev_bind _ hr (ev_bind _ (ev_of fun k => ?_) ev_some)
        unfold strings_Builder_String_2.f strings_Builder_String.f
        exact if_pos (List.all_eq_true.2 fun v hv => by have := outL_ok l [] (fun _ h => by cases h) v hv; simp [this.1, this.2])
end Go.Proofs.YtjgddjmgcffjfaaDoor.O
namespace Go.Proofs.YtjgddjmgcffjfaaDoor.E
open Go.RowKit Go.Proofs.YtjgddjmgcffjfaaDoor.O
theorem toOutS_ev (xs : List SOut) (hn : xs.length ≤ 1048576) : Evr (fun k => laws_toOutS.f k xs) xs := by
  unfold laws_toOutS.f laws_toOutS.e2
  refine ev_pos (by omega) (ev_bind _ ?_ ev_some)
  have := ev_copy xs id (⟨0, 0⟩ : SOut) (fun k acc i => laws_toOutS.l1 k xs acc i) (by omega) (fun acc _ => ev_neg (by omega) ev_some) (fun acc i hi ha r h => by
    refine ev_pos (by omega) ?_
    simp only [at?_nat hi, Option.bind_some, laws_toOut.f, at?_nat (l := acc) (i := i) (by omega), Int.toNat_natCast]
    rw [w64_next (by omega)]
    exact h)
  simpa using this
theorem eqOutS_ev (xs : List SOut) (hn : xs.length ≤ 1048576) : Evr (fun k => laws_eqOutS.f k xs xs) true := by
  unfold laws_eqOutS.f laws_eqOutS.e2
  refine ev_pos rfl (ev_bind (.inr ()) ?_ ev_some)
  exact ev_same xs (fun k i => laws_eqOutS.l1 k xs xs i) _ (by omega) (ev_neg (by omega) ev_some) (fun i hi r h => by
    refine ev_pos (by omega) ?_
    simp only [at?_nat hi, Option.bind_some, laws_eqOut.f, if_true]
    rw [w64_next (by omega)]
    exact h)
theorem pureFnExactOutText (x0 : (List SOut)) (h0 : (x0.length ≤ maxLen ∧ ∀ y_, y_ ∈ x0 → gSOut y_)) : ∃ k, laws_FnExactOutText.f k x0 = some true := by
  refine Evr.rounds (g := fun k => laws_FnExactOutText.f k x0) ?_
  have hm : maxLen = 9223372036854775807 := rfl
  have hw : w64 (1048576 - (x0.length : Int)) = 1048576 - x0.length := w64_id (by omega) (by omega)
  unfold laws_FnExactOutText.f laws_szOutS.f
  rw [hw]
  by_cases hb : (1048576 : Int) - x0.length < 0
  · exact ev_bind (-1) (ev_pos hb ev_some) (ev_pos (by omega) ev_some)
  · have hn : x0.length ≤ 1048576 := by omega
    refine ev_bind _ (ev_neg hb ev_some) (ev_neg hb ?_)
    refine ev_bind _ (toOutS_ev x0 hn) (ev_bind _ (smain_ev x0 hn h0.2) (ev_bind _ (toOutS_ev x0 hn) (ev_bind _ (imain_ev x0 hn h0.2) (ev_bind false (ev_of fun k => ?_) (ev_neg (by simp) ?_)))))
    · simp [laws_FnExactOutText.e1]
    · exact ev_bind _ (toOutS_ev x0 hn) (ev_bind true (eqOutS_ev x0 hn) (ev_pos rfl ev_some))
end Go.Proofs.YtjgddjmgcffjfaaDoor.E
