/- The bytes of an interface, as both write them. -/
import Derived.Test.YtoclajfeeebbbabGreatDoorPlIFnExactReadInterface
import Derived.Test.YtoclajfeeebbbabGreatDoorPlMFnExactReadInterface
set_option linter.unusedVariables false
set_option linter.unusedSimpArgs false
namespace Go.Proofs.YtoclajfeeebbbabGreatDoor.V
open Go.RowKit Go.Proofs.YtoclajfeeebbbabGreatDoor.E
/-! The parts. -/
def textL (s : ByteArray) : List Int := [u8 (s.size : Int)] ++ bytesOf s
theorem textL_len (s : ByteArray) : (textL s).length = s.size + 1 := by
  unfold textL
  rw [List.length_append, bytesOf_length, List.length_singleton, Nat.add_comm]
theorem textL_ok (s : ByteArray) : Oct (textL s) := (Oct.byte _).app (Oct.of s)
theorem stext_ev {s : ByteArray} (h : s.size ≤ 40) (k : Nat) : spec_l03Text.f k s = some (textL s) := by
  have := textL_len s
  unfold textL at this
  exact if_pos (by show (textL s).length * 1 ≤ _; unfold textL; omega)
def num (b : Bool) : Int := if b = true then 1 else 0
theorem sbit_eq (k : Nat) (b : Bool) : spec_l02Bit.f k b = some (num b) := by cases b <;> rfl
def paramN (p : SParam) : Int := w64 (p.f0 + w64 (8 * num p.f1))
def paramL (p : SParam) : List Int := [u8 (paramN p)]
def headL (x : SItem) : List Int := [u8 x.f0, u8 x.f1, u8 x.f2] ++ bigL x.f3 8 ++ textL x.f4 ++ [u8 (x.f5.length : Int)]
def itemL (x : SItem) : List Int := headL x ++ x.f5.flatMap paramL
def faceH (c : SFace) : List Int := [79, 73, 49] ++ textL c.f0 ++ [u8 (c.f1.length : Int)]
def faceL (c : SFace) : List Int := faceH c ++ c.f1.flatMap itemL
theorem headL_len (x : SItem) : (headL x).length = 13 + x.f4.size := by
  unfold headL
  simp only [List.length_append, List.length_cons, List.length_nil, bigL_len, textL_len]
  omega
theorem params_len (l : List SParam) : (l.flatMap paramL).length = l.length := by
  induction l with
  | nil => rfl
  | cons p l ih => rw [List.flatMap_cons, List.length_append, ih, List.length_cons]; show 1 + l.length = _; omega
theorem itemL_len (x : SItem) : (itemL x).length = 13 + x.f4.size + x.f5.length := by
  unfold itemL
  rw [List.length_append, headL_len, params_len]
theorem faceH_len (c : SFace) : (faceH c).length = 5 + c.f0.size := by
  unfold faceH
  simp only [List.length_append, List.length_cons, List.length_nil, textL_len]
  omega
theorem headL_ok (x : SItem) : Oct (headL x) := by
  unfold headL
  refine (((Oct.app (a := [u8 x.f0]) (Oct.byte _) (Oct.app (a := [u8 x.f1]) (Oct.byte _) (Oct.byte _))).app (bigL_ok _ _)).app (textL_ok _)).app (Oct.byte _)
theorem itemL_ok (x : SItem) : Oct (itemL x) := (headL_ok x).app (Oct.flat fun _ _ => Oct.byte _)
theorem faceL_ok (c : SFace) : Oct (faceL c) := by
  refine Oct.app ((Oct.app ?_ (textL_ok _)).app (Oct.byte _)) (Oct.flat fun x _ => itemL_ok x)
  intro v hv
  simp only [List.mem_cons, List.not_mem_nil, or_false] at hv
  omega
/-- What an interface that is right holds. -/
structure FitI (c : SFace) : Prop where
  nm : c.f0.size ≤ 40
  len : c.f1.length ≤ 60
  item : ∀ x ∈ c.f1, x.f4.size ≤ 40 ∧ x.f5.length ≤ 20
theorem modB_le {s : ByteArray} (h : modB s = true) : s.size ≤ 40 := by
  unfold modB nameB at h
  simp only [Bool.and_eq_true, decide_eq_true_eq] at h
  exact h.1.1.1.2
theorem fitI {c : SFace} (h : faceB c = true) : FitI c := by
  unfold faceB at h
  simp only [Bool.and_eq_true, decide_eq_true_eq] at h
  refine ⟨modB_le h.1, h.2.1, fun x hx => ?_⟩
  have := List.all_eq_true.1 h.2.2.1 x hx
  unfold itemB at this
  simp only [Bool.and_eq_true] at this
  refine ⟨modB_le this.1, ?_⟩
  have hh := this.2.1
  have hb := this.2.2
  unfold headI at hh
  unfold bodyI at hb
  simp only [Bool.and_eq_true, Bool.or_eq_true, decide_eq_true_eq] at hh
  by_cases h3 : x.f0 = 3
  · rw [if_neg (by omega), if_neg (by omega), if_pos h3] at hb
    simp only [Bool.and_eq_true, decide_eq_true_eq] at hb
    exact hb.2.1
  · rcases hh.2.2 with h | h
    · exact absurd h h3
    · omega
/-! The reference. -/
theorem sparams_loop (x : SItem) (hx : x.f5.length ≤ 20) : ∀ (m i : Nat) (s : List Int), i + m = x.f5.length → s.length ≤ 100000 + i → Evr (fun k => spec_l03Bytes.l1 k x s (i : Int)) (s ++ (x.f5.drop i).flatMap paramL)
  | 0, i, s, hm, _ => by
    rw [List.drop_eq_nil_of_le (by omega), List.flatMap_nil, List.append_nil]
    exact ev_step _ (fun k => rfl) (ev_neg (by omega) ev_some)
  | m + 1, i, s, hm, hs => by
    have hi : i < x.f5.length := by omega
    refine ev_step _ (fun k => rfl) (ev_pos (by omega) ?_)
    simp only [at?_nat hi, Option.bind_some, sbit_eq]
    refine ev_pos (by simp; omega) ?_
    rw [w64_next (by omega), List.drop_eq_getElem_cons hi, List.flatMap_cons, ← List.append_assoc]
    exact sparams_loop x hx m (i + 1) _ (by omega) (by show (s ++ [_]).length ≤ _; simp; omega)
theorem sitem_bytes (c : SFace) (h : FitI c) (i : Nat) (hi : i < c.f1.length) (s : List Int) (hs : s.length ≤ 50000) : Evr (fun k => spec_l03Bytes.e2 k c s (i : Int)) (s ++ itemL c.f1[i]) := by
  obtain ⟨h4, h5⟩ := h.item _ (List.getElem_mem hi)
  have hh := headL_len c.f1[i]
  unfold spec_l03Bytes.e2
  simp only [at?_nat hi, Option.bind_some, stext_ev h4]
  have hl := sparams_loop c.f1[i] h5 _ 0 (s ++ headL c.f1[i]) (Nat.zero_add _) (by rw [List.length_append]; omega)
  rw [List.drop_zero, List.append_assoc] at hl
  have e1 : s ++ headL c.f1[i] = s ++ [u8 c.f1[i].f0, u8 c.f1[i].f1, u8 c.f1[i].f2] ++ bigL c.f1[i].f3 8 ++ textL c.f1[i].f4 ++ [u8 (c.f1[i].f5.length : Int)] := by
    unfold headL
    simp only [List.append_assoc]
  have e2 := congrArg List.length e1
  simp only [List.length_append, List.length_cons, List.length_nil] at e2
  refine ev_pos ?_ (ev_bind _ (seight_ev _) (ev_pos ?_ (ev_pos ?_ (ev_pos ?_ ?_))))
  · simp only [List.length_append, List.length_cons, List.length_nil]; omega
  · simp only [List.length_append, List.length_cons, List.length_nil]; omega
  · simp only [List.length_append, List.length_cons, List.length_nil]; omega
  · simp only [List.length_append, List.length_cons, List.length_nil]; omega
  · rw [e1] at hl
    exact hl
theorem items_len {c : SFace} (h : FitI c) (i : Nat) (hi : i < c.f1.length) : (itemL c.f1[i]).length ≤ 73 := by
  obtain ⟨h4, h5⟩ := h.item _ (List.getElem_mem hi)
  rw [itemL_len]
  omega
theorem sitems_loop (c : SFace) (h : FitI c) : ∀ (m i : Nat) (s : List Int), i + m = c.f1.length → s.length ≤ 1000 + i * 73 → Evr (fun k => spec_l03Bytes.l3 k c s (i : Int)) (s ++ (c.f1.drop i).flatMap itemL)
  | 0, i, s, hm, _ => by
    rw [List.drop_eq_nil_of_le (by omega), List.flatMap_nil, List.append_nil]
    exact ev_step _ (fun k => rfl) (ev_neg (by omega) ev_some)
  | m + 1, i, s, hm, hs => by
    have hi : i < c.f1.length := by omega
    have hn := h.len
    have hl := items_len h i hi
    refine ev_step _ (fun k => rfl) (ev_pos (by omega) (ev_bind _ (sitem_bytes c h i hi s (by omega)) ?_))
    rw [w64_next (by omega), List.drop_eq_getElem_cons hi, List.flatMap_cons, ← List.append_assoc]
    exact sitems_loop c h m (i + 1) _ (by omega) (by rw [List.length_append]; omega)
theorem sbytes_ev (c : SFace) (h : FitI c) : Evr (fun k => spec_l03Bytes.f k c) (faceL c) := by
  have hn := h.nm
  have hh := faceH_len c
  have hh' := hh
  unfold faceH at hh'
  simp only [List.length_append, List.length_cons, List.length_nil] at hh'
  unfold spec_l03Bytes.f spec_l03Bytes.e4
  simp only [stext_ev hn, Option.bind_some]
  have hl := sitems_loop c h _ 0 (faceH c) (Nat.zero_add _) (by omega)
  rw [List.drop_zero] at hl
  refine ev_pos ?_ (ev_pos ?_ (ev_bind _ hl ev_some))
  · simp only [List.length_append, List.length_cons, List.length_nil]; omega
  · simp only [List.length_append, List.length_cons, List.length_nil]; omega
/-! The program. -/
end Go.Proofs.YtoclajfeeebbbabGreatDoor.V
