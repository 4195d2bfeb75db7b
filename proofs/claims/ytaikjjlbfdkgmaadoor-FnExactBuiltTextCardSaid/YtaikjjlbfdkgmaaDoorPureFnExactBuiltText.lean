/- The program's BuiltText returns what the reference's returns, and leaves its argument alone. For every Built (more than 2 to the 20 in all: the statement answers true at once). -/
import Derived.Test.YtaikjjlbfdkgmaaDoorImageFnExactBuiltText
import Derived.Test.YtaikjjlbfdkgmaaDoorDigitsFnExactBuiltText
import Derived.Lib.Join
set_option linter.unusedVariables false
set_option linter.unusedSimpArgs false
namespace Go.Proofs.YtaikjjlbfdkgmaaDoor.Pure
open Go.RowKit Go.Proofs.YtaikjjlbfdkgmaaDoor Go.Proofs.YtaikjjlbfdkgmaaDoor.PFnExactBuiltText Go.Proofs.YtaikjjlbfdkgmaaDoor.CdFnExactBuiltText Go.Proofs.YtaikjjlbfdkgmaaDoor.ImFnExactBuiltText Go.Proofs.YtaikjjlbfdkgmaaDoor.DgFnExactBuiltText Go.Proofs.YtaikjjlbfdkgmaaDoorW.PrintWords Go.Proofs.YtaikjjlbfdkgmaaDoorW.PrintLast Go.Proofs.YtaikjjlbfdkgmaaDoorW.PrintMore Go.Proofs.YtaikjjlbfdkgmaaDoorW.Loops

def sp : ByteArray := ⟨#[32]⟩
def nl : ByteArray := ⟨#[10]⟩
/-- One more word. -/
def step (acc x : ByteArray) : ByteArray := acc ++ (sp ++ x)
theorem ba_ext {a b : ByteArray} (h : a.data.toList = b.data.toList) : a = b := ByteArray.ext (Array.toList_inj.1 h)
theorem foldl_data (l : List ByteArray) (acc : ByteArray) : (l.foldl step acc).data.toList = acc.data.toList ++ Lib.joinTail [32] (l.map (·.data.toList)) := by
  induction l generalizing acc with
  | nil => simp [Lib.joinTail]
  | cons x xs ih =>
    rw [List.foldl_cons, ih]
    unfold step
    simp [bl_append, Lib.joinTail, sp, List.append_assoc]
theorem joinOf_eq (x : ByteArray) (l : List ByteArray) : joinOf (x :: l) sp = l.foldl step x := by
  apply ba_ext
  rw [foldl_data]
  show (Lib.join ((x :: l).map (·.data.toList)) sp.data.toList).toArray.toList = _
  rw [List.map_cons, Lib.join_cons]
  rfl
theorem foldl_size (l : List ByteArray) (acc : ByteArray) : (l.foldl step acc).size = acc.size + sizes l := by
  induction l generalizing acc with
  | nil => simp [sizes]
  | cons x xs ih =>
    rw [List.foldl_cons, ih]
    unfold step sizes
    have : sp.size = 1 := rfl
    simp only [sz_append, List.length_cons, List.map_cons, List.sum_cons]
    omega
theorem sizes_drop (l : List ByteArray) (i : Nat) (h : i < l.length) : sizes (l.drop i) = 1 + l[i].size + sizes (l.drop (i + 1)) := by
  rw [List.drop_eq_getElem_cons h]
  unfold sizes
  simp only [List.length_cons, List.map_cons, List.sum_cons]
  omega
theorem rdOf_at (l : List ByteArray) (i : Nat) (h : i < l.length) : rdOf ByteArray.empty l (i : Int) = l[i] := by
  unfold rdOf
  exact getD_at l ByteArray.empty i h

theorem builtLoop_ev (a b : Int) (c : ByteArray) (d : Int) (e : List ICode) (f : List ByteArray) (g : List Int) (l : List ByteArray) (hl : l.length ≤ 1048576) :
    ∀ (m i : Nat) (acc : ByteArray), i + m = l.length → acc.size + sizes (l.drop i) ≤ 1000000000 → Ev (fun k => spec_l08Built.l0 k acc (i : Int) a b c d e f g l) ((l.drop i).foldl step acc ++ nl) := by
  intro m
  induction m with
  | zero =>
    intro i acc hi hs
    rw [List.drop_eq_nil_of_le (by omega)]
    refine ev_step _ (fun k => spec_l08Built.l0.eq_2 _ _ _ _ _ _ _ _ _ _ k) (ev_if_neg (by omega) (ev_if_pos (by omega) ?_))
    exact ev_some
  | succ m ih =>
    intro i acc hi hs
    have hlt : i < l.length := by omega
    have hd := sizes_drop l i hlt
    refine ev_step _ (fun k => spec_l08Built.l0.eq_2 _ _ _ _ _ _ _ _ _ _ k) (ev_if_pos (by omega) (ev_if_pos (by omega) ?_))
    rw [rdOf_at l i hlt, wrap_next hlt (by omega)]
    refine ev_if_pos (by omega) (ev_if_pos (by omega) ?_)
    rw [List.drop_eq_getElem_cons hlt, List.foldl_cons]
    refine ih (i + 1) (step acc l[i]) (by omega) ?_
    have : sp.size = 1 := rfl
    unfold step
    simp only [sz_append]
    omega

theorem words_at (a : Int) (h : 0 ≤ a ∧ a ≤ 18) : ∃ w, spec_CodeWord.f a = some w ∧ impl_CodeWord.f a = some w ∧ w.size ≤ 20 := by
  have : a = 0 ∨ a = 1 ∨ a = 2 ∨ a = 3 ∨ a = 4 ∨ a = 5 ∨ a = 6 ∨ a = 7 ∨ a = 8 ∨ a = 9 ∨ a = 10 ∨ a = 11 ∨ a = 12 ∨ a = 13 ∨ a = 14 ∨ a = 15 ∨ a = 16 ∨ a = 17 ∨ a = 18 := by omega
  rcases this with rfl | rfl | rfl | rfl | rfl | rfl | rfl | rfl | rfl | rfl | rfl | rfl | rfl | rfl | rfl | rfl | rfl | rfl | rfl <;> exact ⟨_, rfl, rfl, by decide +kernel⟩

/-- The text. -/
def textB (a b : Int) (w c : ByteArray) (n : Nat) (l : List ByteArray) : ByteArray :=
  if a = 0 then l.foldl step ((⟨#[98, 117, 105, 108, 116, 32]⟩ : ByteArray) ++ digitsB n) ++ nl
  else [w, c, digitsB b].foldl step (⟨#[101, 114, 114, 111, 114]⟩ : ByteArray) ++ nl
theorem head_eq (d : ByteArray) : (⟨#[98, 117, 105, 108, 116, 32]⟩ : ByteArray) ++ d = step (⟨#[98, 117, 105, 108, 116]⟩ : ByteArray) d := by
  apply ba_ext
  unfold step
  simp [bl_append, sp]

theorem specText_ev (a b : Int) (c : ByteArray) (d : Int) (e : List ICode) (f : List ByteArray) (g : List Int) (l : List ByteArray) (w : ByteArray) (hw : spec_CodeWord.f a = some w) (hws : w.size ≤ 20)
    (hb : (Lit.int .i64 b).wf = true) (hc : c.size ≤ 1048576) (he : e.length ≤ 1048576) (hl : sizes l ≤ 1048576) : Ev (fun k => spec_l08Built.f k a b c d e f g l) (textB a b w c e.length l) := by
  have hb' := wf_i64 hb
  have hll : l.length ≤ sizes l := by unfold sizes; omega
  unfold spec_l08Built.f textB
  by_cases h0 : a = 0
  · rw [if_pos h0]
    have hs := digitsB_size (e.length : Int) (by omega) (by omega)
    refine ev_if_pos h0 (ev_bind _ (digits_ev (e.length : Int) (by omega) (by omega)) (ev_if_pos (by omega) ?_))
    have h := builtLoop_ev a b c d e f g l (by omega) l.length 0 ((⟨#[98, 117, 105, 108, 116, 32]⟩ : ByteArray) ++ digitsB e.length) (by omega) (by
      have : (⟨#[98, 117, 105, 108, 116, 32]⟩ : ByteArray).size = 6 := rfl
      simp only [sz_append, List.drop_zero]
      omega)
    simpa using h
  · rw [if_neg h0]
    have hs := digitsB_size b hb'.1 hb'.2
    refine ev_if_neg h0 (ev_bind _ (ev_const hw) (ev_if_pos (by omega) (ev_if_pos (by omega) (ev_if_pos (by omega) (ev_if_pos (by omega) (ev_bind _ (digits_ev b hb'.1 hb'.2) (ev_if_pos (by omega) (ev_if_pos (by omega) ?_))))))))
    refine ev_eq ev_some ?_
    apply ba_ext
    simp [bl_append, step, sp, nl, List.append_assoc]

theorem implText_eq (a b : Int) (c : ByteArray) (d : Int) (e : List ICode) (f : List ByteArray) (g : List Int) (l : List ByteArray) (w : ByteArray) (hw : impl_CodeWord.f a = some w) (hws : w.size ≤ 20)
    (hb : (Lit.int .i64 b).wf = true) (hc : c.size ≤ 1048576) (he : e.length ≤ 1048576) (hl : sizes l ≤ 1048576) : impl_builtText.f a b c d e f g l = some (textB a b w c e.length l) := by
  have hb' := wf_i64 hb
  have hll : l.length ≤ sizes l := by unfold sizes; omega
  unfold impl_builtText.f textB
  by_cases h0 : a = 0
  · rw [if_pos h0, if_pos h0]
    have hs := digitsB_size (e.length : Int) (by omega) (by omega)
    have e1 : strconv_Itoa.f (e.length : Int) = some (digitsB e.length) := if_pos ⟨by omega, by omega⟩
    rw [e1]
    have hz : (joinOf (⟨#[98, 117, 105, 108, 116]⟩ :: digitsB e.length :: l) sp).size ≤ 2000000 := by
      rw [joinOf_eq, foldl_size]
      have : (⟨#[98, 117, 105, 108, 116]⟩ : ByteArray).size = 5 := rfl
      have h2 : sizes (digitsB e.length :: l) = 1 + (digitsB e.length).size + sizes l := by
        unfold sizes
        simp only [List.length_cons, List.map_cons, List.sum_cons]
        omega
      omega
    have e2 : strings_Join.f ([⟨#[98, 117, 105, 108, 116]⟩, digitsB e.length] ++ l) (⟨#[32]⟩ : ByteArray) = some (joinOf (⟨#[98, 117, 105, 108, 116]⟩ :: digitsB e.length :: l) sp) := by
      unfold strings_Join.f
      rw [if_pos ⟨by simp; omega, by
        show (joinOf (⟨#[98, 117, 105, 108, 116]⟩ :: digitsB e.length :: l) sp).size ≤ _
        omega⟩]
      rfl
    simp only [Option.bind_some]
    rw [if_pos (by simp; omega), e2]
    simp only [Option.bind_some]
    rw [if_pos (by omega), joinOf_eq, List.foldl_cons, head_eq]
    rfl
  · rw [if_neg h0, if_neg h0, hw]
    have hs := digitsB_size b hb'.1 hb'.2
    have e1 : strconv_Itoa.f b = some (digitsB b) := if_pos ⟨by omega, by omega⟩
    simp only [Option.bind_some]
    rw [e1]
    have hz : (joinOf [⟨#[101, 114, 114, 111, 114]⟩, w, c, digitsB b] sp).size ≤ 2000000 := by
      rw [joinOf_eq, foldl_size]
      have : (⟨#[101, 114, 114, 111, 114]⟩ : ByteArray).size = 5 := rfl
      have h2 : sizes [w, c, digitsB b] = 3 + w.size + c.size + (digitsB b).size := by
        unfold sizes
        simp only [List.length_cons, List.map_cons, List.sum_cons, List.length_nil, List.map_nil, List.sum_nil]
        omega
      omega
    have e2 : strings_Join.f [⟨#[101, 114, 114, 111, 114]⟩, w, c, digitsB b] (⟨#[32]⟩ : ByteArray) = some (joinOf [⟨#[101, 114, 114, 111, 114]⟩, w, c, digitsB b] sp) := by
      unfold strings_Join.f
      rw [if_pos ⟨by simp, by
        show (joinOf [⟨#[101, 114, 114, 111, 114]⟩, w, c, digitsB b] sp).size ≤ _
        omega⟩]
      rfl
    simp only [Option.bind_some]
    rw [e2]
    simp only [Option.bind_some]
    rw [if_pos (by omega), joinOf_eq]
    rfl

theorem areAllStr_ev (l : List ByteArray) (b : ByteArray → Bool) (P : ByteArray → Option Bool) (hP : ∀ x, P x = some (b x)) (hn : l.length ≤ 9223372036854775806) : Ev (fun k => impl_areAll_string.f k l P) (l.all b) := by
  have hQ : (fun az0 => impl_areAll_string_1.f az0 P) = fun x => some (!b x) := by
    funext x
    unfold impl_areAll_string_1.f
    rw [hP]
    rfl
  unfold impl_areAll_string.f slices_ContainsFunc_string_string.f slices_IndexFunc_string_string.f
  rw [hQ]
  have h := idx_loop l ByteArray.empty (fun x => !b x) (fun _ x => some (!b x)) (fun k i => slices_IndexFunc_string_string.l0 k l (fun x => some (!b x)) (l.length : Int) i) (fun k i => by simp only [slices_IndexFunc_string_string.l0]; rfl) (fun x _ => ev_some) hn
  have e : l.all b = !(decide (idxOf (fun x => !b x) l ≥ 0)) := by
    rw [idxOf_ge]
    simp [List.all_eq_not_any_not]
  rw [e]
  exact ev_bind _ (ev_bind _ h ev_some) ev_some

/-- Is it fit to be told? -/
def fitB (a : Int) (c : ByteArray) (l : List ByteArray) : Bool := decide (0 ≤ a ∧ a ≤ 18) && (decide (l.length ≤ 20) && (decide (c.size ≤ 40) && l.all fun x => decide (x.size ≤ 40)))
def answer (a b : Int) (w c : ByteArray) (n : Nat) (l : List ByteArray) : ByteArray × Int := if fitB a c l = true then (textB a b w c n l, 0) else (⟨#[]⟩, 1)

theorem fit_false {a b : Int} {w c : ByteArray} {n : Nat} {l : List ByteArray} (h : fitB a c l = false) : answer a b w c n l = (⟨#[]⟩, 1) := by
  unfold answer
  rw [h]
  rfl

theorem spec_ev (a b : Int) (c : ByteArray) (d : Int) (e : List ICode) (f : List ByteArray) (g : List Int) (l : List ByteArray) (w : ByteArray) (hw : 0 ≤ a ∧ a ≤ 18 → spec_CodeWord.f a = some w) (hws : w.size ≤ 20)
    (hb : (Lit.int .i64 b).wf = true) (hc : c.size ≤ 1048576) (he : e.length ≤ 1048576) (hl : sizes l ≤ 1048576) : Ev (fun k => spec_BuiltText.f k a b c d e f g l) (answer a b w c e.length l) := by
  have hll : l.length ≤ sizes l := by unfold sizes; omega
  have hin : spec_l01In.f a 0 18 = some (decide (0 ≤ a ∧ a ≤ 18)) := by
    unfold spec_l01In.f
    by_cases h1 : a ≥ 0 <;> by_cases h2 : a ≤ 18 <;> simp [h1, h2] <;> omega
  have bad : ∀ r, r = (⟨#[]⟩, 1) → Ev (fun k => spec_BuiltText.j0 k true a b c d e f g l) r := fun r hr => by
    subst hr
    exact ev_step _ (fun k => spec_BuiltText.j0.eq_2 _ _ _ _ _ _ _ _ _ k) (ev_if_pos rfl ev_some)
  unfold spec_BuiltText.f
  refine ev_bind _ (ev_const hin) ?_
  by_cases h1 : 0 ≤ a ∧ a ≤ 18
  · refine ev_if_pos (decide_eq_true h1) ?_
    by_cases h2 : l.length ≤ 20
    · refine ev_if_neg (by omega) ?_
      by_cases h3 : c.size ≤ 40
      · rw [show decide ((c.size : Int) > 40) = false by simp; omega]
        refine ev_step _ (fun k => spec_BuiltText.j0.eq_2 _ _ _ _ _ _ _ _ _ k) (ev_if_neg (by simp) ?_)
        have h := scan_loop l.length (fun i => decide ((l.getD i ByteArray.empty).size ≤ 40)) (fun k i => spec_BuiltText.l0 k i a b c d e f g l) (textB a b w c e.length l, (0 : Int)) ((⟨#[]⟩ : ByteArray), (1 : Int))
          (fun i hi hbi r hr => by
            have hbi' := of_decide_eq_true hbi
            refine ev_step _ (fun k => spec_BuiltText.l0.eq_2 _ _ _ _ _ _ _ _ _ k) (ev_if_pos (by omega) (ev_if_pos (by omega) (ev_if_neg ?_ ?_)))
            · unfold rdOf
              simp only [Int.toNat_natCast]
              omega
            · rw [wrap_next hi (by omega)]
              exact hr)
          (fun i hi hbi => by
            have hbi' := of_decide_eq_false hbi
            refine ev_step _ (fun k => spec_BuiltText.l0.eq_2 _ _ _ _ _ _ _ _ _ k) (ev_if_pos (by omega) (ev_if_pos (by omega) (ev_if_pos ?_ ev_some)))
            unfold rdOf
            simp only [Int.toNat_natCast]
            omega)
          (ev_step _ (fun k => spec_BuiltText.l0.eq_2 _ _ _ _ _ _ _ _ _ k) (ev_if_neg (by omega) (ev_bind _ (specText_ev a b c d e f g l w (hw h1) hws hb hc he hl) ev_some)))
        rw [all_range l ByteArray.empty (fun x => decide (x.size ≤ 40))] at h
        refine ev_eq h ?_
        unfold answer fitB
        simp [h1, h2, h3]
      · rw [show decide ((c.size : Int) > 40) = true by simp; omega]
        exact bad _ (fit_false (by unfold fitB; simp [h3]))
    · exact ev_if_pos (by omega) (bad _ (fit_false (by unfold fitB; simp [h2])))
  · exact ev_if_neg (by simpa using h1) (bad _ (fit_false (by unfold fitB; simp [h1])))

theorem impl_ev (a b : Int) (c : ByteArray) (d : Int) (e : List ICode) (f : List ByteArray) (g : List Int) (l : List ByteArray) (w : ByteArray) (hw : 0 ≤ a ∧ a ≤ 18 → impl_CodeWord.f a = some w) (hws : w.size ≤ 20)
    (hb : (Lit.int .i64 b).wf = true) (hc : c.size ≤ 1048576) (he : e.length ≤ 1048576) (hl : sizes l ≤ 1048576) : Ev (fun k => impl_BuiltText.f k a b c d e f g l) (answer a b w c e.length l) := by
  have hll : l.length ≤ sizes l := by unfold sizes; omega
  have hin : impl_within.f a 0 18 = some (decide (0 ≤ a ∧ a ≤ 18)) := by
    unfold impl_within.f
    by_cases h1 : 0 ≤ a <;> by_cases h2 : a ≤ 18 <;> simp [h1, h2] <;> omega
  unfold impl_BuiltText.f
  refine ev_bind _ (ev_const hin) ?_
  by_cases h1 : 0 ≤ a ∧ a ≤ 18
  · refine ev_if_pos (decide_eq_true h1) (ev_bind _ (ev_const rfl) ?_)
    by_cases h3 : c.size ≤ 40
    · refine ev_if_pos (decide_eq_true (by omega)) ?_
      by_cases h2 : l.length ≤ 20
      · refine ev_if_neg (by omega) (ev_bind _ (areAllStr_ev l (fun x => decide (x.size ≤ 40)) _ (fun x => by unfold impl_BuiltText_1.f; congr 1; by_cases hx : x.size ≤ 40 <;> simp [hx] <;> omega) (by omega)) ?_)
        cases h4 : (l.all fun x => decide (x.size ≤ 40)) with
        | true =>
          refine ev_if_pos rfl (ev_bind _ (ev_const (implText_eq a b c d e f g l w (hw h1) hws hb hc he hl)) (ev_eq ev_some ?_))
          unfold answer fitB
          rw [h4]
          simp [h1, h2, h3]
        | false => exact ev_if_neg (by simp) (ev_eq ev_some (fit_false (by unfold fitB; rw [h4]; simp)).symm)
      · exact ev_if_pos (by omega) (ev_eq ev_some (fit_false (by unfold fitB; simp [h2])).symm)
    · exact ev_if_neg (by simp; omega) (ev_eq ev_some (fit_false (by unfold fitB; simp [h3])).symm)
  · exact ev_if_neg (by simpa using h1) (ev_eq ev_some (fit_false (by unfold fitB; simp [h1])).symm)

theorem FnExactBuiltText : laws_FnExactBuiltText.Pure := by
  intro x good
  have hm : (maxLen : Nat) = 9223372036854775807 := rfl
  obtain ⟨g0, g1, g2, g3, g4, g4'⟩ := good
  refine Ev.rounds (g := fun k => laws_FnExactBuiltText.f k x.f0 x.f1 x.f2 x.f3.f0 x.f3.f1 x.f3.f2 x.f3.f3 x.f4) ?_
  unfold laws_FnExactBuiltText.f
  have hz : ∃ t, Ev (fun k => laws_szBuilt.f k x.f0 x.f1 x.f2 x.f3.f0 x.f3.f1 x.f3.f2 x.f3.f3 x.f4 1048576) t ∧ (t < 0 ∨ x.f2.size + (wtCodes x.f3.f1 + sizes x.f3.f2 + x.f3.f3.length) + sizes x.f4 ≤ 1048576) := by
    unfold laws_szBuilt.f
    have e1 : wrap64 (1048576 - (x.f2.size : Int)) = 1048576 - x.f2.size := by unfold wrap64; omega
    rw [e1]
    by_cases c1 : (1048576 : Int) - x.f2.size < 0
    · exact ⟨-1, ev_if_pos c1 ev_some, .inl (by omega)⟩
    · obtain ⟨t1, ht1, hw1⟩ := szImage_ev x.f3 g3 (1048576 - x.f2.size) (by omega) (by omega)
      by_cases c2 : t1 < 0
      · exact ⟨-1, ev_if_neg c1 (ev_bind t1 ht1 (ev_if_pos c2 ev_some)), .inl (by omega)⟩
      · obtain ⟨h1, h1'⟩ := hw1.resolve_left c2
        obtain ⟨t2, ht2, hw2⟩ := szStrS_ev x.f4 g4 g4' t1 h1 (by omega)
        by_cases c3 : t2 < 0
        · exact ⟨-1, ev_if_neg c1 (ev_bind t1 ht1 (ev_if_neg c2 (ev_bind t2 ht2 (ev_if_pos c3 ev_some)))), .inl (by omega)⟩
        · obtain ⟨h2, h2'⟩ := hw2.resolve_left c3
          exact ⟨t2, ev_if_neg c1 (ev_bind t1 ht1 (ev_if_neg c2 (ev_bind t2 ht2 (ev_if_neg c3 ev_some)))), .inr (by omega)⟩
  obtain ⟨t, ht, hw⟩ := hz
  refine ev_bind t ht ?_
  by_cases c : t < 0
  · exact ev_if_pos c ev_some
  · have hw := hw.resolve_left c
    have h4 : x.f4.length ≤ sizes x.f4 := by unfold sizes; omega
    have hto : Ev (fun k => laws_toBuilt.f k x.f0 x.f1 x.f2 x.f3.f0 x.f3.f1 x.f3.f2 x.f3.f3 x.f4) (x.f0, x.f1, x.f2, x.f3.f0, x.f3.f1.map cvCode, x.f3.f2, x.f3.f3, x.f4) := by
      unfold laws_toBuilt.f
      exact ev_bind _ (toImage_ev x.f3 (by omega)) (ev_bind _ (toStrS_ev x.f4 (by omega)) ev_some)
    obtain ⟨hcl, _⟩ := codes_small x.f3.f1 (by omega)
    obtain ⟨w, hw1, hw2, hws⟩ : ∃ w : ByteArray, (0 ≤ x.f0 ∧ x.f0 ≤ 18 → spec_CodeWord.f x.f0 = some w) ∧ (0 ≤ x.f0 ∧ x.f0 ≤ 18 → impl_CodeWord.f x.f0 = some w) ∧ w.size ≤ 20 := by
      by_cases h : 0 ≤ x.f0 ∧ x.f0 ≤ 18
      · obtain ⟨w, h1, h2, h3⟩ := words_at x.f0 h
        exact ⟨w, fun _ => h1, fun _ => h2, h3⟩
      · exact ⟨⟨#[]⟩, fun h' => absurd h' h, fun h' => absurd h' h, by decide⟩
    refine ev_if_neg c (ev_bind _ hto (ev_bind _ (spec_ev x.f0 x.f1 x.f2 x.f3.f0 (x.f3.f1.map cvCode) x.f3.f2 x.f3.f3 x.f4 w hw1 hws g1 (by omega) hcl (by omega))
      (ev_bind _ hto (ev_bind _ (impl_ev x.f0 x.f1 x.f2 x.f3.f0 (x.f3.f1.map cvCode) x.f3.f2 x.f3.f3 x.f4 w hw2 hws g1 (by omega) hcl (by omega)) ?_))))
    refine ev_if_pos rfl ?_
    refine ev_step _ (fun k => laws_FnExactBuiltText.j0.eq_2 _ _ _ _ _ _ _ _ _ _ _ _ _ _ _ _ _ k) (ev_if_neg (by simp) (ev_bind _ hto ?_))
    have heq : Ev (fun k => laws_eqBuilt.f k x.f0 x.f1 x.f2 x.f3.f0 (x.f3.f1.map cvCode) x.f3.f2 x.f3.f3 x.f4 x.f0 x.f1 x.f2 x.f3.f0 (x.f3.f1.map cvCode) x.f3.f2 x.f3.f3 x.f4) true := by
      unfold laws_eqBuilt.f
      exact ev_if_pos rfl (ev_if_pos rfl (ev_if_pos rfl (ev_bind true (eqImage_ev x.f3 (by omega)) (ev_if_pos rfl (ev_bind true (eqStrS_ev x.f4 (by omega)) (ev_if_pos rfl ev_some))))))
    exact ev_bind true heq (ev_if_pos rfl ev_some)

end Go.Proofs.YtaikjjlbfdkgmaaDoor.Pure
