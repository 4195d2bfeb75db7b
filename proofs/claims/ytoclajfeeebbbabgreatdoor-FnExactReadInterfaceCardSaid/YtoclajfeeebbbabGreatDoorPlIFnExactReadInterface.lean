/- Interfaces: what both say of one, its bound, copy and comparison in a law. -/
import Derived.Test.YtoclajfeeebbbabGreatDoorPlDFnExactReadInterface
import Derived.Test.YtoclajfeeebbbabGreatDoorPlNFnExactReadInterface
import Derived.IntWalk
set_option linter.unusedVariables false
set_option linter.unusedSimpArgs false
namespace Go.Proofs.YtoclajfeeebbbabGreatDoor.V
open Go.Proofs.YtoclajfeeebbbabGreatDoor.E

/-! Items. -/
def charB (v : Int) : Bool := btw v 0 55295 || btw v 57344 1114111
def valB (t v : Int) : Bool := if t = 2 then btw v 0 1 else if t = 3 then charB v else true
def paramB (x : SParam) : Bool := btw x.f0 1 3
def headI (a : SItem) : Bool := (decide (a.f0 = 1) || decide (a.f3 = 0)) && ((decide (a.f0 = 2) || decide (a.f2 = 0)) && (decide (a.f0 = 3) || decide (a.f5.length = 0)))
def bodyI (a : SItem) : Bool :=
  if a.f0 = 1 then btw a.f1 1 3 && valB a.f1 a.f3 else if a.f0 = 2 then btw a.f1 1 3 && btw a.f2 0 100
  else if a.f0 = 3 then btw a.f1 0 3 && (decide (a.f5.length ≤ 20) && a.f5.all paramB) else false
def itemB (a : SItem) : Bool := modB a.f4 && (headI a && bodyI a)

theorem ichar_eq (k : Nat) (v : Int) : impl_CharOK.f k v = some (charB v) := by
  unfold impl_CharOK.f impl_CharOK.e1 charB btw
  simp only [within_eq, Option.bind_some]
  by_cases h1 : 0 ≤ v <;> by_cases h2 : v ≤ 1114111 <;> by_cases h3 : 55296 ≤ v <;> by_cases h4 : v ≤ 57343 <;> simp [h1, h2, h3, h4] <;> omega
theorem schar_eq (k : Nat) (v : Int) : spec_CharOK.f k v = some (charB v) := by
  unfold spec_CharOK.f spec_CharOK.e1 charB btw
  simp only [in_eq, Option.bind_some]
  cases decide (0 ≤ v) && decide (v ≤ 55295) <;> simp
theorem ival_eq (k : Nat) (t v : Int) (h : btw t 1 3 = true) : impl_isValueOf.f k t v = some (valB t v) := by
  unfold impl_isValueOf.f impl_isValueOf.e1 valB
  simp only [within_eq, ichar_eq, Option.bind_some]
  unfold btw at h ⊢
  simp only [Bool.and_eq_true, decide_eq_true_eq] at h
  have : t = 1 ∨ t = 2 ∨ t = 3 := by omega
  rcases this with h | h | h <;> subst h
  · simp
  · cases decide (0 ≤ v) && decide (v ≤ 1) <;> simp
  · simp
theorem istype_eq (k : Nat) (t : Int) : impl_isType.f k t = some (btw t 1 3) := by
  unfold impl_isType.f btw
  simp only [within_eq, Option.bind_some]

/-- A list all of which holds p: the library's search for one that does not. -/
theorem iparams_ev (l : List SParam) (hn : l.length < 9223372036854775807) : Evr (fun k => impl_areAll_impl_Param_1.f k l) (l.all paramB) := by
  unfold impl_areAll_impl_Param_1.f slices_ContainsFunc___impl_Param_impl_Param_1.f slices_IndexFunc___impl_Param_impl_Param_1.f slices_IndexFunc___impl_Param_impl_Param_1.e2
  have one : ∀ k x, impl_areAll_impl_Param__1_1.f k x = some (!paramB x) := fun k x => by
    unfold impl_areAll_impl_Param__1_1.f impl_isItem_1.f
    simp only [istype_eq, Option.bind_some]; rfl
  have h := ev_first l (fun x => !paramB x) (fun k i => slices_IndexFunc___impl_Param_impl_Param_1.l1 k l i) (fun i => .inl (i : Int)) (.inr ()) hn (ev_neg (by omega) ev_some) (fun i hi hp => ev_pos (by omega) (by simp only [at?_nat hi, Option.bind_some, one, hp, if_true]; exact ev_some))
    (fun i hi hp r hr => ev_pos (by omega) (by simp only [at?_nat hi, Option.bind_some, one, hp, Bool.false_eq_true, if_false, w64_next (show i < 9223372036854775807 by omega)]; exact hr))
  cases hf : firstAt (fun x => !paramB x) l 0 with
  | none =>
    rw [hf] at h
    rw [all_none hf]
    exact ev_bind _ (ev_bind _ (ev_bind _ h ev_some) ev_some) (ev_of fun k => by simp)
  | some i =>
    rw [hf] at h
    rw [all_some hf]
    exact ev_bind _ (ev_bind _ (ev_bind _ h ev_some) ev_some) (ev_of fun k => by simp)
theorem sparams_ev (a : SItem) (hn : a.f5.length < 9223372036854775807) : Evr (fun k => spec_l03Item.e5 k a) (if a.f5.all paramB then .inr () else .inl false) := by
  unfold spec_l03Item.e5
  have h := ev_first a.f5 (fun x => !paramB x) (fun k i => spec_l03Item.l4 k a i) (fun i => .inl false) (.inr ()) hn (ev_neg (by omega) ev_some) (fun i hi hp => ev_pos (by omega) (by
      have hp' : paramB a.f5[i] = false := by simpa using hp
      unfold paramB btw at hp'
      simp only [at?_nat hi, Option.bind_some, in_eq, hp', Bool.false_eq_true, if_false]; exact ev_some))
    (fun i hi hp r hr => ev_pos (by omega) (by
      have hp' : paramB a.f5[i] = true := by simpa using hp
      unfold paramB btw at hp'
      simp only [at?_nat hi, Option.bind_some, in_eq, hp', if_true, w64_next (show i < 9223372036854775807 by omega)]; exact hr))
  cases hf : firstAt (fun x => !paramB x) a.f5 0 with
  | none =>
    rw [hf] at h
    rw [all_none hf]
    exact h
  | some i =>
    rw [hf] at h
    rw [all_some hf]
    exact h
theorem iitem_ev (a : SItem) (h4 : a.f4.size < 9223372036854775807) (h5 : a.f5.length < 9223372036854775807) : Evr (fun k => impl_isItem.f k a) (itemB a) := by
  unfold impl_isItem.f
  refine ev_bind (!(modB a.f4 && headI a)) ?_ ?_
  · unfold impl_isItem.e1
    refine ev_bind _ (isname_ev a.f4 h4) ?_
    cases modB a.f4
    · exact ev_some
    · refine ev_of fun k => ?_
      unfold headI
      by_cases c1 : a.f0 = 1
      · by_cases c2 : a.f2 = 0 <;> by_cases c3 : a.f5.length = 0 <;> simp [c1, c2, c3] <;> omega
      · by_cases c2 : a.f0 = 2
        · by_cases c4 : a.f3 = 0 <;> by_cases c3 : a.f5.length = 0 <;> simp [c2, c3, c4] <;> omega
        · by_cases c5 : a.f0 = 3
          · by_cases c4 : a.f3 = 0 <;> by_cases c3 : a.f2 = 0 <;> simp [c5, c3, c4]
          · by_cases c4 : a.f3 = 0 <;> by_cases c3 : a.f2 = 0 <;> by_cases c6 : a.f5.length = 0 <;> simp [c1, c2, c5, c3, c4, c6] <;> omega
  · unfold itemB
    rw [← Bool.and_assoc]
    cases modB a.f4 && headI a with
    | false => exact ev_some
    | true =>
      simp only [Bool.not_true, Bool.false_eq_true, if_false, Bool.true_and]
      unfold bodyI
      by_cases c1 : a.f0 = 1
      · simp only [if_pos c1]
        refine ev_of fun k => ?_
        unfold impl_isItem.e2
        simp only [istype_eq, Option.bind_some]
        cases hb : btw a.f1 1 3
        · rfl
        · simp only [if_true, ival_eq k a.f1 a.f3 hb, Option.bind_some, Bool.true_and]
      simp only [if_neg c1]
      by_cases c2 : a.f0 = 2
      · simp only [if_pos c2]
        refine ev_of fun k => ?_
        unfold impl_isItem.e3
        simp only [istype_eq, within_eq, Option.bind_some]
        cases hb : btw a.f1 1 3
        · rfl
        · simp only [if_true, Option.bind_some, Bool.true_and]; rfl
      simp only [if_neg c2]
      by_cases c3 : a.f0 = 3
      · simp only [if_pos c3]
        unfold impl_isItem.e4
        simp only [within_eq, Option.bind_some]
        show Evr _ (btw a.f1 0 3 && _)
        unfold btw
        cases decide (0 ≤ a.f1) && decide (a.f1 ≤ 3)
        · exact ev_some
        · simp only [if_true, Bool.true_and]
          by_cases c4 : a.f5.length ≤ 20
          · rw [decide_eq_true c4, Bool.true_and]
            exact ev_bind _ (ev_pos (by omega) (ev_bind _ (iparams_ev a.f5 h5) ev_some)) ev_some
          · rw [decide_eq_false c4, Bool.false_and]
            exact ev_bind _ (ev_neg (by omega) ev_some) ev_some
      · simp only [if_neg c3]; exact ev_some
theorem sitem_ev (a : SItem) (h5 : a.f5.length < 9223372036854775807) : Evr (fun k => spec_l03Item.f k a) (itemB a) := by
  unfold spec_l03Item.f
  refine ev_bind (!(modB a.f4 && (headI a && decide (a.f5.length ≤ 20)))) ?_ ?_
  · unfold spec_l03Item.e1
    refine ev_bind _ (lname_ev a.f4) ?_
    cases modB a.f4
    · exact ev_some
    · refine ev_of fun k => ?_
      unfold headI
      have hd : decide ((20 : Int) < (a.f5.length : Int)) = !decide (a.f5.length ≤ 20) := by
        rw [Bool.eq_iff_iff]; simp; omega
      have hz : (0 : Int) < (a.f5.length : Int) ↔ ¬ a.f5.length = 0 := by omega
      simp only [hd, hz]
      by_cases c5 : a.f0 = 3
      · by_cases c4 : a.f3 = 0 <;> by_cases c3 : a.f2 = 0 <;> simp [c5, c3, c4]
      · by_cases c6 : a.f5.length = 0
        · by_cases c1 : a.f0 = 1
          · by_cases c3 : a.f2 = 0 <;> simp [c1, c3, c6]
          · by_cases c2 : a.f0 = 2
            · by_cases c4 : a.f3 = 0 <;> simp [c2, c4, c6]
            · by_cases c4 : a.f3 = 0 <;> by_cases c3 : a.f2 = 0 <;> simp [c1, c2, c5, c3, c4, c6]
        · simp [c5, c6]
  · unfold itemB
    cases hm : modB a.f4 with
    | false => exact ev_some
    | true =>
      simp only [Bool.true_and]
      cases hh : headI a with
      | false => exact ev_some
      | true =>
        simp only [Bool.true_and]
        by_cases hl : a.f5.length ≤ 20
        · simp only [decide_eq_true hl, Bool.not_true, Bool.false_eq_true, if_false]
          unfold spec_l03Item.e6 bodyI
          by_cases c1 : a.f0 = 1
          · simp only [if_pos c1]
            refine ev_of fun k => ?_
            unfold spec_l03Item.e2 valB btw
            simp only [in_eq, schar_eq, Option.bind_some]
            cases decide (1 ≤ a.f1) && decide (a.f1 ≤ 3)
            · rfl
            · by_cases t2 : a.f1 = 2
              · have t3 : ¬ (2 : Int) = 3 := by decide
                simp only [t2, if_true, if_neg t3]
                cases decide (0 ≤ a.f3) && decide (a.f3 ≤ 1) <;> rfl
              · by_cases t3 : a.f1 = 3
                · have t4 : ¬ (3 : Int) = 2 := by decide
                  simp only [t3, if_neg t4, if_true, Option.bind_some, Bool.true_and]
                · simp only [if_neg t2, if_neg t3, if_true, Option.bind_some, Bool.true_and]
          simp only [if_neg c1]
          by_cases c2 : a.f0 = 2
          · simp only [if_pos c2]
            refine ev_of fun k => ?_
            unfold spec_l03Item.e3 btw
            simp only [in_eq, Option.bind_some]
            cases decide (1 ≤ a.f1) && decide (a.f1 ≤ 3) <;> rfl
          simp only [if_neg c2]
          by_cases c3 : a.f0 = 3
          · simp only [if_pos c3, decide_eq_true hl, Bool.true_and]
            cases hp : a.f5.all paramB with
            | false =>
              have := sparams_ev a h5
              rw [hp] at this
              rw [Bool.and_false]
              exact ev_bind _ (ev_bind _ this ev_some) ev_some
            | true =>
              have := sparams_ev a h5
              rw [hp] at this
              rw [Bool.and_true]
              exact ev_bind (.inl (btw a.f1 0 3)) (ev_bind _ this (ev_of fun k => by simp only [if_true, in_eq, Option.bind_some]; rfl)) ev_some
          · simp only [if_neg c3]; exact ev_some
        · have hb : bodyI a = false := by
            unfold bodyI
            have h3 : a.f0 = 3 ∨ a.f5.length = 0 := by
              unfold headI at hh
              simp only [Bool.and_eq_true, Bool.or_eq_true, decide_eq_true_eq] at hh
              exact hh.2.2
            have h3 : a.f0 = 3 := by omega
            have n1 : ¬ a.f0 = 1 := by omega
            have n2 : ¬ a.f0 = 2 := by omega
            rw [if_neg n1, if_neg n2, if_pos h3, decide_eq_false hl]
            simp
          rw [hb, decide_eq_false hl]
          exact ev_some

/-! Interfaces. -/
def namesOf (l : List SItem) : List ByteArray := l.map fun x => x.f4
def faceB (c : SFace) : Bool := modB c.f0 && (decide (c.f1.length ≤ 60) && (c.f1.all itemB && decide (namesOf c.f1).Nodup))
theorem iitems_ev (l : List SItem) (hn : l.length < 9223372036854775807) (hs : ∀ x ∈ l, x.f4.size < 9223372036854775807 ∧ x.f5.length < 9223372036854775807) : Evr (fun k => impl_areAll_impl_Item_1.f k l) (l.all itemB) := by
  unfold impl_areAll_impl_Item_1.f slices_ContainsFunc___impl_Item_impl_Item_1.f slices_IndexFunc___impl_Item_impl_Item_1.f slices_IndexFunc___impl_Item_impl_Item_1.e2
  have one : ∀ i (hi : i < l.length), Evr (fun k => impl_areAll_impl_Item__1_1.f k l[i]) (!itemB l[i]) := fun i hi => ev_bind _ (iitem_ev l[i] (hs _ (List.getElem_mem hi)).1 (hs _ (List.getElem_mem hi)).2) ev_some
  have h := ev_first l (fun x => !itemB x) (fun k i => slices_IndexFunc___impl_Item_impl_Item_1.l1 k l i) (fun i => .inl (i : Int)) (.inr ()) hn (ev_neg (by omega) ev_some) (fun i hi hp => ev_pos (by omega) (by simp only [at?_nat hi, Option.bind_some]; refine ev_bind _ (one i hi) ?_; simp only [hp, if_true]; exact ev_some))
    (fun i hi hp r hr => ev_pos (by omega) (by simp only [at?_nat hi, Option.bind_some]; refine ev_bind _ (one i hi) ?_; simp only [hp, Bool.false_eq_true, if_false, w64_next (show i < 9223372036854775807 by omega)]; exact hr))
  cases hf : firstAt (fun x => !itemB x) l 0 with
  | none =>
    rw [hf] at h
    rw [all_none hf]
    exact ev_bind _ (ev_bind _ (ev_bind _ h ev_some) ev_some) (ev_of fun k => by simp)
  | some i =>
    rw [hf] at h
    rw [all_some hf]
    exact ev_bind _ (ev_bind _ (ev_bind _ h ev_some) ev_some) (ev_of fun k => by simp)
theorem inames_ev (c : SFace) (hn : c.f1.length ≤ 1048576) : Evr (fun k => impl_InterfaceOK.e2 k c) (namesOf c.f1) := by
  have main : ∀ (m j : Nat), j + m = c.f1.length → Evr (fun k => impl_InterfaceOK.l1 k c (namesOf (c.f1.take j)) (j : Int)) (namesOf c.f1) := by
    intro m
    induction m with
    | zero =>
      intro j hj
      obtain rfl : j = c.f1.length := by omega
      rw [List.take_length]
      exact ev_step _ (fun k => rfl) (ev_neg (by omega) ev_some)
    | succ m ih =>
      intro j hj
      have hlt : j < c.f1.length := by omega
      refine ev_step _ (fun k => rfl) (ev_pos (by omega) ?_)
      simp only [at?_nat hlt, Option.bind_some]
      refine ev_pos (by simp [namesOf]; omega) ?_
      rw [w64_next (by omega)]
      have e : namesOf (c.f1.take j) ++ [c.f1[j].f4] = namesOf (c.f1.take (j + 1)) := by
        unfold namesOf
        rw [List.take_succ_eq_append_getElem hlt, List.map_append]; rfl
      rw [e]
      exact ih (j + 1) (by omega)
  exact main c.f1.length 0 (by omega)
theorem iface_ev (c : SFace) (h0 : c.f0.size < 9223372036854775807) (hn : c.f1.length ≤ 1048576) (hs : ∀ x ∈ c.f1, x.f4.size < 9223372036854775807 ∧ x.f5.length < 9223372036854775807) : Evr (fun k => impl_InterfaceOK.f k c) (faceB c) := by
  unfold impl_InterfaceOK.f
  refine ev_bind _ (inames_ev c hn) (ev_bind (faceB c) ?_ ev_some)
  unfold impl_InterfaceOK.e3 faceB
  refine ev_bind _ (isname_ev c.f0 h0) ?_
  cases modB c.f0
  · exact ev_some
  simp only [if_true, Bool.true_and]
  by_cases h1 : c.f1.length ≤ 60
  · rw [decide_eq_true h1, Bool.true_and]
    refine ev_pos (by omega) (ev_bind _ (iitems_ev c.f1 (by omega) hs) ?_)
    cases c.f1.all itemB
    · exact ev_some
    · simp only [if_true, Bool.true_and]
      refine ev_of fun k => ?_
      rw [idiffer_eq k _ (by simp [namesOf]; omega)]
      rfl
  · rw [decide_eq_false h1, Bool.false_and]
    exact ev_neg (by omega) ev_some
/-- What the reference looks at: each item, and that its name is none of those before it. -/
def gd : List SItem → List SItem → Bool
  | _, [] => true
  | s, x :: r => itemB x && (!(s.any fun y => decide (y.f4 = x.f4)) && gd (s ++ [x]) r)
theorem gd_iff : ∀ (r s : List SItem), gd s r = true ↔ (∀ x ∈ r, itemB x = true) ∧ (namesOf r).Nodup ∧ ∀ x ∈ r, ∀ y ∈ s, y.f4 ≠ x.f4
  | [], s => by simp [gd, namesOf]
  | x :: r, s => by
    have ih := gd_iff r (s ++ [x])
    have ha : (!(s.any fun y => decide (y.f4 = x.f4))) = true ↔ ∀ y ∈ s, y.f4 ≠ x.f4 := by simp
    have hn : (namesOf (x :: r)).Nodup ↔ (∀ y ∈ r, y.f4 ≠ x.f4) ∧ (namesOf r).Nodup := by
      unfold namesOf
      rw [List.map_cons, List.nodup_cons]
      simp
    rw [gd, Bool.and_eq_true, Bool.and_eq_true, ha, ih, hn]
    constructor
    · rintro ⟨h1, h2, h3, h4, h5⟩
      refine ⟨fun y hy => ?_, ⟨fun y hy e => h5 y hy x (by simp) e.symm, h4⟩, fun y hy z hz => ?_⟩
      · rcases List.mem_cons.1 hy with rfl | hy
        · exact h1
        · exact h3 y hy
      · rcases List.mem_cons.1 hy with rfl | hy
        · exact h2 z hz
        · exact h5 y hy z (by simp [hz])
    · rintro ⟨h1, ⟨h6, h4⟩, h5⟩
      refine ⟨h1 x (List.mem_cons_self ..), fun z hz => h5 x (List.mem_cons_self ..) z hz, fun y hy => h1 y (List.mem_cons_of_mem _ hy), h4, fun y hy z hz => ?_⟩
      rcases List.mem_append.1 hz with hz | hz
      · exact h5 y (List.mem_cons_of_mem _ hy) z hz
      · have : z = x := by simpa using hz
        subst this
        exact fun e => h6 y hy e.symm
theorem gd_all (l : List SItem) : gd [] l = (l.all itemB && decide (namesOf l).Nodup) := by
  rw [Bool.eq_iff_iff, gd_iff, Bool.and_eq_true, List.all_eq_true, decide_eq_true_eq]
  constructor
  · exact fun ⟨a, b, _⟩ => ⟨a, b⟩
  · exact fun ⟨a, b⟩ => ⟨a, b, fun x _ y hy => by cases hy⟩
theorem sfind_ev (l : List SItem) (n : ByteArray) (hn : l.length < 9223372036854775807) : ∃ r, Evr (fun k => spec_l03Find.f k l n) r ∧ (0 ≤ r ↔ (l.any fun y => decide (y.f4 = n)) = true) := by
  unfold spec_l03Find.f spec_l03Find.e2
  have h := ev_first l (fun x => decide (x.f4 = n)) (fun k i => spec_l03Find.l1 k l n i) (fun i => .inl (i : Int)) (.inr ()) hn (ev_neg (by omega) ev_some) (fun i hi hp => ev_pos (by omega) (by
      simp only [at?_nat hi, Option.bind_some]; exact ev_pos (by simpa using hp) ev_some))
    (fun i hi hp r hr => ev_pos (by omega) (by simp only [at?_nat hi, Option.bind_some]; refine ev_neg (by simpa using hp) ?_; rw [w64_next (by omega)]; exact hr))
  cases hf : firstAt (fun x => decide (x.f4 = n)) l 0 with
  | none =>
    rw [hf] at h
    refine ⟨-1, ev_bind _ h ev_some, ?_⟩
    have := firstAt_none.1 hf
    constructor
    · intro h; omega
    · intro h
      obtain ⟨x, hx, hp⟩ := List.any_eq_true.1 h
      rw [this x hx] at hp
      cases hp
  | some i =>
    rw [hf] at h
    obtain ⟨h1, h2, h3, h4⟩ := firstAt_some hf
    refine ⟨i, ev_bind _ h ev_some, ?_⟩
    constructor
    · exact fun _ => List.any_eq_true.2 ⟨_, List.getElem_mem h3, h4⟩
    · intro _; omega
theorem sface_ev (c : SFace) (hn : c.f1.length ≤ 1048576) (hs : ∀ x ∈ c.f1, x.f4.size < 9223372036854775807 ∧ x.f5.length < 9223372036854775807) : Evr (fun k => spec_InterfaceOK.f k c) (faceB c) := by
  unfold spec_InterfaceOK.f
  refine ev_bind (!(modB c.f0 && decide (c.f1.length ≤ 60))) ?_ ?_
  · unfold spec_InterfaceOK.e1
    refine ev_bind _ (lname_ev c.f0) ?_
    cases modB c.f0
    · exact ev_some
    · refine ev_of fun k => ?_
      have hd : decide ((60 : Int) < (c.f1.length : Int)) = !decide (c.f1.length ≤ 60) := by
        rw [Bool.eq_iff_iff]; simp; omega
      simp only [if_true, hd, Bool.true_and]
  · unfold faceB
    rw [← Bool.and_assoc]
    cases modB c.f0 && decide (c.f1.length ≤ 60)
    · exact ev_some
    simp only [Bool.not_true, Bool.false_eq_true, if_false, Bool.true_and]
    have main : ∀ (m j : Nat), j + m = c.f1.length → Evr (fun k => spec_InterfaceOK.l3 k c (j : Int)) (if gd (c.f1.take j) (c.f1.drop j) then .inr () else .inl false) := by
      intro m
      induction m with
      | zero =>
        intro j hj
        obtain rfl : j = c.f1.length := by omega
        rw [List.drop_eq_nil_of_le (Nat.le_refl _)]
        exact ev_step _ (fun k => rfl) (ev_neg (by omega) ev_some)
      | succ m ih =>
        intro j hj
        have hlt : j < c.f1.length := by omega
        refine ev_step _ (fun k => rfl) (ev_pos (by omega) ?_)
        have e1 : c.f1.take (j + 1) = c.f1.take j ++ [c.f1[j]] := List.take_succ_eq_append_getElem hlt
        have egd : gd (c.f1.take j) (c.f1.drop j) = ((itemB c.f1[j] && !((c.f1.take j).any fun y => decide (y.f4 = c.f1[j].f4))) && gd (c.f1.take (j + 1)) (c.f1.drop (j + 1))) := by
          rw [List.drop_eq_getElem_cons hlt, gd, e1, Bool.and_assoc]
        rw [egd]
        obtain ⟨r, hr, hr'⟩ := sfind_ev (c.f1.take j) c.f1[j].f4 (by simp; omega)
        have e0 : List.take (Int.toNat ((j : Int) - 0)) (List.drop (Int.toNat 0) c.f1) = c.f1.take j := by
          rw [show Int.toNat 0 = 0 from rfl, List.drop_zero, show Int.toNat ((j : Int) - 0) = j by omega]
        refine ev_bind (!(itemB c.f1[j] && !((c.f1.take j).any fun y => decide (y.f4 = c.f1[j].f4)))) ?_ ?_
        · unfold spec_InterfaceOK.e2
          simp only [at?_nat hlt, Option.bind_some, e0]
          refine ev_bind _ (sitem_ev c.f1[j] (hs _ (List.getElem_mem hlt)).2) ?_
          cases itemB c.f1[j]
          · exact ev_some
          · refine ev_pos rfl (ev_pos (by omega) (ev_pos (by omega) (ev_bind _ hr (ev_of fun k => ?_))))
            cases ha : (c.f1.take j).any fun y => decide (y.f4 = c.f1[j].f4) with
            | false =>
              have : ¬ 0 ≤ r := fun h => by rw [hr'.1 h] at ha; cases ha
              simp [this]
            | true => simp [hr'.2 ha]
        · cases itemB c.f1[j] && !((c.f1.take j).any fun y => decide (y.f4 = c.f1[j].f4))
          · exact ev_some
          · simp only [Bool.not_true, Bool.false_eq_true, if_false, Bool.true_and]
            rw [w64_next (by omega)]
            exact ih (j + 1) (by omega)
    have h0 := main c.f1.length 0 (by omega)
    rw [List.take_zero, List.drop_zero, gd_all] at h0
    unfold spec_InterfaceOK.e4
    refine ev_bind _ h0 ?_
    cases c.f1.all itemB && decide (namesOf c.f1).Nodup <;> exact ev_some
end Go.Proofs.YtoclajfeeebbbabGreatDoor.V
