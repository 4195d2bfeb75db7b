/- Two readers of bytes that differ in how they read a flagged parameter: where one answers, both do. -/
import Derived.Test.YtoclajfeeebbbabGreatDoorPlSfFnExactReadInterface
set_option linter.unusedVariables false
set_option linter.unusedSimpArgs false
namespace Go.Proofs.YtoclajfeeebbbabGreatDoor.V
open Go.RowKit Go.Proofs.YtoclajfeeebbbabGreatDoor.E
def Two {α β : Type} (R : α → β → Prop) (d : D α) (e : D β) : Prop := ∀ s, Oct s → (d s = none ∧ e s = none) ∨ ∃ x y s', d s = some (x, s') ∧ e s = some (y, s') ∧ Oct s' ∧ R x y
theorem two_bind {α β γ δ : Type} {R : α → β → Prop} {Q : γ → δ → Prop} {d : D α} {e : D β} {f : α → D γ} {g : β → D δ} (h : Two R d e) (k : ∀ x y, R x y → Two Q (f x) (g y)) : Two Q (D.bind d f) (D.bind e g) := by
  intro s hs
  unfold D.bind
  rcases h s hs with ⟨h1, h2⟩ | ⟨x, y, s', h1, h2, h3, h4⟩
  · rw [h1, h2]; exact .inl ⟨rfl, rfl⟩
  · rw [h1, h2]; exact k x y h4 s' h3
theorem two_pure {α β : Type} {R : α → β → Prop} {a : α} {b : β} (h : R a b) : Two R (D.pure a) (D.pure b) := fun s hs => .inr ⟨a, b, s, rfl, rfl, hs, h⟩
theorem two_take (n : Nat) : Two (fun x y => x = y ∧ Oct x) (takeD n) (takeD n) := by
  intro s hs
  unfold takeD
  by_cases h : n ≤ s.length
  · rw [if_pos h]
    exact .inr ⟨_, _, _, rfl, rfl, fun v hv => hs v (List.mem_of_mem_drop hv), rfl, fun v hv => hs v (List.mem_of_mem_take hv)⟩
  · rw [if_neg h]; exact .inl ⟨rfl, rfl⟩
theorem two_num (n : Nat) : Two Eq (numD n) (numD n) := two_bind (two_take n) fun x y h => two_pure (by rw [h.1])
theorem two_one : Two (fun x y => x = y ∧ 0 ≤ x ∧ x < 256) (numD 1) (numD 1) := by
  intro s hs
  rcases two_num 1 s hs with h | ⟨x, y, s', h1, h2, h3, h4⟩
  · exact .inl h
  · exact .inr ⟨x, y, s', h1, h2, h3, h4, (num1_enc hs h1).2⟩
theorem two_text : Two Eq textD textD := two_bind (two_num 1) fun x y h => by
  subst h
  exact two_bind (two_take _) fun a b h => two_pure (by rw [h.1])
theorem two_head (h : List Int) : Two (fun _ _ => True) (headD h) (headD h) := two_bind (two_take _) fun x y e s hs => by
  obtain ⟨rfl, _⟩ := e
  by_cases hx : x = h
  · rw [if_pos hx]; exact .inr ⟨_, _, _, rfl, rfl, hs, trivial⟩
  · rw [if_neg hx]; exact .inl ⟨rfl, rfl⟩
inductive All2 {α β : Type} (R : α → β → Prop) : List α → List β → Prop
  | nil : All2 R [] []
  | cons {a : α} {b : β} {l : List α} {m : List β} : R a b → All2 R l m → All2 R (a :: l) (b :: m)
theorem All2.len {α β : Type} {R : α → β → Prop} {l : List α} {m : List β} (h : All2 R l m) : l.length = m.length := by
  induction h with
  | nil => rfl
  | cons _ _ ih => simp [ih]
theorem All2.eq {α : Type} {R : α → α → Prop} {l m : List α} (h : All2 R l m) (k : ∀ x y, x ∈ l → y ∈ m → R x y → x = y) : l = m := by
  induction h with
  | nil => rfl
  | cons h1 _ ih => rw [k _ _ (List.mem_cons_self ..) (List.mem_cons_self ..) h1, ih fun x y hx hy => k x y (List.mem_cons_of_mem _ hx) (List.mem_cons_of_mem _ hy)]
theorem two_many {α β : Type} {R : α → β → Prop} {d : D α} {e : D β} (h : Two R d e) : ∀ n, Two (All2 R) (D.many d n) (D.many e n)
  | 0 => two_pure .nil
  | n + 1 => two_bind h fun x y hx => two_bind (two_many h n) fun l m hl => two_pure (.cons hx hl)
def RP (x y : SParam) : Prop := ∃ v : Int, 0 ≤ v ∧ v < 256 ∧ x = flagP v ∧ y = flagS v
def RI (x y : SItem) : Prop := x.f0 = y.f0 ∧ x.f1 = y.f1 ∧ x.f2 = y.f2 ∧ x.f3 = y.f3 ∧ x.f4 = y.f4 ∧ All2 RP x.f5 y.f5
def RF (x y : SFace) : Prop := x.f0 = y.f0 ∧ All2 RI x.f1 y.f1
theorem two_param : Two RP paramD paramDS := two_bind two_one fun x y h => by
  obtain ⟨rfl, h0, h1⟩ := h
  exact two_pure ⟨x, h0, h1, rfl, rfl⟩
theorem two_item : Two RI itemD itemDS :=
  two_bind (two_num 1) fun a _ ha => two_bind (two_num 1) fun b _ hb => two_bind (two_num 1) fun c _ hc => two_bind (two_num 8) fun e _ he => two_bind two_text fun n _ hn => two_bind (two_num 1) fun m _ hm => by
    subst hm
    exact two_bind (two_many two_param _) fun ps qs h => two_pure ⟨ha, hb, hc, he, hn, h⟩
theorem two_face : Two RF faceD faceDS :=
  two_bind (two_head _) fun _ _ _ => two_bind two_text fun n _ hn => two_bind (two_num 1) fun m _ hm => by
    subst hm
    exact two_bind (two_many two_item _) fun ps qs h => two_pure ⟨hn, h⟩
/-! Where the flags agree. -/
instance decP (x y : SParam) : Decidable (x = y) := match x, y with
  | ⟨a, b⟩, ⟨c, d⟩ => if h : a = c ∧ b = d then .isTrue (by obtain ⟨rfl, rfl⟩ := h; rfl) else .isFalse fun e => by cases e; exact h ⟨rfl, rfl⟩
theorem flag_fit : ∀ n : Fin 256, (1 ≤ (flagP ((n.val : Nat) : Int)).f0 ∧ (flagP ((n.val : Nat) : Int)).f0 ≤ 3) → flagP ((n.val : Nat) : Int) = flagS ((n.val : Nat) : Int) := by decide +kernel
theorem flag_enc : ∀ n : Fin 256, u8 (paramN (flagS ((n.val : Nat) : Int))) = u8 (paramN (flagP ((n.val : Nat) : Int))) → flagP ((n.val : Nat) : Int) = flagS ((n.val : Nat) : Int) := by decide +kernel
theorem fit_param {x y : SParam} (h : RP x y) (h1 : 1 ≤ x.f0 ∧ x.f0 ≤ 3) : x = y := by
  obtain ⟨v, h0, h2, rfl, rfl⟩ := h
  have := flag_fit ⟨v.toNat, by omega⟩
  have e : ((v.toNat : Nat) : Int) = v := by omega
  simp only [e] at this
  exact this h1
theorem enc_param {x y : SParam} (h : RP x y) (h1 : u8 (paramN y) = u8 (paramN x)) : x = y := by
  obtain ⟨v, h0, h2, rfl, rfl⟩ := h
  have := flag_enc ⟨v.toNat, by omega⟩
  have e : ((v.toNat : Nat) : Int) = v := by omega
  simp only [e] at this
  exact this h1
theorem all2_nil {α β : Type} {R : α → β → Prop} {m : List β} (h : All2 R [] m) : m = [] := by cases h; rfl
theorem fit_item {x y : SItem} (h : RI x y) (hx : itemB x = true) : x = y := by
  obtain ⟨h0, h1, h2, h3, h4, h5⟩ := h
  have e5 : x.f5 = y.f5 := by
    refine h5.eq fun p q hp _ hr => fit_param hr ?_
    unfold itemB at hx
    simp only [Bool.and_eq_true] at hx
    have hh := hx.2.1
    have hb := hx.2.2
    unfold headI at hh
    unfold bodyI at hb
    simp only [Bool.and_eq_true, Bool.or_eq_true, decide_eq_true_eq] at hh
    by_cases k3 : x.f0 = 3
    · rw [if_neg (by omega), if_neg (by omega), if_pos k3] at hb
      simp only [Bool.and_eq_true, decide_eq_true_eq, List.all_eq_true] at hb
      have := hb.2.2 p hp
      unfold paramB btw at this
      simp only [Bool.and_eq_true, decide_eq_true_eq] at this
      exact this
    · rcases hh.2.2 with h | h
      · exact absurd h k3
      · rw [List.length_eq_zero_iff.1 h] at hp
        cases hp
  cases x; cases y
  simp only at h0 h1 h2 h3 h4 e5
  subst h0 h1 h2 h3 h4 e5
  rfl
theorem fit_face {x y : SFace} (h : RF x y) (hx : faceB x = true) : x = y := by
  obtain ⟨h0, h1⟩ := h
  unfold faceB at hx
  simp only [Bool.and_eq_true, decide_eq_true_eq] at hx
  have e1 : x.f1 = y.f1 := h1.eq fun p q hp _ hr => fit_item hr (List.all_eq_true.1 hx.2.2.1 p hp)
  cases x; cases y
  simp only at h0 e1
  subst h0 e1
  rfl
theorem enc_params {l m : List SParam} (h : All2 RP l m) (e : m.flatMap paramL = l.flatMap paramL) : l = m := by
  induction h with
  | nil => rfl
  | cons h1 _ ih =>
    rw [List.flatMap_cons, List.flatMap_cons] at e
    obtain ⟨e1, e2⟩ := List.append_inj e rfl
    rw [enc_param h1 (List.head_eq_of_cons_eq e1), ih e2]
theorem itemL_parts {x y : SItem} (h : RI x y) : headL x = headL y ∧ (itemL x).length = (itemL y).length := by
  obtain ⟨h0, h1, h2, h3, h4, h5⟩ := h
  have hl := h5.len
  constructor
  · unfold headL
    rw [h0, h1, h2, h3, h4, hl]
  · rw [itemL_len, itemL_len, h4, hl]
theorem enc_item {x y : SItem} (h : RI x y) (e : itemL y = itemL x) : x = y := by
  have hh := (itemL_parts h).1
  obtain ⟨h0, h1, h2, h3, h4, h5⟩ := h
  unfold itemL at e
  rw [hh] at e
  have e5 := enc_params h5 (List.append_cancel_left e)
  cases x; cases y
  simp only at h0 h1 h2 h3 h4 e5
  subst h0 h1 h2 h3 h4 e5
  rfl
theorem enc_items {l m : List SItem} (h : All2 RI l m) (e : m.flatMap itemL = l.flatMap itemL) : l = m := by
  induction h with
  | nil => rfl
  | cons h1 _ ih =>
    rw [List.flatMap_cons, List.flatMap_cons] at e
    obtain ⟨e1, e2⟩ := List.append_inj e (itemL_parts h1).2.symm
    rw [enc_item h1 e1, ih e2]
theorem enc_face {x y : SFace} (h : RF x y) (e : faceL y = faceL x) : x = y := by
  obtain ⟨h0, h1⟩ := h
  have hh : faceH x = faceH y := by unfold faceH; rw [h0, h1.len]
  unfold faceL at e
  rw [hh] at e
  have e1 := enc_items h1 (List.append_cancel_left e)
  cases x; cases y
  simp only at h0 e1
  subst h0 e1
  rfl
theorem outF_no (c : Int) (x y : SFace) : outF false c x = outF false c y := rfl
theorem nilF_ok : okF nilF := ⟨by decide, by decide, fun y hy => by cases hy⟩
theorem outF_ok {t : Bool} {c : Int} {y : SFace} (h : okF y) : okF (outF t c y).1 := by
  unfold outF
  split
  · exact h
  · exact nilF_ok
/-- Both read alike. -/
theorem both_ev {b : List Int} (hb : Oct b) : ∃ r, okF r.1 ∧ Evr (fun k => spec_ReadInterface.f k b) r ∧ Evr (fun k => impl_ReadInterface.f k b) r := by
  by_cases hl : b.length ≤ 65536
  · have hby : Byt b := ⟨hb, by omega⟩
    obtain ⟨y, hy, hs, gy⟩ := sread_ev hby hl
    have hz : (strOfNums b).size ≤ 1000000 := by rw [size_bytes, bytes_str hb]; omega
    obtain ⟨x, hx, gx⟩ := iread_ev (strOfNums b) hz
    rw [bytes_str hb] at hx gx
    refine ⟨_, outF_ok hy, hs, ?_⟩
    have hi : Evr (fun k => impl_ReadInterface.f k b) (outF (decide ((faceD b).map Prod.snd = some []) && faceB x) 3 x) := by
      unfold impl_ReadInterface.f impl_isShort___byte.f
      refine ev_bind true (ev_const (by rw [decide_eq_true (by omega)])) (ev_pos rfl (ev_bind _ hx ?_))
      cases decide ((faceD b).map Prod.snd = some []) && faceB x with
      | true => exact ev_pos rfl ev_some
      | false => exact ev_neg (by simp) ev_some
    refine ev_eq hi ?_
    rcases two_face b hb with ⟨h1, h2⟩ | ⟨x', y', s', h1, h2, _, h4⟩
    · rw [h1, h2]
      exact outF_no 3 x y
    · rw [h1, h2]
      by_cases he : s' = []
      · subst he
        have ex : x = x' := gx x' [] (by rw [Option.bind_some, h1])
        have ey : y = y' := gy (by rw [h2]; rfl) y' [] (by rw [Option.bind_some, h2])
        subst ex ey
        have hF : b = faceL x := by
          have := face_enc b x [] hb h1
          rwa [List.append_nil] at this
        have ed : decide ((some (x, ([] : List Int))).map Prod.snd = some []) = true := rfl
        have ed' : decide ((some (y, ([] : List Int))).map Prod.snd = some []) = true := rfl
        rw [ed, ed', Bool.true_and, Bool.true_and]
        by_cases hB : faceB x = true
        · have := fit_face h4 hB
          subst this
          rw [hB, ← hF, decide_eq_true rfl]
          rfl
        · have hB' : faceB x = false := by simpa using hB
          rw [hB']
          by_cases hE : faceL y = b
          · have := enc_face h4 (by rw [hE, ← hF])
            subst this
            rw [hB']
            rfl
          · rw [decide_eq_false hE, Bool.and_false]
            exact outF_no 3 x y
      · have : ∀ {α : Type} (z : α), decide ((some (z, s')).map Prod.snd = some []) = false := fun z => decide_eq_false fun h => he (Option.some.inj h)
        rw [this, this, Bool.false_and, Bool.false_and]
        exact outF_no 3 x y
  · refine ⟨outF false 2 nilF, nilF_ok, ?_, ?_⟩
    · unfold spec_ReadInterface.f
      exact ev_pos (by omega) ev_some
    · unfold impl_ReadInterface.f impl_isShort___byte.f
      exact ev_bind false (ev_const (by rw [decide_eq_false (by omega)])) (ev_neg (by simp) ev_some)
end Go.Proofs.YtoclajfeeebbbabGreatDoor.V
