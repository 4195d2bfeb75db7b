/- The law of ImageOK, in plain Lean. -/
import Derived.Test.YtaikjjlbfdkgmaaDoorPlYFnExactImageOK
import Derived.IntWalk
set_option linter.unusedVariables false
set_option linter.unusedSimpArgs false
namespace Go.Proofs.YtaikjjlbfdkgmaaDoor.V
open Go.Proofs.YtaikjjlbfdkgmaaDoor.E

/-! A code whose calls name codes of the image: the calls are written out, then it is verified. -/
def zc : S1 := ⟨e0, 0, 0, 0, []⟩
def callee (c : S2) (x : S0) : S1 := c.f1.getD x.f1.toNat zc
def callB (c : S2) (x : S0) : Bool := btw x.f1 0 (w64 ((c.f1.length : Int) - 1)) && (decide (x.f3 = e0) && decide (x.f4 = e0))
def outB (c : S2) (x : S0) : Bool := !decide ((callee c x).f0 = e0) && decide ((callee c x).f3 = x.f2)
/-- What the program asks of an instruction, before it is verified. -/
def preI (c : S2) (x : S0) : Bool := !decide (x.f0 = 3) && (!decide (x.f0 = 13) || (callB c x && outB c x))
/-- What the reference asks. -/
def preS (c : S2) (x : S0) : Bool := !decide (x.f0 = 3) && (!decide (x.f0 = 13) || (callB c x && (btw (callee c x).f1 0 20 && outB c x)))
def rw13 (m n : ByteArray) (c : S2) (x : S0) : S0 := if x.f0 = 13 then ⟨13, (callee c x).f1, x.f2, m, n⟩ else x
def bM : ByteArray := ⟨#[109]⟩
def bN : ByteArray := ⟨#[110]⟩
def bX : ByteArray := ⟨#[120]⟩
def codeOf (m n : ByteArray) (c : S2) (a : S1) : S1 := ⟨a.f0, a.f1, a.f2, a.f3, a.f4.map (rw13 m n c)⟩
def procS (c : S2) (a : S1) : Bool := a.f4.all (preS c) && decide ((verM (codeOf bM bN c a)).1 = 0)
def procI (c : S2) (a : S1) : Bool := a.f4.all (preI c) && decide ((verM (codeOf bX bX c a)).1 = 0)
theorem modB_M : modB bM = true := by decide +kernel
theorem modB_N : modB bN = true := by decide +kernel
theorem modB_X : modB bX = true := by decide +kernel

theorem isProc_ev (c : S2) (a : S1) (hc : c.f1.length ≤ 1048576) (ha : a.f4.length ≤ 1048576) (h0 : a.f0.size ≤ 1048576) (hs : ∀ x ∈ a.f4, x.f3.size ≤ 1048576 ∧ x.f4.size ≤ 1048576) : Evr (fun k => impl_Image__isProc.f k c a) (procI c a) := by
  have hw : w64 ((c.f1.length : Int) - 1) = (c.f1.length : Int) - 1 := w64_id (by omega) (by omega)
  have e3 : ∀ k (x : S0), impl_Image__isProc.e3 k c x = some (if preI c x then .inr ((rw13 bX bX c x).f0, (rw13 bX bX c x).f1, (rw13 bX bX c x).f3, (rw13 bX bX c x).f4) else .inl false) := fun k x => by
    unfold impl_Image__isProc.e3 preI rw13
    by_cases c3 : x.f0 = 3
    · simp [c3]
    by_cases c13 : x.f0 = 13
    · simp only [c13, if_true, decide_true, Bool.not_true, Bool.false_or]
      unfold impl_Image__isProc.e1
      simp only [within_eq, Option.bind_some, hw]
      unfold callB btw
      rw [hw]
      cases hb : decide (0 ≤ x.f1) && decide (x.f1 ≤ (c.f1.length : Int) - 1) with
      | false => simp
      | true =>
        simp only [Bool.and_eq_true, decide_eq_true_eq] at hb
        have hat : at? c.f1 x.f1 = some (callee c x) := by
          rw [at?_int hb.1 (by omega)]
          unfold callee
          rw [getD_at (by omega)]
        unfold impl_Image__isProc.e2 outB
        show (Option.bind (if true = true then (if x.f3 = e0 then _ else _) else _) _) = _
        by_cases h3 : x.f3 = e0
        · by_cases h4 : x.f4 = e0
          · have h4' : x.f4 = (⟨#[]⟩ : ByteArray) := h4
            simp only [h3, h4', hat, Option.bind_some, if_true, decide_true, Bool.not_true, Bool.false_eq_true, if_false, Bool.true_and]
            by_cases h5 : (callee c x).f0 = e0
            · have h5' : (callee c x).f0 = (⟨#[]⟩ : ByteArray) := h5
              simp [h5', h5, e0]
            · have h5' : ¬ (callee c x).f0 = (⟨#[]⟩ : ByteArray) := h5
              by_cases h6 : (callee c x).f3 = x.f2
              · simp [h5', h6, e0, bX, c3]
              · simp [h5', h6, e0, c3]
          · have h4' : ¬ x.f4 = (⟨#[]⟩ : ByteArray) := h4
            simp [h3, h4', h4, e0]
        · simp [h3]
    · simp [c3, c13]
  have main : ∀ (m j : Nat), j + m = a.f4.length → Evr (fun k => impl_Image__isProc.l4 k c a ((a.f4.take j).map (rw13 bX bX c)) (j : Int)) (if (a.f4.drop j).all (preI c) then .inr (a.f4.map (rw13 bX bX c)) else .inl false) := by
    intro m
    induction m with
    | zero =>
      intro j hj
      obtain rfl : j = a.f4.length := by omega
      rw [List.drop_eq_nil_of_le (Nat.le_refl _), List.take_length]
      exact ev_step _ (fun k => rfl) (ev_neg (by omega) ev_some)
    | succ m ih =>
      intro j hj
      have hlt : j < a.f4.length := by omega
      refine ev_step _ (fun k => rfl) (ev_pos (by omega) ?_)
      simp only [at?_nat hlt, Option.bind_some]
      refine ev_bind _ (ev_of fun k => e3 k a.f4[j]) ?_
      rw [List.drop_eq_getElem_cons hlt, List.all_cons]
      cases preI c a.f4[j] with
      | false => exact ev_some
      | true =>
        simp only [if_true, Bool.true_and]
        refine ev_pos (by simp; omega) ?_
        rw [w64_next (by omega)]
        have e : (a.f4.take j).map (rw13 bX bX c) ++ [(⟨(rw13 bX bX c a.f4[j]).f0, (rw13 bX bX c a.f4[j]).f1, a.f4[j].f2, (rw13 bX bX c a.f4[j]).f3, (rw13 bX bX c a.f4[j]).f4⟩ : S0)] = (a.f4.take (j + 1)).map (rw13 bX bX c) := by
          rw [List.take_succ_eq_append_getElem hlt, List.map_append]
          congr 1
          simp only [List.map_cons, List.map_nil]
          congr 1
          unfold rw13
          split <;> rfl
        rw [e]
        exact ih (j + 1) (by omega)
  have h0' := main a.f4.length 0 (by omega)
  rw [List.drop_zero] at h0'
  unfold impl_Image__isProc.f impl_Image__isProc.e5
  refine ev_bind _ h0' ?_
  unfold procI
  cases a.f4.all (preI c) with
  | false => exact ev_some
  | true =>
    simp only [if_true, Bool.true_and]
    have hb := (both_evM (codeOf bX bX c a) (by show a.f0.size < _; omega) (fun x hx => by
      obtain ⟨y, hy, rfl⟩ := List.mem_map.1 hx
      have := hs y hy
      unfold rw13
      split
      · have hx : bX.size = 1 := rfl
        exact ⟨by show bX.size < _; omega, by show bX.size < _; omega⟩
      · omega)).2
    refine ev_bind _ ?_ ev_some
    unfold impl_Code__verifies.f
    refine ev_bind _ hb ?_
    exact ev_some
theorem l05_ev (c : S2) (a : S1) (hc : c.f1.length ≤ 1048576) (ha : a.f4.length ≤ 1048576) (h0 : a.f0.size ≤ 1048576) (hs : ∀ x ∈ a.f4, x.f3.size ≤ 1048576 ∧ x.f4.size ≤ 1048576) : Evr (fun k => spec_l05Code.f k c a) (procS c a) := by
  have hw : w64 ((c.f1.length : Int) - 1) = (c.f1.length : Int) - 1 := w64_id (by omega) (by omega)
  have e3 : ∀ k (z : List S0) (j : Nat) (x : S0), at? z (j : Int) = some x → spec_l05Code.e3 k c z (j : Int) = some (if preS c x then .inr (if x.f0 = 13 then z.set j (rw13 bM bN c x) else z) else .inl false) := fun k z j x hx => by
    unfold spec_l05Code.e3 preS rw13
    rw [hx]
    simp only [Option.bind_some]
    by_cases c3 : x.f0 = 3
    · simp [c3]
    by_cases c13 : x.f0 = 13
    · simp only [c13, if_true, decide_true, Bool.not_true, Bool.false_or]
      unfold spec_l05Code.e1
      simp only [in_eq, Option.bind_some, hw]
      unfold callB
      rw [hw]
      unfold btw
      cases hb : decide (0 ≤ x.f1) && decide (x.f1 ≤ (c.f1.length : Int) - 1) with
      | false => simp
      | true =>
        simp only [Bool.and_eq_true, decide_eq_true_eq] at hb
        have hat : at? c.f1 x.f1 = some (callee c x) := by
          rw [at?_int hb.1 (by omega)]
          unfold callee
          rw [getD_at (by omega)]
        unfold spec_l05Code.e2 outB
        simp only [in_eq]
        by_cases h3 : x.f3 = (⟨#[]⟩ : ByteArray)
        · by_cases h4 : x.f4 = (⟨#[]⟩ : ByteArray)
          · simp only [h3, h4, hat, Option.bind_some, if_true, decide_true, Bool.not_true, Bool.false_eq_true, if_false, Bool.true_and, e0]
            cases hq : decide (0 ≤ (callee c x).f1) && decide ((callee c x).f1 ≤ 20) with
            | false => simp
            | true =>
              by_cases h5 : (callee c x).f0 = (⟨#[]⟩ : ByteArray)
              · by_cases h6 : x.f2 = (callee c x).f3
                · simp [h5, h6]
                · simp [h5, h6]
              · by_cases h6 : x.f2 = (callee c x).f3
                · simp [h5, h6, bM, bN]
                · have h6' : ¬ (callee c x).f3 = x.f2 := fun e => h6 e.symm
                  simp [h5, h6, h6']
          · simp [h3, h4, e0]
        · simp [h3, e0]
    · simp [c3, c13]
  have main : ∀ (m j : Nat), j + m = a.f4.length → Evr (fun k => spec_l05Code.l4 k c ((a.f4.take j).map (rw13 bM bN c) ++ a.f4.drop j) (j : Int)) (if (a.f4.drop j).all (preS c) then .inr (a.f4.map (rw13 bM bN c)) else .inl false) := by
    intro m
    induction m with
    | zero =>
      intro j hj
      obtain rfl : j = a.f4.length := by omega
      rw [List.drop_eq_nil_of_le (Nat.le_refl _), List.take_length, List.append_nil]
      exact ev_step _ (fun k => rfl) (ev_neg (by simp) ev_some)
    | succ m ih =>
      intro j hj
      have hlt : j < a.f4.length := by omega
      have hl : ((a.f4.take j).map (rw13 bM bN c)).length = j := by simp; omega
      have hat : at? ((a.f4.take j).map (rw13 bM bN c) ++ a.f4.drop j) (j : Int) = some a.f4[j] := by
        have := at?_nat (l := (a.f4.take j).map (rw13 bM bN c) ++ a.f4.drop j) (i := j) (by simp; omega)
        rw [this, List.getElem_append_right (by omega)]
        have e : j + (j - min j a.f4.length) = j := by omega
        simp [e]
      refine ev_step _ (fun k => rfl) (ev_pos (by simp; omega) ?_)
      refine ev_bind _ (ev_of fun k => e3 k _ j a.f4[j] hat) ?_
      have hd : a.f4.drop j = a.f4[j] :: a.f4.drop (j + 1) := List.drop_eq_getElem_cons hlt
      have hal : (a.f4.drop j).all (preS c) = (preS c a.f4[j] && (a.f4.drop (j + 1)).all (preS c)) := by rw [hd, List.all_cons]
      rw [hal]
      cases preS c a.f4[j] with
      | false => exact ev_some
      | true =>
        simp only [if_true, Bool.true_and]
        rw [w64_next (by omega)]
        have e : (if a.f4[j].f0 = 13 then ((a.f4.take j).map (rw13 bM bN c) ++ a.f4.drop j).set j (rw13 bM bN c a.f4[j]) else ((a.f4.take j).map (rw13 bM bN c) ++ a.f4.drop j)) = (a.f4.take (j + 1)).map (rw13 bM bN c) ++ a.f4.drop (j + 1) := by
          rw [List.take_succ_eq_append_getElem hlt, List.map_append, List.append_assoc]
          split
          · rw [List.set_append_right _ _ (by omega), hl, Nat.sub_self, hd]
            rfl
          · rename_i hne
            rw [hd]
            simp [rw13, hne]
        rw [e]
        exact ih (j + 1) (by omega)
  have h0' := main a.f4.length 0 (by omega)
  rw [List.drop_zero, List.take_zero, List.map_nil] at h0'
  unfold spec_l05Code.f spec_l05Code.e5
  refine ev_pos (by simp; omega) (ev_bind _ h0' ?_)
  unfold procS
  cases a.f4.all (preS c) with
  | false => exact ev_some
  | true =>
    simp only [if_true, Bool.true_and]
    exact ev_bind _ (both_evM (codeOf bM bN c a) (by show a.f0.size < _; omega) (fun x hx => by
      obtain ⟨y, hy, rfl⟩ := List.mem_map.1 hx
      have := hs y hy
      unfold rw13
      split
      · have hx : bM.size = 1 := rfl
        have hx' : bN.size = 1 := rfl
        exact ⟨by show bM.size < _; omega, by show bN.size < _; omega⟩
      · omega)).1 ev_some

theorem insB_rw (c : S2) (a : S1) (m n : ByteArray) (hm : modB m = true) (hn : modB n = true) (m' n' : ByteArray) (hm' : modB m' = true) (hn' : modB n' = true) (x : S0) : insB (codeOf m n c a) (rw13 m n c x) = insB (codeOf m' n' c a) (rw13 m' n' c x) := by
  unfold insB
  have ht : ∀ y, tailB (codeOf m n c a) y = tailB (codeOf m' n' c a) y := fun y => by unfold tailB codeOf; simp only [List.length_map]
  by_cases h : x.f0 = 13
  · have e : ∀ p q, rw13 p q c x = ⟨13, (callee c x).f1, x.f2, p, q⟩ := fun p q => by unfold rw13; rw [if_pos h]
    rw [e m n, e m' n']
    have h1 : headB ⟨13, (callee c x).f1, x.f2, m, n⟩ = headB ⟨13, (callee c x).f1, x.f2, m', n'⟩ := by
      unfold headB
      simp [hm, hn, hm', hn']
    rw [h1, ht]
    congr 1
  · have e : ∀ p q, rw13 p q c x = x := fun p q => by unfold rw13; rw [if_neg h]
    rw [e m n, e m' n', ht]
theorem alike_rw (c : S2) (a : S1) (m n : ByteArray) (hm : modB m = true) (hn : modB n = true) (m' n' : ByteArray) (hm' : modB m' = true) (hn' : modB n' = true) : Alike (codeOf m n c a) (codeOf m' n' c a) := by
  refine ⟨rfl, rfl, rfl, rfl, by simp [codeOf], fun i => ?_, ?_⟩
  · unfold codeOf
    simp only [List.getD_eq_getElem?_getD, List.getElem?_map]
    cases a.f4[i]? with
    | none => exact ⟨rfl, rfl, rfl⟩
    | some x =>
      simp only [Option.map_some, Option.getD_some]
      unfold rw13
      split <;> exact ⟨rfl, rfl, rfl⟩
  · show (a.f4.map (rw13 m n c)).map (insB (codeOf m n c a)) = (a.f4.map (rw13 m' n' c)).map (insB (codeOf m' n' c a))
    rw [List.map_map, List.map_map]
    refine List.map_congr_left fun x _ => ?_
    exact insB_rw c a m n hm hn m' n' hm' hn' x
theorem firstAt_ne {α : Type} {p : α → Bool} {l : List α} {x : α} (hx : x ∈ l) (hp : p x = true) : ∃ i, firstAt p l 0 = some i := by
  cases h : firstAt p l 0 with
  | some i => exact ⟨i, rfl⟩
  | none =>
    have := firstAt_none.1 h x hx
    rw [hp] at this; cases this
theorem proc_eq (c : S2) (a : S1) : procS c a = procI c a := by
  unfold procS procI
  rw [verM_alike (alike_rw c a bM bN modB_M modB_N bX bX modB_X modB_X)]
  have hle : ∀ x, preS c x = true → preI c x = true := fun x h => by
    unfold preS at h
    unfold preI
    simp only [Bool.and_eq_true, Bool.or_eq_true] at h ⊢
    exact ⟨h.1, h.2.imp id fun h => ⟨h.1, h.2.2⟩⟩
  cases hI : a.f4.all (preI c) with
  | false =>
    have : a.f4.all (preS c) = false := by
      rw [Bool.eq_false_iff] at hI ⊢
      exact fun h => hI (List.all_eq_true.2 fun x hx => hle x (List.all_eq_true.1 h x hx))
    rw [this, Bool.false_and]
  | true =>
    cases hS : a.f4.all (preS c) with
    | true => rfl
    | false =>
      rw [Bool.false_and, Bool.true_and]
      symm
      rw [decide_eq_false_iff_not]
      obtain ⟨x, hx, hp⟩ : ∃ x ∈ a.f4, preS c x = false := by
        have := (List.all_eq_false (p := preS c) (l := a.f4)).1 hS
        obtain ⟨x, hx, hp⟩ := this
        exact ⟨x, hx, by simpa using hp⟩
      have hi := List.all_eq_true.1 hI x hx
      have h13 : x.f0 = 13 ∧ btw (callee c x).f1 0 20 = false := by
        unfold preI at hi
        unfold preS at hp
        by_cases c13 : x.f0 = 13
        · refine ⟨c13, ?_⟩
          simp [c13] at hi hp
          rw [hi.1, hi.2] at hp
          simpa using hp
        · simp [c13] at hi hp
          exact absurd hp hi
      have hbad : insB (codeOf bX bX c a) (rw13 bX bX c x) = false := by
        have e : rw13 bX bX c x = ⟨13, (callee c x).f1, x.f2, bX, bX⟩ := by unfold rw13; rw [if_pos h13.1]
        rw [e]
        unfold insB tailB
        simp [h13.2]
      obtain ⟨i, hi⟩ := firstAt_ne (p := fun x => !insB (codeOf bX bX c a) x) (l := (codeOf bX bX c a).f4) (List.mem_map_of_mem (f := rw13 bX bX c) hx) (by rw [hbad]; rfl)
      unfold verM
      have hb : badAt (codeOf bX bX c a) = some i := hi
      rw [hb]
      split
      · show ¬ ((3 : Int) = 0)
        decide
      · show ¬ ((1 : Int) = 0)
        decide
/-! Images. -/
def entryB (c : S2) (e : Int) : Bool := btw e 0 (w64 ((c.f1.length : Int) - 1)) && (decide ((c.f1.getD e.toNat zc).f0 = e0) && decide ((c.f1.getD e.toNat zc).f1 = 0))
def imageB (c : S2) : Bool :=
  (btw c.f0 0 3000 && (btw c.f1.length 1 1200 && (decide (c.f2.length = c.f1.length) && decide (c.f3.length ≤ 20)))) && ((c.f2.all (fun t => decide (t.size ≤ 81)) && c.f1.all (procI c)) && c.f3.all (entryB c))
theorem all_none {α : Type} {p : α → Bool} {l : List α} (h : firstAt (fun x => !p x) l 0 = none) : l.all p = true := List.all_eq_true.2 fun x hx => by simpa using firstAt_none.1 h x hx
theorem all_some {α : Type} {p : α → Bool} {l : List α} {i : Nat} (h : firstAt (fun x => !p x) l 0 = some i) : l.all p = false := by
  obtain ⟨h1, h2, h3, h4⟩ := firstAt_some h
  rw [Bool.eq_false_iff]
  intro hall
  have h5 := List.all_eq_true.1 hall _ (List.getElem_mem h3)
  have h6 : (!p l[i - 0]) = true := h4
  rw [h5] at h6
  cases h6
/-- A search for an element that does not hold: whether all do. -/
theorem ev_allInt {α : Type} {l : List α} {p : α → Bool} {L : Nat → Int → Option (Int ⊕ Unit)} {g : Nat → α → Option Bool} (hn : l.length < 9223372036854775807) (hend : ∀ k, L (k + 1) (l.length : Int) = some (.inr ())) (hg : ∀ x ∈ l, Evr (fun k => g k x) (!p x))
    (hL : ∀ k i (hi : i < l.length), L (k + 1) (i : Int) = (g k l[i]).bind fun r => if r = true then some (.inl (i : Int)) else L k (w64 ((i : Int) + 1))) :
    Evr (fun k => (((L k 0).bind fun v => match v with | .inl r => some r | .inr _ => some (-1)).bind fun r => some (decide ((0 : Int) ≤ r))).bind fun r => some (!r)) (l.all p) := by
  have h := ev_first l (fun x => !p x) L (fun i => .inl (i : Int)) (.inr ()) hn (ev_of hend) (fun i hi hp => ev_congr _ (fun k => hL k i hi) (ev_bind _ (hg _ (List.getElem_mem hi)) (by rw [hp]; exact ev_some)))
    (fun i hi hp r hr => ev_congr _ (fun k => hL k i hi) (ev_bind _ (hg _ (List.getElem_mem hi)) (by rw [hp, w64_next (by omega)]; exact hr)))
  cases hf : firstAt (fun x => !p x) l 0 with
  | none =>
    rw [hf] at h
    rw [all_none hf]
    exact ev_bind _ (ev_bind _ (ev_bind _ h ev_some) ev_some) (ev_of fun k => by simp)
  | some i =>
    rw [hf] at h
    rw [all_some hf]
    exact ev_bind _ (ev_bind _ (ev_bind _ h ev_some) ev_some) (ev_of fun k => by simp)
theorem ev_allUnit {α : Type} {l : List α} {p : α → Bool} {L : Nat → Int → Option (Bool ⊕ Unit)} {g : Nat → Nat → Option Bool} (hn : l.length < 9223372036854775807) (hend : ∀ k, L (k + 1) (l.length : Int) = some (.inr ())) (hg : ∀ i (hi : i < l.length), Evr (fun k => g k i) (!p l[i]))
    (hL : ∀ k i (hi : i < l.length), L (k + 1) (i : Int) = (g k i).bind fun r => if r = true then some (.inl false) else L k (w64 ((i : Int) + 1))) :
    Evr (fun k => L k 0) (if l.all p then .inr () else .inl false) := by
  have h := ev_first l (fun x => !p x) L (fun i => .inl false) (.inr ()) hn (ev_of hend) (fun i hi hp => ev_congr _ (fun k => hL k i hi) (ev_bind _ (hg i hi) (by rw [hp]; exact ev_some)))
    (fun i hi hp r hr => ev_congr _ (fun k => hL k i hi) (ev_bind _ (hg i hi) (by rw [hp, w64_next (by omega)]; exact hr)))
  cases hf : firstAt (fun x => !p x) l 0 with
  | none =>
    rw [hf] at h
    rw [all_none hf]
    exact h
  | some i =>
    rw [hf] at h
    rw [all_some hf]
    exact h
structure Small (c : S2) : Prop where
  codes : c.f1.length ≤ 1048576
  texts : c.f2.length ≤ 1048576
  nums : c.f3.length ≤ 1048576
  code : ∀ a ∈ c.f1, a.f4.length ≤ 1048576 ∧ a.f0.size ≤ 1048576 ∧ ∀ x ∈ a.f4, x.f3.size ≤ 1048576 ∧ x.f4.size ≤ 1048576
theorem size81 (t : ByteArray) : decide ((t.size : Int) ≤ 81) = decide (t.size ≤ 81) := by rw [decide_eq_decide]; omega
theorem itexts_ev (l : List ByteArray) (hn : l.length ≤ 1048576) : Evr (fun k => impl_areAll_string_1.f k l) (l.all fun t => decide (t.size ≤ 81)) := by
  unfold impl_areAll_string_1.f slices_ContainsFunc___string_string_1.f slices_IndexFunc___string_string_1.f slices_IndexFunc___string_string_1.e2
  exact ev_allInt (L := fun k i => slices_IndexFunc___string_string_1.l1 k l i) (g := fun k x => impl_areAll_string__1_1.f k x) (by omega) (fun k => if_neg (by omega)) (fun x _ => ev_of fun k => by
    unfold impl_areAll_string__1_1.f impl_ImageOK_1.f
    rw [size81]; rfl) (fun k i hi => by
    show (if _ then _ else _) = _
    rw [if_pos (by omega), at?_nat hi]; rfl)
theorem icodes_ev (c : S2) (h : Small c) : Evr (fun k => impl_areAll_impl_Code_1.f k c.f1 c) (c.f1.all (procI c)) := by
  have hn := h.codes
  unfold impl_areAll_impl_Code_1.f slices_ContainsFunc___impl_Code_impl_Code_1.f slices_IndexFunc___impl_Code_impl_Code_1.f slices_IndexFunc___impl_Code_impl_Code_1.e2
  exact ev_allInt (L := fun k i => slices_IndexFunc___impl_Code_impl_Code_1.l1 k c.f1 c i) (g := fun k x => impl_areAll_impl_Code__1_1.f k x c) (by omega) (fun k => if_neg (by omega)) (fun x hx => by
    obtain ⟨h1, h2, h3⟩ := h.code x hx
    exact ev_bind _ (isProc_ev c x hn h1 h2 h3) ev_some) (fun k i hi => by
    show (if _ then _ else _) = _
    rw [if_pos (by omega), at?_nat hi]; rfl)
theorem inums_ev (c : S2) (h : Small c) : Evr (fun k => impl_areAll_int_1.f k c.f3 c) (c.f3.all (entryB c)) := by
  have hn := h.codes
  have hn3 := h.nums
  have hw : w64 ((c.f1.length : Int) - 1) = (c.f1.length : Int) - 1 := w64_id (by omega) (by omega)
  unfold impl_areAll_int_1.f slices_ContainsFunc___int_int_1.f slices_IndexFunc___int_int_1.f slices_IndexFunc___int_int_1.e2
  exact ev_allInt (L := fun k i => slices_IndexFunc___int_int_1.l1 k c.f3 c i) (g := fun k x => impl_areAll_int__1_1.f k x c) (by omega) (fun k => if_neg (by omega)) (fun x hx => ev_of fun k => by
    unfold impl_areAll_int__1_1.f impl_ImageOK_2_1.f impl_ImageOK_2_1.e1 entryB btw
    simp only [within_eq, Option.bind_some, hw]
    cases hb : decide (0 ≤ x) && decide (x ≤ (c.f1.length : Int) - 1) with
    | false => rfl
    | true =>
      simp only [Bool.and_eq_true, decide_eq_true_eq] at hb
      have hat : at? c.f1 x = some (c.f1.getD x.toNat zc) := by rw [at?_int hb.1 (by omega), getD_at (by omega)]
      rw [hat]
      simp only [if_true, Option.bind_some, Bool.true_and]
      generalize c.f1.getD x.toNat zc = y
      by_cases h5 : y.f0 = (⟨#[]⟩ : ByteArray)
      · simp [h5, e0]
      · simp [h5, e0]) (fun k i hi => by
    show (if _ then _ else _) = _
    rw [if_pos (by omega), at?_nat hi]; rfl)
theorem iimage_ev (c : S2) (h : Small c) : Evr (fun k => impl_ImageOK.f k c) (imageB c) := by
  unfold impl_ImageOK.f
  refine ev_bind (imageB c) ?_ ev_some
  unfold impl_ImageOK.e1 imageB
  simp only [within_eq, Option.bind_some]
  unfold btw
  cases decide (0 ≤ c.f0) && decide (c.f0 ≤ 3000)
  · exact ev_some
  simp only [if_true, Bool.true_and]
  cases decide (1 ≤ (c.f1.length : Int)) && decide ((c.f1.length : Int) ≤ 1200)
  · exact ev_some
  simp only [if_true, Bool.true_and]
  by_cases h1 : c.f2.length = c.f1.length
  · rw [decide_eq_true h1]
    simp only [Bool.true_and]
    refine ev_pos (by omega) (ev_bind _ (itexts_ev c.f2 h.texts) ?_)
    cases c.f2.all fun t => decide (t.size ≤ 81)
    · rw [Bool.false_and, Bool.false_and, Bool.and_false]; exact ev_some
    simp only [if_true, Bool.true_and]
    refine ev_bind _ (icodes_ev c h) ?_
    cases c.f1.all (procI c)
    · rw [Bool.false_and, Bool.and_false]; exact ev_some
    simp only [if_true, Bool.true_and]
    by_cases h2 : c.f3.length ≤ 20
    · rw [decide_eq_true h2, Bool.true_and]
      exact ev_pos (by omega) (ev_bind _ (inums_ev c h) ev_some)
    · rw [decide_eq_false h2, Bool.false_and]
      exact ev_neg (by omega) ev_some
  · rw [decide_eq_false h1, Bool.false_and, Bool.false_and]
    exact ev_neg (by omega) ev_some
theorem zip_all {α β : Type} {p : α → Bool} {q : β → Bool} : ∀ {l : List α} {m : List β}, m.length = l.length → (l.zip m).all (fun z => q z.2 && p z.1) = (m.all q && l.all p)
  | [], [], _ => rfl
  | [], _ :: _, h => by simp at h
  | _ :: _, [], h => by simp at h
  | a :: l, b :: m, h => by
    have ih := zip_all (p := p) (q := q) (l := l) (m := m) (by simpa using h)
    simp only [List.zip_cons_cons, List.all_cons, ih]
    cases q b <;> cases p a <;> cases m.all q <;> cases l.all p <;> rfl
theorem simage_ev (c : S2) (h : Small c) : Evr (fun k => spec_ImageOK.f k c) (imageB c) := by
  have hn := h.codes
  have hn3 := h.nums
  have hw : w64 ((c.f1.length : Int) - 1) = (c.f1.length : Int) - 1 := w64_id (by omega) (by omega)
  unfold spec_ImageOK.f
  refine ev_bind (!(btw c.f0 0 3000 && (btw c.f1.length 1 1200 && (decide (c.f2.length = c.f1.length) && decide (c.f3.length ≤ 20))))) (ev_of fun k => ?_) ?_
  · unfold spec_ImageOK.e1 btw
    simp only [in_eq, Option.bind_some]
    cases decide (0 ≤ c.f0) && decide (c.f0 ≤ 3000)
    · rfl
    simp only [if_true, Bool.true_and]
    by_cases h0 : c.f1.length = 0
    · simp [h0]
    have a7 : ¬ c.f1 = [] := fun e => h0 (by rw [e]; rfl)
    by_cases h1 : c.f1.length ≤ 1200
    · by_cases h2 : c.f2.length = c.f1.length
      · by_cases h3 : c.f3.length ≤ 20
        · have a1 : ¬ (c.f1.length : Int) = 0 := by omega
          have a2 : ¬ (1200 : Int) < (c.f1.length : Int) := by omega
          have a3 : (c.f2.length : Int) = (c.f1.length : Int) := by omega
          have a4 : ¬ (20 : Int) < (c.f3.length : Int) := by omega
          have a5 : (1 : Int) ≤ (c.f1.length : Int) := by omega
          have a6 : (c.f1.length : Int) ≤ 1200 := by omega
          simp [a1, a2, a3, a4, a5, a6, a7, h2, h3]
        · have a1 : ¬ (c.f1.length : Int) = 0 := by omega
          have a2 : ¬ (1200 : Int) < (c.f1.length : Int) := by omega
          have a3 : (c.f2.length : Int) = (c.f1.length : Int) := by omega
          have a4 : (20 : Int) < (c.f3.length : Int) := by omega
          simp [a1, a2, a3, a4, a7, h3]
      · have a1 : ¬ (c.f1.length : Int) = 0 := by omega
        have a2 : ¬ (1200 : Int) < (c.f1.length : Int) := by omega
        have a3 : ¬ (c.f2.length : Int) = (c.f1.length : Int) := by omega
        simp [a1, a2, a3, a7, h2]
    · have a1 : ¬ (c.f1.length : Int) = 0 := by omega
      have a2 : (1200 : Int) < (c.f1.length : Int) := by omega
      have a6 : ¬ (c.f1.length : Int) ≤ 1200 := by omega
      simp [a1, a2, a6, a7]
  · unfold imageB
    cases hh : btw c.f0 0 3000 && (btw c.f1.length 1 1200 && (decide (c.f2.length = c.f1.length) && decide (c.f3.length ≤ 20))) with
    | false => exact ev_some
    | true =>
      simp only [Bool.not_true, Bool.false_eq_true, if_false, Bool.true_and]
      have hl : c.f2.length = c.f1.length := by
        simp only [Bool.and_eq_true, decide_eq_true_eq] at hh
        exact hh.2.2.1
      have hp : procI c = procS c := by funext a; exact (proc_eq c a).symm
      rw [hp]
      have hz : (c.f1.zip c.f2).length = c.f1.length := by rw [List.length_zip]; omega
      have h4 := ev_allUnit (l := c.f1.zip c.f2) (p := fun z => (fun t : ByteArray => decide (t.size ≤ 81)) z.2 && procS c z.1) (L := fun k i => spec_ImageOK.l3 k c i) (g := fun k i => spec_ImageOK.e2 k c (i : Int)) (by omega)
        (fun k => by rw [hz]; exact if_neg (by omega)) (fun i hi => by
          have hi1 : i < c.f1.length := by omega
          have hi2 : i < c.f2.length := by omega
          have hc1 := h.code _ (List.getElem_mem hi1)
          unfold spec_ImageOK.e2
          simp only [at?_nat hi1, at?_nat hi2, Option.bind_some, List.getElem_zip]
          by_cases h8 : c.f2[i].size ≤ 81
          · rw [decide_eq_true h8, Bool.true_and]
            exact ev_neg (by omega) (ev_bind _ (l05_ev c c.f1[i] hn hc1.1 hc1.2.1 hc1.2.2) ev_some)
          · rw [decide_eq_false h8, Bool.false_and]
            exact ev_pos (by omega) ev_some) (fun k i hi => by
          show (if _ then _ else _) = _
          rw [if_pos (by omega)])
      have h4 : Evr (fun k => spec_ImageOK.l3 k c 0) (if ((c.f2.all fun t => decide (t.size ≤ 81)) && c.f1.all (procS c)) = true then .inr () else .inl false) := ev_eq h4 (congrArg (fun b : Bool => if b = true then (.inr () : Bool ⊕ Unit) else .inl false) (zip_all (p := procS c) (q := fun t => decide (t.size ≤ 81)) hl))
      have h7 := ev_allUnit (l := c.f3) (p := entryB c) (L := fun k i => spec_ImageOK.l6 k c i) (g := fun k i => spec_ImageOK.e5 k c (i : Int)) (by omega)
        (fun k => if_neg (by omega)) (fun i hi => ev_of fun k => by
          unfold spec_ImageOK.e5 entryB btw
          simp only [at?_nat hi, Option.bind_some, in_eq, hw]
          cases hb : decide (0 ≤ c.f3[i]) && decide (c.f3[i] ≤ (c.f1.length : Int) - 1) with
          | false => rfl
          | true =>
            simp only [Bool.and_eq_true, decide_eq_true_eq] at hb
            have hat : at? c.f1 c.f3[i] = some (c.f1.getD (c.f3[i]).toNat zc) := by rw [at?_int hb.1 (by omega), getD_at (by omega)]
            rw [hat]
            simp only [if_true, Option.bind_some, Bool.true_and]
            generalize c.f1.getD (c.f3[i]).toNat zc = y
            by_cases h5 : y.f0 = (⟨#[]⟩ : ByteArray)
            · simp [h5, e0]
            · simp [h5, e0]) (fun k i hi => by
          show (if _ then _ else _) = _
          rw [if_pos (by omega)])
      unfold spec_ImageOK.e4 spec_ImageOK.e7
      refine ev_bind _ h4 ?_
      cases (c.f2.all fun t => decide (t.size ≤ 81)) && c.f1.all (procS c)
      · exact ev_some
      simp only [if_true, Bool.true_and]
      refine ev_bind _ h7 ?_
      cases c.f3.all (entryB c) <;> exact ev_some
end Go.Proofs.YtaikjjlbfdkgmaaDoor.V
namespace Go.Proofs.YtaikjjlbfdkgmaaDoor.E
open Go.RowKit Go.Proofs.YtaikjjlbfdkgmaaDoor.V

theorem le_sum {α : Type} (w : α → Nat) : ∀ {l : List α} {x : α}, x ∈ l → w x ≤ (l.map w).sum
  | y :: l, x, h => by
    simp only [List.map_cons, List.sum_cons]
    rcases List.mem_cons.1 h with rfl | h
    · omega
    · have := le_sum w h; omega
def wIns (x : S0) : Nat := x.f3.size + x.f4.size
def wCode (a : S1) : Nat := a.f0.size + (a.f4.length + (a.f4.map wIns).sum)
theorem szIns_left (x : S0) (hx : gS0 x) (left : Int) (h0 : 0 ≤ left) (hB : left ≤ 1048576) : ∃ t, LeftOf left (wIns x) t ∧ ∀ k, laws_szIns.f k x left = some t := by
  have hm : maxLen = 9223372036854775807 := rfl
  have h3 := hx.2.2.2.1
  have h4 := hx.2.2.2.2
  have hw : w64 (left - (x.f3.size : Int)) = left - x.f3.size := w64_id (by omega) (by omega)
  unfold laws_szIns.f wIns
  simp only [hw]
  by_cases h : left - (x.f3.size : Int) < 0
  · exact ⟨-1, .inl (by omega), fun k => by rw [if_pos h]⟩
  · have hw2 : w64 (left - (x.f3.size : Int) - (x.f4.size : Int)) = left - x.f3.size - x.f4.size := w64_id (by omega) (by omega)
    simp only [hw2]
    by_cases h' : left - (x.f3.size : Int) - (x.f4.size : Int) < 0
    · exact ⟨-1, .inl (by omega), fun k => by rw [if_neg h, if_pos h']⟩
    · exact ⟨left - x.f3.size - x.f4.size, .inr ⟨by omega, by omega⟩, fun k => by rw [if_neg h, if_neg h']⟩
theorem szInsS_left (xs : List S0) (hl : xs.length ≤ maxLen) (hx : ∀ x ∈ xs, gS0 x) (left : Int) (h0 : 0 ≤ left) (hB : left ≤ 1048576) : ∃ t, LeftOf left (xs.length + (xs.map wIns).sum) t ∧ Evr (fun k => laws_szInsS.f k xs left) t := by
  have hm : maxLen = 9223372036854775807 := rfl
  have hw2 : w64 (left - (xs.length : Int)) = left - xs.length := w64_id (by omega) (by omega)
  unfold laws_szInsS.f laws_szInsS.e2
  simp only [hw2]
  by_cases h' : left - (xs.length : Int) < 0
  · exact ⟨-1, .inl (by omega), ev_pos h' ev_some⟩
  · have main := ev_left (ρ := Int) xs wIns 1048576 (fun k left i => laws_szInsS.l1 k xs left i) (-1) (by omega) (fun left _ _ => ev_neg (by omega) ev_some) (fun left i hi h1 h2 => by
      obtain ⟨t, ht, he⟩ := szIns_left xs[i] (hx _ (List.getElem_mem hi)) left h1 h2
      refine ⟨t, ht, fun hneg => ev_pos (by omega) ?_, fun hpos r hr => ev_pos (by omega) ?_⟩
      · simp only [at?_nat hi, Option.bind_some, he, if_pos hneg]
        exact ev_some
      · simp only [at?_nat hi, Option.bind_some, he]
        refine ev_neg (by omega) ?_
        rw [w64_next (by omega)]
        exact hr) _ (by omega : 0 ≤ left - (xs.length : Int)) (by omega)
    rcases main with hb | ⟨t, ht, hsum, he⟩
    · exact ⟨-1, .inl (by omega), ev_neg h' (ev_bind _ hb ev_some)⟩
    · exact ⟨t, .inr ⟨ht, by omega⟩, ev_neg h' (ev_bind _ he ev_some)⟩
theorem szCode_left (a : S1) (hx : gS1 a) (left : Int) (h0 : 0 ≤ left) (hB : left ≤ 1048576) : ∃ t, LeftOf left (wCode a) t ∧ Evr (fun k => laws_szCode.f k a left) t := by
  have hm : maxLen = 9223372036854775807 := rfl
  obtain ⟨g0, _, _, _, gl, gx⟩ := hx
  unfold laws_szCode.f wCode
  have hw : w64 (left - (a.f0.size : Int)) = left - a.f0.size := w64_id (by omega) (by omega)
  simp only [hw]
  by_cases h : left - (a.f0.size : Int) < 0
  · exact ⟨-1, .inl (by omega), ev_pos h ev_some⟩
  · obtain ⟨t, ht, he⟩ := szInsS_left a.f4 gl gx (left - a.f0.size) (by omega) (by omega)
    by_cases hn : t < 0
    · exact ⟨-1, .inl (by omega), ev_neg h (ev_bind _ he (ev_pos hn ev_some))⟩
    · refine ⟨t, ?_, ev_neg h (ev_bind _ he (ev_neg hn ev_some))⟩
      rcases ht with ht | ⟨ht, ht'⟩
      · omega
      · exact .inr ⟨ht, by omega⟩
theorem szCodeS_left (xs : List S1) (hl : xs.length ≤ maxLen) (hx : ∀ x ∈ xs, gS1 x) (left : Int) (h0 : 0 ≤ left) (hB : left ≤ 1048576) : ∃ t, LeftOf left (xs.length + (xs.map wCode).sum) t ∧ Evr (fun k => laws_szCodeS.f k xs left) t := by
  have hm : maxLen = 9223372036854775807 := rfl
  have hw2 : w64 (left - (xs.length : Int)) = left - xs.length := w64_id (by omega) (by omega)
  unfold laws_szCodeS.f laws_szCodeS.e2
  simp only [hw2]
  by_cases h' : left - (xs.length : Int) < 0
  · exact ⟨-1, .inl (by omega), ev_pos h' ev_some⟩
  · have main := ev_left (ρ := Int) xs wCode 1048576 (fun k left i => laws_szCodeS.l1 k xs left i) (-1) (by omega) (fun left _ _ => ev_neg (by omega) ev_some) (fun left i hi h1 h2 => by
      obtain ⟨t, ht, he⟩ := szCode_left xs[i] (hx _ (List.getElem_mem hi)) left h1 h2
      refine ⟨t, ht, fun hneg => ev_pos (by omega) ?_, fun hpos r hr => ev_pos (by omega) ?_⟩
      · simp only [at?_nat hi, Option.bind_some]
        exact ev_bind _ he (ev_pos hneg ev_some)
      · simp only [at?_nat hi, Option.bind_some]
        refine ev_bind _ he (ev_neg (by omega) ?_)
        rw [w64_next (by omega)]
        exact hr) _ (by omega : 0 ≤ left - (xs.length : Int)) (by omega)
    rcases main with hb | ⟨t, ht, hsum, he⟩
    · exact ⟨-1, .inl (by omega), ev_neg h' (ev_bind _ hb ev_some)⟩
    · exact ⟨t, .inr ⟨ht, by omega⟩, ev_neg h' (ev_bind _ he ev_some)⟩
theorem szStringS_left (xs : List ByteArray) (hl : xs.length ≤ maxLen) (hx : ∀ x ∈ xs, x.size ≤ maxLen) (left : Int) (h0 : 0 ≤ left) (hB : left ≤ 1048576) : ∃ t, LeftOf left (xs.length + (xs.map ByteArray.size).sum) t ∧ Evr (fun k => laws_szStringS.f k xs left) t := by
  have hm : maxLen = 9223372036854775807 := rfl
  have hw2 : w64 (left - (xs.length : Int)) = left - xs.length := w64_id (by omega) (by omega)
  unfold laws_szStringS.f laws_szStringS.e2
  simp only [hw2]
  by_cases h' : left - (xs.length : Int) < 0
  · exact ⟨-1, .inl (by omega), ev_pos h' ev_some⟩
  · have main := ev_left (ρ := Int) xs ByteArray.size 1048576 (fun k left i => laws_szStringS.l1 k xs left i) (-1) (by omega) (fun left _ _ => ev_neg (by omega) ev_some) (fun left i hi h1 h2 => by
      have hsz := hx _ (List.getElem_mem hi)
      have hw : w64 (left - (xs[i].size : Int)) = left - xs[i].size := w64_id (by omega) (by omega)
      refine ⟨left - xs[i].size, ?_, fun hneg => ev_pos (by omega) ?_, fun hpos r hr => ev_pos (by omega) ?_⟩
      · by_cases hc : left - (xs[i].size : Int) < 0
        · exact .inl hc
        · exact .inr ⟨by omega, rfl⟩
      · simp only [at?_nat hi, Option.bind_some, hw, if_pos hneg]
        exact ev_some
      · simp only [at?_nat hi, Option.bind_some, hw]
        refine ev_neg (by omega) ?_
        rw [w64_next (by omega)]
        exact hr) _ (by omega : 0 ≤ left - (xs.length : Int)) (by omega)
    rcases main with hb | ⟨t, ht, hsum, he⟩
    · exact ⟨-1, .inl (by omega), ev_neg h' (ev_bind _ hb ev_some)⟩
    · exact ⟨t, .inr ⟨ht, by omega⟩, ev_neg h' (ev_bind _ he ev_some)⟩
/-- The bound: too large, or of a size that fits. -/
theorem szImage_ev (x0 : S2) (h0 : gS2 x0) : ∃ t, Evr (fun k => laws_szImage.f k x0 1048576) t ∧ (t < 0 ∨ Small x0) := by
  have hm : maxLen = 9223372036854775807 := rfl
  obtain ⟨_, ⟨l1, g1⟩, ⟨l2, g2⟩, ⟨l3, _⟩⟩ := h0
  unfold laws_szImage.f
  obtain ⟨t1, ht1, he1⟩ := szCodeS_left x0.f1 l1 g1 1048576 (by omega) (by omega)
  by_cases n1 : t1 < 0
  · exact ⟨-1, ev_bind _ he1 (ev_pos n1 ev_some), .inl (by omega)⟩
  have ht1 : t1 = 1048576 - ((x0.f1.length + (x0.f1.map wCode).sum : Nat) : Int) := by rcases ht1 with h | h <;> omega
  obtain ⟨t2, ht2, he2⟩ := szStringS_left x0.f2 l2 g2 t1 (by omega) (by omega)
  by_cases n2 : t2 < 0
  · exact ⟨-1, ev_bind _ he1 (ev_neg n1 (ev_bind _ he2 (ev_pos n2 ev_some))), .inl (by omega)⟩
  have ht2 : t2 = t1 - ((x0.f2.length + (x0.f2.map ByteArray.size).sum : Nat) : Int) := by rcases ht2 with h | h <;> omega
  have hw : w64 (t2 - (x0.f3.length : Int)) = t2 - x0.f3.length := w64_id (by omega) (by omega)
  unfold laws_szIntS.f
  by_cases n3 : w64 (t2 - (x0.f3.length : Int)) < 0
  · exact ⟨-1, ev_bind _ he1 (ev_neg n1 (ev_bind _ he2 (ev_neg n2 (ev_bind (-1) (ev_pos n3 ev_some) (ev_pos (by omega) ev_some))))), .inl (by omega)⟩
  · refine ⟨w64 (t2 - x0.f3.length), ev_bind _ he1 (ev_neg n1 (ev_bind _ he2 (ev_neg n2 (ev_bind _ (ev_neg n3 ev_some) (ev_neg n3 ev_some))))), .inr ⟨by omega, by omega, by omega, fun a ha => ?_⟩⟩
    have hs := le_sum wCode ha
    have hwc : wCode a ≤ 1048576 := by omega
    unfold wCode at hwc
    refine ⟨by omega, by omega, fun x hx => ?_⟩
    have hi := le_sum wIns hx
    unfold wIns at hi hwc
    omega
theorem toInsS_ev (xs : List S0) (hn : xs.length ≤ 1048576) : Evr (fun k => laws_toInsS.f k xs) xs := by
  unfold laws_toInsS.f laws_toInsS.e2
  refine ev_pos (by omega) (ev_bind _ ?_ ev_some)
  have := ev_copy xs id (⟨0, 0, 0, ⟨#[]⟩, ⟨#[]⟩⟩ : S0) (fun k acc i => laws_toInsS.l1 k xs acc i) (by omega) (fun acc _ => ev_neg (by omega) ev_some) (fun acc i hi ha r h => by
    refine ev_pos (by omega) ?_
    simp only [at?_nat hi, Option.bind_some, laws_toIns.f, at?_nat (l := acc) (i := i) (by omega), Int.toNat_natCast]
    rw [w64_next (by omega)]
    exact h)
  simpa using this
theorem toCodeS_ev (xs : List S1) (hn : xs.length ≤ 1048576) (hs : ∀ x ∈ xs, x.f4.length ≤ 1048576) : Evr (fun k => laws_toCodeS.f k xs) xs := by
  unfold laws_toCodeS.f laws_toCodeS.e2
  refine ev_pos (by omega) (ev_bind _ ?_ ev_some)
  have := ev_copy xs id (⟨⟨#[]⟩, 0, 0, 0, []⟩ : S1) (fun k acc i => laws_toCodeS.l1 k xs acc i) (by omega) (fun acc _ => ev_neg (by omega) ev_some) (fun acc i hi ha r h => by
    refine ev_pos (by omega) ?_
    simp only [at?_nat hi, Option.bind_some]
    unfold laws_toCode.f
    refine ev_bind _ (ev_bind _ (toInsS_ev _ (hs _ (List.getElem_mem hi))) ev_some) ?_
    simp only [at?_nat (l := acc) (i := i) (by omega), Option.bind_some, Int.toNat_natCast]
    rw [w64_next (by omega)]
    exact h)
  simpa using this
theorem toStringS_ev (xs : List ByteArray) (hn : xs.length ≤ 1048576) : Evr (fun k => laws_toStringS.f k xs) xs := by
  unfold laws_toStringS.f laws_toStringS.e2
  refine ev_pos (by omega) (ev_bind _ ?_ ev_some)
  have := ev_copy xs id (⟨#[]⟩ : ByteArray) (fun k acc i => laws_toStringS.l1 k xs acc i) (by omega) (fun acc _ => ev_neg (by omega) ev_some) (fun acc i hi ha r h => by
    refine ev_pos (by omega) ?_
    simp only [at?_nat hi, Option.bind_some, at?_nat (l := acc) (i := i) (by omega), Int.toNat_natCast]
    rw [w64_next (by omega)]
    exact h)
  simpa using this
theorem toIntS_ev (xs : List Int) (hn : xs.length ≤ 1048576) : Evr (fun k => laws_toIntS.f k xs) xs := by
  unfold laws_toIntS.f laws_toIntS.e2
  refine ev_pos (by omega) (ev_bind _ ?_ ev_some)
  have := ev_copy xs id (0 : Int) (fun k acc i => laws_toIntS.l1 k xs acc i) (by omega) (fun acc _ => ev_neg (by omega) ev_some) (fun acc i hi ha r h => by
    refine ev_pos (by omega) ?_
    simp only [at?_nat hi, Option.bind_some, at?_nat (l := acc) (i := i) (by omega), Int.toNat_natCast]
    rw [w64_next (by omega)]
    exact h)
  simpa using this
theorem eqInsS_ev (xs : List S0) (hn : xs.length ≤ 1048576) : Evr (fun k => laws_eqInsS.f k xs xs) true := by
  unfold laws_eqInsS.f laws_eqInsS.e2
  refine ev_pos rfl (ev_bind (.inr ()) ?_ ev_some)
  exact ev_same xs (fun k i => laws_eqInsS.l1 k xs xs i) _ (by omega) (ev_neg (by omega) ev_some) (fun i hi r h => by
    refine ev_pos (by omega) ?_
    simp only [at?_nat hi, Option.bind_some, laws_eqIns.f, if_true]
    rw [w64_next (by omega)]
    exact h)
theorem eqCodeS_ev (xs : List S1) (hn : xs.length ≤ 1048576) (hs : ∀ x ∈ xs, x.f4.length ≤ 1048576) : Evr (fun k => laws_eqCodeS.f k xs xs) true := by
  unfold laws_eqCodeS.f laws_eqCodeS.e2
  refine ev_pos rfl (ev_bind (.inr ()) ?_ ev_some)
  exact ev_same xs (fun k i => laws_eqCodeS.l1 k xs xs i) _ (by omega) (ev_neg (by omega) ev_some) (fun i hi r h => by
    refine ev_pos (by omega) ?_
    simp only [at?_nat hi, Option.bind_some]
    refine ev_bind true ?_ ?_
    · unfold laws_eqCode.f
      exact ev_pos rfl (ev_pos rfl (ev_pos rfl (ev_pos rfl (ev_bind true (eqInsS_ev _ (hs _ (List.getElem_mem hi))) ev_some))))
    · rw [w64_next (by omega)]
      exact ev_pos rfl h)
theorem eqStringS_ev (xs : List ByteArray) (hn : xs.length ≤ 1048576) : Evr (fun k => laws_eqStringS.f k xs xs) true := by
  unfold laws_eqStringS.f laws_eqStringS.e2
  refine ev_pos rfl (ev_bind (.inr ()) ?_ ev_some)
  exact ev_same xs (fun k i => laws_eqStringS.l1 k xs xs i) _ (by omega) (ev_neg (by omega) ev_some) (fun i hi r h => by
    refine ev_pos (by omega) ?_
    simp only [at?_nat hi, Option.bind_some, if_true]
    rw [w64_next (by omega)]
    exact h)
theorem eqIntS_ev (xs : List Int) (hn : xs.length ≤ 1048576) : Evr (fun k => laws_eqIntS.f k xs xs) true := by
  unfold laws_eqIntS.f laws_eqIntS.e2
  refine ev_pos rfl (ev_bind (.inr ()) ?_ ev_some)
  exact ev_same xs (fun k i => laws_eqIntS.l1 k xs xs i) _ (by omega) (ev_neg (by omega) ev_some) (fun i hi r h => by
    refine ev_pos (by omega) ?_
    simp only [at?_nat hi, Option.bind_some, if_true]
    rw [w64_next (by omega)]
    exact h)
theorem pureFnExactImageOK (x0 : S2) (h0 : gS2 x0) : ∃ k, laws_FnExactImageOK.f k x0 = some true := by
  refine Evr.rounds (g := fun k => laws_FnExactImageOK.f k x0) ?_
  obtain ⟨t, ht, hb⟩ := szImage_ev x0 h0
  unfold laws_FnExactImageOK.f
  refine ev_bind _ ht (ev_ite (fun _ => ev_some) (fun hneg => ?_))
  have hs : Small x0 := by
    rcases hb with h | h
    · exact absurd h hneg
    · exact h
  have hc : ∃ z, Evr (fun k => laws_toImage.f k x0) (x0, z) := by
    unfold laws_toImage.f
    exact ⟨_, ev_bind _ (toCodeS_ev _ hs.codes fun x hx => (hs.code x hx).1) (ev_bind _ (toStringS_ev _ hs.texts) (ev_bind _ (toIntS_ev _ hs.nums) ev_some))⟩
  obtain ⟨z, hc⟩ := hc
  refine ev_bind _ hc (ev_bind _ (simage_ev x0 hs) (ev_bind _ hc (ev_bind _ (iimage_ev x0 hs) (ev_bind (.inr ()) (ev_of fun k => ?_) (ev_bind _ hc (ev_bind true ?_ ev_some))))))
  · unfold laws_FnExactImageOK.e1
    cases imageB x0 <;> rfl
  · unfold laws_eqImage.f
    exact ev_pos rfl (ev_bind true (eqCodeS_ev _ hs.codes fun x hx => (hs.code x hx).1) (ev_bind true (eqStringS_ev _ hs.texts) (ev_bind true (eqIntS_ev _ hs.nums) ev_some)))
end Go.Proofs.YtaikjjlbfdkgmaaDoor.E
