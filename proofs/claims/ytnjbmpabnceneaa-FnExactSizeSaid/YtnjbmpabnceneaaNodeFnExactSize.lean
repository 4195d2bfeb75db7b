/- Trees in the printed statements: what is left of a bound, the tree made anew, a tree compared with itself. Plain lemmas over the printed functions. -/
import Derived.Test.YtnjbmpabnceneaaPFnExactSizex
import Derived.Test.YtnjbmpabnceneaaLoops
set_option linter.unusedVariables false
set_option linter.unusedSimpArgs false
namespace Go.Proofs.Ytnjbmpabnceneaa.NdFnExactSize
open Go.RowKit Go.Proofs.Ytnjbmpabnceneaa.PFnExactSize Go.Proofs.YtnjbmpabnceneaaW.PrintWords Go.Proofs.YtnjbmpabnceneaaW.PrintLast Go.Proofs.YtnjbmpabnceneaaW.Loops

abbrev LN := S29
abbrev IN := S34

theorem indL {P : LN → Prop} (h : ∀ x : LN, (∀ y, y ∈ x.f4 → P y) → P x) (x : LN) : P x :=
  S29.rec (motive_1 := P) (motive_2 := fun l => ∀ y, y ∈ l → P y) (fun a b c d l ih => h ⟨a, b, c, d, l⟩ ih) (fun y hy => by cases hy)
    (fun x xs hx hxs y hy => by
      rcases List.mem_cons.1 hy with rfl | hy
      · exact hx
      · exact hxs y hy) x
theorem indI {P : IN → Prop} (h : ∀ x : IN, (∀ y, y ∈ x.f4 → P y) → P x) (x : IN) : P x :=
  S34.rec (motive_1 := P) (motive_2 := fun l => ∀ y, y ∈ l → P y) (fun a b c d l ih => h ⟨a, b, c, d, l⟩ ih) (fun y hy => by cases hy)
    (fun x xs hx hxs y hy => by
      rcases List.mem_cons.1 hy with rfl | hy
      · exact hx
      · exact hxs y hy) x

mutual
/-- The tree made anew. -/
def cvN : LN → IN
  | ⟨a, b, c, d, l⟩ => ⟨a, b, c, d, cvNs l⟩
def cvNs : List LN → List IN
  | [] => []
  | x :: xs => cvN x :: cvNs xs
end
mutual
/-- What a tree takes of a bound. -/
def wtN : LN → Nat
  | ⟨_, _, c, d, l⟩ => c.size + d.size + l.length + wtNs l
def wtNs : List LN → Nat
  | [] => 0
  | x :: xs => wtN x + wtNs xs
end
mutual
/-- How many nodes. -/
def cntI : IN → Nat
  | ⟨_, _, _, _, l⟩ => 1 + cntIs l
def cntIs : List IN → Nat
  | [] => 0
  | x :: xs => cntI x + cntIs xs
end
theorem cvNs_eq (l : List LN) : cvNs l = l.map cvN := by
  induction l with
  | nil => rfl
  | cons x xs ih => rw [cvNs, ih]; rfl
theorem wtNs_eq (l : List LN) : wtNs l = (l.map wtN).sum := by
  induction l with
  | nil => rfl
  | cons x xs ih => rw [wtNs, ih]; rfl
theorem cntIs_eq (l : List IN) : cntIs l = (l.map cntI).sum := by
  induction l with
  | nil => rfl
  | cons x xs ih => rw [cntIs, ih]; rfl
theorem cvN_eq (x : LN) : cvN x = ⟨x.f0, x.f1, x.f2, x.f3, x.f4.map cvN⟩ := by
  obtain ⟨a, b, c, d, l⟩ := x
  rw [cvN, cvNs_eq]
theorem wtN_eq (x : LN) : wtN x = x.f2.size + x.f3.size + x.f4.length + (x.f4.map wtN).sum := by
  obtain ⟨a, b, c, d, l⟩ := x
  rw [wtN, wtNs_eq]
theorem cntI_eq (x : IN) : cntI x = 1 + (x.f4.map cntI).sum := by
  obtain ⟨a, b, c, d, l⟩ := x
  rw [cntI, cntIs_eq]
theorem mem_le_sum {α : Type} (f : α → Nat) {l : List α} {x : α} (h : x ∈ l) : f x ≤ (l.map f).sum := by
  induction l with
  | nil => cases h
  | cons y ys ih =>
    simp only [List.map_cons, List.sum_cons]
    rcases List.mem_cons.1 h with rfl | h
    · omega
    · have := ih h; omega
theorem sum_le {α : Type} (f g : α → Nat) {l : List α} (h : ∀ x, x ∈ l → f x ≤ g x) : (l.map f).sum ≤ (l.map g).sum := by
  induction l with
  | nil => simp
  | cons y ys ih =>
    simp only [List.map_cons, List.sum_cons]
    have h1 := h y (by simp)
    have h2 := ih (fun x hx => h x (by simp [hx]))
    omega
theorem length_le_cnt (l : List IN) : l.length ≤ (l.map cntI).sum := by
  induction l with
  | nil => simp
  | cons y ys ih =>
    simp only [List.map_cons, List.sum_cons, List.length_cons]
    have := cntI_eq y
    omega
theorem cnt_cv (x : LN) : cntI (cvN x) ≤ 1 + wtN x := by
  induction x using indL with
  | h x ih =>
    rw [cvN_eq, cntI_eq, wtN_eq]
    simp only [List.map_map]
    have h1 : (x.f4.map (cntI ∘ cvN)).sum ≤ (x.f4.map (fun y => 1 + wtN y)).sum := sum_le _ _ (fun y hy => ih y hy)
    have h2 : ∀ l : List LN, (l.map (fun y => 1 + wtN y)).sum = l.length + (l.map wtN).sum := by
      intro l
      induction l with
      | nil => simp
      | cons y ys ih => simp only [List.map_cons, List.sum_cons, List.length_cons, ih]; omega
    have h3 := h2 x.f4
    omega

/-- What is left of a bound behind a tree. -/
theorem szN_ev (x : LN) : Good29 x → ∀ left : Int, 0 ≤ left → left ≤ 1048576 → ∃ t, Ev (fun k => laws_szNode.f k x.f0 x.f1 x.f2 x.f3 x.f4 left) t ∧ LeftOf left (wtN x) t := by
  induction x using indL with
  | h x ih =>
    intro good left h0 hB
    obtain ⟨_, _, _, h2, h3, hk, hl⟩ := good
    have hm : (maxLen : Nat) = 9223372036854775807 := rfl
    have e1 : wrap64 (left - (x.f2.size : Int)) = left - x.f2.size := by unfold wrap64; omega
    have hstep : ∀ k, laws_szNode.f (k + 1) x.f0 x.f1 x.f2 x.f3 x.f4 left = _ := fun k => laws_szNode.f.eq_2 _ _ _ _ _ _ k
    simp only [e1] at hstep
    by_cases c1 : left - (x.f2.size : Int) < 0
    · refine ⟨-1, ev_step _ hstep (ev_if_pos c1 ev_some), .inl (by omega)⟩
    have e2 : wrap64 (left - (x.f2.size : Int) - (x.f3.size : Int)) = left - x.f2.size - x.f3.size := by unfold wrap64; omega
    simp only [e2] at hstep
    by_cases c2 : left - (x.f2.size : Int) - (x.f3.size : Int) < 0
    · refine ⟨-1, ev_step _ hstep (ev_if_neg c1 (ev_if_pos c2 ev_some)), .inl (by omega)⟩
    have e3 : wrap64 (left - (x.f2.size : Int) - (x.f3.size : Int) - (x.f4.length : Int)) = left - x.f2.size - x.f3.size - x.f4.length := by unfold wrap64; omega
    have kids : ∃ t, Ev (fun k => laws_szNodeS.f k x.f4 (left - (x.f2.size : Int) - (x.f3.size : Int))) t ∧ LeftOf (left - (x.f2.size : Int) - (x.f3.size : Int)) (x.f4.length + (x.f4.map wtN).sum) t := by
      have hs2 : ∀ k, laws_szNodeS.f (k + 1) x.f4 (left - (x.f2.size : Int) - (x.f3.size : Int)) = _ := fun k => laws_szNodeS.f.eq_2 _ _ k
      simp only [e3] at hs2
      by_cases c3 : left - (x.f2.size : Int) - (x.f3.size : Int) - (x.f4.length : Int) < 0
      · exact ⟨-1, ev_step _ hs2 (ev_if_pos c3 ev_some), .inl (by omega)⟩
      · obtain ⟨t, ht, hw⟩ := left_loop x.f4 z29 wtN 1048576 (fun k y left => laws_szNode.f k y.f0 y.f1 y.f2 y.f3 y.f4 left) (fun k left i => laws_szNodeS.l0 k x.f4 left i)
          (fun k left i => by simp only [laws_szNodeS.l0]; rfl) (fun y hy left h0 hB => ih y hy (hk y hy) left h0 hB) (by omega) (left - (x.f2.size : Int) - (x.f3.size : Int) - (x.f4.length : Int)) (by omega) (by omega)
        refine ⟨t, ev_step _ hs2 (ev_if_neg c3 ht), ?_⟩
        rcases hw with h | ⟨h, h'⟩
        · exact .inl h
        · exact .inr ⟨h, by omega⟩
    obtain ⟨t, ht, hw⟩ := kids
    by_cases c3 : t < 0
    · exact ⟨-1, ev_step _ hstep (ev_if_neg c1 (ev_if_neg c2 (ev_bind t ht (ev_if_pos c3 ev_some)))), .inl (by omega)⟩
    · refine ⟨t, ev_step _ hstep (ev_if_neg c1 (ev_if_neg c2 (ev_bind t ht (ev_if_neg c3 ev_some)))), ?_⟩
      rcases hw with h | ⟨h, h'⟩
      · exact .inl h
      · rw [wtN_eq]
        exact .inr ⟨h, by omega⟩

/-- The tree made anew. -/
theorem toN_ev (x : LN) : wtN x ≤ 1048576 → Ev (fun k => laws_toNode.f k x.f0 x.f1 x.f2 x.f3 x.f4) (x.f0, x.f1, x.f2, x.f3, x.f4.map cvN) := by
  induction x using indL with
  | h x ih =>
    intro hw
    have hwx := wtN_eq x
    have hstep : ∀ k, laws_toNode.f (k + 1) x.f0 x.f1 x.f2 x.f3 x.f4 = _ := fun k => laws_toNode.f.eq_2 _ _ _ _ _ k
    have hs2 : ∀ k, laws_toNodeS.f (k + 1) x.f4 = _ := fun k => laws_toNodeS.f.eq_2 _ k
    have kids : Ev (fun k => laws_toNodeS.f k x.f4) (x.f4.map cvN) := by
      refine ev_step _ hs2 (ev_if_pos (by omega) (ev_if_pos (by omega) ?_))
      have e : ((x.f4.length : Int) : Int).toNat = x.f4.length := by omega
      rw [e]
      refine map_loop x.f4 z29 cvN _ (fun k y => (laws_toNode.f k y.f0 y.f1 y.f2 y.f3 y.f4).map (fun b => (⟨b.1, b.2.1, b.2.2.1, b.2.2.2.1, b.2.2.2.2⟩ : IN))) (fun k acc i => laws_toNodeS.l0 k x.f4 acc i) ?_ ?_ (by omega)
      · intro k acc i
        simp only [laws_toNodeS.l0, Option.bind_map]
        rfl
      · intro y hy
        have h1 := mem_le_sum wtN hy
        have h2 := ev_map (fun b => (⟨b.1, b.2.1, b.2.2.1, b.2.2.2.1, b.2.2.2.2⟩ : IN)) (ih y hy (by omega))
        rw [cvN_eq]
        exact h2
    exact ev_step _ hstep (ev_bind _ kids ev_some)

/-- A tree is the same as itself. -/
theorem eqN_ev (x : IN) : cntI x ≤ 9223372036854775806 → Ev (fun k => laws_eqNode.f k x.f0 x.f1 x.f2 x.f3 x.f4 x.f0 x.f1 x.f2 x.f3 x.f4) true := by
  induction x using indI with
  | h x ih =>
    intro hc
    have hcx := cntI_eq x
    have hl := length_le_cnt x.f4
    have hstep : ∀ k, laws_eqNode.f (k + 1) x.f0 x.f1 x.f2 x.f3 x.f4 x.f0 x.f1 x.f2 x.f3 x.f4 = _ := fun k => laws_eqNode.f.eq_2 _ _ _ _ _ _ _ _ _ _ k
    have hs2 : ∀ k, laws_eqNodeS.f (k + 1) x.f4 x.f4 = _ := fun k => laws_eqNodeS.f.eq_2 _ _ k
    have kids : Ev (fun k => laws_eqNodeS.f k x.f4 x.f4) true := by
      refine ev_step _ hs2 (ev_if_pos rfl ?_)
      refine same_loop x.f4 z34 (fun k y z => laws_eqNode.f k y.f0 y.f1 y.f2 y.f3 y.f4 z.f0 z.f1 z.f2 z.f3 z.f4) (fun k i => laws_eqNodeS.l0 k x.f4 x.f4 i) ?_ ?_ (by omega)
      · intro k i
        simp only [laws_eqNodeS.l0]
        rfl
      · intro y hy
        have h1 := mem_le_sum cntI hy
        exact ih y hy (by omega)
    exact ev_step _ hstep (ev_if_pos rfl (ev_if_pos rfl (ev_if_pos rfl (ev_if_pos rfl (ev_bind true kids (ev_if_pos rfl ev_some))))))

end Go.Proofs.Ytnjbmpabnceneaa.NdFnExactSize
