/- The program's Size returns what the reference's returns, and leaves its argument alone. For every tree (one of more than 2 to the 20 values and letters: the statement answers true at once). -/
import Derived.Test.YtnjbmpabnceneaaNodeFnExactSize
set_option linter.unusedVariables false
set_option linter.unusedSimpArgs false
namespace Go.Proofs.Ytnjbmpabnceneaa.Pure
open Go.RowKit Go.Proofs.Ytnjbmpabnceneaa.PFnExactSize Go.Proofs.Ytnjbmpabnceneaa.NdFnExactSize Go.Proofs.YtnjbmpabnceneaaW.PrintWords Go.Proofs.YtnjbmpabnceneaaW.PrintLast Go.Proofs.YtnjbmpabnceneaaW.Loops

theorem specSize_ev (x : IN) : cntI x ≤ 9223372036854775806 → Ev (fun k => spec_l02Size.f k x.f0 x.f1 x.f2 x.f3 x.f4) (cntI x : Int) := by
  induction x using indI with
  | h x ih =>
    intro hc
    have hcx := cntI_eq x
    have hl := length_le_cnt x.f4
    have hstep : ∀ k, spec_l02Size.f (k + 1) x.f0 x.f1 x.f2 x.f3 x.f4 = _ := fun k => spec_l02Size.f.eq_2 _ _ _ _ _ k
    have main : ∀ (m i : Nat) (s : Nat), i + m = x.f4.length → s + ((x.f4.drop i).map cntI).sum = cntI x → Ev (fun k => spec_l02Size.l0 k (s : Int) (i : Int) x.f0 x.f1 x.f2 x.f3 x.f4) (cntI x : Int) := by
      intro m
      induction m with
      | zero =>
        intro i s hi hs
        rw [List.drop_eq_nil_of_le (by omega)] at hs
        simp only [List.map_nil, List.sum_nil, Nat.add_zero] at hs
        subst hs
        exact ev_step _ (fun k => spec_l02Size.l0.eq_2 _ _ _ _ _ _ _ k) (ev_if_neg (by omega) ev_some)
      | succ m ihm =>
        intro i s hi hs
        have hlt : i < x.f4.length := by omega
        have hmem : x.f4[i] ∈ x.f4 := List.getElem_mem hlt
        have h1 := mem_le_sum cntI hmem
        rw [List.drop_eq_getElem_cons hlt] at hs
        simp only [List.map_cons, List.sum_cons] at hs
        refine ev_step _ (fun k => spec_l02Size.l0.eq_2 _ _ _ _ _ _ _ k) (ev_if_pos (by omega) (ev_if_pos (by omega) ?_))
        have e : rd_T34 x.f4 (i : Int) = x.f4[i] := getD_at x.f4 _ i hlt
        rw [e]
        refine ev_bind _ (ih _ hmem (by omega)) ?_
        have w1 : wrap64 ((s : Int) + (cntI x.f4[i] : Int)) = ((s + cntI x.f4[i] : Nat) : Int) := by unfold wrap64; omega
        rw [w1, wrap_next hlt (by omega)]
        exact ihm (i + 1) (s + cntI x.f4[i]) (by omega) (by omega)
    have h0 := main x.f4.length 0 1 (by omega) (by simp; omega)
    exact ev_step _ hstep h0

theorem size_round (k : Nat) (many : Nat) (ys : List IN) (x : IN) (h1 : many < 16777216) (h2 : ys.length + x.f4.length < 1954687338268) :
    impl_Size.l0 (k + 1) (many : Int) (ys ++ [x]) = impl_Size.l0 k ((many + 1 : Nat) : Int) (ys ++ x.f4) := by
  rw [impl_Size.l0.eq_2]
  have hl : (ys ++ [x]).length = ys.length + 1 := by simp
  have w1 : wrap64 (((ys ++ [x]).length : Int) - 1) = ((ys.length : Nat) : Int) := by rw [hl]; unfold wrap64; omega
  have w2 : wrap64 ((many : Int) + 1) = ((many + 1 : Nat) : Int) := by unfold wrap64; omega
  have e : rd_T34 (ys ++ [x]) ((ys.length : Nat) : Int) = x := by
    unfold rd_T34
    rw [getD_at _ _ _ (by omega)]
    simp
  have e2 : ((ys.length : Nat) : Int).toNat = ys.length := by omega
  rw [w1, e, e2, w2, if_pos (by omega), if_pos (by omega), if_pos (by omega), if_pos (by omega), if_pos (by omega)]
  simp only [Option.bind_some]
  rw [List.take_left' rfl, if_pos h2]

theorem implSize_ev : ∀ (m many : Nat) (l : List IN), (l.map cntI).sum = m → many + m < 16777216 → Ev (fun k => impl_Size.l0 k (many : Int) l) ((many + m : Nat) : Int) := by
  intro m
  induction m using Nat.strongRecOn with
  | ind m ih =>
    intro many l hm hb
    have hl := length_le_cnt l
    by_cases hn : l = []
    · subst hn
      simp at hm
      subst hm
      exact ev_step _ (fun k => impl_Size.l0.eq_2 _ _ k) (ev_if_neg (by simp) ev_some)
    · obtain ⟨ys, x, rfl⟩ : ∃ ys x, l = ys ++ [x] := ⟨l.dropLast, l.getLast hn, (List.dropLast_concat_getLast hn).symm⟩
      have hx := cntI_eq x
      have hlx := length_le_cnt x.f4
      have hly := length_le_cnt ys
      simp only [List.map_append, List.sum_append, List.map_cons, List.map_nil, List.sum_cons, List.sum_nil, Nat.add_zero] at hm
      refine ev_step _ (fun k => size_round k many ys x (by omega) (by omega)) ?_
      have hs2 : ((ys ++ x.f4).map cntI).sum = m - 1 := by
        rw [List.map_append, List.sum_append]
        omega
      have hb2 : many + 1 + (m - 1) < 16777216 := by omega
      have h2 := ih (m - 1) (by omega) (many + 1) _ hs2 hb2
      have e3 : many + 1 + (m - 1) = many + m := by omega
      rw [e3] at h2
      exact h2

theorem FnExactSize : laws_FnExactSize.Pure := by
  intro x0 good
  refine Ev.rounds (g := fun k => laws_FnExactSize.f k x0.f0 x0.f1 x0.f2 x0.f3 x0.f4) ?_
  unfold laws_FnExactSize.f
  obtain ⟨t, ht, hw⟩ := szN_ev x0 good 1048576 (by omega) (by omega)
  refine ev_bind t ht ?_
  by_cases hneg : t < 0
  · exact ev_if_pos hneg ev_some
  refine ev_if_neg hneg ?_
  have hwt : wtN x0 ≤ 1048576 := by
    rcases hw with h | ⟨h, h'⟩
    · exact absurd h hneg
    · omega
  have hcnt := cnt_cv x0
  have hto := toN_ev x0 hwt
  have hcv := cvN_eq x0
  have hsp := specSize_ev (cvN x0) (by omega)
  have heq := eqN_ev (cvN x0) (by omega)
  have him : Ev (fun k => impl_Size.f k x0.f0 x0.f1 x0.f2 x0.f3 (x0.f4.map cvN)) (cntI (cvN x0) : Int) := by
    have h := implSize_ev (cntI (cvN x0)) 0 [cvN x0] (by simp) (by omega)
    rw [Nat.zero_add] at h
    unfold impl_Size.f
    rw [hcv] at h ⊢
    exact h
  rw [hcv] at hsp heq
  refine ev_bind _ hto ?_
  refine ev_bind _ (show Ev (fun k => spec_Size.f k x0.f0 x0.f1 x0.f2 x0.f3 (x0.f4.map cvN)) (cntI (cvN x0) : Int) from ?_) ?_
  · unfold spec_Size.f
    rw [hcv]
    exact ev_bind _ hsp ev_some
  refine ev_bind _ hto ?_
  refine ev_bind _ him (ev_if_pos rfl ?_)
  refine ev_bind _ hto ?_
  exact ev_bind true heq (ev_if_pos rfl ev_some)

end Go.Proofs.Ytnjbmpabnceneaa.Pure
