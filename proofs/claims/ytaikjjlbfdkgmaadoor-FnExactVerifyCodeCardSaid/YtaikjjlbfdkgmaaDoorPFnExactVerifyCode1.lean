/- Functions of the program and their contracts: printed by ep3.py, a program of this session. -/
import Derived.Test.YtaikjjlbfdkgmaaDoorPFnExactVerifyCode0
import Derived.Test.YtaikjjlbfdkgmaaDoorProg
set_option linter.unusedVariables false
set_option linter.unusedSectionVars false
set_option linter.unusedSimpArgs false
namespace Go.Proofs.YtaikjjlbfdkgmaaDoor.E
open Go.RowKit
/-! impl_Ins__stacks: function 170 -/
def impl_Ins__stacks.e1 (k : Nat) (a0 : S0) : Option Bool := if a0.f0 = 1 then (some (decide (a0.f0 = 1))) else (if a0.f0 = 2 then (some (decide (a0.f0 = 2))) else (some (decide (a0.f0 = 3))))
def impl_Ins__stacks.e2 (k : Nat) (a0 : S0) : Option Bool := if a0.f0 = 4 then (some (decide (a0.f0 = 4))) else (if a0.f0 = 8 then (some (decide (a0.f0 = 8))) else (if a0.f0 = 9 then (some (decide (a0.f0 = 9))) else (some (decide (a0.f0 = 10)))))
def impl_Ins__stacks.e3 (k : Nat) (a0 : S0) : Option Bool := if a0.f0 = 6 then (some (decide (a0.f0 = 6))) else (some (decide (a0.f0 = 7)))
def impl_Ins__stacks.e4 (k : Nat) (a0 : S0) : Option Bool := if a0.f0 = 12 then (some (decide (a0.f0 = 12))) else (if a0.f0 = 15 then (some (decide (a0.f0 = 15))) else (some (decide (a0.f0 = 16))))
def impl_Ins__stacks.f (k : Nat) (a0 : S0) : Option (Int × Int) := (impl_Ins__stacks.e1 k a0).bind fun y3 => if y3 = true then (some (0, 1)) else ((impl_Ins__stacks.e2 k a0).bind fun y10 => if y10 = true then (some (1, 1)) else (if a0.f0 = 5 then (some (2, 0)) else ((impl_Ins__stacks.e3 k a0).bind fun y16 => if y16 = true then (some (2, 1)) else ((impl_Ins__stacks.e4 k a0).bind fun y22 => if y22 = true then (some (1, 0)) else (if a0.f0 = 13 then (some (a0.f1, a0.f2)) else (if a0.f0 = 14 then (some (a0.f1, 0)) else (some (0, 0))))))))
set_option maxRecDepth 100000 in
theorem impl_Ins__stacks.fn (k : Nat) (a0 : S0) (r : (Int × Int)) (H : impl_Ins__stacks.f k a0 = some r) : Fn Tryd.prog 170 [ag (eS0 a0)] [] (tp [none, none] [cI r.1, cI r.2]) [] := by
  unfold impl_Ins__stacks.f at H
  refine Fn.body (ts := [2, 3]) Tryd.func170 rfl rfl (by decide) (by decide) (Nat.le_of_ble_eq_true rfl) (Nat.le_refl _) ?_
  refine Tri.rn [1] 1 [] [] [] ⟨34, [(1, o1 (.ref 0 0))], [eS0 a0], 0, []⟩ (by kernel_rfl) trivial ?_
  refine Tri.seq ?_
  refine Tri.rn [1, 5] 1 [] [] [] ⟨34, [(1, o1 (.ref 0 0)), (5, oI a0.f0)], [eS0 a0], 0, []⟩ (by kernel_rfl) trivial ?_
  refine Tri.block ?_
  obtain ⟨v5, h4, H⟩ := bind_some' H
  refine Tri.join (α := Bool) (fun w => v5 = w) (fun y3 => ⟨34, [(1, o1 (.ref 0 0)), (5, oI a0.f0), (6, oB y3)], [eS0 a0], 0, []⟩) (fun y3 hw => ?_) ?_
  · rw [hw] at H; clear hw
    try dsimp only at H
    rcases iteb_some H with ⟨h6, H⟩ | ⟨h6, H⟩
    · refine Tri.cond_true (useb h6 (by kernel_rfl)) ?_
      refine Tri.rn [2, 3] 0 [] [] [] ⟨34, [(2, oI 0), (3, oI 1)], [], 0, []⟩ (by kernel_rfl) trivial ?_
      refine Tri.ret ?_
      obtain rfl := Option.some.inj H
      exact ⟨.inr rfl, rfl, rfl, Nat.le_refl _, rfl, by simp⟩
    · refine Tri.cond_false (useb h6 (by kernel_rfl)) ?_
      obtain ⟨v12, h11, H⟩ := bind_some' H
      refine Tri.join (α := Bool) (fun w => v12 = w) (fun y10 => ⟨34, [(1, o1 (.ref 0 0)), (5, oI a0.f0), (10, oB y10)], [eS0 a0], 0, []⟩) (fun y10 hw => ?_) ?_
      · rw [hw] at H; clear hw
        try dsimp only at H
        rcases iteb_some H with ⟨h13, H⟩ | ⟨h13, H⟩
        · refine Tri.cond_true (useb h13 (by kernel_rfl)) ?_
          refine Tri.rn [2, 3] 0 [] [] [] ⟨34, [(2, oI 1), (3, oI 1)], [], 0, []⟩ (by kernel_rfl) trivial ?_
          refine Tri.ret ?_
          obtain rfl := Option.some.inj H
          exact ⟨.inr rfl, rfl, rfl, Nat.le_refl _, rfl, by simp⟩
        · refine Tri.cond_false (useb h13 (by kernel_rfl)) ?_
          refine Tri.rn [1, 5, 15] 1 [] [] [] ⟨34, [(1, o1 (.ref 0 0)), (5, oI a0.f0), (15, oB (decide (a0.f0 = 5)))], [eS0 a0], 0, []⟩ (by kernel_rfl) trivial ?_
          rcases ite_some H with ⟨h14, H⟩ | ⟨h14, H⟩
          · refine Tri.cond_true (useb (decide_eq_true h14) (by kernel_rfl)) ?_
            refine Tri.rn [2, 3] 0 [] [] [] ⟨34, [(2, oI 2), (3, oI 0)], [], 0, []⟩ (by kernel_rfl) trivial ?_
            refine Tri.ret ?_
            obtain rfl := Option.some.inj H
            exact ⟨.inr rfl, rfl, rfl, Nat.le_refl _, rfl, by simp⟩
          · refine Tri.cond_false (useb (decide_eq_false h14) (by kernel_rfl)) ?_
            obtain ⟨v18, h17, H⟩ := bind_some' H
            refine Tri.join (α := Bool) (fun w => v18 = w) (fun y16 => ⟨34, [(1, o1 (.ref 0 0)), (5, oI a0.f0), (17, oB y16)], [eS0 a0], 0, []⟩) (fun y16 hw => ?_) ?_
            · rw [hw] at H; clear hw
              try dsimp only at H
              rcases iteb_some H with ⟨h19, H⟩ | ⟨h19, H⟩
              · refine Tri.cond_true (useb h19 (by kernel_rfl)) ?_
                refine Tri.rn [2, 3] 0 [] [] [] ⟨34, [(2, oI 2), (3, oI 1)], [], 0, []⟩ (by kernel_rfl) trivial ?_
                refine Tri.ret ?_
                obtain rfl := Option.some.inj H
                exact ⟨.inr rfl, rfl, rfl, Nat.le_refl _, rfl, by simp⟩
              · refine Tri.cond_false (useb h19 (by kernel_rfl)) ?_
                obtain ⟨v24, h23, H⟩ := bind_some' H
                refine Tri.join (α := Bool) (fun w => v24 = w) (fun y22 => ⟨34, [(1, o1 (.ref 0 0)), (5, oI a0.f0), (20, oB y22)], [eS0 a0], 0, []⟩) (fun y22 hw => ?_) ?_
                · rw [hw] at H; clear hw
                  try dsimp only at H
                  rcases iteb_some H with ⟨h25, H⟩ | ⟨h25, H⟩
                  · refine Tri.cond_true (useb h25 (by kernel_rfl)) ?_
                    refine Tri.rn [2, 3] 0 [] [] [] ⟨34, [(2, oI 1), (3, oI 0)], [], 0, []⟩ (by kernel_rfl) trivial ?_
                    refine Tri.ret ?_
                    obtain rfl := Option.some.inj H
                    exact ⟨.inr rfl, rfl, rfl, Nat.le_refl _, rfl, by simp⟩
                  · refine Tri.cond_false (useb h25 (by kernel_rfl)) ?_
                    refine Tri.rn [1, 5, 24] 1 [] [] [] ⟨34, [(1, o1 (.ref 0 0)), (5, oI a0.f0), (24, oB (decide (a0.f0 = 13)))], [eS0 a0], 0, []⟩ (by kernel_rfl) trivial ?_
                    rcases ite_some H with ⟨h26, H⟩ | ⟨h26, H⟩
                    · refine Tri.cond_true (useb (decide_eq_true h26) (by kernel_rfl)) ?_
                      refine Tri.dn hmix 5 [[], [0], [], [2], [0, 1], [0, 1, 2, 3, 4]] [2, 3] 0 [] [] [] ⟨34, [(2, oI a0.f1), (3, oI a0.f2)], [], 0, []⟩ (by kernel_rfl) trivial ?_
                      refine Tri.ret ?_
                      obtain rfl := Option.some.inj H
                      exact ⟨.inr rfl, rfl, rfl, Nat.le_refl _, rfl, by simp⟩
                    · refine Tri.cond_false (useb (decide_eq_false h26) (by kernel_rfl)) ?_
                      refine Tri.rn [1, 30] 1 [] [] [] ⟨34, [(1, o1 (.ref 0 0)), (30, oB (decide (a0.f0 = 14)))], [eS0 a0], 0, []⟩ (by kernel_rfl) trivial ?_
                      rcases ite_some H with ⟨h27, H⟩ | ⟨h27, H⟩
                      · refine Tri.cond_true (useb (decide_eq_true h27) (by kernel_rfl)) ?_
                        refine Tri.rn [2, 3] 0 [] [] [] ⟨34, [(2, oI a0.f1), (3, oI 0)], [], 0, []⟩ (by kernel_rfl) trivial ?_
                        refine Tri.ret ?_
                        obtain rfl := Option.some.inj H
                        exact ⟨.inr rfl, rfl, rfl, Nat.le_refl _, rfl, by simp⟩
                      · refine Tri.cond_false (useb (decide_eq_false h27) (by kernel_rfl)) ?_
                        refine Tri.skip ?_
                        refine Tri.rn [2, 3] 0 [] [] [] ⟨34, [(2, oI 0), (3, oI 0)], [], 0, []⟩ (by kernel_rfl) trivial ?_
                        refine Tri.ret ?_
                        obtain rfl := Option.some.inj H
                        exact ⟨.inr rfl, rfl, rfl, Nat.le_refl _, rfl, by simp⟩
                · unfold impl_Ins__stacks.e4 at h23
                  refine Tri.rn [1, 5, 20] 1 [] [] [] ⟨34, [(1, o1 (.ref 0 0)), (5, oI a0.f0), (20, oB (decide (a0.f0 = 12)))], [eS0 a0], 0, []⟩ (by kernel_rfl) trivial ?_
                  rcases ite_some h23 with ⟨h20, h23⟩ | ⟨h20, h23⟩
                  · refine Tri.cond_true (useb (decide_eq_true h20) (by kernel_rfl)) ?_
                    refine Tri.skip ?_
                    exact ⟨(decide (a0.f0 = 12)), (Option.some.inj h23).symm, rfl⟩
                  · refine Tri.cond_false (useb (decide_eq_false h20) (by kernel_rfl)) ?_
                    refine Tri.rn [1, 5, 20] 1 [] [] [] ⟨34, [(1, o1 (.ref 0 0)), (5, oI a0.f0), (20, oB (decide (a0.f0 = 15)))], [eS0 a0], 0, []⟩ (by kernel_rfl) trivial ?_
                    rcases ite_some h23 with ⟨h21, h23⟩ | ⟨h21, h23⟩
                    · refine Tri.cond_true (useb (decide_eq_true h21) (by kernel_rfl)) ?_
                      refine Tri.skip ?_
                      exact ⟨(decide (a0.f0 = 15)), (Option.some.inj h23).symm, rfl⟩
                    · refine Tri.cond_false (useb (decide_eq_false h21) (by kernel_rfl)) ?_
                      refine Tri.r1 [1, 5, 20] 1 [] [] [] ⟨34, [(1, o1 (.ref 0 0)), (5, oI a0.f0), (20, oB (decide (a0.f0 = 16)))], [eS0 a0], 0, []⟩ (by kernel_rfl) trivial ?_
                      exact ⟨(decide (a0.f0 = 16)), (Option.some.inj h23).symm, rfl⟩
            · unfold impl_Ins__stacks.e3 at h17
              refine Tri.rn [1, 5, 17] 1 [] [] [] ⟨34, [(1, o1 (.ref 0 0)), (5, oI a0.f0), (17, oB (decide (a0.f0 = 6)))], [eS0 a0], 0, []⟩ (by kernel_rfl) trivial ?_
              rcases ite_some h17 with ⟨h15, h17⟩ | ⟨h15, h17⟩
              · refine Tri.cond_true (useb (decide_eq_true h15) (by kernel_rfl)) ?_
                refine Tri.skip ?_
                exact ⟨(decide (a0.f0 = 6)), (Option.some.inj h17).symm, rfl⟩
              · refine Tri.cond_false (useb (decide_eq_false h15) (by kernel_rfl)) ?_
                refine Tri.r1 [1, 5, 17] 1 [] [] [] ⟨34, [(1, o1 (.ref 0 0)), (5, oI a0.f0), (17, oB (decide (a0.f0 = 7)))], [eS0 a0], 0, []⟩ (by kernel_rfl) trivial ?_
                exact ⟨(decide (a0.f0 = 7)), (Option.some.inj h17).symm, rfl⟩
      · unfold impl_Ins__stacks.e2 at h11
        refine Tri.rn [1, 5, 10] 1 [] [] [] ⟨34, [(1, o1 (.ref 0 0)), (5, oI a0.f0), (10, oB (decide (a0.f0 = 4)))], [eS0 a0], 0, []⟩ (by kernel_rfl) trivial ?_
        rcases ite_some h11 with ⟨h7, h11⟩ | ⟨h7, h11⟩
        · refine Tri.cond_true (useb (decide_eq_true h7) (by kernel_rfl)) ?_
          refine Tri.skip ?_
          exact ⟨(decide (a0.f0 = 4)), (Option.some.inj h11).symm, rfl⟩
        · refine Tri.cond_false (useb (decide_eq_false h7) (by kernel_rfl)) ?_
          refine Tri.rn [1, 5, 10] 1 [] [] [] ⟨34, [(1, o1 (.ref 0 0)), (5, oI a0.f0), (10, oB (decide (a0.f0 = 8)))], [eS0 a0], 0, []⟩ (by kernel_rfl) trivial ?_
          rcases ite_some h11 with ⟨h8, h11⟩ | ⟨h8, h11⟩
          · refine Tri.cond_true (useb (decide_eq_true h8) (by kernel_rfl)) ?_
            refine Tri.skip ?_
            exact ⟨(decide (a0.f0 = 8)), (Option.some.inj h11).symm, rfl⟩
          · refine Tri.cond_false (useb (decide_eq_false h8) (by kernel_rfl)) ?_
            refine Tri.rn [1, 5, 10] 1 [] [] [] ⟨34, [(1, o1 (.ref 0 0)), (5, oI a0.f0), (10, oB (decide (a0.f0 = 9)))], [eS0 a0], 0, []⟩ (by kernel_rfl) trivial ?_
            rcases ite_some h11 with ⟨h9, h11⟩ | ⟨h9, h11⟩
            · refine Tri.cond_true (useb (decide_eq_true h9) (by kernel_rfl)) ?_
              refine Tri.skip ?_
              exact ⟨(decide (a0.f0 = 9)), (Option.some.inj h11).symm, rfl⟩
            · refine Tri.cond_false (useb (decide_eq_false h9) (by kernel_rfl)) ?_
              refine Tri.r1 [1, 5, 10] 1 [] [] [] ⟨34, [(1, o1 (.ref 0 0)), (5, oI a0.f0), (10, oB (decide (a0.f0 = 10)))], [eS0 a0], 0, []⟩ (by kernel_rfl) trivial ?_
              exact ⟨(decide (a0.f0 = 10)), (Option.some.inj h11).symm, rfl⟩
  · unfold impl_Ins__stacks.e1 at h4
    refine Tri.rn [1, 5, 6] 1 [] [] [] ⟨34, [(1, o1 (.ref 0 0)), (5, oI a0.f0), (6, oB (decide (a0.f0 = 1)))], [eS0 a0], 0, []⟩ (by kernel_rfl) trivial ?_
    rcases ite_some h4 with ⟨h1, h4⟩ | ⟨h1, h4⟩
    · refine Tri.cond_true (useb (decide_eq_true h1) (by kernel_rfl)) ?_
      refine Tri.skip ?_
      exact ⟨(decide (a0.f0 = 1)), (Option.some.inj h4).symm, rfl⟩
    · refine Tri.cond_false (useb (decide_eq_false h1) (by kernel_rfl)) ?_
      refine Tri.rn [1, 5, 6] 1 [] [] [] ⟨34, [(1, o1 (.ref 0 0)), (5, oI a0.f0), (6, oB (decide (a0.f0 = 2)))], [eS0 a0], 0, []⟩ (by kernel_rfl) trivial ?_
      rcases ite_some h4 with ⟨h2, h4⟩ | ⟨h2, h4⟩
      · refine Tri.cond_true (useb (decide_eq_true h2) (by kernel_rfl)) ?_
        refine Tri.skip ?_
        exact ⟨(decide (a0.f0 = 2)), (Option.some.inj h4).symm, rfl⟩
      · refine Tri.cond_false (useb (decide_eq_false h2) (by kernel_rfl)) ?_
        refine Tri.r1 [1, 5, 6] 1 [] [] [] ⟨34, [(1, o1 (.ref 0 0)), (5, oI a0.f0), (6, oB (decide (a0.f0 = 3)))], [eS0 a0], 0, []⟩ (by kernel_rfl) trivial ?_
        exact ⟨(decide (a0.f0 = 3)), (Option.some.inj h4).symm, rfl⟩
/-! impl_Ins__follows: function 171 -/
def impl_Ins__follows.e1 (k : Nat) (a0 : S0) : Option Bool := if a0.f0 = 14 then (some (decide (a0.f0 = 14))) else (some (decide (a0.f0 = 17)))
def impl_Ins__follows.f (k : Nat) (a0 : S0) (a1 : Int) : Option (List Int) := if a0.f0 = 11 then (some ([a0.f1] : List Int)) else (if a0.f0 = 12 then (some ([a0.f1, w64 (a1 + 1)] : List Int)) else ((impl_Ins__follows.e1 k a0).bind fun y4 => if y4 = true then (some ([] : List Int)) else (some ([w64 (a1 + 1)] : List Int))))
set_option maxRecDepth 100000 in
theorem impl_Ins__follows.fn (k : Nat) (a0 : S0) (a1 : Int) (r : (List Int)) (H : impl_Ins__follows.f k a0 a1 = some r) : Fn Tryd.prog 171 [ag (eS0 a0), oI a1] [] (o1 (.own 3 (List.map eI r))) [] := by
  unfold impl_Ins__follows.f at H
  refine Fn.body (ts := [4]) Tryd.func171 rfl rfl (by decide) (by decide) (Nat.le_of_ble_eq_true rfl) (Nat.le_refl _) ?_
  refine Tri.rn [1, 2] 1 [] [] [] ⟨25, [(1, oI a1), (2, o1 (.ref 0 0))], [eS0 a0], 0, []⟩ (by kernel_rfl) trivial ?_
  refine Tri.seq ?_
  refine Tri.rn [1, 2, 6] 1 [] [] [] ⟨25, [(1, oI a1), (2, o1 (.ref 0 0)), (6, oI a0.f0)], [eS0 a0], 0, []⟩ (by kernel_rfl) trivial ?_
  refine Tri.block ?_
  refine Tri.rn [1, 2, 6, 7] 1 [] [] [] ⟨25, [(1, oI a1), (2, o1 (.ref 0 0)), (6, oI a0.f0), (7, oB (decide (a0.f0 = 11)))], [eS0 a0], 0, []⟩ (by kernel_rfl) trivial ?_
  rcases ite_some H with ⟨h1, H⟩ | ⟨h1, H⟩
  · refine Tri.cond_true (useb (decide_eq_true h1) (by kernel_rfl)) ?_
    refine Tri.rn [4] 0 [] [] [] ⟨25, [(4, o1 (.own 3 (List.map eI ([a0.f1] : List Int))))], [], 0, []⟩ (by kernel_rfl) trivial ?_
    refine Tri.ret ?_
    obtain rfl := Option.some.inj H
    exact ⟨.inr rfl, rfl, rfl, Nat.le_refl _, rfl, by simp⟩
  · refine Tri.cond_false (useb (decide_eq_false h1) (by kernel_rfl)) ?_
    refine Tri.rn [1, 2, 6, 12] 1 [] [] [] ⟨25, [(1, oI a1), (2, o1 (.ref 0 0)), (6, oI a0.f0), (12, oB (decide (a0.f0 = 12)))], [eS0 a0], 0, []⟩ (by kernel_rfl) trivial ?_
    rcases ite_some H with ⟨h2, H⟩ | ⟨h2, H⟩
    · refine Tri.cond_true (useb (decide_eq_true h2) (by kernel_rfl)) ?_
      refine Tri.rn [4] 0 [] [] [] ⟨25, [(4, o1 (.own 3 (List.map eI ([a0.f1, w64 (a1 + 1)] : List Int))))], [], 0, []⟩ (by kernel_rfl) trivial ?_
      refine Tri.ret ?_
      obtain rfl := Option.some.inj H
      exact ⟨.inr rfl, rfl, rfl, Nat.le_refl _, rfl, by simp⟩
    · refine Tri.cond_false (useb (decide_eq_false h2) (by kernel_rfl)) ?_
      obtain ⟨v6, h5, H⟩ := bind_some' H
      refine Tri.join (α := Bool) (fun w => v6 = w) (fun y4 => ⟨25, [(1, oI a1), (19, oB y4)], [], 0, []⟩) (fun y4 hw => ?_) ?_
      · rw [hw] at H; clear hw
        try dsimp only at H
        rcases iteb_some H with ⟨h7, H⟩ | ⟨h7, H⟩
        · refine Tri.cond_true (useb h7 (by kernel_rfl)) ?_
          refine Tri.rn [4] 0 [] [] [] ⟨25, [(4, o1 .nl)], [], 0, []⟩ (by kernel_rfl) trivial ?_
          refine Tri.fix [4] 0 [.own (.t 4 0) 3] ⟨25, [(4, o1 (.own 3 (List.map eI ([] : List Int))))], [], 0, []⟩ (by kernel_rfl) ?_
          refine Tri.ret ?_
          obtain rfl := Option.some.inj H
          exact ⟨.inr rfl, rfl, rfl, Nat.le_refl _, rfl, by simp⟩
        · refine Tri.cond_false (useb h7 (by kernel_rfl)) ?_
          refine Tri.skip ?_
          refine Tri.rn [4] 0 [] [] [] ⟨25, [(4, o1 (.own 3 (List.map eI ([w64 (a1 + 1)] : List Int))))], [], 0, []⟩ (by kernel_rfl) trivial ?_
          refine Tri.ret ?_
          obtain rfl := Option.some.inj H
          exact ⟨.inr rfl, rfl, rfl, Nat.le_refl _, rfl, by simp⟩
      · unfold impl_Ins__follows.e1 at h5
        refine Tri.rn [1, 6, 19] 0 [] [] [] ⟨25, [(1, oI a1), (6, oI a0.f0), (19, oB (decide (a0.f0 = 14)))], [], 0, []⟩ (by kernel_rfl) trivial ?_
        rcases ite_some h5 with ⟨h3, h5⟩ | ⟨h3, h5⟩
        · refine Tri.cond_true (useb (decide_eq_true h3) (by kernel_rfl)) ?_
          refine Tri.fix [1, 19] 0 [] ⟨25, [(1, oI a1), (19, oB (decide (a0.f0 = 14)))], [], 0, []⟩ (by kernel_rfl) ?_
          refine Tri.skip ?_
          exact ⟨(decide (a0.f0 = 14)), (Option.some.inj h5).symm, rfl⟩
        · refine Tri.cond_false (useb (decide_eq_false h3) (by kernel_rfl)) ?_
          refine Tri.r1 [1, 19] 0 [] [] [] ⟨25, [(1, oI a1), (19, oB (decide (a0.f0 = 17)))], [], 0, []⟩ (by kernel_rfl) trivial ?_
          exact ⟨(decide (a0.f0 = 17)), (Option.some.inj h5).symm, rfl⟩
/-! impl_Code__reach_1: function 134 -/
def impl_Code__reach_1.e1 (k : Nat) (x1 : S0) (r3 : (Int × Int)) (x5 : Int) : Option Bool := if x1.f0 = 14 then (some (decide ((0 : Int) < (w64 ((w64 (x5 - r3.1)) + r3.2))))) else (some false)
def impl_Code__reach_1.e2 (k : Nat) (a0 : S1) (r3 : (Int × Int)) (x5 : Int) (r14 : (List Int)) (z28 : (List Int)) (z29 : Bool) (z30 : Int) : Option ((Bool × Int × (List Int)) ⊕ ((List Int) × Bool)) := (at? r14 z30).bind fun x32 => if x32 = (a0.f4.length : Int) then (some (.inl (false, 10, z28))) else ((at? z28 x32).bind fun x35 => if x35 = (-1) then (some (.inr (z28.set (Int.toNat x32) (w64 ((w64 (x5 - r3.1)) + r3.2)), true))) else (if x35 = (w64 ((w64 (x5 - r3.1)) + r3.2)) then (some (.inr (z28, z29))) else (some (.inl (false, 8, z28)))))
def impl_Code__reach_1.l3 : Nat → S1 → (Int × Int) → Int → (List Int) → (List Int) → Bool → Int → Option ((Bool × Int × (List Int)) ⊕ ((List Int) × Bool))
  | 0, _, _, _, _, _, _, _ => none
  | k + 1, a0, r3, x5, r14, z28, z29, z30 => if z30 < (r14.length : Int) then ((impl_Code__reach_1.e2 k a0 r3 x5 r14 z28 z29 z30).bind fun v => match v with | .inl r => some (.inl r) | .inr (y39, y40) => impl_Code__reach_1.l3 k a0 r3 x5 r14 y39 y40 (w64 (z30 + 1))) else (some (.inr (z28, z29)))
def impl_Code__reach_1.e4 (k : Nat) (a0 : S1) (a1_1 : (List Int)) (a2 : Int) (x1 : S0) (r3 : (Int × Int)) (x5 : Int) : Option ((Bool × Int × (List Int)) ⊕ ((List Int) × Bool)) := (impl_Ins__follows.f k x1 a2).bind fun r14 => impl_Code__reach_1.l3 k a0 r3 x5 r14 a1_1 false 0
def impl_Code__reach_1.f (k : Nat) (a0 : S1) (a1_1 : (List Int)) (a2 : Int) : Option (Bool × Int × (List Int)) := (at? a0.f4 a2).bind fun x1 => (impl_Ins__stacks.f k x1).bind fun r3 => (at? a1_1 a2).bind fun x5 => if (w64 (x5 - r3.1)) < 0 then (some (false, 11, a1_1)) else (if (60 : Int) < (w64 ((w64 (x5 - r3.1)) + r3.2)) then (some (false, 14, a1_1)) else ((impl_Code__reach_1.e1 k x1 r3 x5).bind fun y10 => if y10 = true then (some (false, 8, a1_1)) else ((impl_Code__reach_1.e4 k a0 a1_1 a2 x1 r3 x5).bind fun v => match v with | .inl r => some r | .inr (y44, y45) => some (y45, 0, y44))))
set_option maxRecDepth 100000 in
theorem impl_Code__reach_1.fn (k : Nat) (a0 : S1) (a1_1 : (List Int)) (a2 : Int) (r : (Bool × Int × (List Int))) (H : impl_Code__reach_1.f k a0 a1_1 a2 = some r) : FnG Tryd.prog 134 [ag (eS1 a0), o1 (.own 3 (List.map eI a1_1)), oI a2] [1] [] (tp [none, none] [cB r.1, cI r.2.1]) [.own 3 (List.map eI r.2.2)] [] := by
  unfold impl_Code__reach_1.f at H
  refine FnG.body (ts := [6, 7]) Tryd.func134 rfl rfl (by decide) (by decide) (Nat.le_of_ble_eq_true rfl) rfl (Nat.le_of_ble_eq_true rfl) ?_
  refine Tri.rn [1, 2, 3] 1 [] [] [] ⟨80, [(1, o1 (.own 3 (List.map eI a1_1))), (2, oI a2), (3, o1 (.ref 0 0))], [eS1 a0], 0, [1]⟩ (by kernel_rfl) trivial ?_
  obtain ⟨x1, h2, H⟩ := bind_some' H
  refine Tri.rn [1, 2, 3, 8] 2 [] [(3, .el (eS0 x1))] [_, _] ⟨80, [(1, o1 (.own 3 (List.map eI a1_1))), (2, oI a2), (3, o1 (.ref 0 0)), (8, o1 (.ref 1 0))], [eS1 a0, eS0 x1], 0, [1]⟩ (by kernel_rfl) ⟨(at?_0 h2), (at?_map (f := eS0) h2), trivial⟩ ?_
  obtain ⟨r3, h4, H⟩ := bind_some' H
  refine Tri.rn [1, 2, 3, 8, 9, 10] 2 [] [(1, .call (tp [none, none] [cI r3.1, cI r3.2]) [] false)] [_, _] ⟨80, [(1, o1 (.own 3 (List.map eI a1_1))), (2, oI a2), (3, o1 (.ref 0 0)), (8, o1 (.ref 1 0)), (9, oI r3.1), (10, oI r3.2)], [eS1 a0, eS0 x1], 0, [1]⟩ (by kernel_rfl) ⟨(impl_Ins__stacks.fn k x1 r3 h4), (show (List.all [cI r3.1, cI r3.2] PC.flatB) = true from rfl), trivial⟩ ?_
  obtain ⟨x5, h6, H⟩ := bind_some' H
  refine Tri.rn [1, 2, 3, 8, 10, 11] 2 [] [(2, .el (eI x5)), (3, .el (eI x5))] [_, _, _] ⟨80, [(1, o1 (.own 3 (List.map eI a1_1))), (2, oI a2), (3, o1 (.ref 0 0)), (8, o1 (.ref 1 0)), (10, oI r3.2), (11, oI (w64 (x5 - r3.1)))], [eS1 a0, eS0 x1], 0, [1]⟩ (by kernel_rfl) ⟨(at?_0 h6), (at?_map (f := eI) h6), (at?_map (f := eI) h6), trivial⟩ ?_
  refine Tri.seq ?_
  refine Tri.rn [1, 2, 3, 8, 10, 11, 32] 2 [] [] [] ⟨80, [(1, o1 (.own 3 (List.map eI a1_1))), (2, oI a2), (3, o1 (.ref 0 0)), (8, o1 (.ref 1 0)), (10, oI r3.2), (11, oI (w64 (x5 - r3.1))), (32, oB (decide ((w64 (x5 - r3.1)) < 0)))], [eS1 a0, eS0 x1], 0, [1]⟩ (by kernel_rfl) trivial ?_
  rcases ite_some H with ⟨h7, H⟩ | ⟨h7, H⟩
  · refine Tri.cond_true (useb (decide_eq_true h7) (by kernel_rfl)) ?_
    refine Tri.rn [1, 6, 7] 0 [] [] [] ⟨80, [(1, o1 (.own 3 (List.map eI a1_1))), (6, oB false), (7, oI 11)], [], 0, [1]⟩ (by kernel_rfl) trivial ?_
    refine Tri.ret ?_
    obtain rfl := Option.some.inj H
    exact endsG (.inr rfl) (by kernel_rfl)
  · refine Tri.cond_false (useb (decide_eq_false h7) (by kernel_rfl)) ?_
    refine Tri.skip ?_
    refine Tri.rn [1, 2, 3, 8, 11] 2 [] [] [] ⟨80, [(1, o1 (.own 3 (List.map eI a1_1))), (2, oI a2), (3, o1 (.ref 0 0)), (8, o1 (.ref 1 0)), (11, oI (w64 ((w64 (x5 - r3.1)) + r3.2)))], [eS1 a0, eS0 x1], 0, [1]⟩ (by kernel_rfl) trivial ?_
    refine Tri.seq ?_
    refine Tri.block ?_
    refine Tri.rn [1, 2, 3, 8, 11, 36] 2 [] [] [] ⟨80, [(1, o1 (.own 3 (List.map eI a1_1))), (2, oI a2), (3, o1 (.ref 0 0)), (8, o1 (.ref 1 0)), (11, oI (w64 ((w64 (x5 - r3.1)) + r3.2))), (36, oB (decide ((60 : Int) < (w64 ((w64 (x5 - r3.1)) + r3.2)))))], [eS1 a0, eS0 x1], 0, [1]⟩ (by kernel_rfl) trivial ?_
    rcases ite_some H with ⟨h8, H⟩ | ⟨h8, H⟩
    · refine Tri.cond_true (useb (decide_eq_true h8) (by kernel_rfl)) ?_
      refine Tri.rn [1, 6, 7] 0 [] [] [] ⟨80, [(1, o1 (.own 3 (List.map eI a1_1))), (6, oB false), (7, oI 14)], [], 0, [1]⟩ (by kernel_rfl) trivial ?_
      refine Tri.ret ?_
      obtain rfl := Option.some.inj H
      exact endsG (.inr rfl) (by kernel_rfl)
    · refine Tri.cond_false (useb (decide_eq_false h8) (by kernel_rfl)) ?_
      obtain ⟨v12, h11, H⟩ := bind_some' H
      refine Tri.join (α := Bool) (fun w => v12 = w) (fun y10 => ⟨80, [(1, o1 (.own 3 (List.map eI a1_1))), (2, oI a2), (3, o1 (.ref 0 0)), (8, o1 (.ref 1 0)), (11, oI (w64 ((w64 (x5 - r3.1)) + r3.2))), (39, oB y10)], [eS1 a0, eS0 x1], 0, [1]⟩) (fun y10 hw => ?_) ?_
      · rw [hw] at H; clear hw
        try dsimp only at H
        rcases iteb_some H with ⟨h13, H⟩ | ⟨h13, H⟩
        · refine Tri.cond_true (useb h13 (by kernel_rfl)) ?_
          refine Tri.rn [1, 6, 7] 0 [] [] [] ⟨80, [(1, o1 (.own 3 (List.map eI a1_1))), (6, oB false), (7, oI 8)], [], 0, [1]⟩ (by kernel_rfl) trivial ?_
          refine Tri.ret ?_
          obtain rfl := Option.some.inj H
          exact endsG (.inr rfl) (by kernel_rfl)
        · refine Tri.cond_false (useb h13 (by kernel_rfl)) ?_
          refine Tri.skip ?_
          refine Tri.rn [1, 2, 3, 8, 11, 12] 2 [] [] [] ⟨80, [(1, o1 (.own 3 (List.map eI a1_1))), (2, oI a2), (3, o1 (.ref 0 0)), (8, o1 (.ref 1 0)), (11, oI (w64 ((w64 (x5 - r3.1)) + r3.2))), (12, oB false)], [eS1 a0, eS0 x1], 0, [1]⟩ (by kernel_rfl) trivial ?_
          obtain ⟨v47, h46, H⟩ := bind_some' H
          refine Tri.join (α := ((List Int) × Bool)) (fun w => v47 = .inr w) (fun w => ⟨80, [(1, o1 (.own 3 (List.map eI w.1))), (12, oB w.2)], [], 0, [1]⟩) (fun w hw => ?_) ?_
          · rw [hw] at H; clear hw
            obtain ⟨y44, y45⟩ := w
            try dsimp only at H
            refine Tri.rn [1, 6, 7] 0 [] [] [] ⟨80, [(1, o1 (.own 3 (List.map eI y44))), (6, oB y45), (7, oI 0)], [], 0, [1]⟩ (by kernel_rfl) trivial ?_
            refine Tri.ret ?_
            obtain rfl := Option.some.inj H
            exact endsG (.inr rfl) (by kernel_rfl)
          · unfold impl_Code__reach_1.e4 at h46
            obtain ⟨r14, h15, h46⟩ := bind_some' h46
            refine Tri.rn [1, 3, 11, 12, 49, 50, 51] 1 [] [(2, .call (o1 (.own 3 (List.map eI r14))) [] false), (3, .ov [.sc (.int .i64 (r14.length : Int))])] [_, _, _] ⟨80, [(1, o1 (.own 3 (List.map eI a1_1))), (3, o1 (.ref 0 0)), (11, oI (w64 ((w64 (x5 - r3.1)) + r3.2))), (12, oB false), (49, o1 (.own 3 (List.map eI r14))), (50, oI (r14.length : Int)), (51, oI 0)], [eS1 a0], 0, [1]⟩ (by kernel_rfl) ⟨(impl_Ins__follows.fn k x1 a2 r14 h15), (show (List.all [.own 3 (List.map eI r14)] PC.flatB) = true by simp [PC.flatB, PC.scalar, cI, cK, cB, cS, eI]), (ovlen (f := eI) (l := r14)), trivial⟩ ?_
            refine Tri.block ?_
            refine Tri.loop k (TriR.ind (α := ((List Int) × Bool × Int)) (fun k x => impl_Code__reach_1.l3 k a0 r3 x5 r14 x.1 x.2.1 x.2.2) (fun x => ⟨80, [(1, o1 (.own 3 (List.map eI x.1))), (3, o1 (.ref 0 0)), (11, oI (w64 ((w64 (x5 - r3.1)) + r3.2))), (12, oB x.2.1), (49, o1 (.own 3 (List.map eI r14))), (50, oI (r14.length : Int)), (51, oI x.2.2)], [eS1 a0], 0, [1]⟩) (fun _ => rfl) (fun k x h46 IH43 => ?_) k (a1_1, false, 0) h46)
            obtain ⟨z28, z29, z30⟩ := x
            rw [impl_Code__reach_1.l3.eq_2] at h46
            refine Tri.rn [1, 3, 11, 12, 49, 50, 51, 52] 1 [] [] [] ⟨80, [(1, o1 (.own 3 (List.map eI z28))), (3, o1 (.ref 0 0)), (11, oI (w64 ((w64 (x5 - r3.1)) + r3.2))), (12, oB z29), (49, o1 (.own 3 (List.map eI r14))), (50, oI (r14.length : Int)), (51, oI z30), (52, oB (decide (z30 < (r14.length : Int))))], [eS1 a0], 0, [1]⟩ (by kernel_rfl) trivial ?_
            refine Tri.seq ?_
            rcases ite_some h46 with ⟨h31, h46⟩ | ⟨h31, h46⟩
            · refine Tri.cond_true (useb (decide_eq_true h31) (by kernel_rfl)) ?_
              refine Tri.skip ?_
              obtain ⟨v42, h41, h46⟩ := bind_some' h46
              refine Tri.join (α := ((List Int) × Bool)) (fun w => v42 = .inr w) (fun w => ⟨80, [(1, o1 (.own 3 (List.map eI w.1))), (3, o1 (.ref 0 0)), (11, oI (w64 ((w64 (x5 - r3.1)) + r3.2))), (12, oB w.2), (49, o1 (.own 3 (List.map eI r14))), (50, oI (r14.length : Int)), (51, oI z30)], [eS1 a0], 0, [1]⟩) (fun w hw => ?_) ?_
              · rw [hw] at h46; clear hw
                obtain ⟨y39, y40⟩ := w
                try dsimp only at h46
                refine Tri.r1 [1, 3, 11, 12, 49, 50, 51] 1 [] [] [] ⟨80, [(1, o1 (.own 3 (List.map eI y39))), (3, o1 (.ref 0 0)), (11, oI (w64 ((w64 (x5 - r3.1)) + r3.2))), (12, oB y40), (49, o1 (.own 3 (List.map eI r14))), (50, oI (r14.length : Int)), (51, oI (w64 (z30 + 1)))], [eS1 a0], 0, [1]⟩ (by kernel_rfl) trivial ?_
                exact IH43 _ (y39, y40, w64 (z30 + 1)) (Nat.le_refl _) h46
              · unfold impl_Code__reach_1.e2 at h41
                refine Tri.block ?_
                obtain ⟨x32, h33, h41⟩ := bind_some' h41
                refine Tri.rn [1, 3, 11, 12, 14, 49, 50, 51] 1 [] [(0, .el (eI x32)), (1, .el (eI x32))] [_, _, _] ⟨80, [(1, o1 (.own 3 (List.map eI z28))), (3, o1 (.ref 0 0)), (11, oI (w64 ((w64 (x5 - r3.1)) + r3.2))), (12, oB z29), (14, oI x32), (49, o1 (.own 3 (List.map eI r14))), (50, oI (r14.length : Int)), (51, oI z30)], [eS1 a0], 0, [1]⟩ (by kernel_rfl) ⟨(at?_0 h33), (at?_map (f := eI) h33), (at?_map (f := eI) h33), trivial⟩ ?_
                refine Tri.block ?_
                refine Tri.rn [1, 3, 11, 12, 14, 49, 50, 51, 55] 1 [] [(3, .ov [.sc (.int .i64 (a0.f4.length : Int))])] [_] ⟨80, [(1, o1 (.own 3 (List.map eI z28))), (3, o1 (.ref 0 0)), (11, oI (w64 ((w64 (x5 - r3.1)) + r3.2))), (12, oB z29), (14, oI x32), (49, o1 (.own 3 (List.map eI r14))), (50, oI (r14.length : Int)), (51, oI z30), (55, oB (decide (x32 = (a0.f4.length : Int))))], [eS1 a0], 0, [1]⟩ (by kernel_rfl) ⟨(ovlen (f := eS0) (l := a0.f4)), trivial⟩ ?_
                rcases ite_some h41 with ⟨h34, h41⟩ | ⟨h34, h41⟩
                · refine Tri.cond_true (useb (decide_eq_true h34) (by kernel_rfl)) ?_
                  refine Tri.rn [1, 6, 7] 0 [] [] [] ⟨80, [(1, o1 (.own 3 (List.map eI z28))), (6, oB false), (7, oI 10)], [], 0, [1]⟩ (by kernel_rfl) trivial ?_
                  refine Tri.ret ?_
                  obtain rfl := Option.some.inj h41
                  try dsimp only at h46
                  obtain rfl := Option.some.inj h46
                  try dsimp only at H
                  obtain rfl := Option.some.inj H
                  exact endsG (.inr rfl) (by kernel_rfl)
                · refine Tri.cond_false (useb (decide_eq_false h34) (by kernel_rfl)) ?_
                  obtain ⟨x35, h36, h41⟩ := bind_some' h41
                  refine Tri.rn [1, 3, 11, 12, 14, 49, 50, 51, 61] 1 [] [(2, .el (eI x35)), (3, .el (eI x35))] [_, _, _] ⟨80, [(1, o1 (.own 3 (List.map eI z28))), (3, o1 (.ref 0 0)), (11, oI (w64 ((w64 (x5 - r3.1)) + r3.2))), (12, oB z29), (14, oI x32), (49, o1 (.own 3 (List.map eI r14))), (50, oI (r14.length : Int)), (51, oI z30), (61, oB (decide (x35 = (-1))))], [eS1 a0], 0, [1]⟩ (by kernel_rfl) ⟨(at?_0 h36), (at?_map (f := eI) h36), (at?_map (f := eI) h36), trivial⟩ ?_
                  rcases ite_some h41 with ⟨h37, h41⟩ | ⟨h37, h41⟩
                  · refine Tri.cond_true (useb (decide_eq_true h37) (by kernel_rfl)) ?_
                    refine Tri.rn [1, 3, 11, 49, 50, 51] 1 [] [(3, .el (eI x35)), (4, .el (eI x35)), (4, .ovp (.t 1 0) (.own 3 (List.map eI (z28.set (Int.toNat x32) (w64 ((w64 (x5 - r3.1)) + r3.2))))))] [_, _, _, _] ⟨80, [(1, o1 (.own 3 (List.map eI (z28.set (Int.toNat x32) (w64 ((w64 (x5 - r3.1)) + r3.2)))))), (3, o1 (.ref 0 0)), (11, oI (w64 ((w64 (x5 - r3.1)) + r3.2))), (49, o1 (.own 3 (List.map eI r14))), (50, oI (r14.length : Int)), (51, oI z30)], [eS1 a0], 0, [1]⟩ (by kernel_rfl) ⟨(at?_0 h36), (at?_map (f := eI) h36), (at?_map (f := eI) h36), (ovset (e := 3) (f := eI) (l := z28) (v := w64 ((w64 (x5 - r3.1)) + r3.2)) (i := Int.toNat x32)), trivial⟩ ?_
                    refine Tri.r1 [1, 3, 11, 12, 49, 50, 51] 1 [] [] [] ⟨80, [(1, o1 (.own 3 (List.map eI (z28.set (Int.toNat x32) (w64 ((w64 (x5 - r3.1)) + r3.2)))))), (3, o1 (.ref 0 0)), (11, oI (w64 ((w64 (x5 - r3.1)) + r3.2))), (12, oB true), (49, o1 (.own 3 (List.map eI r14))), (50, oI (r14.length : Int)), (51, oI z30)], [eS1 a0], 0, [1]⟩ (by kernel_rfl) trivial ?_
                    exact ⟨(z28.set (Int.toNat x32) (w64 ((w64 (x5 - r3.1)) + r3.2)), true), (Option.some.inj h41).symm, rfl⟩
                  · refine Tri.cond_false (useb (decide_eq_false h37) (by kernel_rfl)) ?_
                    refine Tri.rn [1, 3, 11, 12, 49, 50, 51, 71] 1 [] [(2, .el (eI x35)), (3, .el (eI x35))] [_, _, _] ⟨80, [(1, o1 (.own 3 (List.map eI z28))), (3, o1 (.ref 0 0)), (11, oI (w64 ((w64 (x5 - r3.1)) + r3.2))), (12, oB z29), (49, o1 (.own 3 (List.map eI r14))), (50, oI (r14.length : Int)), (51, oI z30), (71, oB (!(decide (x35 = (w64 ((w64 (x5 - r3.1)) + r3.2))))))], [eS1 a0], 0, [1]⟩ (by kernel_rfl) ⟨(at?_0 h36), (at?_map (f := eI) h36), (at?_map (f := eI) h36), trivial⟩ ?_
                    rcases ite_some h41 with ⟨h38, h41⟩ | ⟨h38, h41⟩
                    · refine Tri.cond_false (useb (nF (decide_eq_true h38)) (by kernel_rfl)) ?_
                      refine Tri.fix [1, 3, 11, 12, 49, 50, 51] 1 [] ⟨80, [(1, o1 (.own 3 (List.map eI z28))), (3, o1 (.ref 0 0)), (11, oI (w64 ((w64 (x5 - r3.1)) + r3.2))), (12, oB z29), (49, o1 (.own 3 (List.map eI r14))), (50, oI (r14.length : Int)), (51, oI z30)], [eS1 a0], 0, [1]⟩ (by kernel_rfl) ?_
                      refine Tri.skip ?_
                      exact ⟨(z28, z29), (Option.some.inj h41).symm, rfl⟩
                    · refine Tri.cond_true (useb (nT (decide_eq_false h38)) (by kernel_rfl)) ?_
                      refine Tri.rn [1, 6, 7] 0 [] [] [] ⟨80, [(1, o1 (.own 3 (List.map eI z28))), (6, oB false), (7, oI 8)], [], 0, [1]⟩ (by kernel_rfl) trivial ?_
                      refine Tri.ret ?_
                      obtain rfl := Option.some.inj h41
                      try dsimp only at h46
                      obtain rfl := Option.some.inj h46
                      try dsimp only at H
                      obtain rfl := Option.some.inj H
                      exact endsG (.inr rfl) (by kernel_rfl)
            · refine Tri.cond_false (useb (decide_eq_false h31) (by kernel_rfl)) ?_
              refine Tri.fix [1, 12] 0 [] ⟨80, [(1, o1 (.own 3 (List.map eI z28))), (12, oB z29)], [], 0, [1]⟩ (by kernel_rfl) ?_
              refine Tri.exit ?_
              repeat (with_reducible refine Ex.exit ?_)
              refine Bk.here ?_
              exact ⟨(z28, z29), (Option.some.inj h46).symm, rfl⟩
      · unfold impl_Code__reach_1.e1 at h11
        rcases ite_some h11 with ⟨h9, h11⟩ | ⟨h9, h11⟩
        · refine Tri.r1 [1, 2, 3, 8, 11, 39] 2 [] [(2, .ov [.sc (.bool true)])] [_] ⟨80, [(1, o1 (.own 3 (List.map eI a1_1))), (2, oI a2), (3, o1 (.ref 0 0)), (8, o1 (.ref 1 0)), (11, oI (w64 ((w64 (x5 - r3.1)) + r3.2))), (39, oB (decide ((0 : Int) < (w64 ((w64 (x5 - r3.1)) + r3.2)))))], [eS1 a0, eS0 x1], 0, [1]⟩ (by kernel_rfl) ⟨(ovb (decide_eq_true h9)), trivial⟩ ?_
          exact ⟨(decide ((0 : Int) < (w64 ((w64 (x5 - r3.1)) + r3.2)))), (Option.some.inj h11).symm, rfl⟩
        · refine Tri.r1 [1, 2, 3, 8, 11, 39] 2 [] [(2, .ov [.sc (.bool false)])] [_] ⟨80, [(1, o1 (.own 3 (List.map eI a1_1))), (2, oI a2), (3, o1 (.ref 0 0)), (8, o1 (.ref 1 0)), (11, oI (w64 ((w64 (x5 - r3.1)) + r3.2))), (39, oB false)], [eS1 a0, eS0 x1], 0, [1]⟩ (by kernel_rfl) ⟨(ovb (decide_eq_false h9)), trivial⟩ ?_
          exact ⟨false, (Option.some.inj h11).symm, rfl⟩
/-! impl_Code__flow: function 95 -/
def impl_Code__flow.e1 (k : Nat) (a0 : S1) (z50 : (List Int)) (z51 : Bool) (z52 : Int) : Option ((Int × Int) ⊕ ((List Int) × Bool)) := (at? z50 z52).bind fun x54 => if x54 = (-1) then (some (.inr (z50, z51))) else ((impl_Code__reach_1.f k a0 z50 z52).bind fun r57 => if r57.2.1 = 0 then (if z51 = true then (some (.inr (r57.2.2, true))) else (some (.inr (r57.2.2, r57.1)))) else (some (.inl (r57.2.1, z52))))
def impl_Code__flow.l2 : Nat → S1 → (List Int) → Bool → Int → Option ((Int × Int) ⊕ ((List Int) × Bool))
  | 0, _, _, _, _ => none
  | k + 1, a0, z50, z51, z52 => if z52 < (a0.f4.length : Int) then ((impl_Code__flow.e1 k a0 z50 z51 z52).bind fun v => match v with | .inl r => some (.inl r) | .inr (y61, y62) => impl_Code__flow.l2 k a0 y61 y62 (w64 (z52 + 1))) else (some (.inr (z50, z51)))
def impl_Code__flow.e3 (k : Nat) (a0 : S1) (z36 : (List Int)) : Option ((Int × Int) ⊕ ((List Int) × Bool)) := impl_Code__flow.l2 k a0 z36 false 0
def impl_Code__flow.l4 : Nat → S1 → (List Int) → Bool → Option ((Int × Int) ⊕ Unit)
  | 0, _, _, _ => none
  | k + 1, a0, z36, z37 => if z37 = true then ((impl_Code__flow.e3 k a0 z36).bind fun v => match v with | .inl r => some (.inl r) | .inr (y66, y67) => impl_Code__flow.l4 k a0 y66 y67) else (some (.inr ()))
def impl_Code__flow.e5 (k : Nat) (a0 : S1) (r1 : (List Int)) : Option ((Int × Int) ⊕ Unit) := impl_Code__flow.l4 k a0 (r1.set (Int.toNat 0) 0) true
def impl_Code__flow.f (k : Nat) (a0 : S1) : Option (Int × Int) := (slices_Repeat___int_int.f k ([-1] : List Int) (a0.f4.length : Int)).bind fun r1 => (at? r1 0).bind fun x3 => (impl_Code__flow.e5 k a0 r1).bind fun v => match v with | .inl r => some r | .inr _ => some (0, 0)
set_option maxRecDepth 100000 in
theorem impl_Code__flow.fn (k : Nat) (a0 : S1) (r : (Int × Int)) (H : impl_Code__flow.f k a0 = some r) : Fn Tryd.prog 95 [ag (eS1 a0)] [] (tp [none, none] [cI r.1, cI r.2]) [] := by
  unfold impl_Code__flow.f at H
  refine Fn.body (ts := [2, 3]) Tryd.func95 rfl rfl (by decide) (by decide) (Nat.le_of_ble_eq_true rfl) (Nat.le_refl _) ?_
  refine Tri.rn [1] 1 [] [] [] ⟨44, [(1, o1 (.ref 0 0))], [eS1 a0], 0, []⟩ (by kernel_rfl) trivial ?_
  obtain ⟨r1, h2, H⟩ := bind_some' H
  refine Tri.rn [1, 4] 1 [] [(3, .ov [.sc (.int .i64 (a0.f4.length : Int))]), (4, .call (o1 (.own 3 (List.map eI r1))) [] false)] [_, _, _] ⟨44, [(1, o1 (.ref 0 0)), (4, o1 (.own 3 (List.map eI r1)))], [eS1 a0], 0, []⟩ (by kernel_rfl) ⟨(ovlen (f := eS0) (l := a0.f4)), (slices_Repeat___int_int.fn k ([-1] : List Int) (a0.f4.length : Int) r1 h2), (show (List.all [.own 3 (List.map eI r1)] PC.flatB) = true by simp [PC.flatB, PC.scalar, cI, cK, cB, cS, eI]), trivial⟩ ?_
  obtain ⟨x3, h4, H⟩ := bind_some' H
  refine Tri.rn [1, 4] 1 [] [(1, .el (eI x3)), (2, .el (eI x3)), (2, .ovp (.t 4 0) (.own 3 (List.map eI (r1.set (Int.toNat 0) 0))))] [_, _, _, _] ⟨44, [(1, o1 (.ref 0 0)), (4, o1 (.own 3 (List.map eI (r1.set (Int.toNat 0) 0))))], [eS1 a0], 0, []⟩ (by kernel_rfl) ⟨(at?_0 h4), (at?_map (f := eI) h4), (at?_map (f := eI) h4), (ovset (e := 3) (f := eI) (l := r1) (v := 0) (i := Int.toNat 0)), trivial⟩ ?_
  obtain ⟨v72, h71, H⟩ := bind_some' H
  refine Tri.join (α := Unit) (fun w => v72 = .inr w) (fun _ => ⟨44, [], [], 0, []⟩) (fun w hw => ?_) ?_
  · rw [hw] at H; clear hw
    try dsimp only at H
    refine Tri.rn [2, 3] 0 [] [] [] ⟨44, [(2, oI 0), (3, oI 0)], [], 0, []⟩ (by kernel_rfl) trivial ?_
    refine Tri.ret ?_
    obtain rfl := Option.some.inj H
    exact ⟨.inr rfl, rfl, rfl, Nat.le_refl _, rfl, by simp⟩
  · unfold impl_Code__flow.e5 at h71
    refine Tri.rn [1, 4, 5] 1 [] [] [] ⟨44, [(1, o1 (.ref 0 0)), (4, o1 (.own 3 (List.map eI (r1.set (Int.toNat 0) 0)))), (5, oB true)], [eS1 a0], 0, []⟩ (by kernel_rfl) trivial ?_
    refine Tri.block ?_
    refine Tri.loop k (TriR.ind (α := ((List Int) × Bool)) (fun k x => impl_Code__flow.l4 k a0 x.1 x.2) (fun x => ⟨44, [(1, o1 (.ref 0 0)), (4, o1 (.own 3 (List.map eI x.1))), (5, oB x.2)], [eS1 a0], 0, []⟩) (fun _ => rfl) (fun k x h71 IH70 => ?_) k (r1.set (Int.toNat 0) 0, true) h71)
    obtain ⟨z36, z37⟩ := x
    rw [impl_Code__flow.l4.eq_2] at h71
    refine Tri.seq ?_
    refine Tri.rn [1, 4, 16] 1 [] [] [] ⟨44, [(1, o1 (.ref 0 0)), (4, o1 (.own 3 (List.map eI z36))), (16, oB z37)], [eS1 a0], 0, []⟩ (by kernel_rfl) trivial ?_
    rcases iteb_some h71 with ⟨h38, h71⟩ | ⟨h38, h71⟩
    · refine Tri.cond_true (useb h38 (by kernel_rfl)) ?_
      refine Tri.skip ?_
      refine Tri.block ?_
      refine Tri.rn [1, 4, 5] 1 [] [] [] ⟨44, [(1, o1 (.ref 0 0)), (4, o1 (.own 3 (List.map eI z36))), (5, oB false)], [eS1 a0], 0, []⟩ (by kernel_rfl) trivial ?_
      refine Tri.rn [1, 4, 5, 19, 20] 1 [] [(2, .ov [.sc (.int .i64 (a0.f4.length : Int))])] [_] ⟨44, [(1, o1 (.ref 0 0)), (4, o1 (.own 3 (List.map eI z36))), (5, oB false), (19, oI (a0.f4.length : Int)), (20, oI 0)], [eS1 a0], 0, []⟩ (by kernel_rfl) ⟨(ovlen (f := eS0) (l := a0.f4)), trivial⟩ ?_
      obtain ⟨v69, h68, h71⟩ := bind_some' h71
      refine Tri.joinT (α := ((List Int) × Bool)) (fun w => v69 = .inr w) (fun w => ⟨44, [(1, o1 (.ref 0 0)), (4, o1 (.own 3 (List.map eI w.1))), (5, oB w.2)], [eS1 a0], 0, []⟩) (fun w hw => ?_) ?_
      · rw [hw] at h71; clear hw
        obtain ⟨y66, y67⟩ := w
        try dsimp only at h71
        exact IH70 _ (y66, y67) (Nat.le_refl _) h71
      · unfold impl_Code__flow.e3 at h68
        refine Tri.block ?_
        refine Tri.loop k (TriR.ind (α := ((List Int) × Bool × Int)) (fun k x => impl_Code__flow.l2 k a0 x.1 x.2.1 x.2.2) (fun x => ⟨44, [(1, o1 (.ref 0 0)), (4, o1 (.own 3 (List.map eI x.1))), (5, oB x.2.1), (19, oI (a0.f4.length : Int)), (20, oI x.2.2)], [eS1 a0], 0, []⟩) (fun _ => rfl) (fun k x h68 IH65 => ?_) k (z36, false, 0) h68)
        obtain ⟨z50, z51, z52⟩ := x
        rw [impl_Code__flow.l2.eq_2] at h68
        refine Tri.rn [1, 4, 5, 19, 20, 21] 1 [] [] [] ⟨44, [(1, o1 (.ref 0 0)), (4, o1 (.own 3 (List.map eI z50))), (5, oB z51), (19, oI (a0.f4.length : Int)), (20, oI z52), (21, oB (decide (z52 < (a0.f4.length : Int))))], [eS1 a0], 0, []⟩ (by kernel_rfl) trivial ?_
        refine Tri.seq ?_
        rcases ite_some h68 with ⟨h53, h68⟩ | ⟨h53, h68⟩
        · refine Tri.cond_true (useb (decide_eq_true h53) (by kernel_rfl)) ?_
          refine Tri.skip ?_
          obtain ⟨v64, h63, h68⟩ := bind_some' h68
          refine Tri.join (α := ((List Int) × Bool)) (fun w => v64 = .inr w) (fun w => ⟨44, [(1, o1 (.ref 0 0)), (4, o1 (.own 3 (List.map eI w.1))), (5, oB w.2), (19, oI (a0.f4.length : Int)), (20, oI z52)], [eS1 a0], 0, []⟩) (fun w hw => ?_) ?_
          · rw [hw] at h68; clear hw
            obtain ⟨y61, y62⟩ := w
            try dsimp only at h68
            refine Tri.r1 [1, 4, 5, 19, 20] 1 [] [] [] ⟨44, [(1, o1 (.ref 0 0)), (4, o1 (.own 3 (List.map eI y61))), (5, oB y62), (19, oI (a0.f4.length : Int)), (20, oI (w64 (z52 + 1)))], [eS1 a0], 0, []⟩ (by kernel_rfl) trivial ?_
            exact IH65 _ (y61, y62, w64 (z52 + 1)) (Nat.le_refl _) h68
          · unfold impl_Code__flow.e1 at h63
            refine Tri.block ?_
            refine Tri.rn [1, 4, 5, 6, 19, 20] 1 [] [] [] ⟨44, [(1, o1 (.ref 0 0)), (4, o1 (.own 3 (List.map eI z50))), (5, oB z51), (6, oI z52), (19, oI (a0.f4.length : Int)), (20, oI z52)], [eS1 a0], 0, []⟩ (by kernel_rfl) trivial ?_
            refine Tri.seq ?_
            obtain ⟨x54, h55, h63⟩ := bind_some' h63
            refine Tri.rn [1, 4, 5, 6, 19, 20, 27] 1 [] [(2, .el (eI x54)), (3, .el (eI x54))] [_, _, _] ⟨44, [(1, o1 (.ref 0 0)), (4, o1 (.own 3 (List.map eI z50))), (5, oB z51), (6, oI z52), (19, oI (a0.f4.length : Int)), (20, oI z52), (27, oB (decide (x54 = (-1))))], [eS1 a0], 0, []⟩ (by kernel_rfl) ⟨(at?_0 h55), (at?_map (f := eI) h55), (at?_map (f := eI) h55), trivial⟩ ?_
            rcases ite_some h63 with ⟨h56, h63⟩ | ⟨h56, h63⟩
            · refine Tri.cond_true (useb (decide_eq_true h56) (by kernel_rfl)) ?_
              refine Tri.fix [1, 4, 5, 19, 20] 1 [] ⟨44, [(1, o1 (.ref 0 0)), (4, o1 (.own 3 (List.map eI z50))), (5, oB z51), (19, oI (a0.f4.length : Int)), (20, oI z52)], [eS1 a0], 0, []⟩ (by kernel_rfl) ?_
              refine Tri.exit ?_
              repeat (with_reducible refine Ex.exit ?_)
              refine Bk.here ?_
              exact ⟨(z50, z51), (Option.some.inj h63).symm, rfl⟩
            · refine Tri.cond_false (useb (decide_eq_false h56) (by kernel_rfl)) ?_
              refine Tri.skip ?_
              obtain ⟨r57, h58, h63⟩ := bind_some' h63
              refine Tri.rn [1, 4, 5, 6, 7, 8, 19, 20] 1 [] [(3, .callB (tp [none, none] [cB r57.1, cI r57.2.1]) [] [] (some (1, (.t 4 0))) [.own 3 (List.map eI r57.2.2)] [])] [_] ⟨44, [(1, o1 (.ref 0 0)), (4, o1 (.own 3 (List.map eI r57.2.2))), (5, oB z51), (6, oI z52), (7, oB r57.1), (8, oI r57.2.1), (19, oI (a0.f4.length : Int)), (20, oI z52)], [eS1 a0], 0, []⟩ (by kernel_rfl) ⟨(impl_Code__reach_1.fn k a0 z50 z52 r57 h58), trivial⟩ ?_
              refine Tri.seq ?_
              refine Tri.rn [1, 4, 5, 6, 7, 8, 19, 20, 36] 1 [] [] [] ⟨44, [(1, o1 (.ref 0 0)), (4, o1 (.own 3 (List.map eI r57.2.2))), (5, oB z51), (6, oI z52), (7, oB r57.1), (8, oI r57.2.1), (19, oI (a0.f4.length : Int)), (20, oI z52), (36, oB (!(decide (r57.2.1 = 0))))], [eS1 a0], 0, []⟩ (by kernel_rfl) trivial ?_
              rcases ite_some h63 with ⟨h59, h63⟩ | ⟨h59, h63⟩
              · refine Tri.cond_false (useb (nF (decide_eq_true h59)) (by kernel_rfl)) ?_
                refine Tri.skip ?_
                rcases iteb_some h63 with ⟨h60, h63⟩ | ⟨h60, h63⟩
                · refine Tri.r1 [1, 4, 5, 19, 20] 1 [] [(0, .ov [.sc (.bool true)])] [_] ⟨44, [(1, o1 (.ref 0 0)), (4, o1 (.own 3 (List.map eI r57.2.2))), (5, oB true), (19, oI (a0.f4.length : Int)), (20, oI z52)], [eS1 a0], 0, []⟩ (by kernel_rfl) ⟨(ovb h60), trivial⟩ ?_
                  exact ⟨(r57.2.2, true), (Option.some.inj h63).symm, rfl⟩
                · refine Tri.r1 [1, 4, 5, 19, 20] 1 [] [(0, .ov [.sc (.bool false)])] [_] ⟨44, [(1, o1 (.ref 0 0)), (4, o1 (.own 3 (List.map eI r57.2.2))), (5, oB r57.1), (19, oI (a0.f4.length : Int)), (20, oI z52)], [eS1 a0], 0, []⟩ (by kernel_rfl) ⟨(ovb h60), trivial⟩ ?_
                  exact ⟨(r57.2.2, r57.1), (Option.some.inj h63).symm, rfl⟩
              · refine Tri.cond_true (useb (nT (decide_eq_false h59)) (by kernel_rfl)) ?_
                refine Tri.rn [2, 3] 0 [] [] [] ⟨44, [(2, oI r57.2.1), (3, oI z52)], [], 0, []⟩ (by kernel_rfl) trivial ?_
                refine Tri.ret ?_
                obtain rfl := Option.some.inj h63
                try dsimp only at h68
                obtain rfl := Option.some.inj h68
                try dsimp only at h71
                obtain rfl := Option.some.inj h71
                try dsimp only at H
                obtain rfl := Option.some.inj H
                exact ⟨.inr rfl, rfl, rfl, Nat.le_refl _, rfl, by simp⟩
        · refine Tri.cond_false (useb (decide_eq_false h53) (by kernel_rfl)) ?_
          refine Tri.fix [1, 4, 5] 1 [] ⟨44, [(1, o1 (.ref 0 0)), (4, o1 (.own 3 (List.map eI z50))), (5, oB z51)], [eS1 a0], 0, []⟩ (by kernel_rfl) ?_
          refine Tri.exit ?_
          repeat (with_reducible refine Ex.exit ?_)
          refine Bk.here ?_
          exact ⟨(z50, z51), (Option.some.inj h68).symm, rfl⟩
    · refine Tri.cond_false (useb h38 (by kernel_rfl)) ?_
      refine Tri.fix [] 0 [] ⟨44, [], [], 0, []⟩ (by kernel_rfl) ?_
      refine Tri.exit ?_
      repeat (with_reducible refine Ex.exit ?_)
      refine Bk.here ?_
      exact ⟨(), (Option.some.inj h71).symm, rfl⟩
/-! impl_Code__verify: function 39 -/
def impl_Code__verify.e1 (k : Nat) (a0 : S1) : Option Bool := if a0.f0 = (⟨#[]⟩ : ByteArray) then (if a0.f2 = 0 then (some (decide (a0.f3 = 0))) else (some false)) else (some false)
def impl_Code__verify.e2 (k : Nat) (a0 : S1) (y3 : Bool) : Option Bool := (impl_within.f k (a0.f4.length : Int) 1 2000).bind fun r6 => if r6 = true then ((impl_within.f k a0.f1 0 20).bind fun r9 => if r9 = true then ((impl_within.f k a0.f2 a0.f1 2000).bind fun r12 => if r12 = true then ((impl_within.f k a0.f3 0 1).bind fun r15 => if r15 = true then ((impl_isName.f k a0.f0).bind fun r18 => if r18 = true then (some false) else (some (!y3))) else (some true)) else (some true)) else (some true)) else (some true)
def impl_Code__verify.f (k : Nat) (a0 : S1) : Option (Int × Int) := (impl_Code__verify.e1 k a0).bind fun y3 => (impl_Code__verify.e2 k a0 y3).bind fun y21 => if y21 = true then (some (1, 0)) else ((slices_IndexFunc___impl_Ins_impl_Ins_1.f k a0.f4 a0).bind fun r25 => if (0 : Int) ≤ r25 then (some (3, r25)) else ((impl_Code__flow.f k a0).bind fun r28 => some (r28.1, r28.2)))
set_option maxRecDepth 100000 in
theorem impl_Code__verify.fn (k : Nat) (a0 : S1) (r : (Int × Int)) (H : impl_Code__verify.f k a0 = some r) : Fn Tryd.prog 39 [ag (eS1 a0)] [] (tp [none, none] [cI r.1, cI r.2]) [] := by
  unfold impl_Code__verify.f at H
  refine Fn.body (ts := [2, 3]) Tryd.func39 rfl rfl (by decide) (by decide) (Nat.le_of_ble_eq_true rfl) (Nat.le_refl _) ?_
  refine Tri.rn [1] 1 [] [] [] ⟨65, [(1, o1 (.ref 0 0))], [eS1 a0], 0, []⟩ (by kernel_rfl) trivial ?_
  obtain ⟨v5, h4, H⟩ := bind_some' H
  refine Tri.join (α := Bool) (fun w => v5 = w) (fun y3 => ⟨65, [(1, o1 (.ref 0 0)), (4, oB y3)], [eS1 a0], 0, []⟩) (fun y3 hw => ?_) ?_
  · rw [hw] at H; clear hw
    try dsimp only at H
    refine Tri.seq ?_
    obtain ⟨v23, h22, H⟩ := bind_some' H
    refine Tri.join (α := Bool) (fun w => v23 = w) (fun y21 => ⟨65, [(1, o1 (.ref 0 0)), (53, oB y21)], [eS1 a0], 0, []⟩) (fun y21 hw => ?_) ?_
    · rw [hw] at H; clear hw
      try dsimp only at H
      rcases iteb_some H with ⟨h24, H⟩ | ⟨h24, H⟩
      · refine Tri.cond_true (useb h24 (by kernel_rfl)) ?_
        refine Tri.rn [2, 3] 0 [] [] [] ⟨65, [(2, oI 1), (3, oI 0)], [], 0, []⟩ (by kernel_rfl) trivial ?_
        refine Tri.ret ?_
        obtain rfl := Option.some.inj H
        exact ⟨.inr rfl, rfl, rfl, Nat.le_refl _, rfl, by simp⟩
      · refine Tri.cond_false (useb h24 (by kernel_rfl)) ?_
        refine Tri.skip ?_
        refine Tri.seq ?_
        obtain ⟨r25, h26, H⟩ := bind_some' H
        refine Tri.rn [1, 5] 1 [] [(3, .call (oI r25) [] false)] [_, _] ⟨65, [(1, o1 (.ref 0 0)), (5, oI r25)], [eS1 a0], 0, []⟩ (by kernel_rfl) ⟨(slices_IndexFunc___impl_Ins_impl_Ins_1.fn k a0.f4 a0 r25 h26), (show (List.all [cI r25] PC.flatB) = true from rfl), trivial⟩ ?_
        refine Tri.rn [1, 5, 59] 1 [] [] [] ⟨65, [(1, o1 (.ref 0 0)), (5, oI r25), (59, oB (decide ((0 : Int) ≤ r25)))], [eS1 a0], 0, []⟩ (by kernel_rfl) trivial ?_
        rcases ite_some H with ⟨h27, H⟩ | ⟨h27, H⟩
        · refine Tri.cond_true (useb (decide_eq_true h27) (by kernel_rfl)) ?_
          refine Tri.rn [2, 3] 0 [] [] [] ⟨65, [(2, oI 3), (3, oI r25)], [], 0, []⟩ (by kernel_rfl) trivial ?_
          refine Tri.ret ?_
          obtain rfl := Option.some.inj H
          exact ⟨.inr rfl, rfl, rfl, Nat.le_refl _, rfl, by simp⟩
        · refine Tri.cond_false (useb (decide_eq_false h27) (by kernel_rfl)) ?_
          refine Tri.skip ?_
          obtain ⟨r28, h29, H⟩ := bind_some' H
          refine Tri.rn [2, 3] 0 [] [(1, .call (tp [none, none] [cI r28.1, cI r28.2]) [] false)] [_, _] ⟨65, [(2, oI r28.1), (3, oI r28.2)], [], 0, []⟩ (by kernel_rfl) ⟨(impl_Code__flow.fn k a0 r28 h29), (show (List.all [cI r28.1, cI r28.2] PC.flatB) = true from rfl), trivial⟩ ?_
          refine Tri.ret ?_
          obtain rfl := Option.some.inj H
          exact ⟨.inr rfl, rfl, rfl, Nat.le_refl _, rfl, by simp⟩
    · unfold impl_Code__verify.e2 at h22
      obtain ⟨r6, h7, h22⟩ := bind_some' h22
      rcases iteb_some h22 with ⟨h8, h22⟩ | ⟨h8, h22⟩
      · obtain ⟨r9, h10, h22⟩ := bind_some' h22
        rcases iteb_some h22 with ⟨h11, h22⟩ | ⟨h11, h22⟩
        · obtain ⟨r12, h13, h22⟩ := bind_some' h22
          rcases iteb_some h22 with ⟨h14, h22⟩ | ⟨h14, h22⟩
          · obtain ⟨r15, h16, h22⟩ := bind_some' h22
            rcases iteb_some h22 with ⟨h17, h22⟩ | ⟨h17, h22⟩
            · obtain ⟨r18, h19, h22⟩ := bind_some' h22
              rcases iteb_some h22 with ⟨h20, h22⟩ | ⟨h20, h22⟩
              · refine Tri.r1 [1, 53] 1 [] [(2, .ov [.sc (.int .i64 (a0.f4.length : Int))]), (3, .call (oB r6) [] false), (3, .ov [.sc (.bool true)]), (8, .call (oB r9) [] false), (8, .ov [.sc (.bool true)]), (16, .call (oB r12) [] false), (16, .ov [.sc (.bool true)]), (22, .call (oB r15) [] false), (22, .ov [.sc (.bool true)]), (28, .call (oB r18) [] false), (28, .ov [.sc (.bool true)])] [_, _, _, _, _, _, _, _, _, _, _, _, _, _, _, _] ⟨65, [(1, o1 (.ref 0 0)), (53, oB false)], [eS1 a0], 0, []⟩ (by kernel_rfl) ⟨(ovlen (f := eS0) (l := a0.f4)), (impl_within.fn k (a0.f4.length : Int) 1 2000 r6 h7), (show (List.all [cB r6] PC.flatB) = true from rfl), (ovb h8), (impl_within.fn k a0.f1 0 20 r9 h10), (show (List.all [cB r9] PC.flatB) = true from rfl), (ovb h11), (impl_within.fn k a0.f2 a0.f1 2000 r12 h13), (show (List.all [cB r12] PC.flatB) = true from rfl), (ovb h14), (impl_within.fn k a0.f3 0 1 r15 h16), (show (List.all [cB r15] PC.flatB) = true from rfl), (ovb h17), (impl_isName.fn k a0.f0 r18 h19), (show (List.all [cB r18] PC.flatB) = true from rfl), (ovb h20), trivial⟩ ?_
                exact ⟨false, (Option.some.inj h22).symm, rfl⟩
              · refine Tri.r1 [1, 53] 1 [] [(2, .ov [.sc (.int .i64 (a0.f4.length : Int))]), (3, .call (oB r6) [] false), (3, .ov [.sc (.bool true)]), (8, .call (oB r9) [] false), (8, .ov [.sc (.bool true)]), (16, .call (oB r12) [] false), (16, .ov [.sc (.bool true)]), (22, .call (oB r15) [] false), (22, .ov [.sc (.bool true)]), (28, .call (oB r18) [] false), (28, .ov [.sc (.bool false)])] [_, _, _, _, _, _, _, _, _, _, _, _, _, _, _, _] ⟨65, [(1, o1 (.ref 0 0)), (53, oB (!y3))], [eS1 a0], 0, []⟩ (by kernel_rfl) ⟨(ovlen (f := eS0) (l := a0.f4)), (impl_within.fn k (a0.f4.length : Int) 1 2000 r6 h7), (show (List.all [cB r6] PC.flatB) = true from rfl), (ovb h8), (impl_within.fn k a0.f1 0 20 r9 h10), (show (List.all [cB r9] PC.flatB) = true from rfl), (ovb h11), (impl_within.fn k a0.f2 a0.f1 2000 r12 h13), (show (List.all [cB r12] PC.flatB) = true from rfl), (ovb h14), (impl_within.fn k a0.f3 0 1 r15 h16), (show (List.all [cB r15] PC.flatB) = true from rfl), (ovb h17), (impl_isName.fn k a0.f0 r18 h19), (show (List.all [cB r18] PC.flatB) = true from rfl), (ovb h20), trivial⟩ ?_
                exact ⟨(!y3), (Option.some.inj h22).symm, rfl⟩
            · refine Tri.r1 [1, 53] 1 [] [(2, .ov [.sc (.int .i64 (a0.f4.length : Int))]), (3, .call (oB r6) [] false), (3, .ov [.sc (.bool true)]), (8, .call (oB r9) [] false), (8, .ov [.sc (.bool true)]), (16, .call (oB r12) [] false), (16, .ov [.sc (.bool true)]), (22, .call (oB r15) [] false), (22, .ov [.sc (.bool false)])] [_, _, _, _, _, _, _, _, _, _, _, _, _] ⟨65, [(1, o1 (.ref 0 0)), (53, oB true)], [eS1 a0], 0, []⟩ (by kernel_rfl) ⟨(ovlen (f := eS0) (l := a0.f4)), (impl_within.fn k (a0.f4.length : Int) 1 2000 r6 h7), (show (List.all [cB r6] PC.flatB) = true from rfl), (ovb h8), (impl_within.fn k a0.f1 0 20 r9 h10), (show (List.all [cB r9] PC.flatB) = true from rfl), (ovb h11), (impl_within.fn k a0.f2 a0.f1 2000 r12 h13), (show (List.all [cB r12] PC.flatB) = true from rfl), (ovb h14), (impl_within.fn k a0.f3 0 1 r15 h16), (show (List.all [cB r15] PC.flatB) = true from rfl), (ovb h17), trivial⟩ ?_
              exact ⟨true, (Option.some.inj h22).symm, rfl⟩
          · refine Tri.r1 [1, 53] 1 [] [(2, .ov [.sc (.int .i64 (a0.f4.length : Int))]), (3, .call (oB r6) [] false), (3, .ov [.sc (.bool true)]), (8, .call (oB r9) [] false), (8, .ov [.sc (.bool true)]), (16, .call (oB r12) [] false), (16, .ov [.sc (.bool false)])] [_, _, _, _, _, _, _, _, _, _] ⟨65, [(1, o1 (.ref 0 0)), (53, oB true)], [eS1 a0], 0, []⟩ (by kernel_rfl) ⟨(ovlen (f := eS0) (l := a0.f4)), (impl_within.fn k (a0.f4.length : Int) 1 2000 r6 h7), (show (List.all [cB r6] PC.flatB) = true from rfl), (ovb h8), (impl_within.fn k a0.f1 0 20 r9 h10), (show (List.all [cB r9] PC.flatB) = true from rfl), (ovb h11), (impl_within.fn k a0.f2 a0.f1 2000 r12 h13), (show (List.all [cB r12] PC.flatB) = true from rfl), (ovb h14), trivial⟩ ?_
            exact ⟨true, (Option.some.inj h22).symm, rfl⟩
        · refine Tri.r1 [1, 53] 1 [] [(2, .ov [.sc (.int .i64 (a0.f4.length : Int))]), (3, .call (oB r6) [] false), (3, .ov [.sc (.bool true)]), (8, .call (oB r9) [] false), (8, .ov [.sc (.bool false)])] [_, _, _, _, _, _, _] ⟨65, [(1, o1 (.ref 0 0)), (53, oB true)], [eS1 a0], 0, []⟩ (by kernel_rfl) ⟨(ovlen (f := eS0) (l := a0.f4)), (impl_within.fn k (a0.f4.length : Int) 1 2000 r6 h7), (show (List.all [cB r6] PC.flatB) = true from rfl), (ovb h8), (impl_within.fn k a0.f1 0 20 r9 h10), (show (List.all [cB r9] PC.flatB) = true from rfl), (ovb h11), trivial⟩ ?_
          exact ⟨true, (Option.some.inj h22).symm, rfl⟩
      · refine Tri.r1 [1, 53] 1 [] [(2, .ov [.sc (.int .i64 (a0.f4.length : Int))]), (3, .call (oB r6) [] false), (3, .ov [.sc (.bool false)])] [_, _, _, _] ⟨65, [(1, o1 (.ref 0 0)), (53, oB true)], [eS1 a0], 0, []⟩ (by kernel_rfl) ⟨(ovlen (f := eS0) (l := a0.f4)), (impl_within.fn k (a0.f4.length : Int) 1 2000 r6 h7), (show (List.all [cB r6] PC.flatB) = true from rfl), (ovb h8), trivial⟩ ?_
        exact ⟨true, (Option.some.inj h22).symm, rfl⟩
  · unfold impl_Code__verify.e1 at h4
    rcases ite_some h4 with ⟨h1, h4⟩ | ⟨h1, h4⟩
    · rcases ite_some h4 with ⟨h2, h4⟩ | ⟨h2, h4⟩
      · refine Tri.r1 [1, 4] 1 [] [(2, .ov [.sc (.bool true)]), (6, .ov [.sc (.bool true)])] [_, _] ⟨65, [(1, o1 (.ref 0 0)), (4, oB (decide (a0.f3 = 0)))], [eS1 a0], 0, []⟩ (by kernel_rfl) ⟨(ovb (decide_eq_true h1)), (ovb (decide_eq_true h2)), trivial⟩ ?_
        exact ⟨(decide (a0.f3 = 0)), (Option.some.inj h4).symm, rfl⟩
      · refine Tri.r1 [1, 4] 1 [] [(2, .ov [.sc (.bool true)]), (6, .ov [.sc (.bool false)])] [_, _] ⟨65, [(1, o1 (.ref 0 0)), (4, oB false)], [eS1 a0], 0, []⟩ (by kernel_rfl) ⟨(ovb (decide_eq_true h1)), (ovb (decide_eq_false h2)), trivial⟩ ?_
        exact ⟨false, (Option.some.inj h4).symm, rfl⟩
    · refine Tri.r1 [1, 4] 1 [] [(2, .ov [.sc (.bool false)])] [_] ⟨65, [(1, o1 (.ref 0 0)), (4, oB false)], [eS1 a0], 0, []⟩ (by kernel_rfl) ⟨(ovb (decide_eq_false h1)), trivial⟩ ?_
      exact ⟨false, (Option.some.inj h4).symm, rfl⟩
/-! impl_VerifyCode: function 12 -/
def impl_VerifyCode.f (k : Nat) (a0 : S1) : Option (Int × Int) := (impl_Code__verify.f k a0).bind fun r1 => some (r1.1, r1.2)
set_option maxRecDepth 100000 in
theorem impl_VerifyCode.fn (k : Nat) (a0 : S1) (r : (Int × Int)) (H : impl_VerifyCode.f k a0 = some r) : Fn Tryd.prog 12 [ag (eS1 a0)] [] (tp [none, none] [cI r.1, cI r.2]) [] := by
  unfold impl_VerifyCode.f at H
  refine Fn.body (ts := [2, 3]) Tryd.func12 rfl rfl (by decide) (by decide) (Nat.le_of_ble_eq_true rfl) (Nat.le_refl _) ?_
  refine Tri.rn [1] 1 [] [] [] ⟨8, [(1, o1 (.ref 0 0))], [eS1 a0], 0, []⟩ (by kernel_rfl) trivial ?_
  obtain ⟨r1, h2, H⟩ := bind_some' H
  refine Tri.rn [2, 3] 0 [] [(1, .call (tp [none, none] [cI r1.1, cI r1.2]) [] false)] [_, _] ⟨8, [(2, oI r1.1), (3, oI r1.2)], [], 0, []⟩ (by kernel_rfl) ⟨(impl_Code__verify.fn k a0 r1 h2), (show (List.all [cI r1.1, cI r1.2] PC.flatB) = true from rfl), trivial⟩ ?_
  refine Tri.ret ?_
  obtain rfl := Option.some.inj H
  exact ⟨.inr rfl, rfl, rfl, Nat.le_refl _, rfl, by simp⟩
/-! laws_eqIns: function 96 -/
def laws_eqIns.f (k : Nat) (a0 : S0) (a1 : S0) : Option Bool := if a0.f0 = a1.f0 then (if a0.f1 = a1.f1 then (if a0.f2 = a1.f2 then (if a0.f3 = a1.f3 then (if a0.f4 = a1.f4 then (some true) else (some false)) else (some false)) else (some false)) else (some false)) else (some false)
set_option maxRecDepth 100000 in
theorem laws_eqIns.fn (k : Nat) (a0 : S0) (a1 : S0) (r : Bool) (H : laws_eqIns.f k a0 a1 = some r) : Fn Tryd.prog 96 [ag (eS0 a0), ag (eS0 a1)] [] (oB r) [] := by
  unfold laws_eqIns.f at H
  refine Fn.body (ts := [4]) Tryd.func96 rfl rfl (by decide) (by decide) (Nat.le_of_ble_eq_true rfl) (Nat.le_refl _) ?_
  refine Tri.rn [2, 3] 2 [] [] [] ⟨30, [(2, o1 (.ref 0 0)), (3, o1 (.ref 1 0))], [eS0 a0, eS0 a1], 0, []⟩ (by kernel_rfl) trivial ?_
  refine Tri.seq ?_
  refine Tri.rn [2, 3, 9] 2 [] [] [] ⟨30, [(2, o1 (.ref 0 0)), (3, o1 (.ref 1 0)), (9, oB (!(decide (a0.f0 = a1.f0))))], [eS0 a0, eS0 a1], 0, []⟩ (by kernel_rfl) trivial ?_
  rcases ite_some H with ⟨h1, H⟩ | ⟨h1, H⟩
  · refine Tri.cond_false (useb (nF (decide_eq_true h1)) (by kernel_rfl)) ?_
    refine Tri.skip ?_
    refine Tri.seq ?_
    refine Tri.rn [2, 3, 14] 2 [] [] [] ⟨30, [(2, o1 (.ref 0 0)), (3, o1 (.ref 1 0)), (14, oB (!(decide (a0.f1 = a1.f1))))], [eS0 a0, eS0 a1], 0, []⟩ (by kernel_rfl) trivial ?_
    rcases ite_some H with ⟨h2, H⟩ | ⟨h2, H⟩
    · refine Tri.cond_false (useb (nF (decide_eq_true h2)) (by kernel_rfl)) ?_
      refine Tri.skip ?_
      refine Tri.seq ?_
      refine Tri.rn [2, 3, 19] 2 [] [] [] ⟨30, [(2, o1 (.ref 0 0)), (3, o1 (.ref 1 0)), (19, oB (!(decide (a0.f2 = a1.f2))))], [eS0 a0, eS0 a1], 0, []⟩ (by kernel_rfl) trivial ?_
      rcases ite_some H with ⟨h3, H⟩ | ⟨h3, H⟩
      · refine Tri.cond_false (useb (nF (decide_eq_true h3)) (by kernel_rfl)) ?_
        refine Tri.skip ?_
        refine Tri.seq ?_
        refine Tri.rn [2, 3, 24] 2 [] [] [] ⟨30, [(2, o1 (.ref 0 0)), (3, o1 (.ref 1 0)), (24, oB (!(decide (a0.f3 = a1.f3))))], [eS0 a0, eS0 a1], 0, []⟩ (by kernel_rfl) trivial ?_
        rcases ite_some H with ⟨h4, H⟩ | ⟨h4, H⟩
        · refine Tri.cond_false (useb (nF (decide_eq_true h4)) (by kernel_rfl)) ?_
          refine Tri.skip ?_
          refine Tri.seq ?_
          refine Tri.rn [29] 0 [] [] [] ⟨30, [(29, oB (!(decide (a0.f4 = a1.f4))))], [], 0, []⟩ (by kernel_rfl) trivial ?_
          rcases ite_some H with ⟨h5, H⟩ | ⟨h5, H⟩
          · refine Tri.cond_false (useb (nF (decide_eq_true h5)) (by kernel_rfl)) ?_
            refine Tri.skip ?_
            refine Tri.rn [4] 0 [] [] [] ⟨30, [(4, oB true)], [], 0, []⟩ (by kernel_rfl) trivial ?_
            refine Tri.ret ?_
            obtain rfl := Option.some.inj H
            exact ⟨.inr rfl, rfl, rfl, Nat.le_refl _, rfl, by simp⟩
          · refine Tri.cond_true (useb (nT (decide_eq_false h5)) (by kernel_rfl)) ?_
            refine Tri.rn [4] 0 [] [] [] ⟨30, [(4, oB false)], [], 0, []⟩ (by kernel_rfl) trivial ?_
            refine Tri.ret ?_
            obtain rfl := Option.some.inj H
            exact ⟨.inr rfl, rfl, rfl, Nat.le_refl _, rfl, by simp⟩
        · refine Tri.cond_true (useb (nT (decide_eq_false h4)) (by kernel_rfl)) ?_
          refine Tri.rn [4] 0 [] [] [] ⟨30, [(4, oB false)], [], 0, []⟩ (by kernel_rfl) trivial ?_
          refine Tri.ret ?_
          obtain rfl := Option.some.inj H
          exact ⟨.inr rfl, rfl, rfl, Nat.le_refl _, rfl, by simp⟩
      · refine Tri.cond_true (useb (nT (decide_eq_false h3)) (by kernel_rfl)) ?_
        refine Tri.rn [4] 0 [] [] [] ⟨30, [(4, oB false)], [], 0, []⟩ (by kernel_rfl) trivial ?_
        refine Tri.ret ?_
        obtain rfl := Option.some.inj H
        exact ⟨.inr rfl, rfl, rfl, Nat.le_refl _, rfl, by simp⟩
    · refine Tri.cond_true (useb (nT (decide_eq_false h2)) (by kernel_rfl)) ?_
      refine Tri.rn [4] 0 [] [] [] ⟨30, [(4, oB false)], [], 0, []⟩ (by kernel_rfl) trivial ?_
      refine Tri.ret ?_
      obtain rfl := Option.some.inj H
      exact ⟨.inr rfl, rfl, rfl, Nat.le_refl _, rfl, by simp⟩
  · refine Tri.cond_true (useb (nT (decide_eq_false h1)) (by kernel_rfl)) ?_
    refine Tri.rn [4] 0 [] [] [] ⟨30, [(4, oB false)], [], 0, []⟩ (by kernel_rfl) trivial ?_
    refine Tri.ret ?_
    obtain rfl := Option.some.inj H
    exact ⟨.inr rfl, rfl, rfl, Nat.le_refl _, rfl, by simp⟩
/-! laws_eqInsS: function 40 -/
def laws_eqInsS.l1 : Nat → (List S0) → (List S0) → Int → Option (Bool ⊕ Unit)
  | 0, _, _, _ => none
  | k + 1, a0, a1, z10 => if z10 < (a0.length : Int) then ((at? a0 z10).bind fun x12 => (at? a1 z10).bind fun x14 => (laws_eqIns.f k x12 x14).bind fun r16 => if r16 = true then (laws_eqInsS.l1 k a0 a1 (w64 (z10 + 1))) else (some (.inl false))) else (some (.inr ()))
def laws_eqInsS.e2 (k : Nat) (a0 : (List S0)) (a1 : (List S0)) : Option (Bool ⊕ Unit) := laws_eqInsS.l1 k a0 a1 0
def laws_eqInsS.f (k : Nat) (a0 : (List S0)) (a1 : (List S0)) : Option Bool := if (a0.length : Int) = (a1.length : Int) then ((laws_eqInsS.e2 k a0 a1).bind fun v => match v with | .inl r => some r | .inr _ => some true) else (some false)
set_option maxRecDepth 100000 in
theorem laws_eqInsS.fn (k : Nat) (a0 : (List S0)) (a1 : (List S0)) (r : Bool) (H : laws_eqInsS.f k a0 a1 = some r) : Fn Tryd.prog 40 [o1 (.sl 5 (List.map eS0 a0)), o1 (.sl 5 (List.map eS0 a1))] [] (oB r) [] := by
  unfold laws_eqInsS.f at H
  refine Fn.body (ts := [4]) Tryd.func40 rfl rfl (by decide) (by decide) (Nat.le_of_ble_eq_true rfl) (Nat.le_refl _) ?_
  refine Tri.rn [0, 1] 0 [] [] [] ⟨27, [(0, o1 (.sl 5 (List.map eS0 a0))), (1, o1 (.sl 5 (List.map eS0 a1)))], [], 0, []⟩ (by kernel_rfl) trivial ?_
  refine Tri.seq ?_
  refine Tri.rn [0, 1, 10] 0 [] [(1, .ov [.sc (.int .i64 (a0.length : Int))]), (3, .ov [.sc (.int .i64 (a1.length : Int))])] [_, _] ⟨27, [(0, o1 (.sl 5 (List.map eS0 a0))), (1, o1 (.sl 5 (List.map eS0 a1))), (10, oB (!(decide ((a0.length : Int) = (a1.length : Int)))))], [], 0, []⟩ (by kernel_rfl) ⟨(ovlen (f := eS0) (l := a0)), (ovlen (f := eS0) (l := a1)), trivial⟩ ?_
  rcases ite_some H with ⟨h1, H⟩ | ⟨h1, H⟩
  · refine Tri.cond_false (useb (nF (decide_eq_true h1)) (by kernel_rfl)) ?_
    refine Tri.skip ?_
    obtain ⟨v21, h20, H⟩ := bind_some' H
    refine Tri.join (α := Unit) (fun w => v21 = .inr w) (fun _ => ⟨27, [], [], 0, []⟩) (fun w hw => ?_) ?_
    · rw [hw] at H; clear hw
      try dsimp only at H
      refine Tri.rn [4] 0 [] [] [] ⟨27, [(4, oB true)], [], 0, []⟩ (by kernel_rfl) trivial ?_
      refine Tri.ret ?_
      obtain rfl := Option.some.inj H
      exact ⟨.inr rfl, rfl, rfl, Nat.le_refl _, rfl, by simp⟩
    · unfold laws_eqInsS.e2 at h20
      refine Tri.rn [0, 1, 5] 0 [] [] [] ⟨27, [(0, o1 (.sl 5 (List.map eS0 a0))), (1, o1 (.sl 5 (List.map eS0 a1))), (5, oI 0)], [], 0, []⟩ (by kernel_rfl) trivial ?_
      refine Tri.block ?_
      refine Tri.loop k (TriR.ind (α := Int) (fun k x => laws_eqInsS.l1 k a0 a1 x) (fun x => ⟨27, [(0, o1 (.sl 5 (List.map eS0 a0))), (1, o1 (.sl 5 (List.map eS0 a1))), (5, oI x)], [], 0, []⟩) (fun _ => rfl) (fun k z10 h20 IH19 => ?_) k 0 h20)
      rw [laws_eqInsS.l1.eq_2] at h20
      refine Tri.seq ?_
      refine Tri.rn [0, 1, 5, 14] 0 [] [(2, .ov [.sc (.int .i64 (a0.length : Int))])] [_] ⟨27, [(0, o1 (.sl 5 (List.map eS0 a0))), (1, o1 (.sl 5 (List.map eS0 a1))), (5, oI z10), (14, oB (decide (z10 < (a0.length : Int))))], [], 0, []⟩ (by kernel_rfl) ⟨(ovlen (f := eS0) (l := a0)), trivial⟩ ?_
      rcases ite_some h20 with ⟨h11, h20⟩ | ⟨h11, h20⟩
      · refine Tri.cond_true (useb (decide_eq_true h11) (by kernel_rfl)) ?_
        refine Tri.skip ?_
        refine Tri.seq ?_
        refine Tri.block ?_
        obtain ⟨x12, h13, h20⟩ := bind_some' h20
        obtain ⟨x14, h15, h20⟩ := bind_some' h20
        obtain ⟨r16, h17, h20⟩ := bind_some' h20
        refine Tri.dn hmix 8 [[], [], [0, 1], [0, 1, 2], [], [], [4, 5], [4, 5, 6], [0, 1, 2, 3, 4, 5, 6, 7], [0, 1, 2, 3, 4, 5, 6, 7, 8]] [0, 1, 5, 26] 0 [] [(2, .el (eS0 x12)), (6, .el (eS0 x14)), (8, .call (oB r16) [] false)] [_, _, _, _, _, _] ⟨27, [(0, o1 (.sl 5 (List.map eS0 a0))), (1, o1 (.sl 5 (List.map eS0 a1))), (5, oI z10), (26, oB (!r16))], [], 0, []⟩ (by kernel_rfl) ⟨(at?_0 h13), (at?_map (f := eS0) h13), (at?_0 h15), (at?_map (f := eS0) h15), (laws_eqIns.fn k x12 x14 r16 h17), (show (List.all [cB r16] PC.flatB) = true from rfl), trivial⟩ ?_
        rcases iteb_some h20 with ⟨h18, h20⟩ | ⟨h18, h20⟩
        · refine Tri.cond_false (useb (nF h18) (by kernel_rfl)) ?_
          refine Tri.skip ?_
          refine Tri.r1 [0, 1, 5] 0 [] [] [] ⟨27, [(0, o1 (.sl 5 (List.map eS0 a0))), (1, o1 (.sl 5 (List.map eS0 a1))), (5, oI (w64 (z10 + 1)))], [], 0, []⟩ (by kernel_rfl) trivial ?_
          exact IH19 _ (w64 (z10 + 1)) (Nat.le_refl _) h20
        · refine Tri.cond_true (useb (nT h18) (by kernel_rfl)) ?_
          refine Tri.rn [4] 0 [] [] [] ⟨27, [(4, oB false)], [], 0, []⟩ (by kernel_rfl) trivial ?_
          refine Tri.ret ?_
          obtain rfl := Option.some.inj h20
          try dsimp only at H
          obtain rfl := Option.some.inj H
          exact ⟨.inr rfl, rfl, rfl, Nat.le_refl _, rfl, by simp⟩
      · refine Tri.cond_false (useb (decide_eq_false h11) (by kernel_rfl)) ?_
        refine Tri.fix [] 0 [] ⟨27, [], [], 0, []⟩ (by kernel_rfl) ?_
        refine Tri.exit ?_
        repeat (with_reducible refine Ex.exit ?_)
        refine Bk.here ?_
        exact ⟨(), (Option.some.inj h20).symm, rfl⟩
  · refine Tri.cond_true (useb (nT (decide_eq_false h1)) (by kernel_rfl)) ?_
    refine Tri.rn [4] 0 [] [] [] ⟨27, [(4, oB false)], [], 0, []⟩ (by kernel_rfl) trivial ?_
    refine Tri.ret ?_
    obtain rfl := Option.some.inj H
    exact ⟨.inr rfl, rfl, rfl, Nat.le_refl _, rfl, by simp⟩
/-! laws_eqCode: function 13 -/
def laws_eqCode.f (k : Nat) (a0 : S1) (a1 : S1) : Option Bool := if a0.f0 = a1.f0 then (if a0.f1 = a1.f1 then (if a0.f2 = a1.f2 then (if a0.f3 = a1.f3 then ((laws_eqInsS.f k a0.f4 a1.f4).bind fun r5 => if r5 = true then (some true) else (some false)) else (some false)) else (some false)) else (some false)) else (some false)
set_option maxRecDepth 100000 in
theorem laws_eqCode.fn (k : Nat) (a0 : S1) (a1 : S1) (r : Bool) (H : laws_eqCode.f k a0 a1 = some r) : Fn Tryd.prog 13 [ag (eS1 a0), ag (eS1 a1)] [] (oB r) [] := by
  unfold laws_eqCode.f at H
  refine Fn.body (ts := [4]) Tryd.func13 rfl rfl (by decide) (by decide) (Nat.le_of_ble_eq_true rfl) (Nat.le_refl _) ?_
  refine Tri.rn [2, 3] 2 [] [] [] ⟨31, [(2, o1 (.ref 0 0)), (3, o1 (.ref 1 0))], [eS1 a0, eS1 a1], 0, []⟩ (by kernel_rfl) trivial ?_
  refine Tri.seq ?_
  refine Tri.rn [2, 3, 9] 2 [] [] [] ⟨31, [(2, o1 (.ref 0 0)), (3, o1 (.ref 1 0)), (9, oB (!(decide (a0.f0 = a1.f0))))], [eS1 a0, eS1 a1], 0, []⟩ (by kernel_rfl) trivial ?_
  rcases ite_some H with ⟨h1, H⟩ | ⟨h1, H⟩
  · refine Tri.cond_false (useb (nF (decide_eq_true h1)) (by kernel_rfl)) ?_
    refine Tri.skip ?_
    refine Tri.seq ?_
    refine Tri.rn [2, 3, 14] 2 [] [] [] ⟨31, [(2, o1 (.ref 0 0)), (3, o1 (.ref 1 0)), (14, oB (!(decide (a0.f1 = a1.f1))))], [eS1 a0, eS1 a1], 0, []⟩ (by kernel_rfl) trivial ?_
    rcases ite_some H with ⟨h2, H⟩ | ⟨h2, H⟩
    · refine Tri.cond_false (useb (nF (decide_eq_true h2)) (by kernel_rfl)) ?_
      refine Tri.skip ?_
      refine Tri.seq ?_
      refine Tri.rn [2, 3, 19] 2 [] [] [] ⟨31, [(2, o1 (.ref 0 0)), (3, o1 (.ref 1 0)), (19, oB (!(decide (a0.f2 = a1.f2))))], [eS1 a0, eS1 a1], 0, []⟩ (by kernel_rfl) trivial ?_
      rcases ite_some H with ⟨h3, H⟩ | ⟨h3, H⟩
      · refine Tri.cond_false (useb (nF (decide_eq_true h3)) (by kernel_rfl)) ?_
        refine Tri.skip ?_
        refine Tri.seq ?_
        refine Tri.rn [2, 3, 24] 2 [] [] [] ⟨31, [(2, o1 (.ref 0 0)), (3, o1 (.ref 1 0)), (24, oB (!(decide (a0.f3 = a1.f3))))], [eS1 a0, eS1 a1], 0, []⟩ (by kernel_rfl) trivial ?_
        rcases ite_some H with ⟨h4, H⟩ | ⟨h4, H⟩
        · refine Tri.cond_false (useb (nF (decide_eq_true h4)) (by kernel_rfl)) ?_
          refine Tri.skip ?_
          refine Tri.seq ?_
          obtain ⟨r5, h6, H⟩ := bind_some' H
          refine Tri.rn [30] 0 [] [(4, .call (oB r5) [] false)] [_, _] ⟨31, [(30, oB (!r5))], [], 0, []⟩ (by kernel_rfl) ⟨(laws_eqInsS.fn k a0.f4 a1.f4 r5 h6), (show (List.all [cB r5] PC.flatB) = true from rfl), trivial⟩ ?_
          rcases iteb_some H with ⟨h7, H⟩ | ⟨h7, H⟩
          · refine Tri.cond_false (useb (nF h7) (by kernel_rfl)) ?_
            refine Tri.skip ?_
            refine Tri.rn [4] 0 [] [] [] ⟨31, [(4, oB true)], [], 0, []⟩ (by kernel_rfl) trivial ?_
            refine Tri.ret ?_
            obtain rfl := Option.some.inj H
            exact ⟨.inr rfl, rfl, rfl, Nat.le_refl _, rfl, by simp⟩
          · refine Tri.cond_true (useb (nT h7) (by kernel_rfl)) ?_
            refine Tri.rn [4] 0 [] [] [] ⟨31, [(4, oB false)], [], 0, []⟩ (by kernel_rfl) trivial ?_
            refine Tri.ret ?_
            obtain rfl := Option.some.inj H
            exact ⟨.inr rfl, rfl, rfl, Nat.le_refl _, rfl, by simp⟩
        · refine Tri.cond_true (useb (nT (decide_eq_false h4)) (by kernel_rfl)) ?_
          refine Tri.rn [4] 0 [] [] [] ⟨31, [(4, oB false)], [], 0, []⟩ (by kernel_rfl) trivial ?_
          refine Tri.ret ?_
          obtain rfl := Option.some.inj H
          exact ⟨.inr rfl, rfl, rfl, Nat.le_refl _, rfl, by simp⟩
      · refine Tri.cond_true (useb (nT (decide_eq_false h3)) (by kernel_rfl)) ?_
        refine Tri.rn [4] 0 [] [] [] ⟨31, [(4, oB false)], [], 0, []⟩ (by kernel_rfl) trivial ?_
        refine Tri.ret ?_
        obtain rfl := Option.some.inj H
        exact ⟨.inr rfl, rfl, rfl, Nat.le_refl _, rfl, by simp⟩
    · refine Tri.cond_true (useb (nT (decide_eq_false h2)) (by kernel_rfl)) ?_
      refine Tri.rn [4] 0 [] [] [] ⟨31, [(4, oB false)], [], 0, []⟩ (by kernel_rfl) trivial ?_
      refine Tri.ret ?_
      obtain rfl := Option.some.inj H
      exact ⟨.inr rfl, rfl, rfl, Nat.le_refl _, rfl, by simp⟩
  · refine Tri.cond_true (useb (nT (decide_eq_false h1)) (by kernel_rfl)) ?_
    refine Tri.rn [4] 0 [] [] [] ⟨31, [(4, oB false)], [], 0, []⟩ (by kernel_rfl) trivial ?_
    refine Tri.ret ?_
    obtain rfl := Option.some.inj H
    exact ⟨.inr rfl, rfl, rfl, Nat.le_refl _, rfl, by simp⟩
/-! laws_FnExactVerifyCode: function 3 -/
def laws_FnExactVerifyCode.e1 (k : Nat) (r6 : (Int × Int)) (r10 : (Int × Int)) : Option Bool := if r10.1 = r6.1 then (some (!(decide (r10.2 = r6.2)))) else (some true)
def laws_FnExactVerifyCode.f (k : Nat) (a0 : S1) : Option Bool := (laws_szCode.f k a0 1048576).bind fun r1 => if r1 < 0 then (some true) else ((laws_toCode.f k a0).bind fun r4 => (spec_VerifyCode.f k r4.1).bind fun r6 => (laws_toCode.f k a0).bind fun r8 => (impl_VerifyCode.f k r8.1).bind fun r10 => (laws_FnExactVerifyCode.e1 k r6 r10).bind fun y13 => if y13 = true then (some false) else ((laws_toCode.f k a0).bind fun r17 => (laws_eqCode.f k r8.1 r17.1).bind fun r19 => if r19 = true then (some true) else (some false)))
set_option maxRecDepth 100000 in
theorem laws_FnExactVerifyCode.fn (k : Nat) (a0 : S1) (r : Bool) (H : laws_FnExactVerifyCode.f k a0 = some r) : Fn Tryd.prog 3 [ag (eS1 a0)] [] (oB r) [] := by
  unfold laws_FnExactVerifyCode.f at H
  refine Fn.body (ts := [2]) Tryd.func3 rfl rfl (by decide) (by decide) (Nat.le_of_ble_eq_true rfl) (Nat.le_refl _) ?_
  refine Tri.rn [1] 1 [] [] [] ⟨40, [(1, o1 (.ref 0 0))], [eS1 a0], 0, []⟩ (by kernel_rfl) trivial ?_
  refine Tri.rn [1, 3] 1 [] [] [] ⟨40, [(1, o1 (.ref 0 0)), (3, oI 1048576)], [eS1 a0], 0, []⟩ (by kernel_rfl) trivial ?_
  obtain ⟨r1, h2, H⟩ := bind_some' H
  refine Tri.rn [1, 3] 1 [] [(2, .call (oI r1) [] false)] [_, _] ⟨40, [(1, o1 (.ref 0 0)), (3, oI r1)], [eS1 a0], 0, []⟩ (by kernel_rfl) ⟨(laws_szCode.fn k a0 1048576 r1 h2), (show (List.all [cI r1] PC.flatB) = true from rfl), trivial⟩ ?_
  refine Tri.seq ?_
  refine Tri.rn [1, 13] 1 [] [] [] ⟨40, [(1, o1 (.ref 0 0)), (13, oB (decide (r1 < 0)))], [eS1 a0], 0, []⟩ (by kernel_rfl) trivial ?_
  rcases ite_some H with ⟨h3, H⟩ | ⟨h3, H⟩
  · refine Tri.cond_true (useb (decide_eq_true h3) (by kernel_rfl)) ?_
    refine Tri.rn [2] 0 [] [] [] ⟨40, [(2, oB true)], [], 0, []⟩ (by kernel_rfl) trivial ?_
    refine Tri.ret ?_
    obtain rfl := Option.some.inj H
    exact ⟨.inr rfl, rfl, rfl, Nat.le_refl _, rfl, by simp⟩
  · refine Tri.cond_false (useb (decide_eq_false h3) (by kernel_rfl)) ?_
    refine Tri.skip ?_
    obtain ⟨r4, h5, H⟩ := bind_some' H
    obtain ⟨r6, h7, H⟩ := bind_some' H
    refine Tri.rn [1, 4, 5] 1 [] [(1, .call (ag (eS1 r4.1)) [] true), (2, .call (tp [none, none] [cI r6.1, cI r6.2]) [] false)] [_, _, _] ⟨40, [(1, o1 (.ref 0 0)), (4, oI r6.1), (5, oI r6.2)], [eS1 a0], 0, []⟩ (by kernel_rfl) ⟨(laws_toCode.fn k a0 r4 h5), (spec_VerifyCode.fn k r4.1 r6 h7), (show (List.all [cI r6.1, cI r6.2] PC.flatB) = true from rfl), trivial⟩ ?_
    obtain ⟨r8, h9, H⟩ := bind_some' H
    refine Tri.rn [1, 4, 5, 6] 2 [] [(1, .call (ag (eS1 r8.1)) [] true)] [_] ⟨40, [(1, o1 (.ref 0 0)), (4, oI r6.1), (5, oI r6.2), (6, o1 (.ref 1 0))], [eS1 a0, eS1 r8.1], 0, []⟩ (by kernel_rfl) ⟨(laws_toCode.fn k a0 r8 h9), trivial⟩ ?_
    obtain ⟨r10, h11, H⟩ := bind_some' H
    refine Tri.rn [1, 4, 5, 6, 7, 8] 2 [] [(1, .call (tp [none, none] [cI r10.1, cI r10.2]) [] false)] [_, _] ⟨40, [(1, o1 (.ref 0 0)), (4, oI r6.1), (5, oI r6.2), (6, o1 (.ref 1 0)), (7, oI r10.1), (8, oI r10.2)], [eS1 a0, eS1 r8.1], 0, []⟩ (by kernel_rfl) ⟨(impl_VerifyCode.fn k r8.1 r10 h11), (show (List.all [cI r10.1, cI r10.2] PC.flatB) = true from rfl), trivial⟩ ?_
    refine Tri.seq ?_
    obtain ⟨v15, h14, H⟩ := bind_some' H
    refine Tri.join (α := Bool) (fun w => v15 = w) (fun y13 => ⟨40, [(1, o1 (.ref 0 0)), (6, o1 (.ref 1 0)), (34, oB y13)], [eS1 a0, eS1 r8.1], 0, []⟩) (fun y13 hw => ?_) ?_
    · rw [hw] at H; clear hw
      try dsimp only at H
      rcases iteb_some H with ⟨h16, H⟩ | ⟨h16, H⟩
      · refine Tri.cond_true (useb h16 (by kernel_rfl)) ?_
        refine Tri.rn [2] 0 [] [] [] ⟨40, [(2, oB false)], [], 0, []⟩ (by kernel_rfl) trivial ?_
        refine Tri.ret ?_
        obtain rfl := Option.some.inj H
        exact ⟨.inr rfl, rfl, rfl, Nat.le_refl _, rfl, by simp⟩
      · refine Tri.cond_false (useb h16 (by kernel_rfl)) ?_
        refine Tri.skip ?_
        refine Tri.seq ?_
        obtain ⟨r17, h18, H⟩ := bind_some' H
        obtain ⟨r19, h20, H⟩ := bind_some' H
        refine Tri.dn hmix 3 [[], [], [1], [0, 1, 2], [0, 1, 2, 3]] [39] 0 [] [(2, .call (ag (eS1 r17.1)) [] true), (3, .call (oB r19) [] false)] [_, _, _] ⟨40, [(39, oB (!r19))], [], 0, []⟩ (by kernel_rfl) ⟨(laws_toCode.fn k a0 r17 h18), (laws_eqCode.fn k r8.1 r17.1 r19 h20), (show (List.all [cB r19] PC.flatB) = true from rfl), trivial⟩ ?_
        rcases iteb_some H with ⟨h21, H⟩ | ⟨h21, H⟩
        · refine Tri.cond_false (useb (nF h21) (by kernel_rfl)) ?_
          refine Tri.skip ?_
          refine Tri.rn [2] 0 [] [] [] ⟨40, [(2, oB true)], [], 0, []⟩ (by kernel_rfl) trivial ?_
          refine Tri.ret ?_
          obtain rfl := Option.some.inj H
          exact ⟨.inr rfl, rfl, rfl, Nat.le_refl _, rfl, by simp⟩
        · refine Tri.cond_true (useb (nT h21) (by kernel_rfl)) ?_
          refine Tri.rn [2] 0 [] [] [] ⟨40, [(2, oB false)], [], 0, []⟩ (by kernel_rfl) trivial ?_
          refine Tri.ret ?_
          obtain rfl := Option.some.inj H
          exact ⟨.inr rfl, rfl, rfl, Nat.le_refl _, rfl, by simp⟩
    · unfold laws_FnExactVerifyCode.e1 at h14
      rcases ite_some h14 with ⟨h12, h14⟩ | ⟨h12, h14⟩
      · refine Tri.r1 [1, 6, 34] 2 [] [(2, .ov [.sc (.bool false)])] [_] ⟨40, [(1, o1 (.ref 0 0)), (6, o1 (.ref 1 0)), (34, oB (!(decide (r10.2 = r6.2))))], [eS1 a0, eS1 r8.1], 0, []⟩ (by kernel_rfl) ⟨(ovb (nF (decide_eq_true h12))), trivial⟩ ?_
        exact ⟨(!(decide (r10.2 = r6.2))), (Option.some.inj h14).symm, rfl⟩
      · refine Tri.r1 [1, 6, 34] 2 [] [(2, .ov [.sc (.bool true)])] [_] ⟨40, [(1, o1 (.ref 0 0)), (6, o1 (.ref 1 0)), (34, oB true)], [eS1 a0, eS1 r8.1], 0, []⟩ (by kernel_rfl) ⟨(ovb (nT (decide_eq_false h12))), trivial⟩ ?_
        exact ⟨true, (Option.some.inj h14).symm, rfl⟩
end Go.Proofs.YtaikjjlbfdkgmaaDoor.E
