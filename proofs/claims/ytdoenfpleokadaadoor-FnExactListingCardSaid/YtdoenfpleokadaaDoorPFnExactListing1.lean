/- Functions of the program and their contracts: printed by ep3.py, a program of this session. -/
import Derived.Test.YtdoenfpleokadaaDoorPFnExactListing0
import Derived.Test.YtdoenfpleokadaaDoorProg
set_option linter.unusedVariables false
set_option linter.unusedSectionVars false
set_option linter.unusedSimpArgs false
namespace Go.Proofs.YtdoenfpleokadaaDoor.E
open Go.RowKit
/-! impl_Code__isIns: function 89 -/
def impl_Code__isIns.e1 (k : Nat) (a1 : SIns) : Option Bool := (impl_isName.f k a1.f3).bind fun r4 => if r4 = true then ((impl_isName.f k a1.f4).bind fun r7 => some (!r7)) else (some true)
def impl_Code__isIns.e2 (k : Nat) (a1 : SIns) : Option Bool := if a1.f3 = (⟨#[]⟩ : ByteArray) then (some (!(decide (a1.f4 = (⟨#[]⟩ : ByteArray))))) else (some true)
def impl_Code__isIns.e3 (k : Nat) (a1 : SIns) : Option (Bool ⊕ Unit) := (impl_hasPlace.f k a1.f0).bind fun r1 => if r1 = true then ((impl_Code__isIns.e1 k a1).bind fun y9 => if y9 = true then (some (.inl false)) else (some (.inr ()))) else ((impl_Code__isIns.e2 k a1).bind fun y14 => if y14 = true then (some (.inl false)) else (some (.inr ())))
def impl_Code__isIns.e4 (k : Nat) (a1 : SIns) : Option Bool := if a1.f0 = 13 then (some false) else (some (!(decide (a1.f2 = 0))))
def impl_Code__isIns.e5 (k : Nat) (a1 : SIns) : Option Bool := if a1.f0 = 11 then (some (decide (a1.f0 = 11))) else (some (decide (a1.f0 = 12)))
def impl_Code__isIns.e6 (k : Nat) (a1 : SIns) : Option Bool := (impl_within.f k a1.f1 0 20).bind fun r45 => if r45 = true then ((impl_within.f k a1.f2 0 1).bind fun r48 => some r48) else (some false)
def impl_Code__isIns.e7 (k : Nat) (a1 : SIns) : Option Bool := if a1.f1 = 1 then (some true) else (some (decide (a1.f1 = 3)))
def impl_Code__isIns.e8 (k : Nat) (a1 : SIns) : Option Bool := (impl_within.f k a1.f0 1 17).bind fun r65 => if r65 = true then (some (decide (a1.f1 = 0))) else (some false)
def impl_Code__isIns.f (k : Nat) (a0 : SCode) (a1 : SIns) : Option Bool := (impl_Code__isIns.e3 k a1).bind fun v => match v with | .inl r => some r | .inr _ => (impl_Code__isIns.e4 k a1).bind fun y21 => if y21 = true then (some false) else (if a1.f0 = 1 then (some true) else (if a1.f0 = 2 then ((impl_within.f k a1.f1 0 (w64 (a0.f2 - 1))).bind fun r27 => some r27) else (if a1.f0 = 6 then ((impl_within.f k a1.f1 1 100).bind fun r30 => some r30) else (if a1.f0 = 7 then ((impl_works.f k).bind fun r33 => (impl_within.f k a1.f1 0 (w64 ((r33.length : Int) - 1))).bind fun r35 => some r35) else ((impl_Code__isIns.e5 k a1).bind fun y38 => if y38 = true then ((impl_within.f k a1.f1 0 (w64 ((a0.f4.length : Int) - 1))).bind fun r42 => some r42) else (if a1.f0 = 13 then ((impl_Code__isIns.e6 k a1).bind fun y50 => some y50) else (if a1.f0 = 14 then (some (decide (a1.f1 = a0.f3))) else (if a1.f0 = 15 then ((impl_isType.f k a1.f1).bind fun r55 => some r55) else (if a1.f0 = 16 then ((impl_Code__isIns.e7 k a1).bind fun y59 => some y59) else (if a1.f0 = 17 then ((impl_within.f k a1.f1 1 5).bind fun r63 => some r63) else ((impl_Code__isIns.e8 k a1).bind fun y68 => some y68)))))))))))
set_option maxRecDepth 100000 in
theorem impl_Code__isIns.fn (k : Nat) (a0 : SCode) (a1 : SIns) (r : Bool) (H : impl_Code__isIns.f k a0 a1 = some r) : Fn Tryd.prog 89 [ag (eSCode a0), ag (eSIns a1)] [] (oB r) [] := by
  unfold impl_Code__isIns.f at H
  refine Fn.body (ts := [4]) Tryd.func89 rfl rfl (by decide) (by decide) (Nat.le_of_ble_eq_true rfl) (Nat.le_refl _) ?_
  refine Tri.rn [2, 3] 2 [] [] [] ⟨114, [(2, o1 (.ref 0 0)), (3, o1 (.ref 1 0))], [eSCode a0, eSIns a1], 0, []⟩ (by kernel_rfl) trivial ?_
  obtain ⟨v19, h18, H⟩ := bind_some' H
  refine Tri.join (α := Unit) (fun w => v19 = .inr w) (fun _ => ⟨114, [(2, o1 (.ref 0 0)), (3, o1 (.ref 1 0))], [eSCode a0, eSIns a1], 0, []⟩) (fun w hw => ?_) ?_
  · rw [hw] at H; clear hw
    try dsimp only at H
    refine Tri.seq ?_
    obtain ⟨v23, h22, H⟩ := bind_some' H
    refine Tri.join (α := Bool) (fun w => v23 = w) (fun y21 => ⟨114, [(2, o1 (.ref 0 0)), (3, o1 (.ref 1 0)), (33, oB y21)], [eSCode a0, eSIns a1], 0, []⟩) (fun y21 hw => ?_) ?_
    · rw [hw] at H; clear hw
      try dsimp only at H
      rcases iteb_some H with ⟨h24, H⟩ | ⟨h24, H⟩
      · refine Tri.cond_true (useb h24 (by kernel_rfl)) ?_
        refine Tri.rn [4] 0 [] [] [] ⟨114, [(4, oB false)], [], 0, []⟩ (by kernel_rfl) trivial ?_
        refine Tri.ret ?_
        obtain rfl := Option.some.inj H
        exact ⟨.inr rfl, rfl, rfl, Nat.le_refl _, rfl, by simp⟩
      · refine Tri.cond_false (useb h24 (by kernel_rfl)) ?_
        refine Tri.skip ?_
        refine Tri.seq ?_
        refine Tri.rn [2, 3, 35] 2 [] [] [] ⟨114, [(2, o1 (.ref 0 0)), (3, o1 (.ref 1 0)), (35, oI a1.f0)], [eSCode a0, eSIns a1], 0, []⟩ (by kernel_rfl) trivial ?_
        refine Tri.block ?_
        refine Tri.rn [2, 3, 35, 36] 2 [] [] [] ⟨114, [(2, o1 (.ref 0 0)), (3, o1 (.ref 1 0)), (35, oI a1.f0), (36, oB (decide (a1.f0 = 1)))], [eSCode a0, eSIns a1], 0, []⟩ (by kernel_rfl) trivial ?_
        rcases ite_some H with ⟨h25, H⟩ | ⟨h25, H⟩
        · refine Tri.cond_true (useb (decide_eq_true h25) (by kernel_rfl)) ?_
          refine Tri.rn [4] 0 [] [] [] ⟨114, [(4, oB true)], [], 0, []⟩ (by kernel_rfl) trivial ?_
          refine Tri.ret ?_
          obtain rfl := Option.some.inj H
          exact ⟨.inr rfl, rfl, rfl, Nat.le_refl _, rfl, by simp⟩
        · refine Tri.cond_false (useb (decide_eq_false h25) (by kernel_rfl)) ?_
          refine Tri.rn [2, 3, 35, 38] 2 [] [] [] ⟨114, [(2, o1 (.ref 0 0)), (3, o1 (.ref 1 0)), (35, oI a1.f0), (38, oB (decide (a1.f0 = 2)))], [eSCode a0, eSIns a1], 0, []⟩ (by kernel_rfl) trivial ?_
          rcases ite_some H with ⟨h26, H⟩ | ⟨h26, H⟩
          · refine Tri.cond_true (useb (decide_eq_true h26) (by kernel_rfl)) ?_
            obtain ⟨r27, h28, H⟩ := bind_some' H
            refine Tri.rn [4] 0 [] [(5, .call (oB r27) [] false)] [_, _] ⟨114, [(4, oB r27)], [], 0, []⟩ (by kernel_rfl) ⟨(impl_within.fn k a1.f1 0 (w64 (a0.f2 - 1)) r27 h28), (show (List.all [cB r27] PC.flatB) = true from rfl), trivial⟩ ?_
            refine Tri.ret ?_
            obtain rfl := Option.some.inj H
            exact ⟨.inr rfl, rfl, rfl, Nat.le_refl _, rfl, by simp⟩
          · refine Tri.cond_false (useb (decide_eq_false h26) (by kernel_rfl)) ?_
            refine Tri.rn [2, 3, 35, 46] 2 [] [] [] ⟨114, [(2, o1 (.ref 0 0)), (3, o1 (.ref 1 0)), (35, oI a1.f0), (46, oB (decide (a1.f0 = 6)))], [eSCode a0, eSIns a1], 0, []⟩ (by kernel_rfl) trivial ?_
            rcases ite_some H with ⟨h29, H⟩ | ⟨h29, H⟩
            · refine Tri.cond_true (useb (decide_eq_true h29) (by kernel_rfl)) ?_
              obtain ⟨r30, h31, H⟩ := bind_some' H
              refine Tri.rn [4] 0 [] [(2, .call (oB r30) [] false)] [_, _] ⟨114, [(4, oB r30)], [], 0, []⟩ (by kernel_rfl) ⟨(impl_within.fn k a1.f1 1 100 r30 h31), (show (List.all [cB r30] PC.flatB) = true from rfl), trivial⟩ ?_
              refine Tri.ret ?_
              obtain rfl := Option.some.inj H
              exact ⟨.inr rfl, rfl, rfl, Nat.le_refl _, rfl, by simp⟩
            · refine Tri.cond_false (useb (decide_eq_false h29) (by kernel_rfl)) ?_
              refine Tri.rn [2, 3, 35, 51] 2 [] [] [] ⟨114, [(2, o1 (.ref 0 0)), (3, o1 (.ref 1 0)), (35, oI a1.f0), (51, oB (decide (a1.f0 = 7)))], [eSCode a0, eSIns a1], 0, []⟩ (by kernel_rfl) trivial ?_
              rcases ite_some H with ⟨h32, H⟩ | ⟨h32, H⟩
              · refine Tri.cond_true (useb (decide_eq_true h32) (by kernel_rfl)) ?_
                obtain ⟨r33, h34, H⟩ := bind_some' H
                obtain ⟨r35, h36, H⟩ := bind_some' H
                refine Tri.dn hmix 5 [[], [0], [], [2], [2, 3], [0, 1, 2, 3, 4], [0, 1, 2, 3, 4, 5]] [4] 0 [] [(2, .call (o1 (.own 9 (List.map eS r33))) [] false), (3, .ov [.sc (.int .i64 (r33.length : Int))]), (5, .call (oB r35) [] false)] [_, _, _, _, _] ⟨114, [(4, oB r35)], [], 0, []⟩ (by kernel_rfl) ⟨(impl_works.fn k r33 h34), (show (List.all [.own 9 (List.map eS r33)] PC.flatB) = true by simp [PC.flatB, PC.scalar, cI, cK, cB, cS, eS]), (ovlen (f := eS) (l := r33)), (impl_within.fn k a1.f1 0 (w64 ((r33.length : Int) - 1)) r35 h36), (show (List.all [cB r35] PC.flatB) = true from rfl), trivial⟩ ?_
                refine Tri.ret ?_
                obtain rfl := Option.some.inj H
                exact ⟨.inr rfl, rfl, rfl, Nat.le_refl _, rfl, by simp⟩
              · refine Tri.cond_false (useb (decide_eq_false h32) (by kernel_rfl)) ?_
                obtain ⟨v40, h39, H⟩ := bind_some' H
                refine Tri.join (α := Bool) (fun w => v40 = w) (fun y38 => ⟨114, [(2, o1 (.ref 0 0)), (3, o1 (.ref 1 0)), (35, oI a1.f0), (59, oB y38)], [eSCode a0, eSIns a1], 0, []⟩) (fun y38 hw => ?_) ?_
                · rw [hw] at H; clear hw
                  try dsimp only at H
                  rcases iteb_some H with ⟨h41, H⟩ | ⟨h41, H⟩
                  · refine Tri.cond_true (useb h41 (by kernel_rfl)) ?_
                    obtain ⟨r42, h43, H⟩ := bind_some' H
                    refine Tri.rn [4] 0 [] [(4, .ov [.sc (.int .i64 (a0.f4.length : Int))]), (6, .call (oB r42) [] false)] [_, _, _] ⟨114, [(4, oB r42)], [], 0, []⟩ (by kernel_rfl) ⟨(ovlen (f := eSIns) (l := a0.f4)), (impl_within.fn k a1.f1 0 (w64 ((a0.f4.length : Int) - 1)) r42 h43), (show (List.all [cB r42] PC.flatB) = true from rfl), trivial⟩ ?_
                    refine Tri.ret ?_
                    obtain rfl := Option.some.inj H
                    exact ⟨.inr rfl, rfl, rfl, Nat.le_refl _, rfl, by simp⟩
                  · refine Tri.cond_false (useb h41 (by kernel_rfl)) ?_
                    refine Tri.rn [2, 3, 35, 69] 2 [] [] [] ⟨114, [(2, o1 (.ref 0 0)), (3, o1 (.ref 1 0)), (35, oI a1.f0), (69, oB (decide (a1.f0 = 13)))], [eSCode a0, eSIns a1], 0, []⟩ (by kernel_rfl) trivial ?_
                    rcases ite_some H with ⟨h44, H⟩ | ⟨h44, H⟩
                    · refine Tri.cond_true (useb (decide_eq_true h44) (by kernel_rfl)) ?_
                      obtain ⟨v52, h51, H⟩ := bind_some' H
                      refine Tri.join (α := Bool) (fun w => v52 = w) (fun y50 => ⟨114, [(4, oB y50)], [], 0, []⟩) (fun y50 hw => ?_) ?_
                      · rw [hw] at H; clear hw
                        try dsimp only at H
                        refine Tri.ret ?_
                        obtain rfl := Option.some.inj H
                        exact ⟨.inr rfl, rfl, rfl, Nat.le_refl _, rfl, by simp⟩
                      · unfold impl_Code__isIns.e6 at h51
                        obtain ⟨r45, h46, h51⟩ := bind_some' h51
                        rcases iteb_some h51 with ⟨h47, h51⟩ | ⟨h47, h51⟩
                        · obtain ⟨r48, h49, h51⟩ := bind_some' h51
                          refine Tri.r1 [4] 0 [] [(2, .call (oB r45) [] false), (2, .ov [.sc (.bool true)]), (6, .call (oB r48) [] false)] [_, _, _, _, _] ⟨114, [(4, oB r48)], [], 0, []⟩ (by kernel_rfl) ⟨(impl_within.fn k a1.f1 0 20 r45 h46), (show (List.all [cB r45] PC.flatB) = true from rfl), (ovb h47), (impl_within.fn k a1.f2 0 1 r48 h49), (show (List.all [cB r48] PC.flatB) = true from rfl), trivial⟩ ?_
                          exact ⟨r48, (Option.some.inj h51).symm, rfl⟩
                        · refine Tri.r1 [4] 0 [] [(2, .call (oB r45) [] false), (2, .ov [.sc (.bool false)])] [_, _, _] ⟨114, [(4, oB false)], [], 0, []⟩ (by kernel_rfl) ⟨(impl_within.fn k a1.f1 0 20 r45 h46), (show (List.all [cB r45] PC.flatB) = true from rfl), (ovb h47), trivial⟩ ?_
                          exact ⟨false, (Option.some.inj h51).symm, rfl⟩
                    · refine Tri.cond_false (useb (decide_eq_false h44) (by kernel_rfl)) ?_
                      refine Tri.rn [2, 3, 35, 79] 2 [] [] [] ⟨114, [(2, o1 (.ref 0 0)), (3, o1 (.ref 1 0)), (35, oI a1.f0), (79, oB (decide (a1.f0 = 14)))], [eSCode a0, eSIns a1], 0, []⟩ (by kernel_rfl) trivial ?_
                      rcases ite_some H with ⟨h53, H⟩ | ⟨h53, H⟩
                      · refine Tri.cond_true (useb (decide_eq_true h53) (by kernel_rfl)) ?_
                        refine Tri.rn [4] 0 [] [] [] ⟨114, [(4, oB (decide (a1.f1 = a0.f3)))], [], 0, []⟩ (by kernel_rfl) trivial ?_
                        refine Tri.ret ?_
                        obtain rfl := Option.some.inj H
                        exact ⟨.inr rfl, rfl, rfl, Nat.le_refl _, rfl, by simp⟩
                      · refine Tri.cond_false (useb (decide_eq_false h53) (by kernel_rfl)) ?_
                        refine Tri.rn [3, 35, 86] 2 [] [] [] ⟨114, [(3, o1 (.ref 1 0)), (35, oI a1.f0), (86, oB (decide (a1.f0 = 15)))], [eSCode a0, eSIns a1], 0, []⟩ (by kernel_rfl) trivial ?_
                        rcases ite_some H with ⟨h54, H⟩ | ⟨h54, H⟩
                        · refine Tri.cond_true (useb (decide_eq_true h54) (by kernel_rfl)) ?_
                          obtain ⟨r55, h56, H⟩ := bind_some' H
                          refine Tri.rn [4] 0 [] [(2, .call (oB r55) [] false)] [_, _] ⟨114, [(4, oB r55)], [], 0, []⟩ (by kernel_rfl) ⟨(impl_isType.fn k a1.f1 r55 h56), (show (List.all [cB r55] PC.flatB) = true from rfl), trivial⟩ ?_
                          refine Tri.ret ?_
                          obtain rfl := Option.some.inj H
                          exact ⟨.inr rfl, rfl, rfl, Nat.le_refl _, rfl, by simp⟩
                        · refine Tri.cond_false (useb (decide_eq_false h54) (by kernel_rfl)) ?_
                          refine Tri.rn [3, 35, 91] 2 [] [] [] ⟨114, [(3, o1 (.ref 1 0)), (35, oI a1.f0), (91, oB (decide (a1.f0 = 16)))], [eSCode a0, eSIns a1], 0, []⟩ (by kernel_rfl) trivial ?_
                          rcases ite_some H with ⟨h57, H⟩ | ⟨h57, H⟩
                          · refine Tri.cond_true (useb (decide_eq_true h57) (by kernel_rfl)) ?_
                            obtain ⟨v61, h60, H⟩ := bind_some' H
                            refine Tri.join (α := Bool) (fun w => v61 = w) (fun y59 => ⟨114, [(4, oB y59)], [], 0, []⟩) (fun y59 hw => ?_) ?_
                            · rw [hw] at H; clear hw
                              try dsimp only at H
                              refine Tri.ret ?_
                              obtain rfl := Option.some.inj H
                              exact ⟨.inr rfl, rfl, rfl, Nat.le_refl _, rfl, by simp⟩
                            · unfold impl_Code__isIns.e7 at h60
                              rcases ite_some h60 with ⟨h58, h60⟩ | ⟨h58, h60⟩
                              · refine Tri.r1 [4] 0 [] [(2, .ov [.sc (.bool true)])] [_] ⟨114, [(4, oB true)], [], 0, []⟩ (by kernel_rfl) ⟨(ovb (decide_eq_true h58)), trivial⟩ ?_
                                exact ⟨true, (Option.some.inj h60).symm, rfl⟩
                              · refine Tri.r1 [4] 0 [] [(2, .ov [.sc (.bool false)])] [_] ⟨114, [(4, oB (decide (a1.f1 = 3)))], [], 0, []⟩ (by kernel_rfl) ⟨(ovb (decide_eq_false h58)), trivial⟩ ?_
                                exact ⟨(decide (a1.f1 = 3)), (Option.some.inj h60).symm, rfl⟩
                          · refine Tri.cond_false (useb (decide_eq_false h57) (by kernel_rfl)) ?_
                            refine Tri.rn [3, 101] 2 [] [] [] ⟨114, [(3, o1 (.ref 1 0)), (101, oB (decide (a1.f0 = 17)))], [eSCode a0, eSIns a1], 0, []⟩ (by kernel_rfl) trivial ?_
                            rcases ite_some H with ⟨h62, H⟩ | ⟨h62, H⟩
                            · refine Tri.cond_true (useb (decide_eq_true h62) (by kernel_rfl)) ?_
                              obtain ⟨r63, h64, H⟩ := bind_some' H
                              refine Tri.rn [4] 0 [] [(2, .call (oB r63) [] false)] [_, _] ⟨114, [(4, oB r63)], [], 0, []⟩ (by kernel_rfl) ⟨(impl_within.fn k a1.f1 1 5 r63 h64), (show (List.all [cB r63] PC.flatB) = true from rfl), trivial⟩ ?_
                              refine Tri.ret ?_
                              obtain rfl := Option.some.inj H
                              exact ⟨.inr rfl, rfl, rfl, Nat.le_refl _, rfl, by simp⟩
                            · refine Tri.cond_false (useb (decide_eq_false h62) (by kernel_rfl)) ?_
                              refine Tri.skip ?_
                              obtain ⟨v70, h69, H⟩ := bind_some' H
                              refine Tri.join (α := Bool) (fun w => v70 = w) (fun y68 => ⟨114, [(4, oB y68)], [], 0, []⟩) (fun y68 hw => ?_) ?_
                              · rw [hw] at H; clear hw
                                try dsimp only at H
                                refine Tri.ret ?_
                                obtain rfl := Option.some.inj H
                                exact ⟨.inr rfl, rfl, rfl, Nat.le_refl _, rfl, by simp⟩
                              · unfold impl_Code__isIns.e8 at h69
                                obtain ⟨r65, h66, h69⟩ := bind_some' h69
                                rcases iteb_some h69 with ⟨h67, h69⟩ | ⟨h67, h69⟩
                                · refine Tri.r1 [4] 0 [] [(2, .call (oB r65) [] false), (2, .ov [.sc (.bool true)])] [_, _, _] ⟨114, [(4, oB (decide (a1.f1 = 0)))], [], 0, []⟩ (by kernel_rfl) ⟨(impl_within.fn k a1.f0 1 17 r65 h66), (show (List.all [cB r65] PC.flatB) = true from rfl), (ovb h67), trivial⟩ ?_
                                  exact ⟨(decide (a1.f1 = 0)), (Option.some.inj h69).symm, rfl⟩
                                · refine Tri.r1 [4] 0 [] [(2, .call (oB r65) [] false), (2, .ov [.sc (.bool false)])] [_, _, _] ⟨114, [(4, oB false)], [], 0, []⟩ (by kernel_rfl) ⟨(impl_within.fn k a1.f0 1 17 r65 h66), (show (List.all [cB r65] PC.flatB) = true from rfl), (ovb h67), trivial⟩ ?_
                                  exact ⟨false, (Option.some.inj h69).symm, rfl⟩
                · unfold impl_Code__isIns.e5 at h39
                  refine Tri.rn [2, 3, 35, 59] 2 [] [] [] ⟨114, [(2, o1 (.ref 0 0)), (3, o1 (.ref 1 0)), (35, oI a1.f0), (59, oB (decide (a1.f0 = 11)))], [eSCode a0, eSIns a1], 0, []⟩ (by kernel_rfl) trivial ?_
                  rcases ite_some h39 with ⟨h37, h39⟩ | ⟨h37, h39⟩
                  · refine Tri.cond_true (useb (decide_eq_true h37) (by kernel_rfl)) ?_
                    refine Tri.skip ?_
                    exact ⟨(decide (a1.f0 = 11)), (Option.some.inj h39).symm, rfl⟩
                  · refine Tri.cond_false (useb (decide_eq_false h37) (by kernel_rfl)) ?_
                    refine Tri.r1 [2, 3, 35, 59] 2 [] [] [] ⟨114, [(2, o1 (.ref 0 0)), (3, o1 (.ref 1 0)), (35, oI a1.f0), (59, oB (decide (a1.f0 = 12)))], [eSCode a0, eSIns a1], 0, []⟩ (by kernel_rfl) trivial ?_
                    exact ⟨(decide (a1.f0 = 12)), (Option.some.inj h39).symm, rfl⟩
    · unfold impl_Code__isIns.e4 at h22
      rcases ite_some h22 with ⟨h20, h22⟩ | ⟨h20, h22⟩
      · refine Tri.r1 [2, 3, 33] 2 [] [(2, .ov [.sc (.bool false)])] [_] ⟨114, [(2, o1 (.ref 0 0)), (3, o1 (.ref 1 0)), (33, oB false)], [eSCode a0, eSIns a1], 0, []⟩ (by kernel_rfl) ⟨(ovb (nF (decide_eq_true h20))), trivial⟩ ?_
        exact ⟨false, (Option.some.inj h22).symm, rfl⟩
      · refine Tri.r1 [2, 3, 33] 2 [] [(2, .ov [.sc (.bool true)])] [_] ⟨114, [(2, o1 (.ref 0 0)), (3, o1 (.ref 1 0)), (33, oB (!(decide (a1.f2 = 0))))], [eSCode a0, eSIns a1], 0, []⟩ (by kernel_rfl) ⟨(ovb (nT (decide_eq_false h20))), trivial⟩ ?_
        exact ⟨(!(decide (a1.f2 = 0))), (Option.some.inj h22).symm, rfl⟩
  · unfold impl_Code__isIns.e3 at h18
    obtain ⟨r1, h2, h18⟩ := bind_some' h18
    refine Tri.rn [2, 3, 7] 2 [] [(2, .call (oB r1) [] false)] [_, _] ⟨114, [(2, o1 (.ref 0 0)), (3, o1 (.ref 1 0)), (7, oB r1)], [eSCode a0, eSIns a1], 0, []⟩ (by kernel_rfl) ⟨(impl_hasPlace.fn k a1.f0 r1 h2), (show (List.all [cB r1] PC.flatB) = true from rfl), trivial⟩ ?_
    rcases iteb_some h18 with ⟨h3, h18⟩ | ⟨h3, h18⟩
    · refine Tri.cond_true (useb h3 (by kernel_rfl)) ?_
      obtain ⟨v11, h10, h18⟩ := bind_some' h18
      refine Tri.join (α := Bool) (fun w => v11 = w) (fun y9 => ⟨114, [(2, o1 (.ref 0 0)), (3, o1 (.ref 1 0)), (17, oB y9)], [eSCode a0, eSIns a1], 0, []⟩) (fun y9 hw => ?_) ?_
      · rw [hw] at h18; clear hw
        try dsimp only at h18
        rcases iteb_some h18 with ⟨h12, h18⟩ | ⟨h12, h18⟩
        · refine Tri.cond_true (useb h12 (by kernel_rfl)) ?_
          refine Tri.rn [4] 0 [] [] [] ⟨114, [(4, oB false)], [], 0, []⟩ (by kernel_rfl) trivial ?_
          refine Tri.ret ?_
          obtain rfl := Option.some.inj h18
          try dsimp only at H
          obtain rfl := Option.some.inj H
          exact ⟨.inr rfl, rfl, rfl, Nat.le_refl _, rfl, by simp⟩
        · refine Tri.cond_false (useb h12 (by kernel_rfl)) ?_
          refine Tri.fix [2, 3] 2 [] ⟨114, [(2, o1 (.ref 0 0)), (3, o1 (.ref 1 0))], [eSCode a0, eSIns a1], 0, []⟩ (by kernel_rfl) ?_
          refine Tri.skip ?_
          exact ⟨(), (Option.some.inj h18).symm, rfl⟩
      · unfold impl_Code__isIns.e1 at h10
        obtain ⟨r4, h5, h10⟩ := bind_some' h10
        rcases iteb_some h10 with ⟨h6, h10⟩ | ⟨h6, h10⟩
        · obtain ⟨r7, h8, h10⟩ := bind_some' h10
          refine Tri.r1 [2, 3, 17] 2 [] [(2, .call (oB r4) [] false), (2, .ov [.sc (.bool true)]), (7, .call (oB r7) [] false)] [_, _, _, _, _] ⟨114, [(2, o1 (.ref 0 0)), (3, o1 (.ref 1 0)), (17, oB (!r7))], [eSCode a0, eSIns a1], 0, []⟩ (by kernel_rfl) ⟨(impl_isName.fn k a1.f3 r4 h5), (show (List.all [cB r4] PC.flatB) = true from rfl), (ovb h6), (impl_isName.fn k a1.f4 r7 h8), (show (List.all [cB r7] PC.flatB) = true from rfl), trivial⟩ ?_
          exact ⟨(!r7), (Option.some.inj h10).symm, rfl⟩
        · refine Tri.r1 [2, 3, 17] 2 [] [(2, .call (oB r4) [] false), (2, .ov [.sc (.bool false)])] [_, _, _] ⟨114, [(2, o1 (.ref 0 0)), (3, o1 (.ref 1 0)), (17, oB true)], [eSCode a0, eSIns a1], 0, []⟩ (by kernel_rfl) ⟨(impl_isName.fn k a1.f3 r4 h5), (show (List.all [cB r4] PC.flatB) = true from rfl), (ovb h6), trivial⟩ ?_
          exact ⟨true, (Option.some.inj h10).symm, rfl⟩
    · refine Tri.cond_false (useb h3 (by kernel_rfl)) ?_
      obtain ⟨v16, h15, h18⟩ := bind_some' h18
      refine Tri.join (α := Bool) (fun w => v16 = w) (fun y14 => ⟨114, [(2, o1 (.ref 0 0)), (3, o1 (.ref 1 0)), (25, oB y14)], [eSCode a0, eSIns a1], 0, []⟩) (fun y14 hw => ?_) ?_
      · rw [hw] at h18; clear hw
        try dsimp only at h18
        rcases iteb_some h18 with ⟨h17, h18⟩ | ⟨h17, h18⟩
        · refine Tri.cond_true (useb h17 (by kernel_rfl)) ?_
          refine Tri.rn [4] 0 [] [] [] ⟨114, [(4, oB false)], [], 0, []⟩ (by kernel_rfl) trivial ?_
          refine Tri.ret ?_
          obtain rfl := Option.some.inj h18
          try dsimp only at H
          obtain rfl := Option.some.inj H
          exact ⟨.inr rfl, rfl, rfl, Nat.le_refl _, rfl, by simp⟩
        · refine Tri.cond_false (useb h17 (by kernel_rfl)) ?_
          refine Tri.fix [2, 3] 2 [] ⟨114, [(2, o1 (.ref 0 0)), (3, o1 (.ref 1 0))], [eSCode a0, eSIns a1], 0, []⟩ (by kernel_rfl) ?_
          refine Tri.skip ?_
          exact ⟨(), (Option.some.inj h18).symm, rfl⟩
      · unfold impl_Code__isIns.e2 at h15
        rcases ite_some h15 with ⟨h13, h15⟩ | ⟨h13, h15⟩
        · refine Tri.r1 [2, 3, 25] 2 [] [(2, .ov [.sc (.bool false)])] [_] ⟨114, [(2, o1 (.ref 0 0)), (3, o1 (.ref 1 0)), (25, oB (!(decide (a1.f4 = (⟨#[]⟩ : ByteArray)))))], [eSCode a0, eSIns a1], 0, []⟩ (by kernel_rfl) ⟨(ovb (nF (decide_eq_true h13))), trivial⟩ ?_
          exact ⟨(!(decide (a1.f4 = (⟨#[]⟩ : ByteArray)))), (Option.some.inj h15).symm, rfl⟩
        · refine Tri.r1 [2, 3, 25] 2 [] [(2, .ov [.sc (.bool true)])] [_] ⟨114, [(2, o1 (.ref 0 0)), (3, o1 (.ref 1 0)), (25, oB true)], [eSCode a0, eSIns a1], 0, []⟩ (by kernel_rfl) ⟨(ovb (nT (decide_eq_false h13))), trivial⟩ ?_
          exact ⟨true, (Option.some.inj h15).symm, rfl⟩
/-! impl_Code__verify_1_1: function 88 -/
def impl_Code__verify_1_1.f (k : Nat) (a0 : SIns) (a1_1 : SCode) : Option Bool := (impl_Code__isIns.f k a1_1 a0).bind fun r1 => some (!r1)
set_option maxRecDepth 100000 in
theorem impl_Code__verify_1_1.fn (k : Nat) (a0 : SIns) (a1_1 : SCode) (r : Bool) (H : impl_Code__verify_1_1.f k a0 a1_1 = some r) : Fn Tryd.prog 88 [ag (eSIns a0), o1 (.cel (eSCode a1_1) 0)] [] (oB r) [] := by
  unfold impl_Code__verify_1_1.f at H
  refine Fn.body (ts := [3]) Tryd.func88 rfl rfl (by decide) (by decide) (Nat.le_of_ble_eq_true rfl) (Nat.le_refl _) ?_
  refine Tri.rn [1, 2] 1 [] [] [] ⟨8, [(1, o1 (.cel (eSCode a1_1) 0)), (2, o1 (.ref 0 0))], [eSIns a0], 0, []⟩ (by kernel_rfl) trivial ?_
  obtain ⟨r1, h2, H⟩ := bind_some' H
  refine Tri.rn [3] 0 [] [(2, .call (oB r1) [] false)] [_, _] ⟨8, [(3, oB (!r1))], [], 0, []⟩ (by kernel_rfl) ⟨(impl_Code__isIns.fn k a1_1 a0 r1 h2), (show (List.all [cB r1] PC.flatB) = true from rfl), trivial⟩ ?_
  refine Tri.ret ?_
  obtain rfl := Option.some.inj H
  exact ⟨.inr rfl, rfl, rfl, Nat.le_refl _, rfl, by simp⟩
/-! slices_IndexFunc___impl_Ins_impl_Ins_1: function 87 -/
def slices_IndexFunc___impl_Ins_impl_Ins_1.l1 : Nat → (List SIns) → SCode → Int → Option (Int ⊕ Unit)
  | 0, _, _, _ => none
  | k + 1, a0, a1_1, z7 => if z7 < (a0.length : Int) then ((at? a0 z7).bind fun x9 => (impl_Code__verify_1_1.f k x9 a1_1).bind fun r11 => if r11 = true then (some (.inl z7)) else (slices_IndexFunc___impl_Ins_impl_Ins_1.l1 k a0 a1_1 (w64 (z7 + 1)))) else (some (.inr ()))
def slices_IndexFunc___impl_Ins_impl_Ins_1.e2 (k : Nat) (a0 : (List SIns)) (a1_1 : SCode) : Option (Int ⊕ Unit) := slices_IndexFunc___impl_Ins_impl_Ins_1.l1 k a0 a1_1 0
def slices_IndexFunc___impl_Ins_impl_Ins_1.f (k : Nat) (a0 : (List SIns)) (a1_1 : SCode) : Option Int := (slices_IndexFunc___impl_Ins_impl_Ins_1.e2 k a0 a1_1).bind fun v => match v with | .inl r => some r | .inr _ => some (-1)
set_option maxRecDepth 100000 in
theorem slices_IndexFunc___impl_Ins_impl_Ins_1.fn (k : Nat) (a0 : (List SIns)) (a1_1 : SCode) (r : Int) (H : slices_IndexFunc___impl_Ins_impl_Ins_1.f k a0 a1_1 = some r) : Fn Tryd.prog 87 [o1 (.sl 5 (List.map eSIns a0)), o1 (.fn 88 [.cel (eSCode a1_1) 0])] [] (oI r) [] := by
  unfold slices_IndexFunc___impl_Ins_impl_Ins_1.f at H
  refine Fn.body (ts := [4]) Tryd.func87 rfl rfl (by decide) (by decide) (Nat.le_of_ble_eq_true rfl) (Nat.le_refl _) ?_
  refine Tri.rn [0, 1] 0 [] [] [] ⟨19, [(0, o1 (.sl 5 (List.map eSIns a0))), (1, o1 (.fn 88 [.cel (eSCode a1_1) 0]))], [], 0, []⟩ (by kernel_rfl) trivial ?_
  obtain ⟨v16, h15, H⟩ := bind_some' H
  refine Tri.join (α := Unit) (fun w => v16 = .inr w) (fun _ => ⟨19, [], [], 0, []⟩) (fun w hw => ?_) ?_
  · rw [hw] at H; clear hw
    try dsimp only at H
    refine Tri.rn [4] 0 [] [] [] ⟨19, [(4, oI (-1))], [], 0, []⟩ (by kernel_rfl) trivial ?_
    refine Tri.ret ?_
    obtain rfl := Option.some.inj H
    exact ⟨.inr rfl, rfl, rfl, Nat.le_refl _, rfl, by simp⟩
  · unfold slices_IndexFunc___impl_Ins_impl_Ins_1.e2 at h15
    refine Tri.rn [0, 1, 7, 8] 0 [] [(1, .ov [.sc (.int .i64 (a0.length : Int))])] [_] ⟨19, [(0, o1 (.sl 5 (List.map eSIns a0))), (1, o1 (.fn 88 [.cel (eSCode a1_1) 0])), (7, oI (a0.length : Int)), (8, oI 0)], [], 0, []⟩ (by kernel_rfl) ⟨(ovlen (f := eSIns) (l := a0)), trivial⟩ ?_
    refine Tri.block ?_
    refine Tri.loop k (TriR.ind (α := Int) (fun k x => slices_IndexFunc___impl_Ins_impl_Ins_1.l1 k a0 a1_1 x) (fun x => ⟨19, [(0, o1 (.sl 5 (List.map eSIns a0))), (1, o1 (.fn 88 [.cel (eSCode a1_1) 0])), (7, oI (a0.length : Int)), (8, oI x)], [], 0, []⟩) (fun _ => rfl) (fun k z7 h15 IH14 => ?_) k 0 h15)
    rw [slices_IndexFunc___impl_Ins_impl_Ins_1.l1.eq_2] at h15
    refine Tri.rn [0, 1, 7, 8, 9] 0 [] [] [] ⟨19, [(0, o1 (.sl 5 (List.map eSIns a0))), (1, o1 (.fn 88 [.cel (eSCode a1_1) 0])), (7, oI (a0.length : Int)), (8, oI z7), (9, oB (decide (z7 < (a0.length : Int))))], [], 0, []⟩ (by kernel_rfl) trivial ?_
    refine Tri.seq ?_
    rcases ite_some h15 with ⟨h8, h15⟩ | ⟨h8, h15⟩
    · refine Tri.cond_true (useb (decide_eq_true h8) (by kernel_rfl)) ?_
      refine Tri.skip ?_
      refine Tri.seq ?_
      refine Tri.block ?_
      refine Tri.rn [0, 1, 5, 7, 8] 0 [] [] [] ⟨19, [(0, o1 (.sl 5 (List.map eSIns a0))), (1, o1 (.fn 88 [.cel (eSCode a1_1) 0])), (5, oI z7), (7, oI (a0.length : Int)), (8, oI z7)], [], 0, []⟩ (by kernel_rfl) trivial ?_
      obtain ⟨x9, h10, h15⟩ := bind_some' h15
      obtain ⟨r11, h12, h15⟩ := bind_some' h15
      refine Tri.rn [0, 1, 5, 7, 8, 16] 0 [] [(3, .el (eSIns x9)), (5, .call (oB r11) [] false)] [_, _, _, _] ⟨19, [(0, o1 (.sl 5 (List.map eSIns a0))), (1, o1 (.fn 88 [.cel (eSCode a1_1) 0])), (5, oI z7), (7, oI (a0.length : Int)), (8, oI z7), (16, oB r11)], [], 0, []⟩ (by kernel_rfl) ⟨(at?_0 h10), (at?_map (f := eSIns) h10), (impl_Code__verify_1_1.fn k x9 a1_1 r11 h12), (show (List.all [cB r11] PC.flatB) = true from rfl), trivial⟩ ?_
      rcases iteb_some h15 with ⟨h13, h15⟩ | ⟨h13, h15⟩
      · refine Tri.cond_true (useb h13 (by kernel_rfl)) ?_
        refine Tri.rn [4] 0 [] [] [] ⟨19, [(4, oI z7)], [], 0, []⟩ (by kernel_rfl) trivial ?_
        refine Tri.ret ?_
        obtain rfl := Option.some.inj h15
        try dsimp only at H
        obtain rfl := Option.some.inj H
        exact ⟨.inr rfl, rfl, rfl, Nat.le_refl _, rfl, by simp⟩
      · refine Tri.cond_false (useb h13 (by kernel_rfl)) ?_
        refine Tri.skip ?_
        refine Tri.r1 [0, 1, 7, 8] 0 [] [] [] ⟨19, [(0, o1 (.sl 5 (List.map eSIns a0))), (1, o1 (.fn 88 [.cel (eSCode a1_1) 0])), (7, oI (a0.length : Int)), (8, oI (w64 (z7 + 1)))], [], 0, []⟩ (by kernel_rfl) trivial ?_
        exact IH14 _ (w64 (z7 + 1)) (Nat.le_refl _) h15
    · refine Tri.cond_false (useb (decide_eq_false h8) (by kernel_rfl)) ?_
      refine Tri.fix [] 0 [] ⟨19, [], [], 0, []⟩ (by kernel_rfl) ?_
      refine Tri.exit ?_
      repeat (with_reducible refine Ex.exit ?_)
      refine Bk.here ?_
      exact ⟨(), (Option.some.inj h15).symm, rfl⟩
/-! slices_Repeat___int_int: function 124 -/
def slices_Repeat___int_int.e1 (k : Nat) (r2 : (Int × Int)) : Option Bool := if (0 : Int) < r2.1 then (some true) else (some (decide ((9223372036854775807 : Int) < r2.2)))
def slices_Repeat___int_int.l2 : Nat → (List Int) → Int → Option (List Int)
  | 0, _, _ => none
  | k + 1, z14, z15 => if z15 < (z14.length : Int) then (if (0 : Int) ≤ z15 then (if z15 ≤ (z14.length : Int) then (slices_Repeat___int_int.l2 k  (cpRow z14 (List.take (Int.toNat (z15 - 0)) (List.drop (Int.toNat 0) z14)) (Int.toNat z15) (Nat.min (List.take (Int.toNat (z15 - 0)) (List.drop (Int.toNat 0) (List.map eI z14))).length (Int.toNat (((List.map eI z14).length : Int) - z15)))) (w64 (z15 + ((Nat.min (List.take (Int.toNat (z15 - 0)) (List.drop (Int.toNat 0) (List.map eI z14))).length (Int.toNat (((List.map eI z14).length : Int) - z15)) : Nat) : Int)))) else none) else none) else (some z14)
def slices_Repeat___int_int.e3 (k : Nat) (a0 : (List Int)) (r2 : (Int × Int)) : Option (List Int) := slices_Repeat___int_int.l2 k  (cpRow (List.replicate (Int.toNat (w64 (r2.2))) (0 : Int) : List Int) a0 0 (Nat.min (List.map eI a0).length ((List.map eI (List.replicate (Int.toNat (w64 (r2.2))) (0 : Int) : List Int)).length))) ((Nat.min (List.map eI a0).length ((List.map eI (List.replicate (Int.toNat (w64 (r2.2))) (0 : Int) : List Int)).length) : Nat) : Int)
def slices_Repeat___int_int.f (k : Nat) (a0 : (List Int)) (a1 : Int) : Option (List Int) := if a1 < 0 then (none) else ((math_bits_Mul.f k (IntKind.u64.wrap ((a0.length : Int))) (IntKind.u64.wrap (a1))).bind fun r2 => (slices_Repeat___int_int.e1 k r2).bind fun y5 => if y5 = true then (none) else (if (0 : Int) ≤ (w64 (r2.2)) then (if (w64 (r2.2)) * 8 ≤ 140737488355328 then ((slices_Repeat___int_int.e3 k a0 r2).bind fun y20 => some y20) else none) else none))
set_option maxRecDepth 100000 in
theorem slices_Repeat___int_int.fn (k : Nat) (a0 : (List Int)) (a1 : Int) (r : (List Int)) (H : slices_Repeat___int_int.f k a0 a1 = some r) : Fn Tryd.prog 124 [o1 (.sl 1 (List.map eI a0)), oI a1] [] (o1 (.own 3 (List.map eI r))) [] := by
  unfold slices_Repeat___int_int.f at H
  refine Fn.body (ts := [4]) Tryd.func124 rfl rfl (by decide) (by decide) (Nat.le_of_ble_eq_true rfl) (Nat.le_refl _) ?_
  refine Tri.rn [0, 1] 0 [] [] [] ⟨48, [(0, o1 (.sl 1 (List.map eI a0))), (1, oI a1)], [], 0, []⟩ (by kernel_rfl) trivial ?_
  refine Tri.seq ?_
  refine Tri.rn [0, 1, 10] 0 [] [] [] ⟨48, [(0, o1 (.sl 1 (List.map eI a0))), (1, oI a1), (10, oB (decide (a1 < 0)))], [], 0, []⟩ (by kernel_rfl) trivial ?_
  rcases ite_some H with ⟨h1, H⟩ | ⟨h1, H⟩
  · refine Tri.cond_true (useb (decide_eq_true h1) (by kernel_rfl)) ?_
    cases H
  · refine Tri.cond_false (useb (decide_eq_false h1) (by kernel_rfl)) ?_
    refine Tri.skip ?_
    obtain ⟨r2, h3, H⟩ := bind_some' H
    refine Tri.rn [0, 5, 6] 0 [] [(1, .ov [.sc (.int .i64 (a0.length : Int))]), (5, .call (tp [none, none] [cK .u64 r2.1, cK .u64 r2.2]) [] false)] [_, _, _] ⟨48, [(0, o1 (.sl 1 (List.map eI a0))), (5, o1 (cK .u64 r2.1)), (6, o1 (cK .u64 r2.2))], [], 0, []⟩ (by kernel_rfl) ⟨(ovlen (f := eI) (l := a0)), (math_bits_Mul.fn k (IntKind.u64.wrap ((a0.length : Int))) (IntKind.u64.wrap (a1)) r2 h3), (show (List.all [cK .u64 r2.1, cK .u64 r2.2] PC.flatB) = true from rfl), trivial⟩ ?_
    refine Tri.seq ?_
    obtain ⟨v7, h6, H⟩ := bind_some' H
    refine Tri.join (α := Bool) (fun w => v7 = w) (fun y5 => ⟨48, [(0, o1 (.sl 1 (List.map eI a0))), (6, o1 (cK .u64 r2.2)), (26, oB y5)], [], 0, []⟩) (fun y5 hw => ?_) ?_
    · rw [hw] at H; clear hw
      try dsimp only at H
      rcases iteb_some H with ⟨h8, H⟩ | ⟨h8, H⟩
      · refine Tri.cond_true (useb h8 (by kernel_rfl)) ?_
        cases H
      · refine Tri.cond_false (useb h8 (by kernel_rfl)) ?_
        refine Tri.skip ?_
        obtain ⟨h9, H⟩ := need_some H
        obtain ⟨h10, H⟩ := need_some H
        refine Tri.rn [0, 7] 0 [] [(2, .nz []), (2, .ov [.own 3 (List.map eI (List.replicate (Int.toNat (w64 (r2.2))) (0 : Int) : List Int))])] [_, _, _, _, _] ⟨48, [(0, o1 (.sl 1 (List.map eI a0))), (7, o1 (.own 3 (List.map eI (List.replicate (Int.toNat (w64 (r2.2))) (0 : Int) : List Int))))], [], 0, []⟩ (by kernel_rfl) ⟨(rfl : (w64 (r2.2)) = (w64 (r2.2))), h9, (mkN (b := 8) (by decide) h9 h10), h10, (ovrep (e := 3) (n := Int.toNat (w64 (r2.2))) (z := (0 : Int)) (f := eI)), trivial⟩ ?_
        refine Tri.rn [7, 8] 0 [] [(2, .ovp (.t 7 0) (.own 3 (List.map eI (cpRow (List.replicate (Int.toNat (w64 (r2.2))) (0 : Int) : List Int) a0 0 (Nat.min (List.map eI a0).length ((List.map eI (List.replicate (Int.toNat (w64 (r2.2))) (0 : Int) : List Int)).length))))))] [_, _] ⟨48, [(7, o1 (.own 3 (List.map eI (cpRow (List.replicate (Int.toNat (w64 (r2.2))) (0 : Int) : List Int) a0 0 (Nat.min (List.map eI a0).length ((List.map eI (List.replicate (Int.toNat (w64 (r2.2))) (0 : Int) : List Int)).length)))))), (8, oI ((Nat.min (List.map eI a0).length ((List.map eI (List.replicate (Int.toNat (w64 (r2.2))) (0 : Int) : List Int)).length) : Nat) : Int))], [], 0, []⟩ (by kernel_rfl) ⟨(Nat.le_of_eq (Nat.zero_add (List.map eI (List.replicate (Int.toNat (w64 (r2.2))) (0 : Int) : List Int)).length)), (show PC.own 3 (cpRow (List.map eI (List.replicate (Int.toNat (w64 (r2.2))) (0 : Int) : List Int)) (List.map eI a0) 0 (Nat.min (List.map eI a0).length ((List.map eI (List.replicate (Int.toNat (w64 (r2.2))) (0 : Int) : List Int)).length))) = PC.own 3 (List.map eI (cpRow (List.replicate (Int.toNat (w64 (r2.2))) (0 : Int) : List Int) a0 0 (Nat.min (List.map eI a0).length ((List.map eI (List.replicate (Int.toNat (w64 (r2.2))) (0 : Int) : List Int)).length)))) by simp only [← cpRow_map, List.map_take, List.map_drop]), trivial⟩ ?_
        obtain ⟨v22, h21, H⟩ := bind_some' H
        refine Tri.join (α := (List Int)) (fun w => v22 = w) (fun y20 => ⟨48, [(7, o1 (.own 3 (List.map eI y20)))], [], 0, []⟩) (fun y20 hw => ?_) ?_
        · rw [hw] at H; clear hw
          try dsimp only at H
          refine Tri.rn [4] 0 [] [] [] ⟨48, [(4, o1 (.own 3 (List.map eI y20)))], [], 0, []⟩ (by kernel_rfl) trivial ?_
          refine Tri.ret ?_
          obtain rfl := Option.some.inj H
          exact ⟨.inr rfl, rfl, rfl, Nat.le_refl _, rfl, by simp⟩
        · unfold slices_Repeat___int_int.e3 at h21
          refine Tri.block ?_
          refine Tri.loop k (TriR.ind (α := ((List Int) × Int)) (fun k x => slices_Repeat___int_int.l2 k  x.1 x.2) (fun x => ⟨48, [(7, o1 (.own 3 (List.map eI x.1))), (8, oI x.2)], [], 0, []⟩) (fun _ => rfl) (fun k x h21 IH19 => ?_) k (cpRow (List.replicate (Int.toNat (w64 (r2.2))) (0 : Int) : List Int) a0 0 (Nat.min (List.map eI a0).length ((List.map eI (List.replicate (Int.toNat (w64 (r2.2))) (0 : Int) : List Int)).length)), ((Nat.min (List.map eI a0).length ((List.map eI (List.replicate (Int.toNat (w64 (r2.2))) (0 : Int) : List Int)).length) : Nat) : Int)) h21)
          obtain ⟨z14, z15⟩ := x
          rw [slices_Repeat___int_int.l2.eq_2] at h21
          refine Tri.seq ?_
          refine Tri.rn [7, 8, 37] 0 [] [(2, .ov [.sc (.int .i64 (z14.length : Int))])] [_] ⟨48, [(7, o1 (.own 3 (List.map eI z14))), (8, oI z15), (37, oB (decide (z15 < (z14.length : Int))))], [], 0, []⟩ (by kernel_rfl) ⟨(ovlen (f := eI) (l := z14)), trivial⟩ ?_
          rcases ite_some h21 with ⟨h16, h21⟩ | ⟨h16, h21⟩
          · refine Tri.cond_true (useb (decide_eq_true h16) (by kernel_rfl)) ?_
            refine Tri.skip ?_
            refine Tri.block ?_
            obtain ⟨h17, h21⟩ := need_some h21
            obtain ⟨h18, h21⟩ := need_some h21
            refine Tri.dE hmix [[], [], [], [1, 2], [], [], [4, 5], [1, 2, 3, 4, 5, 6], [0, 1, 2, 3, 4, 5, 6, 7], [0, 1, 2, 3, 4, 5, 6, 7, 8]] [7] [⟨48, [(7, o1 (.own 3 (cpRow (List.map eI z14) (List.take (Int.toNat (z15 - 0)) (List.drop (Int.toNat 0) (List.map eI z14))) (Int.toNat z15) (Nat.min (List.take (Int.toNat (z15 - 0)) (List.drop (Int.toNat 0) (List.map eI z14))).length (Int.toNat (((List.map eI z14).length : Int) - z15)))))), (8, oI z15), (37, oB (decide (z15 < (z14.length : Int))))], [], 0, []⟩] [(38, oI z15), (39, o1 (.al (.t 7 0))), (40, oI z15), (41, o1 (.vw (.t 7 0) (Int.toNat z15) (Int.toNat (((List.map eI z14).length : Int) - z15)) 1)), (42, o1 (.al (.t 7 0))), (43, oI z15), (44, o1 (.vw (.t 7 0) (Int.toNat 0) (Int.toNat (z15 - 0)) 1)), (45, oI ((Nat.min (List.take (Int.toNat (z15 - 0)) (List.drop (Int.toNat 0) (List.map eI z14))).length (Int.toNat (((List.map eI z14).length : Int) - z15)) : Nat) : Int))] [7, 8] 0 [] [] [(8, .ovp (.t 7 0) (.own 3 (List.map eI (cpRow z14 (List.take (Int.toNat (z15 - 0)) (List.drop (Int.toNat 0) z14)) (Int.toNat z15) (Nat.min (List.take (Int.toNat (z15 - 0)) (List.drop (Int.toNat 0) (List.map eI z14))).length (Int.toNat (((List.map eI z14).length : Int) - z15)))))))] [_, _, _, _, _, _, _, _, _, _, _, _, _, _, _, _, _, _, _] ⟨48, [(7, o1 (.own 3 (List.map eI (cpRow z14 (List.take (Int.toNat (z15 - 0)) (List.drop (Int.toNat 0) z14)) (Int.toNat z15) (Nat.min (List.take (Int.toNat (z15 - 0)) (List.drop (Int.toNat 0) (List.map eI z14))).length (Int.toNat (((List.map eI z14).length : Int) - z15))))))), (8, oI (w64 (z15 + ((Nat.min (List.take (Int.toNat (z15 - 0)) (List.drop (Int.toNat 0) (List.map eI z14))).length (Int.toNat (((List.map eI z14).length : Int) - z15)) : Nat) : Int))))], [], 0, []⟩ (by kernel_rfl) ⟨(rfl : ((48, 0, []) : Nat × Nat × List Nat) = ((48, 0, []) : Nat × Nat × List Nat)), (rfl : (oI z15 : PV) = (oI z15 : PV)), (rfl : (oI z15 : PV) = (oI z15 : PV)), (rfl : (o1 (.al (.t 7 0)) : PV) = (o1 (.al (.t 7 0)) : PV)), (rfl : (oI z15 : PV) = (oI z15 : PV)), h17, (lenle (f := eI) (l := z14) h18), (Int.le_refl ((List.map eI z14).length : Int)), (rfl : (o1 (.vw (.t 7 0) (Int.toNat z15) (Int.toNat (((List.map eI z14).length : Int) - z15)) 1) : PV) = (o1 (.vw (.t 7 0) (Int.toNat z15) (Int.toNat (((List.map eI z14).length : Int) - z15)) 1) : PV)), (rfl : (o1 (.al (.t 7 0)) : PV) = (o1 (.al (.t 7 0)) : PV)), (rfl : (oI z15 : PV) = (oI z15 : PV)), (show (0 : Int) ≤ 0 by decide), h17, (lenle (f := eI) (l := z14) h18), (rfl : (o1 (.vw (.t 7 0) (Int.toNat 0) (Int.toNat (z15 - 0)) 1) : PV) = (o1 (.vw (.t 7 0) (Int.toNat 0) (Int.toNat (z15 - 0)) 1) : PV)), (vwle (f := eI) (l := z14) (show (0 : Int) ≤ 0 by decide) h17 (lenle (f := eI) (l := z14) h18)), (vwle (f := eI) (l := z14) h17 (lenle (f := eI) (l := z14) h18) (Int.le_refl ((List.map eI z14).length : Int))), (rfl : (([some (oI ((Nat.min (List.take (Int.toNat (z15 - 0)) (List.drop (Int.toNat 0) (List.map eI z14))).length (Int.toNat (((List.map eI z14).length : Int) - z15)) : Nat) : Int)), some (o1 (.al (.t 7 0))), some (oI z15), some (o1 (.vw (.t 7 0) (Int.toNat z15) (Int.toNat (((List.map eI z14).length : Int) - z15)) 1)), some (o1 (.al (.t 7 0))), some (oI z15), some (o1 (.vw (.t 7 0) (Int.toNat 0) (Int.toNat (z15 - 0)) 1)), some (o1 (.own 3 (cpRow (List.map eI z14) (List.take (Int.toNat (z15 - 0)) (List.drop (Int.toNat 0) (List.map eI z14))) (Int.toNat z15) (Nat.min (List.take (Int.toNat (z15 - 0)) (List.drop (Int.toNat 0) (List.map eI z14))).length (Int.toNat (((List.map eI z14).length : Int) - z15)))))), some (oI z15), some (oB (decide (z15 < (z14.length : Int))))], [], 48, 0, []) : List (Option PV) × List (List PC) × Nat × Nat × List Nat) = (([some (oI ((Nat.min (List.take (Int.toNat (z15 - 0)) (List.drop (Int.toNat 0) (List.map eI z14))).length (Int.toNat (((List.map eI z14).length : Int) - z15)) : Nat) : Int)), some (o1 (.al (.t 7 0))), some (oI z15), some (o1 (.vw (.t 7 0) (Int.toNat z15) (Int.toNat (((List.map eI z14).length : Int) - z15)) 1)), some (o1 (.al (.t 7 0))), some (oI z15), some (o1 (.vw (.t 7 0) (Int.toNat 0) (Int.toNat (z15 - 0)) 1)), some (o1 (.own 3 (cpRow (List.map eI z14) (List.take (Int.toNat (z15 - 0)) (List.drop (Int.toNat 0) (List.map eI z14))) (Int.toNat z15) (Nat.min (List.take (Int.toNat (z15 - 0)) (List.drop (Int.toNat 0) (List.map eI z14))).length (Int.toNat (((List.map eI z14).length : Int) - z15)))))), some (oI z15), some (oB (decide (z15 < (z14.length : Int))))], [], 48, 0, []) : List (Option PV) × List (List PC) × Nat × Nat × List Nat)), (show PC.own 3 (cpRow (List.map eI z14) (List.take (Int.toNat (z15 - 0)) (List.drop (Int.toNat 0) (List.map eI z14))) (Int.toNat z15) (Nat.min (List.take (Int.toNat (z15 - 0)) (List.drop (Int.toNat 0) (List.map eI z14))).length (Int.toNat (((List.map eI z14).length : Int) - z15)))) = PC.own 3 (List.map eI (cpRow z14 (List.take (Int.toNat (z15 - 0)) (List.drop (Int.toNat 0) z14)) (Int.toNat z15) (Nat.min (List.take (Int.toNat (z15 - 0)) (List.drop (Int.toNat 0) (List.map eI z14))).length (Int.toNat (((List.map eI z14).length : Int) - z15))))) by simp only [← cpRow_map, List.map_take, List.map_drop]), trivial⟩ ?_
            exact IH19 _ (cpRow z14 (List.take (Int.toNat (z15 - 0)) (List.drop (Int.toNat 0) z14)) (Int.toNat z15) (Nat.min (List.take (Int.toNat (z15 - 0)) (List.drop (Int.toNat 0) (List.map eI z14))).length (Int.toNat (((List.map eI z14).length : Int) - z15))), w64 (z15 + ((Nat.min (List.take (Int.toNat (z15 - 0)) (List.drop (Int.toNat 0) (List.map eI z14))).length (Int.toNat (((List.map eI z14).length : Int) - z15)) : Nat) : Int))) (Nat.le_refl _) h21
          · refine Tri.cond_false (useb (decide_eq_false h16) (by kernel_rfl)) ?_
            refine Tri.fix [7] 0 [] ⟨48, [(7, o1 (.own 3 (List.map eI z14)))], [], 0, []⟩ (by kernel_rfl) ?_
            refine Tri.exit ?_
            repeat (with_reducible refine Ex.exit ?_)
            refine Bk.here ?_
            exact ⟨z14, (Option.some.inj h21).symm, rfl⟩
    · unfold slices_Repeat___int_int.e1 at h6
      rcases ite_some h6 with ⟨h4, h6⟩ | ⟨h4, h6⟩
      · refine Tri.r1 [0, 6, 26] 0 [] [(1, .ov [.sc (.bool true)])] [_] ⟨48, [(0, o1 (.sl 1 (List.map eI a0))), (6, o1 (cK .u64 r2.2)), (26, oB true)], [], 0, []⟩ (by kernel_rfl) ⟨(ovb (decide_eq_true h4)), trivial⟩ ?_
        exact ⟨true, (Option.some.inj h6).symm, rfl⟩
      · refine Tri.r1 [0, 6, 26] 0 [] [(1, .ov [.sc (.bool false)])] [_] ⟨48, [(0, o1 (.sl 1 (List.map eI a0))), (6, o1 (cK .u64 r2.2)), (26, oB (decide ((9223372036854775807 : Int) < r2.2)))], [], 0, []⟩ (by kernel_rfl) ⟨(ovb (decide_eq_false h4)), trivial⟩ ?_
        exact ⟨(decide ((9223372036854775807 : Int) < r2.2)), (Option.some.inj h6).symm, rfl⟩
/-! impl_Ins__stacks: function 148 -/
def impl_Ins__stacks.e1 (k : Nat) (a0 : SIns) : Option Bool := if a0.f0 = 1 then (some (decide (a0.f0 = 1))) else (if a0.f0 = 2 then (some (decide (a0.f0 = 2))) else (some (decide (a0.f0 = 3))))
def impl_Ins__stacks.e2 (k : Nat) (a0 : SIns) : Option Bool := if a0.f0 = 4 then (some (decide (a0.f0 = 4))) else (if a0.f0 = 8 then (some (decide (a0.f0 = 8))) else (if a0.f0 = 9 then (some (decide (a0.f0 = 9))) else (some (decide (a0.f0 = 10)))))
def impl_Ins__stacks.e3 (k : Nat) (a0 : SIns) : Option Bool := if a0.f0 = 6 then (some (decide (a0.f0 = 6))) else (some (decide (a0.f0 = 7)))
def impl_Ins__stacks.e4 (k : Nat) (a0 : SIns) : Option Bool := if a0.f0 = 12 then (some (decide (a0.f0 = 12))) else (if a0.f0 = 15 then (some (decide (a0.f0 = 15))) else (some (decide (a0.f0 = 16))))
def impl_Ins__stacks.f (k : Nat) (a0 : SIns) : Option (Int × Int) := (impl_Ins__stacks.e1 k a0).bind fun y3 => if y3 = true then (some (0, 1)) else ((impl_Ins__stacks.e2 k a0).bind fun y10 => if y10 = true then (some (1, 1)) else (if a0.f0 = 5 then (some (2, 0)) else ((impl_Ins__stacks.e3 k a0).bind fun y16 => if y16 = true then (some (2, 1)) else ((impl_Ins__stacks.e4 k a0).bind fun y22 => if y22 = true then (some (1, 0)) else (if a0.f0 = 13 then (some (a0.f1, a0.f2)) else (if a0.f0 = 14 then (some (a0.f1, 0)) else (some (0, 0))))))))
set_option maxRecDepth 100000 in
theorem impl_Ins__stacks.fn (k : Nat) (a0 : SIns) (r : (Int × Int)) (H : impl_Ins__stacks.f k a0 = some r) : Fn Tryd.prog 148 [ag (eSIns a0)] [] (tp [none, none] [cI r.1, cI r.2]) [] := by
  unfold impl_Ins__stacks.f at H
  refine Fn.body (ts := [2, 3]) Tryd.func148 rfl rfl (by decide) (by decide) (Nat.le_of_ble_eq_true rfl) (Nat.le_refl _) ?_
  refine Tri.rn [1] 1 [] [] [] ⟨34, [(1, o1 (.ref 0 0))], [eSIns a0], 0, []⟩ (by kernel_rfl) trivial ?_
  refine Tri.seq ?_
  refine Tri.rn [1, 5] 1 [] [] [] ⟨34, [(1, o1 (.ref 0 0)), (5, oI a0.f0)], [eSIns a0], 0, []⟩ (by kernel_rfl) trivial ?_
  refine Tri.block ?_
  obtain ⟨v5, h4, H⟩ := bind_some' H
  refine Tri.join (α := Bool) (fun w => v5 = w) (fun y3 => ⟨34, [(1, o1 (.ref 0 0)), (5, oI a0.f0), (6, oB y3)], [eSIns a0], 0, []⟩) (fun y3 hw => ?_) ?_
  · rw [hw] at H; clear hw
    try dsimp only at H
    rcases iteb_some H with ⟨h6, H⟩ | ⟨h6, H⟩
    · refine Tri.cond_true (useb h6 (by kernel_rfl)) ?_
      refine Tri.rn [2, 3] 0 [] [] [] ⟨34, [(2, oI 0), (3, oI 1)], [], 0, []⟩ (by kernel_rfl) trivial ?_
      refine Tri.ret ?_
      obtain rfl := Option.some.inj H
      exact ⟨.inr rfl, rfl, rfl, Nat.le_refl _, rfl, by simp⟩
    · refine Tri.cond_false (useb h6 (by kernel_rfl)) ?_
      obtain ⟨v12, h11, H⟩ := bind_some' H
      refine Tri.join (α := Bool) (fun w => v12 = w) (fun y10 => ⟨34, [(1, o1 (.ref 0 0)), (5, oI a0.f0), (10, oB y10)], [eSIns a0], 0, []⟩) (fun y10 hw => ?_) ?_
      · rw [hw] at H; clear hw
        try dsimp only at H
        rcases iteb_some H with ⟨h13, H⟩ | ⟨h13, H⟩
        · refine Tri.cond_true (useb h13 (by kernel_rfl)) ?_
          refine Tri.rn [2, 3] 0 [] [] [] ⟨34, [(2, oI 1), (3, oI 1)], [], 0, []⟩ (by kernel_rfl) trivial ?_
          refine Tri.ret ?_
          obtain rfl := Option.some.inj H
          exact ⟨.inr rfl, rfl, rfl, Nat.le_refl _, rfl, by simp⟩
        · refine Tri.cond_false (useb h13 (by kernel_rfl)) ?_
          refine Tri.rn [1, 5, 15] 1 [] [] [] ⟨34, [(1, o1 (.ref 0 0)), (5, oI a0.f0), (15, oB (decide (a0.f0 = 5)))], [eSIns a0], 0, []⟩ (by kernel_rfl) trivial ?_
          rcases ite_some H with ⟨h14, H⟩ | ⟨h14, H⟩
          · refine Tri.cond_true (useb (decide_eq_true h14) (by kernel_rfl)) ?_
            refine Tri.rn [2, 3] 0 [] [] [] ⟨34, [(2, oI 2), (3, oI 0)], [], 0, []⟩ (by kernel_rfl) trivial ?_
            refine Tri.ret ?_
            obtain rfl := Option.some.inj H
            exact ⟨.inr rfl, rfl, rfl, Nat.le_refl _, rfl, by simp⟩
          · refine Tri.cond_false (useb (decide_eq_false h14) (by kernel_rfl)) ?_
            obtain ⟨v18, h17, H⟩ := bind_some' H
            refine Tri.join (α := Bool) (fun w => v18 = w) (fun y16 => ⟨34, [(1, o1 (.ref 0 0)), (5, oI a0.f0), (17, oB y16)], [eSIns a0], 0, []⟩) (fun y16 hw => ?_) ?_
            · rw [hw] at H; clear hw
              try dsimp only at H
              rcases iteb_some H with ⟨h19, H⟩ | ⟨h19, H⟩
              · refine Tri.cond_true (useb h19 (by kernel_rfl)) ?_
                refine Tri.rn [2, 3] 0 [] [] [] ⟨34, [(2, oI 2), (3, oI 1)], [], 0, []⟩ (by kernel_rfl) trivial ?_
                refine Tri.ret ?_
                obtain rfl := Option.some.inj H
                exact ⟨.inr rfl, rfl, rfl, Nat.le_refl _, rfl, by simp⟩
              · refine Tri.cond_false (useb h19 (by kernel_rfl)) ?_
                obtain ⟨v24, h23, H⟩ := bind_some' H
                refine Tri.join (α := Bool) (fun w => v24 = w) (fun y22 => ⟨34, [(1, o1 (.ref 0 0)), (5, oI a0.f0), (20, oB y22)], [eSIns a0], 0, []⟩) (fun y22 hw => ?_) ?_
                · rw [hw] at H; clear hw
                  try dsimp only at H
                  rcases iteb_some H with ⟨h25, H⟩ | ⟨h25, H⟩
                  · refine Tri.cond_true (useb h25 (by kernel_rfl)) ?_
                    refine Tri.rn [2, 3] 0 [] [] [] ⟨34, [(2, oI 1), (3, oI 0)], [], 0, []⟩ (by kernel_rfl) trivial ?_
                    refine Tri.ret ?_
                    obtain rfl := Option.some.inj H
                    exact ⟨.inr rfl, rfl, rfl, Nat.le_refl _, rfl, by simp⟩
                  · refine Tri.cond_false (useb h25 (by kernel_rfl)) ?_
                    refine Tri.rn [1, 5, 24] 1 [] [] [] ⟨34, [(1, o1 (.ref 0 0)), (5, oI a0.f0), (24, oB (decide (a0.f0 = 13)))], [eSIns a0], 0, []⟩ (by kernel_rfl) trivial ?_
                    rcases ite_some H with ⟨h26, H⟩ | ⟨h26, H⟩
                    · refine Tri.cond_true (useb (decide_eq_true h26) (by kernel_rfl)) ?_
                      refine Tri.dn hmix 5 [[], [0], [], [2], [0, 1], [0, 1, 2, 3, 4]] [2, 3] 0 [] [] [] ⟨34, [(2, oI a0.f1), (3, oI a0.f2)], [], 0, []⟩ (by kernel_rfl) trivial ?_
                      refine Tri.ret ?_
                      obtain rfl := Option.some.inj H
                      exact ⟨.inr rfl, rfl, rfl, Nat.le_refl _, rfl, by simp⟩
                    · refine Tri.cond_false (useb (decide_eq_false h26) (by kernel_rfl)) ?_
                      refine Tri.rn [1, 30] 1 [] [] [] ⟨34, [(1, o1 (.ref 0 0)), (30, oB (decide (a0.f0 = 14)))], [eSIns a0], 0, []⟩ (by kernel_rfl) trivial ?_
                      rcases ite_some H with ⟨h27, H⟩ | ⟨h27, H⟩
                      · refine Tri.cond_true (useb (decide_eq_true h27) (by kernel_rfl)) ?_
                        refine Tri.rn [2, 3] 0 [] [] [] ⟨34, [(2, oI a0.f1), (3, oI 0)], [], 0, []⟩ (by kernel_rfl) trivial ?_
                        refine Tri.ret ?_
                        obtain rfl := Option.some.inj H
                        exact ⟨.inr rfl, rfl, rfl, Nat.le_refl _, rfl, by simp⟩
                      · refine Tri.cond_false (useb (decide_eq_false h27) (by kernel_rfl)) ?_
                        refine Tri.skip ?_
                        refine Tri.rn [2, 3] 0 [] [] [] ⟨34, [(2, oI 0), (3, oI 0)], [], 0, []⟩ (by kernel_rfl) trivial ?_
                        refine Tri.ret ?_
                        obtain rfl := Option.some.inj H
                        exact ⟨.inr rfl, rfl, rfl, Nat.le_refl _, rfl, by simp⟩
                · unfold impl_Ins__stacks.e4 at h23
                  refine Tri.rn [1, 5, 20] 1 [] [] [] ⟨34, [(1, o1 (.ref 0 0)), (5, oI a0.f0), (20, oB (decide (a0.f0 = 12)))], [eSIns a0], 0, []⟩ (by kernel_rfl) trivial ?_
                  rcases ite_some h23 with ⟨h20, h23⟩ | ⟨h20, h23⟩
                  · refine Tri.cond_true (useb (decide_eq_true h20) (by kernel_rfl)) ?_
                    refine Tri.skip ?_
                    exact ⟨(decide (a0.f0 = 12)), (Option.some.inj h23).symm, rfl⟩
                  · refine Tri.cond_false (useb (decide_eq_false h20) (by kernel_rfl)) ?_
                    refine Tri.rn [1, 5, 20] 1 [] [] [] ⟨34, [(1, o1 (.ref 0 0)), (5, oI a0.f0), (20, oB (decide (a0.f0 = 15)))], [eSIns a0], 0, []⟩ (by kernel_rfl) trivial ?_
                    rcases ite_some h23 with ⟨h21, h23⟩ | ⟨h21, h23⟩
                    · refine Tri.cond_true (useb (decide_eq_true h21) (by kernel_rfl)) ?_
                      refine Tri.skip ?_
                      exact ⟨(decide (a0.f0 = 15)), (Option.some.inj h23).symm, rfl⟩
                    · refine Tri.cond_false (useb (decide_eq_false h21) (by kernel_rfl)) ?_
                      refine Tri.r1 [1, 5, 20] 1 [] [] [] ⟨34, [(1, o1 (.ref 0 0)), (5, oI a0.f0), (20, oB (decide (a0.f0 = 16)))], [eSIns a0], 0, []⟩ (by kernel_rfl) trivial ?_
                      exact ⟨(decide (a0.f0 = 16)), (Option.some.inj h23).symm, rfl⟩
            · unfold impl_Ins__stacks.e3 at h17
              refine Tri.rn [1, 5, 17] 1 [] [] [] ⟨34, [(1, o1 (.ref 0 0)), (5, oI a0.f0), (17, oB (decide (a0.f0 = 6)))], [eSIns a0], 0, []⟩ (by kernel_rfl) trivial ?_
              rcases ite_some h17 with ⟨h15, h17⟩ | ⟨h15, h17⟩
              · refine Tri.cond_true (useb (decide_eq_true h15) (by kernel_rfl)) ?_
                refine Tri.skip ?_
                exact ⟨(decide (a0.f0 = 6)), (Option.some.inj h17).symm, rfl⟩
              · refine Tri.cond_false (useb (decide_eq_false h15) (by kernel_rfl)) ?_
                refine Tri.r1 [1, 5, 17] 1 [] [] [] ⟨34, [(1, o1 (.ref 0 0)), (5, oI a0.f0), (17, oB (decide (a0.f0 = 7)))], [eSIns a0], 0, []⟩ (by kernel_rfl) trivial ?_
                exact ⟨(decide (a0.f0 = 7)), (Option.some.inj h17).symm, rfl⟩
      · unfold impl_Ins__stacks.e2 at h11
        refine Tri.rn [1, 5, 10] 1 [] [] [] ⟨34, [(1, o1 (.ref 0 0)), (5, oI a0.f0), (10, oB (decide (a0.f0 = 4)))], [eSIns a0], 0, []⟩ (by kernel_rfl) trivial ?_
        rcases ite_some h11 with ⟨h7, h11⟩ | ⟨h7, h11⟩
        · refine Tri.cond_true (useb (decide_eq_true h7) (by kernel_rfl)) ?_
          refine Tri.skip ?_
          exact ⟨(decide (a0.f0 = 4)), (Option.some.inj h11).symm, rfl⟩
        · refine Tri.cond_false (useb (decide_eq_false h7) (by kernel_rfl)) ?_
          refine Tri.rn [1, 5, 10] 1 [] [] [] ⟨34, [(1, o1 (.ref 0 0)), (5, oI a0.f0), (10, oB (decide (a0.f0 = 8)))], [eSIns a0], 0, []⟩ (by kernel_rfl) trivial ?_
          rcases ite_some h11 with ⟨h8, h11⟩ | ⟨h8, h11⟩
          · refine Tri.cond_true (useb (decide_eq_true h8) (by kernel_rfl)) ?_
            refine Tri.skip ?_
            exact ⟨(decide (a0.f0 = 8)), (Option.some.inj h11).symm, rfl⟩
          · refine Tri.cond_false (useb (decide_eq_false h8) (by kernel_rfl)) ?_
            refine Tri.rn [1, 5, 10] 1 [] [] [] ⟨34, [(1, o1 (.ref 0 0)), (5, oI a0.f0), (10, oB (decide (a0.f0 = 9)))], [eSIns a0], 0, []⟩ (by kernel_rfl) trivial ?_
            rcases ite_some h11 with ⟨h9, h11⟩ | ⟨h9, h11⟩
            · refine Tri.cond_true (useb (decide_eq_true h9) (by kernel_rfl)) ?_
              refine Tri.skip ?_
              exact ⟨(decide (a0.f0 = 9)), (Option.some.inj h11).symm, rfl⟩
            · refine Tri.cond_false (useb (decide_eq_false h9) (by kernel_rfl)) ?_
              refine Tri.r1 [1, 5, 10] 1 [] [] [] ⟨34, [(1, o1 (.ref 0 0)), (5, oI a0.f0), (10, oB (decide (a0.f0 = 10)))], [eSIns a0], 0, []⟩ (by kernel_rfl) trivial ?_
              exact ⟨(decide (a0.f0 = 10)), (Option.some.inj h11).symm, rfl⟩
  · unfold impl_Ins__stacks.e1 at h4
    refine Tri.rn [1, 5, 6] 1 [] [] [] ⟨34, [(1, o1 (.ref 0 0)), (5, oI a0.f0), (6, oB (decide (a0.f0 = 1)))], [eSIns a0], 0, []⟩ (by kernel_rfl) trivial ?_
    rcases ite_some h4 with ⟨h1, h4⟩ | ⟨h1, h4⟩
    · refine Tri.cond_true (useb (decide_eq_true h1) (by kernel_rfl)) ?_
      refine Tri.skip ?_
      exact ⟨(decide (a0.f0 = 1)), (Option.some.inj h4).symm, rfl⟩
    · refine Tri.cond_false (useb (decide_eq_false h1) (by kernel_rfl)) ?_
      refine Tri.rn [1, 5, 6] 1 [] [] [] ⟨34, [(1, o1 (.ref 0 0)), (5, oI a0.f0), (6, oB (decide (a0.f0 = 2)))], [eSIns a0], 0, []⟩ (by kernel_rfl) trivial ?_
      rcases ite_some h4 with ⟨h2, h4⟩ | ⟨h2, h4⟩
      · refine Tri.cond_true (useb (decide_eq_true h2) (by kernel_rfl)) ?_
        refine Tri.skip ?_
        exact ⟨(decide (a0.f0 = 2)), (Option.some.inj h4).symm, rfl⟩
      · refine Tri.cond_false (useb (decide_eq_false h2) (by kernel_rfl)) ?_
        refine Tri.r1 [1, 5, 6] 1 [] [] [] ⟨34, [(1, o1 (.ref 0 0)), (5, oI a0.f0), (6, oB (decide (a0.f0 = 3)))], [eSIns a0], 0, []⟩ (by kernel_rfl) trivial ?_
        exact ⟨(decide (a0.f0 = 3)), (Option.some.inj h4).symm, rfl⟩
/-! impl_Ins__follows: function 149 -/
def impl_Ins__follows.e1 (k : Nat) (a0 : SIns) : Option Bool := if a0.f0 = 14 then (some (decide (a0.f0 = 14))) else (some (decide (a0.f0 = 17)))
def impl_Ins__follows.f (k : Nat) (a0 : SIns) (a1 : Int) : Option (List Int) := if a0.f0 = 11 then (some ([a0.f1] : List Int)) else (if a0.f0 = 12 then (some ([a0.f1, w64 (a1 + 1)] : List Int)) else ((impl_Ins__follows.e1 k a0).bind fun y4 => if y4 = true then (some ([] : List Int)) else (some ([w64 (a1 + 1)] : List Int))))
set_option maxRecDepth 100000 in
theorem impl_Ins__follows.fn (k : Nat) (a0 : SIns) (a1 : Int) (r : (List Int)) (H : impl_Ins__follows.f k a0 a1 = some r) : Fn Tryd.prog 149 [ag (eSIns a0), oI a1] [] (o1 (.own 3 (List.map eI r))) [] := by
  unfold impl_Ins__follows.f at H
  refine Fn.body (ts := [4]) Tryd.func149 rfl rfl (by decide) (by decide) (Nat.le_of_ble_eq_true rfl) (Nat.le_refl _) ?_
  refine Tri.rn [1, 2] 1 [] [] [] ⟨25, [(1, oI a1), (2, o1 (.ref 0 0))], [eSIns a0], 0, []⟩ (by kernel_rfl) trivial ?_
  refine Tri.seq ?_
  refine Tri.rn [1, 2, 6] 1 [] [] [] ⟨25, [(1, oI a1), (2, o1 (.ref 0 0)), (6, oI a0.f0)], [eSIns a0], 0, []⟩ (by kernel_rfl) trivial ?_
  refine Tri.block ?_
  refine Tri.rn [1, 2, 6, 7] 1 [] [] [] ⟨25, [(1, oI a1), (2, o1 (.ref 0 0)), (6, oI a0.f0), (7, oB (decide (a0.f0 = 11)))], [eSIns a0], 0, []⟩ (by kernel_rfl) trivial ?_
  rcases ite_some H with ⟨h1, H⟩ | ⟨h1, H⟩
  · refine Tri.cond_true (useb (decide_eq_true h1) (by kernel_rfl)) ?_
    refine Tri.rn [4] 0 [] [] [] ⟨25, [(4, o1 (.own 3 (List.map eI ([a0.f1] : List Int))))], [], 0, []⟩ (by kernel_rfl) trivial ?_
    refine Tri.ret ?_
    obtain rfl := Option.some.inj H
    exact ⟨.inr rfl, rfl, rfl, Nat.le_refl _, rfl, by simp⟩
  · refine Tri.cond_false (useb (decide_eq_false h1) (by kernel_rfl)) ?_
    refine Tri.rn [1, 2, 6, 12] 1 [] [] [] ⟨25, [(1, oI a1), (2, o1 (.ref 0 0)), (6, oI a0.f0), (12, oB (decide (a0.f0 = 12)))], [eSIns a0], 0, []⟩ (by kernel_rfl) trivial ?_
    rcases ite_some H with ⟨h2, H⟩ | ⟨h2, H⟩
    · refine Tri.cond_true (useb (decide_eq_true h2) (by kernel_rfl)) ?_
      refine Tri.rn [4] 0 [] [] [] ⟨25, [(4, o1 (.own 3 (List.map eI ([a0.f1, w64 (a1 + 1)] : List Int))))], [], 0, []⟩ (by kernel_rfl) trivial ?_
      refine Tri.ret ?_
      obtain rfl := Option.some.inj H
      exact ⟨.inr rfl, rfl, rfl, Nat.le_refl _, rfl, by simp⟩
    · refine Tri.cond_false (useb (decide_eq_false h2) (by kernel_rfl)) ?_
      obtain ⟨v6, h5, H⟩ := bind_some' H
      refine Tri.join (α := Bool) (fun w => v6 = w) (fun y4 => ⟨25, [(1, oI a1), (19, oB y4)], [], 0, []⟩) (fun y4 hw => ?_) ?_
      · rw [hw] at H; clear hw
        try dsimp only at H
        rcases iteb_some H with ⟨h7, H⟩ | ⟨h7, H⟩
        · refine Tri.cond_true (useb h7 (by kernel_rfl)) ?_
          refine Tri.rn [4] 0 [] [] [] ⟨25, [(4, o1 .nl)], [], 0, []⟩ (by kernel_rfl) trivial ?_
          refine Tri.fix [4] 0 [.own (.t 4 0) 3] ⟨25, [(4, o1 (.own 3 (List.map eI ([] : List Int))))], [], 0, []⟩ (by kernel_rfl) ?_
          refine Tri.ret ?_
          obtain rfl := Option.some.inj H
          exact ⟨.inr rfl, rfl, rfl, Nat.le_refl _, rfl, by simp⟩
        · refine Tri.cond_false (useb h7 (by kernel_rfl)) ?_
          refine Tri.skip ?_
          refine Tri.rn [4] 0 [] [] [] ⟨25, [(4, o1 (.own 3 (List.map eI ([w64 (a1 + 1)] : List Int))))], [], 0, []⟩ (by kernel_rfl) trivial ?_
          refine Tri.ret ?_
          obtain rfl := Option.some.inj H
          exact ⟨.inr rfl, rfl, rfl, Nat.le_refl _, rfl, by simp⟩
      · unfold impl_Ins__follows.e1 at h5
        refine Tri.rn [1, 6, 19] 0 [] [] [] ⟨25, [(1, oI a1), (6, oI a0.f0), (19, oB (decide (a0.f0 = 14)))], [], 0, []⟩ (by kernel_rfl) trivial ?_
        rcases ite_some h5 with ⟨h3, h5⟩ | ⟨h3, h5⟩
        · refine Tri.cond_true (useb (decide_eq_true h3) (by kernel_rfl)) ?_
          refine Tri.fix [1, 19] 0 [] ⟨25, [(1, oI a1), (19, oB (decide (a0.f0 = 14)))], [], 0, []⟩ (by kernel_rfl) ?_
          refine Tri.skip ?_
          exact ⟨(decide (a0.f0 = 14)), (Option.some.inj h5).symm, rfl⟩
        · refine Tri.cond_false (useb (decide_eq_false h3) (by kernel_rfl)) ?_
          refine Tri.r1 [1, 19] 0 [] [] [] ⟨25, [(1, oI a1), (19, oB (decide (a0.f0 = 17)))], [], 0, []⟩ (by kernel_rfl) trivial ?_
          exact ⟨(decide (a0.f0 = 17)), (Option.some.inj h5).symm, rfl⟩
/-! impl_Code__reach_1: function 125 -/
def impl_Code__reach_1.e1 (k : Nat) (x1 : SIns) (r3 : (Int × Int)) (x5 : Int) : Option Bool := if x1.f0 = 14 then (some (decide ((0 : Int) < (w64 ((w64 (x5 - r3.1)) + r3.2))))) else (some false)
def impl_Code__reach_1.e2 (k : Nat) (a0 : SCode) (r3 : (Int × Int)) (x5 : Int) (r14 : (List Int)) (z28 : (List Int)) (z29 : Bool) (z30 : Int) : Option ((Bool × Int × (List Int)) ⊕ ((List Int) × Bool)) := (at? r14 z30).bind fun x32 => if x32 = (a0.f4.length : Int) then (some (.inl (false, 10, z28))) else ((at? z28 x32).bind fun x35 => if x35 = (-1) then (some (.inr (z28.set (Int.toNat x32) (w64 ((w64 (x5 - r3.1)) + r3.2)), true))) else (if x35 = (w64 ((w64 (x5 - r3.1)) + r3.2)) then (some (.inr (z28, z29))) else (some (.inl (false, 8, z28)))))
def impl_Code__reach_1.l3 : Nat → SCode → (Int × Int) → Int → (List Int) → (List Int) → Bool → Int → Option ((Bool × Int × (List Int)) ⊕ ((List Int) × Bool))
  | 0, _, _, _, _, _, _, _ => none
  | k + 1, a0, r3, x5, r14, z28, z29, z30 => if z30 < (r14.length : Int) then ((impl_Code__reach_1.e2 k a0 r3 x5 r14 z28 z29 z30).bind fun v => match v with | .inl r => some (.inl r) | .inr (y39, y40) => impl_Code__reach_1.l3 k a0 r3 x5 r14 y39 y40 (w64 (z30 + 1))) else (some (.inr (z28, z29)))
def impl_Code__reach_1.e4 (k : Nat) (a0 : SCode) (a1_1 : (List Int)) (a2 : Int) (x1 : SIns) (r3 : (Int × Int)) (x5 : Int) : Option ((Bool × Int × (List Int)) ⊕ ((List Int) × Bool)) := (impl_Ins__follows.f k x1 a2).bind fun r14 => impl_Code__reach_1.l3 k a0 r3 x5 r14 a1_1 false 0
def impl_Code__reach_1.f (k : Nat) (a0 : SCode) (a1_1 : (List Int)) (a2 : Int) : Option (Bool × Int × (List Int)) := (at? a0.f4 a2).bind fun x1 => (impl_Ins__stacks.f k x1).bind fun r3 => (at? a1_1 a2).bind fun x5 => if (w64 (x5 - r3.1)) < 0 then (some (false, 11, a1_1)) else (if (60 : Int) < (w64 ((w64 (x5 - r3.1)) + r3.2)) then (some (false, 14, a1_1)) else ((impl_Code__reach_1.e1 k x1 r3 x5).bind fun y10 => if y10 = true then (some (false, 8, a1_1)) else ((impl_Code__reach_1.e4 k a0 a1_1 a2 x1 r3 x5).bind fun v => match v with | .inl r => some r | .inr (y44, y45) => some (y45, 0, y44))))
set_option maxRecDepth 100000 in
theorem impl_Code__reach_1.fn (k : Nat) (a0 : SCode) (a1_1 : (List Int)) (a2 : Int) (r : (Bool × Int × (List Int))) (H : impl_Code__reach_1.f k a0 a1_1 a2 = some r) : FnG Tryd.prog 125 [ag (eSCode a0), o1 (.own 3 (List.map eI a1_1)), oI a2] [1] [] (tp [none, none] [cB r.1, cI r.2.1]) [.own 3 (List.map eI r.2.2)] [] := by
  unfold impl_Code__reach_1.f at H
  refine FnG.body (ts := [6, 7]) Tryd.func125 rfl rfl (by decide) (by decide) (Nat.le_of_ble_eq_true rfl) rfl (Nat.le_of_ble_eq_true rfl) ?_
  refine Tri.rn [1, 2, 3] 1 [] [] [] ⟨80, [(1, o1 (.own 3 (List.map eI a1_1))), (2, oI a2), (3, o1 (.ref 0 0))], [eSCode a0], 0, [1]⟩ (by kernel_rfl) trivial ?_
  obtain ⟨x1, h2, H⟩ := bind_some' H
  refine Tri.rn [1, 2, 3, 8] 2 [] [(3, .el (eSIns x1))] [_, _] ⟨80, [(1, o1 (.own 3 (List.map eI a1_1))), (2, oI a2), (3, o1 (.ref 0 0)), (8, o1 (.ref 1 0))], [eSCode a0, eSIns x1], 0, [1]⟩ (by kernel_rfl) ⟨(at?_0 h2), (at?_map (f := eSIns) h2), trivial⟩ ?_
  obtain ⟨r3, h4, H⟩ := bind_some' H
  refine Tri.rn [1, 2, 3, 8, 9, 10] 2 [] [(1, .call (tp [none, none] [cI r3.1, cI r3.2]) [] false)] [_, _] ⟨80, [(1, o1 (.own 3 (List.map eI a1_1))), (2, oI a2), (3, o1 (.ref 0 0)), (8, o1 (.ref 1 0)), (9, oI r3.1), (10, oI r3.2)], [eSCode a0, eSIns x1], 0, [1]⟩ (by kernel_rfl) ⟨(impl_Ins__stacks.fn k x1 r3 h4), (show (List.all [cI r3.1, cI r3.2] PC.flatB) = true from rfl), trivial⟩ ?_
  obtain ⟨x5, h6, H⟩ := bind_some' H
  refine Tri.rn [1, 2, 3, 8, 10, 11] 2 [] [(2, .el (eI x5)), (3, .el (eI x5))] [_, _, _] ⟨80, [(1, o1 (.own 3 (List.map eI a1_1))), (2, oI a2), (3, o1 (.ref 0 0)), (8, o1 (.ref 1 0)), (10, oI r3.2), (11, oI (w64 (x5 - r3.1)))], [eSCode a0, eSIns x1], 0, [1]⟩ (by kernel_rfl) ⟨(at?_0 h6), (at?_map (f := eI) h6), (at?_map (f := eI) h6), trivial⟩ ?_
  refine Tri.seq ?_
  refine Tri.rn [1, 2, 3, 8, 10, 11, 32] 2 [] [] [] ⟨80, [(1, o1 (.own 3 (List.map eI a1_1))), (2, oI a2), (3, o1 (.ref 0 0)), (8, o1 (.ref 1 0)), (10, oI r3.2), (11, oI (w64 (x5 - r3.1))), (32, oB (decide ((w64 (x5 - r3.1)) < 0)))], [eSCode a0, eSIns x1], 0, [1]⟩ (by kernel_rfl) trivial ?_
  rcases ite_some H with ⟨h7, H⟩ | ⟨h7, H⟩
  · refine Tri.cond_true (useb (decide_eq_true h7) (by kernel_rfl)) ?_
    refine Tri.rn [1, 6, 7] 0 [] [] [] ⟨80, [(1, o1 (.own 3 (List.map eI a1_1))), (6, oB false), (7, oI 11)], [], 0, [1]⟩ (by kernel_rfl) trivial ?_
    refine Tri.ret ?_
    obtain rfl := Option.some.inj H
    exact endsG (.inr rfl) (by kernel_rfl)
  · refine Tri.cond_false (useb (decide_eq_false h7) (by kernel_rfl)) ?_
    refine Tri.skip ?_
    refine Tri.rn [1, 2, 3, 8, 11] 2 [] [] [] ⟨80, [(1, o1 (.own 3 (List.map eI a1_1))), (2, oI a2), (3, o1 (.ref 0 0)), (8, o1 (.ref 1 0)), (11, oI (w64 ((w64 (x5 - r3.1)) + r3.2)))], [eSCode a0, eSIns x1], 0, [1]⟩ (by kernel_rfl) trivial ?_
    refine Tri.seq ?_
    refine Tri.block ?_
    refine Tri.rn [1, 2, 3, 8, 11, 36] 2 [] [] [] ⟨80, [(1, o1 (.own 3 (List.map eI a1_1))), (2, oI a2), (3, o1 (.ref 0 0)), (8, o1 (.ref 1 0)), (11, oI (w64 ((w64 (x5 - r3.1)) + r3.2))), (36, oB (decide ((60 : Int) < (w64 ((w64 (x5 - r3.1)) + r3.2)))))], [eSCode a0, eSIns x1], 0, [1]⟩ (by kernel_rfl) trivial ?_
    rcases ite_some H with ⟨h8, H⟩ | ⟨h8, H⟩
    · refine Tri.cond_true (useb (decide_eq_true h8) (by kernel_rfl)) ?_
      refine Tri.rn [1, 6, 7] 0 [] [] [] ⟨80, [(1, o1 (.own 3 (List.map eI a1_1))), (6, oB false), (7, oI 14)], [], 0, [1]⟩ (by kernel_rfl) trivial ?_
      refine Tri.ret ?_
      obtain rfl := Option.some.inj H
      exact endsG (.inr rfl) (by kernel_rfl)
    · refine Tri.cond_false (useb (decide_eq_false h8) (by kernel_rfl)) ?_
      obtain ⟨v12, h11, H⟩ := bind_some' H
      refine Tri.join (α := Bool) (fun w => v12 = w) (fun y10 => ⟨80, [(1, o1 (.own 3 (List.map eI a1_1))), (2, oI a2), (3, o1 (.ref 0 0)), (8, o1 (.ref 1 0)), (11, oI (w64 ((w64 (x5 - r3.1)) + r3.2))), (39, oB y10)], [eSCode a0, eSIns x1], 0, [1]⟩) (fun y10 hw => ?_) ?_
      · rw [hw] at H; clear hw
        try dsimp only at H
        rcases iteb_some H with ⟨h13, H⟩ | ⟨h13, H⟩
        · refine Tri.cond_true (useb h13 (by kernel_rfl)) ?_
          refine Tri.rn [1, 6, 7] 0 [] [] [] ⟨80, [(1, o1 (.own 3 (List.map eI a1_1))), (6, oB false), (7, oI 8)], [], 0, [1]⟩ (by kernel_rfl) trivial ?_
          refine Tri.ret ?_
          obtain rfl := Option.some.inj H
          exact endsG (.inr rfl) (by kernel_rfl)
        · refine Tri.cond_false (useb h13 (by kernel_rfl)) ?_
          refine Tri.skip ?_
          refine Tri.rn [1, 2, 3, 8, 11, 12] 2 [] [] [] ⟨80, [(1, o1 (.own 3 (List.map eI a1_1))), (2, oI a2), (3, o1 (.ref 0 0)), (8, o1 (.ref 1 0)), (11, oI (w64 ((w64 (x5 - r3.1)) + r3.2))), (12, oB false)], [eSCode a0, eSIns x1], 0, [1]⟩ (by kernel_rfl) trivial ?_
          obtain ⟨v47, h46, H⟩ := bind_some' H
          refine Tri.join (α := ((List Int) × Bool)) (fun w => v47 = .inr w) (fun w => ⟨80, [(1, o1 (.own 3 (List.map eI w.1))), (12, oB w.2)], [], 0, [1]⟩) (fun w hw => ?_) ?_
          · rw [hw] at H; clear hw
            obtain ⟨y44, y45⟩ := w
            try dsimp only at H
            refine Tri.rn [1, 6, 7] 0 [] [] [] ⟨80, [(1, o1 (.own 3 (List.map eI y44))), (6, oB y45), (7, oI 0)], [], 0, [1]⟩ (by kernel_rfl) trivial ?_
            refine Tri.ret ?_
            obtain rfl := Option.some.inj H
            exact endsG (.inr rfl) (by kernel_rfl)
          · unfold impl_Code__reach_1.e4 at h46
            obtain ⟨r14, h15, h46⟩ := bind_some' h46
            refine Tri.rn [1, 3, 11, 12, 49, 50, 51] 1 [] [(2, .call (o1 (.own 3 (List.map eI r14))) [] false), (3, .ov [.sc (.int .i64 (r14.length : Int))])] [_, _, _] ⟨80, [(1, o1 (.own 3 (List.map eI a1_1))), (3, o1 (.ref 0 0)), (11, oI (w64 ((w64 (x5 - r3.1)) + r3.2))), (12, oB false), (49, o1 (.own 3 (List.map eI r14))), (50, oI (r14.length : Int)), (51, oI 0)], [eSCode a0], 0, [1]⟩ (by kernel_rfl) ⟨(impl_Ins__follows.fn k x1 a2 r14 h15), (show (List.all [.own 3 (List.map eI r14)] PC.flatB) = true by simp [PC.flatB, PC.scalar, cI, cK, cB, cS, eI]), (ovlen (f := eI) (l := r14)), trivial⟩ ?_
            refine Tri.block ?_
            refine Tri.loop k (TriR.ind (α := ((List Int) × Bool × Int)) (fun k x => impl_Code__reach_1.l3 k a0 r3 x5 r14 x.1 x.2.1 x.2.2) (fun x => ⟨80, [(1, o1 (.own 3 (List.map eI x.1))), (3, o1 (.ref 0 0)), (11, oI (w64 ((w64 (x5 - r3.1)) + r3.2))), (12, oB x.2.1), (49, o1 (.own 3 (List.map eI r14))), (50, oI (r14.length : Int)), (51, oI x.2.2)], [eSCode a0], 0, [1]⟩) (fun _ => rfl) (fun k x h46 IH43 => ?_) k (a1_1, false, 0) h46)
            obtain ⟨z28, z29, z30⟩ := x
            rw [impl_Code__reach_1.l3.eq_2] at h46
            refine Tri.rn [1, 3, 11, 12, 49, 50, 51, 52] 1 [] [] [] ⟨80, [(1, o1 (.own 3 (List.map eI z28))), (3, o1 (.ref 0 0)), (11, oI (w64 ((w64 (x5 - r3.1)) + r3.2))), (12, oB z29), (49, o1 (.own 3 (List.map eI r14))), (50, oI (r14.length : Int)), (51, oI z30), (52, oB (decide (z30 < (r14.length : Int))))], [eSCode a0], 0, [1]⟩ (by kernel_rfl) trivial ?_
            refine Tri.seq ?_
            rcases ite_some h46 with ⟨h31, h46⟩ | ⟨h31, h46⟩
            · refine Tri.cond_true (useb (decide_eq_true h31) (by kernel_rfl)) ?_
              refine Tri.skip ?_
              obtain ⟨v42, h41, h46⟩ := bind_some' h46
              refine Tri.join (α := ((List Int) × Bool)) (fun w => v42 = .inr w) (fun w => ⟨80, [(1, o1 (.own 3 (List.map eI w.1))), (3, o1 (.ref 0 0)), (11, oI (w64 ((w64 (x5 - r3.1)) + r3.2))), (12, oB w.2), (49, o1 (.own 3 (List.map eI r14))), (50, oI (r14.length : Int)), (51, oI z30)], [eSCode a0], 0, [1]⟩) (fun w hw => ?_) ?_
              · rw [hw] at h46; clear hw
                obtain ⟨y39, y40⟩ := w
                try dsimp only at h46
                refine Tri.r1 [1, 3, 11, 12, 49, 50, 51] 1 [] [] [] ⟨80, [(1, o1 (.own 3 (List.map eI y39))), (3, o1 (.ref 0 0)), (11, oI (w64 ((w64 (x5 - r3.1)) + r3.2))), (12, oB y40), (49, o1 (.own 3 (List.map eI r14))), (50, oI (r14.length : Int)), (51, oI (w64 (z30 + 1)))], [eSCode a0], 0, [1]⟩ (by kernel_rfl) trivial ?_
                exact IH43 _ (y39, y40, w64 (z30 + 1)) (Nat.le_refl _) h46
              · unfold impl_Code__reach_1.e2 at h41
                refine Tri.block ?_
                obtain ⟨x32, h33, h41⟩ := bind_some' h41
                refine Tri.rn [1, 3, 11, 12, 14, 49, 50, 51] 1 [] [(0, .el (eI x32)), (1, .el (eI x32))] [_, _, _] ⟨80, [(1, o1 (.own 3 (List.map eI z28))), (3, o1 (.ref 0 0)), (11, oI (w64 ((w64 (x5 - r3.1)) + r3.2))), (12, oB z29), (14, oI x32), (49, o1 (.own 3 (List.map eI r14))), (50, oI (r14.length : Int)), (51, oI z30)], [eSCode a0], 0, [1]⟩ (by kernel_rfl) ⟨(at?_0 h33), (at?_map (f := eI) h33), (at?_map (f := eI) h33), trivial⟩ ?_
                refine Tri.block ?_
                refine Tri.rn [1, 3, 11, 12, 14, 49, 50, 51, 55] 1 [] [(3, .ov [.sc (.int .i64 (a0.f4.length : Int))])] [_] ⟨80, [(1, o1 (.own 3 (List.map eI z28))), (3, o1 (.ref 0 0)), (11, oI (w64 ((w64 (x5 - r3.1)) + r3.2))), (12, oB z29), (14, oI x32), (49, o1 (.own 3 (List.map eI r14))), (50, oI (r14.length : Int)), (51, oI z30), (55, oB (decide (x32 = (a0.f4.length : Int))))], [eSCode a0], 0, [1]⟩ (by kernel_rfl) ⟨(ovlen (f := eSIns) (l := a0.f4)), trivial⟩ ?_
                rcases ite_some h41 with ⟨h34, h41⟩ | ⟨h34, h41⟩
                · refine Tri.cond_true (useb (decide_eq_true h34) (by kernel_rfl)) ?_
                  refine Tri.rn [1, 6, 7] 0 [] [] [] ⟨80, [(1, o1 (.own 3 (List.map eI z28))), (6, oB false), (7, oI 10)], [], 0, [1]⟩ (by kernel_rfl) trivial ?_
                  refine Tri.ret ?_
                  obtain rfl := Option.some.inj h41
                  try dsimp only at h46
                  obtain rfl := Option.some.inj h46
                  try dsimp only at H
                  obtain rfl := Option.some.inj H
                  exact endsG (.inr rfl) (by kernel_rfl)
                · refine Tri.cond_false (useb (decide_eq_false h34) (by kernel_rfl)) ?_
                  obtain ⟨x35, h36, h41⟩ := bind_some' h41
                  refine Tri.rn [1, 3, 11, 12, 14, 49, 50, 51, 61] 1 [] [(2, .el (eI x35)), (3, .el (eI x35))] [_, _, _] ⟨80, [(1, o1 (.own 3 (List.map eI z28))), (3, o1 (.ref 0 0)), (11, oI (w64 ((w64 (x5 - r3.1)) + r3.2))), (12, oB z29), (14, oI x32), (49, o1 (.own 3 (List.map eI r14))), (50, oI (r14.length : Int)), (51, oI z30), (61, oB (decide (x35 = (-1))))], [eSCode a0], 0, [1]⟩ (by kernel_rfl) ⟨(at?_0 h36), (at?_map (f := eI) h36), (at?_map (f := eI) h36), trivial⟩ ?_
                  rcases ite_some h41 with ⟨h37, h41⟩ | ⟨h37, h41⟩
                  · refine Tri.cond_true (useb (decide_eq_true h37) (by kernel_rfl)) ?_
                    refine Tri.rn [1, 3, 11, 49, 50, 51] 1 [] [(3, .el (eI x35)), (4, .el (eI x35)), (4, .ovp (.t 1 0) (.own 3 (List.map eI (z28.set (Int.toNat x32) (w64 ((w64 (x5 - r3.1)) + r3.2))))))] [_, _, _, _] ⟨80, [(1, o1 (.own 3 (List.map eI (z28.set (Int.toNat x32) (w64 ((w64 (x5 - r3.1)) + r3.2)))))), (3, o1 (.ref 0 0)), (11, oI (w64 ((w64 (x5 - r3.1)) + r3.2))), (49, o1 (.own 3 (List.map eI r14))), (50, oI (r14.length : Int)), (51, oI z30)], [eSCode a0], 0, [1]⟩ (by kernel_rfl) ⟨(at?_0 h36), (at?_map (f := eI) h36), (at?_map (f := eI) h36), (ovset (e := 3) (f := eI) (l := z28) (v := w64 ((w64 (x5 - r3.1)) + r3.2)) (i := Int.toNat x32)), trivial⟩ ?_
                    refine Tri.r1 [1, 3, 11, 12, 49, 50, 51] 1 [] [] [] ⟨80, [(1, o1 (.own 3 (List.map eI (z28.set (Int.toNat x32) (w64 ((w64 (x5 - r3.1)) + r3.2)))))), (3, o1 (.ref 0 0)), (11, oI (w64 ((w64 (x5 - r3.1)) + r3.2))), (12, oB true), (49, o1 (.own 3 (List.map eI r14))), (50, oI (r14.length : Int)), (51, oI z30)], [eSCode a0], 0, [1]⟩ (by kernel_rfl) trivial ?_
                    exact ⟨(z28.set (Int.toNat x32) (w64 ((w64 (x5 - r3.1)) + r3.2)), true), (Option.some.inj h41).symm, rfl⟩
                  · refine Tri.cond_false (useb (decide_eq_false h37) (by kernel_rfl)) ?_
                    refine Tri.rn [1, 3, 11, 12, 49, 50, 51, 71] 1 [] [(2, .el (eI x35)), (3, .el (eI x35))] [_, _, _] ⟨80, [(1, o1 (.own 3 (List.map eI z28))), (3, o1 (.ref 0 0)), (11, oI (w64 ((w64 (x5 - r3.1)) + r3.2))), (12, oB z29), (49, o1 (.own 3 (List.map eI r14))), (50, oI (r14.length : Int)), (51, oI z30), (71, oB (!(decide (x35 = (w64 ((w64 (x5 - r3.1)) + r3.2))))))], [eSCode a0], 0, [1]⟩ (by kernel_rfl) ⟨(at?_0 h36), (at?_map (f := eI) h36), (at?_map (f := eI) h36), trivial⟩ ?_
                    rcases ite_some h41 with ⟨h38, h41⟩ | ⟨h38, h41⟩
                    · refine Tri.cond_false (useb (nF (decide_eq_true h38)) (by kernel_rfl)) ?_
                      refine Tri.fix [1, 3, 11, 12, 49, 50, 51] 1 [] ⟨80, [(1, o1 (.own 3 (List.map eI z28))), (3, o1 (.ref 0 0)), (11, oI (w64 ((w64 (x5 - r3.1)) + r3.2))), (12, oB z29), (49, o1 (.own 3 (List.map eI r14))), (50, oI (r14.length : Int)), (51, oI z30)], [eSCode a0], 0, [1]⟩ (by kernel_rfl) ?_
                      refine Tri.skip ?_
                      exact ⟨(z28, z29), (Option.some.inj h41).symm, rfl⟩
                    · refine Tri.cond_true (useb (nT (decide_eq_false h38)) (by kernel_rfl)) ?_
                      refine Tri.rn [1, 6, 7] 0 [] [] [] ⟨80, [(1, o1 (.own 3 (List.map eI z28))), (6, oB false), (7, oI 8)], [], 0, [1]⟩ (by kernel_rfl) trivial ?_
                      refine Tri.ret ?_
                      obtain rfl := Option.some.inj h41
                      try dsimp only at h46
                      obtain rfl := Option.some.inj h46
                      try dsimp only at H
                      obtain rfl := Option.some.inj H
                      exact endsG (.inr rfl) (by kernel_rfl)
            · refine Tri.cond_false (useb (decide_eq_false h31) (by kernel_rfl)) ?_
              refine Tri.fix [1, 12] 0 [] ⟨80, [(1, o1 (.own 3 (List.map eI z28))), (12, oB z29)], [], 0, [1]⟩ (by kernel_rfl) ?_
              refine Tri.exit ?_
              repeat (with_reducible refine Ex.exit ?_)
              refine Bk.here ?_
              exact ⟨(z28, z29), (Option.some.inj h46).symm, rfl⟩
      · unfold impl_Code__reach_1.e1 at h11
        rcases ite_some h11 with ⟨h9, h11⟩ | ⟨h9, h11⟩
        · refine Tri.r1 [1, 2, 3, 8, 11, 39] 2 [] [(2, .ov [.sc (.bool true)])] [_] ⟨80, [(1, o1 (.own 3 (List.map eI a1_1))), (2, oI a2), (3, o1 (.ref 0 0)), (8, o1 (.ref 1 0)), (11, oI (w64 ((w64 (x5 - r3.1)) + r3.2))), (39, oB (decide ((0 : Int) < (w64 ((w64 (x5 - r3.1)) + r3.2)))))], [eSCode a0, eSIns x1], 0, [1]⟩ (by kernel_rfl) ⟨(ovb (decide_eq_true h9)), trivial⟩ ?_
          exact ⟨(decide ((0 : Int) < (w64 ((w64 (x5 - r3.1)) + r3.2)))), (Option.some.inj h11).symm, rfl⟩
        · refine Tri.r1 [1, 2, 3, 8, 11, 39] 2 [] [(2, .ov [.sc (.bool false)])] [_] ⟨80, [(1, o1 (.own 3 (List.map eI a1_1))), (2, oI a2), (3, o1 (.ref 0 0)), (8, o1 (.ref 1 0)), (11, oI (w64 ((w64 (x5 - r3.1)) + r3.2))), (39, oB false)], [eSCode a0, eSIns x1], 0, [1]⟩ (by kernel_rfl) ⟨(ovb (decide_eq_false h9)), trivial⟩ ?_
          exact ⟨false, (Option.some.inj h11).symm, rfl⟩
/-! impl_Code__flow: function 90 -/
def impl_Code__flow.e1 (k : Nat) (a0 : SCode) (z50 : (List Int)) (z51 : Bool) (z52 : Int) : Option ((Int × Int) ⊕ ((List Int) × Bool)) := (at? z50 z52).bind fun x54 => if x54 = (-1) then (some (.inr (z50, z51))) else ((impl_Code__reach_1.f k a0 z50 z52).bind fun r57 => if r57.2.1 = 0 then (if z51 = true then (some (.inr (r57.2.2, true))) else (some (.inr (r57.2.2, r57.1)))) else (some (.inl (r57.2.1, z52))))
def impl_Code__flow.l2 : Nat → SCode → (List Int) → Bool → Int → Option ((Int × Int) ⊕ ((List Int) × Bool))
  | 0, _, _, _, _ => none
  | k + 1, a0, z50, z51, z52 => if z52 < (a0.f4.length : Int) then ((impl_Code__flow.e1 k a0 z50 z51 z52).bind fun v => match v with | .inl r => some (.inl r) | .inr (y61, y62) => impl_Code__flow.l2 k a0 y61 y62 (w64 (z52 + 1))) else (some (.inr (z50, z51)))
def impl_Code__flow.e3 (k : Nat) (a0 : SCode) (z36 : (List Int)) : Option ((Int × Int) ⊕ ((List Int) × Bool)) := impl_Code__flow.l2 k a0 z36 false 0
def impl_Code__flow.l4 : Nat → SCode → (List Int) → Bool → Option ((Int × Int) ⊕ Unit)
  | 0, _, _, _ => none
  | k + 1, a0, z36, z37 => if z37 = true then ((impl_Code__flow.e3 k a0 z36).bind fun v => match v with | .inl r => some (.inl r) | .inr (y66, y67) => impl_Code__flow.l4 k a0 y66 y67) else (some (.inr ()))
def impl_Code__flow.e5 (k : Nat) (a0 : SCode) (r1 : (List Int)) : Option ((Int × Int) ⊕ Unit) := impl_Code__flow.l4 k a0 (r1.set (Int.toNat 0) 0) true
def impl_Code__flow.f (k : Nat) (a0 : SCode) : Option (Int × Int) := (slices_Repeat___int_int.f k ([-1] : List Int) (a0.f4.length : Int)).bind fun r1 => (at? r1 0).bind fun x3 => (impl_Code__flow.e5 k a0 r1).bind fun v => match v with | .inl r => some r | .inr _ => some (0, 0)
set_option maxRecDepth 100000 in
theorem impl_Code__flow.fn (k : Nat) (a0 : SCode) (r : (Int × Int)) (H : impl_Code__flow.f k a0 = some r) : Fn Tryd.prog 90 [ag (eSCode a0)] [] (tp [none, none] [cI r.1, cI r.2]) [] := by
  unfold impl_Code__flow.f at H
  refine Fn.body (ts := [2, 3]) Tryd.func90 rfl rfl (by decide) (by decide) (Nat.le_of_ble_eq_true rfl) (Nat.le_refl _) ?_
  refine Tri.rn [1] 1 [] [] [] ⟨44, [(1, o1 (.ref 0 0))], [eSCode a0], 0, []⟩ (by kernel_rfl) trivial ?_
  obtain ⟨r1, h2, H⟩ := bind_some' H
  refine Tri.rn [1, 4] 1 [] [(3, .ov [.sc (.int .i64 (a0.f4.length : Int))]), (4, .call (o1 (.own 3 (List.map eI r1))) [] false)] [_, _, _] ⟨44, [(1, o1 (.ref 0 0)), (4, o1 (.own 3 (List.map eI r1)))], [eSCode a0], 0, []⟩ (by kernel_rfl) ⟨(ovlen (f := eSIns) (l := a0.f4)), (slices_Repeat___int_int.fn k ([-1] : List Int) (a0.f4.length : Int) r1 h2), (show (List.all [.own 3 (List.map eI r1)] PC.flatB) = true by simp [PC.flatB, PC.scalar, cI, cK, cB, cS, eI]), trivial⟩ ?_
  obtain ⟨x3, h4, H⟩ := bind_some' H
  refine Tri.rn [1, 4] 1 [] [(1, .el (eI x3)), (2, .el (eI x3)), (2, .ovp (.t 4 0) (.own 3 (List.map eI (r1.set (Int.toNat 0) 0))))] [_, _, _, _] ⟨44, [(1, o1 (.ref 0 0)), (4, o1 (.own 3 (List.map eI (r1.set (Int.toNat 0) 0))))], [eSCode a0], 0, []⟩ (by kernel_rfl) ⟨(at?_0 h4), (at?_map (f := eI) h4), (at?_map (f := eI) h4), (ovset (e := 3) (f := eI) (l := r1) (v := 0) (i := Int.toNat 0)), trivial⟩ ?_
  obtain ⟨v72, h71, H⟩ := bind_some' H
  refine Tri.join (α := Unit) (fun w => v72 = .inr w) (fun _ => ⟨44, [], [], 0, []⟩) (fun w hw => ?_) ?_
  · rw [hw] at H; clear hw
    try dsimp only at H
    refine Tri.rn [2, 3] 0 [] [] [] ⟨44, [(2, oI 0), (3, oI 0)], [], 0, []⟩ (by kernel_rfl) trivial ?_
    refine Tri.ret ?_
    obtain rfl := Option.some.inj H
    exact ⟨.inr rfl, rfl, rfl, Nat.le_refl _, rfl, by simp⟩
  · unfold impl_Code__flow.e5 at h71
    refine Tri.rn [1, 4, 5] 1 [] [] [] ⟨44, [(1, o1 (.ref 0 0)), (4, o1 (.own 3 (List.map eI (r1.set (Int.toNat 0) 0)))), (5, oB true)], [eSCode a0], 0, []⟩ (by kernel_rfl) trivial ?_
    refine Tri.block ?_
    refine Tri.loop k (TriR.ind (α := ((List Int) × Bool)) (fun k x => impl_Code__flow.l4 k a0 x.1 x.2) (fun x => ⟨44, [(1, o1 (.ref 0 0)), (4, o1 (.own 3 (List.map eI x.1))), (5, oB x.2)], [eSCode a0], 0, []⟩) (fun _ => rfl) (fun k x h71 IH70 => ?_) k (r1.set (Int.toNat 0) 0, true) h71)
    obtain ⟨z36, z37⟩ := x
    rw [impl_Code__flow.l4.eq_2] at h71
    refine Tri.seq ?_
    refine Tri.rn [1, 4, 16] 1 [] [] [] ⟨44, [(1, o1 (.ref 0 0)), (4, o1 (.own 3 (List.map eI z36))), (16, oB z37)], [eSCode a0], 0, []⟩ (by kernel_rfl) trivial ?_
    rcases iteb_some h71 with ⟨h38, h71⟩ | ⟨h38, h71⟩
    · refine Tri.cond_true (useb h38 (by kernel_rfl)) ?_
      refine Tri.skip ?_
      refine Tri.block ?_
      refine Tri.rn [1, 4, 5] 1 [] [] [] ⟨44, [(1, o1 (.ref 0 0)), (4, o1 (.own 3 (List.map eI z36))), (5, oB false)], [eSCode a0], 0, []⟩ (by kernel_rfl) trivial ?_
      refine Tri.rn [1, 4, 5, 19, 20] 1 [] [(2, .ov [.sc (.int .i64 (a0.f4.length : Int))])] [_] ⟨44, [(1, o1 (.ref 0 0)), (4, o1 (.own 3 (List.map eI z36))), (5, oB false), (19, oI (a0.f4.length : Int)), (20, oI 0)], [eSCode a0], 0, []⟩ (by kernel_rfl) ⟨(ovlen (f := eSIns) (l := a0.f4)), trivial⟩ ?_
      obtain ⟨v69, h68, h71⟩ := bind_some' h71
      refine Tri.joinT (α := ((List Int) × Bool)) (fun w => v69 = .inr w) (fun w => ⟨44, [(1, o1 (.ref 0 0)), (4, o1 (.own 3 (List.map eI w.1))), (5, oB w.2)], [eSCode a0], 0, []⟩) (fun w hw => ?_) ?_
      · rw [hw] at h71; clear hw
        obtain ⟨y66, y67⟩ := w
        try dsimp only at h71
        exact IH70 _ (y66, y67) (Nat.le_refl _) h71
      · unfold impl_Code__flow.e3 at h68
        refine Tri.block ?_
        refine Tri.loop k (TriR.ind (α := ((List Int) × Bool × Int)) (fun k x => impl_Code__flow.l2 k a0 x.1 x.2.1 x.2.2) (fun x => ⟨44, [(1, o1 (.ref 0 0)), (4, o1 (.own 3 (List.map eI x.1))), (5, oB x.2.1), (19, oI (a0.f4.length : Int)), (20, oI x.2.2)], [eSCode a0], 0, []⟩) (fun _ => rfl) (fun k x h68 IH65 => ?_) k (z36, false, 0) h68)
        obtain ⟨z50, z51, z52⟩ := x
        rw [impl_Code__flow.l2.eq_2] at h68
        refine Tri.rn [1, 4, 5, 19, 20, 21] 1 [] [] [] ⟨44, [(1, o1 (.ref 0 0)), (4, o1 (.own 3 (List.map eI z50))), (5, oB z51), (19, oI (a0.f4.length : Int)), (20, oI z52), (21, oB (decide (z52 < (a0.f4.length : Int))))], [eSCode a0], 0, []⟩ (by kernel_rfl) trivial ?_
        refine Tri.seq ?_
        rcases ite_some h68 with ⟨h53, h68⟩ | ⟨h53, h68⟩
        · refine Tri.cond_true (useb (decide_eq_true h53) (by kernel_rfl)) ?_
          refine Tri.skip ?_
          obtain ⟨v64, h63, h68⟩ := bind_some' h68
          refine Tri.join (α := ((List Int) × Bool)) (fun w => v64 = .inr w) (fun w => ⟨44, [(1, o1 (.ref 0 0)), (4, o1 (.own 3 (List.map eI w.1))), (5, oB w.2), (19, oI (a0.f4.length : Int)), (20, oI z52)], [eSCode a0], 0, []⟩) (fun w hw => ?_) ?_
          · rw [hw] at h68; clear hw
            obtain ⟨y61, y62⟩ := w
            try dsimp only at h68
            refine Tri.r1 [1, 4, 5, 19, 20] 1 [] [] [] ⟨44, [(1, o1 (.ref 0 0)), (4, o1 (.own 3 (List.map eI y61))), (5, oB y62), (19, oI (a0.f4.length : Int)), (20, oI (w64 (z52 + 1)))], [eSCode a0], 0, []⟩ (by kernel_rfl) trivial ?_
            exact IH65 _ (y61, y62, w64 (z52 + 1)) (Nat.le_refl _) h68
          · unfold impl_Code__flow.e1 at h63
            refine Tri.block ?_
            refine Tri.rn [1, 4, 5, 6, 19, 20] 1 [] [] [] ⟨44, [(1, o1 (.ref 0 0)), (4, o1 (.own 3 (List.map eI z50))), (5, oB z51), (6, oI z52), (19, oI (a0.f4.length : Int)), (20, oI z52)], [eSCode a0], 0, []⟩ (by kernel_rfl) trivial ?_
            refine Tri.seq ?_
            obtain ⟨x54, h55, h63⟩ := bind_some' h63
            refine Tri.rn [1, 4, 5, 6, 19, 20, 27] 1 [] [(2, .el (eI x54)), (3, .el (eI x54))] [_, _, _] ⟨44, [(1, o1 (.ref 0 0)), (4, o1 (.own 3 (List.map eI z50))), (5, oB z51), (6, oI z52), (19, oI (a0.f4.length : Int)), (20, oI z52), (27, oB (decide (x54 = (-1))))], [eSCode a0], 0, []⟩ (by kernel_rfl) ⟨(at?_0 h55), (at?_map (f := eI) h55), (at?_map (f := eI) h55), trivial⟩ ?_
            rcases ite_some h63 with ⟨h56, h63⟩ | ⟨h56, h63⟩
            · refine Tri.cond_true (useb (decide_eq_true h56) (by kernel_rfl)) ?_
              refine Tri.fix [1, 4, 5, 19, 20] 1 [] ⟨44, [(1, o1 (.ref 0 0)), (4, o1 (.own 3 (List.map eI z50))), (5, oB z51), (19, oI (a0.f4.length : Int)), (20, oI z52)], [eSCode a0], 0, []⟩ (by kernel_rfl) ?_
              refine Tri.exit ?_
              repeat (with_reducible refine Ex.exit ?_)
              refine Bk.here ?_
              exact ⟨(z50, z51), (Option.some.inj h63).symm, rfl⟩
            · refine Tri.cond_false (useb (decide_eq_false h56) (by kernel_rfl)) ?_
              refine Tri.skip ?_
              obtain ⟨r57, h58, h63⟩ := bind_some' h63
              refine Tri.rn [1, 4, 5, 6, 7, 8, 19, 20] 1 [] [(3, .callB (tp [none, none] [cB r57.1, cI r57.2.1]) [] [] (some (1, (.t 4 0))) [.own 3 (List.map eI r57.2.2)] [])] [_] ⟨44, [(1, o1 (.ref 0 0)), (4, o1 (.own 3 (List.map eI r57.2.2))), (5, oB z51), (6, oI z52), (7, oB r57.1), (8, oI r57.2.1), (19, oI (a0.f4.length : Int)), (20, oI z52)], [eSCode a0], 0, []⟩ (by kernel_rfl) ⟨(impl_Code__reach_1.fn k a0 z50 z52 r57 h58), trivial⟩ ?_
              refine Tri.seq ?_
              refine Tri.rn [1, 4, 5, 6, 7, 8, 19, 20, 36] 1 [] [] [] ⟨44, [(1, o1 (.ref 0 0)), (4, o1 (.own 3 (List.map eI r57.2.2))), (5, oB z51), (6, oI z52), (7, oB r57.1), (8, oI r57.2.1), (19, oI (a0.f4.length : Int)), (20, oI z52), (36, oB (!(decide (r57.2.1 = 0))))], [eSCode a0], 0, []⟩ (by kernel_rfl) trivial ?_
              rcases ite_some h63 with ⟨h59, h63⟩ | ⟨h59, h63⟩
              · refine Tri.cond_false (useb (nF (decide_eq_true h59)) (by kernel_rfl)) ?_
                refine Tri.skip ?_
                rcases iteb_some h63 with ⟨h60, h63⟩ | ⟨h60, h63⟩
                · refine Tri.r1 [1, 4, 5, 19, 20] 1 [] [(0, .ov [.sc (.bool true)])] [_] ⟨44, [(1, o1 (.ref 0 0)), (4, o1 (.own 3 (List.map eI r57.2.2))), (5, oB true), (19, oI (a0.f4.length : Int)), (20, oI z52)], [eSCode a0], 0, []⟩ (by kernel_rfl) ⟨(ovb h60), trivial⟩ ?_
                  exact ⟨(r57.2.2, true), (Option.some.inj h63).symm, rfl⟩
                · refine Tri.r1 [1, 4, 5, 19, 20] 1 [] [(0, .ov [.sc (.bool false)])] [_] ⟨44, [(1, o1 (.ref 0 0)), (4, o1 (.own 3 (List.map eI r57.2.2))), (5, oB r57.1), (19, oI (a0.f4.length : Int)), (20, oI z52)], [eSCode a0], 0, []⟩ (by kernel_rfl) ⟨(ovb h60), trivial⟩ ?_
                  exact ⟨(r57.2.2, r57.1), (Option.some.inj h63).symm, rfl⟩
              · refine Tri.cond_true (useb (nT (decide_eq_false h59)) (by kernel_rfl)) ?_
                refine Tri.rn [2, 3] 0 [] [] [] ⟨44, [(2, oI r57.2.1), (3, oI z52)], [], 0, []⟩ (by kernel_rfl) trivial ?_
                refine Tri.ret ?_
                obtain rfl := Option.some.inj h63
                try dsimp only at h68
                obtain rfl := Option.some.inj h68
                try dsimp only at h71
                obtain rfl := Option.some.inj h71
                try dsimp only at H
                obtain rfl := Option.some.inj H
                exact ⟨.inr rfl, rfl, rfl, Nat.le_refl _, rfl, by simp⟩
        · refine Tri.cond_false (useb (decide_eq_false h53) (by kernel_rfl)) ?_
          refine Tri.fix [1, 4, 5] 1 [] ⟨44, [(1, o1 (.ref 0 0)), (4, o1 (.own 3 (List.map eI z50))), (5, oB z51)], [eSCode a0], 0, []⟩ (by kernel_rfl) ?_
          refine Tri.exit ?_
          repeat (with_reducible refine Ex.exit ?_)
          refine Bk.here ?_
          exact ⟨(z50, z51), (Option.some.inj h68).symm, rfl⟩
    · refine Tri.cond_false (useb h38 (by kernel_rfl)) ?_
      refine Tri.fix [] 0 [] ⟨44, [], [], 0, []⟩ (by kernel_rfl) ?_
      refine Tri.exit ?_
      repeat (with_reducible refine Ex.exit ?_)
      refine Bk.here ?_
      exact ⟨(), (Option.some.inj h71).symm, rfl⟩
/-! impl_Code__verify: function 60 -/
def impl_Code__verify.e1 (k : Nat) (a0 : SCode) : Option Bool := if a0.f0 = (⟨#[]⟩ : ByteArray) then (if a0.f2 = 0 then (some (decide (a0.f3 = 0))) else (some false)) else (some false)
def impl_Code__verify.e2 (k : Nat) (a0 : SCode) (y3 : Bool) : Option Bool := (impl_within.f k (a0.f4.length : Int) 1 2000).bind fun r6 => if r6 = true then ((impl_within.f k a0.f1 0 20).bind fun r9 => if r9 = true then ((impl_within.f k a0.f2 a0.f1 2000).bind fun r12 => if r12 = true then ((impl_within.f k a0.f3 0 1).bind fun r15 => if r15 = true then ((impl_isName.f k a0.f0).bind fun r18 => if r18 = true then (some false) else (some (!y3))) else (some true)) else (some true)) else (some true)) else (some true)
def impl_Code__verify.f (k : Nat) (a0 : SCode) : Option (Int × Int) := (impl_Code__verify.e1 k a0).bind fun y3 => (impl_Code__verify.e2 k a0 y3).bind fun y21 => if y21 = true then (some (1, 0)) else ((slices_IndexFunc___impl_Ins_impl_Ins_1.f k a0.f4 a0).bind fun r25 => if (0 : Int) ≤ r25 then (some (3, r25)) else ((impl_Code__flow.f k a0).bind fun r28 => some (r28.1, r28.2)))
set_option maxRecDepth 100000 in
theorem impl_Code__verify.fn (k : Nat) (a0 : SCode) (r : (Int × Int)) (H : impl_Code__verify.f k a0 = some r) : Fn Tryd.prog 60 [ag (eSCode a0)] [] (tp [none, none] [cI r.1, cI r.2]) [] := by
  unfold impl_Code__verify.f at H
  refine Fn.body (ts := [2, 3]) Tryd.func60 rfl rfl (by decide) (by decide) (Nat.le_of_ble_eq_true rfl) (Nat.le_refl _) ?_
  refine Tri.rn [1] 1 [] [] [] ⟨65, [(1, o1 (.ref 0 0))], [eSCode a0], 0, []⟩ (by kernel_rfl) trivial ?_
  obtain ⟨v5, h4, H⟩ := bind_some' H
  refine Tri.join (α := Bool) (fun w => v5 = w) (fun y3 => ⟨65, [(1, o1 (.ref 0 0)), (4, oB y3)], [eSCode a0], 0, []⟩) (fun y3 hw => ?_) ?_
  · rw [hw] at H; clear hw
    try dsimp only at H
    refine Tri.seq ?_
    obtain ⟨v23, h22, H⟩ := bind_some' H
    refine Tri.join (α := Bool) (fun w => v23 = w) (fun y21 => ⟨65, [(1, o1 (.ref 0 0)), (53, oB y21)], [eSCode a0], 0, []⟩) (fun y21 hw => ?_) ?_
    · rw [hw] at H; clear hw
      try dsimp only at H
      rcases iteb_some H with ⟨h24, H⟩ | ⟨h24, H⟩
      · refine Tri.cond_true (useb h24 (by kernel_rfl)) ?_
        refine Tri.rn [2, 3] 0 [] [] [] ⟨65, [(2, oI 1), (3, oI 0)], [], 0, []⟩ (by kernel_rfl) trivial ?_
        refine Tri.ret ?_
        obtain rfl := Option.some.inj H
        exact ⟨.inr rfl, rfl, rfl, Nat.le_refl _, rfl, by simp⟩
      · refine Tri.cond_false (useb h24 (by kernel_rfl)) ?_
        refine Tri.skip ?_
        refine Tri.seq ?_
        obtain ⟨r25, h26, H⟩ := bind_some' H
        refine Tri.rn [1, 5] 1 [] [(3, .call (oI r25) [] false)] [_, _] ⟨65, [(1, o1 (.ref 0 0)), (5, oI r25)], [eSCode a0], 0, []⟩ (by kernel_rfl) ⟨(slices_IndexFunc___impl_Ins_impl_Ins_1.fn k a0.f4 a0 r25 h26), (show (List.all [cI r25] PC.flatB) = true from rfl), trivial⟩ ?_
        refine Tri.rn [1, 5, 59] 1 [] [] [] ⟨65, [(1, o1 (.ref 0 0)), (5, oI r25), (59, oB (decide ((0 : Int) ≤ r25)))], [eSCode a0], 0, []⟩ (by kernel_rfl) trivial ?_
        rcases ite_some H with ⟨h27, H⟩ | ⟨h27, H⟩
        · refine Tri.cond_true (useb (decide_eq_true h27) (by kernel_rfl)) ?_
          refine Tri.rn [2, 3] 0 [] [] [] ⟨65, [(2, oI 3), (3, oI r25)], [], 0, []⟩ (by kernel_rfl) trivial ?_
          refine Tri.ret ?_
          obtain rfl := Option.some.inj H
          exact ⟨.inr rfl, rfl, rfl, Nat.le_refl _, rfl, by simp⟩
        · refine Tri.cond_false (useb (decide_eq_false h27) (by kernel_rfl)) ?_
          refine Tri.skip ?_
          obtain ⟨r28, h29, H⟩ := bind_some' H
          refine Tri.rn [2, 3] 0 [] [(1, .call (tp [none, none] [cI r28.1, cI r28.2]) [] false)] [_, _] ⟨65, [(2, oI r28.1), (3, oI r28.2)], [], 0, []⟩ (by kernel_rfl) ⟨(impl_Code__flow.fn k a0 r28 h29), (show (List.all [cI r28.1, cI r28.2] PC.flatB) = true from rfl), trivial⟩ ?_
          refine Tri.ret ?_
          obtain rfl := Option.some.inj H
          exact ⟨.inr rfl, rfl, rfl, Nat.le_refl _, rfl, by simp⟩
    · unfold impl_Code__verify.e2 at h22
      obtain ⟨r6, h7, h22⟩ := bind_some' h22
      rcases iteb_some h22 with ⟨h8, h22⟩ | ⟨h8, h22⟩
      · obtain ⟨r9, h10, h22⟩ := bind_some' h22
        rcases iteb_some h22 with ⟨h11, h22⟩ | ⟨h11, h22⟩
        · obtain ⟨r12, h13, h22⟩ := bind_some' h22
          rcases iteb_some h22 with ⟨h14, h22⟩ | ⟨h14, h22⟩
          · obtain ⟨r15, h16, h22⟩ := bind_some' h22
            rcases iteb_some h22 with ⟨h17, h22⟩ | ⟨h17, h22⟩
            · obtain ⟨r18, h19, h22⟩ := bind_some' h22
              rcases iteb_some h22 with ⟨h20, h22⟩ | ⟨h20, h22⟩
              · refine Tri.r1 [1, 53] 1 [] [(2, .ov [.sc (.int .i64 (a0.f4.length : Int))]), (3, .call (oB r6) [] false), (3, .ov [.sc (.bool true)]), (8, .call (oB r9) [] false), (8, .ov [.sc (.bool true)]), (16, .call (oB r12) [] false), (16, .ov [.sc (.bool true)]), (22, .call (oB r15) [] false), (22, .ov [.sc (.bool true)]), (28, .call (oB r18) [] false), (28, .ov [.sc (.bool true)])] [_, _, _, _, _, _, _, _, _, _, _, _, _, _, _, _] ⟨65, [(1, o1 (.ref 0 0)), (53, oB false)], [eSCode a0], 0, []⟩ (by kernel_rfl) ⟨(ovlen (f := eSIns) (l := a0.f4)), (impl_within.fn k (a0.f4.length : Int) 1 2000 r6 h7), (show (List.all [cB r6] PC.flatB) = true from rfl), (ovb h8), (impl_within.fn k a0.f1 0 20 r9 h10), (show (List.all [cB r9] PC.flatB) = true from rfl), (ovb h11), (impl_within.fn k a0.f2 a0.f1 2000 r12 h13), (show (List.all [cB r12] PC.flatB) = true from rfl), (ovb h14), (impl_within.fn k a0.f3 0 1 r15 h16), (show (List.all [cB r15] PC.flatB) = true from rfl), (ovb h17), (impl_isName.fn k a0.f0 r18 h19), (show (List.all [cB r18] PC.flatB) = true from rfl), (ovb h20), trivial⟩ ?_
                exact ⟨false, (Option.some.inj h22).symm, rfl⟩
              · refine Tri.r1 [1, 53] 1 [] [(2, .ov [.sc (.int .i64 (a0.f4.length : Int))]), (3, .call (oB r6) [] false), (3, .ov [.sc (.bool true)]), (8, .call (oB r9) [] false), (8, .ov [.sc (.bool true)]), (16, .call (oB r12) [] false), (16, .ov [.sc (.bool true)]), (22, .call (oB r15) [] false), (22, .ov [.sc (.bool true)]), (28, .call (oB r18) [] false), (28, .ov [.sc (.bool false)])] [_, _, _, _, _, _, _, _, _, _, _, _, _, _, _, _] ⟨65, [(1, o1 (.ref 0 0)), (53, oB (!y3))], [eSCode a0], 0, []⟩ (by kernel_rfl) ⟨(ovlen (f := eSIns) (l := a0.f4)), (impl_within.fn k (a0.f4.length : Int) 1 2000 r6 h7), (show (List.all [cB r6] PC.flatB) = true from rfl), (ovb h8), (impl_within.fn k a0.f1 0 20 r9 h10), (show (List.all [cB r9] PC.flatB) = true from rfl), (ovb h11), (impl_within.fn k a0.f2 a0.f1 2000 r12 h13), (show (List.all [cB r12] PC.flatB) = true from rfl), (ovb h14), (impl_within.fn k a0.f3 0 1 r15 h16), (show (List.all [cB r15] PC.flatB) = true from rfl), (ovb h17), (impl_isName.fn k a0.f0 r18 h19), (show (List.all [cB r18] PC.flatB) = true from rfl), (ovb h20), trivial⟩ ?_
                exact ⟨(!y3), (Option.some.inj h22).symm, rfl⟩
            · refine Tri.r1 [1, 53] 1 [] [(2, .ov [.sc (.int .i64 (a0.f4.length : Int))]), (3, .call (oB r6) [] false), (3, .ov [.sc (.bool true)]), (8, .call (oB r9) [] false), (8, .ov [.sc (.bool true)]), (16, .call (oB r12) [] false), (16, .ov [.sc (.bool true)]), (22, .call (oB r15) [] false), (22, .ov [.sc (.bool false)])] [_, _, _, _, _, _, _, _, _, _, _, _, _] ⟨65, [(1, o1 (.ref 0 0)), (53, oB true)], [eSCode a0], 0, []⟩ (by kernel_rfl) ⟨(ovlen (f := eSIns) (l := a0.f4)), (impl_within.fn k (a0.f4.length : Int) 1 2000 r6 h7), (show (List.all [cB r6] PC.flatB) = true from rfl), (ovb h8), (impl_within.fn k a0.f1 0 20 r9 h10), (show (List.all [cB r9] PC.flatB) = true from rfl), (ovb h11), (impl_within.fn k a0.f2 a0.f1 2000 r12 h13), (show (List.all [cB r12] PC.flatB) = true from rfl), (ovb h14), (impl_within.fn k a0.f3 0 1 r15 h16), (show (List.all [cB r15] PC.flatB) = true from rfl), (ovb h17), trivial⟩ ?_
              exact ⟨true, (Option.some.inj h22).symm, rfl⟩
          · refine Tri.r1 [1, 53] 1 [] [(2, .ov [.sc (.int .i64 (a0.f4.length : Int))]), (3, .call (oB r6) [] false), (3, .ov [.sc (.bool true)]), (8, .call (oB r9) [] false), (8, .ov [.sc (.bool true)]), (16, .call (oB r12) [] false), (16, .ov [.sc (.bool false)])] [_, _, _, _, _, _, _, _, _, _] ⟨65, [(1, o1 (.ref 0 0)), (53, oB true)], [eSCode a0], 0, []⟩ (by kernel_rfl) ⟨(ovlen (f := eSIns) (l := a0.f4)), (impl_within.fn k (a0.f4.length : Int) 1 2000 r6 h7), (show (List.all [cB r6] PC.flatB) = true from rfl), (ovb h8), (impl_within.fn k a0.f1 0 20 r9 h10), (show (List.all [cB r9] PC.flatB) = true from rfl), (ovb h11), (impl_within.fn k a0.f2 a0.f1 2000 r12 h13), (show (List.all [cB r12] PC.flatB) = true from rfl), (ovb h14), trivial⟩ ?_
            exact ⟨true, (Option.some.inj h22).symm, rfl⟩
        · refine Tri.r1 [1, 53] 1 [] [(2, .ov [.sc (.int .i64 (a0.f4.length : Int))]), (3, .call (oB r6) [] false), (3, .ov [.sc (.bool true)]), (8, .call (oB r9) [] false), (8, .ov [.sc (.bool false)])] [_, _, _, _, _, _, _] ⟨65, [(1, o1 (.ref 0 0)), (53, oB true)], [eSCode a0], 0, []⟩ (by kernel_rfl) ⟨(ovlen (f := eSIns) (l := a0.f4)), (impl_within.fn k (a0.f4.length : Int) 1 2000 r6 h7), (show (List.all [cB r6] PC.flatB) = true from rfl), (ovb h8), (impl_within.fn k a0.f1 0 20 r9 h10), (show (List.all [cB r9] PC.flatB) = true from rfl), (ovb h11), trivial⟩ ?_
          exact ⟨true, (Option.some.inj h22).symm, rfl⟩
      · refine Tri.r1 [1, 53] 1 [] [(2, .ov [.sc (.int .i64 (a0.f4.length : Int))]), (3, .call (oB r6) [] false), (3, .ov [.sc (.bool false)])] [_, _, _, _] ⟨65, [(1, o1 (.ref 0 0)), (53, oB true)], [eSCode a0], 0, []⟩ (by kernel_rfl) ⟨(ovlen (f := eSIns) (l := a0.f4)), (impl_within.fn k (a0.f4.length : Int) 1 2000 r6 h7), (show (List.all [cB r6] PC.flatB) = true from rfl), (ovb h8), trivial⟩ ?_
        exact ⟨true, (Option.some.inj h22).symm, rfl⟩
  · unfold impl_Code__verify.e1 at h4
    rcases ite_some h4 with ⟨h1, h4⟩ | ⟨h1, h4⟩
    · rcases ite_some h4 with ⟨h2, h4⟩ | ⟨h2, h4⟩
      · refine Tri.r1 [1, 4] 1 [] [(2, .ov [.sc (.bool true)]), (6, .ov [.sc (.bool true)])] [_, _] ⟨65, [(1, o1 (.ref 0 0)), (4, oB (decide (a0.f3 = 0)))], [eSCode a0], 0, []⟩ (by kernel_rfl) ⟨(ovb (decide_eq_true h1)), (ovb (decide_eq_true h2)), trivial⟩ ?_
        exact ⟨(decide (a0.f3 = 0)), (Option.some.inj h4).symm, rfl⟩
      · refine Tri.r1 [1, 4] 1 [] [(2, .ov [.sc (.bool true)]), (6, .ov [.sc (.bool false)])] [_, _] ⟨65, [(1, o1 (.ref 0 0)), (4, oB false)], [eSCode a0], 0, []⟩ (by kernel_rfl) ⟨(ovb (decide_eq_true h1)), (ovb (decide_eq_false h2)), trivial⟩ ?_
        exact ⟨false, (Option.some.inj h4).symm, rfl⟩
    · refine Tri.r1 [1, 4] 1 [] [(2, .ov [.sc (.bool false)])] [_] ⟨65, [(1, o1 (.ref 0 0)), (4, oB false)], [eSCode a0], 0, []⟩ (by kernel_rfl) ⟨(ovb (decide_eq_false h1)), trivial⟩ ?_
      exact ⟨false, (Option.some.inj h4).symm, rfl⟩
/-! impl_Code__verifies: function 36 -/
def impl_Code__verifies.f (k : Nat) (a0 : SCode) : Option Bool := (impl_Code__verify.f k a0).bind fun r1 => some (decide (r1.1 = 0))
set_option maxRecDepth 100000 in
theorem impl_Code__verifies.fn (k : Nat) (a0 : SCode) (r : Bool) (H : impl_Code__verifies.f k a0 = some r) : Fn Tryd.prog 36 [ag (eSCode a0)] [] (oB r) [] := by
  unfold impl_Code__verifies.f at H
  refine Fn.body (ts := [2]) Tryd.func36 rfl rfl (by decide) (by decide) (Nat.le_of_ble_eq_true rfl) (Nat.le_refl _) ?_
  refine Tri.rn [1] 1 [] [] [] ⟨12, [(1, o1 (.ref 0 0))], [eSCode a0], 0, []⟩ (by kernel_rfl) trivial ?_
  obtain ⟨r1, h2, H⟩ := bind_some' H
  refine Tri.rn [3] 0 [] [(1, .call (tp [none, none] [cI r1.1, cI r1.2]) [] false)] [_, _] ⟨12, [(3, oI r1.1)], [], 0, []⟩ (by kernel_rfl) ⟨(impl_Code__verify.fn k a0 r1 h2), (show (List.all [cI r1.1, cI r1.2] PC.flatB) = true from rfl), trivial⟩ ?_
  refine Tri.rn [2] 0 [] [] [] ⟨12, [(2, oB (decide (r1.1 = 0)))], [], 0, []⟩ (by kernel_rfl) trivial ?_
  refine Tri.ret ?_
  obtain rfl := Option.some.inj H
  exact ⟨.inr rfl, rfl, rfl, Nat.le_refl _, rfl, by simp⟩
/-! impl_opWords: function 64 -/
def impl_opWords.f (k : Nat) : Option (List ByteArray) := some ([(⟨#[]⟩ : ByteArray), (⟨#[112, 117, 115, 104]⟩ : ByteArray), (⟨#[108, 111, 99, 97, 108]⟩ : ByteArray), (⟨#[103, 108, 111, 98, 97, 108]⟩ : ByteArray), (⟨#[108, 111, 97, 100]⟩ : ByteArray), (⟨#[115, 116, 111, 114, 101]⟩ : ByteArray), (⟨#[105, 110, 100, 101, 120]⟩ : ByteArray), (⟨#[119, 111, 114, 107]⟩ : ByteArray), (⟨#[110, 101, 103]⟩ : ByteArray), (⟨#[110, 111, 116]⟩ : ByteArray), (⟨#[99, 104, 114]⟩ : ByteArray), (⟨#[106, 117, 109, 112]⟩ : ByteArray), (⟨#[106, 117, 109, 112, 102, 97, 108, 115, 101]⟩ : ByteArray), (⟨#[99, 97, 108, 108]⟩ : ByteArray), (⟨#[114, 101, 116, 117, 114, 110]⟩ : ByteArray), (⟨#[119, 114, 105, 116, 101]⟩ : ByteArray), (⟨#[114, 101, 97, 100]⟩ : ByteArray), (⟨#[116, 114, 97, 112]⟩ : ByteArray)] : List ByteArray)
set_option maxRecDepth 100000 in
theorem impl_opWords.fn (k : Nat) (r : (List ByteArray)) (H : impl_opWords.f k  = some r) : Fn Tryd.prog 64 [] [] (o1 (.own 9 (List.map eS r))) [] := by
  unfold impl_opWords.f at H
  refine Fn.body (ts := [0]) Tryd.func64 rfl rfl (by decide) (by decide) (Nat.le_of_ble_eq_true rfl) (Nat.le_refl _) ?_
  refine Tri.rn [] 0 [] [] [] ⟨2, [], [], 0, []⟩ (by kernel_rfl) trivial ?_
  refine Tri.rn [0] 0 [] [] [] ⟨2, [(0, o1 (.own 9 (List.map eS ([(⟨#[]⟩ : ByteArray), (⟨#[112, 117, 115, 104]⟩ : ByteArray), (⟨#[108, 111, 99, 97, 108]⟩ : ByteArray), (⟨#[103, 108, 111, 98, 97, 108]⟩ : ByteArray), (⟨#[108, 111, 97, 100]⟩ : ByteArray), (⟨#[115, 116, 111, 114, 101]⟩ : ByteArray), (⟨#[105, 110, 100, 101, 120]⟩ : ByteArray), (⟨#[119, 111, 114, 107]⟩ : ByteArray), (⟨#[110, 101, 103]⟩ : ByteArray), (⟨#[110, 111, 116]⟩ : ByteArray), (⟨#[99, 104, 114]⟩ : ByteArray), (⟨#[106, 117, 109, 112]⟩ : ByteArray), (⟨#[106, 117, 109, 112, 102, 97, 108, 115, 101]⟩ : ByteArray), (⟨#[99, 97, 108, 108]⟩ : ByteArray), (⟨#[114, 101, 116, 117, 114, 110]⟩ : ByteArray), (⟨#[119, 114, 105, 116, 101]⟩ : ByteArray), (⟨#[114, 101, 97, 100]⟩ : ByteArray), (⟨#[116, 114, 97, 112]⟩ : ByteArray)] : List ByteArray))))], [], 0, []⟩ (by kernel_rfl) trivial ?_
  refine Tri.ret ?_
  obtain rfl := Option.some.inj H
  exact ⟨.inr rfl, rfl, rfl, Nat.le_refl _, rfl, by simp⟩
/-! impl_Ins__listed: function 39 -/
def impl_Ins__listed.e1 (k : Nat) (a0 : SIns) : Option Bool := if a0.f0 = 4 then (some (decide (a0.f0 = 4))) else (if a0.f0 = 5 then (some (decide (a0.f0 = 5))) else (if a0.f0 = 8 then (some (decide (a0.f0 = 8))) else (if a0.f0 = 9 then (some (decide (a0.f0 = 9))) else (if a0.f0 = 10 then (some (decide (a0.f0 = 10))) else (some (decide (a0.f0 = 14)))))))
def impl_Ins__listed.f (k : Nat) (a0 : SIns) : Option ByteArray := (strconv_Itoa.f k a0.f1).bind fun r1 => if a0.f0 = 3 then (if (⟨#[103, 108, 111, 98, 97, 108, 32]⟩ : ByteArray).size + a0.f3.size ≤ 9223372036854775807 then (if ((⟨#[103, 108, 111, 98, 97, 108, 32]⟩ : ByteArray) ++ a0.f3).size + (⟨#[46]⟩ : ByteArray).size ≤ 9223372036854775807 then (if (((⟨#[103, 108, 111, 98, 97, 108, 32]⟩ : ByteArray) ++ a0.f3) ++ (⟨#[46]⟩ : ByteArray)).size + a0.f4.size ≤ 9223372036854775807 then (some ((((⟨#[103, 108, 111, 98, 97, 108, 32]⟩ : ByteArray) ++ a0.f3) ++ (⟨#[46]⟩ : ByteArray)) ++ a0.f4)) else none) else none) else none) else (if a0.f0 = 7 then ((impl_works.f k).bind fun r8 => (at? r8 a0.f1).bind fun x10 => if (⟨#[119, 111, 114, 107, 32]⟩ : ByteArray).size + x10.size ≤ 9223372036854775807 then (some ((⟨#[119, 111, 114, 107, 32]⟩ : ByteArray) ++ x10)) else none) else (if a0.f0 = 13 then (if (⟨#[99, 97, 108, 108, 32]⟩ : ByteArray).size + a0.f3.size ≤ 9223372036854775807 then (if ((⟨#[99, 97, 108, 108, 32]⟩ : ByteArray) ++ a0.f3).size + (⟨#[46]⟩ : ByteArray).size ≤ 9223372036854775807 then (if (((⟨#[99, 97, 108, 108, 32]⟩ : ByteArray) ++ a0.f3) ++ (⟨#[46]⟩ : ByteArray)).size + a0.f4.size ≤ 9223372036854775807 then (if ((((⟨#[99, 97, 108, 108, 32]⟩ : ByteArray) ++ a0.f3) ++ (⟨#[46]⟩ : ByteArray)) ++ a0.f4).size + (⟨#[32]⟩ : ByteArray).size ≤ 9223372036854775807 then (if (((((⟨#[99, 97, 108, 108, 32]⟩ : ByteArray) ++ a0.f3) ++ (⟨#[46]⟩ : ByteArray)) ++ a0.f4) ++ (⟨#[32]⟩ : ByteArray)).size + r1.size ≤ 9223372036854775807 then (if ((((((⟨#[99, 97, 108, 108, 32]⟩ : ByteArray) ++ a0.f3) ++ (⟨#[46]⟩ : ByteArray)) ++ a0.f4) ++ (⟨#[32]⟩ : ByteArray)) ++ r1).size + (⟨#[32]⟩ : ByteArray).size ≤ 9223372036854775807 then ((strconv_Itoa.f k a0.f2).bind fun r20 => if (((((((⟨#[99, 97, 108, 108, 32]⟩ : ByteArray) ++ a0.f3) ++ (⟨#[46]⟩ : ByteArray)) ++ a0.f4) ++ (⟨#[32]⟩ : ByteArray)) ++ r1) ++ (⟨#[32]⟩ : ByteArray)).size + r20.size ≤ 9223372036854775807 then (some ((((((((⟨#[99, 97, 108, 108, 32]⟩ : ByteArray) ++ a0.f3) ++ (⟨#[46]⟩ : ByteArray)) ++ a0.f4) ++ (⟨#[32]⟩ : ByteArray)) ++ r1) ++ (⟨#[32]⟩ : ByteArray)) ++ r20)) else none) else none) else none) else none) else none) else none) else none) else ((impl_Ins__listed.e1 k a0).bind fun y28 => if y28 = true then ((impl_opWords.f k).bind fun r32 => (at? r32 a0.f0).bind fun x34 => some x34) else ((impl_opWords.f k).bind fun r36 => (at? r36 a0.f0).bind fun x38 => if x38.size + (⟨#[32]⟩ : ByteArray).size ≤ 9223372036854775807 then (if (x38 ++ (⟨#[32]⟩ : ByteArray)).size + r1.size ≤ 9223372036854775807 then (some ((x38 ++ (⟨#[32]⟩ : ByteArray)) ++ r1)) else none) else none))))
set_option maxRecDepth 100000 in
theorem impl_Ins__listed.fn (k : Nat) (a0 : SIns) (r : ByteArray) (H : impl_Ins__listed.f k a0 = some r) : Fn Tryd.prog 39 [ag (eSIns a0)] [] (oS r) [] := by
  unfold impl_Ins__listed.f at H
  refine Fn.body (ts := [2]) Tryd.func39 rfl rfl (by decide) (by decide) (Nat.le_of_ble_eq_true rfl) (Nat.le_refl _) ?_
  refine Tri.rn [1] 1 [] [] [] ⟨63, [(1, o1 (.ref 0 0))], [eSIns a0], 0, []⟩ (by kernel_rfl) trivial ?_
  obtain ⟨r1, h2, H⟩ := bind_some' H
  refine Tri.rn [1, 3] 1 [] [(2, .call (oS r1) [] false)] [_, _] ⟨63, [(1, o1 (.ref 0 0)), (3, oS r1)], [eSIns a0], 0, []⟩ (by kernel_rfl) ⟨(strconv_Itoa.fn k a0.f1 r1 h2), (show (List.all [cS r1] PC.flatB) = true from rfl), trivial⟩ ?_
  refine Tri.seq ?_
  refine Tri.rn [1, 3, 8] 1 [] [] [] ⟨63, [(1, o1 (.ref 0 0)), (3, oS r1), (8, oI a0.f0)], [eSIns a0], 0, []⟩ (by kernel_rfl) trivial ?_
  refine Tri.block ?_
  refine Tri.rn [1, 3, 8, 9] 1 [] [] [] ⟨63, [(1, o1 (.ref 0 0)), (3, oS r1), (8, oI a0.f0), (9, oB (decide (a0.f0 = 3)))], [eSIns a0], 0, []⟩ (by kernel_rfl) trivial ?_
  rcases ite_some H with ⟨h3, H⟩ | ⟨h3, H⟩
  · refine Tri.cond_true (useb (decide_eq_true h3) (by kernel_rfl)) ?_
    obtain ⟨h4, H⟩ := need_some H
    obtain ⟨h5, H⟩ := need_some H
    obtain ⟨h6, H⟩ := need_some H
    refine Tri.rn [2] 0 [] [] [_, _, _] ⟨63, [(2, oS ((((⟨#[103, 108, 111, 98, 97, 108, 32]⟩ : ByteArray) ++ a0.f3) ++ (⟨#[46]⟩ : ByteArray)) ++ a0.f4))], [], 0, []⟩ (by kernel_rfl) ⟨h4, h5, h6, trivial⟩ ?_
    refine Tri.ret ?_
    obtain rfl := Option.some.inj H
    exact ⟨.inr rfl, rfl, rfl, Nat.le_refl _, rfl, by simp⟩
  · refine Tri.cond_false (useb (decide_eq_false h3) (by kernel_rfl)) ?_
    refine Tri.rn [1, 3, 8, 18] 1 [] [] [] ⟨63, [(1, o1 (.ref 0 0)), (3, oS r1), (8, oI a0.f0), (18, oB (decide (a0.f0 = 7)))], [eSIns a0], 0, []⟩ (by kernel_rfl) trivial ?_
    rcases ite_some H with ⟨h7, H⟩ | ⟨h7, H⟩
    · refine Tri.cond_true (useb (decide_eq_true h7) (by kernel_rfl)) ?_
      obtain ⟨r8, h9, H⟩ := bind_some' H
      obtain ⟨x10, h11, H⟩ := bind_some' H
      obtain ⟨h12, H⟩ := need_some H
      refine Tri.dn hmix 3 [[], [], [1], [0, 1, 2], [0, 1, 2, 3], [0, 1, 2, 3, 4], [0, 1, 2, 3, 4, 5]] [2] 0 [] [(0, .call (o1 (.own 9 (List.map eS r8))) [] false), (3, .el (eS x10)), (4, .el (eS x10))] [_, _, _, _, _, _] ⟨63, [(2, oS ((⟨#[119, 111, 114, 107, 32]⟩ : ByteArray) ++ x10))], [], 0, []⟩ (by kernel_rfl) ⟨(impl_works.fn k r8 h9), (show (List.all [.own 9 (List.map eS r8)] PC.flatB) = true by simp [PC.flatB, PC.scalar, cI, cK, cB, cS, eS]), (at?_0 h11), (at?_map (f := eS) h11), (at?_map (f := eS) h11), h12, trivial⟩ ?_
      refine Tri.ret ?_
      obtain rfl := Option.some.inj H
      exact ⟨.inr rfl, rfl, rfl, Nat.le_refl _, rfl, by simp⟩
    · refine Tri.cond_false (useb (decide_eq_false h7) (by kernel_rfl)) ?_
      refine Tri.rn [1, 3, 8, 26] 1 [] [] [] ⟨63, [(1, o1 (.ref 0 0)), (3, oS r1), (8, oI a0.f0), (26, oB (decide (a0.f0 = 13)))], [eSIns a0], 0, []⟩ (by kernel_rfl) trivial ?_
      rcases ite_some H with ⟨h13, H⟩ | ⟨h13, H⟩
      · refine Tri.cond_true (useb (decide_eq_true h13) (by kernel_rfl)) ?_
        obtain ⟨h14, H⟩ := need_some H
        obtain ⟨h15, H⟩ := need_some H
        obtain ⟨h16, H⟩ := need_some H
        obtain ⟨h17, H⟩ := need_some H
        obtain ⟨h18, H⟩ := need_some H
        obtain ⟨h19, H⟩ := need_some H
        obtain ⟨r20, h21, H⟩ := bind_some' H
        obtain ⟨h22, H⟩ := need_some H
        refine Tri.dn hmix 14 [[], [0], [0, 1], [0, 1, 2], [], [4], [0, 1, 2, 3, 4, 5], [0, 1, 2, 3, 4, 5, 6], [], [0, 1, 2, 3, 4, 5, 6, 7, 8], [0, 1, 2, 3, 4, 5, 6, 7, 8, 9], [], [11], [11, 12], [0, 1, 2, 3, 4, 5, 6, 7, 8, 9, 10, 11, 12, 13], [0, 1, 2, 3, 4, 5, 6, 7, 8, 9, 10, 11, 12, 13, 14]] [2] 0 [] [(13, .call (oS r20) [] false)] [_, _, _, _, _, _, _, _, _] ⟨63, [(2, oS ((((((((⟨#[99, 97, 108, 108, 32]⟩ : ByteArray) ++ a0.f3) ++ (⟨#[46]⟩ : ByteArray)) ++ a0.f4) ++ (⟨#[32]⟩ : ByteArray)) ++ r1) ++ (⟨#[32]⟩ : ByteArray)) ++ r20))], [], 0, []⟩ (by kernel_rfl) ⟨h14, h15, h16, h17, h18, h19, (strconv_Itoa.fn k a0.f2 r20 h21), (show (List.all [cS r20] PC.flatB) = true from rfl), h22, trivial⟩ ?_
        refine Tri.ret ?_
        obtain rfl := Option.some.inj H
        exact ⟨.inr rfl, rfl, rfl, Nat.le_refl _, rfl, by simp⟩
      · refine Tri.cond_false (useb (decide_eq_false h13) (by kernel_rfl)) ?_
        obtain ⟨v30, h29, H⟩ := bind_some' H
        refine Tri.join (α := Bool) (fun w => v30 = w) (fun y28 => ⟨63, [(1, o1 (.ref 0 0)), (3, oS r1), (43, oB y28)], [eSIns a0], 0, []⟩) (fun y28 hw => ?_) ?_
        · rw [hw] at H; clear hw
          try dsimp only at H
          rcases iteb_some H with ⟨h31, H⟩ | ⟨h31, H⟩
          · refine Tri.cond_true (useb h31 (by kernel_rfl)) ?_
            obtain ⟨r32, h33, H⟩ := bind_some' H
            obtain ⟨x34, h35, H⟩ := bind_some' H
            refine Tri.dn hmix 3 [[], [], [1], [0, 1, 2], [0, 1, 2, 3], [0, 1, 2, 3, 4]] [2] 0 [] [(0, .call (o1 (.own 9 (List.map eS r32))) [] false), (3, .el (eS x34)), (4, .el (eS x34))] [_, _, _, _, _] ⟨63, [(2, oS x34)], [], 0, []⟩ (by kernel_rfl) ⟨(impl_opWords.fn k r32 h33), (show (List.all [.own 9 (List.map eS r32)] PC.flatB) = true by simp [PC.flatB, PC.scalar, cI, cK, cB, cS, eS]), (at?_0 h35), (at?_map (f := eS) h35), (at?_map (f := eS) h35), trivial⟩ ?_
            refine Tri.ret ?_
            obtain rfl := Option.some.inj H
            exact ⟨.inr rfl, rfl, rfl, Nat.le_refl _, rfl, by simp⟩
          · refine Tri.cond_false (useb h31 (by kernel_rfl)) ?_
            refine Tri.skip ?_
            obtain ⟨r36, h37, H⟩ := bind_some' H
            obtain ⟨x38, h39, H⟩ := bind_some' H
            obtain ⟨h40, H⟩ := need_some H
            obtain ⟨h41, H⟩ := need_some H
            refine Tri.dn hmix 7 [[], [], [1], [0, 1, 2], [0, 1, 2, 3], [0, 1, 2, 3, 4], [], [0, 1, 2, 3, 4, 5, 6], [0, 1, 2, 3, 4, 5, 6, 7]] [2] 0 [] [(0, .call (o1 (.own 9 (List.map eS r36))) [] false), (3, .el (eS x38)), (4, .el (eS x38))] [_, _, _, _, _, _, _] ⟨63, [(2, oS ((x38 ++ (⟨#[32]⟩ : ByteArray)) ++ r1))], [], 0, []⟩ (by kernel_rfl) ⟨(impl_opWords.fn k r36 h37), (show (List.all [.own 9 (List.map eS r36)] PC.flatB) = true by simp [PC.flatB, PC.scalar, cI, cK, cB, cS, eS]), (at?_0 h39), (at?_map (f := eS) h39), (at?_map (f := eS) h39), h40, h41, trivial⟩ ?_
            refine Tri.ret ?_
            obtain rfl := Option.some.inj H
            exact ⟨.inr rfl, rfl, rfl, Nat.le_refl _, rfl, by simp⟩
        · unfold impl_Ins__listed.e1 at h29
          refine Tri.rn [1, 3, 8, 43] 1 [] [] [] ⟨63, [(1, o1 (.ref 0 0)), (3, oS r1), (8, oI a0.f0), (43, oB (decide (a0.f0 = 4)))], [eSIns a0], 0, []⟩ (by kernel_rfl) trivial ?_
          rcases ite_some h29 with ⟨h23, h29⟩ | ⟨h23, h29⟩
          · refine Tri.cond_true (useb (decide_eq_true h23) (by kernel_rfl)) ?_
            refine Tri.fix [1, 3, 43] 1 [] ⟨63, [(1, o1 (.ref 0 0)), (3, oS r1), (43, oB (decide (a0.f0 = 4)))], [eSIns a0], 0, []⟩ (by kernel_rfl) ?_
            refine Tri.skip ?_
            exact ⟨(decide (a0.f0 = 4)), (Option.some.inj h29).symm, rfl⟩
          · refine Tri.cond_false (useb (decide_eq_false h23) (by kernel_rfl)) ?_
            refine Tri.rn [1, 3, 8, 43] 1 [] [] [] ⟨63, [(1, o1 (.ref 0 0)), (3, oS r1), (8, oI a0.f0), (43, oB (decide (a0.f0 = 5)))], [eSIns a0], 0, []⟩ (by kernel_rfl) trivial ?_
            rcases ite_some h29 with ⟨h24, h29⟩ | ⟨h24, h29⟩
            · refine Tri.cond_true (useb (decide_eq_true h24) (by kernel_rfl)) ?_
              refine Tri.fix [1, 3, 43] 1 [] ⟨63, [(1, o1 (.ref 0 0)), (3, oS r1), (43, oB (decide (a0.f0 = 5)))], [eSIns a0], 0, []⟩ (by kernel_rfl) ?_
              refine Tri.skip ?_
              exact ⟨(decide (a0.f0 = 5)), (Option.some.inj h29).symm, rfl⟩
            · refine Tri.cond_false (useb (decide_eq_false h24) (by kernel_rfl)) ?_
              refine Tri.rn [1, 3, 8, 43] 1 [] [] [] ⟨63, [(1, o1 (.ref 0 0)), (3, oS r1), (8, oI a0.f0), (43, oB (decide (a0.f0 = 8)))], [eSIns a0], 0, []⟩ (by kernel_rfl) trivial ?_
              rcases ite_some h29 with ⟨h25, h29⟩ | ⟨h25, h29⟩
              · refine Tri.cond_true (useb (decide_eq_true h25) (by kernel_rfl)) ?_
                refine Tri.fix [1, 3, 43] 1 [] ⟨63, [(1, o1 (.ref 0 0)), (3, oS r1), (43, oB (decide (a0.f0 = 8)))], [eSIns a0], 0, []⟩ (by kernel_rfl) ?_
                refine Tri.skip ?_
                exact ⟨(decide (a0.f0 = 8)), (Option.some.inj h29).symm, rfl⟩
              · refine Tri.cond_false (useb (decide_eq_false h25) (by kernel_rfl)) ?_
                refine Tri.rn [1, 3, 8, 43] 1 [] [] [] ⟨63, [(1, o1 (.ref 0 0)), (3, oS r1), (8, oI a0.f0), (43, oB (decide (a0.f0 = 9)))], [eSIns a0], 0, []⟩ (by kernel_rfl) trivial ?_
                rcases ite_some h29 with ⟨h26, h29⟩ | ⟨h26, h29⟩
                · refine Tri.cond_true (useb (decide_eq_true h26) (by kernel_rfl)) ?_
                  refine Tri.fix [1, 3, 43] 1 [] ⟨63, [(1, o1 (.ref 0 0)), (3, oS r1), (43, oB (decide (a0.f0 = 9)))], [eSIns a0], 0, []⟩ (by kernel_rfl) ?_
                  refine Tri.skip ?_
                  exact ⟨(decide (a0.f0 = 9)), (Option.some.inj h29).symm, rfl⟩
                · refine Tri.cond_false (useb (decide_eq_false h26) (by kernel_rfl)) ?_
                  refine Tri.rn [1, 3, 8, 43] 1 [] [] [] ⟨63, [(1, o1 (.ref 0 0)), (3, oS r1), (8, oI a0.f0), (43, oB (decide (a0.f0 = 10)))], [eSIns a0], 0, []⟩ (by kernel_rfl) trivial ?_
                  rcases ite_some h29 with ⟨h27, h29⟩ | ⟨h27, h29⟩
                  · refine Tri.cond_true (useb (decide_eq_true h27) (by kernel_rfl)) ?_
                    refine Tri.fix [1, 3, 43] 1 [] ⟨63, [(1, o1 (.ref 0 0)), (3, oS r1), (43, oB (decide (a0.f0 = 10)))], [eSIns a0], 0, []⟩ (by kernel_rfl) ?_
                    refine Tri.skip ?_
                    exact ⟨(decide (a0.f0 = 10)), (Option.some.inj h29).symm, rfl⟩
                  · refine Tri.cond_false (useb (decide_eq_false h27) (by kernel_rfl)) ?_
                    refine Tri.r1 [1, 3, 43] 1 [] [] [] ⟨63, [(1, o1 (.ref 0 0)), (3, oS r1), (43, oB (decide (a0.f0 = 14)))], [eSIns a0], 0, []⟩ (by kernel_rfl) trivial ?_
                    exact ⟨(decide (a0.f0 = 14)), (Option.some.inj h29).symm, rfl⟩
/-! strings_Builder__copyCheck_2: function 61 -/
def strings_Builder__copyCheck_2.f (k : Nat) (b0_1 : Bool) (b0_2 : (List Int)) : Option Bool := if b0_1 = true then (some b0_1) else (some true)
set_option maxRecDepth 100000 in
theorem strings_Builder__copyCheck_2.fn (k : Nat) (b0_1 : Bool) (b0_2 : (List Int)) (r : Bool) (H : strings_Builder__copyCheck_2.f k b0_1 b0_2 = some r) : FnG Tryd.prog 61 [o1 (.ref 0 0)] [] [[.opt 76 b0_1 0 0, .own 5 (List.map (eK .u8) b0_2)]] (tp [] []) [] [[.opt 76 r 0 0, .own 5 (List.map (eK .u8) b0_2)]] := by
  unfold strings_Builder__copyCheck_2.f at H
  refine FnG.body (ts := []) Tryd.func61 rfl rfl (by decide) (by decide) (Nat.le_of_ble_eq_true rfl) rfl (Nat.le_of_ble_eq_true rfl) ?_
  refine Tri.rn [0, 6] 1 [] [] [] ⟨20, [(0, o1 (.ref 0 0)), (6, oB (!b0_1))], [[.opt 76 b0_1 0 0, .own 5 (List.map (eK .u8) b0_2)]], 1, []⟩ (by kernel_rfl) trivial ?_
  rcases iteb_some H with ⟨h1, H⟩ | ⟨h1, H⟩
  · refine Tri.cond_false (useb (nF h1) (by kernel_rfl)) ?_
    refine Tri.rn [19] 1 [] [(5, .ov [.sc (.bool false)])] [_] ⟨20, [(19, oB false)], [[.opt 76 b0_1 0 0, .own 5 (List.map (eK .u8) b0_2)]], 1, []⟩ (by kernel_rfl) ⟨(ovb (nF h1)), trivial⟩ ?_
    refine Tri.cond_false (by kernel_rfl) ?_
    refine Tri.skip ?_
    obtain rfl := Option.some.inj H
    exact endsG (.inl rfl) (by kernel_rfl)
  · refine Tri.cond_true (useb (nT h1) (by kernel_rfl)) ?_
    refine Tri.r1 [] 1 [] [] [_] ⟨20, [], [[.opt 76 true 0 0, .own 5 (List.map (eK .u8) b0_2)]], 1, []⟩ (by kernel_rfl) ⟨(⟨_, Tryd.func91, by kernel_rfl, by kernel_rfl, by kernel_rfl, by kernel_rfl⟩ : isSame Tryd.prog 91), trivial⟩ ?_
    obtain rfl := Option.some.inj H
    exact endsG (.inl rfl) (by kernel_rfl)
/-! strings_Builder__WriteString_1: function 37 -/
def strings_Builder__WriteString_1.f (k : Nat) (a1 : ByteArray) (b0_1 : Bool) (b0_2 : (List Int)) : Option (Int × Bool × (List Int)) := (strings_Builder__copyCheck_2.f k b0_1 b0_2).bind fun r1 => if (b0_2 ++ (bytesOf a1)).length * 1 ≤ 140737488355328 then (some ((a1.size : Int), r1, b0_2 ++ (bytesOf a1))) else none
set_option maxRecDepth 100000 in
theorem strings_Builder__WriteString_1.fn (k : Nat) (a1 : ByteArray) (b0_1 : Bool) (b0_2 : (List Int)) (r : (Int × Bool × (List Int))) (H : strings_Builder__WriteString_1.f k a1 b0_1 b0_2 = some r) : FnG Tryd.prog 37 [o1 (.ref 0 0), oS a1] [] [[.opt 76 b0_1 0 0, .own 5 (List.map (eK .u8) b0_2)]] (tp [none, none] [cI r.1, .sc .nilIface]) [] [[.opt 76 r.2.1 0 0, .own 5 (List.map (eK .u8) r.2.2)]] := by
  unfold strings_Builder__WriteString_1.f at H
  refine FnG.body (ts := [4, 5]) Tryd.func37 rfl rfl (by decide) (by decide) (Nat.le_of_ble_eq_true rfl) rfl (Nat.le_of_ble_eq_true rfl) ?_
  refine Tri.rn [0, 1] 1 [] [] [] ⟨19, [(0, o1 (.ref 0 0)), (1, oS a1)], [[.opt 76 b0_1 0 0, .own 5 (List.map (eK .u8) b0_2)]], 1, []⟩ (by kernel_rfl) trivial ?_
  obtain ⟨r1, h2, H⟩ := bind_some' H
  refine Tri.rn [0, 1] 1 [] [(1, .callB (tp [] []) [] [0] none [] [[.opt 76 r1 0 0, .own 5 (List.map (eK .u8) b0_2)]])] [_] ⟨19, [(0, o1 (.ref 0 0)), (1, oS a1)], [[.opt 76 r1 0 0, .own 5 (List.map (eK .u8) b0_2)]], 1, []⟩ (by kernel_rfl) ⟨(strings_Builder__copyCheck_2.fn k b0_1 b0_2 r1 h2), trivial⟩ ?_
  obtain ⟨h3, H⟩ := need_some H
  refine Tri.rn [1] 1 [] [(6, .ov [.own 5 (List.map (eK .u8) (b0_2 ++ (bytesOf a1)))])] [_, _, _] ⟨19, [(1, oS a1)], [[.opt 76 r1 0 0, .own 5 (List.map (eK .u8) (b0_2 ++ (bytesOf a1)))]], 1, []⟩ (by kernel_rfl) ⟨(appS1 (by decide) h3), (appS2 h3), (ovappS (e := 5) (l := b0_2) (s := a1)), trivial⟩ ?_
  refine Tri.rn [4, 5] 1 [] [] [] ⟨19, [(4, oI (a1.size : Int)), (5, o1 (.sc .nilIface))], [[.opt 76 r1 0 0, .own 5 (List.map (eK .u8) (b0_2 ++ (bytesOf a1)))]], 1, []⟩ (by kernel_rfl) trivial ?_
  refine Tri.ret ?_
  obtain rfl := Option.some.inj H
  exact endsG (.inr rfl) (by kernel_rfl)
def strings_Builder_String_2.f (k : Nat) (b0_1 : Bool) (b0_2 : (List Int)) : Option ByteArray := strings_Builder_String.f k b0_2
theorem strings_Builder_String_2.fn (k : Nat) (b0_1 : Bool) (b0_2 : (List Int)) (r : ByteArray) (H : strings_Builder_String_2.f k b0_1 b0_2 = some r) : FnG Tryd.prog 40 [o1 (.ref 0 0)] [] [[.opt 76 b0_1 0 0, .own 5 (List.map (eK .u8) b0_2)]] (oS r) [] [[.opt 76 b0_1 0 0, .dead]] := strings_Builder_String.fn k b0_1 b0_2 [] r H
/-! impl_Listing: function 14 -/
def impl_Listing.l1 : Nat → SCode → Int → Bool → (List Int) → Option (Bool × (List Int))
  | 0, _, _, _, _ => none
  | k + 1, a0, z30, z31, z32 => if z30 < (a0.f4.length : Int) then ((at? a0.f4 z30).bind fun x34 => (strconv_Itoa.f k z30).bind fun r36 => if r36.size + (⟨#[32]⟩ : ByteArray).size ≤ 9223372036854775807 then ((impl_Ins__listed.f k x34).bind fun r39 => if (r36 ++ (⟨#[32]⟩ : ByteArray)).size + r39.size ≤ 9223372036854775807 then (if ((r36 ++ (⟨#[32]⟩ : ByteArray)) ++ r39).size + (⟨#[10]⟩ : ByteArray).size ≤ 9223372036854775807 then ((strings_Builder__WriteString_1.f k (((r36 ++ (⟨#[32]⟩ : ByteArray)) ++ r39) ++ (⟨#[10]⟩ : ByteArray)) z31 z32).bind fun r43 => impl_Listing.l1 k a0 (w64 (z30 + 1)) r43.2.1 r43.2.2) else none) else none) else none) else (some (z31, z32))
def impl_Listing.e2 (k : Nat) (a0 : SCode) : Option (Bool × (List Int)) := impl_Listing.l1 k a0 0 false ([] : List Int)
def impl_Listing.f (k : Nat) (a0 : SCode) : Option (ByteArray × Int) := (impl_Code__verifies.f k a0).bind fun r1 => if r1 = true then ((impl_Listing.e2 k a0).bind fun v => match v with | (y46, y47) => (strings_Builder_String_2.f k y46 y47).bind fun r50 => some (r50, 0)) else (some ((⟨#[]⟩ : ByteArray), 1))
set_option maxRecDepth 100000 in
theorem impl_Listing.fn (k : Nat) (a0 : SCode) (r : (ByteArray × Int)) (H : impl_Listing.f k a0 = some r) : Fn Tryd.prog 14 [ag (eSCode a0)] [] (tp [none, none] [cS r.1, cI r.2]) [] := by
  unfold impl_Listing.f at H
  refine Fn.body (ts := [2, 3]) Tryd.func14 rfl rfl (by decide) (by decide) (Nat.le_of_ble_eq_true rfl) (Nat.le_refl _) ?_
  refine Tri.rn [1] 1 [] [] [] ⟨28, [(1, o1 (.ref 0 0))], [eSCode a0], 0, []⟩ (by kernel_rfl) trivial ?_
  refine Tri.seq ?_
  obtain ⟨r1, h2, H⟩ := bind_some' H
  refine Tri.rn [1, 9] 1 [] [(1, .call (oB r1) [] false)] [_, _] ⟨28, [(1, o1 (.ref 0 0)), (9, oB (!r1))], [eSCode a0], 0, []⟩ (by kernel_rfl) ⟨(impl_Code__verifies.fn k a0 r1 h2), (show (List.all [cB r1] PC.flatB) = true from rfl), trivial⟩ ?_
  rcases iteb_some H with ⟨h3, H⟩ | ⟨h3, H⟩
  · refine Tri.cond_false (useb (nF h3) (by kernel_rfl)) ?_
    refine Tri.skip ?_
    refine Tri.rn [1, 4] 2 [] [(0, .nz [0])] [] ⟨28, [(1, o1 (.ref 0 0)), (4, o1 (.ref 1 0))], [eSCode a0, [.opt 76 false 1 0, .nl]], 0, []⟩ (by kernel_rfl) trivial ?_
    obtain ⟨v49, h48, H⟩ := bind_some' H
    refine Tri.join (α := (Bool × (List Int))) (fun w => v49 = w) (fun w => ⟨28, [(4, o1 (.ref 1 0))], [eSCode a0, [.opt 76 w.1 1 0, .own 5 (List.map (eK .u8) w.2)]], 0, []⟩) (fun w hw => ?_) ?_
    · rw [hw] at H; clear hw
      obtain ⟨y46, y47⟩ := w
      try dsimp only at H
      obtain ⟨r50, h51, H⟩ := bind_some' H
      refine Tri.rn [2, 3] 0 [] [(0, .callB (oS r50) [] [1] none [] [[.opt 76 y46 0 0, .dead]])] [_] ⟨28, [(2, oS r50), (3, oI 0)], [], 0, []⟩ (by kernel_rfl) ⟨(strings_Builder_String_2.fn k y46 y47 r50 h51), trivial⟩ ?_
      refine Tri.ret ?_
      obtain rfl := Option.some.inj H
      exact ⟨.inr rfl, rfl, rfl, Nat.le_refl _, rfl, by simp⟩
    · unfold impl_Listing.e2 at h48
      refine Tri.rn [4, 11, 12, 13] 2 [] [(2, .ov [.sc (.int .i64 (a0.f4.length : Int))])] [_] ⟨28, [(4, o1 (.ref 1 0)), (11, o1 (.sl 5 (List.map eSIns a0.f4))), (12, oI (a0.f4.length : Int)), (13, oI 0)], [eSCode a0, [.opt 76 false 1 0, .nl]], 0, []⟩ (by kernel_rfl) ⟨(ovlen (f := eSIns) (l := a0.f4)), trivial⟩ ?_
      refine Tri.block ?_
      refine Tri.fix [4, 11, 12, 13] 2 [.own (.b 1 1) 5] ⟨28, [(4, o1 (.ref 1 0)), (11, o1 (.sl 5 (List.map eSIns a0.f4))), (12, oI (a0.f4.length : Int)), (13, oI 0)], [eSCode a0, [.opt 76 false 1 0, .own 5 (List.map (eK .u8) ([] : List Int))]], 0, []⟩ (by kernel_rfl) ?_
      refine Tri.loop k (TriR.ind (α := (Int × Bool × (List Int))) (fun k x => impl_Listing.l1 k a0 x.1 x.2.1 x.2.2) (fun x => ⟨28, [(4, o1 (.ref 1 0)), (11, o1 (.sl 5 (List.map eSIns a0.f4))), (12, oI (a0.f4.length : Int)), (13, oI x.1)], [eSCode a0, [.opt 76 x.2.1 1 0, .own 5 (List.map (eK .u8) x.2.2)]], 0, []⟩) (fun _ => rfl) (fun k x h48 IH45 => ?_) k (0, false, ([] : List Int)) h48)
      obtain ⟨z30, z31, z32⟩ := x
      rw [impl_Listing.l1.eq_2] at h48
      refine Tri.rn [4, 11, 12, 13, 14] 2 [] [] [] ⟨28, [(4, o1 (.ref 1 0)), (11, o1 (.sl 5 (List.map eSIns a0.f4))), (12, oI (a0.f4.length : Int)), (13, oI z30), (14, oB (decide (z30 < (a0.f4.length : Int))))], [eSCode a0, [.opt 76 z31 1 0, .own 5 (List.map (eK .u8) z32)]], 0, []⟩ (by kernel_rfl) trivial ?_
      refine Tri.seq ?_
      rcases ite_some h48 with ⟨h33, h48⟩ | ⟨h33, h48⟩
      · refine Tri.cond_true (useb (decide_eq_true h33) (by kernel_rfl)) ?_
        refine Tri.skip ?_
        refine Tri.seq ?_
        refine Tri.block ?_
        obtain ⟨x34, h35, h48⟩ := bind_some' h48
        refine Tri.rn [4, 5, 6, 11, 12, 13] 3 [] [(1, .el (eSIns x34))] [_, _] ⟨28, [(4, o1 (.ref 1 0)), (5, oI z30), (6, o1 (.ref 2 0)), (11, o1 (.sl 5 (List.map eSIns a0.f4))), (12, oI (a0.f4.length : Int)), (13, oI z30)], [eSCode a0, [.opt 76 z31 1 0, .own 5 (List.map (eK .u8) z32)], eSIns x34], 0, []⟩ (by kernel_rfl) ⟨(at?_0 h35), (at?_map (f := eSIns) h35), trivial⟩ ?_
        obtain ⟨r36, h37, h48⟩ := bind_some' h48
        obtain ⟨h38, h48⟩ := need_some h48
        obtain ⟨r39, h40, h48⟩ := bind_some' h48
        obtain ⟨h41, h48⟩ := need_some h48
        obtain ⟨h42, h48⟩ := need_some h48
        obtain ⟨r43, h44, h48⟩ := bind_some' h48
        refine Tri.d1 hmix 5 [[], [0], [0, 1], [], [0, 1, 3], [0, 1, 2, 3, 4], [0, 1, 2, 3, 4, 5], [0, 1, 2, 3, 4, 5, 6]] [4, 11, 12, 13] 2 [] [(1, .call (oS r36) [] false), (4, .call (oS r39) [] false), (7, .callB (tp [none, none] [cI r43.1, .sc .nilIface]) [] [1] none [] [[.opt 76 r43.2.1 0 0, .own 5 (List.map (eK .u8) r43.2.2)]])] [_, _, _, _, _, _, _, _] ⟨28, [(4, o1 (.ref 1 0)), (11, o1 (.sl 5 (List.map eSIns a0.f4))), (12, oI (a0.f4.length : Int)), (13, oI z30)], [eSCode a0, [.opt 76 r43.2.1 1 0, .own 5 (List.map (eK .u8) r43.2.2)]], 0, []⟩ (by kernel_rfl) ⟨(strconv_Itoa.fn k z30 r36 h37), (show (List.all [cS r36] PC.flatB) = true from rfl), h38, (impl_Ins__listed.fn k x34 r39 h40), (show (List.all [cS r39] PC.flatB) = true from rfl), h41, h42, (strings_Builder__WriteString_1.fn k (((r36 ++ (⟨#[32]⟩ : ByteArray)) ++ r39) ++ (⟨#[10]⟩ : ByteArray)) z31 z32 r43 h44), trivial⟩ ?_
        refine Tri.r1 [4, 11, 12, 13] 2 [] [] [] ⟨28, [(4, o1 (.ref 1 0)), (11, o1 (.sl 5 (List.map eSIns a0.f4))), (12, oI (a0.f4.length : Int)), (13, oI (w64 (z30 + 1)))], [eSCode a0, [.opt 76 r43.2.1 1 0, .own 5 (List.map (eK .u8) r43.2.2)]], 0, []⟩ (by kernel_rfl) trivial ?_
        exact IH45 _ (w64 (z30 + 1), r43.2.1, r43.2.2) (Nat.le_refl _) h48
      · refine Tri.cond_false (useb (decide_eq_false h33) (by kernel_rfl)) ?_
        refine Tri.fix [4] 2 [] ⟨28, [(4, o1 (.ref 1 0))], [eSCode a0, [.opt 76 z31 1 0, .own 5 (List.map (eK .u8) z32)]], 0, []⟩ (by kernel_rfl) ?_
        refine Tri.exit ?_
        repeat (with_reducible refine Ex.exit ?_)
        refine Bk.here ?_
        exact ⟨(z31, z32), (Option.some.inj h48).symm, rfl⟩
  · refine Tri.cond_true (useb (nT h3) (by kernel_rfl)) ?_
    refine Tri.rn [2, 3] 0 [] [] [] ⟨28, [(2, oS (⟨#[]⟩ : ByteArray)), (3, oI 1)], [], 0, []⟩ (by kernel_rfl) trivial ?_
    refine Tri.ret ?_
    obtain rfl := Option.some.inj H
    exact ⟨.inr rfl, rfl, rfl, Nat.le_refl _, rfl, by simp⟩
/-! laws_eqIns: function 65 -/
def laws_eqIns.f (k : Nat) (a0 : SIns) (a1 : SIns) : Option Bool := if a0.f0 = a1.f0 then (if a0.f1 = a1.f1 then (if a0.f2 = a1.f2 then (if a0.f3 = a1.f3 then (if a0.f4 = a1.f4 then (some true) else (some false)) else (some false)) else (some false)) else (some false)) else (some false)
set_option maxRecDepth 100000 in
theorem laws_eqIns.fn (k : Nat) (a0 : SIns) (a1 : SIns) (r : Bool) (H : laws_eqIns.f k a0 a1 = some r) : Fn Tryd.prog 65 [ag (eSIns a0), ag (eSIns a1)] [] (oB r) [] := by
  unfold laws_eqIns.f at H
  refine Fn.body (ts := [4]) Tryd.func65 rfl rfl (by decide) (by decide) (Nat.le_of_ble_eq_true rfl) (Nat.le_refl _) ?_
  refine Tri.rn [2, 3] 2 [] [] [] ⟨30, [(2, o1 (.ref 0 0)), (3, o1 (.ref 1 0))], [eSIns a0, eSIns a1], 0, []⟩ (by kernel_rfl) trivial ?_
  refine Tri.seq ?_
  refine Tri.rn [2, 3, 9] 2 [] [] [] ⟨30, [(2, o1 (.ref 0 0)), (3, o1 (.ref 1 0)), (9, oB (!(decide (a0.f0 = a1.f0))))], [eSIns a0, eSIns a1], 0, []⟩ (by kernel_rfl) trivial ?_
  rcases ite_some H with ⟨h1, H⟩ | ⟨h1, H⟩
  · refine Tri.cond_false (useb (nF (decide_eq_true h1)) (by kernel_rfl)) ?_
    refine Tri.skip ?_
    refine Tri.seq ?_
    refine Tri.rn [2, 3, 14] 2 [] [] [] ⟨30, [(2, o1 (.ref 0 0)), (3, o1 (.ref 1 0)), (14, oB (!(decide (a0.f1 = a1.f1))))], [eSIns a0, eSIns a1], 0, []⟩ (by kernel_rfl) trivial ?_
    rcases ite_some H with ⟨h2, H⟩ | ⟨h2, H⟩
    · refine Tri.cond_false (useb (nF (decide_eq_true h2)) (by kernel_rfl)) ?_
      refine Tri.skip ?_
      refine Tri.seq ?_
      refine Tri.rn [2, 3, 19] 2 [] [] [] ⟨30, [(2, o1 (.ref 0 0)), (3, o1 (.ref 1 0)), (19, oB (!(decide (a0.f2 = a1.f2))))], [eSIns a0, eSIns a1], 0, []⟩ (by kernel_rfl) trivial ?_
      rcases ite_some H with ⟨h3, H⟩ | ⟨h3, H⟩
      · refine Tri.cond_false (useb (nF (decide_eq_true h3)) (by kernel_rfl)) ?_
        refine Tri.skip ?_
        refine Tri.seq ?_
        refine Tri.rn [2, 3, 24] 2 [] [] [] ⟨30, [(2, o1 (.ref 0 0)), (3, o1 (.ref 1 0)), (24, oB (!(decide (a0.f3 = a1.f3))))], [eSIns a0, eSIns a1], 0, []⟩ (by kernel_rfl) trivial ?_
        rcases ite_some H with ⟨h4, H⟩ | ⟨h4, H⟩
        · refine Tri.cond_false (useb (nF (decide_eq_true h4)) (by kernel_rfl)) ?_
          refine Tri.skip ?_
          refine Tri.seq ?_
          refine Tri.rn [29] 0 [] [] [] ⟨30, [(29, oB (!(decide (a0.f4 = a1.f4))))], [], 0, []⟩ (by kernel_rfl) trivial ?_
          rcases ite_some H with ⟨h5, H⟩ | ⟨h5, H⟩
          · refine Tri.cond_false (useb (nF (decide_eq_true h5)) (by kernel_rfl)) ?_
            refine Tri.skip ?_
            refine Tri.rn [4] 0 [] [] [] ⟨30, [(4, oB true)], [], 0, []⟩ (by kernel_rfl) trivial ?_
            refine Tri.ret ?_
            obtain rfl := Option.some.inj H
            exact ⟨.inr rfl, rfl, rfl, Nat.le_refl _, rfl, by simp⟩
          · refine Tri.cond_true (useb (nT (decide_eq_false h5)) (by kernel_rfl)) ?_
            refine Tri.rn [4] 0 [] [] [] ⟨30, [(4, oB false)], [], 0, []⟩ (by kernel_rfl) trivial ?_
            refine Tri.ret ?_
            obtain rfl := Option.some.inj H
            exact ⟨.inr rfl, rfl, rfl, Nat.le_refl _, rfl, by simp⟩
        · refine Tri.cond_true (useb (nT (decide_eq_false h4)) (by kernel_rfl)) ?_
          refine Tri.rn [4] 0 [] [] [] ⟨30, [(4, oB false)], [], 0, []⟩ (by kernel_rfl) trivial ?_
          refine Tri.ret ?_
          obtain rfl := Option.some.inj H
          exact ⟨.inr rfl, rfl, rfl, Nat.le_refl _, rfl, by simp⟩
      · refine Tri.cond_true (useb (nT (decide_eq_false h3)) (by kernel_rfl)) ?_
        refine Tri.rn [4] 0 [] [] [] ⟨30, [(4, oB false)], [], 0, []⟩ (by kernel_rfl) trivial ?_
        refine Tri.ret ?_
        obtain rfl := Option.some.inj H
        exact ⟨.inr rfl, rfl, rfl, Nat.le_refl _, rfl, by simp⟩
    · refine Tri.cond_true (useb (nT (decide_eq_false h2)) (by kernel_rfl)) ?_
      refine Tri.rn [4] 0 [] [] [] ⟨30, [(4, oB false)], [], 0, []⟩ (by kernel_rfl) trivial ?_
      refine Tri.ret ?_
      obtain rfl := Option.some.inj H
      exact ⟨.inr rfl, rfl, rfl, Nat.le_refl _, rfl, by simp⟩
  · refine Tri.cond_true (useb (nT (decide_eq_false h1)) (by kernel_rfl)) ?_
    refine Tri.rn [4] 0 [] [] [] ⟨30, [(4, oB false)], [], 0, []⟩ (by kernel_rfl) trivial ?_
    refine Tri.ret ?_
    obtain rfl := Option.some.inj H
    exact ⟨.inr rfl, rfl, rfl, Nat.le_refl _, rfl, by simp⟩
/-! laws_eqInsS: function 41 -/
def laws_eqInsS.l1 : Nat → (List SIns) → (List SIns) → Int → Option (Bool ⊕ Unit)
  | 0, _, _, _ => none
  | k + 1, a0, a1, z10 => if z10 < (a0.length : Int) then ((at? a0 z10).bind fun x12 => (at? a1 z10).bind fun x14 => (laws_eqIns.f k x12 x14).bind fun r16 => if r16 = true then (laws_eqInsS.l1 k a0 a1 (w64 (z10 + 1))) else (some (.inl false))) else (some (.inr ()))
def laws_eqInsS.e2 (k : Nat) (a0 : (List SIns)) (a1 : (List SIns)) : Option (Bool ⊕ Unit) := laws_eqInsS.l1 k a0 a1 0
def laws_eqInsS.f (k : Nat) (a0 : (List SIns)) (a1 : (List SIns)) : Option Bool := if (a0.length : Int) = (a1.length : Int) then ((laws_eqInsS.e2 k a0 a1).bind fun v => match v with | .inl r => some r | .inr _ => some true) else (some false)
set_option maxRecDepth 100000 in
theorem laws_eqInsS.fn (k : Nat) (a0 : (List SIns)) (a1 : (List SIns)) (r : Bool) (H : laws_eqInsS.f k a0 a1 = some r) : Fn Tryd.prog 41 [o1 (.sl 5 (List.map eSIns a0)), o1 (.sl 5 (List.map eSIns a1))] [] (oB r) [] := by
  unfold laws_eqInsS.f at H
  refine Fn.body (ts := [4]) Tryd.func41 rfl rfl (by decide) (by decide) (Nat.le_of_ble_eq_true rfl) (Nat.le_refl _) ?_
  refine Tri.rn [0, 1] 0 [] [] [] ⟨27, [(0, o1 (.sl 5 (List.map eSIns a0))), (1, o1 (.sl 5 (List.map eSIns a1)))], [], 0, []⟩ (by kernel_rfl) trivial ?_
  refine Tri.seq ?_
  refine Tri.rn [0, 1, 10] 0 [] [(1, .ov [.sc (.int .i64 (a0.length : Int))]), (3, .ov [.sc (.int .i64 (a1.length : Int))])] [_, _] ⟨27, [(0, o1 (.sl 5 (List.map eSIns a0))), (1, o1 (.sl 5 (List.map eSIns a1))), (10, oB (!(decide ((a0.length : Int) = (a1.length : Int)))))], [], 0, []⟩ (by kernel_rfl) ⟨(ovlen (f := eSIns) (l := a0)), (ovlen (f := eSIns) (l := a1)), trivial⟩ ?_
  rcases ite_some H with ⟨h1, H⟩ | ⟨h1, H⟩
  · refine Tri.cond_false (useb (nF (decide_eq_true h1)) (by kernel_rfl)) ?_
    refine Tri.skip ?_
    obtain ⟨v21, h20, H⟩ := bind_some' H
    refine Tri.join (α := Unit) (fun w => v21 = .inr w) (fun _ => ⟨27, [], [], 0, []⟩) (fun w hw => ?_) ?_
    · rw [hw] at H; clear hw
      try dsimp only at H
      refine Tri.rn [4] 0 [] [] [] ⟨27, [(4, oB true)], [], 0, []⟩ (by kernel_rfl) trivial ?_
      refine Tri.ret ?_
      obtain rfl := Option.some.inj H
      exact ⟨.inr rfl, rfl, rfl, Nat.le_refl _, rfl, by simp⟩
    · unfold laws_eqInsS.e2 at h20
      refine Tri.rn [0, 1, 5] 0 [] [] [] ⟨27, [(0, o1 (.sl 5 (List.map eSIns a0))), (1, o1 (.sl 5 (List.map eSIns a1))), (5, oI 0)], [], 0, []⟩ (by kernel_rfl) trivial ?_
      refine Tri.block ?_
      refine Tri.loop k (TriR.ind (α := Int) (fun k x => laws_eqInsS.l1 k a0 a1 x) (fun x => ⟨27, [(0, o1 (.sl 5 (List.map eSIns a0))), (1, o1 (.sl 5 (List.map eSIns a1))), (5, oI x)], [], 0, []⟩) (fun _ => rfl) (fun k z10 h20 IH19 => ?_) k 0 h20)
      rw [laws_eqInsS.l1.eq_2] at h20
      refine Tri.seq ?_
      refine Tri.rn [0, 1, 5, 14] 0 [] [(2, .ov [.sc (.int .i64 (a0.length : Int))])] [_] ⟨27, [(0, o1 (.sl 5 (List.map eSIns a0))), (1, o1 (.sl 5 (List.map eSIns a1))), (5, oI z10), (14, oB (decide (z10 < (a0.length : Int))))], [], 0, []⟩ (by kernel_rfl) ⟨(ovlen (f := eSIns) (l := a0)), trivial⟩ ?_
      rcases ite_some h20 with ⟨h11, h20⟩ | ⟨h11, h20⟩
      · refine Tri.cond_true (useb (decide_eq_true h11) (by kernel_rfl)) ?_
        refine Tri.skip ?_
        refine Tri.seq ?_
        refine Tri.block ?_
        obtain ⟨x12, h13, h20⟩ := bind_some' h20
        obtain ⟨x14, h15, h20⟩ := bind_some' h20
        obtain ⟨r16, h17, h20⟩ := bind_some' h20
        refine Tri.dn hmix 8 [[], [], [0, 1], [0, 1, 2], [], [], [4, 5], [4, 5, 6], [0, 1, 2, 3, 4, 5, 6, 7], [0, 1, 2, 3, 4, 5, 6, 7, 8]] [0, 1, 5, 26] 0 [] [(2, .el (eSIns x12)), (6, .el (eSIns x14)), (8, .call (oB r16) [] false)] [_, _, _, _, _, _] ⟨27, [(0, o1 (.sl 5 (List.map eSIns a0))), (1, o1 (.sl 5 (List.map eSIns a1))), (5, oI z10), (26, oB (!r16))], [], 0, []⟩ (by kernel_rfl) ⟨(at?_0 h13), (at?_map (f := eSIns) h13), (at?_0 h15), (at?_map (f := eSIns) h15), (laws_eqIns.fn k x12 x14 r16 h17), (show (List.all [cB r16] PC.flatB) = true from rfl), trivial⟩ ?_
        rcases iteb_some h20 with ⟨h18, h20⟩ | ⟨h18, h20⟩
        · refine Tri.cond_false (useb (nF h18) (by kernel_rfl)) ?_
          refine Tri.skip ?_
          refine Tri.r1 [0, 1, 5] 0 [] [] [] ⟨27, [(0, o1 (.sl 5 (List.map eSIns a0))), (1, o1 (.sl 5 (List.map eSIns a1))), (5, oI (w64 (z10 + 1)))], [], 0, []⟩ (by kernel_rfl) trivial ?_
          exact IH19 _ (w64 (z10 + 1)) (Nat.le_refl _) h20
        · refine Tri.cond_true (useb (nT h18) (by kernel_rfl)) ?_
          refine Tri.rn [4] 0 [] [] [] ⟨27, [(4, oB false)], [], 0, []⟩ (by kernel_rfl) trivial ?_
          refine Tri.ret ?_
          obtain rfl := Option.some.inj h20
          try dsimp only at H
          obtain rfl := Option.some.inj H
          exact ⟨.inr rfl, rfl, rfl, Nat.le_refl _, rfl, by simp⟩
      · refine Tri.cond_false (useb (decide_eq_false h11) (by kernel_rfl)) ?_
        refine Tri.fix [] 0 [] ⟨27, [], [], 0, []⟩ (by kernel_rfl) ?_
        refine Tri.exit ?_
        repeat (with_reducible refine Ex.exit ?_)
        refine Bk.here ?_
        exact ⟨(), (Option.some.inj h20).symm, rfl⟩
  · refine Tri.cond_true (useb (nT (decide_eq_false h1)) (by kernel_rfl)) ?_
    refine Tri.rn [4] 0 [] [] [] ⟨27, [(4, oB false)], [], 0, []⟩ (by kernel_rfl) trivial ?_
    refine Tri.ret ?_
    obtain rfl := Option.some.inj H
    exact ⟨.inr rfl, rfl, rfl, Nat.le_refl _, rfl, by simp⟩
/-! laws_eqCode: function 15 -/
def laws_eqCode.f (k : Nat) (a0 : SCode) (a1 : SCode) : Option Bool := if a0.f0 = a1.f0 then (if a0.f1 = a1.f1 then (if a0.f2 = a1.f2 then (if a0.f3 = a1.f3 then ((laws_eqInsS.f k a0.f4 a1.f4).bind fun r5 => if r5 = true then (some true) else (some false)) else (some false)) else (some false)) else (some false)) else (some false)
set_option maxRecDepth 100000 in
theorem laws_eqCode.fn (k : Nat) (a0 : SCode) (a1 : SCode) (r : Bool) (H : laws_eqCode.f k a0 a1 = some r) : Fn Tryd.prog 15 [ag (eSCode a0), ag (eSCode a1)] [] (oB r) [] := by
  unfold laws_eqCode.f at H
  refine Fn.body (ts := [4]) Tryd.func15 rfl rfl (by decide) (by decide) (Nat.le_of_ble_eq_true rfl) (Nat.le_refl _) ?_
  refine Tri.rn [2, 3] 2 [] [] [] ⟨31, [(2, o1 (.ref 0 0)), (3, o1 (.ref 1 0))], [eSCode a0, eSCode a1], 0, []⟩ (by kernel_rfl) trivial ?_
  refine Tri.seq ?_
  refine Tri.rn [2, 3, 9] 2 [] [] [] ⟨31, [(2, o1 (.ref 0 0)), (3, o1 (.ref 1 0)), (9, oB (!(decide (a0.f0 = a1.f0))))], [eSCode a0, eSCode a1], 0, []⟩ (by kernel_rfl) trivial ?_
  rcases ite_some H with ⟨h1, H⟩ | ⟨h1, H⟩
  · refine Tri.cond_false (useb (nF (decide_eq_true h1)) (by kernel_rfl)) ?_
    refine Tri.skip ?_
    refine Tri.seq ?_
    refine Tri.rn [2, 3, 14] 2 [] [] [] ⟨31, [(2, o1 (.ref 0 0)), (3, o1 (.ref 1 0)), (14, oB (!(decide (a0.f1 = a1.f1))))], [eSCode a0, eSCode a1], 0, []⟩ (by kernel_rfl) trivial ?_
    rcases ite_some H with ⟨h2, H⟩ | ⟨h2, H⟩
    · refine Tri.cond_false (useb (nF (decide_eq_true h2)) (by kernel_rfl)) ?_
      refine Tri.skip ?_
      refine Tri.seq ?_
      refine Tri.rn [2, 3, 19] 2 [] [] [] ⟨31, [(2, o1 (.ref 0 0)), (3, o1 (.ref 1 0)), (19, oB (!(decide (a0.f2 = a1.f2))))], [eSCode a0, eSCode a1], 0, []⟩ (by kernel_rfl) trivial ?_
      rcases ite_some H with ⟨h3, H⟩ | ⟨h3, H⟩
      · refine Tri.cond_false (useb (nF (decide_eq_true h3)) (by kernel_rfl)) ?_
        refine Tri.skip ?_
        refine Tri.seq ?_
        refine Tri.rn [2, 3, 24] 2 [] [] [] ⟨31, [(2, o1 (.ref 0 0)), (3, o1 (.ref 1 0)), (24, oB (!(decide (a0.f3 = a1.f3))))], [eSCode a0, eSCode a1], 0, []⟩ (by kernel_rfl) trivial ?_
        rcases ite_some H with ⟨h4, H⟩ | ⟨h4, H⟩
        · refine Tri.cond_false (useb (nF (decide_eq_true h4)) (by kernel_rfl)) ?_
          refine Tri.skip ?_
          refine Tri.seq ?_
          obtain ⟨r5, h6, H⟩ := bind_some' H
          refine Tri.rn [30] 0 [] [(4, .call (oB r5) [] false)] [_, _] ⟨31, [(30, oB (!r5))], [], 0, []⟩ (by kernel_rfl) ⟨(laws_eqInsS.fn k a0.f4 a1.f4 r5 h6), (show (List.all [cB r5] PC.flatB) = true from rfl), trivial⟩ ?_
          rcases iteb_some H with ⟨h7, H⟩ | ⟨h7, H⟩
          · refine Tri.cond_false (useb (nF h7) (by kernel_rfl)) ?_
            refine Tri.skip ?_
            refine Tri.rn [4] 0 [] [] [] ⟨31, [(4, oB true)], [], 0, []⟩ (by kernel_rfl) trivial ?_
            refine Tri.ret ?_
            obtain rfl := Option.some.inj H
            exact ⟨.inr rfl, rfl, rfl, Nat.le_refl _, rfl, by simp⟩
          · refine Tri.cond_true (useb (nT h7) (by kernel_rfl)) ?_
            refine Tri.rn [4] 0 [] [] [] ⟨31, [(4, oB false)], [], 0, []⟩ (by kernel_rfl) trivial ?_
            refine Tri.ret ?_
            obtain rfl := Option.some.inj H
            exact ⟨.inr rfl, rfl, rfl, Nat.le_refl _, rfl, by simp⟩
        · refine Tri.cond_true (useb (nT (decide_eq_false h4)) (by kernel_rfl)) ?_
          refine Tri.rn [4] 0 [] [] [] ⟨31, [(4, oB false)], [], 0, []⟩ (by kernel_rfl) trivial ?_
          refine Tri.ret ?_
          obtain rfl := Option.some.inj H
          exact ⟨.inr rfl, rfl, rfl, Nat.le_refl _, rfl, by simp⟩
      · refine Tri.cond_true (useb (nT (decide_eq_false h3)) (by kernel_rfl)) ?_
        refine Tri.rn [4] 0 [] [] [] ⟨31, [(4, oB false)], [], 0, []⟩ (by kernel_rfl) trivial ?_
        refine Tri.ret ?_
        obtain rfl := Option.some.inj H
        exact ⟨.inr rfl, rfl, rfl, Nat.le_refl _, rfl, by simp⟩
    · refine Tri.cond_true (useb (nT (decide_eq_false h2)) (by kernel_rfl)) ?_
      refine Tri.rn [4] 0 [] [] [] ⟨31, [(4, oB false)], [], 0, []⟩ (by kernel_rfl) trivial ?_
      refine Tri.ret ?_
      obtain rfl := Option.some.inj H
      exact ⟨.inr rfl, rfl, rfl, Nat.le_refl _, rfl, by simp⟩
  · refine Tri.cond_true (useb (nT (decide_eq_false h1)) (by kernel_rfl)) ?_
    refine Tri.rn [4] 0 [] [] [] ⟨31, [(4, oB false)], [], 0, []⟩ (by kernel_rfl) trivial ?_
    refine Tri.ret ?_
    obtain rfl := Option.some.inj H
    exact ⟨.inr rfl, rfl, rfl, Nat.le_refl _, rfl, by simp⟩
/-! laws_FnExactListing: function 4 -/
def laws_FnExactListing.e1 (k : Nat) (r6 : (ByteArray × Int)) (r10 : (ByteArray × Int)) : Option Bool := if r10.1 = r6.1 then (some (!(decide (r10.2 = r6.2)))) else (some true)
def laws_FnExactListing.f (k : Nat) (a0 : SCode) : Option Bool := (laws_szCode.f k a0 1048576).bind fun r1 => if r1 < 0 then (some true) else ((laws_toCode.f k a0).bind fun r4 => (spec_Listing.f k r4.1).bind fun r6 => (laws_toCode.f k a0).bind fun r8 => (impl_Listing.f k r8.1).bind fun r10 => (laws_FnExactListing.e1 k r6 r10).bind fun y13 => if y13 = true then (some false) else ((laws_toCode.f k a0).bind fun r17 => (laws_eqCode.f k r8.1 r17.1).bind fun r19 => if r19 = true then (some true) else (some false)))
set_option maxRecDepth 100000 in
theorem laws_FnExactListing.fn (k : Nat) (a0 : SCode) (r : Bool) (H : laws_FnExactListing.f k a0 = some r) : Fn Tryd.prog 4 [ag (eSCode a0)] [] (oB r) [] := by
  unfold laws_FnExactListing.f at H
  refine Fn.body (ts := [2]) Tryd.func4 rfl rfl (by decide) (by decide) (Nat.le_of_ble_eq_true rfl) (Nat.le_refl _) ?_
  refine Tri.rn [1] 1 [] [] [] ⟨40, [(1, o1 (.ref 0 0))], [eSCode a0], 0, []⟩ (by kernel_rfl) trivial ?_
  refine Tri.rn [1, 3] 1 [] [] [] ⟨40, [(1, o1 (.ref 0 0)), (3, oI 1048576)], [eSCode a0], 0, []⟩ (by kernel_rfl) trivial ?_
  obtain ⟨r1, h2, H⟩ := bind_some' H
  refine Tri.rn [1, 3] 1 [] [(2, .call (oI r1) [] false)] [_, _] ⟨40, [(1, o1 (.ref 0 0)), (3, oI r1)], [eSCode a0], 0, []⟩ (by kernel_rfl) ⟨(laws_szCode.fn k a0 1048576 r1 h2), (show (List.all [cI r1] PC.flatB) = true from rfl), trivial⟩ ?_
  refine Tri.seq ?_
  refine Tri.rn [1, 13] 1 [] [] [] ⟨40, [(1, o1 (.ref 0 0)), (13, oB (decide (r1 < 0)))], [eSCode a0], 0, []⟩ (by kernel_rfl) trivial ?_
  rcases ite_some H with ⟨h3, H⟩ | ⟨h3, H⟩
  · refine Tri.cond_true (useb (decide_eq_true h3) (by kernel_rfl)) ?_
    refine Tri.rn [2] 0 [] [] [] ⟨40, [(2, oB true)], [], 0, []⟩ (by kernel_rfl) trivial ?_
    refine Tri.ret ?_
    obtain rfl := Option.some.inj H
    exact ⟨.inr rfl, rfl, rfl, Nat.le_refl _, rfl, by simp⟩
  · refine Tri.cond_false (useb (decide_eq_false h3) (by kernel_rfl)) ?_
    refine Tri.skip ?_
    obtain ⟨r4, h5, H⟩ := bind_some' H
    obtain ⟨r6, h7, H⟩ := bind_some' H
    refine Tri.rn [1, 4, 5] 1 [] [(1, .call (ag (eSCode r4.1)) [] true), (2, .call (tp [none, none] [cS r6.1, cI r6.2]) [] false)] [_, _, _] ⟨40, [(1, o1 (.ref 0 0)), (4, oS r6.1), (5, oI r6.2)], [eSCode a0], 0, []⟩ (by kernel_rfl) ⟨(laws_toCode.fn k a0 r4 h5), (spec_Listing.fn k r4.1 r6 h7), (show (List.all [cS r6.1, cI r6.2] PC.flatB) = true from rfl), trivial⟩ ?_
    obtain ⟨r8, h9, H⟩ := bind_some' H
    refine Tri.rn [1, 4, 5, 6] 2 [] [(1, .call (ag (eSCode r8.1)) [] true)] [_] ⟨40, [(1, o1 (.ref 0 0)), (4, oS r6.1), (5, oI r6.2), (6, o1 (.ref 1 0))], [eSCode a0, eSCode r8.1], 0, []⟩ (by kernel_rfl) ⟨(laws_toCode.fn k a0 r8 h9), trivial⟩ ?_
    obtain ⟨r10, h11, H⟩ := bind_some' H
    refine Tri.rn [1, 4, 5, 6, 7, 8] 2 [] [(1, .call (tp [none, none] [cS r10.1, cI r10.2]) [] false)] [_, _] ⟨40, [(1, o1 (.ref 0 0)), (4, oS r6.1), (5, oI r6.2), (6, o1 (.ref 1 0)), (7, oS r10.1), (8, oI r10.2)], [eSCode a0, eSCode r8.1], 0, []⟩ (by kernel_rfl) ⟨(impl_Listing.fn k r8.1 r10 h11), (show (List.all [cS r10.1, cI r10.2] PC.flatB) = true from rfl), trivial⟩ ?_
    refine Tri.seq ?_
    obtain ⟨v15, h14, H⟩ := bind_some' H
    refine Tri.join (α := Bool) (fun w => v15 = w) (fun y13 => ⟨40, [(1, o1 (.ref 0 0)), (6, o1 (.ref 1 0)), (34, oB y13)], [eSCode a0, eSCode r8.1], 0, []⟩) (fun y13 hw => ?_) ?_
    · rw [hw] at H; clear hw
      try dsimp only at H
      rcases iteb_some H with ⟨h16, H⟩ | ⟨h16, H⟩
      · refine Tri.cond_true (useb h16 (by kernel_rfl)) ?_
        refine Tri.rn [2] 0 [] [] [] ⟨40, [(2, oB false)], [], 0, []⟩ (by kernel_rfl) trivial ?_
        refine Tri.ret ?_
        obtain rfl := Option.some.inj H
        exact ⟨.inr rfl, rfl, rfl, Nat.le_refl _, rfl, by simp⟩
      · refine Tri.cond_false (useb h16 (by kernel_rfl)) ?_
        refine Tri.skip ?_
        refine Tri.seq ?_
        obtain ⟨r17, h18, H⟩ := bind_some' H
        obtain ⟨r19, h20, H⟩ := bind_some' H
        refine Tri.dn hmix 3 [[], [], [1], [0, 1, 2], [0, 1, 2, 3]] [39] 0 [] [(2, .call (ag (eSCode r17.1)) [] true), (3, .call (oB r19) [] false)] [_, _, _] ⟨40, [(39, oB (!r19))], [], 0, []⟩ (by kernel_rfl) ⟨(laws_toCode.fn k a0 r17 h18), (laws_eqCode.fn k r8.1 r17.1 r19 h20), (show (List.all [cB r19] PC.flatB) = true from rfl), trivial⟩ ?_
        rcases iteb_some H with ⟨h21, H⟩ | ⟨h21, H⟩
        · refine Tri.cond_false (useb (nF h21) (by kernel_rfl)) ?_
          refine Tri.skip ?_
          refine Tri.rn [2] 0 [] [] [] ⟨40, [(2, oB true)], [], 0, []⟩ (by kernel_rfl) trivial ?_
          refine Tri.ret ?_
          obtain rfl := Option.some.inj H
          exact ⟨.inr rfl, rfl, rfl, Nat.le_refl _, rfl, by simp⟩
        · refine Tri.cond_true (useb (nT h21) (by kernel_rfl)) ?_
          refine Tri.rn [2] 0 [] [] [] ⟨40, [(2, oB false)], [], 0, []⟩ (by kernel_rfl) trivial ?_
          refine Tri.ret ?_
          obtain rfl := Option.some.inj H
          exact ⟨.inr rfl, rfl, rfl, Nat.le_refl _, rfl, by simp⟩
    · unfold laws_FnExactListing.e1 at h14
      rcases ite_some h14 with ⟨h12, h14⟩ | ⟨h12, h14⟩
      · refine Tri.r1 [1, 6, 34] 2 [] [(2, .ov [.sc (.bool false)])] [_] ⟨40, [(1, o1 (.ref 0 0)), (6, o1 (.ref 1 0)), (34, oB (!(decide (r10.2 = r6.2))))], [eSCode a0, eSCode r8.1], 0, []⟩ (by kernel_rfl) ⟨(ovb (nF (decide_eq_true h12))), trivial⟩ ?_
        exact ⟨(!(decide (r10.2 = r6.2))), (Option.some.inj h14).symm, rfl⟩
      · refine Tri.r1 [1, 6, 34] 2 [] [(2, .ov [.sc (.bool true)])] [_] ⟨40, [(1, o1 (.ref 0 0)), (6, o1 (.ref 1 0)), (34, oB true)], [eSCode a0, eSCode r8.1], 0, []⟩ (by kernel_rfl) ⟨(ovb (nT (decide_eq_false h12))), trivial⟩ ?_
        exact ⟨true, (Option.some.inj h14).symm, rfl⟩
end Go.Proofs.YtdoenfpleokadaaDoor.E
