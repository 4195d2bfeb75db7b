/- Functions of the program and their contracts: printed by ep3.py, a program of this session. -/
import Derived.Test.YtaikjjlbfdkgmaaDoorGFnExactInterfaceOK
import Derived.Test.YtaikjjlbfdkgmaaDoorProg
set_option linter.unusedVariables false
set_option linter.unusedSectionVars false
set_option linter.unusedSimpArgs false
namespace Go.Proofs.YtaikjjlbfdkgmaaDoor.E
open Go.RowKit
structure S0 where
  f0 : Int
  f1 : Bool
def eS0 (x : S0) : List PC := [cI x.f0, cB x.f1]
structure S1 where
  f0 : Int
  f1 : Int
  f2 : Int
  f3 : Int
  f4 : ByteArray
  f5 : (List S0)
def eS1 (x : S1) : List PC := [cI x.f0, cI x.f1, cI x.f2, cI x.f3, cS x.f4, .sl 2 (List.map eS0 x.f5)]
structure S2 where
  f0 : ByteArray
  f1 : (List S1)
def eS2 (x : S2) : List PC := [cS x.f0, .sl 6 (List.map eS1 x.f1)]
theorem hmix : Tryd.prog.follows .mixedOrders = true := by kernel_rfl
/-! laws_szParamS: function 135 -/
def laws_szParamS.f (k : Nat) (a0 : (List S0)) (a1 : Int) : Option Int := if (w64 (a1 - (a0.length : Int))) < 0 then (some (-1)) else (some (w64 (a1 - (a0.length : Int))))
set_option maxRecDepth 100000 in
theorem laws_szParamS.fn (k : Nat) (a0 : (List S0)) (a1 : Int) (r : Int) (H : laws_szParamS.f k a0 a1 = some r) : Fn Tryd.prog 135 [o1 (.sl 2 (List.map eS0 a0)), oI a1] [] (oI r) [] := by
  unfold laws_szParamS.f at H
  refine Fn.body (ts := [4]) Tryd.func135 rfl rfl (by decide) (by decide) (Nat.le_of_ble_eq_true rfl) (Nat.le_refl _) ?_
  refine Tri.rn [0, 1] 0 [] [] [] ⟨12, [(0, o1 (.sl 2 (List.map eS0 a0))), (1, oI a1)], [], 0, []⟩ (by kernel_rfl) trivial ?_
  refine Tri.rn [1] 0 [] [(2, .ov [.sc (.int .i64 (a0.length : Int))])] [_] ⟨12, [(1, oI (w64 (a1 - (a0.length : Int))))], [], 0, []⟩ (by kernel_rfl) ⟨(ovlen (f := eS0) (l := a0)), trivial⟩ ?_
  refine Tri.seq ?_
  refine Tri.rn [1, 10] 0 [] [] [] ⟨12, [(1, oI (w64 (a1 - (a0.length : Int)))), (10, oB (decide ((w64 (a1 - (a0.length : Int))) < 0)))], [], 0, []⟩ (by kernel_rfl) trivial ?_
  rcases ite_some H with ⟨h1, H⟩ | ⟨h1, H⟩
  · refine Tri.cond_true (useb (decide_eq_true h1) (by kernel_rfl)) ?_
    refine Tri.rn [4] 0 [] [] [] ⟨12, [(4, oI (-1))], [], 0, []⟩ (by kernel_rfl) trivial ?_
    refine Tri.ret ?_
    obtain rfl := Option.some.inj H
    exact ⟨.inr rfl, rfl, rfl, Nat.le_refl _, rfl, by simp⟩
  · refine Tri.cond_false (useb (decide_eq_false h1) (by kernel_rfl)) ?_
    refine Tri.skip ?_
    refine Tri.rn [4] 0 [] [] [] ⟨12, [(4, oI (w64 (a1 - (a0.length : Int))))], [], 0, []⟩ (by kernel_rfl) trivial ?_
    refine Tri.ret ?_
    obtain rfl := Option.some.inj H
    exact ⟨.inr rfl, rfl, rfl, Nat.le_refl _, rfl, by simp⟩
/-! laws_szItem: function 97 -/
def laws_szItem.f (k : Nat) (a0 : S1) (a1 : Int) : Option Int := if (w64 (a1 - (a0.f4.size : Int))) < 0 then (some (-1)) else ((laws_szParamS.f k a0.f5 (w64 (a1 - (a0.f4.size : Int)))).bind fun r2 => if r2 < 0 then (some (-1)) else (some r2))
set_option maxRecDepth 100000 in
theorem laws_szItem.fn (k : Nat) (a0 : S1) (a1 : Int) (r : Int) (H : laws_szItem.f k a0 a1 = some r) : Fn Tryd.prog 97 [ag (eS1 a0), oI a1] [] (oI r) [] := by
  unfold laws_szItem.f at H
  refine Fn.body (ts := [4]) Tryd.func97 rfl rfl (by decide) (by decide) (Nat.le_of_ble_eq_true rfl) (Nat.le_refl _) ?_
  refine Tri.rn [1, 2] 1 [] [] [] ⟨19, [(1, oI a1), (2, o1 (.ref 0 0))], [eS1 a0], 0, []⟩ (by kernel_rfl) trivial ?_
  refine Tri.rn [1, 2] 1 [] [] [] ⟨19, [(1, oI (w64 (a1 - (a0.f4.size : Int)))), (2, o1 (.ref 0 0))], [eS1 a0], 0, []⟩ (by kernel_rfl) trivial ?_
  refine Tri.seq ?_
  refine Tri.rn [1, 2, 11] 1 [] [] [] ⟨19, [(1, oI (w64 (a1 - (a0.f4.size : Int)))), (2, o1 (.ref 0 0)), (11, oB (decide ((w64 (a1 - (a0.f4.size : Int))) < 0)))], [eS1 a0], 0, []⟩ (by kernel_rfl) trivial ?_
  rcases ite_some H with ⟨h1, H⟩ | ⟨h1, H⟩
  · refine Tri.cond_true (useb (decide_eq_true h1) (by kernel_rfl)) ?_
    refine Tri.rn [4] 0 [] [] [] ⟨19, [(4, oI (-1))], [], 0, []⟩ (by kernel_rfl) trivial ?_
    refine Tri.ret ?_
    obtain rfl := Option.some.inj H
    exact ⟨.inr rfl, rfl, rfl, Nat.le_refl _, rfl, by simp⟩
  · refine Tri.cond_false (useb (decide_eq_false h1) (by kernel_rfl)) ?_
    refine Tri.skip ?_
    obtain ⟨r2, h3, H⟩ := bind_some' H
    refine Tri.rn [1] 0 [] [(3, .call (oI r2) [] false)] [_, _] ⟨19, [(1, oI r2)], [], 0, []⟩ (by kernel_rfl) ⟨(laws_szParamS.fn k a0.f5 (w64 (a1 - (a0.f4.size : Int))) r2 h3), (show (List.all [cI r2] PC.flatB) = true from rfl), trivial⟩ ?_
    refine Tri.seq ?_
    refine Tri.rn [1, 17] 0 [] [] [] ⟨19, [(1, oI r2), (17, oB (decide (r2 < 0)))], [], 0, []⟩ (by kernel_rfl) trivial ?_
    rcases ite_some H with ⟨h4, H⟩ | ⟨h4, H⟩
    · refine Tri.cond_true (useb (decide_eq_true h4) (by kernel_rfl)) ?_
      refine Tri.rn [4] 0 [] [] [] ⟨19, [(4, oI (-1))], [], 0, []⟩ (by kernel_rfl) trivial ?_
      refine Tri.ret ?_
      obtain rfl := Option.some.inj H
      exact ⟨.inr rfl, rfl, rfl, Nat.le_refl _, rfl, by simp⟩
    · refine Tri.cond_false (useb (decide_eq_false h4) (by kernel_rfl)) ?_
      refine Tri.skip ?_
      refine Tri.rn [4] 0 [] [] [] ⟨19, [(4, oI r2)], [], 0, []⟩ (by kernel_rfl) trivial ?_
      refine Tri.ret ?_
      obtain rfl := Option.some.inj H
      exact ⟨.inr rfl, rfl, rfl, Nat.le_refl _, rfl, by simp⟩
/-! laws_szItemS: function 41 -/
def laws_szItemS.l1 : Nat → (List S1) → Int → Int → Option (Int ⊕ Int)
  | 0, _, _, _ => none
  | k + 1, a0, z8, z9 => if z9 < (a0.length : Int) then ((at? a0 z9).bind fun x11 => (laws_szItem.f k x11 z8).bind fun r13 => if r13 < 0 then (some (.inl (-1))) else (laws_szItemS.l1 k a0 r13 (w64 (z9 + 1)))) else (some (.inr z8))
def laws_szItemS.e2 (k : Nat) (a0 : (List S1)) (a1 : Int) : Option (Int ⊕ Int) := laws_szItemS.l1 k a0 (w64 (a1 - (a0.length : Int))) 0
def laws_szItemS.f (k : Nat) (a0 : (List S1)) (a1 : Int) : Option Int := if (w64 (a1 - (a0.length : Int))) < 0 then (some (-1)) else ((laws_szItemS.e2 k a0 a1).bind fun v => match v with | .inl r => some r | .inr y17 => some y17)
set_option maxRecDepth 100000 in
theorem laws_szItemS.fn (k : Nat) (a0 : (List S1)) (a1 : Int) (r : Int) (H : laws_szItemS.f k a0 a1 = some r) : Fn Tryd.prog 41 [o1 (.sl 6 (List.map eS1 a0)), oI a1] [] (oI r) [] := by
  unfold laws_szItemS.f at H
  refine Fn.body (ts := [4]) Tryd.func41 rfl rfl (by decide) (by decide) (Nat.le_of_ble_eq_true rfl) (Nat.le_refl _) ?_
  refine Tri.rn [0, 1] 0 [] [] [] ⟨27, [(0, o1 (.sl 6 (List.map eS1 a0))), (1, oI a1)], [], 0, []⟩ (by kernel_rfl) trivial ?_
  refine Tri.rn [0, 1] 0 [] [(2, .ov [.sc (.int .i64 (a0.length : Int))])] [_] ⟨27, [(0, o1 (.sl 6 (List.map eS1 a0))), (1, oI (w64 (a1 - (a0.length : Int))))], [], 0, []⟩ (by kernel_rfl) ⟨(ovlen (f := eS1) (l := a0)), trivial⟩ ?_
  refine Tri.seq ?_
  refine Tri.rn [0, 1, 11] 0 [] [] [] ⟨27, [(0, o1 (.sl 6 (List.map eS1 a0))), (1, oI (w64 (a1 - (a0.length : Int)))), (11, oB (decide ((w64 (a1 - (a0.length : Int))) < 0)))], [], 0, []⟩ (by kernel_rfl) trivial ?_
  rcases ite_some H with ⟨h1, H⟩ | ⟨h1, H⟩
  · refine Tri.cond_true (useb (decide_eq_true h1) (by kernel_rfl)) ?_
    refine Tri.rn [4] 0 [] [] [] ⟨27, [(4, oI (-1))], [], 0, []⟩ (by kernel_rfl) trivial ?_
    refine Tri.ret ?_
    obtain rfl := Option.some.inj H
    exact ⟨.inr rfl, rfl, rfl, Nat.le_refl _, rfl, by simp⟩
  · refine Tri.cond_false (useb (decide_eq_false h1) (by kernel_rfl)) ?_
    refine Tri.skip ?_
    obtain ⟨v19, h18, H⟩ := bind_some' H
    refine Tri.join (α := Int) (fun w => v19 = .inr w) (fun y17 => ⟨27, [(1, oI y17)], [], 0, []⟩) (fun y17 hw => ?_) ?_
    · rw [hw] at H; clear hw
      try dsimp only at H
      refine Tri.rn [4] 0 [] [] [] ⟨27, [(4, oI y17)], [], 0, []⟩ (by kernel_rfl) trivial ?_
      refine Tri.ret ?_
      obtain rfl := Option.some.inj H
      exact ⟨.inr rfl, rfl, rfl, Nat.le_refl _, rfl, by simp⟩
    · unfold laws_szItemS.e2 at h18
      refine Tri.rn [0, 1, 5] 0 [] [] [] ⟨27, [(0, o1 (.sl 6 (List.map eS1 a0))), (1, oI (w64 (a1 - (a0.length : Int)))), (5, oI 0)], [], 0, []⟩ (by kernel_rfl) trivial ?_
      refine Tri.block ?_
      refine Tri.loop k (TriR.ind (α := (Int × Int)) (fun k x => laws_szItemS.l1 k a0 x.1 x.2) (fun x => ⟨27, [(0, o1 (.sl 6 (List.map eS1 a0))), (1, oI x.1), (5, oI x.2)], [], 0, []⟩) (fun _ => rfl) (fun k x h18 IH16 => ?_) k (w64 (a1 - (a0.length : Int)), 0) h18)
      obtain ⟨z8, z9⟩ := x
      rw [laws_szItemS.l1.eq_2] at h18
      refine Tri.seq ?_
      refine Tri.rn [0, 1, 5, 15] 0 [] [(2, .ov [.sc (.int .i64 (a0.length : Int))])] [_] ⟨27, [(0, o1 (.sl 6 (List.map eS1 a0))), (1, oI z8), (5, oI z9), (15, oB (decide (z9 < (a0.length : Int))))], [], 0, []⟩ (by kernel_rfl) ⟨(ovlen (f := eS1) (l := a0)), trivial⟩ ?_
      rcases ite_some h18 with ⟨h10, h18⟩ | ⟨h10, h18⟩
      · refine Tri.cond_true (useb (decide_eq_true h10) (by kernel_rfl)) ?_
        refine Tri.skip ?_
        refine Tri.seq ?_
        refine Tri.block ?_
        obtain ⟨x11, h12, h18⟩ := bind_some' h18
        obtain ⟨r13, h14, h18⟩ := bind_some' h18
        refine Tri.rn [0, 1, 5] 0 [] [(2, .el (eS1 x11)), (5, .call (oI r13) [] false)] [_, _, _, _] ⟨27, [(0, o1 (.sl 6 (List.map eS1 a0))), (1, oI r13), (5, oI z9)], [], 0, []⟩ (by kernel_rfl) ⟨(at?_0 h12), (at?_map (f := eS1) h12), (laws_szItem.fn k x11 z8 r13 h14), (show (List.all [cI r13] PC.flatB) = true from rfl), trivial⟩ ?_
        refine Tri.rn [0, 1, 5, 25] 0 [] [] [] ⟨27, [(0, o1 (.sl 6 (List.map eS1 a0))), (1, oI r13), (5, oI z9), (25, oB (decide (r13 < 0)))], [], 0, []⟩ (by kernel_rfl) trivial ?_
        rcases ite_some h18 with ⟨h15, h18⟩ | ⟨h15, h18⟩
        · refine Tri.cond_true (useb (decide_eq_true h15) (by kernel_rfl)) ?_
          refine Tri.rn [4] 0 [] [] [] ⟨27, [(4, oI (-1))], [], 0, []⟩ (by kernel_rfl) trivial ?_
          refine Tri.ret ?_
          obtain rfl := Option.some.inj h18
          try dsimp only at H
          obtain rfl := Option.some.inj H
          exact ⟨.inr rfl, rfl, rfl, Nat.le_refl _, rfl, by simp⟩
        · refine Tri.cond_false (useb (decide_eq_false h15) (by kernel_rfl)) ?_
          refine Tri.skip ?_
          refine Tri.r1 [0, 1, 5] 0 [] [] [] ⟨27, [(0, o1 (.sl 6 (List.map eS1 a0))), (1, oI r13), (5, oI (w64 (z9 + 1)))], [], 0, []⟩ (by kernel_rfl) trivial ?_
          exact IH16 _ (r13, w64 (z9 + 1)) (Nat.le_refl _) h18
      · refine Tri.cond_false (useb (decide_eq_false h10) (by kernel_rfl)) ?_
        refine Tri.fix [1] 0 [] ⟨27, [(1, oI z8)], [], 0, []⟩ (by kernel_rfl) ?_
        refine Tri.exit ?_
        repeat (with_reducible refine Ex.exit ?_)
        refine Bk.here ?_
        exact ⟨z8, (Option.some.inj h18).symm, rfl⟩
/-! laws_szInterface: function 14 -/
def laws_szInterface.f (k : Nat) (a0 : S2) (a1 : Int) : Option Int := if (w64 (a1 - (a0.f0.size : Int))) < 0 then (some (-1)) else ((laws_szItemS.f k a0.f1 (w64 (a1 - (a0.f0.size : Int)))).bind fun r2 => if r2 < 0 then (some (-1)) else (some r2))
set_option maxRecDepth 100000 in
theorem laws_szInterface.fn (k : Nat) (a0 : S2) (a1 : Int) (r : Int) (H : laws_szInterface.f k a0 a1 = some r) : Fn Tryd.prog 14 [ag (eS2 a0), oI a1] [] (oI r) [] := by
  unfold laws_szInterface.f at H
  refine Fn.body (ts := [4]) Tryd.func14 rfl rfl (by decide) (by decide) (Nat.le_of_ble_eq_true rfl) (Nat.le_refl _) ?_
  refine Tri.rn [1, 2] 1 [] [] [] ⟨19, [(1, oI a1), (2, o1 (.ref 0 0))], [eS2 a0], 0, []⟩ (by kernel_rfl) trivial ?_
  refine Tri.rn [1, 2] 1 [] [] [] ⟨19, [(1, oI (w64 (a1 - (a0.f0.size : Int)))), (2, o1 (.ref 0 0))], [eS2 a0], 0, []⟩ (by kernel_rfl) trivial ?_
  refine Tri.seq ?_
  refine Tri.rn [1, 2, 11] 1 [] [] [] ⟨19, [(1, oI (w64 (a1 - (a0.f0.size : Int)))), (2, o1 (.ref 0 0)), (11, oB (decide ((w64 (a1 - (a0.f0.size : Int))) < 0)))], [eS2 a0], 0, []⟩ (by kernel_rfl) trivial ?_
  rcases ite_some H with ⟨h1, H⟩ | ⟨h1, H⟩
  · refine Tri.cond_true (useb (decide_eq_true h1) (by kernel_rfl)) ?_
    refine Tri.rn [4] 0 [] [] [] ⟨19, [(4, oI (-1))], [], 0, []⟩ (by kernel_rfl) trivial ?_
    refine Tri.ret ?_
    obtain rfl := Option.some.inj H
    exact ⟨.inr rfl, rfl, rfl, Nat.le_refl _, rfl, by simp⟩
  · refine Tri.cond_false (useb (decide_eq_false h1) (by kernel_rfl)) ?_
    refine Tri.skip ?_
    obtain ⟨r2, h3, H⟩ := bind_some' H
    refine Tri.rn [1] 0 [] [(3, .call (oI r2) [] false)] [_, _] ⟨19, [(1, oI r2)], [], 0, []⟩ (by kernel_rfl) ⟨(laws_szItemS.fn k a0.f1 (w64 (a1 - (a0.f0.size : Int))) r2 h3), (show (List.all [cI r2] PC.flatB) = true from rfl), trivial⟩ ?_
    refine Tri.seq ?_
    refine Tri.rn [1, 17] 0 [] [] [] ⟨19, [(1, oI r2), (17, oB (decide (r2 < 0)))], [], 0, []⟩ (by kernel_rfl) trivial ?_
    rcases ite_some H with ⟨h4, H⟩ | ⟨h4, H⟩
    · refine Tri.cond_true (useb (decide_eq_true h4) (by kernel_rfl)) ?_
      refine Tri.rn [4] 0 [] [] [] ⟨19, [(4, oI (-1))], [], 0, []⟩ (by kernel_rfl) trivial ?_
      refine Tri.ret ?_
      obtain rfl := Option.some.inj H
      exact ⟨.inr rfl, rfl, rfl, Nat.le_refl _, rfl, by simp⟩
    · refine Tri.cond_false (useb (decide_eq_false h4) (by kernel_rfl)) ?_
      refine Tri.skip ?_
      refine Tri.rn [4] 0 [] [] [] ⟨19, [(4, oI r2)], [], 0, []⟩ (by kernel_rfl) trivial ?_
      refine Tri.ret ?_
      obtain rfl := Option.some.inj H
      exact ⟨.inr rfl, rfl, rfl, Nat.le_refl _, rfl, by simp⟩
/-! laws_toParam: function 174 -/
def laws_toParam.f (k : Nat) (a0 : S0) : Option (S0 × Int × Bool × Int × Bool) := some (a0, a0.f0, a0.f1, a0.f0, a0.f1)
set_option maxRecDepth 100000 in
theorem laws_toParam.fn (k : Nat) (a0 : S0) (r : (S0 × Int × Bool × Int × Bool)) (H : laws_toParam.f k a0 = some r) : Fn Tryd.prog 174 [ag (eS0 a0)] [] (ag (eS0 r.1)) [] := by
  unfold laws_toParam.f at H
  refine Fn.bodyC (t := 2) (ty := 144) Tryd.func174 rfl rfl (Nat.le_of_ble_eq_true rfl) ?_
  refine Tri.rn [1, 2] 2 [] [] [] ⟨11, [(1, o1 (.ref 0 0)), (2, o1 (.ref 1 0))], [eS0 a0, [cI 0, cB false]], 0, []⟩ (by kernel_rfl) trivial ?_
  refine Tri.rn [1, 2, 3] 3 [] [] [] ⟨11, [(1, o1 (.ref 0 0)), (2, o1 (.ref 1 0)), (3, o1 (.ref 2 0))], [eS0 a0, [cI 0, cB false], [cI 0, cB false]], 0, []⟩ (by kernel_rfl) trivial ?_
  refine Tri.rn [1, 2, 3] 3 [] [] [] ⟨11, [(1, o1 (.ref 0 0)), (2, o1 (.ref 1 0)), (3, o1 (.ref 2 0))], [eS0 a0, [cI 0, cB false], [cI a0.f0, cB false]], 0, []⟩ (by kernel_rfl) trivial ?_
  refine Tri.rn [2, 3] 3 [] [] [] ⟨11, [(2, o1 (.ref 1 0)), (3, o1 (.ref 2 0))], [eS0 a0, [cI 0, cB false], eS0 a0], 0, []⟩ (by kernel_rfl) trivial ?_
  refine Tri.rn [2] 2 [] [] [] ⟨11, [(2, o1 (.ref 1 0))], [eS0 a0, eS0 a0], 0, []⟩ (by kernel_rfl) trivial ?_
  refine Tri.ret ?_
  obtain rfl := Option.some.inj H
  exact ⟨.inr rfl, ⟨_, _, rfl⟩, by kernel_rfl, rfl, rfl, rfl⟩
/-! laws_toParamS: function 139 -/
def laws_toParamS.l1 : Nat → (List S0) → (List S0) → Int → Option (List S0)
  | 0, _, _, _ => none
  | k + 1, a0, z9, z10 => if z10 < (a0.length : Int) then ((at? a0 z10).bind fun x12 => (laws_toParam.f k x12).bind fun r14 => (at? z9 z10).bind fun x16 => laws_toParamS.l1 k a0 (z9.set (Int.toNat z10) r14.1) (w64 (z10 + 1))) else (some z9)
def laws_toParamS.e2 (k : Nat) (a0 : (List S0)) : Option (List S0) := laws_toParamS.l1 k a0 (List.replicate (Int.toNat (a0.length : Int)) (⟨(0 : Int), false⟩ : S0) : List S0) 0
def laws_toParamS.f (k : Nat) (a0 : (List S0)) : Option (List S0) := if (a0.length : Int) * 16 ≤ 140737488355328 then ((laws_toParamS.e2 k a0).bind fun y19 => some y19) else none
set_option maxRecDepth 100000 in
theorem laws_toParamS.fn (k : Nat) (a0 : (List S0)) (r : (List S0)) (H : laws_toParamS.f k a0 = some r) : Fn Tryd.prog 139 [o1 (.sl 2 (List.map eS0 a0))] [] (o1 (.own 144 (List.map eS0 r))) [] := by
  unfold laws_toParamS.f at H
  refine Fn.body (ts := [2]) Tryd.func139 rfl rfl (by decide) (by decide) (Nat.le_of_ble_eq_true rfl) (Nat.le_refl _) ?_
  refine Tri.rn [0] 0 [] [] [] ⟨23, [(0, o1 (.sl 2 (List.map eS0 a0)))], [], 0, []⟩ (by kernel_rfl) trivial ?_
  obtain ⟨h1, H⟩ := need_some H
  refine Tri.rn [0, 3] 0 [] [(1, .ov [.sc (.int .i64 (a0.length : Int))]), (2, .nz []), (2, .ov [.own 144 (List.map eS0 (List.replicate (Int.toNat (a0.length : Int)) (⟨(0 : Int), false⟩ : S0) : List S0))])] [_, _, _, _, _, _] ⟨23, [(0, o1 (.sl 2 (List.map eS0 a0))), (3, o1 (.own 144 (List.map eS0 (List.replicate (Int.toNat (a0.length : Int)) (⟨(0 : Int), false⟩ : S0) : List S0))))], [], 0, []⟩ (by kernel_rfl) ⟨(ovlen (f := eS0) (l := a0)), (rfl : (a0.length : Int) = (a0.length : Int)), (show (0 : Int) ≤ (a0.length : Int) from Int.natCast_nonneg _), (mkN (b := 16) (by decide) (show (0 : Int) ≤ (a0.length : Int) from Int.natCast_nonneg _) h1), h1, (ovrep (e := 144) (n := Int.toNat (a0.length : Int)) (z := (⟨(0 : Int), false⟩ : S0)) (f := eS0)), trivial⟩ ?_
  obtain ⟨v21, h20, H⟩ := bind_some' H
  refine Tri.join (α := (List S0)) (fun w => v21 = w) (fun y19 => ⟨23, [(3, o1 (.own 144 (List.map eS0 y19)))], [], 0, []⟩) (fun y19 hw => ?_) ?_
  · rw [hw] at H; clear hw
    try dsimp only at H
    refine Tri.rn [2] 0 [] [] [] ⟨23, [(2, o1 (.own 144 (List.map eS0 y19)))], [], 0, []⟩ (by kernel_rfl) trivial ?_
    refine Tri.ret ?_
    obtain rfl := Option.some.inj H
    exact ⟨.inr rfl, rfl, rfl, Nat.le_refl _, rfl, by simp⟩
  · unfold laws_toParamS.e2 at h20
    refine Tri.rn [0, 3, 4] 0 [] [] [] ⟨23, [(0, o1 (.sl 2 (List.map eS0 a0))), (3, o1 (.own 144 (List.map eS0 (List.replicate (Int.toNat (a0.length : Int)) (⟨(0 : Int), false⟩ : S0) : List S0)))), (4, oI 0)], [], 0, []⟩ (by kernel_rfl) trivial ?_
    refine Tri.block ?_
    refine Tri.loop k (TriR.ind (α := ((List S0) × Int)) (fun k x => laws_toParamS.l1 k a0 x.1 x.2) (fun x => ⟨23, [(0, o1 (.sl 2 (List.map eS0 a0))), (3, o1 (.own 144 (List.map eS0 x.1))), (4, oI x.2)], [], 0, []⟩) (fun _ => rfl) (fun k x h20 IH18 => ?_) k ((List.replicate (Int.toNat (a0.length : Int)) (⟨(0 : Int), false⟩ : S0) : List S0), 0) h20)
    obtain ⟨z9, z10⟩ := x
    rw [laws_toParamS.l1.eq_2] at h20
    refine Tri.seq ?_
    refine Tri.rn [0, 3, 4, 11] 0 [] [(2, .ov [.sc (.int .i64 (a0.length : Int))])] [_] ⟨23, [(0, o1 (.sl 2 (List.map eS0 a0))), (3, o1 (.own 144 (List.map eS0 z9))), (4, oI z10), (11, oB (decide (z10 < (a0.length : Int))))], [], 0, []⟩ (by kernel_rfl) ⟨(ovlen (f := eS0) (l := a0)), trivial⟩ ?_
    rcases ite_some h20 with ⟨h11, h20⟩ | ⟨h11, h20⟩
    · refine Tri.cond_true (useb (decide_eq_true h11) (by kernel_rfl)) ?_
      refine Tri.skip ?_
      refine Tri.seq ?_
      refine Tri.block ?_
      obtain ⟨x12, h13, h20⟩ := bind_some' h20
      obtain ⟨r14, h15, h20⟩ := bind_some' h20
      obtain ⟨x16, h17, h20⟩ := bind_some' h20
      refine Tri.r1 [0, 3, 4] 0 [] [(4, .el (eS0 x12)), (6, .call (ag (eS0 r14.1)) [] false), (7, .el (eS0 x16)), (8, .el (eS0 x16)), (8, .ovp (.t 3 0) (.own 144 (List.map eS0 (z9.set (Int.toNat z10) r14.1))))] [_, _, _, _, _, _, _, _] ⟨23, [(0, o1 (.sl 2 (List.map eS0 a0))), (3, o1 (.own 144 (List.map eS0 (z9.set (Int.toNat z10) r14.1)))), (4, oI z10)], [], 0, []⟩ (by kernel_rfl) ⟨(at?_0 h13), (at?_map (f := eS0) h13), (laws_toParam.fn k x12 r14 h15), (show (List.all [cI r14.1.f0, cB r14.1.f1] PC.flatB) = true from rfl), (at?_0 h17), (at?_map (f := eS0) h17), (at?_map (f := eS0) h17), (ovset (e := 144) (f := eS0) (l := z9) (v := r14.1) (i := Int.toNat z10)), trivial⟩ ?_
      refine Tri.r1 [0, 3, 4] 0 [] [] [] ⟨23, [(0, o1 (.sl 2 (List.map eS0 a0))), (3, o1 (.own 144 (List.map eS0 (z9.set (Int.toNat z10) r14.1)))), (4, oI (w64 (z10 + 1)))], [], 0, []⟩ (by kernel_rfl) trivial ?_
      exact IH18 _ (z9.set (Int.toNat z10) r14.1, w64 (z10 + 1)) (Nat.le_refl _) h20
    · refine Tri.cond_false (useb (decide_eq_false h11) (by kernel_rfl)) ?_
      refine Tri.fix [3] 0 [] ⟨23, [(3, o1 (.own 144 (List.map eS0 z9)))], [], 0, []⟩ (by kernel_rfl) ?_
      refine Tri.exit ?_
      repeat (with_reducible refine Ex.exit ?_)
      refine Bk.here ?_
      exact ⟨z9, (Option.some.inj h20).symm, rfl⟩
/-! laws_toItem: function 100 -/
def laws_toItem.f (k : Nat) (a0 : S1) : Option (S1 × Int × Int × Int × Int × ByteArray × (List S0) × Int × Int × Int × Int × ByteArray × (List S0)) := (laws_toParamS.f k a0.f5).bind fun r1 => some ((⟨a0.f0, a0.f1, a0.f2, a0.f3, a0.f4, r1⟩ : S1), a0.f0, a0.f1, a0.f2, a0.f3, a0.f4, a0.f5, a0.f0, a0.f1, a0.f2, a0.f3, a0.f4, r1)
set_option maxRecDepth 100000 in
theorem laws_toItem.fn (k : Nat) (a0 : S1) (r : (S1 × Int × Int × Int × Int × ByteArray × (List S0) × Int × Int × Int × Int × ByteArray × (List S0))) (H : laws_toItem.f k a0 = some r) : Fn Tryd.prog 100 [ag (eS1 a0)] [] (ag (eS1 r.1)) [] := by
  unfold laws_toItem.f at H
  refine Fn.bodyC (t := 2) (ty := 85) Tryd.func100 rfl rfl (Nat.le_of_ble_eq_true rfl) ?_
  refine Tri.rn [1, 2] 2 [] [] [] ⟨24, [(1, o1 (.ref 0 0)), (2, o1 (.ref 1 0))], [eS1 a0, [cI 0, cI 0, cI 0, cI 0, cS (⟨#[]⟩ : ByteArray), .nl]], 0, []⟩ (by kernel_rfl) trivial ?_
  refine Tri.rn [1, 2, 3] 3 [] [] [] ⟨24, [(1, o1 (.ref 0 0)), (2, o1 (.ref 1 0)), (3, o1 (.ref 2 0))], [eS1 a0, [cI 0, cI 0, cI 0, cI 0, cS (⟨#[]⟩ : ByteArray), .nl], [cI 0, cI 0, cI 0, cI 0, cS (⟨#[]⟩ : ByteArray), .nl]], 0, []⟩ (by kernel_rfl) trivial ?_
  refine Tri.rn [1, 2, 3] 3 [] [] [] ⟨24, [(1, o1 (.ref 0 0)), (2, o1 (.ref 1 0)), (3, o1 (.ref 2 0))], [eS1 a0, [cI 0, cI 0, cI 0, cI 0, cS (⟨#[]⟩ : ByteArray), .nl], [cI a0.f0, cI 0, cI 0, cI 0, cS (⟨#[]⟩ : ByteArray), .nl]], 0, []⟩ (by kernel_rfl) trivial ?_
  refine Tri.rn [1, 2, 3] 3 [] [] [] ⟨24, [(1, o1 (.ref 0 0)), (2, o1 (.ref 1 0)), (3, o1 (.ref 2 0))], [eS1 a0, [cI 0, cI 0, cI 0, cI 0, cS (⟨#[]⟩ : ByteArray), .nl], [cI a0.f0, cI a0.f1, cI 0, cI 0, cS (⟨#[]⟩ : ByteArray), .nl]], 0, []⟩ (by kernel_rfl) trivial ?_
  refine Tri.rn [1, 2, 3] 3 [] [] [] ⟨24, [(1, o1 (.ref 0 0)), (2, o1 (.ref 1 0)), (3, o1 (.ref 2 0))], [eS1 a0, [cI 0, cI 0, cI 0, cI 0, cS (⟨#[]⟩ : ByteArray), .nl], [cI a0.f0, cI a0.f1, cI a0.f2, cI 0, cS (⟨#[]⟩ : ByteArray), .nl]], 0, []⟩ (by kernel_rfl) trivial ?_
  refine Tri.rn [1, 2, 3] 3 [] [] [] ⟨24, [(1, o1 (.ref 0 0)), (2, o1 (.ref 1 0)), (3, o1 (.ref 2 0))], [eS1 a0, [cI 0, cI 0, cI 0, cI 0, cS (⟨#[]⟩ : ByteArray), .nl], [cI a0.f0, cI a0.f1, cI a0.f2, cI a0.f3, cS (⟨#[]⟩ : ByteArray), .nl]], 0, []⟩ (by kernel_rfl) trivial ?_
  refine Tri.rn [1, 2, 3] 3 [] [] [] ⟨24, [(1, o1 (.ref 0 0)), (2, o1 (.ref 1 0)), (3, o1 (.ref 2 0))], [eS1 a0, [cI 0, cI 0, cI 0, cI 0, cS (⟨#[]⟩ : ByteArray), .nl], [cI a0.f0, cI a0.f1, cI a0.f2, cI a0.f3, cS a0.f4, .nl]], 0, []⟩ (by kernel_rfl) trivial ?_
  obtain ⟨r1, h2, H⟩ := bind_some' H
  refine Tri.rn [2, 3] 3 [] [(2, .call (o1 (.own 144 (List.map eS0 r1))) [] false), (4, .frz (.t 21 0))] [_, _] ⟨24, [(2, o1 (.ref 1 0)), (3, o1 (.ref 2 0))], [eS1 a0, [cI 0, cI 0, cI 0, cI 0, cS (⟨#[]⟩ : ByteArray), .nl], [cI a0.f0, cI a0.f1, cI a0.f2, cI a0.f3, cS a0.f4, .sl 2 (List.map eS0 r1)]], 0, []⟩ (by kernel_rfl) ⟨(laws_toParamS.fn k a0.f5 r1 h2), (show (List.all [.own 144 (List.map eS0 r1)] PC.flatB) = true by simp [PC.flatB, PC.scalar, cI, cK, cB, cS, eS0]), trivial⟩ ?_
  refine Tri.rn [2] 2 [] [] [] ⟨24, [(2, o1 (.ref 1 0))], [eS1 a0, [cI a0.f0, cI a0.f1, cI a0.f2, cI a0.f3, cS a0.f4, .sl 2 (List.map eS0 r1)]], 0, []⟩ (by kernel_rfl) trivial ?_
  refine Tri.ret ?_
  obtain rfl := Option.some.inj H
  exact ⟨.inr rfl, ⟨_, _, rfl⟩, by kernel_rfl, rfl, rfl, rfl⟩
/-! laws_toItemS: function 45 -/
def laws_toItemS.l1 : Nat → (List S1) → (List S1) → Int → Option (List S1)
  | 0, _, _, _ => none
  | k + 1, a0, z9, z10 => if z10 < (a0.length : Int) then ((at? a0 z10).bind fun x12 => (laws_toItem.f k x12).bind fun r14 => (at? z9 z10).bind fun x16 => laws_toItemS.l1 k a0 (z9.set (Int.toNat z10) r14.1) (w64 (z10 + 1))) else (some z9)
def laws_toItemS.e2 (k : Nat) (a0 : (List S1)) : Option (List S1) := laws_toItemS.l1 k a0 (List.replicate (Int.toNat (a0.length : Int)) (⟨(0 : Int), (0 : Int), (0 : Int), (0 : Int), (⟨#[]⟩ : ByteArray), ([] : List S0)⟩ : S1) : List S1) 0
def laws_toItemS.f (k : Nat) (a0 : (List S1)) : Option (List S1) := if (a0.length : Int) * 72 ≤ 140737488355328 then ((laws_toItemS.e2 k a0).bind fun y19 => some y19) else none
set_option maxRecDepth 100000 in
theorem laws_toItemS.fn (k : Nat) (a0 : (List S1)) (r : (List S1)) (H : laws_toItemS.f k a0 = some r) : Fn Tryd.prog 45 [o1 (.sl 6 (List.map eS1 a0))] [] (o1 (.own 85 (List.map eS1 r))) [] := by
  unfold laws_toItemS.f at H
  refine Fn.body (ts := [2]) Tryd.func45 rfl rfl (by decide) (by decide) (Nat.le_of_ble_eq_true rfl) (Nat.le_refl _) ?_
  refine Tri.rn [0] 0 [] [] [] ⟨23, [(0, o1 (.sl 6 (List.map eS1 a0)))], [], 0, []⟩ (by kernel_rfl) trivial ?_
  obtain ⟨h1, H⟩ := need_some H
  refine Tri.rn [0, 3] 0 [] [(1, .ov [.sc (.int .i64 (a0.length : Int))]), (2, .nz [2]), (2, .ov [.own 85 (List.map eS1 (List.replicate (Int.toNat (a0.length : Int)) (⟨(0 : Int), (0 : Int), (0 : Int), (0 : Int), (⟨#[]⟩ : ByteArray), ([] : List S0)⟩ : S1) : List S1))])] [_, _, _, _, _, _] ⟨23, [(0, o1 (.sl 6 (List.map eS1 a0))), (3, o1 (.own 85 (List.map eS1 (List.replicate (Int.toNat (a0.length : Int)) (⟨(0 : Int), (0 : Int), (0 : Int), (0 : Int), (⟨#[]⟩ : ByteArray), ([] : List S0)⟩ : S1) : List S1))))], [], 0, []⟩ (by kernel_rfl) ⟨(ovlen (f := eS1) (l := a0)), (rfl : (a0.length : Int) = (a0.length : Int)), (show (0 : Int) ≤ (a0.length : Int) from Int.natCast_nonneg _), (mkN (b := 72) (by decide) (show (0 : Int) ≤ (a0.length : Int) from Int.natCast_nonneg _) h1), h1, (ovrep (e := 85) (n := Int.toNat (a0.length : Int)) (z := (⟨(0 : Int), (0 : Int), (0 : Int), (0 : Int), (⟨#[]⟩ : ByteArray), ([] : List S0)⟩ : S1)) (f := eS1)), trivial⟩ ?_
  obtain ⟨v21, h20, H⟩ := bind_some' H
  refine Tri.join (α := (List S1)) (fun w => v21 = w) (fun y19 => ⟨23, [(3, o1 (.own 85 (List.map eS1 y19)))], [], 0, []⟩) (fun y19 hw => ?_) ?_
  · rw [hw] at H; clear hw
    try dsimp only at H
    refine Tri.rn [2] 0 [] [] [] ⟨23, [(2, o1 (.own 85 (List.map eS1 y19)))], [], 0, []⟩ (by kernel_rfl) trivial ?_
    refine Tri.ret ?_
    obtain rfl := Option.some.inj H
    exact ⟨.inr rfl, rfl, rfl, Nat.le_refl _, rfl, by simp⟩
  · unfold laws_toItemS.e2 at h20
    refine Tri.rn [0, 3, 4] 0 [] [] [] ⟨23, [(0, o1 (.sl 6 (List.map eS1 a0))), (3, o1 (.own 85 (List.map eS1 (List.replicate (Int.toNat (a0.length : Int)) (⟨(0 : Int), (0 : Int), (0 : Int), (0 : Int), (⟨#[]⟩ : ByteArray), ([] : List S0)⟩ : S1) : List S1)))), (4, oI 0)], [], 0, []⟩ (by kernel_rfl) trivial ?_
    refine Tri.block ?_
    refine Tri.loop k (TriR.ind (α := ((List S1) × Int)) (fun k x => laws_toItemS.l1 k a0 x.1 x.2) (fun x => ⟨23, [(0, o1 (.sl 6 (List.map eS1 a0))), (3, o1 (.own 85 (List.map eS1 x.1))), (4, oI x.2)], [], 0, []⟩) (fun _ => rfl) (fun k x h20 IH18 => ?_) k ((List.replicate (Int.toNat (a0.length : Int)) (⟨(0 : Int), (0 : Int), (0 : Int), (0 : Int), (⟨#[]⟩ : ByteArray), ([] : List S0)⟩ : S1) : List S1), 0) h20)
    obtain ⟨z9, z10⟩ := x
    rw [laws_toItemS.l1.eq_2] at h20
    refine Tri.seq ?_
    refine Tri.rn [0, 3, 4, 11] 0 [] [(2, .ov [.sc (.int .i64 (a0.length : Int))])] [_] ⟨23, [(0, o1 (.sl 6 (List.map eS1 a0))), (3, o1 (.own 85 (List.map eS1 z9))), (4, oI z10), (11, oB (decide (z10 < (a0.length : Int))))], [], 0, []⟩ (by kernel_rfl) ⟨(ovlen (f := eS1) (l := a0)), trivial⟩ ?_
    rcases ite_some h20 with ⟨h11, h20⟩ | ⟨h11, h20⟩
    · refine Tri.cond_true (useb (decide_eq_true h11) (by kernel_rfl)) ?_
      refine Tri.skip ?_
      refine Tri.seq ?_
      refine Tri.block ?_
      obtain ⟨x12, h13, h20⟩ := bind_some' h20
      obtain ⟨r14, h15, h20⟩ := bind_some' h20
      obtain ⟨x16, h17, h20⟩ := bind_some' h20
      refine Tri.r1 [0, 3, 4] 0 [] [(4, .el (eS1 x12)), (6, .call (ag (eS1 r14.1)) [] true), (7, .el (eS1 x16)), (8, .el (eS1 x16)), (8, .ovp (.t 3 0) (.own 85 (List.map eS1 (z9.set (Int.toNat z10) r14.1))))] [_, _, _, _, _, _, _] ⟨23, [(0, o1 (.sl 6 (List.map eS1 a0))), (3, o1 (.own 85 (List.map eS1 (z9.set (Int.toNat z10) r14.1)))), (4, oI z10)], [], 0, []⟩ (by kernel_rfl) ⟨(at?_0 h13), (at?_map (f := eS1) h13), (laws_toItem.fn k x12 r14 h15), (at?_0 h17), (at?_map (f := eS1) h17), (at?_map (f := eS1) h17), (ovset (e := 85) (f := eS1) (l := z9) (v := r14.1) (i := Int.toNat z10)), trivial⟩ ?_
      refine Tri.r1 [0, 3, 4] 0 [] [] [] ⟨23, [(0, o1 (.sl 6 (List.map eS1 a0))), (3, o1 (.own 85 (List.map eS1 (z9.set (Int.toNat z10) r14.1)))), (4, oI (w64 (z10 + 1)))], [], 0, []⟩ (by kernel_rfl) trivial ?_
      exact IH18 _ (z9.set (Int.toNat z10) r14.1, w64 (z10 + 1)) (Nat.le_refl _) h20
    · refine Tri.cond_false (useb (decide_eq_false h11) (by kernel_rfl)) ?_
      refine Tri.fix [3] 0 [] ⟨23, [(3, o1 (.own 85 (List.map eS1 z9)))], [], 0, []⟩ (by kernel_rfl) ?_
      refine Tri.exit ?_
      repeat (with_reducible refine Ex.exit ?_)
      refine Bk.here ?_
      exact ⟨z9, (Option.some.inj h20).symm, rfl⟩
/-! laws_toInterface: function 16 -/
def laws_toInterface.f (k : Nat) (a0 : S2) : Option (S2 × ByteArray × (List S1) × ByteArray × (List S1)) := (laws_toItemS.f k a0.f1).bind fun r1 => some ((⟨a0.f0, r1⟩ : S2), a0.f0, a0.f1, a0.f0, r1)
set_option maxRecDepth 100000 in
theorem laws_toInterface.fn (k : Nat) (a0 : S2) (r : (S2 × ByteArray × (List S1) × ByteArray × (List S1))) (H : laws_toInterface.f k a0 = some r) : Fn Tryd.prog 16 [ag (eS2 a0)] [] (ag (eS2 r.1)) [] := by
  unfold laws_toInterface.f at H
  refine Fn.bodyC (t := 2) (ty := 41) Tryd.func16 rfl rfl (Nat.le_of_ble_eq_true rfl) ?_
  refine Tri.rn [1, 2] 2 [] [] [] ⟨12, [(1, o1 (.ref 0 0)), (2, o1 (.ref 1 0))], [eS2 a0, [cS (⟨#[]⟩ : ByteArray), .nl]], 0, []⟩ (by kernel_rfl) trivial ?_
  refine Tri.rn [1, 2, 3] 3 [] [] [] ⟨12, [(1, o1 (.ref 0 0)), (2, o1 (.ref 1 0)), (3, o1 (.ref 2 0))], [eS2 a0, [cS (⟨#[]⟩ : ByteArray), .nl], [cS (⟨#[]⟩ : ByteArray), .nl]], 0, []⟩ (by kernel_rfl) trivial ?_
  refine Tri.rn [1, 2, 3] 3 [] [] [] ⟨12, [(1, o1 (.ref 0 0)), (2, o1 (.ref 1 0)), (3, o1 (.ref 2 0))], [eS2 a0, [cS (⟨#[]⟩ : ByteArray), .nl], [cS a0.f0, .nl]], 0, []⟩ (by kernel_rfl) trivial ?_
  obtain ⟨r1, h2, H⟩ := bind_some' H
  refine Tri.rn [2, 3] 3 [] [(2, .call (o1 (.own 85 (List.map eS1 r1))) [] true), (4, .frz (.t 9 0))] [_] ⟨12, [(2, o1 (.ref 1 0)), (3, o1 (.ref 2 0))], [eS2 a0, [cS (⟨#[]⟩ : ByteArray), .nl], [cS a0.f0, .sl 6 (List.map eS1 r1)]], 0, []⟩ (by kernel_rfl) ⟨(laws_toItemS.fn k a0.f1 r1 h2), trivial⟩ ?_
  refine Tri.rn [2] 2 [] [] [] ⟨12, [(2, o1 (.ref 1 0))], [eS2 a0, [cS a0.f0, .sl 6 (List.map eS1 r1)]], 0, []⟩ (by kernel_rfl) trivial ?_
  refine Tri.ret ?_
  obtain rfl := Option.some.inj H
  exact ⟨.inr rfl, ⟨_, _, rfl⟩, by kernel_rfl, rfl, rfl, rfl⟩
/-! spec_l00Letter: function 172 -/
def spec_l00Letter.e1 (k : Nat) (a0 : Int) : Option Bool := if (97 : Int) ≤ a0 then (if a0 ≤ 122 then (some true) else (if (65 : Int) ≤ a0 then (if a0 ≤ 90 then (some true) else (some (decide (a0 = 95)))) else (some (decide (a0 = 95))))) else (if (65 : Int) ≤ a0 then (if a0 ≤ 90 then (some true) else (some (decide (a0 = 95)))) else (some (decide (a0 = 95))))
def spec_l00Letter.f (k : Nat) (a0 : Int) : Option Bool := (spec_l00Letter.e1 k a0).bind fun y7 => some y7
set_option maxRecDepth 100000 in
theorem spec_l00Letter.fn (k : Nat) (a0 : Int) (r : Bool) (H : spec_l00Letter.f k a0 = some r) : Fn Tryd.prog 172 [o1 (cK .u8 a0)] [] (oB r) [] := by
  unfold spec_l00Letter.f at H
  refine Fn.body (ts := [2]) Tryd.func172 rfl rfl (by decide) (by decide) (Nat.le_of_ble_eq_true rfl) (Nat.le_refl _) ?_
  refine Tri.rn [0] 0 [] [] [] ⟨21, [(0, o1 (cK .u8 a0))], [], 0, []⟩ (by kernel_rfl) trivial ?_
  obtain ⟨v9, h8, H⟩ := bind_some' H
  refine Tri.join (α := Bool) (fun w => v9 = w) (fun y7 => ⟨21, [(2, oB y7)], [], 0, []⟩) (fun y7 hw => ?_) ?_
  · rw [hw] at H; clear hw
    try dsimp only at H
    refine Tri.ret ?_
    obtain rfl := Option.some.inj H
    exact ⟨.inr rfl, rfl, rfl, Nat.le_refl _, rfl, by simp⟩
  · unfold spec_l00Letter.e1 at h8
    rcases ite_some h8 with ⟨h1, h8⟩ | ⟨h1, h8⟩
    · rcases ite_some h8 with ⟨h2, h8⟩ | ⟨h2, h8⟩
      · refine Tri.r1 [2] 0 [] [(1, .ov [.sc (.bool true)]), (4, .ov [.sc (.bool true)])] [_, _] ⟨21, [(2, oB true)], [], 0, []⟩ (by kernel_rfl) ⟨(ovb (decide_eq_true h1)), (ovb (decide_eq_true h2)), trivial⟩ ?_
        exact ⟨true, (Option.some.inj h8).symm, rfl⟩
      · rcases ite_some h8 with ⟨h3, h8⟩ | ⟨h3, h8⟩
        · rcases ite_some h8 with ⟨h4, h8⟩ | ⟨h4, h8⟩
          · refine Tri.r1 [2] 0 [] [(1, .ov [.sc (.bool true)]), (4, .ov [.sc (.bool false)]), (8, .ov [.sc (.bool true)]), (11, .ov [.sc (.bool true)])] [_, _, _, _] ⟨21, [(2, oB true)], [], 0, []⟩ (by kernel_rfl) ⟨(ovb (decide_eq_true h1)), (ovb (decide_eq_false h2)), (ovb (decide_eq_true h3)), (ovb (decide_eq_true h4)), trivial⟩ ?_
            exact ⟨true, (Option.some.inj h8).symm, rfl⟩
          · refine Tri.r1 [2] 0 [] [(1, .ov [.sc (.bool true)]), (4, .ov [.sc (.bool false)]), (8, .ov [.sc (.bool true)]), (11, .ov [.sc (.bool false)])] [_, _, _, _] ⟨21, [(2, oB (decide (a0 = 95)))], [], 0, []⟩ (by kernel_rfl) ⟨(ovb (decide_eq_true h1)), (ovb (decide_eq_false h2)), (ovb (decide_eq_true h3)), (ovb (decide_eq_false h4)), trivial⟩ ?_
            exact ⟨(decide (a0 = 95)), (Option.some.inj h8).symm, rfl⟩
        · refine Tri.r1 [2] 0 [] [(1, .ov [.sc (.bool true)]), (4, .ov [.sc (.bool false)]), (8, .ov [.sc (.bool false)])] [_, _, _] ⟨21, [(2, oB (decide (a0 = 95)))], [], 0, []⟩ (by kernel_rfl) ⟨(ovb (decide_eq_true h1)), (ovb (decide_eq_false h2)), (ovb (decide_eq_false h3)), trivial⟩ ?_
          exact ⟨(decide (a0 = 95)), (Option.some.inj h8).symm, rfl⟩
    · rcases ite_some h8 with ⟨h5, h8⟩ | ⟨h5, h8⟩
      · rcases ite_some h8 with ⟨h6, h8⟩ | ⟨h6, h8⟩
        · refine Tri.r1 [2] 0 [] [(1, .ov [.sc (.bool false)]), (8, .ov [.sc (.bool true)]), (11, .ov [.sc (.bool true)])] [_, _, _] ⟨21, [(2, oB true)], [], 0, []⟩ (by kernel_rfl) ⟨(ovb (decide_eq_false h1)), (ovb (decide_eq_true h5)), (ovb (decide_eq_true h6)), trivial⟩ ?_
          exact ⟨true, (Option.some.inj h8).symm, rfl⟩
        · refine Tri.r1 [2] 0 [] [(1, .ov [.sc (.bool false)]), (8, .ov [.sc (.bool true)]), (11, .ov [.sc (.bool false)])] [_, _, _] ⟨21, [(2, oB (decide (a0 = 95)))], [], 0, []⟩ (by kernel_rfl) ⟨(ovb (decide_eq_false h1)), (ovb (decide_eq_true h5)), (ovb (decide_eq_false h6)), trivial⟩ ?_
          exact ⟨(decide (a0 = 95)), (Option.some.inj h8).symm, rfl⟩
      · refine Tri.r1 [2] 0 [] [(1, .ov [.sc (.bool false)]), (8, .ov [.sc (.bool false)])] [_, _] ⟨21, [(2, oB (decide (a0 = 95)))], [], 0, []⟩ (by kernel_rfl) ⟨(ovb (decide_eq_false h1)), (ovb (decide_eq_false h5)), trivial⟩ ?_
        exact ⟨(decide (a0 = 95)), (Option.some.inj h8).symm, rfl⟩
/-! spec_l00Digit: function 173 -/
def spec_l00Digit.e1 (k : Nat) (a0 : Int) : Option Bool := if (48 : Int) ≤ a0 then (some (decide (a0 ≤ 57))) else (some false)
def spec_l00Digit.f (k : Nat) (a0 : Int) : Option Bool := (spec_l00Digit.e1 k a0).bind fun y2 => some y2
set_option maxRecDepth 100000 in
theorem spec_l00Digit.fn (k : Nat) (a0 : Int) (r : Bool) (H : spec_l00Digit.f k a0 = some r) : Fn Tryd.prog 173 [o1 (cK .u8 a0)] [] (oB r) [] := by
  unfold spec_l00Digit.f at H
  refine Fn.body (ts := [2]) Tryd.func173 rfl rfl (by decide) (by decide) (Nat.le_of_ble_eq_true rfl) (Nat.le_refl _) ?_
  refine Tri.rn [0] 0 [] [] [] ⟨9, [(0, o1 (cK .u8 a0))], [], 0, []⟩ (by kernel_rfl) trivial ?_
  obtain ⟨v4, h3, H⟩ := bind_some' H
  refine Tri.join (α := Bool) (fun w => v4 = w) (fun y2 => ⟨9, [(2, oB y2)], [], 0, []⟩) (fun y2 hw => ?_) ?_
  · rw [hw] at H; clear hw
    try dsimp only at H
    refine Tri.ret ?_
    obtain rfl := Option.some.inj H
    exact ⟨.inr rfl, rfl, rfl, Nat.le_refl _, rfl, by simp⟩
  · unfold spec_l00Digit.e1 at h3
    rcases ite_some h3 with ⟨h1, h3⟩ | ⟨h1, h3⟩
    · refine Tri.r1 [2] 0 [] [(1, .ov [.sc (.bool true)])] [_] ⟨9, [(2, oB (decide (a0 ≤ 57)))], [], 0, []⟩ (by kernel_rfl) ⟨(ovb (decide_eq_true h1)), trivial⟩ ?_
      exact ⟨(decide (a0 ≤ 57)), (Option.some.inj h3).symm, rfl⟩
    · refine Tri.r1 [2] 0 [] [(1, .ov [.sc (.bool false)])] [_] ⟨9, [(2, oB false)], [], 0, []⟩ (by kernel_rfl) ⟨(ovb (decide_eq_false h1)), trivial⟩ ?_
      exact ⟨false, (Option.some.inj h3).symm, rfl⟩
/-! spec_l00Word: function 136 -/
def spec_l00Word.e1 (k : Nat) (a0 : ByteArray) : Option Bool := if (a0.size : Int) < 1 then (some true) else (if (40 : Int) < (a0.size : Int) then (some true) else (if (0 : Int) ≤ 0 then (if 0 < (a0.size : Int) then ((spec_l00Letter.f k (byteAt a0 0)).bind fun r5 => some (!r5)) else none) else none))
def spec_l00Word.e2 (k : Nat) (a0 : ByteArray) (z23 : Int) : Option Bool := if (0 : Int) ≤ z23 then ((spec_l00Letter.f k (byteAt a0 z23)).bind fun r26 => if r26 = true then (some false) else ((spec_l00Digit.f k (byteAt a0 z23)).bind fun r29 => some (!r29))) else none
def spec_l00Word.l3 : Nat → ByteArray → Int → Option (Bool ⊕ Unit)
  | 0, _, _ => none
  | k + 1, a0, z23 => if z23 < (a0.size : Int) then ((spec_l00Word.e2 k a0 z23).bind fun y31 => if y31 = true then (some (.inl false)) else (spec_l00Word.l3 k a0 (w64 (z23 + 1)))) else (some (.inr ()))
def spec_l00Word.e4 (k : Nat) (a0 : ByteArray) : Option (Bool ⊕ Unit) := spec_l00Word.l3 k a0 1
def spec_l00Word.f (k : Nat) (a0 : ByteArray) : Option Bool := (spec_l00Word.e1 k a0).bind fun y7 => if y7 = true then (some false) else ((spec_l00Word.e4 k a0).bind fun v => match v with | .inl r => some r | .inr _ => some true)
set_option maxRecDepth 100000 in
theorem spec_l00Word.fn (k : Nat) (a0 : ByteArray) (r : Bool) (H : spec_l00Word.f k a0 = some r) : Fn Tryd.prog 136 [oS a0] [] (oB r) [] := by
  unfold spec_l00Word.f at H
  refine Fn.body (ts := [2]) Tryd.func136 rfl rfl (by decide) (by decide) (Nat.le_of_ble_eq_true rfl) (Nat.le_refl _) ?_
  refine Tri.rn [0] 0 [] [] [] ⟨36, [(0, oS a0)], [], 0, []⟩ (by kernel_rfl) trivial ?_
  refine Tri.seq ?_
  obtain ⟨v9, h8, H⟩ := bind_some' H
  refine Tri.join (α := Bool) (fun w => v9 = w) (fun y7 => ⟨36, [(0, oS a0), (17, oB y7)], [], 0, []⟩) (fun y7 hw => ?_) ?_
  · rw [hw] at H; clear hw
    try dsimp only at H
    rcases iteb_some H with ⟨h10, H⟩ | ⟨h10, H⟩
    · refine Tri.cond_true (useb h10 (by kernel_rfl)) ?_
      refine Tri.rn [2] 0 [] [] [] ⟨36, [(2, oB false)], [], 0, []⟩ (by kernel_rfl) trivial ?_
      refine Tri.ret ?_
      obtain rfl := Option.some.inj H
      exact ⟨.inr rfl, rfl, rfl, Nat.le_refl _, rfl, by simp⟩
    · refine Tri.cond_false (useb h10 (by kernel_rfl)) ?_
      refine Tri.skip ?_
      obtain ⟨v37, h36, H⟩ := bind_some' H
      refine Tri.join (α := Unit) (fun w => v37 = .inr w) (fun _ => ⟨36, [], [], 0, []⟩) (fun w hw => ?_) ?_
      · rw [hw] at H; clear hw
        try dsimp only at H
        refine Tri.rn [2] 0 [] [] [] ⟨36, [(2, oB true)], [], 0, []⟩ (by kernel_rfl) trivial ?_
        refine Tri.ret ?_
        obtain rfl := Option.some.inj H
        exact ⟨.inr rfl, rfl, rfl, Nat.le_refl _, rfl, by simp⟩
      · unfold spec_l00Word.e4 at h36
        refine Tri.rn [0, 3] 0 [] [] [] ⟨36, [(0, oS a0), (3, oI 1)], [], 0, []⟩ (by kernel_rfl) trivial ?_
        refine Tri.block ?_
        refine Tri.loop k (TriR.ind (α := Int) (fun k x => spec_l00Word.l3 k a0 x) (fun x => ⟨36, [(0, oS a0), (3, oI x)], [], 0, []⟩) (fun _ => rfl) (fun k z23 h36 IH35 => ?_) k 1 h36)
        rw [spec_l00Word.l3.eq_2] at h36
        refine Tri.seq ?_
        refine Tri.rn [0, 3, 21] 0 [] [] [] ⟨36, [(0, oS a0), (3, oI z23), (21, oB (decide (z23 < (a0.size : Int))))], [], 0, []⟩ (by kernel_rfl) trivial ?_
        rcases ite_some h36 with ⟨h24, h36⟩ | ⟨h24, h36⟩
        · refine Tri.cond_true (useb (decide_eq_true h24) (by kernel_rfl)) ?_
          refine Tri.skip ?_
          refine Tri.seq ?_
          refine Tri.block ?_
          obtain ⟨v33, h32, h36⟩ := bind_some' h36
          refine Tri.join (α := Bool) (fun w => v33 = w) (fun y31 => ⟨36, [(0, oS a0), (3, oI z23), (35, oB y31)], [], 0, []⟩) (fun y31 hw => ?_) ?_
          · rw [hw] at h36; clear hw
            try dsimp only at h36
            rcases iteb_some h36 with ⟨h34, h36⟩ | ⟨h34, h36⟩
            · refine Tri.cond_true (useb h34 (by kernel_rfl)) ?_
              refine Tri.rn [2] 0 [] [] [] ⟨36, [(2, oB false)], [], 0, []⟩ (by kernel_rfl) trivial ?_
              refine Tri.ret ?_
              obtain rfl := Option.some.inj h36
              try dsimp only at H
              obtain rfl := Option.some.inj H
              exact ⟨.inr rfl, rfl, rfl, Nat.le_refl _, rfl, by simp⟩
            · refine Tri.cond_false (useb h34 (by kernel_rfl)) ?_
              refine Tri.skip ?_
              refine Tri.r1 [0, 3] 0 [] [] [] ⟨36, [(0, oS a0), (3, oI (w64 (z23 + 1)))], [], 0, []⟩ (by kernel_rfl) trivial ?_
              exact IH35 _ (w64 (z23 + 1)) (Nat.le_refl _) h36
          · unfold spec_l00Word.e2 at h32
            obtain ⟨h25, h32⟩ := need_some h32
            obtain ⟨r26, h27, h32⟩ := bind_some' h32
            rcases iteb_some h32 with ⟨h28, h32⟩ | ⟨h28, h32⟩
            · refine Tri.r1 [0, 3, 35] 0 [] [(3, .call (oB r26) [] false), (3, .ov [.sc (.bool true)])] [_, _, _, _, _] ⟨36, [(0, oS a0), (3, oI z23), (35, oB false)], [], 0, []⟩ (by kernel_rfl) ⟨h25, h24, (spec_l00Letter.fn k (byteAt a0 z23) r26 h27), (show (List.all [cB r26] PC.flatB) = true from rfl), (ovb h28), trivial⟩ ?_
              exact ⟨false, (Option.some.inj h32).symm, rfl⟩
            · obtain ⟨r29, h30, h32⟩ := bind_some' h32
              refine Tri.r1 [0, 3, 35] 0 [] [(3, .call (oB r26) [] false), (3, .ov [.sc (.bool false)]), (9, .call (oB r29) [] false)] [_, _, _, _, _, _, _, _, _] ⟨36, [(0, oS a0), (3, oI z23), (35, oB (!r29))], [], 0, []⟩ (by kernel_rfl) ⟨h25, h24, (spec_l00Letter.fn k (byteAt a0 z23) r26 h27), (show (List.all [cB r26] PC.flatB) = true from rfl), (ovb h28), h25, h24, (spec_l00Digit.fn k (byteAt a0 z23) r29 h30), (show (List.all [cB r29] PC.flatB) = true from rfl), trivial⟩ ?_
              exact ⟨(!r29), (Option.some.inj h32).symm, rfl⟩
        · refine Tri.cond_false (useb (decide_eq_false h24) (by kernel_rfl)) ?_
          refine Tri.fix [] 0 [] ⟨36, [], [], 0, []⟩ (by kernel_rfl) ?_
          refine Tri.exit ?_
          repeat (with_reducible refine Ex.exit ?_)
          refine Bk.here ?_
          exact ⟨(), (Option.some.inj h36).symm, rfl⟩
  · unfold spec_l00Word.e1 at h8
    rcases ite_some h8 with ⟨h1, h8⟩ | ⟨h1, h8⟩
    · refine Tri.r1 [0, 17] 0 [] [(2, .ov [.sc (.bool true)])] [_] ⟨36, [(0, oS a0), (17, oB true)], [], 0, []⟩ (by kernel_rfl) ⟨(ovb (decide_eq_true h1)), trivial⟩ ?_
      exact ⟨true, (Option.some.inj h8).symm, rfl⟩
    · rcases ite_some h8 with ⟨h2, h8⟩ | ⟨h2, h8⟩
      · refine Tri.r1 [0, 17] 0 [] [(2, .ov [.sc (.bool false)]), (6, .ov [.sc (.bool true)])] [_, _] ⟨36, [(0, oS a0), (17, oB true)], [], 0, []⟩ (by kernel_rfl) ⟨(ovb (decide_eq_false h1)), (ovb (decide_eq_true h2)), trivial⟩ ?_
        exact ⟨true, (Option.some.inj h8).symm, rfl⟩
      · obtain ⟨h3, h8⟩ := need_some h8
        obtain ⟨h4, h8⟩ := need_some h8
        obtain ⟨r5, h6, h8⟩ := bind_some' h8
        refine Tri.r1 [0, 17] 0 [] [(2, .ov [.sc (.bool false)]), (6, .ov [.sc (.bool false)]), (11, .call (oB r5) [] false)] [_, _, _, _, _, _] ⟨36, [(0, oS a0), (17, oB (!r5))], [], 0, []⟩ (by kernel_rfl) ⟨(ovb (decide_eq_false h1)), (ovb (decide_eq_false h2)), h3, h4, (spec_l00Letter.fn k (byteAt a0 0) r5 h6), (show (List.all [cB r5] PC.flatB) = true from rfl), trivial⟩ ?_
        exact ⟨(!r5), (Option.some.inj h8).symm, rfl⟩
/-! spec_NameOK: function 98 -/
def spec_NameOK.f (k : Nat) (a0 : ByteArray) : Option Bool := (spec_l00Word.f k a0).bind fun r1 => some r1
set_option maxRecDepth 100000 in
theorem spec_NameOK.fn (k : Nat) (a0 : ByteArray) (r : Bool) (H : spec_NameOK.f k a0 = some r) : Fn Tryd.prog 98 [oS a0] [] (oB r) [] := by
  unfold spec_NameOK.f at H
  refine Fn.body (ts := [2]) Tryd.func98 rfl rfl (by decide) (by decide) (Nat.le_of_ble_eq_true rfl) (Nat.le_refl _) ?_
  refine Tri.rn [0] 0 [] [] [] ⟨5, [(0, oS a0)], [], 0, []⟩ (by kernel_rfl) trivial ?_
  obtain ⟨r1, h2, H⟩ := bind_some' H
  refine Tri.rn [2] 0 [] [(1, .call (oB r1) [] false)] [_, _] ⟨5, [(2, oB r1)], [], 0, []⟩ (by kernel_rfl) ⟨(spec_l00Word.fn k a0 r1 h2), (show (List.all [cB r1] PC.flatB) = true from rfl), trivial⟩ ?_
  refine Tri.ret ?_
  obtain rfl := Option.some.inj H
  exact ⟨.inr rfl, rfl, rfl, Nat.le_refl _, rfl, by simp⟩
/-! spec_l01Keys: function 138 -/
def spec_l01Keys.f (k : Nat) : Option (List ByteArray) := some ([(⟨#[77, 79, 68, 85, 76, 69]⟩ : ByteArray), (⟨#[73, 77, 80, 79, 82, 84]⟩ : ByteArray), (⟨#[67, 79, 78, 83, 84]⟩ : ByteArray), (⟨#[86, 65, 82]⟩ : ByteArray), (⟨#[80, 82, 79, 67, 69, 68, 85, 82, 69]⟩ : ByteArray), (⟨#[66, 69, 71, 73, 78]⟩ : ByteArray), (⟨#[69, 78, 68]⟩ : ByteArray), (⟨#[73, 70]⟩ : ByteArray), (⟨#[84, 72, 69, 78]⟩ : ByteArray), (⟨#[69, 76, 83, 73, 70]⟩ : ByteArray), (⟨#[69, 76, 83, 69]⟩ : ByteArray), (⟨#[87, 72, 73, 76, 69]⟩ : ByteArray), (⟨#[68, 79]⟩ : ByteArray), (⟨#[82, 69, 84, 85, 82, 78]⟩ : ByteArray), (⟨#[79, 82]⟩ : ByteArray), (⟨#[68, 73, 86]⟩ : ByteArray), (⟨#[77, 79, 68]⟩ : ByteArray), (⟨#[84, 82, 85, 69]⟩ : ByteArray), (⟨#[70, 65, 76, 83, 69]⟩ : ByteArray), (⟨#[65, 82, 82, 65, 89]⟩ : ByteArray), (⟨#[79, 70]⟩ : ByteArray), (⟨#[73, 78, 84, 69, 71, 69, 82]⟩ : ByteArray), (⟨#[66, 79, 79, 76, 69, 65, 78]⟩ : ByteArray), (⟨#[67, 72, 65, 82]⟩ : ByteArray), (⟨#[87, 82, 73, 84, 69]⟩ : ByteArray), (⟨#[82, 69, 65, 68]⟩ : ByteArray), (⟨#[79, 82, 68]⟩ : ByteArray), (⟨#[67, 72, 82]⟩ : ByteArray), (⟨#[76, 69, 78]⟩ : ByteArray)] : List ByteArray)
set_option maxRecDepth 100000 in
theorem spec_l01Keys.fn (k : Nat) (r : (List ByteArray)) (H : spec_l01Keys.f k  = some r) : Fn Tryd.prog 138 [] [] (o1 (.own 9 (List.map eS r))) [] := by
  unfold spec_l01Keys.f at H
  refine Fn.body (ts := [0]) Tryd.func138 rfl rfl (by decide) (by decide) (Nat.le_of_ble_eq_true rfl) (Nat.le_refl _) ?_
  refine Tri.rn [] 0 [] [] [] ⟨2, [], [], 0, []⟩ (by kernel_rfl) trivial ?_
  refine Tri.rn [0] 0 [] [] [] ⟨2, [(0, o1 (.own 9 (List.map eS ([(⟨#[77, 79, 68, 85, 76, 69]⟩ : ByteArray), (⟨#[73, 77, 80, 79, 82, 84]⟩ : ByteArray), (⟨#[67, 79, 78, 83, 84]⟩ : ByteArray), (⟨#[86, 65, 82]⟩ : ByteArray), (⟨#[80, 82, 79, 67, 69, 68, 85, 82, 69]⟩ : ByteArray), (⟨#[66, 69, 71, 73, 78]⟩ : ByteArray), (⟨#[69, 78, 68]⟩ : ByteArray), (⟨#[73, 70]⟩ : ByteArray), (⟨#[84, 72, 69, 78]⟩ : ByteArray), (⟨#[69, 76, 83, 73, 70]⟩ : ByteArray), (⟨#[69, 76, 83, 69]⟩ : ByteArray), (⟨#[87, 72, 73, 76, 69]⟩ : ByteArray), (⟨#[68, 79]⟩ : ByteArray), (⟨#[82, 69, 84, 85, 82, 78]⟩ : ByteArray), (⟨#[79, 82]⟩ : ByteArray), (⟨#[68, 73, 86]⟩ : ByteArray), (⟨#[77, 79, 68]⟩ : ByteArray), (⟨#[84, 82, 85, 69]⟩ : ByteArray), (⟨#[70, 65, 76, 83, 69]⟩ : ByteArray), (⟨#[65, 82, 82, 65, 89]⟩ : ByteArray), (⟨#[79, 70]⟩ : ByteArray), (⟨#[73, 78, 84, 69, 71, 69, 82]⟩ : ByteArray), (⟨#[66, 79, 79, 76, 69, 65, 78]⟩ : ByteArray), (⟨#[67, 72, 65, 82]⟩ : ByteArray), (⟨#[87, 82, 73, 84, 69]⟩ : ByteArray), (⟨#[82, 69, 65, 68]⟩ : ByteArray), (⟨#[79, 82, 68]⟩ : ByteArray), (⟨#[67, 72, 82]⟩ : ByteArray), (⟨#[76, 69, 78]⟩ : ByteArray)] : List ByteArray))))], [], 0, []⟩ (by kernel_rfl) trivial ?_
  refine Tri.ret ?_
  obtain rfl := Option.some.inj H
  exact ⟨.inr rfl, rfl, rfl, Nat.le_refl _, rfl, by simp⟩
/-! spec_l01Place: function 137 -/
def spec_l01Place.l1 : Nat → (List ByteArray) → ByteArray → Int → Option (Int ⊕ Unit)
  | 0, _, _, _ => none
  | k + 1, a0, a1, z5 => if z5 < (a0.length : Int) then ((at? a0 z5).bind fun x7 => if x7 = a1 then (some (.inl z5)) else (spec_l01Place.l1 k a0 a1 (w64 (z5 + 1)))) else (some (.inr ()))
def spec_l01Place.e2 (k : Nat) (a0 : (List ByteArray)) (a1 : ByteArray) : Option (Int ⊕ Unit) := spec_l01Place.l1 k a0 a1 0
def spec_l01Place.f (k : Nat) (a0 : (List ByteArray)) (a1 : ByteArray) : Option Int := (spec_l01Place.e2 k a0 a1).bind fun v => match v with | .inl r => some r | .inr _ => some (-1)
set_option maxRecDepth 100000 in
theorem spec_l01Place.fn (k : Nat) (a0 : (List ByteArray)) (a1 : ByteArray) (r : Int) (H : spec_l01Place.f k a0 a1 = some r) : Fn Tryd.prog 137 [o1 (.sl 1 (List.map eS a0)), oS a1] [] (oI r) [] := by
  unfold spec_l01Place.f at H
  refine Fn.body (ts := [4]) Tryd.func137 rfl rfl (by decide) (by decide) (Nat.le_of_ble_eq_true rfl) (Nat.le_refl _) ?_
  refine Tri.rn [0, 1] 0 [] [] [] ⟨19, [(0, o1 (.sl 1 (List.map eS a0))), (1, oS a1)], [], 0, []⟩ (by kernel_rfl) trivial ?_
  obtain ⟨v12, h11, H⟩ := bind_some' H
  refine Tri.join (α := Unit) (fun w => v12 = .inr w) (fun _ => ⟨19, [], [], 0, []⟩) (fun w hw => ?_) ?_
  · rw [hw] at H; clear hw
    try dsimp only at H
    refine Tri.rn [4] 0 [] [] [] ⟨19, [(4, oI (-1))], [], 0, []⟩ (by kernel_rfl) trivial ?_
    refine Tri.ret ?_
    obtain rfl := Option.some.inj H
    exact ⟨.inr rfl, rfl, rfl, Nat.le_refl _, rfl, by simp⟩
  · unfold spec_l01Place.e2 at h11
    refine Tri.rn [0, 1, 5] 0 [] [] [] ⟨19, [(0, o1 (.sl 1 (List.map eS a0))), (1, oS a1), (5, oI 0)], [], 0, []⟩ (by kernel_rfl) trivial ?_
    refine Tri.block ?_
    refine Tri.loop k (TriR.ind (α := Int) (fun k x => spec_l01Place.l1 k a0 a1 x) (fun x => ⟨19, [(0, o1 (.sl 1 (List.map eS a0))), (1, oS a1), (5, oI x)], [], 0, []⟩) (fun _ => rfl) (fun k z5 h11 IH10 => ?_) k 0 h11)
    rw [spec_l01Place.l1.eq_2] at h11
    refine Tri.seq ?_
    refine Tri.rn [0, 1, 5, 9] 0 [] [(2, .ov [.sc (.int .i64 (a0.length : Int))])] [_] ⟨19, [(0, o1 (.sl 1 (List.map eS a0))), (1, oS a1), (5, oI z5), (9, oB (decide (z5 < (a0.length : Int))))], [], 0, []⟩ (by kernel_rfl) ⟨(ovlen (f := eS) (l := a0)), trivial⟩ ?_
    rcases ite_some h11 with ⟨h6, h11⟩ | ⟨h6, h11⟩
    · refine Tri.cond_true (useb (decide_eq_true h6) (by kernel_rfl)) ?_
      refine Tri.skip ?_
      refine Tri.seq ?_
      refine Tri.block ?_
      obtain ⟨x7, h8, h11⟩ := bind_some' h11
      refine Tri.rn [0, 1, 5, 17] 0 [] [(2, .el (eS x7))] [_, _] ⟨19, [(0, o1 (.sl 1 (List.map eS a0))), (1, oS a1), (5, oI z5), (17, oB (decide (x7 = a1)))], [], 0, []⟩ (by kernel_rfl) ⟨(at?_0 h8), (at?_map (f := eS) h8), trivial⟩ ?_
      rcases ite_some h11 with ⟨h9, h11⟩ | ⟨h9, h11⟩
      · refine Tri.cond_true (useb (decide_eq_true h9) (by kernel_rfl)) ?_
        refine Tri.rn [4] 0 [] [] [] ⟨19, [(4, oI z5)], [], 0, []⟩ (by kernel_rfl) trivial ?_
        refine Tri.ret ?_
        obtain rfl := Option.some.inj h11
        try dsimp only at H
        obtain rfl := Option.some.inj H
        exact ⟨.inr rfl, rfl, rfl, Nat.le_refl _, rfl, by simp⟩
      · refine Tri.cond_false (useb (decide_eq_false h9) (by kernel_rfl)) ?_
        refine Tri.skip ?_
        refine Tri.r1 [0, 1, 5] 0 [] [] [] ⟨19, [(0, o1 (.sl 1 (List.map eS a0))), (1, oS a1), (5, oI (w64 (z5 + 1)))], [], 0, []⟩ (by kernel_rfl) trivial ?_
        exact IH10 _ (w64 (z5 + 1)) (Nat.le_refl _) h11
    · refine Tri.cond_false (useb (decide_eq_false h6) (by kernel_rfl)) ?_
      refine Tri.fix [] 0 [] ⟨19, [], [], 0, []⟩ (by kernel_rfl) ?_
      refine Tri.exit ?_
      repeat (with_reducible refine Ex.exit ?_)
      refine Bk.here ?_
      exact ⟨(), (Option.some.inj h11).symm, rfl⟩
/-! spec_IsKey: function 99 -/
def spec_IsKey.f (k : Nat) (a0 : ByteArray) : Option Bool := (spec_l01Keys.f k).bind fun r1 => (spec_l01Place.f k r1 a0).bind fun r3 => some (decide ((0 : Int) ≤ r3))
set_option maxRecDepth 100000 in
theorem spec_IsKey.fn (k : Nat) (a0 : ByteArray) (r : Bool) (H : spec_IsKey.f k a0 = some r) : Fn Tryd.prog 99 [oS a0] [] (oB r) [] := by
  unfold spec_IsKey.f at H
  refine Fn.body (ts := [2]) Tryd.func99 rfl rfl (by decide) (by decide) (Nat.le_of_ble_eq_true rfl) (Nat.le_refl _) ?_
  refine Tri.rn [0] 0 [] [] [] ⟨7, [(0, oS a0)], [], 0, []⟩ (by kernel_rfl) trivial ?_
  obtain ⟨r1, h2, H⟩ := bind_some' H
  obtain ⟨r3, h4, H⟩ := bind_some' H
  refine Tri.rn [2] 0 [] [(0, .call (o1 (.own 9 (List.map eS r1))) [] false), (2, .call (oI r3) [] false)] [_, _, _, _] ⟨7, [(2, oB (decide ((0 : Int) ≤ r3)))], [], 0, []⟩ (by kernel_rfl) ⟨(spec_l01Keys.fn k r1 h2), (show (List.all [.own 9 (List.map eS r1)] PC.flatB) = true by simp [PC.flatB, PC.scalar, cI, cK, cB, cS, eS]), (spec_l01Place.fn k r1 a0 r3 h4), (show (List.all [cI r3] PC.flatB) = true from rfl), trivial⟩ ?_
  refine Tri.ret ?_
  obtain rfl := Option.some.inj H
  exact ⟨.inr rfl, rfl, rfl, Nat.le_refl _, rfl, by simp⟩
/-! spec_l02Name: function 42 -/
def spec_l02Name.e1 (k : Nat) (a0 : ByteArray) : Option Bool := (spec_NameOK.f k a0).bind fun r1 => if r1 = true then ((spec_IsKey.f k a0).bind fun r4 => some (!r4)) else (some false)
def spec_l02Name.f (k : Nat) (a0 : ByteArray) : Option Bool := (spec_l02Name.e1 k a0).bind fun y6 => some y6
set_option maxRecDepth 100000 in
theorem spec_l02Name.fn (k : Nat) (a0 : ByteArray) (r : Bool) (H : spec_l02Name.f k a0 = some r) : Fn Tryd.prog 42 [oS a0] [] (oB r) [] := by
  unfold spec_l02Name.f at H
  refine Fn.body (ts := [2]) Tryd.func42 rfl rfl (by decide) (by decide) (Nat.le_of_ble_eq_true rfl) (Nat.le_refl _) ?_
  refine Tri.rn [0] 0 [] [] [] ⟨10, [(0, oS a0)], [], 0, []⟩ (by kernel_rfl) trivial ?_
  obtain ⟨v8, h7, H⟩ := bind_some' H
  refine Tri.join (α := Bool) (fun w => v8 = w) (fun y6 => ⟨10, [(2, oB y6)], [], 0, []⟩) (fun y6 hw => ?_) ?_
  · rw [hw] at H; clear hw
    try dsimp only at H
    refine Tri.ret ?_
    obtain rfl := Option.some.inj H
    exact ⟨.inr rfl, rfl, rfl, Nat.le_refl _, rfl, by simp⟩
  · unfold spec_l02Name.e1 at h7
    obtain ⟨r1, h2, h7⟩ := bind_some' h7
    rcases iteb_some h7 with ⟨h3, h7⟩ | ⟨h3, h7⟩
    · obtain ⟨r4, h5, h7⟩ := bind_some' h7
      refine Tri.r1 [2] 0 [] [(1, .call (oB r1) [] false), (1, .ov [.sc (.bool true)]), (4, .call (oB r4) [] false)] [_, _, _, _, _] ⟨10, [(2, oB (!r4))], [], 0, []⟩ (by kernel_rfl) ⟨(spec_NameOK.fn k a0 r1 h2), (show (List.all [cB r1] PC.flatB) = true from rfl), (ovb h3), (spec_IsKey.fn k a0 r4 h5), (show (List.all [cB r4] PC.flatB) = true from rfl), trivial⟩ ?_
      exact ⟨(!r4), (Option.some.inj h7).symm, rfl⟩
    · refine Tri.r1 [2] 0 [] [(1, .call (oB r1) [] false), (1, .ov [.sc (.bool false)])] [_, _, _] ⟨10, [(2, oB false)], [], 0, []⟩ (by kernel_rfl) ⟨(spec_NameOK.fn k a0 r1 h2), (show (List.all [cB r1] PC.flatB) = true from rfl), (ovb h3), trivial⟩ ?_
      exact ⟨false, (Option.some.inj h7).symm, rfl⟩
/-! spec_l01In: function 52 -/
def spec_l01In.e1 (k : Nat) (a0 : Int) (a1 : Int) (a2 : Int) : Option Bool := if a1 ≤ a0 then (some (decide (a0 ≤ a2))) else (some false)
def spec_l01In.f (k : Nat) (a0 : Int) (a1 : Int) (a2 : Int) : Option Bool := (spec_l01In.e1 k a0 a1 a2).bind fun y2 => some y2
set_option maxRecDepth 100000 in
theorem spec_l01In.fn (k : Nat) (a0 : Int) (a1 : Int) (a2 : Int) (r : Bool) (H : spec_l01In.f k a0 a1 a2 = some r) : Fn Tryd.prog 52 [oI a0, oI a1, oI a2] [] (oB r) [] := by
  unfold spec_l01In.f at H
  refine Fn.body (ts := [6]) Tryd.func52 rfl rfl (by decide) (by decide) (Nat.le_of_ble_eq_true rfl) (Nat.le_refl _) ?_
  refine Tri.rn [0, 1, 2] 0 [] [] [] ⟨15, [(0, oI a0), (1, oI a1), (2, oI a2)], [], 0, []⟩ (by kernel_rfl) trivial ?_
  obtain ⟨v4, h3, H⟩ := bind_some' H
  refine Tri.join (α := Bool) (fun w => v4 = w) (fun y2 => ⟨15, [(6, oB y2)], [], 0, []⟩) (fun y2 hw => ?_) ?_
  · rw [hw] at H; clear hw
    try dsimp only at H
    refine Tri.ret ?_
    obtain rfl := Option.some.inj H
    exact ⟨.inr rfl, rfl, rfl, Nat.le_refl _, rfl, by simp⟩
  · unfold spec_l01In.e1 at h3
    rcases ite_some h3 with ⟨h1, h3⟩ | ⟨h1, h3⟩
    · refine Tri.r1 [6] 0 [] [(2, .ov [.sc (.bool true)])] [_] ⟨15, [(6, oB (decide (a0 ≤ a2)))], [], 0, []⟩ (by kernel_rfl) ⟨(ovb (decide_eq_true h1)), trivial⟩ ?_
      exact ⟨(decide (a0 ≤ a2)), (Option.some.inj h3).symm, rfl⟩
    · refine Tri.r1 [6] 0 [] [(2, .ov [.sc (.bool false)])] [_] ⟨15, [(6, oB false)], [], 0, []⟩ (by kernel_rfl) ⟨(ovb (decide_eq_false h1)), trivial⟩ ?_
      exact ⟨false, (Option.some.inj h3).symm, rfl⟩
/-! spec_CharOK: function 61 -/
def spec_CharOK.e1 (k : Nat) (a0 : Int) : Option Bool := (spec_l01In.f k a0 0 55295).bind fun r1 => if r1 = true then (some true) else ((spec_l01In.f k a0 57344 1114111).bind fun r4 => some r4)
def spec_CharOK.f (k : Nat) (a0 : Int) : Option Bool := (spec_CharOK.e1 k a0).bind fun y6 => some y6
set_option maxRecDepth 100000 in
theorem spec_CharOK.fn (k : Nat) (a0 : Int) (r : Bool) (H : spec_CharOK.f k a0 = some r) : Fn Tryd.prog 61 [oI a0] [] (oB r) [] := by
  unfold spec_CharOK.f at H
  refine Fn.body (ts := [2]) Tryd.func61 rfl rfl (by decide) (by decide) (Nat.le_of_ble_eq_true rfl) (Nat.le_refl _) ?_
  refine Tri.rn [0] 0 [] [] [] ⟨9, [(0, oI a0)], [], 0, []⟩ (by kernel_rfl) trivial ?_
  obtain ⟨v8, h7, H⟩ := bind_some' H
  refine Tri.join (α := Bool) (fun w => v8 = w) (fun y6 => ⟨9, [(2, oB y6)], [], 0, []⟩) (fun y6 hw => ?_) ?_
  · rw [hw] at H; clear hw
    try dsimp only at H
    refine Tri.ret ?_
    obtain rfl := Option.some.inj H
    exact ⟨.inr rfl, rfl, rfl, Nat.le_refl _, rfl, by simp⟩
  · unfold spec_CharOK.e1 at h7
    obtain ⟨r1, h2, h7⟩ := bind_some' h7
    rcases iteb_some h7 with ⟨h3, h7⟩ | ⟨h3, h7⟩
    · refine Tri.r1 [2] 0 [] [(1, .call (oB r1) [] false), (1, .ov [.sc (.bool true)])] [_, _, _] ⟨9, [(2, oB true)], [], 0, []⟩ (by kernel_rfl) ⟨(spec_l01In.fn k a0 0 55295 r1 h2), (show (List.all [cB r1] PC.flatB) = true from rfl), (ovb h3), trivial⟩ ?_
      exact ⟨true, (Option.some.inj h7).symm, rfl⟩
    · obtain ⟨r4, h5, h7⟩ := bind_some' h7
      refine Tri.r1 [2] 0 [] [(1, .call (oB r1) [] false), (1, .ov [.sc (.bool false)]), (4, .call (oB r4) [] false)] [_, _, _, _, _] ⟨9, [(2, oB r4)], [], 0, []⟩ (by kernel_rfl) ⟨(spec_l01In.fn k a0 0 55295 r1 h2), (show (List.all [cB r1] PC.flatB) = true from rfl), (ovb h3), (spec_l01In.fn k a0 57344 1114111 r4 h5), (show (List.all [cB r4] PC.flatB) = true from rfl), trivial⟩ ?_
      exact ⟨r4, (Option.some.inj h7).symm, rfl⟩
/-! spec_l03Item: function 43 -/
def spec_l03Item.e1 (k : Nat) (a0 : S1) : Option Bool := (spec_l02Name.f k a0.f4).bind fun r1 => if r1 = true then (if a0.f0 = 3 then (if a0.f0 = 2 then (if a0.f0 = 1 then (some (decide ((20 : Int) < (a0.f5.length : Int)))) else (if a0.f3 = 0 then (some (decide ((20 : Int) < (a0.f5.length : Int)))) else (some true))) else (if a0.f2 = 0 then (if a0.f0 = 1 then (some (decide ((20 : Int) < (a0.f5.length : Int)))) else (if a0.f3 = 0 then (some (decide ((20 : Int) < (a0.f5.length : Int)))) else (some true))) else (some true))) else (if (0 : Int) < (a0.f5.length : Int) then (some true) else (if a0.f0 = 2 then (if a0.f0 = 1 then (some (decide ((20 : Int) < (a0.f5.length : Int)))) else (if a0.f3 = 0 then (some (decide ((20 : Int) < (a0.f5.length : Int)))) else (some true))) else (if a0.f2 = 0 then (if a0.f0 = 1 then (some (decide ((20 : Int) < (a0.f5.length : Int)))) else (if a0.f3 = 0 then (some (decide ((20 : Int) < (a0.f5.length : Int)))) else (some true))) else (some true))))) else (some true)
def spec_l03Item.e2 (k : Nat) (a0 : S1) : Option Bool := (spec_l01In.f k a0.f1 1 3).bind fun r23 => if r23 = true then (if a0.f1 = 2 then ((spec_l01In.f k a0.f3 0 1).bind fun r27 => if r27 = true then (if a0.f1 = 3 then ((spec_CharOK.f k a0.f3).bind fun r31 => some r31) else (some true)) else (some false)) else (if a0.f1 = 3 then ((spec_CharOK.f k a0.f3).bind fun r34 => some r34) else (some true))) else (some false)
def spec_l03Item.e3 (k : Nat) (a0 : S1) : Option Bool := (spec_l01In.f k a0.f1 1 3).bind fun r40 => if r40 = true then ((spec_l01In.f k a0.f2 0 100).bind fun r43 => some r43) else (some false)
def spec_l03Item.l4 : Nat → S1 → Int → Option (Bool ⊕ Unit)
  | 0, _, _ => none
  | k + 1, a0, z55 => if z55 < (a0.f5.length : Int) then ((at? a0.f5 z55).bind fun x57 => (spec_l01In.f k x57.f0 1 3).bind fun r59 => if r59 = true then (spec_l03Item.l4 k a0 (w64 (z55 + 1))) else (some (.inl false))) else (some (.inr ()))
def spec_l03Item.e5 (k : Nat) (a0 : S1) : Option (Bool ⊕ Unit) := spec_l03Item.l4 k a0 0
def spec_l03Item.e6 (k : Nat) (a0 : S1) : Option (Bool ⊕ Unit) := if a0.f0 = 1 then ((spec_l03Item.e2 k a0).bind fun y36 => some (.inl y36)) else (if a0.f0 = 2 then ((spec_l03Item.e3 k a0).bind fun y45 => some (.inl y45)) else (if a0.f0 = 3 then ((spec_l03Item.e5 k a0).bind fun v => match v with | .inl r => some (.inl r) | .inr _ => (spec_l01In.f k a0.f1 0 3).bind fun r65 => some (.inl r65)) else (some (.inr ()))))
def spec_l03Item.f (k : Nat) (a0 : S1) : Option Bool := (spec_l03Item.e1 k a0).bind fun y18 => if y18 = true then (some false) else ((spec_l03Item.e6 k a0).bind fun v => match v with | .inl r => some r | .inr _ => some false)
set_option maxRecDepth 100000 in
theorem spec_l03Item.fn (k : Nat) (a0 : S1) (r : Bool) (H : spec_l03Item.f k a0 = some r) : Fn Tryd.prog 43 [ag (eS1 a0)] [] (oB r) [] := by
  unfold spec_l03Item.f at H
  refine Fn.body (ts := [2]) Tryd.func43 rfl rfl (by decide) (by decide) (Nat.le_of_ble_eq_true rfl) (Nat.le_refl _) ?_
  refine Tri.rn [1] 1 [] [] [] ⟨102, [(1, o1 (.ref 0 0))], [eS1 a0], 0, []⟩ (by kernel_rfl) trivial ?_
  refine Tri.seq ?_
  obtain ⟨v20, h19, H⟩ := bind_some' H
  refine Tri.join (α := Bool) (fun w => v20 = w) (fun y18 => ⟨102, [(1, o1 (.ref 0 0)), (44, oB y18)], [eS1 a0], 0, []⟩) (fun y18 hw => ?_) ?_
  · rw [hw] at H; clear hw
    try dsimp only at H
    rcases iteb_some H with ⟨h21, H⟩ | ⟨h21, H⟩
    · refine Tri.cond_true (useb h21 (by kernel_rfl)) ?_
      refine Tri.rn [2] 0 [] [] [] ⟨102, [(2, oB false)], [], 0, []⟩ (by kernel_rfl) trivial ?_
      refine Tri.ret ?_
      obtain rfl := Option.some.inj H
      exact ⟨.inr rfl, rfl, rfl, Nat.le_refl _, rfl, by simp⟩
    · refine Tri.cond_false (useb h21 (by kernel_rfl)) ?_
      refine Tri.skip ?_
      obtain ⟨v68, h67, H⟩ := bind_some' H
      refine Tri.join (α := Unit) (fun w => v68 = .inr w) (fun _ => ⟨102, [], [], 0, []⟩) (fun w hw => ?_) ?_
      · rw [hw] at H; clear hw
        try dsimp only at H
        refine Tri.rn [2] 0 [] [] [] ⟨102, [(2, oB false)], [], 0, []⟩ (by kernel_rfl) trivial ?_
        refine Tri.ret ?_
        obtain rfl := Option.some.inj H
        exact ⟨.inr rfl, rfl, rfl, Nat.le_refl _, rfl, by simp⟩
      · unfold spec_l03Item.e6 at h67
        refine Tri.rn [1, 46] 1 [] [] [] ⟨102, [(1, o1 (.ref 0 0)), (46, oI a0.f0)], [eS1 a0], 0, []⟩ (by kernel_rfl) trivial ?_
        refine Tri.block ?_
        refine Tri.rn [1, 46, 47] 1 [] [] [] ⟨102, [(1, o1 (.ref 0 0)), (46, oI a0.f0), (47, oB (decide (a0.f0 = 1)))], [eS1 a0], 0, []⟩ (by kernel_rfl) trivial ?_
        rcases ite_some h67 with ⟨h22, h67⟩ | ⟨h22, h67⟩
        · refine Tri.cond_true (useb (decide_eq_true h22) (by kernel_rfl)) ?_
          obtain ⟨v38, h37, h67⟩ := bind_some' h67
          refine Tri.join (α := Bool) (fun w => v38 = w) (fun y36 => ⟨102, [(2, oB y36)], [], 0, []⟩) (fun y36 hw => ?_) ?_
          · rw [hw] at h67; clear hw
            try dsimp only at h67
            refine Tri.ret ?_
            obtain rfl := Option.some.inj h67
            try dsimp only at H
            obtain rfl := Option.some.inj H
            exact ⟨.inr rfl, rfl, rfl, Nat.le_refl _, rfl, by simp⟩
          · unfold spec_l03Item.e2 at h37
            obtain ⟨r23, h24, h37⟩ := bind_some' h37
            rcases iteb_some h37 with ⟨h25, h37⟩ | ⟨h25, h37⟩
            · rcases ite_some h37 with ⟨h26, h37⟩ | ⟨h26, h37⟩
              · obtain ⟨r27, h28, h37⟩ := bind_some' h37
                rcases iteb_some h37 with ⟨h29, h37⟩ | ⟨h29, h37⟩
                · rcases ite_some h37 with ⟨h30, h37⟩ | ⟨h30, h37⟩
                  · obtain ⟨r31, h32, h37⟩ := bind_some' h37
                    refine Tri.r1 [2] 0 [] [(2, .call (oB r23) [] false), (2, .ov [.sc (.bool true)]), (6, .ov [.sc (.bool false)]), (10, .call (oB r27) [] false), (10, .ov [.sc (.bool true)]), (16, .ov [.sc (.bool false)]), (20, .call (oB r31) [] false)] [_, _, _, _, _, _, _, _, _, _] ⟨102, [(2, oB r31)], [], 0, []⟩ (by kernel_rfl) ⟨(spec_l01In.fn k a0.f1 1 3 r23 h24), (show (List.all [cB r23] PC.flatB) = true from rfl), (ovb h25), (ovb (nF (decide_eq_true h26))), (spec_l01In.fn k a0.f3 0 1 r27 h28), (show (List.all [cB r27] PC.flatB) = true from rfl), (ovb h29), (ovb (nF (decide_eq_true h30))), (spec_CharOK.fn k a0.f3 r31 h32), (show (List.all [cB r31] PC.flatB) = true from rfl), trivial⟩ ?_
                    exact ⟨r31, (Option.some.inj h37).symm, rfl⟩
                  · refine Tri.r1 [2] 0 [] [(2, .call (oB r23) [] false), (2, .ov [.sc (.bool true)]), (6, .ov [.sc (.bool false)]), (10, .call (oB r27) [] false), (10, .ov [.sc (.bool true)]), (16, .ov [.sc (.bool true)])] [_, _, _, _, _, _, _, _] ⟨102, [(2, oB true)], [], 0, []⟩ (by kernel_rfl) ⟨(spec_l01In.fn k a0.f1 1 3 r23 h24), (show (List.all [cB r23] PC.flatB) = true from rfl), (ovb h25), (ovb (nF (decide_eq_true h26))), (spec_l01In.fn k a0.f3 0 1 r27 h28), (show (List.all [cB r27] PC.flatB) = true from rfl), (ovb h29), (ovb (nT (decide_eq_false h30))), trivial⟩ ?_
                    exact ⟨true, (Option.some.inj h37).symm, rfl⟩
                · refine Tri.r1 [2] 0 [] [(2, .call (oB r23) [] false), (2, .ov [.sc (.bool true)]), (6, .ov [.sc (.bool false)]), (10, .call (oB r27) [] false), (10, .ov [.sc (.bool false)])] [_, _, _, _, _, _, _] ⟨102, [(2, oB false)], [], 0, []⟩ (by kernel_rfl) ⟨(spec_l01In.fn k a0.f1 1 3 r23 h24), (show (List.all [cB r23] PC.flatB) = true from rfl), (ovb h25), (ovb (nF (decide_eq_true h26))), (spec_l01In.fn k a0.f3 0 1 r27 h28), (show (List.all [cB r27] PC.flatB) = true from rfl), (ovb h29), trivial⟩ ?_
                  exact ⟨false, (Option.some.inj h37).symm, rfl⟩
              · rcases ite_some h37 with ⟨h33, h37⟩ | ⟨h33, h37⟩
                · obtain ⟨r34, h35, h37⟩ := bind_some' h37
                  refine Tri.r1 [2] 0 [] [(2, .call (oB r23) [] false), (2, .ov [.sc (.bool true)]), (6, .ov [.sc (.bool true)]), (16, .ov [.sc (.bool false)]), (20, .call (oB r34) [] false)] [_, _, _, _, _, _, _] ⟨102, [(2, oB r34)], [], 0, []⟩ (by kernel_rfl) ⟨(spec_l01In.fn k a0.f1 1 3 r23 h24), (show (List.all [cB r23] PC.flatB) = true from rfl), (ovb h25), (ovb (nT (decide_eq_false h26))), (ovb (nF (decide_eq_true h33))), (spec_CharOK.fn k a0.f3 r34 h35), (show (List.all [cB r34] PC.flatB) = true from rfl), trivial⟩ ?_
                  exact ⟨r34, (Option.some.inj h37).symm, rfl⟩
                · refine Tri.r1 [2] 0 [] [(2, .call (oB r23) [] false), (2, .ov [.sc (.bool true)]), (6, .ov [.sc (.bool true)]), (16, .ov [.sc (.bool true)])] [_, _, _, _, _] ⟨102, [(2, oB true)], [], 0, []⟩ (by kernel_rfl) ⟨(spec_l01In.fn k a0.f1 1 3 r23 h24), (show (List.all [cB r23] PC.flatB) = true from rfl), (ovb h25), (ovb (nT (decide_eq_false h26))), (ovb (nT (decide_eq_false h33))), trivial⟩ ?_
                  exact ⟨true, (Option.some.inj h37).symm, rfl⟩
            · refine Tri.r1 [2] 0 [] [(2, .call (oB r23) [] false), (2, .ov [.sc (.bool false)])] [_, _, _] ⟨102, [(2, oB false)], [], 0, []⟩ (by kernel_rfl) ⟨(spec_l01In.fn k a0.f1 1 3 r23 h24), (show (List.all [cB r23] PC.flatB) = true from rfl), (ovb h25), trivial⟩ ?_
              exact ⟨false, (Option.some.inj h37).symm, rfl⟩
        · refine Tri.cond_false (useb (decide_eq_false h22) (by kernel_rfl)) ?_
          refine Tri.rn [1, 46, 72] 1 [] [] [] ⟨102, [(1, o1 (.ref 0 0)), (46, oI a0.f0), (72, oB (decide (a0.f0 = 2)))], [eS1 a0], 0, []⟩ (by kernel_rfl) trivial ?_
          rcases ite_some h67 with ⟨h39, h67⟩ | ⟨h39, h67⟩
          · refine Tri.cond_true (useb (decide_eq_true h39) (by kernel_rfl)) ?_
            obtain ⟨v47, h46, h67⟩ := bind_some' h67
            refine Tri.join (α := Bool) (fun w => v47 = w) (fun y45 => ⟨102, [(2, oB y45)], [], 0, []⟩) (fun y45 hw => ?_) ?_
            · rw [hw] at h67; clear hw
              try dsimp only at h67
              refine Tri.ret ?_
              obtain rfl := Option.some.inj h67
              try dsimp only at H
              obtain rfl := Option.some.inj H
              exact ⟨.inr rfl, rfl, rfl, Nat.le_refl _, rfl, by simp⟩
            · unfold spec_l03Item.e3 at h46
              obtain ⟨r40, h41, h46⟩ := bind_some' h46
              rcases iteb_some h46 with ⟨h42, h46⟩ | ⟨h42, h46⟩
              · obtain ⟨r43, h44, h46⟩ := bind_some' h46
                refine Tri.r1 [2] 0 [] [(2, .call (oB r40) [] false), (2, .ov [.sc (.bool true)]), (6, .call (oB r43) [] false)] [_, _, _, _, _] ⟨102, [(2, oB r43)], [], 0, []⟩ (by kernel_rfl) ⟨(spec_l01In.fn k a0.f1 1 3 r40 h41), (show (List.all [cB r40] PC.flatB) = true from rfl), (ovb h42), (spec_l01In.fn k a0.f2 0 100 r43 h44), (show (List.all [cB r43] PC.flatB) = true from rfl), trivial⟩ ?_
                exact ⟨r43, (Option.some.inj h46).symm, rfl⟩
              · refine Tri.r1 [2] 0 [] [(2, .call (oB r40) [] false), (2, .ov [.sc (.bool false)])] [_, _, _] ⟨102, [(2, oB false)], [], 0, []⟩ (by kernel_rfl) ⟨(spec_l01In.fn k a0.f1 1 3 r40 h41), (show (List.all [cB r40] PC.flatB) = true from rfl), (ovb h42), trivial⟩ ?_
                exact ⟨false, (Option.some.inj h46).symm, rfl⟩
          · refine Tri.cond_false (useb (decide_eq_false h39) (by kernel_rfl)) ?_
            refine Tri.rn [1, 82] 1 [] [] [] ⟨102, [(1, o1 (.ref 0 0)), (82, oB (decide (a0.f0 = 3)))], [eS1 a0], 0, []⟩ (by kernel_rfl) trivial ?_
            rcases ite_some h67 with ⟨h48, h67⟩ | ⟨h48, h67⟩
            · refine Tri.cond_true (useb (decide_eq_true h48) (by kernel_rfl)) ?_
              obtain ⟨v64, h63, h67⟩ := bind_some' h67
              refine Tri.join (α := Unit) (fun w => v64 = .inr w) (fun _ => ⟨102, [(1, o1 (.ref 0 0))], [eS1 a0], 0, []⟩) (fun w hw => ?_) ?_
              · rw [hw] at h67; clear hw
                try dsimp only at h67
                obtain ⟨r65, h66, h67⟩ := bind_some' h67
                refine Tri.rn [2] 0 [] [(2, .call (oB r65) [] false)] [_, _] ⟨102, [(2, oB r65)], [], 0, []⟩ (by kernel_rfl) ⟨(spec_l01In.fn k a0.f1 0 3 r65 h66), (show (List.all [cB r65] PC.flatB) = true from rfl), trivial⟩ ?_
                refine Tri.ret ?_
                obtain rfl := Option.some.inj h67
                try dsimp only at H
                obtain rfl := Option.some.inj H
                exact ⟨.inr rfl, rfl, rfl, Nat.le_refl _, rfl, by simp⟩
              · unfold spec_l03Item.e5 at h63
                refine Tri.rn [1, 3] 1 [] [] [] ⟨102, [(1, o1 (.ref 0 0)), (3, oI 0)], [eS1 a0], 0, []⟩ (by kernel_rfl) trivial ?_
                refine Tri.block ?_
                refine Tri.loop k (TriR.ind (α := Int) (fun k x => spec_l03Item.l4 k a0 x) (fun x => ⟨102, [(1, o1 (.ref 0 0)), (3, oI x)], [eS1 a0], 0, []⟩) (fun _ => rfl) (fun k z55 h63 IH62 => ?_) k 0 h63)
                rw [spec_l03Item.l4.eq_2] at h63
                refine Tri.seq ?_
                refine Tri.rn [1, 3, 88] 1 [] [(3, .ov [.sc (.int .i64 (a0.f5.length : Int))])] [_] ⟨102, [(1, o1 (.ref 0 0)), (3, oI z55), (88, oB (decide (z55 < (a0.f5.length : Int))))], [eS1 a0], 0, []⟩ (by kernel_rfl) ⟨(ovlen (f := eS0) (l := a0.f5)), trivial⟩ ?_
                rcases ite_some h63 with ⟨h56, h63⟩ | ⟨h56, h63⟩
                · refine Tri.cond_true (useb (decide_eq_true h56) (by kernel_rfl)) ?_
                  refine Tri.skip ?_
                  refine Tri.seq ?_
                  refine Tri.block ?_
                  obtain ⟨x57, h58, h63⟩ := bind_some' h63
                  obtain ⟨r59, h60, h63⟩ := bind_some' h63
                  refine Tri.rn [1, 3, 98] 1 [] [(3, .el (eS0 x57)), (6, .call (oB r59) [] false)] [_, _, _, _] ⟨102, [(1, o1 (.ref 0 0)), (3, oI z55), (98, oB (!r59))], [eS1 a0], 0, []⟩ (by kernel_rfl) ⟨(at?_0 h58), (at?_map (f := eS0) h58), (spec_l01In.fn k x57.f0 1 3 r59 h60), (show (List.all [cB r59] PC.flatB) = true from rfl), trivial⟩ ?_
                  rcases iteb_some h63 with ⟨h61, h63⟩ | ⟨h61, h63⟩
                  · refine Tri.cond_false (useb (nF h61) (by kernel_rfl)) ?_
                    refine Tri.skip ?_
                    refine Tri.r1 [1, 3] 1 [] [] [] ⟨102, [(1, o1 (.ref 0 0)), (3, oI (w64 (z55 + 1)))], [eS1 a0], 0, []⟩ (by kernel_rfl) trivial ?_
                    exact IH62 _ (w64 (z55 + 1)) (Nat.le_refl _) h63
                  · refine Tri.cond_true (useb (nT h61) (by kernel_rfl)) ?_
                    refine Tri.rn [2] 0 [] [] [] ⟨102, [(2, oB false)], [], 0, []⟩ (by kernel_rfl) trivial ?_
                    refine Tri.ret ?_
                    obtain rfl := Option.some.inj h63
                    try dsimp only at h67
                    obtain rfl := Option.some.inj h67
                    try dsimp only at H
                    obtain rfl := Option.some.inj H
                    exact ⟨.inr rfl, rfl, rfl, Nat.le_refl _, rfl, by simp⟩
                · refine Tri.cond_false (useb (decide_eq_false h56) (by kernel_rfl)) ?_
                  refine Tri.fix [1] 1 [] ⟨102, [(1, o1 (.ref 0 0))], [eS1 a0], 0, []⟩ (by kernel_rfl) ?_
                  refine Tri.exit ?_
                  repeat (with_reducible refine Ex.exit ?_)
                  refine Bk.here ?_
                  exact ⟨(), (Option.some.inj h63).symm, rfl⟩
            · refine Tri.cond_false (useb (decide_eq_false h48) (by kernel_rfl)) ?_
              refine Tri.fix [] 0 [] ⟨102, [], [], 0, []⟩ (by kernel_rfl) ?_
              refine Tri.skip ?_
              exact ⟨(), (Option.some.inj h67).symm, rfl⟩
  · unfold spec_l03Item.e1 at h19
    obtain ⟨r1, h2, h19⟩ := bind_some' h19
    rcases iteb_some h19 with ⟨h3, h19⟩ | ⟨h3, h19⟩
    · rcases ite_some h19 with ⟨h4, h19⟩ | ⟨h4, h19⟩
      · rcases ite_some h19 with ⟨h5, h19⟩ | ⟨h5, h19⟩
        · rcases ite_some h19 with ⟨h6, h19⟩ | ⟨h6, h19⟩
          · refine Tri.r1 [1, 44] 1 [] [(2, .call (oB r1) [] false), (2, .ov [.sc (.bool true)]), (7, .ov [.sc (.bool false)]), (18, .ov [.sc (.bool false)]), (28, .ov [.sc (.bool false)]), (38, .ov [.sc (.int .i64 (a0.f5.length : Int))])] [_, _, _, _, _, _, _] ⟨102, [(1, o1 (.ref 0 0)), (44, oB (decide ((20 : Int) < (a0.f5.length : Int))))], [eS1 a0], 0, []⟩ (by kernel_rfl) ⟨(spec_l02Name.fn k a0.f4 r1 h2), (show (List.all [cB r1] PC.flatB) = true from rfl), (ovb h3), (ovb (nF (decide_eq_true h4))), (ovb (nF (decide_eq_true h5))), (ovb (nF (decide_eq_true h6))), (ovlen (f := eS0) (l := a0.f5)), trivial⟩ ?_
            exact ⟨(decide ((20 : Int) < (a0.f5.length : Int))), (Option.some.inj h19).symm, rfl⟩
          · rcases ite_some h19 with ⟨h7, h19⟩ | ⟨h7, h19⟩
            · refine Tri.r1 [1, 44] 1 [] [(2, .call (oB r1) [] false), (2, .ov [.sc (.bool true)]), (7, .ov [.sc (.bool false)]), (18, .ov [.sc (.bool false)]), (28, .ov [.sc (.bool true)]), (32, .ov [.sc (.bool false)]), (38, .ov [.sc (.int .i64 (a0.f5.length : Int))])] [_, _, _, _, _, _, _, _] ⟨102, [(1, o1 (.ref 0 0)), (44, oB (decide ((20 : Int) < (a0.f5.length : Int))))], [eS1 a0], 0, []⟩ (by kernel_rfl) ⟨(spec_l02Name.fn k a0.f4 r1 h2), (show (List.all [cB r1] PC.flatB) = true from rfl), (ovb h3), (ovb (nF (decide_eq_true h4))), (ovb (nF (decide_eq_true h5))), (ovb (nT (decide_eq_false h6))), (ovb (nF (decide_eq_true h7))), (ovlen (f := eS0) (l := a0.f5)), trivial⟩ ?_
              exact ⟨(decide ((20 : Int) < (a0.f5.length : Int))), (Option.some.inj h19).symm, rfl⟩
            · refine Tri.r1 [1, 44] 1 [] [(2, .call (oB r1) [] false), (2, .ov [.sc (.bool true)]), (7, .ov [.sc (.bool false)]), (18, .ov [.sc (.bool false)]), (28, .ov [.sc (.bool true)]), (32, .ov [.sc (.bool true)])] [_, _, _, _, _, _, _] ⟨102, [(1, o1 (.ref 0 0)), (44, oB true)], [eS1 a0], 0, []⟩ (by kernel_rfl) ⟨(spec_l02Name.fn k a0.f4 r1 h2), (show (List.all [cB r1] PC.flatB) = true from rfl), (ovb h3), (ovb (nF (decide_eq_true h4))), (ovb (nF (decide_eq_true h5))), (ovb (nT (decide_eq_false h6))), (ovb (nT (decide_eq_false h7))), trivial⟩ ?_
              exact ⟨true, (Option.some.inj h19).symm, rfl⟩
        · rcases ite_some h19 with ⟨h8, h19⟩ | ⟨h8, h19⟩
          · rcases ite_some h19 with ⟨h9, h19⟩ | ⟨h9, h19⟩
            · refine Tri.r1 [1, 44] 1 [] [(2, .call (oB r1) [] false), (2, .ov [.sc (.bool true)]), (7, .ov [.sc (.bool false)]), (18, .ov [.sc (.bool true)]), (22, .ov [.sc (.bool false)]), (28, .ov [.sc (.bool false)]), (38, .ov [.sc (.int .i64 (a0.f5.length : Int))])] [_, _, _, _, _, _, _, _] ⟨102, [(1, o1 (.ref 0 0)), (44, oB (decide ((20 : Int) < (a0.f5.length : Int))))], [eS1 a0], 0, []⟩ (by kernel_rfl) ⟨(spec_l02Name.fn k a0.f4 r1 h2), (show (List.all [cB r1] PC.flatB) = true from rfl), (ovb h3), (ovb (nF (decide_eq_true h4))), (ovb (nT (decide_eq_false h5))), (ovb (nF (decide_eq_true h8))), (ovb (nF (decide_eq_true h9))), (ovlen (f := eS0) (l := a0.f5)), trivial⟩ ?_
              exact ⟨(decide ((20 : Int) < (a0.f5.length : Int))), (Option.some.inj h19).symm, rfl⟩
            · rcases ite_some h19 with ⟨h10, h19⟩ | ⟨h10, h19⟩
              · refine Tri.r1 [1, 44] 1 [] [(2, .call (oB r1) [] false), (2, .ov [.sc (.bool true)]), (7, .ov [.sc (.bool false)]), (18, .ov [.sc (.bool true)]), (22, .ov [.sc (.bool false)]), (28, .ov [.sc (.bool true)]), (32, .ov [.sc (.bool false)]), (38, .ov [.sc (.int .i64 (a0.f5.length : Int))])] [_, _, _, _, _, _, _, _, _] ⟨102, [(1, o1 (.ref 0 0)), (44, oB (decide ((20 : Int) < (a0.f5.length : Int))))], [eS1 a0], 0, []⟩ (by kernel_rfl) ⟨(spec_l02Name.fn k a0.f4 r1 h2), (show (List.all [cB r1] PC.flatB) = true from rfl), (ovb h3), (ovb (nF (decide_eq_true h4))), (ovb (nT (decide_eq_false h5))), (ovb (nF (decide_eq_true h8))), (ovb (nT (decide_eq_false h9))), (ovb (nF (decide_eq_true h10))), (ovlen (f := eS0) (l := a0.f5)), trivial⟩ ?_
                exact ⟨(decide ((20 : Int) < (a0.f5.length : Int))), (Option.some.inj h19).symm, rfl⟩
              · refine Tri.r1 [1, 44] 1 [] [(2, .call (oB r1) [] false), (2, .ov [.sc (.bool true)]), (7, .ov [.sc (.bool false)]), (18, .ov [.sc (.bool true)]), (22, .ov [.sc (.bool false)]), (28, .ov [.sc (.bool true)]), (32, .ov [.sc (.bool true)])] [_, _, _, _, _, _, _, _] ⟨102, [(1, o1 (.ref 0 0)), (44, oB true)], [eS1 a0], 0, []⟩ (by kernel_rfl) ⟨(spec_l02Name.fn k a0.f4 r1 h2), (show (List.all [cB r1] PC.flatB) = true from rfl), (ovb h3), (ovb (nF (decide_eq_true h4))), (ovb (nT (decide_eq_false h5))), (ovb (nF (decide_eq_true h8))), (ovb (nT (decide_eq_false h9))), (ovb (nT (decide_eq_false h10))), trivial⟩ ?_
                exact ⟨true, (Option.some.inj h19).symm, rfl⟩
          · refine Tri.r1 [1, 44] 1 [] [(2, .call (oB r1) [] false), (2, .ov [.sc (.bool true)]), (7, .ov [.sc (.bool false)]), (18, .ov [.sc (.bool true)]), (22, .ov [.sc (.bool true)])] [_, _, _, _, _, _] ⟨102, [(1, o1 (.ref 0 0)), (44, oB true)], [eS1 a0], 0, []⟩ (by kernel_rfl) ⟨(spec_l02Name.fn k a0.f4 r1 h2), (show (List.all [cB r1] PC.flatB) = true from rfl), (ovb h3), (ovb (nF (decide_eq_true h4))), (ovb (nT (decide_eq_false h5))), (ovb (nT (decide_eq_false h8))), trivial⟩ ?_
            exact ⟨true, (Option.some.inj h19).symm, rfl⟩
      · rcases ite_some h19 with ⟨h11, h19⟩ | ⟨h11, h19⟩
        · refine Tri.r1 [1, 44] 1 [] [(2, .call (oB r1) [] false), (2, .ov [.sc (.bool true)]), (7, .ov [.sc (.bool true)]), (11, .ov [.sc (.int .i64 (a0.f5.length : Int))]), (12, .ov [.sc (.bool true)])] [_, _, _, _, _, _] ⟨102, [(1, o1 (.ref 0 0)), (44, oB true)], [eS1 a0], 0, []⟩ (by kernel_rfl) ⟨(spec_l02Name.fn k a0.f4 r1 h2), (show (List.all [cB r1] PC.flatB) = true from rfl), (ovb h3), (ovb (nT (decide_eq_false h4))), (ovlen (f := eS0) (l := a0.f5)), (ovb (decide_eq_true h11)), trivial⟩ ?_
          exact ⟨true, (Option.some.inj h19).symm, rfl⟩
        · rcases ite_some h19 with ⟨h12, h19⟩ | ⟨h12, h19⟩
          · rcases ite_some h19 with ⟨h13, h19⟩ | ⟨h13, h19⟩
            · refine Tri.r1 [1, 44] 1 [] [(2, .call (oB r1) [] false), (2, .ov [.sc (.bool true)]), (7, .ov [.sc (.bool true)]), (11, .ov [.sc (.int .i64 (a0.f5.length : Int))]), (12, .ov [.sc (.bool false)]), (18, .ov [.sc (.bool false)]), (28, .ov [.sc (.bool false)]), (38, .ov [.sc (.int .i64 (a0.f5.length : Int))])] [_, _, _, _, _, _, _, _, _] ⟨102, [(1, o1 (.ref 0 0)), (44, oB (decide ((20 : Int) < (a0.f5.length : Int))))], [eS1 a0], 0, []⟩ (by kernel_rfl) ⟨(spec_l02Name.fn k a0.f4 r1 h2), (show (List.all [cB r1] PC.flatB) = true from rfl), (ovb h3), (ovb (nT (decide_eq_false h4))), (ovlen (f := eS0) (l := a0.f5)), (ovb (decide_eq_false h11)), (ovb (nF (decide_eq_true h12))), (ovb (nF (decide_eq_true h13))), (ovlen (f := eS0) (l := a0.f5)), trivial⟩ ?_
              exact ⟨(decide ((20 : Int) < (a0.f5.length : Int))), (Option.some.inj h19).symm, rfl⟩
            · rcases ite_some h19 with ⟨h14, h19⟩ | ⟨h14, h19⟩
              · refine Tri.r1 [1, 44] 1 [] [(2, .call (oB r1) [] false), (2, .ov [.sc (.bool true)]), (7, .ov [.sc (.bool true)]), (11, .ov [.sc (.int .i64 (a0.f5.length : Int))]), (12, .ov [.sc (.bool false)]), (18, .ov [.sc (.bool false)]), (28, .ov [.sc (.bool true)]), (32, .ov [.sc (.bool false)]), (38, .ov [.sc (.int .i64 (a0.f5.length : Int))])] [_, _, _, _, _, _, _, _, _, _] ⟨102, [(1, o1 (.ref 0 0)), (44, oB (decide ((20 : Int) < (a0.f5.length : Int))))], [eS1 a0], 0, []⟩ (by kernel_rfl) ⟨(spec_l02Name.fn k a0.f4 r1 h2), (show (List.all [cB r1] PC.flatB) = true from rfl), (ovb h3), (ovb (nT (decide_eq_false h4))), (ovlen (f := eS0) (l := a0.f5)), (ovb (decide_eq_false h11)), (ovb (nF (decide_eq_true h12))), (ovb (nT (decide_eq_false h13))), (ovb (nF (decide_eq_true h14))), (ovlen (f := eS0) (l := a0.f5)), trivial⟩ ?_
                exact ⟨(decide ((20 : Int) < (a0.f5.length : Int))), (Option.some.inj h19).symm, rfl⟩
              · refine Tri.r1 [1, 44] 1 [] [(2, .call (oB r1) [] false), (2, .ov [.sc (.bool true)]), (7, .ov [.sc (.bool true)]), (11, .ov [.sc (.int .i64 (a0.f5.length : Int))]), (12, .ov [.sc (.bool false)]), (18, .ov [.sc (.bool false)]), (28, .ov [.sc (.bool true)]), (32, .ov [.sc (.bool true)])] [_, _, _, _, _, _, _, _, _] ⟨102, [(1, o1 (.ref 0 0)), (44, oB true)], [eS1 a0], 0, []⟩ (by kernel_rfl) ⟨(spec_l02Name.fn k a0.f4 r1 h2), (show (List.all [cB r1] PC.flatB) = true from rfl), (ovb h3), (ovb (nT (decide_eq_false h4))), (ovlen (f := eS0) (l := a0.f5)), (ovb (decide_eq_false h11)), (ovb (nF (decide_eq_true h12))), (ovb (nT (decide_eq_false h13))), (ovb (nT (decide_eq_false h14))), trivial⟩ ?_
                exact ⟨true, (Option.some.inj h19).symm, rfl⟩
          · rcases ite_some h19 with ⟨h15, h19⟩ | ⟨h15, h19⟩
            · rcases ite_some h19 with ⟨h16, h19⟩ | ⟨h16, h19⟩
              · refine Tri.r1 [1, 44] 1 [] [(2, .call (oB r1) [] false), (2, .ov [.sc (.bool true)]), (7, .ov [.sc (.bool true)]), (11, .ov [.sc (.int .i64 (a0.f5.length : Int))]), (12, .ov [.sc (.bool false)]), (18, .ov [.sc (.bool true)]), (22, .ov [.sc (.bool false)]), (28, .ov [.sc (.bool false)]), (38, .ov [.sc (.int .i64 (a0.f5.length : Int))])] [_, _, _, _, _, _, _, _, _, _] ⟨102, [(1, o1 (.ref 0 0)), (44, oB (decide ((20 : Int) < (a0.f5.length : Int))))], [eS1 a0], 0, []⟩ (by kernel_rfl) ⟨(spec_l02Name.fn k a0.f4 r1 h2), (show (List.all [cB r1] PC.flatB) = true from rfl), (ovb h3), (ovb (nT (decide_eq_false h4))), (ovlen (f := eS0) (l := a0.f5)), (ovb (decide_eq_false h11)), (ovb (nT (decide_eq_false h12))), (ovb (nF (decide_eq_true h15))), (ovb (nF (decide_eq_true h16))), (ovlen (f := eS0) (l := a0.f5)), trivial⟩ ?_
                exact ⟨(decide ((20 : Int) < (a0.f5.length : Int))), (Option.some.inj h19).symm, rfl⟩
              · rcases ite_some h19 with ⟨h17, h19⟩ | ⟨h17, h19⟩
                · refine Tri.r1 [1, 44] 1 [] [(2, .call (oB r1) [] false), (2, .ov [.sc (.bool true)]), (7, .ov [.sc (.bool true)]), (11, .ov [.sc (.int .i64 (a0.f5.length : Int))]), (12, .ov [.sc (.bool false)]), (18, .ov [.sc (.bool true)]), (22, .ov [.sc (.bool false)]), (28, .ov [.sc (.bool true)]), (32, .ov [.sc (.bool false)]), (38, .ov [.sc (.int .i64 (a0.f5.length : Int))])] [_, _, _, _, _, _, _, _, _, _, _] ⟨102, [(1, o1 (.ref 0 0)), (44, oB (decide ((20 : Int) < (a0.f5.length : Int))))], [eS1 a0], 0, []⟩ (by kernel_rfl) ⟨(spec_l02Name.fn k a0.f4 r1 h2), (show (List.all [cB r1] PC.flatB) = true from rfl), (ovb h3), (ovb (nT (decide_eq_false h4))), (ovlen (f := eS0) (l := a0.f5)), (ovb (decide_eq_false h11)), (ovb (nT (decide_eq_false h12))), (ovb (nF (decide_eq_true h15))), (ovb (nT (decide_eq_false h16))), (ovb (nF (decide_eq_true h17))), (ovlen (f := eS0) (l := a0.f5)), trivial⟩ ?_
                  exact ⟨(decide ((20 : Int) < (a0.f5.length : Int))), (Option.some.inj h19).symm, rfl⟩
                · refine Tri.r1 [1, 44] 1 [] [(2, .call (oB r1) [] false), (2, .ov [.sc (.bool true)]), (7, .ov [.sc (.bool true)]), (11, .ov [.sc (.int .i64 (a0.f5.length : Int))]), (12, .ov [.sc (.bool false)]), (18, .ov [.sc (.bool true)]), (22, .ov [.sc (.bool false)]), (28, .ov [.sc (.bool true)]), (32, .ov [.sc (.bool true)])] [_, _, _, _, _, _, _, _, _, _] ⟨102, [(1, o1 (.ref 0 0)), (44, oB true)], [eS1 a0], 0, []⟩ (by kernel_rfl) ⟨(spec_l02Name.fn k a0.f4 r1 h2), (show (List.all [cB r1] PC.flatB) = true from rfl), (ovb h3), (ovb (nT (decide_eq_false h4))), (ovlen (f := eS0) (l := a0.f5)), (ovb (decide_eq_false h11)), (ovb (nT (decide_eq_false h12))), (ovb (nF (decide_eq_true h15))), (ovb (nT (decide_eq_false h16))), (ovb (nT (decide_eq_false h17))), trivial⟩ ?_
                  exact ⟨true, (Option.some.inj h19).symm, rfl⟩
            · refine Tri.r1 [1, 44] 1 [] [(2, .call (oB r1) [] false), (2, .ov [.sc (.bool true)]), (7, .ov [.sc (.bool true)]), (11, .ov [.sc (.int .i64 (a0.f5.length : Int))]), (12, .ov [.sc (.bool false)]), (18, .ov [.sc (.bool true)]), (22, .ov [.sc (.bool true)])] [_, _, _, _, _, _, _, _] ⟨102, [(1, o1 (.ref 0 0)), (44, oB true)], [eS1 a0], 0, []⟩ (by kernel_rfl) ⟨(spec_l02Name.fn k a0.f4 r1 h2), (show (List.all [cB r1] PC.flatB) = true from rfl), (ovb h3), (ovb (nT (decide_eq_false h4))), (ovlen (f := eS0) (l := a0.f5)), (ovb (decide_eq_false h11)), (ovb (nT (decide_eq_false h12))), (ovb (nT (decide_eq_false h15))), trivial⟩ ?_
              exact ⟨true, (Option.some.inj h19).symm, rfl⟩
    · refine Tri.r1 [1, 44] 1 [] [(2, .call (oB r1) [] false), (2, .ov [.sc (.bool false)])] [_, _, _] ⟨102, [(1, o1 (.ref 0 0)), (44, oB true)], [eS1 a0], 0, []⟩ (by kernel_rfl) ⟨(spec_l02Name.fn k a0.f4 r1 h2), (show (List.all [cB r1] PC.flatB) = true from rfl), (ovb h3), trivial⟩ ?_
      exact ⟨true, (Option.some.inj h19).symm, rfl⟩
/-! spec_l03Find: function 44 -/
def spec_l03Find.l1 : Nat → (List S1) → ByteArray → Int → Option (Int ⊕ Unit)
  | 0, _, _, _ => none
  | k + 1, a0, a1, z5 => if z5 < (a0.length : Int) then ((at? a0 z5).bind fun x7 => if x7.f4 = a1 then (some (.inl z5)) else (spec_l03Find.l1 k a0 a1 (w64 (z5 + 1)))) else (some (.inr ()))
def spec_l03Find.e2 (k : Nat) (a0 : (List S1)) (a1 : ByteArray) : Option (Int ⊕ Unit) := spec_l03Find.l1 k a0 a1 0
def spec_l03Find.f (k : Nat) (a0 : (List S1)) (a1 : ByteArray) : Option Int := (spec_l03Find.e2 k a0 a1).bind fun v => match v with | .inl r => some r | .inr _ => some (-1)
set_option maxRecDepth 100000 in
theorem spec_l03Find.fn (k : Nat) (a0 : (List S1)) (a1 : ByteArray) (r : Int) (H : spec_l03Find.f k a0 a1 = some r) : Fn Tryd.prog 44 [o1 (.sl 6 (List.map eS1 a0)), oS a1] [] (oI r) [] := by
  unfold spec_l03Find.f at H
  refine Fn.body (ts := [4]) Tryd.func44 rfl rfl (by decide) (by decide) (Nat.le_of_ble_eq_true rfl) (Nat.le_refl _) ?_
  refine Tri.rn [0, 1] 0 [] [] [] ⟨20, [(0, o1 (.sl 6 (List.map eS1 a0))), (1, oS a1)], [], 0, []⟩ (by kernel_rfl) trivial ?_
  obtain ⟨v12, h11, H⟩ := bind_some' H
  refine Tri.join (α := Unit) (fun w => v12 = .inr w) (fun _ => ⟨20, [], [], 0, []⟩) (fun w hw => ?_) ?_
  · rw [hw] at H; clear hw
    try dsimp only at H
    refine Tri.rn [4] 0 [] [] [] ⟨20, [(4, oI (-1))], [], 0, []⟩ (by kernel_rfl) trivial ?_
    refine Tri.ret ?_
    obtain rfl := Option.some.inj H
    exact ⟨.inr rfl, rfl, rfl, Nat.le_refl _, rfl, by simp⟩
  · unfold spec_l03Find.e2 at h11
    refine Tri.rn [0, 1, 5] 0 [] [] [] ⟨20, [(0, o1 (.sl 6 (List.map eS1 a0))), (1, oS a1), (5, oI 0)], [], 0, []⟩ (by kernel_rfl) trivial ?_
    refine Tri.block ?_
    refine Tri.loop k (TriR.ind (α := Int) (fun k x => spec_l03Find.l1 k a0 a1 x) (fun x => ⟨20, [(0, o1 (.sl 6 (List.map eS1 a0))), (1, oS a1), (5, oI x)], [], 0, []⟩) (fun _ => rfl) (fun k z5 h11 IH10 => ?_) k 0 h11)
    rw [spec_l03Find.l1.eq_2] at h11
    refine Tri.seq ?_
    refine Tri.rn [0, 1, 5, 9] 0 [] [(2, .ov [.sc (.int .i64 (a0.length : Int))])] [_] ⟨20, [(0, o1 (.sl 6 (List.map eS1 a0))), (1, oS a1), (5, oI z5), (9, oB (decide (z5 < (a0.length : Int))))], [], 0, []⟩ (by kernel_rfl) ⟨(ovlen (f := eS1) (l := a0)), trivial⟩ ?_
    rcases ite_some h11 with ⟨h6, h11⟩ | ⟨h6, h11⟩
    · refine Tri.cond_true (useb (decide_eq_true h6) (by kernel_rfl)) ?_
      refine Tri.skip ?_
      refine Tri.seq ?_
      refine Tri.block ?_
      obtain ⟨x7, h8, h11⟩ := bind_some' h11
      refine Tri.rn [0, 1, 5, 18] 0 [] [(2, .el (eS1 x7))] [_, _] ⟨20, [(0, o1 (.sl 6 (List.map eS1 a0))), (1, oS a1), (5, oI z5), (18, oB (decide (x7.f4 = a1)))], [], 0, []⟩ (by kernel_rfl) ⟨(at?_0 h8), (at?_map (f := eS1) h8), trivial⟩ ?_
      rcases ite_some h11 with ⟨h9, h11⟩ | ⟨h9, h11⟩
      · refine Tri.cond_true (useb (decide_eq_true h9) (by kernel_rfl)) ?_
        refine Tri.rn [4] 0 [] [] [] ⟨20, [(4, oI z5)], [], 0, []⟩ (by kernel_rfl) trivial ?_
        refine Tri.ret ?_
        obtain rfl := Option.some.inj h11
        try dsimp only at H
        obtain rfl := Option.some.inj H
        exact ⟨.inr rfl, rfl, rfl, Nat.le_refl _, rfl, by simp⟩
      · refine Tri.cond_false (useb (decide_eq_false h9) (by kernel_rfl)) ?_
        refine Tri.skip ?_
        refine Tri.r1 [0, 1, 5] 0 [] [] [] ⟨20, [(0, o1 (.sl 6 (List.map eS1 a0))), (1, oS a1), (5, oI (w64 (z5 + 1)))], [], 0, []⟩ (by kernel_rfl) trivial ?_
        exact IH10 _ (w64 (z5 + 1)) (Nat.le_refl _) h11
    · refine Tri.cond_false (useb (decide_eq_false h6) (by kernel_rfl)) ?_
      refine Tri.fix [] 0 [] ⟨20, [], [], 0, []⟩ (by kernel_rfl) ?_
      refine Tri.exit ?_
      repeat (with_reducible refine Ex.exit ?_)
      refine Bk.here ?_
      exact ⟨(), (Option.some.inj h11).symm, rfl⟩
/-! spec_InterfaceOK: function 15 -/
def spec_InterfaceOK.e1 (k : Nat) (a0 : S2) : Option Bool := (spec_l02Name.f k a0.f0).bind fun r1 => if r1 = true then (some (decide ((60 : Int) < (a0.f1.length : Int)))) else (some true)
def spec_InterfaceOK.e2 (k : Nat) (a0 : S2) (z22 : Int) : Option Bool := (at? a0.f1 z22).bind fun x24 => (spec_l03Item.f k x24).bind fun r26 => if r26 = true then (if (0 : Int) ≤ z22 then (if z22 ≤ (a0.f1.length : Int) then ((spec_l03Find.f k (List.take (Int.toNat (z22 - 0)) (List.drop (Int.toNat 0) a0.f1)) x24.f4).bind fun r31 => some (decide ((0 : Int) ≤ r31))) else none) else none) else (some true)
def spec_InterfaceOK.l3 : Nat → S2 → Int → Option (Bool ⊕ Unit)
  | 0, _, _ => none
  | k + 1, a0, z22 => if z22 < (a0.f1.length : Int) then ((spec_InterfaceOK.e2 k a0 z22).bind fun y33 => if y33 = true then (some (.inl false)) else (spec_InterfaceOK.l3 k a0 (w64 (z22 + 1)))) else (some (.inr ()))
def spec_InterfaceOK.e4 (k : Nat) (a0 : S2) : Option (Bool ⊕ Unit) := spec_InterfaceOK.l3 k a0 0
def spec_InterfaceOK.f (k : Nat) (a0 : S2) : Option Bool := (spec_InterfaceOK.e1 k a0).bind fun y4 => if y4 = true then (some false) else ((spec_InterfaceOK.e4 k a0).bind fun v => match v with | .inl r => some r | .inr _ => some true)
set_option maxRecDepth 100000 in
theorem spec_InterfaceOK.fn (k : Nat) (a0 : S2) (r : Bool) (H : spec_InterfaceOK.f k a0 = some r) : Fn Tryd.prog 15 [ag (eS2 a0)] [] (oB r) [] := by
  unfold spec_InterfaceOK.f at H
  refine Fn.body (ts := [2]) Tryd.func15 rfl rfl (by decide) (by decide) (Nat.le_of_ble_eq_true rfl) (Nat.le_refl _) ?_
  refine Tri.rn [1] 1 [] [] [] ⟨42, [(1, o1 (.ref 0 0))], [eS2 a0], 0, []⟩ (by kernel_rfl) trivial ?_
  refine Tri.seq ?_
  obtain ⟨v6, h5, H⟩ := bind_some' H
  refine Tri.join (α := Bool) (fun w => v6 = w) (fun y4 => ⟨42, [(1, o1 (.ref 0 0)), (13, oB y4)], [eS2 a0], 0, []⟩) (fun y4 hw => ?_) ?_
  · rw [hw] at H; clear hw
    try dsimp only at H
    rcases iteb_some H with ⟨h7, H⟩ | ⟨h7, H⟩
    · refine Tri.cond_true (useb h7 (by kernel_rfl)) ?_
      refine Tri.rn [2] 0 [] [] [] ⟨42, [(2, oB false)], [], 0, []⟩ (by kernel_rfl) trivial ?_
      refine Tri.ret ?_
      obtain rfl := Option.some.inj H
      exact ⟨.inr rfl, rfl, rfl, Nat.le_refl _, rfl, by simp⟩
    · refine Tri.cond_false (useb h7 (by kernel_rfl)) ?_
      refine Tri.skip ?_
      obtain ⟨v39, h38, H⟩ := bind_some' H
      refine Tri.join (α := Unit) (fun w => v39 = .inr w) (fun _ => ⟨42, [], [], 0, []⟩) (fun w hw => ?_) ?_
      · rw [hw] at H; clear hw
        try dsimp only at H
        refine Tri.rn [2] 0 [] [] [] ⟨42, [(2, oB true)], [], 0, []⟩ (by kernel_rfl) trivial ?_
        refine Tri.ret ?_
        obtain rfl := Option.some.inj H
        exact ⟨.inr rfl, rfl, rfl, Nat.le_refl _, rfl, by simp⟩
      · unfold spec_InterfaceOK.e4 at h38
        refine Tri.rn [1, 3] 1 [] [] [] ⟨42, [(1, o1 (.ref 0 0)), (3, oI 0)], [eS2 a0], 0, []⟩ (by kernel_rfl) trivial ?_
        refine Tri.block ?_
        refine Tri.loop k (TriR.ind (α := Int) (fun k x => spec_InterfaceOK.l3 k a0 x) (fun x => ⟨42, [(1, o1 (.ref 0 0)), (3, oI x)], [eS2 a0], 0, []⟩) (fun _ => rfl) (fun k z22 h38 IH37 => ?_) k 0 h38)
        rw [spec_InterfaceOK.l3.eq_2] at h38
        refine Tri.seq ?_
        refine Tri.rn [1, 3, 18] 1 [] [(3, .ov [.sc (.int .i64 (a0.f1.length : Int))])] [_] ⟨42, [(1, o1 (.ref 0 0)), (3, oI z22), (18, oB (decide (z22 < (a0.f1.length : Int))))], [eS2 a0], 0, []⟩ (by kernel_rfl) ⟨(ovlen (f := eS1) (l := a0.f1)), trivial⟩ ?_
        rcases ite_some h38 with ⟨h23, h38⟩ | ⟨h23, h38⟩
        · refine Tri.cond_true (useb (decide_eq_true h23) (by kernel_rfl)) ?_
          refine Tri.skip ?_
          refine Tri.seq ?_
          refine Tri.block ?_
          obtain ⟨v35, h34, h38⟩ := bind_some' h38
          refine Tri.join (α := Bool) (fun w => v35 = w) (fun y33 => ⟨42, [(1, o1 (.ref 0 0)), (3, oI z22), (41, oB y33)], [eS2 a0], 0, []⟩) (fun y33 hw => ?_) ?_
          · rw [hw] at h38; clear hw
            try dsimp only at h38
            rcases iteb_some h38 with ⟨h36, h38⟩ | ⟨h36, h38⟩
            · refine Tri.cond_true (useb h36 (by kernel_rfl)) ?_
              refine Tri.rn [2] 0 [] [] [] ⟨42, [(2, oB false)], [], 0, []⟩ (by kernel_rfl) trivial ?_
              refine Tri.ret ?_
              obtain rfl := Option.some.inj h38
              try dsimp only at H
              obtain rfl := Option.some.inj H
              exact ⟨.inr rfl, rfl, rfl, Nat.le_refl _, rfl, by simp⟩
            · refine Tri.cond_false (useb h36 (by kernel_rfl)) ?_
              refine Tri.skip ?_
              refine Tri.r1 [1, 3] 1 [] [] [] ⟨42, [(1, o1 (.ref 0 0)), (3, oI (w64 (z22 + 1)))], [eS2 a0], 0, []⟩ (by kernel_rfl) trivial ?_
              exact IH37 _ (w64 (z22 + 1)) (Nat.le_refl _) h38
          · unfold spec_InterfaceOK.e2 at h34
            obtain ⟨x24, h25, h34⟩ := bind_some' h34
            obtain ⟨r26, h27, h34⟩ := bind_some' h34
            rcases iteb_some h34 with ⟨h28, h34⟩ | ⟨h28, h34⟩
            · obtain ⟨h29, h34⟩ := need_some h34
              obtain ⟨h30, h34⟩ := need_some h34
              obtain ⟨r31, h32, h34⟩ := bind_some' h34
              refine Tri.d1 hmix 18 [[], [0], [], [0, 1, 2], [0, 1, 2, 3], [0, 1, 2, 3, 4], [0, 1, 2, 3, 4, 5], [0, 1, 2, 3, 4, 5, 6], [0, 1, 2, 3, 4, 5, 6, 7], [0, 1, 2, 3, 4, 5, 6, 7, 8], [0, 1, 2, 3, 4, 5, 6, 7], [0, 1, 2, 3, 4, 5, 6, 7, 8, 9, 10], [0, 1, 2, 3, 4, 5, 6, 7], [0, 1, 2, 3, 4, 5, 6, 7, 12], [0, 1, 2, 3, 4, 5, 6, 7], [0, 1, 2, 3, 4, 5, 6, 7, 12, 13, 14], [0, 1, 2, 3, 4, 5, 6, 7, 12, 13, 14, 15], [0, 1, 2, 3, 4, 5, 6, 7, 12, 13, 14, 15, 16], [0, 1, 2, 3, 4, 5, 6, 7, 8, 9, 10, 11, 12, 13, 14, 15, 16, 17], [0, 1, 2, 3, 4, 5, 6, 7, 8, 9, 10, 11, 12, 13, 14, 15, 16, 17, 18], [0, 1, 2, 3, 4, 5, 6, 7, 8, 9, 10, 11, 12, 13, 14, 15, 16, 17, 18, 19]] [1, 3, 41] 1 [] [(3, .el (eS1 x24)), (5, .call (oB r26) [] false), (5, .ov [.sc (.bool true)]), (11, .ov [.sl 6 (List.map eS1 (List.take (Int.toNat (z22 - 0)) (List.drop (Int.toNat 0) a0.f1)))]), (15, .el (eS1 x24)), (18, .call (oI r31) [] false)] [_, _, _, _, _, _, _, _, _, _, _, _, _] ⟨42, [(1, o1 (.ref 0 0)), (3, oI z22), (41, oB (decide ((0 : Int) ≤ r31)))], [eS2 a0], 0, []⟩ (by kernel_rfl) ⟨(at?_0 h25), (at?_map (f := eS1) h25), (spec_l03Item.fn k x24 r26 h27), (show (List.all [cB r26] PC.flatB) = true from rfl), (ovb h28), (show (0 : Int) ≤ 0 by decide), h29, (lenle (f := eS1) (l := a0.f1) h30), (ovcut (s := 6) (l := a0.f1) (f := eS1) (a := Int.toNat 0) (b := Int.toNat (z22 - 0))), (at?_0 h25), (at?_map (f := eS1) h25), (spec_l03Find.fn k (List.take (Int.toNat (z22 - 0)) (List.drop (Int.toNat 0) a0.f1)) x24.f4 r31 h32), (show (List.all [cI r31] PC.flatB) = true from rfl), trivial⟩ ?_
              exact ⟨(decide ((0 : Int) ≤ r31)), (Option.some.inj h34).symm, rfl⟩
            · refine Tri.d1 hmix 18 [[], [0], [], [0, 1, 2], [0, 1, 2, 3], [0, 1, 2, 3, 4], [0, 1, 2, 3, 4, 5], [0, 1, 2, 3, 4, 5, 6], [0, 1, 2, 3, 4, 5, 6, 7], [0, 1, 2, 3, 4, 5, 6, 7, 8], [0, 1, 2, 3, 4, 5, 6, 7], [0, 1, 2, 3, 4, 5, 6, 7, 8, 9, 10], [0, 1, 2, 3, 4, 5, 6, 7], [0, 1, 2, 3, 4, 5, 6, 7, 12], [0, 1, 2, 3, 4, 5, 6, 7], [0, 1, 2, 3, 4, 5, 6, 7, 12, 13, 14], [0, 1, 2, 3, 4, 5, 6, 7, 12, 13, 14, 15], [0, 1, 2, 3, 4, 5, 6, 7, 12, 13, 14, 15, 16], [0, 1, 2, 3, 4, 5, 6, 7, 8, 9, 10, 11, 12, 13, 14, 15, 16, 17], [0, 1, 2, 3, 4, 5, 6, 7, 8, 9, 10, 11, 12, 13, 14, 15, 16, 17, 18], [0, 1, 2, 3, 4, 5, 6, 7, 8, 9, 10, 11, 12, 13, 14, 15, 16, 17, 18, 19]] [1, 3, 41] 1 [] [(3, .el (eS1 x24)), (5, .call (oB r26) [] false), (5, .ov [.sc (.bool false)])] [_, _, _, _, _] ⟨42, [(1, o1 (.ref 0 0)), (3, oI z22), (41, oB true)], [eS2 a0], 0, []⟩ (by kernel_rfl) ⟨(at?_0 h25), (at?_map (f := eS1) h25), (spec_l03Item.fn k x24 r26 h27), (show (List.all [cB r26] PC.flatB) = true from rfl), (ovb h28), trivial⟩ ?_
              exact ⟨true, (Option.some.inj h34).symm, rfl⟩
        · refine Tri.cond_false (useb (decide_eq_false h23) (by kernel_rfl)) ?_
          refine Tri.fix [] 0 [] ⟨42, [], [], 0, []⟩ (by kernel_rfl) ?_
          refine Tri.exit ?_
          repeat (with_reducible refine Ex.exit ?_)
          refine Bk.here ?_
          exact ⟨(), (Option.some.inj h38).symm, rfl⟩
  · unfold spec_InterfaceOK.e1 at h5
    obtain ⟨r1, h2, h5⟩ := bind_some' h5
    rcases iteb_some h5 with ⟨h3, h5⟩ | ⟨h3, h5⟩
    · refine Tri.r1 [1, 13] 1 [] [(2, .call (oB r1) [] false), (2, .ov [.sc (.bool true)]), (7, .ov [.sc (.int .i64 (a0.f1.length : Int))])] [_, _, _, _] ⟨42, [(1, o1 (.ref 0 0)), (13, oB (decide ((60 : Int) < (a0.f1.length : Int))))], [eS2 a0], 0, []⟩ (by kernel_rfl) ⟨(spec_l02Name.fn k a0.f0 r1 h2), (show (List.all [cB r1] PC.flatB) = true from rfl), (ovb h3), (ovlen (f := eS1) (l := a0.f1)), trivial⟩ ?_
      exact ⟨(decide ((60 : Int) < (a0.f1.length : Int))), (Option.some.inj h5).symm, rfl⟩
    · refine Tri.r1 [1, 13] 1 [] [(2, .call (oB r1) [] false), (2, .ov [.sc (.bool false)])] [_, _, _] ⟨42, [(1, o1 (.ref 0 0)), (13, oB true)], [eS2 a0], 0, []⟩ (by kernel_rfl) ⟨(spec_l02Name.fn k a0.f0 r1 h2), (show (List.all [cB r1] PC.flatB) = true from rfl), (ovb h3), trivial⟩ ?_
      exact ⟨true, (Option.some.inj h5).symm, rfl⟩
/-! impl_within: function 56 -/
def impl_within.e1 (k : Nat) (a0 : Int) (a1 : Int) (a2 : Int) : Option Bool := if a1 ≤ a0 then (some (decide (a0 ≤ a2))) else (some false)
def impl_within.f (k : Nat) (a0 : Int) (a1 : Int) (a2 : Int) : Option Bool := (impl_within.e1 k a0 a1 a2).bind fun y2 => some y2
set_option maxRecDepth 100000 in
theorem impl_within.fn (k : Nat) (a0 : Int) (a1 : Int) (a2 : Int) (r : Bool) (H : impl_within.f k a0 a1 a2 = some r) : Fn Tryd.prog 56 [oI a0, oI a1, oI a2] [] (oB r) [] := by
  unfold impl_within.f at H
  refine Fn.body (ts := [6]) Tryd.func56 rfl rfl (by decide) (by decide) (Nat.le_of_ble_eq_true rfl) (Nat.le_refl _) ?_
  refine Tri.rn [0, 1, 2] 0 [] [] [] ⟨15, [(0, oI a0), (1, oI a1), (2, oI a2)], [], 0, []⟩ (by kernel_rfl) trivial ?_
  obtain ⟨v4, h3, H⟩ := bind_some' H
  refine Tri.join (α := Bool) (fun w => v4 = w) (fun y2 => ⟨15, [(6, oB y2)], [], 0, []⟩) (fun y2 hw => ?_) ?_
  · rw [hw] at H; clear hw
    try dsimp only at H
    refine Tri.ret ?_
    obtain rfl := Option.some.inj H
    exact ⟨.inr rfl, rfl, rfl, Nat.le_refl _, rfl, by simp⟩
  · unfold impl_within.e1 at h3
    rcases ite_some h3 with ⟨h1, h3⟩ | ⟨h1, h3⟩
    · refine Tri.r1 [6] 0 [] [(2, .ov [.sc (.bool true)])] [_] ⟨15, [(6, oB (decide (a0 ≤ a2)))], [], 0, []⟩ (by kernel_rfl) ⟨(ovb (decide_eq_true h1)), trivial⟩ ?_
      exact ⟨(decide (a0 ≤ a2)), (Option.some.inj h3).symm, rfl⟩
    · refine Tri.r1 [6] 0 [] [(2, .ov [.sc (.bool false)])] [_] ⟨15, [(6, oB false)], [], 0, []⟩ (by kernel_rfl) ⟨(ovb (decide_eq_false h1)), trivial⟩ ?_
      exact ⟨false, (Option.some.inj h3).symm, rfl⟩
/-! impl_isLetter: function 140 -/
def impl_isLetter.e1 (k : Nat) (a0 : Int) : Option Bool := if (97 : Int) ≤ a0 then (if a0 ≤ 122 then (some true) else (if (65 : Int) ≤ a0 then (if a0 ≤ 90 then (some true) else (some (decide (a0 = 95)))) else (some (decide (a0 = 95))))) else (if (65 : Int) ≤ a0 then (if a0 ≤ 90 then (some true) else (some (decide (a0 = 95)))) else (some (decide (a0 = 95))))
def impl_isLetter.f (k : Nat) (a0 : Int) : Option Bool := (impl_isLetter.e1 k a0).bind fun y7 => some y7
set_option maxRecDepth 100000 in
theorem impl_isLetter.fn (k : Nat) (a0 : Int) (r : Bool) (H : impl_isLetter.f k a0 = some r) : Fn Tryd.prog 140 [o1 (cK .u8 a0)] [] (oB r) [] := by
  unfold impl_isLetter.f at H
  refine Fn.body (ts := [2]) Tryd.func140 rfl rfl (by decide) (by decide) (Nat.le_of_ble_eq_true rfl) (Nat.le_refl _) ?_
  refine Tri.rn [0] 0 [] [] [] ⟨21, [(0, o1 (cK .u8 a0))], [], 0, []⟩ (by kernel_rfl) trivial ?_
  obtain ⟨v9, h8, H⟩ := bind_some' H
  refine Tri.join (α := Bool) (fun w => v9 = w) (fun y7 => ⟨21, [(2, oB y7)], [], 0, []⟩) (fun y7 hw => ?_) ?_
  · rw [hw] at H; clear hw
    try dsimp only at H
    refine Tri.ret ?_
    obtain rfl := Option.some.inj H
    exact ⟨.inr rfl, rfl, rfl, Nat.le_refl _, rfl, by simp⟩
  · unfold impl_isLetter.e1 at h8
    rcases ite_some h8 with ⟨h1, h8⟩ | ⟨h1, h8⟩
    · rcases ite_some h8 with ⟨h2, h8⟩ | ⟨h2, h8⟩
      · refine Tri.r1 [2] 0 [] [(1, .ov [.sc (.bool true)]), (4, .ov [.sc (.bool true)])] [_, _] ⟨21, [(2, oB true)], [], 0, []⟩ (by kernel_rfl) ⟨(ovb (decide_eq_true h1)), (ovb (decide_eq_true h2)), trivial⟩ ?_
        exact ⟨true, (Option.some.inj h8).symm, rfl⟩
      · rcases ite_some h8 with ⟨h3, h8⟩ | ⟨h3, h8⟩
        · rcases ite_some h8 with ⟨h4, h8⟩ | ⟨h4, h8⟩
          · refine Tri.r1 [2] 0 [] [(1, .ov [.sc (.bool true)]), (4, .ov [.sc (.bool false)]), (8, .ov [.sc (.bool true)]), (11, .ov [.sc (.bool true)])] [_, _, _, _] ⟨21, [(2, oB true)], [], 0, []⟩ (by kernel_rfl) ⟨(ovb (decide_eq_true h1)), (ovb (decide_eq_false h2)), (ovb (decide_eq_true h3)), (ovb (decide_eq_true h4)), trivial⟩ ?_
            exact ⟨true, (Option.some.inj h8).symm, rfl⟩
          · refine Tri.r1 [2] 0 [] [(1, .ov [.sc (.bool true)]), (4, .ov [.sc (.bool false)]), (8, .ov [.sc (.bool true)]), (11, .ov [.sc (.bool false)])] [_, _, _, _] ⟨21, [(2, oB (decide (a0 = 95)))], [], 0, []⟩ (by kernel_rfl) ⟨(ovb (decide_eq_true h1)), (ovb (decide_eq_false h2)), (ovb (decide_eq_true h3)), (ovb (decide_eq_false h4)), trivial⟩ ?_
            exact ⟨(decide (a0 = 95)), (Option.some.inj h8).symm, rfl⟩
        · refine Tri.r1 [2] 0 [] [(1, .ov [.sc (.bool true)]), (4, .ov [.sc (.bool false)]), (8, .ov [.sc (.bool false)])] [_, _, _] ⟨21, [(2, oB (decide (a0 = 95)))], [], 0, []⟩ (by kernel_rfl) ⟨(ovb (decide_eq_true h1)), (ovb (decide_eq_false h2)), (ovb (decide_eq_false h3)), trivial⟩ ?_
          exact ⟨(decide (a0 = 95)), (Option.some.inj h8).symm, rfl⟩
    · rcases ite_some h8 with ⟨h5, h8⟩ | ⟨h5, h8⟩
      · rcases ite_some h8 with ⟨h6, h8⟩ | ⟨h6, h8⟩
        · refine Tri.r1 [2] 0 [] [(1, .ov [.sc (.bool false)]), (8, .ov [.sc (.bool true)]), (11, .ov [.sc (.bool true)])] [_, _, _] ⟨21, [(2, oB true)], [], 0, []⟩ (by kernel_rfl) ⟨(ovb (decide_eq_false h1)), (ovb (decide_eq_true h5)), (ovb (decide_eq_true h6)), trivial⟩ ?_
          exact ⟨true, (Option.some.inj h8).symm, rfl⟩
        · refine Tri.r1 [2] 0 [] [(1, .ov [.sc (.bool false)]), (8, .ov [.sc (.bool true)]), (11, .ov [.sc (.bool false)])] [_, _, _] ⟨21, [(2, oB (decide (a0 = 95)))], [], 0, []⟩ (by kernel_rfl) ⟨(ovb (decide_eq_false h1)), (ovb (decide_eq_true h5)), (ovb (decide_eq_false h6)), trivial⟩ ?_
          exact ⟨(decide (a0 = 95)), (Option.some.inj h8).symm, rfl⟩
      · refine Tri.r1 [2] 0 [] [(1, .ov [.sc (.bool false)]), (8, .ov [.sc (.bool false)])] [_, _] ⟨21, [(2, oB (decide (a0 = 95)))], [], 0, []⟩ (by kernel_rfl) ⟨(ovb (decide_eq_false h1)), (ovb (decide_eq_false h5)), trivial⟩ ?_
        exact ⟨(decide (a0 = 95)), (Option.some.inj h8).symm, rfl⟩
/-! impl_isDigit: function 177 -/
def impl_isDigit.e1 (k : Nat) (a0 : Int) : Option Bool := if (48 : Int) ≤ a0 then (some (decide (a0 ≤ 57))) else (some false)
def impl_isDigit.f (k : Nat) (a0 : Int) : Option Bool := (impl_isDigit.e1 k a0).bind fun y2 => some y2
set_option maxRecDepth 100000 in
theorem impl_isDigit.fn (k : Nat) (a0 : Int) (r : Bool) (H : impl_isDigit.f k a0 = some r) : Fn Tryd.prog 177 [o1 (cK .u8 a0)] [] (oB r) [] := by
  unfold impl_isDigit.f at H
  refine Fn.body (ts := [2]) Tryd.func177 rfl rfl (by decide) (by decide) (Nat.le_of_ble_eq_true rfl) (Nat.le_refl _) ?_
  refine Tri.rn [0] 0 [] [] [] ⟨9, [(0, o1 (cK .u8 a0))], [], 0, []⟩ (by kernel_rfl) trivial ?_
  obtain ⟨v4, h3, H⟩ := bind_some' H
  refine Tri.join (α := Bool) (fun w => v4 = w) (fun y2 => ⟨9, [(2, oB y2)], [], 0, []⟩) (fun y2 hw => ?_) ?_
  · rw [hw] at H; clear hw
    try dsimp only at H
    refine Tri.ret ?_
    obtain rfl := Option.some.inj H
    exact ⟨.inr rfl, rfl, rfl, Nat.le_refl _, rfl, by simp⟩
  · unfold impl_isDigit.e1 at h3
    rcases ite_some h3 with ⟨h1, h3⟩ | ⟨h1, h3⟩
    · refine Tri.r1 [2] 0 [] [(1, .ov [.sc (.bool true)])] [_] ⟨9, [(2, oB (decide (a0 ≤ 57)))], [], 0, []⟩ (by kernel_rfl) ⟨(ovb (decide_eq_true h1)), trivial⟩ ?_
      exact ⟨(decide (a0 ≤ 57)), (Option.some.inj h3).symm, rfl⟩
    · refine Tri.r1 [2] 0 [] [(1, .ov [.sc (.bool false)])] [_] ⟨9, [(2, oB false)], [], 0, []⟩ (by kernel_rfl) ⟨(ovb (decide_eq_false h1)), trivial⟩ ?_
      exact ⟨false, (Option.some.inj h3).symm, rfl⟩
/-! impl_isWordByte: function 142 -/
def impl_isWordByte.e1 (k : Nat) (a0 : Int) : Option Bool := (impl_isLetter.f k a0).bind fun r1 => if r1 = true then (some true) else ((impl_isDigit.f k a0).bind fun r4 => some r4)
def impl_isWordByte.f (k : Nat) (a0 : Int) : Option Bool := (impl_isWordByte.e1 k a0).bind fun y6 => some y6
set_option maxRecDepth 100000 in
theorem impl_isWordByte.fn (k : Nat) (a0 : Int) (r : Bool) (H : impl_isWordByte.f k a0 = some r) : Fn Tryd.prog 142 [o1 (cK .u8 a0)] [] (oB r) [] := by
  unfold impl_isWordByte.f at H
  refine Fn.body (ts := [2]) Tryd.func142 rfl rfl (by decide) (by decide) (Nat.le_of_ble_eq_true rfl) (Nat.le_refl _) ?_
  refine Tri.rn [0] 0 [] [] [] ⟨9, [(0, o1 (cK .u8 a0))], [], 0, []⟩ (by kernel_rfl) trivial ?_
  obtain ⟨v8, h7, H⟩ := bind_some' H
  refine Tri.join (α := Bool) (fun w => v8 = w) (fun y6 => ⟨9, [(2, oB y6)], [], 0, []⟩) (fun y6 hw => ?_) ?_
  · rw [hw] at H; clear hw
    try dsimp only at H
    refine Tri.ret ?_
    obtain rfl := Option.some.inj H
    exact ⟨.inr rfl, rfl, rfl, Nat.le_refl _, rfl, by simp⟩
  · unfold impl_isWordByte.e1 at h7
    obtain ⟨r1, h2, h7⟩ := bind_some' h7
    rcases iteb_some h7 with ⟨h3, h7⟩ | ⟨h3, h7⟩
    · refine Tri.r1 [2] 0 [] [(1, .call (oB r1) [] false), (1, .ov [.sc (.bool true)])] [_, _, _] ⟨9, [(2, oB true)], [], 0, []⟩ (by kernel_rfl) ⟨(impl_isLetter.fn k a0 r1 h2), (show (List.all [cB r1] PC.flatB) = true from rfl), (ovb h3), trivial⟩ ?_
      exact ⟨true, (Option.some.inj h7).symm, rfl⟩
    · obtain ⟨r4, h5, h7⟩ := bind_some' h7
      refine Tri.r1 [2] 0 [] [(1, .call (oB r1) [] false), (1, .ov [.sc (.bool false)]), (4, .call (oB r4) [] false)] [_, _, _, _, _] ⟨9, [(2, oB r4)], [], 0, []⟩ (by kernel_rfl) ⟨(impl_isLetter.fn k a0 r1 h2), (show (List.all [cB r1] PC.flatB) = true from rfl), (ovb h3), (impl_isDigit.fn k a0 r4 h5), (show (List.all [cB r4] PC.flatB) = true from rfl), trivial⟩ ?_
      exact ⟨r4, (Option.some.inj h7).symm, rfl⟩
/-! impl_areAll_byte__1_1: function 176 -/
def impl_areAll_byte__1_1.f (k : Nat) (a0 : Int) : Option Bool := (impl_isWordByte.f k a0).bind fun r1 => some (!r1)
set_option maxRecDepth 100000 in
theorem impl_areAll_byte__1_1.fn (k : Nat) (a0 : Int) (r : Bool) (H : impl_areAll_byte__1_1.f k a0 = some r) : Fn Tryd.prog 176 [o1 (cK .u8 a0), o1 (.cel ([.sc (.func (.func 142) #[] #[])]) 0)] [] (oB r) [] := by
  unfold impl_areAll_byte__1_1.f at H
  refine Fn.body (ts := [3]) Tryd.func176 rfl rfl (by decide) (by decide) (Nat.le_of_ble_eq_true rfl) (Nat.le_refl _) ?_
  refine Tri.rn [0, 1] 0 [] [] [] ⟨8, [(0, o1 (cK .u8 a0)), (1, o1 (.cel ([.sc (.func (.func 142) #[] #[])]) 0))], [], 0, []⟩ (by kernel_rfl) trivial ?_
  obtain ⟨r1, h2, H⟩ := bind_some' H
  refine Tri.rn [3] 0 [] [(2, .call (oB r1) [] false)] [_, _] ⟨8, [(3, oB (!r1))], [], 0, []⟩ (by kernel_rfl) ⟨(impl_isWordByte.fn k a0 r1 h2), (show (List.all [cB r1] PC.flatB) = true from rfl), trivial⟩ ?_
  refine Tri.ret ?_
  obtain rfl := Option.some.inj H
  exact ⟨.inr rfl, rfl, rfl, Nat.le_refl _, rfl, by simp⟩
/-! slices_IndexFunc___byte_byte_1: function 196 -/
def slices_IndexFunc___byte_byte_1.l1 : Nat → (List Int) → Int → Option (Int ⊕ Unit)
  | 0, _, _ => none
  | k + 1, a0, z7 => if z7 < (a0.length : Int) then ((at? a0 z7).bind fun x9 => (impl_areAll_byte__1_1.f k x9).bind fun r11 => if r11 = true then (some (.inl z7)) else (slices_IndexFunc___byte_byte_1.l1 k a0 (w64 (z7 + 1)))) else (some (.inr ()))
def slices_IndexFunc___byte_byte_1.e2 (k : Nat) (a0 : (List Int)) : Option (Int ⊕ Unit) := slices_IndexFunc___byte_byte_1.l1 k a0 0
def slices_IndexFunc___byte_byte_1.f (k : Nat) (a0 : (List Int)) : Option Int := (slices_IndexFunc___byte_byte_1.e2 k a0).bind fun v => match v with | .inl r => some r | .inr _ => some (-1)
set_option maxRecDepth 100000 in
theorem slices_IndexFunc___byte_byte_1.fn (k : Nat) (a0 : (List Int)) (r : Int) (H : slices_IndexFunc___byte_byte_1.f k a0 = some r) : Fn Tryd.prog 196 [o1 (.sl 1 (List.map (eK .u8) a0)), o1 (.fn 176 [.cel ([.sc (.func (.func 142) #[] #[])]) 0])] [] (oI r) [] := by
  unfold slices_IndexFunc___byte_byte_1.f at H
  refine Fn.body (ts := [4]) Tryd.func196 rfl rfl (by decide) (by decide) (Nat.le_of_ble_eq_true rfl) (Nat.le_refl _) ?_
  refine Tri.rn [0, 1] 0 [] [] [] ⟨19, [(0, o1 (.sl 1 (List.map (eK .u8) a0))), (1, o1 (.fn 176 [.cel ([.sc (.func (.func 142) #[] #[])]) 0]))], [], 0, []⟩ (by kernel_rfl) trivial ?_
  obtain ⟨v16, h15, H⟩ := bind_some' H
  refine Tri.join (α := Unit) (fun w => v16 = .inr w) (fun _ => ⟨19, [], [], 0, []⟩) (fun w hw => ?_) ?_
  · rw [hw] at H; clear hw
    try dsimp only at H
    refine Tri.rn [4] 0 [] [] [] ⟨19, [(4, oI (-1))], [], 0, []⟩ (by kernel_rfl) trivial ?_
    refine Tri.ret ?_
    obtain rfl := Option.some.inj H
    exact ⟨.inr rfl, rfl, rfl, Nat.le_refl _, rfl, by simp⟩
  · unfold slices_IndexFunc___byte_byte_1.e2 at h15
    refine Tri.rn [0, 1, 7, 8] 0 [] [(1, .ov [.sc (.int .i64 (a0.length : Int))])] [_] ⟨19, [(0, o1 (.sl 1 (List.map (eK .u8) a0))), (1, o1 (.fn 176 [.cel ([.sc (.func (.func 142) #[] #[])]) 0])), (7, oI (a0.length : Int)), (8, oI 0)], [], 0, []⟩ (by kernel_rfl) ⟨(ovlen (f := (eK .u8)) (l := a0)), trivial⟩ ?_
    refine Tri.block ?_
    refine Tri.loop k (TriR.ind (α := Int) (fun k x => slices_IndexFunc___byte_byte_1.l1 k a0 x) (fun x => ⟨19, [(0, o1 (.sl 1 (List.map (eK .u8) a0))), (1, o1 (.fn 176 [.cel ([.sc (.func (.func 142) #[] #[])]) 0])), (7, oI (a0.length : Int)), (8, oI x)], [], 0, []⟩) (fun _ => rfl) (fun k z7 h15 IH14 => ?_) k 0 h15)
    rw [slices_IndexFunc___byte_byte_1.l1.eq_2] at h15
    refine Tri.rn [0, 1, 7, 8, 9] 0 [] [] [] ⟨19, [(0, o1 (.sl 1 (List.map (eK .u8) a0))), (1, o1 (.fn 176 [.cel ([.sc (.func (.func 142) #[] #[])]) 0])), (7, oI (a0.length : Int)), (8, oI z7), (9, oB (decide (z7 < (a0.length : Int))))], [], 0, []⟩ (by kernel_rfl) trivial ?_
    refine Tri.seq ?_
    rcases ite_some h15 with ⟨h8, h15⟩ | ⟨h8, h15⟩
    · refine Tri.cond_true (useb (decide_eq_true h8) (by kernel_rfl)) ?_
      refine Tri.skip ?_
      refine Tri.seq ?_
      refine Tri.block ?_
      refine Tri.rn [0, 1, 5, 7, 8] 0 [] [] [] ⟨19, [(0, o1 (.sl 1 (List.map (eK .u8) a0))), (1, o1 (.fn 176 [.cel ([.sc (.func (.func 142) #[] #[])]) 0])), (5, oI z7), (7, oI (a0.length : Int)), (8, oI z7)], [], 0, []⟩ (by kernel_rfl) trivial ?_
      obtain ⟨x9, h10, h15⟩ := bind_some' h15
      obtain ⟨r11, h12, h15⟩ := bind_some' h15
      refine Tri.rn [0, 1, 5, 7, 8, 16] 0 [] [(3, .el ((eK .u8) x9)), (5, .call (oB r11) [] false)] [_, _, _, _] ⟨19, [(0, o1 (.sl 1 (List.map (eK .u8) a0))), (1, o1 (.fn 176 [.cel ([.sc (.func (.func 142) #[] #[])]) 0])), (5, oI z7), (7, oI (a0.length : Int)), (8, oI z7), (16, oB r11)], [], 0, []⟩ (by kernel_rfl) ⟨(at?_0 h10), (at?_map (f := (eK .u8)) h10), (impl_areAll_byte__1_1.fn k x9 r11 h12), (show (List.all [cB r11] PC.flatB) = true from rfl), trivial⟩ ?_
      rcases iteb_some h15 with ⟨h13, h15⟩ | ⟨h13, h15⟩
      · refine Tri.cond_true (useb h13 (by kernel_rfl)) ?_
        refine Tri.rn [4] 0 [] [] [] ⟨19, [(4, oI z7)], [], 0, []⟩ (by kernel_rfl) trivial ?_
        refine Tri.ret ?_
        obtain rfl := Option.some.inj h15
        try dsimp only at H
        obtain rfl := Option.some.inj H
        exact ⟨.inr rfl, rfl, rfl, Nat.le_refl _, rfl, by simp⟩
      · refine Tri.cond_false (useb h13 (by kernel_rfl)) ?_
        refine Tri.skip ?_
        refine Tri.r1 [0, 1, 7, 8] 0 [] [] [] ⟨19, [(0, o1 (.sl 1 (List.map (eK .u8) a0))), (1, o1 (.fn 176 [.cel ([.sc (.func (.func 142) #[] #[])]) 0])), (7, oI (a0.length : Int)), (8, oI (w64 (z7 + 1)))], [], 0, []⟩ (by kernel_rfl) trivial ?_
        exact IH14 _ (w64 (z7 + 1)) (Nat.le_refl _) h15
    · refine Tri.cond_false (useb (decide_eq_false h8) (by kernel_rfl)) ?_
      refine Tri.fix [] 0 [] ⟨19, [], [], 0, []⟩ (by kernel_rfl) ?_
      refine Tri.exit ?_
      repeat (with_reducible refine Ex.exit ?_)
      refine Bk.here ?_
      exact ⟨(), (Option.some.inj h15).symm, rfl⟩
/-! slices_ContainsFunc___byte_byte_1: function 175 -/
def slices_ContainsFunc___byte_byte_1.f (k : Nat) (a0 : (List Int)) : Option Bool := (slices_IndexFunc___byte_byte_1.f k a0).bind fun r1 => some (decide ((0 : Int) ≤ r1))
set_option maxRecDepth 100000 in
theorem slices_ContainsFunc___byte_byte_1.fn (k : Nat) (a0 : (List Int)) (r : Bool) (H : slices_ContainsFunc___byte_byte_1.f k a0 = some r) : Fn Tryd.prog 175 [o1 (.sl 1 (List.map (eK .u8) a0)), o1 (.fn 176 [.cel ([.sc (.func (.func 142) #[] #[])]) 0])] [] (oB r) [] := by
  unfold slices_ContainsFunc___byte_byte_1.f at H
  refine Fn.body (ts := [4]) Tryd.func175 rfl rfl (by decide) (by decide) (Nat.le_of_ble_eq_true rfl) (Nat.le_refl _) ?_
  refine Tri.rn [0, 1] 0 [] [] [] ⟨9, [(0, o1 (.sl 1 (List.map (eK .u8) a0))), (1, o1 (.fn 176 [.cel ([.sc (.func (.func 142) #[] #[])]) 0]))], [], 0, []⟩ (by kernel_rfl) trivial ?_
  obtain ⟨r1, h2, H⟩ := bind_some' H
  refine Tri.rn [4] 0 [] [(2, .call (oI r1) [] false)] [_, _] ⟨9, [(4, oB (decide ((0 : Int) ≤ r1)))], [], 0, []⟩ (by kernel_rfl) ⟨(slices_IndexFunc___byte_byte_1.fn k a0 r1 h2), (show (List.all [cI r1] PC.flatB) = true from rfl), trivial⟩ ?_
  refine Tri.ret ?_
  obtain rfl := Option.some.inj H
  exact ⟨.inr rfl, rfl, rfl, Nat.le_refl _, rfl, by simp⟩
/-! impl_areAll_byte_1: function 141 -/
def impl_areAll_byte_1.f (k : Nat) (a0 : (List Int)) : Option Bool := (slices_ContainsFunc___byte_byte_1.f k a0).bind fun r1 => some (!r1)
set_option maxRecDepth 100000 in
theorem impl_areAll_byte_1.fn (k : Nat) (a0 : (List Int)) (r : Bool) (H : impl_areAll_byte_1.f k a0 = some r) : Fn Tryd.prog 141 [o1 (.sl 1 (List.map (eK .u8) a0)), o1 (.sc (.func (.func 142) #[] #[]))] [] (oB r) [] := by
  unfold impl_areAll_byte_1.f at H
  refine Fn.body (ts := [4]) Tryd.func141 rfl rfl (by decide) (by decide) (Nat.le_of_ble_eq_true rfl) (Nat.le_refl _) ?_
  refine Tri.rn [0, 3] 1 [] [] [] ⟨9, [(0, o1 (.sl 1 (List.map (eK .u8) a0))), (3, o1 (.ref 0 0))], [[.sc (.func (.func 142) #[] #[])]], 0, []⟩ (by kernel_rfl) trivial ?_
  obtain ⟨r1, h2, H⟩ := bind_some' H
  refine Tri.rn [4] 0 [] [(2, .call (oB r1) [] false)] [_, _] ⟨9, [(4, oB (!r1))], [], 0, []⟩ (by kernel_rfl) ⟨(slices_ContainsFunc___byte_byte_1.fn k a0 r1 h2), (show (List.all [cB r1] PC.flatB) = true from rfl), trivial⟩ ?_
  refine Tri.ret ?_
  obtain rfl := Option.some.inj H
  exact ⟨.inr rfl, rfl, rfl, Nat.le_refl _, rfl, by simp⟩
/-! impl_NameOK: function 101 -/
def impl_NameOK.e1 (k : Nat) (a0 : ByteArray) : Option Bool := (impl_within.f k (a0.size : Int) 1 40).bind fun r1 => if r1 = true then (if (0 : Int) ≤ 0 then (if 0 < (a0.size : Int) then ((impl_isLetter.f k (byteAt a0 0)).bind fun r6 => if r6 = true then ((impl_areAll_byte_1.f k (bytesOf a0)).bind fun r9 => some r9) else (some false)) else none) else none) else (some false)
def impl_NameOK.f (k : Nat) (a0 : ByteArray) : Option Bool := (impl_NameOK.e1 k a0).bind fun y11 => some y11
set_option maxRecDepth 100000 in
theorem impl_NameOK.fn (k : Nat) (a0 : ByteArray) (r : Bool) (H : impl_NameOK.f k a0 = some r) : Fn Tryd.prog 101 [oS a0] [] (oB r) [] := by
  unfold impl_NameOK.f at H
  refine Fn.body (ts := [2]) Tryd.func101 rfl rfl (by decide) (by decide) (Nat.le_of_ble_eq_true rfl) (Nat.le_refl _) ?_
  refine Tri.rn [0] 0 [] [] [] ⟨16, [(0, oS a0)], [], 0, []⟩ (by kernel_rfl) trivial ?_
  obtain ⟨v13, h12, H⟩ := bind_some' H
  refine Tri.join (α := Bool) (fun w => v13 = w) (fun y11 => ⟨16, [(2, oB y11)], [], 0, []⟩) (fun y11 hw => ?_) ?_
  · rw [hw] at H; clear hw
    try dsimp only at H
    refine Tri.ret ?_
    obtain rfl := Option.some.inj H
    exact ⟨.inr rfl, rfl, rfl, Nat.le_refl _, rfl, by simp⟩
  · unfold impl_NameOK.e1 at h12
    obtain ⟨r1, h2, h12⟩ := bind_some' h12
    rcases iteb_some h12 with ⟨h3, h12⟩ | ⟨h3, h12⟩
    · obtain ⟨h4, h12⟩ := need_some h12
      obtain ⟨h5, h12⟩ := need_some h12
      obtain ⟨r6, h7, h12⟩ := bind_some' h12
      rcases iteb_some h12 with ⟨h8, h12⟩ | ⟨h8, h12⟩
      · obtain ⟨r9, h10, h12⟩ := bind_some' h12
        refine Tri.r1 [2] 0 [] [(2, .call (oB r1) [] false), (2, .ov [.sc (.bool true)]), (6, .call (oB r6) [] false), (6, .ov [.sc (.bool true)]), (11, .call (oB r9) [] false)] [_, _, _, _, _, _, _, _, _, _] ⟨16, [(2, oB r9)], [], 0, []⟩ (by kernel_rfl) ⟨(impl_within.fn k (a0.size : Int) 1 40 r1 h2), (show (List.all [cB r1] PC.flatB) = true from rfl), (ovb h3), h4, h5, (impl_isLetter.fn k (byteAt a0 0) r6 h7), (show (List.all [cB r6] PC.flatB) = true from rfl), (ovb h8), (impl_areAll_byte_1.fn k (bytesOf a0) r9 h10), (show (List.all [cB r9] PC.flatB) = true from rfl), trivial⟩ ?_
        exact ⟨r9, (Option.some.inj h12).symm, rfl⟩
      · refine Tri.r1 [2] 0 [] [(2, .call (oB r1) [] false), (2, .ov [.sc (.bool true)]), (6, .call (oB r6) [] false), (6, .ov [.sc (.bool false)])] [_, _, _, _, _, _, _, _] ⟨16, [(2, oB false)], [], 0, []⟩ (by kernel_rfl) ⟨(impl_within.fn k (a0.size : Int) 1 40 r1 h2), (show (List.all [cB r1] PC.flatB) = true from rfl), (ovb h3), h4, h5, (impl_isLetter.fn k (byteAt a0 0) r6 h7), (show (List.all [cB r6] PC.flatB) = true from rfl), (ovb h8), trivial⟩ ?_
        exact ⟨false, (Option.some.inj h12).symm, rfl⟩
    · refine Tri.r1 [2] 0 [] [(2, .call (oB r1) [] false), (2, .ov [.sc (.bool false)])] [_, _, _] ⟨16, [(2, oB false)], [], 0, []⟩ (by kernel_rfl) ⟨(impl_within.fn k (a0.size : Int) 1 40 r1 h2), (show (List.all [cB r1] PC.flatB) = true from rfl), (ovb h3), trivial⟩ ?_
      exact ⟨false, (Option.some.inj h12).symm, rfl⟩
/-! impl_keys: function 144 -/
def impl_keys.f (k : Nat) : Option (List ByteArray) := (strings_Fields.f k (⟨#[77, 79, 68, 85, 76, 69, 32, 73, 77, 80, 79, 82, 84, 32, 67, 79, 78, 83, 84, 32, 86, 65, 82, 32, 80, 82, 79, 67, 69, 68, 85, 82, 69, 32, 66, 69, 71, 73, 78, 32, 69, 78, 68, 32, 73, 70, 32, 84, 72, 69, 78, 32, 69, 76, 83, 73, 70, 32, 69, 76, 83, 69, 32, 87, 72, 73, 76, 69, 32, 68, 79, 32, 82, 69, 84, 85, 82, 78, 32, 79, 82, 32, 68, 73, 86, 32, 77, 79, 68, 32, 84, 82, 85, 69, 32, 70, 65, 76, 83, 69, 32, 65, 82, 82, 65, 89, 32, 79, 70, 32, 73, 78, 84, 69, 71, 69, 82, 32, 66, 79, 79, 76, 69, 65, 78, 32, 67, 72, 65, 82, 32, 87, 82, 73, 84, 69, 32, 82, 69, 65, 68, 32, 79, 82, 68, 32, 67, 72, 82, 32, 76, 69, 78]⟩ : ByteArray)).bind fun r1 => some r1
set_option maxRecDepth 100000 in
theorem impl_keys.fn (k : Nat) (r : (List ByteArray)) (H : impl_keys.f k  = some r) : Fn Tryd.prog 144 [] [] (o1 (.own 9 (List.map eS r))) [] := by
  unfold impl_keys.f at H
  refine Fn.body (ts := [0]) Tryd.func144 rfl rfl (by decide) (by decide) (Nat.le_of_ble_eq_true rfl) (Nat.le_refl _) ?_
  refine Tri.rn [] 0 [] [] [] ⟨2, [], [], 0, []⟩ (by kernel_rfl) trivial ?_
  obtain ⟨r1, h2, H⟩ := bind_some' H
  refine Tri.rn [0] 0 [] [(0, .call (o1 (.own 9 (List.map eS r1))) [] false)] [_, _] ⟨2, [(0, o1 (.own 9 (List.map eS r1)))], [], 0, []⟩ (by kernel_rfl) ⟨(strings_Fields.fn k (⟨#[77, 79, 68, 85, 76, 69, 32, 73, 77, 80, 79, 82, 84, 32, 67, 79, 78, 83, 84, 32, 86, 65, 82, 32, 80, 82, 79, 67, 69, 68, 85, 82, 69, 32, 66, 69, 71, 73, 78, 32, 69, 78, 68, 32, 73, 70, 32, 84, 72, 69, 78, 32, 69, 76, 83, 73, 70, 32, 69, 76, 83, 69, 32, 87, 72, 73, 76, 69, 32, 68, 79, 32, 82, 69, 84, 85, 82, 78, 32, 79, 82, 32, 68, 73, 86, 32, 77, 79, 68, 32, 84, 82, 85, 69, 32, 70, 65, 76, 83, 69, 32, 65, 82, 82, 65, 89, 32, 79, 70, 32, 73, 78, 84, 69, 71, 69, 82, 32, 66, 79, 79, 76, 69, 65, 78, 32, 67, 72, 65, 82, 32, 87, 82, 73, 84, 69, 32, 82, 69, 65, 68, 32, 79, 82, 68, 32, 67, 72, 82, 32, 76, 69, 78]⟩ : ByteArray) r1 h2), (show (List.all [.own 9 (List.map eS r1)] PC.flatB) = true by simp [PC.flatB, PC.scalar, cI, cK, cB, cS, eS]), trivial⟩ ?_
  refine Tri.ret ?_
  obtain rfl := Option.some.inj H
  exact ⟨.inr rfl, rfl, rfl, Nat.le_refl _, rfl, by simp⟩
/-! slices_Index___string_string: function 178 -/
def slices_Index___string_string.l1 : Nat → (List ByteArray) → ByteArray → Int → Option (Int ⊕ Unit)
  | 0, _, _, _ => none
  | k + 1, a0, a1, z5 => if z5 < (a0.length : Int) then ((at? a0 z5).bind fun x7 => if a1 = x7 then (some (.inl z5)) else (slices_Index___string_string.l1 k a0 a1 (w64 (z5 + 1)))) else (some (.inr ()))
def slices_Index___string_string.e2 (k : Nat) (a0 : (List ByteArray)) (a1 : ByteArray) : Option (Int ⊕ Unit) := slices_Index___string_string.l1 k a0 a1 0
def slices_Index___string_string.f (k : Nat) (a0 : (List ByteArray)) (a1 : ByteArray) : Option Int := (slices_Index___string_string.e2 k a0 a1).bind fun v => match v with | .inl r => some r | .inr _ => some (-1)
set_option maxRecDepth 100000 in
theorem slices_Index___string_string.fn (k : Nat) (a0 : (List ByteArray)) (a1 : ByteArray) (r : Int) (H : slices_Index___string_string.f k a0 a1 = some r) : Fn Tryd.prog 178 [o1 (.sl 1 (List.map eS a0)), oS a1] [] (oI r) [] := by
  unfold slices_Index___string_string.f at H
  refine Fn.body (ts := [4]) Tryd.func178 rfl rfl (by decide) (by decide) (Nat.le_of_ble_eq_true rfl) (Nat.le_refl _) ?_
  refine Tri.rn [0, 1] 0 [] [] [] ⟨19, [(0, o1 (.sl 1 (List.map eS a0))), (1, oS a1)], [], 0, []⟩ (by kernel_rfl) trivial ?_
  obtain ⟨v12, h11, H⟩ := bind_some' H
  refine Tri.join (α := Unit) (fun w => v12 = .inr w) (fun _ => ⟨19, [], [], 0, []⟩) (fun w hw => ?_) ?_
  · rw [hw] at H; clear hw
    try dsimp only at H
    refine Tri.rn [4] 0 [] [] [] ⟨19, [(4, oI (-1))], [], 0, []⟩ (by kernel_rfl) trivial ?_
    refine Tri.ret ?_
    obtain rfl := Option.some.inj H
    exact ⟨.inr rfl, rfl, rfl, Nat.le_refl _, rfl, by simp⟩
  · unfold slices_Index___string_string.e2 at h11
    refine Tri.rn [0, 1, 7, 8] 0 [] [(1, .ov [.sc (.int .i64 (a0.length : Int))])] [_] ⟨19, [(0, o1 (.sl 1 (List.map eS a0))), (1, oS a1), (7, oI (a0.length : Int)), (8, oI 0)], [], 0, []⟩ (by kernel_rfl) ⟨(ovlen (f := eS) (l := a0)), trivial⟩ ?_
    refine Tri.block ?_
    refine Tri.loop k (TriR.ind (α := Int) (fun k x => slices_Index___string_string.l1 k a0 a1 x) (fun x => ⟨19, [(0, o1 (.sl 1 (List.map eS a0))), (1, oS a1), (7, oI (a0.length : Int)), (8, oI x)], [], 0, []⟩) (fun _ => rfl) (fun k z5 h11 IH10 => ?_) k 0 h11)
    rw [slices_Index___string_string.l1.eq_2] at h11
    refine Tri.rn [0, 1, 7, 8, 9] 0 [] [] [] ⟨19, [(0, o1 (.sl 1 (List.map eS a0))), (1, oS a1), (7, oI (a0.length : Int)), (8, oI z5), (9, oB (decide (z5 < (a0.length : Int))))], [], 0, []⟩ (by kernel_rfl) trivial ?_
    refine Tri.seq ?_
    rcases ite_some h11 with ⟨h6, h11⟩ | ⟨h6, h11⟩
    · refine Tri.cond_true (useb (decide_eq_true h6) (by kernel_rfl)) ?_
      refine Tri.skip ?_
      refine Tri.seq ?_
      refine Tri.block ?_
      refine Tri.rn [0, 1, 5, 7, 8] 0 [] [] [] ⟨19, [(0, o1 (.sl 1 (List.map eS a0))), (1, oS a1), (5, oI z5), (7, oI (a0.length : Int)), (8, oI z5)], [], 0, []⟩ (by kernel_rfl) trivial ?_
      obtain ⟨x7, h8, h11⟩ := bind_some' h11
      refine Tri.rn [0, 1, 5, 7, 8, 16] 0 [] [(3, .el (eS x7))] [_, _] ⟨19, [(0, o1 (.sl 1 (List.map eS a0))), (1, oS a1), (5, oI z5), (7, oI (a0.length : Int)), (8, oI z5), (16, oB (decide (a1 = x7)))], [], 0, []⟩ (by kernel_rfl) ⟨(at?_0 h8), (at?_map (f := eS) h8), trivial⟩ ?_
      rcases ite_some h11 with ⟨h9, h11⟩ | ⟨h9, h11⟩
      · refine Tri.cond_true (useb (decide_eq_true h9) (by kernel_rfl)) ?_
        refine Tri.rn [4] 0 [] [] [] ⟨19, [(4, oI z5)], [], 0, []⟩ (by kernel_rfl) trivial ?_
        refine Tri.ret ?_
        obtain rfl := Option.some.inj h11
        try dsimp only at H
        obtain rfl := Option.some.inj H
        exact ⟨.inr rfl, rfl, rfl, Nat.le_refl _, rfl, by simp⟩
      · refine Tri.cond_false (useb (decide_eq_false h9) (by kernel_rfl)) ?_
        refine Tri.skip ?_
        refine Tri.r1 [0, 1, 7, 8] 0 [] [] [] ⟨19, [(0, o1 (.sl 1 (List.map eS a0))), (1, oS a1), (7, oI (a0.length : Int)), (8, oI (w64 (z5 + 1)))], [], 0, []⟩ (by kernel_rfl) trivial ?_
        exact IH10 _ (w64 (z5 + 1)) (Nat.le_refl _) h11
    · refine Tri.cond_false (useb (decide_eq_false h6) (by kernel_rfl)) ?_
      refine Tri.fix [] 0 [] ⟨19, [], [], 0, []⟩ (by kernel_rfl) ?_
      refine Tri.exit ?_
      repeat (with_reducible refine Ex.exit ?_)
      refine Bk.here ?_
      exact ⟨(), (Option.some.inj h11).symm, rfl⟩
/-! slices_Contains___string_string: function 143 -/
def slices_Contains___string_string.f (k : Nat) (a0 : (List ByteArray)) (a1 : ByteArray) : Option Bool := (slices_Index___string_string.f k a0 a1).bind fun r1 => some (decide ((0 : Int) ≤ r1))
set_option maxRecDepth 100000 in
theorem slices_Contains___string_string.fn (k : Nat) (a0 : (List ByteArray)) (a1 : ByteArray) (r : Bool) (H : slices_Contains___string_string.f k a0 a1 = some r) : Fn Tryd.prog 143 [o1 (.sl 1 (List.map eS a0)), oS a1] [] (oB r) [] := by
  unfold slices_Contains___string_string.f at H
  refine Fn.body (ts := [4]) Tryd.func143 rfl rfl (by decide) (by decide) (Nat.le_of_ble_eq_true rfl) (Nat.le_refl _) ?_
  refine Tri.rn [0, 1] 0 [] [] [] ⟨9, [(0, o1 (.sl 1 (List.map eS a0))), (1, oS a1)], [], 0, []⟩ (by kernel_rfl) trivial ?_
  obtain ⟨r1, h2, H⟩ := bind_some' H
  refine Tri.rn [4] 0 [] [(2, .call (oI r1) [] false)] [_, _] ⟨9, [(4, oB (decide ((0 : Int) ≤ r1)))], [], 0, []⟩ (by kernel_rfl) ⟨(slices_Index___string_string.fn k a0 a1 r1 h2), (show (List.all [cI r1] PC.flatB) = true from rfl), trivial⟩ ?_
  refine Tri.ret ?_
  obtain rfl := Option.some.inj H
  exact ⟨.inr rfl, rfl, rfl, Nat.le_refl _, rfl, by simp⟩
/-! impl_IsKey: function 102 -/
def impl_IsKey.f (k : Nat) (a0 : ByteArray) : Option Bool := (impl_keys.f k).bind fun r1 => (slices_Contains___string_string.f k r1 a0).bind fun r3 => some r3
set_option maxRecDepth 100000 in
theorem impl_IsKey.fn (k : Nat) (a0 : ByteArray) (r : Bool) (H : impl_IsKey.f k a0 = some r) : Fn Tryd.prog 102 [oS a0] [] (oB r) [] := by
  unfold impl_IsKey.f at H
  refine Fn.body (ts := [2]) Tryd.func102 rfl rfl (by decide) (by decide) (Nat.le_of_ble_eq_true rfl) (Nat.le_refl _) ?_
  refine Tri.rn [0] 0 [] [] [] ⟨6, [(0, oS a0)], [], 0, []⟩ (by kernel_rfl) trivial ?_
  obtain ⟨r1, h2, H⟩ := bind_some' H
  obtain ⟨r3, h4, H⟩ := bind_some' H
  refine Tri.rn [2] 0 [] [(0, .call (o1 (.own 9 (List.map eS r1))) [] false), (2, .call (oB r3) [] false)] [_, _, _, _] ⟨6, [(2, oB r3)], [], 0, []⟩ (by kernel_rfl) ⟨(impl_keys.fn k r1 h2), (show (List.all [.own 9 (List.map eS r1)] PC.flatB) = true by simp [PC.flatB, PC.scalar, cI, cK, cB, cS, eS]), (slices_Contains___string_string.fn k r1 a0 r3 h4), (show (List.all [cB r3] PC.flatB) = true from rfl), trivial⟩ ?_
  refine Tri.ret ?_
  obtain rfl := Option.some.inj H
  exact ⟨.inr rfl, rfl, rfl, Nat.le_refl _, rfl, by simp⟩
/-! impl_isName: function 46 -/
def impl_isName.e1 (k : Nat) (a0 : ByteArray) : Option Bool := (impl_NameOK.f k a0).bind fun r1 => if r1 = true then ((impl_IsKey.f k a0).bind fun r4 => some (!r4)) else (some false)
def impl_isName.f (k : Nat) (a0 : ByteArray) : Option Bool := (impl_isName.e1 k a0).bind fun y6 => some y6
set_option maxRecDepth 100000 in
theorem impl_isName.fn (k : Nat) (a0 : ByteArray) (r : Bool) (H : impl_isName.f k a0 = some r) : Fn Tryd.prog 46 [oS a0] [] (oB r) [] := by
  unfold impl_isName.f at H
  refine Fn.body (ts := [2]) Tryd.func46 rfl rfl (by decide) (by decide) (Nat.le_of_ble_eq_true rfl) (Nat.le_refl _) ?_
  refine Tri.rn [0] 0 [] [] [] ⟨10, [(0, oS a0)], [], 0, []⟩ (by kernel_rfl) trivial ?_
  obtain ⟨v8, h7, H⟩ := bind_some' H
  refine Tri.join (α := Bool) (fun w => v8 = w) (fun y6 => ⟨10, [(2, oB y6)], [], 0, []⟩) (fun y6 hw => ?_) ?_
  · rw [hw] at H; clear hw
    try dsimp only at H
    refine Tri.ret ?_
    obtain rfl := Option.some.inj H
    exact ⟨.inr rfl, rfl, rfl, Nat.le_refl _, rfl, by simp⟩
  · unfold impl_isName.e1 at h7
    obtain ⟨r1, h2, h7⟩ := bind_some' h7
    rcases iteb_some h7 with ⟨h3, h7⟩ | ⟨h3, h7⟩
    · obtain ⟨r4, h5, h7⟩ := bind_some' h7
      refine Tri.r1 [2] 0 [] [(1, .call (oB r1) [] false), (1, .ov [.sc (.bool true)]), (4, .call (oB r4) [] false)] [_, _, _, _, _] ⟨10, [(2, oB (!r4))], [], 0, []⟩ (by kernel_rfl) ⟨(impl_NameOK.fn k a0 r1 h2), (show (List.all [cB r1] PC.flatB) = true from rfl), (ovb h3), (impl_IsKey.fn k a0 r4 h5), (show (List.all [cB r4] PC.flatB) = true from rfl), trivial⟩ ?_
      exact ⟨(!r4), (Option.some.inj h7).symm, rfl⟩
    · refine Tri.r1 [2] 0 [] [(1, .call (oB r1) [] false), (1, .ov [.sc (.bool false)])] [_, _, _] ⟨10, [(2, oB false)], [], 0, []⟩ (by kernel_rfl) ⟨(impl_NameOK.fn k a0 r1 h2), (show (List.all [cB r1] PC.flatB) = true from rfl), (ovb h3), trivial⟩ ?_
      exact ⟨false, (Option.some.inj h7).symm, rfl⟩
/-! impl_isType: function 105 -/
def impl_isType.f (k : Nat) (a0 : Int) : Option Bool := (impl_within.f k a0 1 3).bind fun r1 => some r1
set_option maxRecDepth 100000 in
theorem impl_isType.fn (k : Nat) (a0 : Int) (r : Bool) (H : impl_isType.f k a0 = some r) : Fn Tryd.prog 105 [oI a0] [] (oB r) [] := by
  unfold impl_isType.f at H
  refine Fn.body (ts := [2]) Tryd.func105 rfl rfl (by decide) (by decide) (Nat.le_of_ble_eq_true rfl) (Nat.le_refl _) ?_
  refine Tri.rn [0] 0 [] [] [] ⟨5, [(0, oI a0)], [], 0, []⟩ (by kernel_rfl) trivial ?_
  obtain ⟨r1, h2, H⟩ := bind_some' H
  refine Tri.rn [2] 0 [] [(1, .call (oB r1) [] false)] [_, _] ⟨5, [(2, oB r1)], [], 0, []⟩ (by kernel_rfl) ⟨(impl_within.fn k a0 1 3 r1 h2), (show (List.all [cB r1] PC.flatB) = true from rfl), trivial⟩ ?_
  refine Tri.ret ?_
  obtain rfl := Option.some.inj H
  exact ⟨.inr rfl, rfl, rfl, Nat.le_refl _, rfl, by simp⟩
/-! impl_CharOK: function 146 -/
def impl_CharOK.e1 (k : Nat) (a0 : Int) : Option Bool := (impl_within.f k a0 0 1114111).bind fun r1 => if r1 = true then ((impl_within.f k a0 55296 57343).bind fun r4 => some (!r4)) else (some false)
def impl_CharOK.f (k : Nat) (a0 : Int) : Option Bool := (impl_CharOK.e1 k a0).bind fun y6 => some y6
set_option maxRecDepth 100000 in
theorem impl_CharOK.fn (k : Nat) (a0 : Int) (r : Bool) (H : impl_CharOK.f k a0 = some r) : Fn Tryd.prog 146 [oI a0] [] (oB r) [] := by
  unfold impl_CharOK.f at H
  refine Fn.body (ts := [2]) Tryd.func146 rfl rfl (by decide) (by decide) (Nat.le_of_ble_eq_true rfl) (Nat.le_refl _) ?_
  refine Tri.rn [0] 0 [] [] [] ⟨10, [(0, oI a0)], [], 0, []⟩ (by kernel_rfl) trivial ?_
  obtain ⟨v8, h7, H⟩ := bind_some' H
  refine Tri.join (α := Bool) (fun w => v8 = w) (fun y6 => ⟨10, [(2, oB y6)], [], 0, []⟩) (fun y6 hw => ?_) ?_
  · rw [hw] at H; clear hw
    try dsimp only at H
    refine Tri.ret ?_
    obtain rfl := Option.some.inj H
    exact ⟨.inr rfl, rfl, rfl, Nat.le_refl _, rfl, by simp⟩
  · unfold impl_CharOK.e1 at h7
    obtain ⟨r1, h2, h7⟩ := bind_some' h7
    rcases iteb_some h7 with ⟨h3, h7⟩ | ⟨h3, h7⟩
    · obtain ⟨r4, h5, h7⟩ := bind_some' h7
      refine Tri.r1 [2] 0 [] [(1, .call (oB r1) [] false), (1, .ov [.sc (.bool true)]), (4, .call (oB r4) [] false)] [_, _, _, _, _] ⟨10, [(2, oB (!r4))], [], 0, []⟩ (by kernel_rfl) ⟨(impl_within.fn k a0 0 1114111 r1 h2), (show (List.all [cB r1] PC.flatB) = true from rfl), (ovb h3), (impl_within.fn k a0 55296 57343 r4 h5), (show (List.all [cB r4] PC.flatB) = true from rfl), trivial⟩ ?_
      exact ⟨(!r4), (Option.some.inj h7).symm, rfl⟩
    · refine Tri.r1 [2] 0 [] [(1, .call (oB r1) [] false), (1, .ov [.sc (.bool false)])] [_, _, _] ⟨10, [(2, oB false)], [], 0, []⟩ (by kernel_rfl) ⟨(impl_within.fn k a0 0 1114111 r1 h2), (show (List.all [cB r1] PC.flatB) = true from rfl), (ovb h3), trivial⟩ ?_
      exact ⟨false, (Option.some.inj h7).symm, rfl⟩
/-! impl_isValueOf: function 106 -/
def impl_isValueOf.e1 (k : Nat) (a0 : Int) (a1 : Int) : Option Bool := if a0 = 1 then (some true) else (if a0 = 2 then ((impl_within.f k a1 0 1).bind fun r3 => if r3 = true then (some true) else (if a0 = 3 then ((impl_CharOK.f k a1).bind fun r7 => some r7) else (some false))) else (if a0 = 3 then ((impl_CharOK.f k a1).bind fun r10 => some r10) else (some false)))
def impl_isValueOf.f (k : Nat) (a0 : Int) (a1 : Int) : Option Bool := (impl_isValueOf.e1 k a0 a1).bind fun y12 => some y12
set_option maxRecDepth 100000 in
theorem impl_isValueOf.fn (k : Nat) (a0 : Int) (a1 : Int) (r : Bool) (H : impl_isValueOf.f k a0 a1 = some r) : Fn Tryd.prog 106 [oI a0, oI a1] [] (oB r) [] := by
  unfold impl_isValueOf.f at H
  refine Fn.body (ts := [4]) Tryd.func106 rfl rfl (by decide) (by decide) (Nat.le_of_ble_eq_true rfl) (Nat.le_refl _) ?_
  refine Tri.rn [0, 1] 0 [] [] [] ⟨23, [(0, oI a0), (1, oI a1)], [], 0, []⟩ (by kernel_rfl) trivial ?_
  obtain ⟨v14, h13, H⟩ := bind_some' H
  refine Tri.join (α := Bool) (fun w => v14 = w) (fun y12 => ⟨23, [(4, oB y12)], [], 0, []⟩) (fun y12 hw => ?_) ?_
  · rw [hw] at H; clear hw
    try dsimp only at H
    refine Tri.ret ?_
    obtain rfl := Option.some.inj H
    exact ⟨.inr rfl, rfl, rfl, Nat.le_refl _, rfl, by simp⟩
  · unfold impl_isValueOf.e1 at h13
    rcases ite_some h13 with ⟨h1, h13⟩ | ⟨h1, h13⟩
    · refine Tri.r1 [4] 0 [] [(1, .ov [.sc (.bool true)])] [_] ⟨23, [(4, oB true)], [], 0, []⟩ (by kernel_rfl) ⟨(ovb (decide_eq_true h1)), trivial⟩ ?_
      exact ⟨true, (Option.some.inj h13).symm, rfl⟩
    · rcases ite_some h13 with ⟨h2, h13⟩ | ⟨h2, h13⟩
      · obtain ⟨r3, h4, h13⟩ := bind_some' h13
        rcases iteb_some h13 with ⟨h5, h13⟩ | ⟨h5, h13⟩
        · refine Tri.r1 [4] 0 [] [(1, .ov [.sc (.bool false)]), (4, .ov [.sc (.bool true)]), (7, .call (oB r3) [] false), (7, .ov [.sc (.bool true)])] [_, _, _, _, _] ⟨23, [(4, oB true)], [], 0, []⟩ (by kernel_rfl) ⟨(ovb (decide_eq_false h1)), (ovb (decide_eq_true h2)), (impl_within.fn k a1 0 1 r3 h4), (show (List.all [cB r3] PC.flatB) = true from rfl), (ovb h5), trivial⟩ ?_
          exact ⟨true, (Option.some.inj h13).symm, rfl⟩
        · rcases ite_some h13 with ⟨h6, h13⟩ | ⟨h6, h13⟩
          · obtain ⟨r7, h8, h13⟩ := bind_some' h13
            refine Tri.r1 [4] 0 [] [(1, .ov [.sc (.bool false)]), (4, .ov [.sc (.bool true)]), (7, .call (oB r3) [] false), (7, .ov [.sc (.bool false)]), (12, .ov [.sc (.bool true)]), (15, .call (oB r7) [] false)] [_, _, _, _, _, _, _, _] ⟨23, [(4, oB r7)], [], 0, []⟩ (by kernel_rfl) ⟨(ovb (decide_eq_false h1)), (ovb (decide_eq_true h2)), (impl_within.fn k a1 0 1 r3 h4), (show (List.all [cB r3] PC.flatB) = true from rfl), (ovb h5), (ovb (decide_eq_true h6)), (impl_CharOK.fn k a1 r7 h8), (show (List.all [cB r7] PC.flatB) = true from rfl), trivial⟩ ?_
            exact ⟨r7, (Option.some.inj h13).symm, rfl⟩
          · refine Tri.r1 [4] 0 [] [(1, .ov [.sc (.bool false)]), (4, .ov [.sc (.bool true)]), (7, .call (oB r3) [] false), (7, .ov [.sc (.bool false)]), (12, .ov [.sc (.bool false)])] [_, _, _, _, _, _] ⟨23, [(4, oB false)], [], 0, []⟩ (by kernel_rfl) ⟨(ovb (decide_eq_false h1)), (ovb (decide_eq_true h2)), (impl_within.fn k a1 0 1 r3 h4), (show (List.all [cB r3] PC.flatB) = true from rfl), (ovb h5), (ovb (decide_eq_false h6)), trivial⟩ ?_
            exact ⟨false, (Option.some.inj h13).symm, rfl⟩
      · rcases ite_some h13 with ⟨h9, h13⟩ | ⟨h9, h13⟩
        · obtain ⟨r10, h11, h13⟩ := bind_some' h13
          refine Tri.r1 [4] 0 [] [(1, .ov [.sc (.bool false)]), (4, .ov [.sc (.bool false)]), (12, .ov [.sc (.bool true)]), (15, .call (oB r10) [] false)] [_, _, _, _, _] ⟨23, [(4, oB r10)], [], 0, []⟩ (by kernel_rfl) ⟨(ovb (decide_eq_false h1)), (ovb (decide_eq_false h2)), (ovb (decide_eq_true h9)), (impl_CharOK.fn k a1 r10 h11), (show (List.all [cB r10] PC.flatB) = true from rfl), trivial⟩ ?_
          exact ⟨r10, (Option.some.inj h13).symm, rfl⟩
        · refine Tri.r1 [4] 0 [] [(1, .ov [.sc (.bool false)]), (4, .ov [.sc (.bool false)]), (12, .ov [.sc (.bool false)])] [_, _, _] ⟨23, [(4, oB false)], [], 0, []⟩ (by kernel_rfl) ⟨(ovb (decide_eq_false h1)), (ovb (decide_eq_false h2)), (ovb (decide_eq_false h9)), trivial⟩ ?_
          exact ⟨false, (Option.some.inj h13).symm, rfl⟩
/-! impl_isItem_1: function 108 -/
def impl_isItem_1.f (k : Nat) (a0 : S0) : Option Bool := (impl_isType.f k a0.f0).bind fun r1 => some r1
set_option maxRecDepth 100000 in
theorem impl_isItem_1.fn (k : Nat) (a0 : S0) (r : Bool) (H : impl_isItem_1.f k a0 = some r) : Fn Tryd.prog 108 [ag (eS0 a0)] [] (oB r) [] := by
  unfold impl_isItem_1.f at H
  refine Fn.body (ts := [2]) Tryd.func108 rfl rfl (by decide) (by decide) (Nat.le_of_ble_eq_true rfl) (Nat.le_refl _) ?_
  refine Tri.rn [1] 1 [] [] [] ⟨6, [(1, o1 (.ref 0 0))], [eS0 a0], 0, []⟩ (by kernel_rfl) trivial ?_
  obtain ⟨r1, h2, H⟩ := bind_some' H
  refine Tri.rn [2] 0 [] [(2, .call (oB r1) [] false)] [_, _] ⟨6, [(2, oB r1)], [], 0, []⟩ (by kernel_rfl) ⟨(impl_isType.fn k a0.f0 r1 h2), (show (List.all [cB r1] PC.flatB) = true from rfl), trivial⟩ ?_
  refine Tri.ret ?_
  obtain rfl := Option.some.inj H
  exact ⟨.inr rfl, rfl, rfl, Nat.le_refl _, rfl, by simp⟩
/-! impl_areAll_impl_Param__1_1: function 148 -/
def impl_areAll_impl_Param__1_1.f (k : Nat) (a0 : S0) : Option Bool := (impl_isItem_1.f k a0).bind fun r1 => some (!r1)
set_option maxRecDepth 100000 in
theorem impl_areAll_impl_Param__1_1.fn (k : Nat) (a0 : S0) (r : Bool) (H : impl_areAll_impl_Param__1_1.f k a0 = some r) : Fn Tryd.prog 148 [ag (eS0 a0), o1 (.cel ([.sc (.func (.func 108) #[] #[])]) 0)] [] (oB r) [] := by
  unfold impl_areAll_impl_Param__1_1.f at H
  refine Fn.body (ts := [3]) Tryd.func148 rfl rfl (by decide) (by decide) (Nat.le_of_ble_eq_true rfl) (Nat.le_refl _) ?_
  refine Tri.rn [1, 2] 1 [] [] [] ⟨8, [(1, o1 (.cel ([.sc (.func (.func 108) #[] #[])]) 0)), (2, o1 (.ref 0 0))], [eS0 a0], 0, []⟩ (by kernel_rfl) trivial ?_
  obtain ⟨r1, h2, H⟩ := bind_some' H
  refine Tri.rn [3] 0 [] [(2, .call (oB r1) [] false)] [_, _] ⟨8, [(3, oB (!r1))], [], 0, []⟩ (by kernel_rfl) ⟨(impl_isItem_1.fn k a0 r1 h2), (show (List.all [cB r1] PC.flatB) = true from rfl), trivial⟩ ?_
  refine Tri.ret ?_
  obtain rfl := Option.some.inj H
  exact ⟨.inr rfl, rfl, rfl, Nat.le_refl _, rfl, by simp⟩
/-! slices_IndexFunc___impl_Param_impl_Param_1: function 179 -/
def slices_IndexFunc___impl_Param_impl_Param_1.l1 : Nat → (List S0) → Int → Option (Int ⊕ Unit)
  | 0, _, _ => none
  | k + 1, a0, z7 => if z7 < (a0.length : Int) then ((at? a0 z7).bind fun x9 => (impl_areAll_impl_Param__1_1.f k x9).bind fun r11 => if r11 = true then (some (.inl z7)) else (slices_IndexFunc___impl_Param_impl_Param_1.l1 k a0 (w64 (z7 + 1)))) else (some (.inr ()))
def slices_IndexFunc___impl_Param_impl_Param_1.e2 (k : Nat) (a0 : (List S0)) : Option (Int ⊕ Unit) := slices_IndexFunc___impl_Param_impl_Param_1.l1 k a0 0
def slices_IndexFunc___impl_Param_impl_Param_1.f (k : Nat) (a0 : (List S0)) : Option Int := (slices_IndexFunc___impl_Param_impl_Param_1.e2 k a0).bind fun v => match v with | .inl r => some r | .inr _ => some (-1)
set_option maxRecDepth 100000 in
theorem slices_IndexFunc___impl_Param_impl_Param_1.fn (k : Nat) (a0 : (List S0)) (r : Int) (H : slices_IndexFunc___impl_Param_impl_Param_1.f k a0 = some r) : Fn Tryd.prog 179 [o1 (.sl 2 (List.map eS0 a0)), o1 (.fn 148 [.cel ([.sc (.func (.func 108) #[] #[])]) 0])] [] (oI r) [] := by
  unfold slices_IndexFunc___impl_Param_impl_Param_1.f at H
  refine Fn.body (ts := [4]) Tryd.func179 rfl rfl (by decide) (by decide) (Nat.le_of_ble_eq_true rfl) (Nat.le_refl _) ?_
  refine Tri.rn [0, 1] 0 [] [] [] ⟨19, [(0, o1 (.sl 2 (List.map eS0 a0))), (1, o1 (.fn 148 [.cel ([.sc (.func (.func 108) #[] #[])]) 0]))], [], 0, []⟩ (by kernel_rfl) trivial ?_
  obtain ⟨v16, h15, H⟩ := bind_some' H
  refine Tri.join (α := Unit) (fun w => v16 = .inr w) (fun _ => ⟨19, [], [], 0, []⟩) (fun w hw => ?_) ?_
  · rw [hw] at H; clear hw
    try dsimp only at H
    refine Tri.rn [4] 0 [] [] [] ⟨19, [(4, oI (-1))], [], 0, []⟩ (by kernel_rfl) trivial ?_
    refine Tri.ret ?_
    obtain rfl := Option.some.inj H
    exact ⟨.inr rfl, rfl, rfl, Nat.le_refl _, rfl, by simp⟩
  · unfold slices_IndexFunc___impl_Param_impl_Param_1.e2 at h15
    refine Tri.rn [0, 1, 7, 8] 0 [] [(1, .ov [.sc (.int .i64 (a0.length : Int))])] [_] ⟨19, [(0, o1 (.sl 2 (List.map eS0 a0))), (1, o1 (.fn 148 [.cel ([.sc (.func (.func 108) #[] #[])]) 0])), (7, oI (a0.length : Int)), (8, oI 0)], [], 0, []⟩ (by kernel_rfl) ⟨(ovlen (f := eS0) (l := a0)), trivial⟩ ?_
    refine Tri.block ?_
    refine Tri.loop k (TriR.ind (α := Int) (fun k x => slices_IndexFunc___impl_Param_impl_Param_1.l1 k a0 x) (fun x => ⟨19, [(0, o1 (.sl 2 (List.map eS0 a0))), (1, o1 (.fn 148 [.cel ([.sc (.func (.func 108) #[] #[])]) 0])), (7, oI (a0.length : Int)), (8, oI x)], [], 0, []⟩) (fun _ => rfl) (fun k z7 h15 IH14 => ?_) k 0 h15)
    rw [slices_IndexFunc___impl_Param_impl_Param_1.l1.eq_2] at h15
    refine Tri.rn [0, 1, 7, 8, 9] 0 [] [] [] ⟨19, [(0, o1 (.sl 2 (List.map eS0 a0))), (1, o1 (.fn 148 [.cel ([.sc (.func (.func 108) #[] #[])]) 0])), (7, oI (a0.length : Int)), (8, oI z7), (9, oB (decide (z7 < (a0.length : Int))))], [], 0, []⟩ (by kernel_rfl) trivial ?_
    refine Tri.seq ?_
    rcases ite_some h15 with ⟨h8, h15⟩ | ⟨h8, h15⟩
    · refine Tri.cond_true (useb (decide_eq_true h8) (by kernel_rfl)) ?_
      refine Tri.skip ?_
      refine Tri.seq ?_
      refine Tri.block ?_
      refine Tri.rn [0, 1, 5, 7, 8] 0 [] [] [] ⟨19, [(0, o1 (.sl 2 (List.map eS0 a0))), (1, o1 (.fn 148 [.cel ([.sc (.func (.func 108) #[] #[])]) 0])), (5, oI z7), (7, oI (a0.length : Int)), (8, oI z7)], [], 0, []⟩ (by kernel_rfl) trivial ?_
      obtain ⟨x9, h10, h15⟩ := bind_some' h15
      obtain ⟨r11, h12, h15⟩ := bind_some' h15
      refine Tri.rn [0, 1, 5, 7, 8, 16] 0 [] [(3, .el (eS0 x9)), (5, .call (oB r11) [] false)] [_, _, _, _] ⟨19, [(0, o1 (.sl 2 (List.map eS0 a0))), (1, o1 (.fn 148 [.cel ([.sc (.func (.func 108) #[] #[])]) 0])), (5, oI z7), (7, oI (a0.length : Int)), (8, oI z7), (16, oB r11)], [], 0, []⟩ (by kernel_rfl) ⟨(at?_0 h10), (at?_map (f := eS0) h10), (impl_areAll_impl_Param__1_1.fn k x9 r11 h12), (show (List.all [cB r11] PC.flatB) = true from rfl), trivial⟩ ?_
      rcases iteb_some h15 with ⟨h13, h15⟩ | ⟨h13, h15⟩
      · refine Tri.cond_true (useb h13 (by kernel_rfl)) ?_
        refine Tri.rn [4] 0 [] [] [] ⟨19, [(4, oI z7)], [], 0, []⟩ (by kernel_rfl) trivial ?_
        refine Tri.ret ?_
        obtain rfl := Option.some.inj h15
        try dsimp only at H
        obtain rfl := Option.some.inj H
        exact ⟨.inr rfl, rfl, rfl, Nat.le_refl _, rfl, by simp⟩
      · refine Tri.cond_false (useb h13 (by kernel_rfl)) ?_
        refine Tri.skip ?_
        refine Tri.r1 [0, 1, 7, 8] 0 [] [] [] ⟨19, [(0, o1 (.sl 2 (List.map eS0 a0))), (1, o1 (.fn 148 [.cel ([.sc (.func (.func 108) #[] #[])]) 0])), (7, oI (a0.length : Int)), (8, oI (w64 (z7 + 1)))], [], 0, []⟩ (by kernel_rfl) trivial ?_
        exact IH14 _ (w64 (z7 + 1)) (Nat.le_refl _) h15
    · refine Tri.cond_false (useb (decide_eq_false h8) (by kernel_rfl)) ?_
      refine Tri.fix [] 0 [] ⟨19, [], [], 0, []⟩ (by kernel_rfl) ?_
      refine Tri.exit ?_
      repeat (with_reducible refine Ex.exit ?_)
      refine Bk.here ?_
      exact ⟨(), (Option.some.inj h15).symm, rfl⟩
/-! slices_ContainsFunc___impl_Param_impl_Param_1: function 147 -/
def slices_ContainsFunc___impl_Param_impl_Param_1.f (k : Nat) (a0 : (List S0)) : Option Bool := (slices_IndexFunc___impl_Param_impl_Param_1.f k a0).bind fun r1 => some (decide ((0 : Int) ≤ r1))
set_option maxRecDepth 100000 in
theorem slices_ContainsFunc___impl_Param_impl_Param_1.fn (k : Nat) (a0 : (List S0)) (r : Bool) (H : slices_ContainsFunc___impl_Param_impl_Param_1.f k a0 = some r) : Fn Tryd.prog 147 [o1 (.sl 2 (List.map eS0 a0)), o1 (.fn 148 [.cel ([.sc (.func (.func 108) #[] #[])]) 0])] [] (oB r) [] := by
  unfold slices_ContainsFunc___impl_Param_impl_Param_1.f at H
  refine Fn.body (ts := [4]) Tryd.func147 rfl rfl (by decide) (by decide) (Nat.le_of_ble_eq_true rfl) (Nat.le_refl _) ?_
  refine Tri.rn [0, 1] 0 [] [] [] ⟨9, [(0, o1 (.sl 2 (List.map eS0 a0))), (1, o1 (.fn 148 [.cel ([.sc (.func (.func 108) #[] #[])]) 0]))], [], 0, []⟩ (by kernel_rfl) trivial ?_
  obtain ⟨r1, h2, H⟩ := bind_some' H
  refine Tri.rn [4] 0 [] [(2, .call (oI r1) [] false)] [_, _] ⟨9, [(4, oB (decide ((0 : Int) ≤ r1)))], [], 0, []⟩ (by kernel_rfl) ⟨(slices_IndexFunc___impl_Param_impl_Param_1.fn k a0 r1 h2), (show (List.all [cI r1] PC.flatB) = true from rfl), trivial⟩ ?_
  refine Tri.ret ?_
  obtain rfl := Option.some.inj H
  exact ⟨.inr rfl, rfl, rfl, Nat.le_refl _, rfl, by simp⟩
/-! impl_areAll_impl_Param_1: function 107 -/
def impl_areAll_impl_Param_1.f (k : Nat) (a0 : (List S0)) : Option Bool := (slices_ContainsFunc___impl_Param_impl_Param_1.f k a0).bind fun r1 => some (!r1)
set_option maxRecDepth 100000 in
theorem impl_areAll_impl_Param_1.fn (k : Nat) (a0 : (List S0)) (r : Bool) (H : impl_areAll_impl_Param_1.f k a0 = some r) : Fn Tryd.prog 107 [o1 (.sl 2 (List.map eS0 a0)), o1 (.sc (.func (.func 108) #[] #[]))] [] (oB r) [] := by
  unfold impl_areAll_impl_Param_1.f at H
  refine Fn.body (ts := [4]) Tryd.func107 rfl rfl (by decide) (by decide) (Nat.le_of_ble_eq_true rfl) (Nat.le_refl _) ?_
  refine Tri.rn [0, 3] 1 [] [] [] ⟨9, [(0, o1 (.sl 2 (List.map eS0 a0))), (3, o1 (.ref 0 0))], [[.sc (.func (.func 108) #[] #[])]], 0, []⟩ (by kernel_rfl) trivial ?_
  obtain ⟨r1, h2, H⟩ := bind_some' H
  refine Tri.rn [4] 0 [] [(2, .call (oB r1) [] false)] [_, _] ⟨9, [(4, oB (!r1))], [], 0, []⟩ (by kernel_rfl) ⟨(slices_ContainsFunc___impl_Param_impl_Param_1.fn k a0 r1 h2), (show (List.all [cB r1] PC.flatB) = true from rfl), trivial⟩ ?_
  refine Tri.ret ?_
  obtain rfl := Option.some.inj H
  exact ⟨.inr rfl, rfl, rfl, Nat.le_refl _, rfl, by simp⟩
/-! impl_isItem: function 48 -/
def impl_isItem.e1 (k : Nat) (a0 : S1) : Option Bool := (impl_isName.f k a0.f4).bind fun r1 => if r1 = true then (if a0.f0 = 1 then (if a0.f0 = 2 then (if a0.f0 = 3 then (some false) else (some (decide ((0 : Int) < (a0.f5.length : Int))))) else (if a0.f2 = 0 then (if a0.f0 = 3 then (some false) else (some (decide ((0 : Int) < (a0.f5.length : Int))))) else (some true))) else (if a0.f3 = 0 then (if a0.f0 = 2 then (if a0.f0 = 3 then (some false) else (some (decide ((0 : Int) < (a0.f5.length : Int))))) else (if a0.f2 = 0 then (if a0.f0 = 3 then (some false) else (some (decide ((0 : Int) < (a0.f5.length : Int))))) else (some true))) else (some true))) else (some true)
def impl_isItem.e2 (k : Nat) (a0 : S1) : Option Bool := (impl_isType.f k a0.f1).bind fun r19 => if r19 = true then ((impl_isValueOf.f k a0.f1 a0.f3).bind fun r22 => some r22) else (some false)
def impl_isItem.e3 (k : Nat) (a0 : S1) : Option Bool := (impl_isType.f k a0.f1).bind fun r28 => if r28 = true then ((impl_within.f k a0.f2 0 100).bind fun r31 => some r31) else (some false)
def impl_isItem.e4 (k : Nat) (a0 : S1) : Option Bool := (impl_within.f k a0.f1 0 3).bind fun r37 => if r37 = true then (if (a0.f5.length : Int) ≤ 20 then ((impl_areAll_impl_Param_1.f k a0.f5).bind fun r41 => some r41) else (some false)) else (some false)
def impl_isItem.f (k : Nat) (a0 : S1) : Option Bool := (impl_isItem.e1 k a0).bind fun y14 => if y14 = true then (some false) else (if a0.f0 = 1 then ((impl_isItem.e2 k a0).bind fun y24 => some y24) else (if a0.f0 = 2 then ((impl_isItem.e3 k a0).bind fun y33 => some y33) else (if a0.f0 = 3 then ((impl_isItem.e4 k a0).bind fun y43 => some y43) else (some false))))
set_option maxRecDepth 100000 in
theorem impl_isItem.fn (k : Nat) (a0 : S1) (r : Bool) (H : impl_isItem.f k a0 = some r) : Fn Tryd.prog 48 [ag (eS1 a0)] [] (oB r) [] := by
  unfold impl_isItem.f at H
  refine Fn.body (ts := [2]) Tryd.func48 rfl rfl (by decide) (by decide) (Nat.le_of_ble_eq_true rfl) (Nat.le_refl _) ?_
  refine Tri.rn [1] 1 [] [] [] ⟨78, [(1, o1 (.ref 0 0))], [eS1 a0], 0, []⟩ (by kernel_rfl) trivial ?_
  refine Tri.seq ?_
  obtain ⟨v16, h15, H⟩ := bind_some' H
  refine Tri.join (α := Bool) (fun w => v16 = w) (fun y14 => ⟨78, [(1, o1 (.ref 0 0)), (37, oB y14)], [eS1 a0], 0, []⟩) (fun y14 hw => ?_) ?_
  · rw [hw] at H; clear hw
    try dsimp only at H
    rcases iteb_some H with ⟨h17, H⟩ | ⟨h17, H⟩
    · refine Tri.cond_true (useb h17 (by kernel_rfl)) ?_
      refine Tri.rn [2] 0 [] [] [] ⟨78, [(2, oB false)], [], 0, []⟩ (by kernel_rfl) trivial ?_
      refine Tri.ret ?_
      obtain rfl := Option.some.inj H
      exact ⟨.inr rfl, rfl, rfl, Nat.le_refl _, rfl, by simp⟩
    · refine Tri.cond_false (useb h17 (by kernel_rfl)) ?_
      refine Tri.skip ?_
      refine Tri.seq ?_
      refine Tri.rn [1, 39] 1 [] [] [] ⟨78, [(1, o1 (.ref 0 0)), (39, oI a0.f0)], [eS1 a0], 0, []⟩ (by kernel_rfl) trivial ?_
      refine Tri.block ?_
      refine Tri.rn [1, 39, 40] 1 [] [] [] ⟨78, [(1, o1 (.ref 0 0)), (39, oI a0.f0), (40, oB (decide (a0.f0 = 1)))], [eS1 a0], 0, []⟩ (by kernel_rfl) trivial ?_
      rcases ite_some H with ⟨h18, H⟩ | ⟨h18, H⟩
      · refine Tri.cond_true (useb (decide_eq_true h18) (by kernel_rfl)) ?_
        obtain ⟨v26, h25, H⟩ := bind_some' H
        refine Tri.join (α := Bool) (fun w => v26 = w) (fun y24 => ⟨78, [(2, oB y24)], [], 0, []⟩) (fun y24 hw => ?_) ?_
        · rw [hw] at H; clear hw
          try dsimp only at H
          refine Tri.ret ?_
          obtain rfl := Option.some.inj H
          exact ⟨.inr rfl, rfl, rfl, Nat.le_refl _, rfl, by simp⟩
        · unfold impl_isItem.e2 at h25
          obtain ⟨r19, h20, h25⟩ := bind_some' h25
          rcases iteb_some h25 with ⟨h21, h25⟩ | ⟨h21, h25⟩
          · obtain ⟨r22, h23, h25⟩ := bind_some' h25
            refine Tri.r1 [2] 0 [] [(2, .call (oB r19) [] false), (2, .ov [.sc (.bool true)]), (8, .call (oB r22) [] false)] [_, _, _, _, _] ⟨78, [(2, oB r22)], [], 0, []⟩ (by kernel_rfl) ⟨(impl_isType.fn k a0.f1 r19 h20), (show (List.all [cB r19] PC.flatB) = true from rfl), (ovb h21), (impl_isValueOf.fn k a0.f1 a0.f3 r22 h23), (show (List.all [cB r22] PC.flatB) = true from rfl), trivial⟩ ?_
            exact ⟨r22, (Option.some.inj h25).symm, rfl⟩
          · refine Tri.r1 [2] 0 [] [(2, .call (oB r19) [] false), (2, .ov [.sc (.bool false)])] [_, _, _] ⟨78, [(2, oB false)], [], 0, []⟩ (by kernel_rfl) ⟨(impl_isType.fn k a0.f1 r19 h20), (show (List.all [cB r19] PC.flatB) = true from rfl), (ovb h21), trivial⟩ ?_
            exact ⟨false, (Option.some.inj h25).symm, rfl⟩
      · refine Tri.cond_false (useb (decide_eq_false h18) (by kernel_rfl)) ?_
        refine Tri.rn [1, 39, 52] 1 [] [] [] ⟨78, [(1, o1 (.ref 0 0)), (39, oI a0.f0), (52, oB (decide (a0.f0 = 2)))], [eS1 a0], 0, []⟩ (by kernel_rfl) trivial ?_
        rcases ite_some H with ⟨h27, H⟩ | ⟨h27, H⟩
        · refine Tri.cond_true (useb (decide_eq_true h27) (by kernel_rfl)) ?_
          obtain ⟨v35, h34, H⟩ := bind_some' H
          refine Tri.join (α := Bool) (fun w => v35 = w) (fun y33 => ⟨78, [(2, oB y33)], [], 0, []⟩) (fun y33 hw => ?_) ?_
          · rw [hw] at H; clear hw
            try dsimp only at H
            refine Tri.ret ?_
            obtain rfl := Option.some.inj H
            exact ⟨.inr rfl, rfl, rfl, Nat.le_refl _, rfl, by simp⟩
          · unfold impl_isItem.e3 at h34
            obtain ⟨r28, h29, h34⟩ := bind_some' h34
            rcases iteb_some h34 with ⟨h30, h34⟩ | ⟨h30, h34⟩
            · obtain ⟨r31, h32, h34⟩ := bind_some' h34
              refine Tri.r1 [2] 0 [] [(2, .call (oB r28) [] false), (2, .ov [.sc (.bool true)]), (6, .call (oB r31) [] false)] [_, _, _, _, _] ⟨78, [(2, oB r31)], [], 0, []⟩ (by kernel_rfl) ⟨(impl_isType.fn k a0.f1 r28 h29), (show (List.all [cB r28] PC.flatB) = true from rfl), (ovb h30), (impl_within.fn k a0.f2 0 100 r31 h32), (show (List.all [cB r31] PC.flatB) = true from rfl), trivial⟩ ?_
              exact ⟨r31, (Option.some.inj h34).symm, rfl⟩
            · refine Tri.r1 [2] 0 [] [(2, .call (oB r28) [] false), (2, .ov [.sc (.bool false)])] [_, _, _] ⟨78, [(2, oB false)], [], 0, []⟩ (by kernel_rfl) ⟨(impl_isType.fn k a0.f1 r28 h29), (show (List.all [cB r28] PC.flatB) = true from rfl), (ovb h30), trivial⟩ ?_
              exact ⟨false, (Option.some.inj h34).symm, rfl⟩
        · refine Tri.cond_false (useb (decide_eq_false h27) (by kernel_rfl)) ?_
          refine Tri.rn [1, 62] 1 [] [] [] ⟨78, [(1, o1 (.ref 0 0)), (62, oB (decide (a0.f0 = 3)))], [eS1 a0], 0, []⟩ (by kernel_rfl) trivial ?_
          rcases ite_some H with ⟨h36, H⟩ | ⟨h36, H⟩
          · refine Tri.cond_true (useb (decide_eq_true h36) (by kernel_rfl)) ?_
            obtain ⟨v45, h44, H⟩ := bind_some' H
            refine Tri.join (α := Bool) (fun w => v45 = w) (fun y43 => ⟨78, [(2, oB y43)], [], 0, []⟩) (fun y43 hw => ?_) ?_
            · rw [hw] at H; clear hw
              try dsimp only at H
              refine Tri.ret ?_
              obtain rfl := Option.some.inj H
              exact ⟨.inr rfl, rfl, rfl, Nat.le_refl _, rfl, by simp⟩
            · unfold impl_isItem.e4 at h44
              obtain ⟨r37, h38, h44⟩ := bind_some' h44
              rcases iteb_some h44 with ⟨h39, h44⟩ | ⟨h39, h44⟩
              · rcases ite_some h44 with ⟨h40, h44⟩ | ⟨h40, h44⟩
                · obtain ⟨r41, h42, h44⟩ := bind_some' h44
                  refine Tri.r1 [2] 0 [] [(2, .call (oB r37) [] false), (2, .ov [.sc (.bool true)]), (6, .ov [.sc (.int .i64 (a0.f5.length : Int))]), (7, .ov [.sc (.bool true)]), (12, .call (oB r41) [] false)] [_, _, _, _, _, _, _] ⟨78, [(2, oB r41)], [], 0, []⟩ (by kernel_rfl) ⟨(impl_within.fn k a0.f1 0 3 r37 h38), (show (List.all [cB r37] PC.flatB) = true from rfl), (ovb h39), (ovlen (f := eS0) (l := a0.f5)), (ovb (decide_eq_true h40)), (impl_areAll_impl_Param_1.fn k a0.f5 r41 h42), (show (List.all [cB r41] PC.flatB) = true from rfl), trivial⟩ ?_
                  exact ⟨r41, (Option.some.inj h44).symm, rfl⟩
                · refine Tri.r1 [2] 0 [] [(2, .call (oB r37) [] false), (2, .ov [.sc (.bool true)]), (6, .ov [.sc (.int .i64 (a0.f5.length : Int))]), (7, .ov [.sc (.bool false)])] [_, _, _, _, _] ⟨78, [(2, oB false)], [], 0, []⟩ (by kernel_rfl) ⟨(impl_within.fn k a0.f1 0 3 r37 h38), (show (List.all [cB r37] PC.flatB) = true from rfl), (ovb h39), (ovlen (f := eS0) (l := a0.f5)), (ovb (decide_eq_false h40)), trivial⟩ ?_
                  exact ⟨false, (Option.some.inj h44).symm, rfl⟩
              · refine Tri.r1 [2] 0 [] [(2, .call (oB r37) [] false), (2, .ov [.sc (.bool false)])] [_, _, _] ⟨78, [(2, oB false)], [], 0, []⟩ (by kernel_rfl) ⟨(impl_within.fn k a0.f1 0 3 r37 h38), (show (List.all [cB r37] PC.flatB) = true from rfl), (ovb h39), trivial⟩ ?_
                exact ⟨false, (Option.some.inj h44).symm, rfl⟩
          · refine Tri.cond_false (useb (decide_eq_false h36) (by kernel_rfl)) ?_
            refine Tri.skip ?_
            refine Tri.rn [2] 0 [] [] [] ⟨78, [(2, oB false)], [], 0, []⟩ (by kernel_rfl) trivial ?_
            refine Tri.ret ?_
            obtain rfl := Option.some.inj H
            exact ⟨.inr rfl, rfl, rfl, Nat.le_refl _, rfl, by simp⟩
  · unfold impl_isItem.e1 at h15
    obtain ⟨r1, h2, h15⟩ := bind_some' h15
    rcases iteb_some h15 with ⟨h3, h15⟩ | ⟨h3, h15⟩
    · rcases ite_some h15 with ⟨h4, h15⟩ | ⟨h4, h15⟩
      · rcases ite_some h15 with ⟨h5, h15⟩ | ⟨h5, h15⟩
        · rcases ite_some h15 with ⟨h6, h15⟩ | ⟨h6, h15⟩
          · refine Tri.r1 [1, 37] 1 [] [(2, .call (oB r1) [] false), (2, .ov [.sc (.bool true)]), (7, .ov [.sc (.bool false)]), (17, .ov [.sc (.bool false)]), (27, .ov [.sc (.bool false)])] [_, _, _, _, _, _] ⟨78, [(1, o1 (.ref 0 0)), (37, oB false)], [eS1 a0], 0, []⟩ (by kernel_rfl) ⟨(impl_isName.fn k a0.f4 r1 h2), (show (List.all [cB r1] PC.flatB) = true from rfl), (ovb h3), (ovb (nF (decide_eq_true h4))), (ovb (nF (decide_eq_true h5))), (ovb (nF (decide_eq_true h6))), trivial⟩ ?_
            exact ⟨false, (Option.some.inj h15).symm, rfl⟩
          · refine Tri.r1 [1, 37] 1 [] [(2, .call (oB r1) [] false), (2, .ov [.sc (.bool true)]), (7, .ov [.sc (.bool false)]), (17, .ov [.sc (.bool false)]), (27, .ov [.sc (.bool true)]), (31, .ov [.sc (.int .i64 (a0.f5.length : Int))])] [_, _, _, _, _, _, _] ⟨78, [(1, o1 (.ref 0 0)), (37, oB (decide ((0 : Int) < (a0.f5.length : Int))))], [eS1 a0], 0, []⟩ (by kernel_rfl) ⟨(impl_isName.fn k a0.f4 r1 h2), (show (List.all [cB r1] PC.flatB) = true from rfl), (ovb h3), (ovb (nF (decide_eq_true h4))), (ovb (nF (decide_eq_true h5))), (ovb (nT (decide_eq_false h6))), (ovlen (f := eS0) (l := a0.f5)), trivial⟩ ?_
            exact ⟨(decide ((0 : Int) < (a0.f5.length : Int))), (Option.some.inj h15).symm, rfl⟩
        · rcases ite_some h15 with ⟨h7, h15⟩ | ⟨h7, h15⟩
          · rcases ite_some h15 with ⟨h8, h15⟩ | ⟨h8, h15⟩
            · refine Tri.r1 [1, 37] 1 [] [(2, .call (oB r1) [] false), (2, .ov [.sc (.bool true)]), (7, .ov [.sc (.bool false)]), (17, .ov [.sc (.bool true)]), (21, .ov [.sc (.bool false)]), (27, .ov [.sc (.bool false)])] [_, _, _, _, _, _, _] ⟨78, [(1, o1 (.ref 0 0)), (37, oB false)], [eS1 a0], 0, []⟩ (by kernel_rfl) ⟨(impl_isName.fn k a0.f4 r1 h2), (show (List.all [cB r1] PC.flatB) = true from rfl), (ovb h3), (ovb (nF (decide_eq_true h4))), (ovb (nT (decide_eq_false h5))), (ovb (nF (decide_eq_true h7))), (ovb (nF (decide_eq_true h8))), trivial⟩ ?_
              exact ⟨false, (Option.some.inj h15).symm, rfl⟩
            · refine Tri.r1 [1, 37] 1 [] [(2, .call (oB r1) [] false), (2, .ov [.sc (.bool true)]), (7, .ov [.sc (.bool false)]), (17, .ov [.sc (.bool true)]), (21, .ov [.sc (.bool false)]), (27, .ov [.sc (.bool true)]), (31, .ov [.sc (.int .i64 (a0.f5.length : Int))])] [_, _, _, _, _, _, _, _] ⟨78, [(1, o1 (.ref 0 0)), (37, oB (decide ((0 : Int) < (a0.f5.length : Int))))], [eS1 a0], 0, []⟩ (by kernel_rfl) ⟨(impl_isName.fn k a0.f4 r1 h2), (show (List.all [cB r1] PC.flatB) = true from rfl), (ovb h3), (ovb (nF (decide_eq_true h4))), (ovb (nT (decide_eq_false h5))), (ovb (nF (decide_eq_true h7))), (ovb (nT (decide_eq_false h8))), (ovlen (f := eS0) (l := a0.f5)), trivial⟩ ?_
              exact ⟨(decide ((0 : Int) < (a0.f5.length : Int))), (Option.some.inj h15).symm, rfl⟩
          · refine Tri.r1 [1, 37] 1 [] [(2, .call (oB r1) [] false), (2, .ov [.sc (.bool true)]), (7, .ov [.sc (.bool false)]), (17, .ov [.sc (.bool true)]), (21, .ov [.sc (.bool true)])] [_, _, _, _, _, _] ⟨78, [(1, o1 (.ref 0 0)), (37, oB true)], [eS1 a0], 0, []⟩ (by kernel_rfl) ⟨(impl_isName.fn k a0.f4 r1 h2), (show (List.all [cB r1] PC.flatB) = true from rfl), (ovb h3), (ovb (nF (decide_eq_true h4))), (ovb (nT (decide_eq_false h5))), (ovb (nT (decide_eq_false h7))), trivial⟩ ?_
            exact ⟨true, (Option.some.inj h15).symm, rfl⟩
      · rcases ite_some h15 with ⟨h9, h15⟩ | ⟨h9, h15⟩
        · rcases ite_some h15 with ⟨h10, h15⟩ | ⟨h10, h15⟩
          · rcases ite_some h15 with ⟨h11, h15⟩ | ⟨h11, h15⟩
            · refine Tri.r1 [1, 37] 1 [] [(2, .call (oB r1) [] false), (2, .ov [.sc (.bool true)]), (7, .ov [.sc (.bool true)]), (11, .ov [.sc (.bool false)]), (17, .ov [.sc (.bool false)]), (27, .ov [.sc (.bool false)])] [_, _, _, _, _, _, _] ⟨78, [(1, o1 (.ref 0 0)), (37, oB false)], [eS1 a0], 0, []⟩ (by kernel_rfl) ⟨(impl_isName.fn k a0.f4 r1 h2), (show (List.all [cB r1] PC.flatB) = true from rfl), (ovb h3), (ovb (nT (decide_eq_false h4))), (ovb (nF (decide_eq_true h9))), (ovb (nF (decide_eq_true h10))), (ovb (nF (decide_eq_true h11))), trivial⟩ ?_
              exact ⟨false, (Option.some.inj h15).symm, rfl⟩
            · refine Tri.r1 [1, 37] 1 [] [(2, .call (oB r1) [] false), (2, .ov [.sc (.bool true)]), (7, .ov [.sc (.bool true)]), (11, .ov [.sc (.bool false)]), (17, .ov [.sc (.bool false)]), (27, .ov [.sc (.bool true)]), (31, .ov [.sc (.int .i64 (a0.f5.length : Int))])] [_, _, _, _, _, _, _, _] ⟨78, [(1, o1 (.ref 0 0)), (37, oB (decide ((0 : Int) < (a0.f5.length : Int))))], [eS1 a0], 0, []⟩ (by kernel_rfl) ⟨(impl_isName.fn k a0.f4 r1 h2), (show (List.all [cB r1] PC.flatB) = true from rfl), (ovb h3), (ovb (nT (decide_eq_false h4))), (ovb (nF (decide_eq_true h9))), (ovb (nF (decide_eq_true h10))), (ovb (nT (decide_eq_false h11))), (ovlen (f := eS0) (l := a0.f5)), trivial⟩ ?_
              exact ⟨(decide ((0 : Int) < (a0.f5.length : Int))), (Option.some.inj h15).symm, rfl⟩
          · rcases ite_some h15 with ⟨h12, h15⟩ | ⟨h12, h15⟩
            · rcases ite_some h15 with ⟨h13, h15⟩ | ⟨h13, h15⟩
              · refine Tri.r1 [1, 37] 1 [] [(2, .call (oB r1) [] false), (2, .ov [.sc (.bool true)]), (7, .ov [.sc (.bool true)]), (11, .ov [.sc (.bool false)]), (17, .ov [.sc (.bool true)]), (21, .ov [.sc (.bool false)]), (27, .ov [.sc (.bool false)])] [_, _, _, _, _, _, _, _] ⟨78, [(1, o1 (.ref 0 0)), (37, oB false)], [eS1 a0], 0, []⟩ (by kernel_rfl) ⟨(impl_isName.fn k a0.f4 r1 h2), (show (List.all [cB r1] PC.flatB) = true from rfl), (ovb h3), (ovb (nT (decide_eq_false h4))), (ovb (nF (decide_eq_true h9))), (ovb (nT (decide_eq_false h10))), (ovb (nF (decide_eq_true h12))), (ovb (nF (decide_eq_true h13))), trivial⟩ ?_
                exact ⟨false, (Option.some.inj h15).symm, rfl⟩
              · refine Tri.r1 [1, 37] 1 [] [(2, .call (oB r1) [] false), (2, .ov [.sc (.bool true)]), (7, .ov [.sc (.bool true)]), (11, .ov [.sc (.bool false)]), (17, .ov [.sc (.bool true)]), (21, .ov [.sc (.bool false)]), (27, .ov [.sc (.bool true)]), (31, .ov [.sc (.int .i64 (a0.f5.length : Int))])] [_, _, _, _, _, _, _, _, _] ⟨78, [(1, o1 (.ref 0 0)), (37, oB (decide ((0 : Int) < (a0.f5.length : Int))))], [eS1 a0], 0, []⟩ (by kernel_rfl) ⟨(impl_isName.fn k a0.f4 r1 h2), (show (List.all [cB r1] PC.flatB) = true from rfl), (ovb h3), (ovb (nT (decide_eq_false h4))), (ovb (nF (decide_eq_true h9))), (ovb (nT (decide_eq_false h10))), (ovb (nF (decide_eq_true h12))), (ovb (nT (decide_eq_false h13))), (ovlen (f := eS0) (l := a0.f5)), trivial⟩ ?_
                exact ⟨(decide ((0 : Int) < (a0.f5.length : Int))), (Option.some.inj h15).symm, rfl⟩
            · refine Tri.r1 [1, 37] 1 [] [(2, .call (oB r1) [] false), (2, .ov [.sc (.bool true)]), (7, .ov [.sc (.bool true)]), (11, .ov [.sc (.bool false)]), (17, .ov [.sc (.bool true)]), (21, .ov [.sc (.bool true)])] [_, _, _, _, _, _, _] ⟨78, [(1, o1 (.ref 0 0)), (37, oB true)], [eS1 a0], 0, []⟩ (by kernel_rfl) ⟨(impl_isName.fn k a0.f4 r1 h2), (show (List.all [cB r1] PC.flatB) = true from rfl), (ovb h3), (ovb (nT (decide_eq_false h4))), (ovb (nF (decide_eq_true h9))), (ovb (nT (decide_eq_false h10))), (ovb (nT (decide_eq_false h12))), trivial⟩ ?_
              exact ⟨true, (Option.some.inj h15).symm, rfl⟩
        · refine Tri.r1 [1, 37] 1 [] [(2, .call (oB r1) [] false), (2, .ov [.sc (.bool true)]), (7, .ov [.sc (.bool true)]), (11, .ov [.sc (.bool true)])] [_, _, _, _, _] ⟨78, [(1, o1 (.ref 0 0)), (37, oB true)], [eS1 a0], 0, []⟩ (by kernel_rfl) ⟨(impl_isName.fn k a0.f4 r1 h2), (show (List.all [cB r1] PC.flatB) = true from rfl), (ovb h3), (ovb (nT (decide_eq_false h4))), (ovb (nT (decide_eq_false h9))), trivial⟩ ?_
          exact ⟨true, (Option.some.inj h15).symm, rfl⟩
    · refine Tri.r1 [1, 37] 1 [] [(2, .call (oB r1) [] false), (2, .ov [.sc (.bool false)])] [_, _, _] ⟨78, [(1, o1 (.ref 0 0)), (37, oB true)], [eS1 a0], 0, []⟩ (by kernel_rfl) ⟨(impl_isName.fn k a0.f4 r1 h2), (show (List.all [cB r1] PC.flatB) = true from rfl), (ovb h3), trivial⟩ ?_
      exact ⟨true, (Option.some.inj h15).symm, rfl⟩
/-! impl_areAll_impl_Item__1_1: function 104 -/
def impl_areAll_impl_Item__1_1.f (k : Nat) (a0 : S1) : Option Bool := (impl_isItem.f k a0).bind fun r1 => some (!r1)
set_option maxRecDepth 100000 in
theorem impl_areAll_impl_Item__1_1.fn (k : Nat) (a0 : S1) (r : Bool) (H : impl_areAll_impl_Item__1_1.f k a0 = some r) : Fn Tryd.prog 104 [ag (eS1 a0), o1 (.cel ([.sc (.func (.func 48) #[] #[])]) 0)] [] (oB r) [] := by
  unfold impl_areAll_impl_Item__1_1.f at H
  refine Fn.body (ts := [3]) Tryd.func104 rfl rfl (by decide) (by decide) (Nat.le_of_ble_eq_true rfl) (Nat.le_refl _) ?_
  refine Tri.rn [1, 2] 1 [] [] [] ⟨8, [(1, o1 (.cel ([.sc (.func (.func 48) #[] #[])]) 0)), (2, o1 (.ref 0 0))], [eS1 a0], 0, []⟩ (by kernel_rfl) trivial ?_
  obtain ⟨r1, h2, H⟩ := bind_some' H
  refine Tri.rn [3] 0 [] [(2, .call (oB r1) [] false)] [_, _] ⟨8, [(3, oB (!r1))], [], 0, []⟩ (by kernel_rfl) ⟨(impl_isItem.fn k a0 r1 h2), (show (List.all [cB r1] PC.flatB) = true from rfl), trivial⟩ ?_
  refine Tri.ret ?_
  obtain rfl := Option.some.inj H
  exact ⟨.inr rfl, rfl, rfl, Nat.le_refl _, rfl, by simp⟩
/-! slices_IndexFunc___impl_Item_impl_Item_1: function 145 -/
def slices_IndexFunc___impl_Item_impl_Item_1.l1 : Nat → (List S1) → Int → Option (Int ⊕ Unit)
  | 0, _, _ => none
  | k + 1, a0, z7 => if z7 < (a0.length : Int) then ((at? a0 z7).bind fun x9 => (impl_areAll_impl_Item__1_1.f k x9).bind fun r11 => if r11 = true then (some (.inl z7)) else (slices_IndexFunc___impl_Item_impl_Item_1.l1 k a0 (w64 (z7 + 1)))) else (some (.inr ()))
def slices_IndexFunc___impl_Item_impl_Item_1.e2 (k : Nat) (a0 : (List S1)) : Option (Int ⊕ Unit) := slices_IndexFunc___impl_Item_impl_Item_1.l1 k a0 0
def slices_IndexFunc___impl_Item_impl_Item_1.f (k : Nat) (a0 : (List S1)) : Option Int := (slices_IndexFunc___impl_Item_impl_Item_1.e2 k a0).bind fun v => match v with | .inl r => some r | .inr _ => some (-1)
set_option maxRecDepth 100000 in
theorem slices_IndexFunc___impl_Item_impl_Item_1.fn (k : Nat) (a0 : (List S1)) (r : Int) (H : slices_IndexFunc___impl_Item_impl_Item_1.f k a0 = some r) : Fn Tryd.prog 145 [o1 (.sl 6 (List.map eS1 a0)), o1 (.fn 104 [.cel ([.sc (.func (.func 48) #[] #[])]) 0])] [] (oI r) [] := by
  unfold slices_IndexFunc___impl_Item_impl_Item_1.f at H
  refine Fn.body (ts := [4]) Tryd.func145 rfl rfl (by decide) (by decide) (Nat.le_of_ble_eq_true rfl) (Nat.le_refl _) ?_
  refine Tri.rn [0, 1] 0 [] [] [] ⟨19, [(0, o1 (.sl 6 (List.map eS1 a0))), (1, o1 (.fn 104 [.cel ([.sc (.func (.func 48) #[] #[])]) 0]))], [], 0, []⟩ (by kernel_rfl) trivial ?_
  obtain ⟨v16, h15, H⟩ := bind_some' H
  refine Tri.join (α := Unit) (fun w => v16 = .inr w) (fun _ => ⟨19, [], [], 0, []⟩) (fun w hw => ?_) ?_
  · rw [hw] at H; clear hw
    try dsimp only at H
    refine Tri.rn [4] 0 [] [] [] ⟨19, [(4, oI (-1))], [], 0, []⟩ (by kernel_rfl) trivial ?_
    refine Tri.ret ?_
    obtain rfl := Option.some.inj H
    exact ⟨.inr rfl, rfl, rfl, Nat.le_refl _, rfl, by simp⟩
  · unfold slices_IndexFunc___impl_Item_impl_Item_1.e2 at h15
    refine Tri.rn [0, 1, 7, 8] 0 [] [(1, .ov [.sc (.int .i64 (a0.length : Int))])] [_] ⟨19, [(0, o1 (.sl 6 (List.map eS1 a0))), (1, o1 (.fn 104 [.cel ([.sc (.func (.func 48) #[] #[])]) 0])), (7, oI (a0.length : Int)), (8, oI 0)], [], 0, []⟩ (by kernel_rfl) ⟨(ovlen (f := eS1) (l := a0)), trivial⟩ ?_
    refine Tri.block ?_
    refine Tri.loop k (TriR.ind (α := Int) (fun k x => slices_IndexFunc___impl_Item_impl_Item_1.l1 k a0 x) (fun x => ⟨19, [(0, o1 (.sl 6 (List.map eS1 a0))), (1, o1 (.fn 104 [.cel ([.sc (.func (.func 48) #[] #[])]) 0])), (7, oI (a0.length : Int)), (8, oI x)], [], 0, []⟩) (fun _ => rfl) (fun k z7 h15 IH14 => ?_) k 0 h15)
    rw [slices_IndexFunc___impl_Item_impl_Item_1.l1.eq_2] at h15
    refine Tri.rn [0, 1, 7, 8, 9] 0 [] [] [] ⟨19, [(0, o1 (.sl 6 (List.map eS1 a0))), (1, o1 (.fn 104 [.cel ([.sc (.func (.func 48) #[] #[])]) 0])), (7, oI (a0.length : Int)), (8, oI z7), (9, oB (decide (z7 < (a0.length : Int))))], [], 0, []⟩ (by kernel_rfl) trivial ?_
    refine Tri.seq ?_
    rcases ite_some h15 with ⟨h8, h15⟩ | ⟨h8, h15⟩
    · refine Tri.cond_true (useb (decide_eq_true h8) (by kernel_rfl)) ?_
      refine Tri.skip ?_
      refine Tri.seq ?_
      refine Tri.block ?_
      refine Tri.rn [0, 1, 5, 7, 8] 0 [] [] [] ⟨19, [(0, o1 (.sl 6 (List.map eS1 a0))), (1, o1 (.fn 104 [.cel ([.sc (.func (.func 48) #[] #[])]) 0])), (5, oI z7), (7, oI (a0.length : Int)), (8, oI z7)], [], 0, []⟩ (by kernel_rfl) trivial ?_
      obtain ⟨x9, h10, h15⟩ := bind_some' h15
      obtain ⟨r11, h12, h15⟩ := bind_some' h15
      refine Tri.rn [0, 1, 5, 7, 8, 16] 0 [] [(3, .el (eS1 x9)), (5, .call (oB r11) [] false)] [_, _, _, _] ⟨19, [(0, o1 (.sl 6 (List.map eS1 a0))), (1, o1 (.fn 104 [.cel ([.sc (.func (.func 48) #[] #[])]) 0])), (5, oI z7), (7, oI (a0.length : Int)), (8, oI z7), (16, oB r11)], [], 0, []⟩ (by kernel_rfl) ⟨(at?_0 h10), (at?_map (f := eS1) h10), (impl_areAll_impl_Item__1_1.fn k x9 r11 h12), (show (List.all [cB r11] PC.flatB) = true from rfl), trivial⟩ ?_
      rcases iteb_some h15 with ⟨h13, h15⟩ | ⟨h13, h15⟩
      · refine Tri.cond_true (useb h13 (by kernel_rfl)) ?_
        refine Tri.rn [4] 0 [] [] [] ⟨19, [(4, oI z7)], [], 0, []⟩ (by kernel_rfl) trivial ?_
        refine Tri.ret ?_
        obtain rfl := Option.some.inj h15
        try dsimp only at H
        obtain rfl := Option.some.inj H
        exact ⟨.inr rfl, rfl, rfl, Nat.le_refl _, rfl, by simp⟩
      · refine Tri.cond_false (useb h13 (by kernel_rfl)) ?_
        refine Tri.skip ?_
        refine Tri.r1 [0, 1, 7, 8] 0 [] [] [] ⟨19, [(0, o1 (.sl 6 (List.map eS1 a0))), (1, o1 (.fn 104 [.cel ([.sc (.func (.func 48) #[] #[])]) 0])), (7, oI (a0.length : Int)), (8, oI (w64 (z7 + 1)))], [], 0, []⟩ (by kernel_rfl) trivial ?_
        exact IH14 _ (w64 (z7 + 1)) (Nat.le_refl _) h15
    · refine Tri.cond_false (useb (decide_eq_false h8) (by kernel_rfl)) ?_
      refine Tri.fix [] 0 [] ⟨19, [], [], 0, []⟩ (by kernel_rfl) ?_
      refine Tri.exit ?_
      repeat (with_reducible refine Ex.exit ?_)
      refine Bk.here ?_
      exact ⟨(), (Option.some.inj h15).symm, rfl⟩
/-! slices_ContainsFunc___impl_Item_impl_Item_1: function 103 -/
def slices_ContainsFunc___impl_Item_impl_Item_1.f (k : Nat) (a0 : (List S1)) : Option Bool := (slices_IndexFunc___impl_Item_impl_Item_1.f k a0).bind fun r1 => some (decide ((0 : Int) ≤ r1))
set_option maxRecDepth 100000 in
theorem slices_ContainsFunc___impl_Item_impl_Item_1.fn (k : Nat) (a0 : (List S1)) (r : Bool) (H : slices_ContainsFunc___impl_Item_impl_Item_1.f k a0 = some r) : Fn Tryd.prog 103 [o1 (.sl 6 (List.map eS1 a0)), o1 (.fn 104 [.cel ([.sc (.func (.func 48) #[] #[])]) 0])] [] (oB r) [] := by
  unfold slices_ContainsFunc___impl_Item_impl_Item_1.f at H
  refine Fn.body (ts := [4]) Tryd.func103 rfl rfl (by decide) (by decide) (Nat.le_of_ble_eq_true rfl) (Nat.le_refl _) ?_
  refine Tri.rn [0, 1] 0 [] [] [] ⟨9, [(0, o1 (.sl 6 (List.map eS1 a0))), (1, o1 (.fn 104 [.cel ([.sc (.func (.func 48) #[] #[])]) 0]))], [], 0, []⟩ (by kernel_rfl) trivial ?_
  obtain ⟨r1, h2, H⟩ := bind_some' H
  refine Tri.rn [4] 0 [] [(2, .call (oI r1) [] false)] [_, _] ⟨9, [(4, oB (decide ((0 : Int) ≤ r1)))], [], 0, []⟩ (by kernel_rfl) ⟨(slices_IndexFunc___impl_Item_impl_Item_1.fn k a0 r1 h2), (show (List.all [cI r1] PC.flatB) = true from rfl), trivial⟩ ?_
  refine Tri.ret ?_
  obtain rfl := Option.some.inj H
  exact ⟨.inr rfl, rfl, rfl, Nat.le_refl _, rfl, by simp⟩
/-! impl_areAll_impl_Item_1: function 47 -/
def impl_areAll_impl_Item_1.f (k : Nat) (a0 : (List S1)) : Option Bool := (slices_ContainsFunc___impl_Item_impl_Item_1.f k a0).bind fun r1 => some (!r1)
set_option maxRecDepth 100000 in
theorem impl_areAll_impl_Item_1.fn (k : Nat) (a0 : (List S1)) (r : Bool) (H : impl_areAll_impl_Item_1.f k a0 = some r) : Fn Tryd.prog 47 [o1 (.sl 6 (List.map eS1 a0)), o1 (.sc (.func (.func 48) #[] #[]))] [] (oB r) [] := by
  unfold impl_areAll_impl_Item_1.f at H
  refine Fn.body (ts := [4]) Tryd.func47 rfl rfl (by decide) (by decide) (Nat.le_of_ble_eq_true rfl) (Nat.le_refl _) ?_
  refine Tri.rn [0, 3] 1 [] [] [] ⟨9, [(0, o1 (.sl 6 (List.map eS1 a0))), (3, o1 (.ref 0 0))], [[.sc (.func (.func 48) #[] #[])]], 0, []⟩ (by kernel_rfl) trivial ?_
  obtain ⟨r1, h2, H⟩ := bind_some' H
  refine Tri.rn [4] 0 [] [(2, .call (oB r1) [] false)] [_, _] ⟨9, [(4, oB (!r1))], [], 0, []⟩ (by kernel_rfl) ⟨(slices_ContainsFunc___impl_Item_impl_Item_1.fn k a0 r1 h2), (show (List.all [cB r1] PC.flatB) = true from rfl), trivial⟩ ?_
  refine Tri.ret ?_
  obtain rfl := Option.some.inj H
  exact ⟨.inr rfl, rfl, rfl, Nat.le_refl _, rfl, by simp⟩
/-! impl_InterfaceOK: function 17 -/
def impl_InterfaceOK.l1 : Nat → S2 → (List ByteArray) → Int → Option (List ByteArray)
  | 0, _, _, _ => none
  | k + 1, a0, z9, z10 => if z10 < (a0.f1.length : Int) then ((at? a0.f1 z10).bind fun x12 => if (z9 ++ ([x12.f4] : List ByteArray)).length * 16 ≤ 140737488355328 then (impl_InterfaceOK.l1 k a0 (z9 ++ ([x12.f4] : List ByteArray)) (w64 (z10 + 1))) else none) else (some z9)
def impl_InterfaceOK.e2 (k : Nat) (a0 : S2) : Option (List ByteArray) := impl_InterfaceOK.l1 k a0 ([] : List ByteArray) 0
def impl_InterfaceOK.e3 (k : Nat) (a0 : S2) (y16 : (List ByteArray)) : Option Bool := (impl_isName.f k a0.f0).bind fun r19 => if r19 = true then (if (a0.f1.length : Int) ≤ 60 then ((impl_areAll_impl_Item_1.f k a0.f1).bind fun r23 => if r23 = true then ((impl_areDifferent.f k y16).bind fun r26 => some r26) else (some false)) else (some false)) else (some false)
def impl_InterfaceOK.f (k : Nat) (a0 : S2) : Option Bool := (impl_InterfaceOK.e2 k a0).bind fun y16 => (impl_InterfaceOK.e3 k a0 y16).bind fun y28 => some y28
set_option maxRecDepth 100000 in
theorem impl_InterfaceOK.fn (k : Nat) (a0 : S2) (r : Bool) (H : impl_InterfaceOK.f k a0 = some r) : Fn Tryd.prog 17 [ag (eS2 a0)] [] (oB r) [] := by
  unfold impl_InterfaceOK.f at H
  refine Fn.body (ts := [2]) Tryd.func17 rfl rfl (by decide) (by decide) (Nat.le_of_ble_eq_true rfl) (Nat.le_refl _) ?_
  refine Tri.rn [1] 1 [] [] [] ⟨37, [(1, o1 (.ref 0 0))], [eS2 a0], 0, []⟩ (by kernel_rfl) trivial ?_
  refine Tri.rn [1, 3] 1 [] [] [] ⟨37, [(1, o1 (.ref 0 0)), (3, o1 .nl)], [eS2 a0], 0, []⟩ (by kernel_rfl) trivial ?_
  obtain ⟨v18, h17, H⟩ := bind_some' H
  refine Tri.join (α := (List ByteArray)) (fun w => v18 = w) (fun y16 => ⟨37, [(1, o1 (.ref 0 0)), (3, o1 (.own 9 (List.map eS y16)))], [eS2 a0], 0, []⟩) (fun y16 hw => ?_) ?_
  · rw [hw] at H; clear hw
    try dsimp only at H
    obtain ⟨v30, h29, H⟩ := bind_some' H
    refine Tri.join (α := Bool) (fun w => v30 = w) (fun y28 => ⟨37, [(2, oB y28)], [], 0, []⟩) (fun y28 hw => ?_) ?_
    · rw [hw] at H; clear hw
      try dsimp only at H
      refine Tri.ret ?_
      obtain rfl := Option.some.inj H
      exact ⟨.inr rfl, rfl, rfl, Nat.le_refl _, rfl, by simp⟩
    · unfold impl_InterfaceOK.e3 at h29
      obtain ⟨r19, h20, h29⟩ := bind_some' h29
      rcases iteb_some h29 with ⟨h21, h29⟩ | ⟨h21, h29⟩
      · rcases ite_some h29 with ⟨h22, h29⟩ | ⟨h22, h29⟩
        · obtain ⟨r23, h24, h29⟩ := bind_some' h29
          rcases iteb_some h29 with ⟨h25, h29⟩ | ⟨h25, h29⟩
          · obtain ⟨r26, h27, h29⟩ := bind_some' h29
            refine Tri.r1 [2] 0 [] [(2, .call (oB r19) [] false), (2, .ov [.sc (.bool true)]), (6, .ov [.sc (.int .i64 (a0.f1.length : Int))]), (7, .ov [.sc (.bool true)]), (12, .call (oB r23) [] false), (12, .ov [.sc (.bool true)]), (16, .call (oB r26) [] false)] [_, _, _, _, _, _, _, _, _, _] ⟨37, [(2, oB r26)], [], 0, []⟩ (by kernel_rfl) ⟨(impl_isName.fn k a0.f0 r19 h20), (show (List.all [cB r19] PC.flatB) = true from rfl), (ovb h21), (ovlen (f := eS1) (l := a0.f1)), (ovb (decide_eq_true h22)), (impl_areAll_impl_Item_1.fn k a0.f1 r23 h24), (show (List.all [cB r23] PC.flatB) = true from rfl), (ovb h25), (impl_areDifferent.fn k y16 r26 h27), (show (List.all [cB r26] PC.flatB) = true from rfl), trivial⟩ ?_
            exact ⟨r26, (Option.some.inj h29).symm, rfl⟩
          · refine Tri.r1 [2] 0 [] [(2, .call (oB r19) [] false), (2, .ov [.sc (.bool true)]), (6, .ov [.sc (.int .i64 (a0.f1.length : Int))]), (7, .ov [.sc (.bool true)]), (12, .call (oB r23) [] false), (12, .ov [.sc (.bool false)])] [_, _, _, _, _, _, _, _] ⟨37, [(2, oB false)], [], 0, []⟩ (by kernel_rfl) ⟨(impl_isName.fn k a0.f0 r19 h20), (show (List.all [cB r19] PC.flatB) = true from rfl), (ovb h21), (ovlen (f := eS1) (l := a0.f1)), (ovb (decide_eq_true h22)), (impl_areAll_impl_Item_1.fn k a0.f1 r23 h24), (show (List.all [cB r23] PC.flatB) = true from rfl), (ovb h25), trivial⟩ ?_
            exact ⟨false, (Option.some.inj h29).symm, rfl⟩
        · refine Tri.r1 [2] 0 [] [(2, .call (oB r19) [] false), (2, .ov [.sc (.bool true)]), (6, .ov [.sc (.int .i64 (a0.f1.length : Int))]), (7, .ov [.sc (.bool false)])] [_, _, _, _, _] ⟨37, [(2, oB false)], [], 0, []⟩ (by kernel_rfl) ⟨(impl_isName.fn k a0.f0 r19 h20), (show (List.all [cB r19] PC.flatB) = true from rfl), (ovb h21), (ovlen (f := eS1) (l := a0.f1)), (ovb (decide_eq_false h22)), trivial⟩ ?_
          exact ⟨false, (Option.some.inj h29).symm, rfl⟩
      · refine Tri.r1 [2] 0 [] [(2, .call (oB r19) [] false), (2, .ov [.sc (.bool false)])] [_, _, _] ⟨37, [(2, oB false)], [], 0, []⟩ (by kernel_rfl) ⟨(impl_isName.fn k a0.f0 r19 h20), (show (List.all [cB r19] PC.flatB) = true from rfl), (ovb h21), trivial⟩ ?_
        exact ⟨false, (Option.some.inj h29).symm, rfl⟩
  · unfold impl_InterfaceOK.e2 at h17
    refine Tri.rn [1, 3, 7, 8, 9] 1 [] [(2, .ov [.sc (.int .i64 (a0.f1.length : Int))])] [_] ⟨37, [(1, o1 (.ref 0 0)), (3, o1 .nl), (7, o1 (.sl 6 (List.map eS1 a0.f1))), (8, oI (a0.f1.length : Int)), (9, oI 0)], [eS2 a0], 0, []⟩ (by kernel_rfl) ⟨(ovlen (f := eS1) (l := a0.f1)), trivial⟩ ?_
    refine Tri.block ?_
    refine Tri.fix [1, 3, 7, 8, 9] 1 [.own (.t 3 0) 9] ⟨37, [(1, o1 (.ref 0 0)), (3, o1 (.own 9 (List.map eS ([] : List ByteArray)))), (7, o1 (.sl 6 (List.map eS1 a0.f1))), (8, oI (a0.f1.length : Int)), (9, oI 0)], [eS2 a0], 0, []⟩ (by kernel_rfl) ?_
    refine Tri.loop k (TriR.ind (α := ((List ByteArray) × Int)) (fun k x => impl_InterfaceOK.l1 k a0 x.1 x.2) (fun x => ⟨37, [(1, o1 (.ref 0 0)), (3, o1 (.own 9 (List.map eS x.1))), (7, o1 (.sl 6 (List.map eS1 a0.f1))), (8, oI (a0.f1.length : Int)), (9, oI x.2)], [eS2 a0], 0, []⟩) (fun _ => rfl) (fun k x h17 IH15 => ?_) k (([] : List ByteArray), 0) h17)
    obtain ⟨z9, z10⟩ := x
    rw [impl_InterfaceOK.l1.eq_2] at h17
    refine Tri.rn [1, 3, 7, 8, 9, 10] 1 [] [] [] ⟨37, [(1, o1 (.ref 0 0)), (3, o1 (.own 9 (List.map eS z9))), (7, o1 (.sl 6 (List.map eS1 a0.f1))), (8, oI (a0.f1.length : Int)), (9, oI z10), (10, oB (decide (z10 < (a0.f1.length : Int))))], [eS2 a0], 0, []⟩ (by kernel_rfl) trivial ?_
    refine Tri.seq ?_
    rcases ite_some h17 with ⟨h11, h17⟩ | ⟨h11, h17⟩
    · refine Tri.cond_true (useb (decide_eq_true h11) (by kernel_rfl)) ?_
      refine Tri.skip ?_
      refine Tri.seq ?_
      refine Tri.block ?_
      obtain ⟨x12, h13, h17⟩ := bind_some' h17
      refine Tri.rn [1, 3, 5, 7, 8, 9] 2 [] [(0, .el (eS1 x12))] [_, _] ⟨37, [(1, o1 (.ref 0 0)), (3, o1 (.own 9 (List.map eS z9))), (5, o1 (.ref 1 0)), (7, o1 (.sl 6 (List.map eS1 a0.f1))), (8, oI (a0.f1.length : Int)), (9, oI z10)], [eS2 a0, eS1 x12], 0, []⟩ (by kernel_rfl) ⟨(at?_0 h13), (at?_map (f := eS1) h13), trivial⟩ ?_
      obtain ⟨h14, h17⟩ := need_some h17
      refine Tri.r1 [1, 3, 7, 8, 9] 1 [] [(4, .ov [.own 9 (List.map eS (z9 ++ ([x12.f4] : List ByteArray)))])] [_, _, _] ⟨37, [(1, o1 (.ref 0 0)), (3, o1 (.own 9 (List.map eS (z9 ++ ([x12.f4] : List ByteArray))))), (7, o1 (.sl 6 (List.map eS1 a0.f1))), (8, oI (a0.f1.length : Int)), (9, oI z10)], [eS2 a0], 0, []⟩ (by kernel_rfl) ⟨(app1 (f := eS) (by decide) h14), (app2 (f := eS) h14), (ovapp (e := 9) (f := eS) (l := z9) (m := ([x12.f4] : List ByteArray))), trivial⟩ ?_
      refine Tri.r1 [1, 3, 7, 8, 9] 1 [] [] [] ⟨37, [(1, o1 (.ref 0 0)), (3, o1 (.own 9 (List.map eS (z9 ++ ([x12.f4] : List ByteArray))))), (7, o1 (.sl 6 (List.map eS1 a0.f1))), (8, oI (a0.f1.length : Int)), (9, oI (w64 (z10 + 1)))], [eS2 a0], 0, []⟩ (by kernel_rfl) trivial ?_
      exact IH15 _ (z9 ++ ([x12.f4] : List ByteArray), w64 (z10 + 1)) (Nat.le_refl _) h17
    · refine Tri.cond_false (useb (decide_eq_false h11) (by kernel_rfl)) ?_
      refine Tri.fix [1, 3] 1 [] ⟨37, [(1, o1 (.ref 0 0)), (3, o1 (.own 9 (List.map eS z9)))], [eS2 a0], 0, []⟩ (by kernel_rfl) ?_
      refine Tri.exit ?_
      repeat (with_reducible refine Ex.exit ?_)
      refine Bk.here ?_
      exact ⟨z9, (Option.some.inj h17).symm, rfl⟩
/-! laws_eqParam: function 183 -/
def laws_eqParam.e1 (k : Nat) (a0 : S0) (a1 : S0) : Option (Bool ⊕ Unit) := if a0.f1 = true then (if a1.f1 = true then (some (.inr ())) else (some (.inl false))) else (if a1.f1 = true then (some (.inl false)) else (some (.inr ())))
def laws_eqParam.f (k : Nat) (a0 : S0) (a1 : S0) : Option Bool := if a0.f0 = a1.f0 then ((laws_eqParam.e1 k a0 a1).bind fun v => match v with | .inl r => some r | .inr _ => some true) else (some false)
set_option maxRecDepth 100000 in
theorem laws_eqParam.fn (k : Nat) (a0 : S0) (a1 : S0) (r : Bool) (H : laws_eqParam.f k a0 a1 = some r) : Fn Tryd.prog 183 [ag (eS0 a0), ag (eS0 a1)] [] (oB r) [] := by
  unfold laws_eqParam.f at H
  refine Fn.body (ts := [4]) Tryd.func183 rfl rfl (by decide) (by decide) (Nat.le_of_ble_eq_true rfl) (Nat.le_refl _) ?_
  refine Tri.rn [2, 3] 2 [] [] [] ⟨15, [(2, o1 (.ref 0 0)), (3, o1 (.ref 1 0))], [eS0 a0, eS0 a1], 0, []⟩ (by kernel_rfl) trivial ?_
  refine Tri.seq ?_
  refine Tri.rn [2, 3, 9] 2 [] [] [] ⟨15, [(2, o1 (.ref 0 0)), (3, o1 (.ref 1 0)), (9, oB (!(decide (a0.f0 = a1.f0))))], [eS0 a0, eS0 a1], 0, []⟩ (by kernel_rfl) trivial ?_
  rcases ite_some H with ⟨h1, H⟩ | ⟨h1, H⟩
  · refine Tri.cond_false (useb (nF (decide_eq_true h1)) (by kernel_rfl)) ?_
    refine Tri.skip ?_
    obtain ⟨v6, h5, H⟩ := bind_some' H
    refine Tri.join (α := Unit) (fun w => v6 = .inr w) (fun _ => ⟨15, [], [], 0, []⟩) (fun w hw => ?_) ?_
    · rw [hw] at H; clear hw
      try dsimp only at H
      refine Tri.rn [4] 0 [] [] [] ⟨15, [(4, oB true)], [], 0, []⟩ (by kernel_rfl) trivial ?_
      refine Tri.ret ?_
      obtain rfl := Option.some.inj H
      exact ⟨.inr rfl, rfl, rfl, Nat.le_refl _, rfl, by simp⟩
    · unfold laws_eqParam.e1 at h5
      refine Tri.rn [14] 0 [] [] [] ⟨15, [(14, oB (!(a0.f1 == a1.f1)))], [], 0, []⟩ (by kernel_rfl) trivial ?_
      rcases iteb_some h5 with ⟨h2, h5⟩ | ⟨h2, h5⟩
      · rcases iteb_some h5 with ⟨h3, h5⟩ | ⟨h3, h5⟩
        · refine Tri.cond_false (useb (nF (beqv h2 h3)) (by kernel_rfl)) ?_
          refine Tri.fix [] 0 [] ⟨15, [], [], 0, []⟩ (by kernel_rfl) ?_
          refine Tri.skip ?_
          exact ⟨(), (Option.some.inj h5).symm, rfl⟩
        · refine Tri.cond_true (useb (nT (beqv h2 h3)) (by kernel_rfl)) ?_
          refine Tri.rn [4] 0 [] [] [] ⟨15, [(4, oB false)], [], 0, []⟩ (by kernel_rfl) trivial ?_
          refine Tri.ret ?_
          obtain rfl := Option.some.inj h5
          try dsimp only at H
          obtain rfl := Option.some.inj H
          exact ⟨.inr rfl, rfl, rfl, Nat.le_refl _, rfl, by simp⟩
      · rcases iteb_some h5 with ⟨h4, h5⟩ | ⟨h4, h5⟩
        · refine Tri.cond_true (useb (nT (beqv h2 h4)) (by kernel_rfl)) ?_
          refine Tri.rn [4] 0 [] [] [] ⟨15, [(4, oB false)], [], 0, []⟩ (by kernel_rfl) trivial ?_
          refine Tri.ret ?_
          obtain rfl := Option.some.inj h5
          try dsimp only at H
          obtain rfl := Option.some.inj H
          exact ⟨.inr rfl, rfl, rfl, Nat.le_refl _, rfl, by simp⟩
        · refine Tri.cond_false (useb (nF (beqv h2 h4)) (by kernel_rfl)) ?_
          refine Tri.fix [] 0 [] ⟨15, [], [], 0, []⟩ (by kernel_rfl) ?_
          refine Tri.skip ?_
          exact ⟨(), (Option.some.inj h5).symm, rfl⟩
  · refine Tri.cond_true (useb (nT (decide_eq_false h1)) (by kernel_rfl)) ?_
    refine Tri.rn [4] 0 [] [] [] ⟨15, [(4, oB false)], [], 0, []⟩ (by kernel_rfl) trivial ?_
    refine Tri.ret ?_
    obtain rfl := Option.some.inj H
    exact ⟨.inr rfl, rfl, rfl, Nat.le_refl _, rfl, by simp⟩
/-! laws_eqParamS: function 152 -/
def laws_eqParamS.l1 : Nat → (List S0) → (List S0) → Int → Option (Bool ⊕ Unit)
  | 0, _, _, _ => none
  | k + 1, a0, a1, z10 => if z10 < (a0.length : Int) then ((at? a0 z10).bind fun x12 => (at? a1 z10).bind fun x14 => (laws_eqParam.f k x12 x14).bind fun r16 => if r16 = true then (laws_eqParamS.l1 k a0 a1 (w64 (z10 + 1))) else (some (.inl false))) else (some (.inr ()))
def laws_eqParamS.e2 (k : Nat) (a0 : (List S0)) (a1 : (List S0)) : Option (Bool ⊕ Unit) := laws_eqParamS.l1 k a0 a1 0
def laws_eqParamS.f (k : Nat) (a0 : (List S0)) (a1 : (List S0)) : Option Bool := if (a0.length : Int) = (a1.length : Int) then ((laws_eqParamS.e2 k a0 a1).bind fun v => match v with | .inl r => some r | .inr _ => some true) else (some false)
set_option maxRecDepth 100000 in
theorem laws_eqParamS.fn (k : Nat) (a0 : (List S0)) (a1 : (List S0)) (r : Bool) (H : laws_eqParamS.f k a0 a1 = some r) : Fn Tryd.prog 152 [o1 (.sl 2 (List.map eS0 a0)), o1 (.sl 2 (List.map eS0 a1))] [] (oB r) [] := by
  unfold laws_eqParamS.f at H
  refine Fn.body (ts := [4]) Tryd.func152 rfl rfl (by decide) (by decide) (Nat.le_of_ble_eq_true rfl) (Nat.le_refl _) ?_
  refine Tri.rn [0, 1] 0 [] [] [] ⟨27, [(0, o1 (.sl 2 (List.map eS0 a0))), (1, o1 (.sl 2 (List.map eS0 a1)))], [], 0, []⟩ (by kernel_rfl) trivial ?_
  refine Tri.seq ?_
  refine Tri.rn [0, 1, 10] 0 [] [(1, .ov [.sc (.int .i64 (a0.length : Int))]), (3, .ov [.sc (.int .i64 (a1.length : Int))])] [_, _] ⟨27, [(0, o1 (.sl 2 (List.map eS0 a0))), (1, o1 (.sl 2 (List.map eS0 a1))), (10, oB (!(decide ((a0.length : Int) = (a1.length : Int)))))], [], 0, []⟩ (by kernel_rfl) ⟨(ovlen (f := eS0) (l := a0)), (ovlen (f := eS0) (l := a1)), trivial⟩ ?_
  rcases ite_some H with ⟨h1, H⟩ | ⟨h1, H⟩
  · refine Tri.cond_false (useb (nF (decide_eq_true h1)) (by kernel_rfl)) ?_
    refine Tri.skip ?_
    obtain ⟨v21, h20, H⟩ := bind_some' H
    refine Tri.join (α := Unit) (fun w => v21 = .inr w) (fun _ => ⟨27, [], [], 0, []⟩) (fun w hw => ?_) ?_
    · rw [hw] at H; clear hw
      try dsimp only at H
      refine Tri.rn [4] 0 [] [] [] ⟨27, [(4, oB true)], [], 0, []⟩ (by kernel_rfl) trivial ?_
      refine Tri.ret ?_
      obtain rfl := Option.some.inj H
      exact ⟨.inr rfl, rfl, rfl, Nat.le_refl _, rfl, by simp⟩
    · unfold laws_eqParamS.e2 at h20
      refine Tri.rn [0, 1, 5] 0 [] [] [] ⟨27, [(0, o1 (.sl 2 (List.map eS0 a0))), (1, o1 (.sl 2 (List.map eS0 a1))), (5, oI 0)], [], 0, []⟩ (by kernel_rfl) trivial ?_
      refine Tri.block ?_
      refine Tri.loop k (TriR.ind (α := Int) (fun k x => laws_eqParamS.l1 k a0 a1 x) (fun x => ⟨27, [(0, o1 (.sl 2 (List.map eS0 a0))), (1, o1 (.sl 2 (List.map eS0 a1))), (5, oI x)], [], 0, []⟩) (fun _ => rfl) (fun k z10 h20 IH19 => ?_) k 0 h20)
      rw [laws_eqParamS.l1.eq_2] at h20
      refine Tri.seq ?_
      refine Tri.rn [0, 1, 5, 14] 0 [] [(2, .ov [.sc (.int .i64 (a0.length : Int))])] [_] ⟨27, [(0, o1 (.sl 2 (List.map eS0 a0))), (1, o1 (.sl 2 (List.map eS0 a1))), (5, oI z10), (14, oB (decide (z10 < (a0.length : Int))))], [], 0, []⟩ (by kernel_rfl) ⟨(ovlen (f := eS0) (l := a0)), trivial⟩ ?_
      rcases ite_some h20 with ⟨h11, h20⟩ | ⟨h11, h20⟩
      · refine Tri.cond_true (useb (decide_eq_true h11) (by kernel_rfl)) ?_
        refine Tri.skip ?_
        refine Tri.seq ?_
        refine Tri.block ?_
        obtain ⟨x12, h13, h20⟩ := bind_some' h20
        obtain ⟨x14, h15, h20⟩ := bind_some' h20
        obtain ⟨r16, h17, h20⟩ := bind_some' h20
        refine Tri.dn hmix 8 [[], [], [0, 1], [0, 1, 2], [], [], [4, 5], [4, 5, 6], [0, 1, 2, 3, 4, 5, 6, 7], [0, 1, 2, 3, 4, 5, 6, 7, 8]] [0, 1, 5, 26] 0 [] [(2, .el (eS0 x12)), (6, .el (eS0 x14)), (8, .call (oB r16) [] false)] [_, _, _, _, _, _] ⟨27, [(0, o1 (.sl 2 (List.map eS0 a0))), (1, o1 (.sl 2 (List.map eS0 a1))), (5, oI z10), (26, oB (!r16))], [], 0, []⟩ (by kernel_rfl) ⟨(at?_0 h13), (at?_map (f := eS0) h13), (at?_0 h15), (at?_map (f := eS0) h15), (laws_eqParam.fn k x12 x14 r16 h17), (show (List.all [cB r16] PC.flatB) = true from rfl), trivial⟩ ?_
        rcases iteb_some h20 with ⟨h18, h20⟩ | ⟨h18, h20⟩
        · refine Tri.cond_false (useb (nF h18) (by kernel_rfl)) ?_
          refine Tri.skip ?_
          refine Tri.r1 [0, 1, 5] 0 [] [] [] ⟨27, [(0, o1 (.sl 2 (List.map eS0 a0))), (1, o1 (.sl 2 (List.map eS0 a1))), (5, oI (w64 (z10 + 1)))], [], 0, []⟩ (by kernel_rfl) trivial ?_
          exact IH19 _ (w64 (z10 + 1)) (Nat.le_refl _) h20
        · refine Tri.cond_true (useb (nT h18) (by kernel_rfl)) ?_
          refine Tri.rn [4] 0 [] [] [] ⟨27, [(4, oB false)], [], 0, []⟩ (by kernel_rfl) trivial ?_
          refine Tri.ret ?_
          obtain rfl := Option.some.inj h20
          try dsimp only at H
          obtain rfl := Option.some.inj H
          exact ⟨.inr rfl, rfl, rfl, Nat.le_refl _, rfl, by simp⟩
      · refine Tri.cond_false (useb (decide_eq_false h11) (by kernel_rfl)) ?_
        refine Tri.fix [] 0 [] ⟨27, [], [], 0, []⟩ (by kernel_rfl) ?_
        refine Tri.exit ?_
        repeat (with_reducible refine Ex.exit ?_)
        refine Bk.here ?_
        exact ⟨(), (Option.some.inj h20).symm, rfl⟩
  · refine Tri.cond_true (useb (nT (decide_eq_false h1)) (by kernel_rfl)) ?_
    refine Tri.rn [4] 0 [] [] [] ⟨27, [(4, oB false)], [], 0, []⟩ (by kernel_rfl) trivial ?_
    refine Tri.ret ?_
    obtain rfl := Option.some.inj H
    exact ⟨.inr rfl, rfl, rfl, Nat.le_refl _, rfl, by simp⟩
/-! laws_eqItem: function 112 -/
def laws_eqItem.f (k : Nat) (a0 : S1) (a1 : S1) : Option Bool := if a0.f0 = a1.f0 then (if a0.f1 = a1.f1 then (if a0.f2 = a1.f2 then (if a0.f3 = a1.f3 then (if a0.f4 = a1.f4 then ((laws_eqParamS.f k a0.f5 a1.f5).bind fun r6 => if r6 = true then (some true) else (some false)) else (some false)) else (some false)) else (some false)) else (some false)) else (some false)
set_option maxRecDepth 100000 in
theorem laws_eqItem.fn (k : Nat) (a0 : S1) (a1 : S1) (r : Bool) (H : laws_eqItem.f k a0 a1 = some r) : Fn Tryd.prog 112 [ag (eS1 a0), ag (eS1 a1)] [] (oB r) [] := by
  unfold laws_eqItem.f at H
  refine Fn.body (ts := [4]) Tryd.func112 rfl rfl (by decide) (by decide) (Nat.le_of_ble_eq_true rfl) (Nat.le_refl _) ?_
  refine Tri.rn [2, 3] 2 [] [] [] ⟨36, [(2, o1 (.ref 0 0)), (3, o1 (.ref 1 0))], [eS1 a0, eS1 a1], 0, []⟩ (by kernel_rfl) trivial ?_
  refine Tri.seq ?_
  refine Tri.rn [2, 3, 9] 2 [] [] [] ⟨36, [(2, o1 (.ref 0 0)), (3, o1 (.ref 1 0)), (9, oB (!(decide (a0.f0 = a1.f0))))], [eS1 a0, eS1 a1], 0, []⟩ (by kernel_rfl) trivial ?_
  rcases ite_some H with ⟨h1, H⟩ | ⟨h1, H⟩
  · refine Tri.cond_false (useb (nF (decide_eq_true h1)) (by kernel_rfl)) ?_
    refine Tri.skip ?_
    refine Tri.seq ?_
    refine Tri.rn [2, 3, 14] 2 [] [] [] ⟨36, [(2, o1 (.ref 0 0)), (3, o1 (.ref 1 0)), (14, oB (!(decide (a0.f1 = a1.f1))))], [eS1 a0, eS1 a1], 0, []⟩ (by kernel_rfl) trivial ?_
    rcases ite_some H with ⟨h2, H⟩ | ⟨h2, H⟩
    · refine Tri.cond_false (useb (nF (decide_eq_true h2)) (by kernel_rfl)) ?_
      refine Tri.skip ?_
      refine Tri.seq ?_
      refine Tri.rn [2, 3, 19] 2 [] [] [] ⟨36, [(2, o1 (.ref 0 0)), (3, o1 (.ref 1 0)), (19, oB (!(decide (a0.f2 = a1.f2))))], [eS1 a0, eS1 a1], 0, []⟩ (by kernel_rfl) trivial ?_
      rcases ite_some H with ⟨h3, H⟩ | ⟨h3, H⟩
      · refine Tri.cond_false (useb (nF (decide_eq_true h3)) (by kernel_rfl)) ?_
        refine Tri.skip ?_
        refine Tri.seq ?_
        refine Tri.rn [2, 3, 24] 2 [] [] [] ⟨36, [(2, o1 (.ref 0 0)), (3, o1 (.ref 1 0)), (24, oB (!(decide (a0.f3 = a1.f3))))], [eS1 a0, eS1 a1], 0, []⟩ (by kernel_rfl) trivial ?_
        rcases ite_some H with ⟨h4, H⟩ | ⟨h4, H⟩
        · refine Tri.cond_false (useb (nF (decide_eq_true h4)) (by kernel_rfl)) ?_
          refine Tri.skip ?_
          refine Tri.seq ?_
          refine Tri.rn [2, 3, 29] 2 [] [] [] ⟨36, [(2, o1 (.ref 0 0)), (3, o1 (.ref 1 0)), (29, oB (!(decide (a0.f4 = a1.f4))))], [eS1 a0, eS1 a1], 0, []⟩ (by kernel_rfl) trivial ?_
          rcases ite_some H with ⟨h5, H⟩ | ⟨h5, H⟩
          · refine Tri.cond_false (useb (nF (decide_eq_true h5)) (by kernel_rfl)) ?_
            refine Tri.skip ?_
            refine Tri.seq ?_
            obtain ⟨r6, h7, H⟩ := bind_some' H
            refine Tri.rn [35] 0 [] [(4, .call (oB r6) [] false)] [_, _] ⟨36, [(35, oB (!r6))], [], 0, []⟩ (by kernel_rfl) ⟨(laws_eqParamS.fn k a0.f5 a1.f5 r6 h7), (show (List.all [cB r6] PC.flatB) = true from rfl), trivial⟩ ?_
            rcases iteb_some H with ⟨h8, H⟩ | ⟨h8, H⟩
            · refine Tri.cond_false (useb (nF h8) (by kernel_rfl)) ?_
              refine Tri.skip ?_
              refine Tri.rn [4] 0 [] [] [] ⟨36, [(4, oB true)], [], 0, []⟩ (by kernel_rfl) trivial ?_
              refine Tri.ret ?_
              obtain rfl := Option.some.inj H
              exact ⟨.inr rfl, rfl, rfl, Nat.le_refl _, rfl, by simp⟩
            · refine Tri.cond_true (useb (nT h8) (by kernel_rfl)) ?_
              refine Tri.rn [4] 0 [] [] [] ⟨36, [(4, oB false)], [], 0, []⟩ (by kernel_rfl) trivial ?_
              refine Tri.ret ?_
              obtain rfl := Option.some.inj H
              exact ⟨.inr rfl, rfl, rfl, Nat.le_refl _, rfl, by simp⟩
          · refine Tri.cond_true (useb (nT (decide_eq_false h5)) (by kernel_rfl)) ?_
            refine Tri.rn [4] 0 [] [] [] ⟨36, [(4, oB false)], [], 0, []⟩ (by kernel_rfl) trivial ?_
            refine Tri.ret ?_
            obtain rfl := Option.some.inj H
            exact ⟨.inr rfl, rfl, rfl, Nat.le_refl _, rfl, by simp⟩
        · refine Tri.cond_true (useb (nT (decide_eq_false h4)) (by kernel_rfl)) ?_
          refine Tri.rn [4] 0 [] [] [] ⟨36, [(4, oB false)], [], 0, []⟩ (by kernel_rfl) trivial ?_
          refine Tri.ret ?_
          obtain rfl := Option.some.inj H
          exact ⟨.inr rfl, rfl, rfl, Nat.le_refl _, rfl, by simp⟩
      · refine Tri.cond_true (useb (nT (decide_eq_false h3)) (by kernel_rfl)) ?_
        refine Tri.rn [4] 0 [] [] [] ⟨36, [(4, oB false)], [], 0, []⟩ (by kernel_rfl) trivial ?_
        refine Tri.ret ?_
        obtain rfl := Option.some.inj H
        exact ⟨.inr rfl, rfl, rfl, Nat.le_refl _, rfl, by simp⟩
    · refine Tri.cond_true (useb (nT (decide_eq_false h2)) (by kernel_rfl)) ?_
      refine Tri.rn [4] 0 [] [] [] ⟨36, [(4, oB false)], [], 0, []⟩ (by kernel_rfl) trivial ?_
      refine Tri.ret ?_
      obtain rfl := Option.some.inj H
      exact ⟨.inr rfl, rfl, rfl, Nat.le_refl _, rfl, by simp⟩
  · refine Tri.cond_true (useb (nT (decide_eq_false h1)) (by kernel_rfl)) ?_
    refine Tri.rn [4] 0 [] [] [] ⟨36, [(4, oB false)], [], 0, []⟩ (by kernel_rfl) trivial ?_
    refine Tri.ret ?_
    obtain rfl := Option.some.inj H
    exact ⟨.inr rfl, rfl, rfl, Nat.le_refl _, rfl, by simp⟩
/-! laws_eqItemS: function 50 -/
def laws_eqItemS.l1 : Nat → (List S1) → (List S1) → Int → Option (Bool ⊕ Unit)
  | 0, _, _, _ => none
  | k + 1, a0, a1, z10 => if z10 < (a0.length : Int) then ((at? a0 z10).bind fun x12 => (at? a1 z10).bind fun x14 => (laws_eqItem.f k x12 x14).bind fun r16 => if r16 = true then (laws_eqItemS.l1 k a0 a1 (w64 (z10 + 1))) else (some (.inl false))) else (some (.inr ()))
def laws_eqItemS.e2 (k : Nat) (a0 : (List S1)) (a1 : (List S1)) : Option (Bool ⊕ Unit) := laws_eqItemS.l1 k a0 a1 0
def laws_eqItemS.f (k : Nat) (a0 : (List S1)) (a1 : (List S1)) : Option Bool := if (a0.length : Int) = (a1.length : Int) then ((laws_eqItemS.e2 k a0 a1).bind fun v => match v with | .inl r => some r | .inr _ => some true) else (some false)
set_option maxRecDepth 100000 in
theorem laws_eqItemS.fn (k : Nat) (a0 : (List S1)) (a1 : (List S1)) (r : Bool) (H : laws_eqItemS.f k a0 a1 = some r) : Fn Tryd.prog 50 [o1 (.sl 6 (List.map eS1 a0)), o1 (.sl 6 (List.map eS1 a1))] [] (oB r) [] := by
  unfold laws_eqItemS.f at H
  refine Fn.body (ts := [4]) Tryd.func50 rfl rfl (by decide) (by decide) (Nat.le_of_ble_eq_true rfl) (Nat.le_refl _) ?_
  refine Tri.rn [0, 1] 0 [] [] [] ⟨27, [(0, o1 (.sl 6 (List.map eS1 a0))), (1, o1 (.sl 6 (List.map eS1 a1)))], [], 0, []⟩ (by kernel_rfl) trivial ?_
  refine Tri.seq ?_
  refine Tri.rn [0, 1, 10] 0 [] [(1, .ov [.sc (.int .i64 (a0.length : Int))]), (3, .ov [.sc (.int .i64 (a1.length : Int))])] [_, _] ⟨27, [(0, o1 (.sl 6 (List.map eS1 a0))), (1, o1 (.sl 6 (List.map eS1 a1))), (10, oB (!(decide ((a0.length : Int) = (a1.length : Int)))))], [], 0, []⟩ (by kernel_rfl) ⟨(ovlen (f := eS1) (l := a0)), (ovlen (f := eS1) (l := a1)), trivial⟩ ?_
  rcases ite_some H with ⟨h1, H⟩ | ⟨h1, H⟩
  · refine Tri.cond_false (useb (nF (decide_eq_true h1)) (by kernel_rfl)) ?_
    refine Tri.skip ?_
    obtain ⟨v21, h20, H⟩ := bind_some' H
    refine Tri.join (α := Unit) (fun w => v21 = .inr w) (fun _ => ⟨27, [], [], 0, []⟩) (fun w hw => ?_) ?_
    · rw [hw] at H; clear hw
      try dsimp only at H
      refine Tri.rn [4] 0 [] [] [] ⟨27, [(4, oB true)], [], 0, []⟩ (by kernel_rfl) trivial ?_
      refine Tri.ret ?_
      obtain rfl := Option.some.inj H
      exact ⟨.inr rfl, rfl, rfl, Nat.le_refl _, rfl, by simp⟩
    · unfold laws_eqItemS.e2 at h20
      refine Tri.rn [0, 1, 5] 0 [] [] [] ⟨27, [(0, o1 (.sl 6 (List.map eS1 a0))), (1, o1 (.sl 6 (List.map eS1 a1))), (5, oI 0)], [], 0, []⟩ (by kernel_rfl) trivial ?_
      refine Tri.block ?_
      refine Tri.loop k (TriR.ind (α := Int) (fun k x => laws_eqItemS.l1 k a0 a1 x) (fun x => ⟨27, [(0, o1 (.sl 6 (List.map eS1 a0))), (1, o1 (.sl 6 (List.map eS1 a1))), (5, oI x)], [], 0, []⟩) (fun _ => rfl) (fun k z10 h20 IH19 => ?_) k 0 h20)
      rw [laws_eqItemS.l1.eq_2] at h20
      refine Tri.seq ?_
      refine Tri.rn [0, 1, 5, 14] 0 [] [(2, .ov [.sc (.int .i64 (a0.length : Int))])] [_] ⟨27, [(0, o1 (.sl 6 (List.map eS1 a0))), (1, o1 (.sl 6 (List.map eS1 a1))), (5, oI z10), (14, oB (decide (z10 < (a0.length : Int))))], [], 0, []⟩ (by kernel_rfl) ⟨(ovlen (f := eS1) (l := a0)), trivial⟩ ?_
      rcases ite_some h20 with ⟨h11, h20⟩ | ⟨h11, h20⟩
      · refine Tri.cond_true (useb (decide_eq_true h11) (by kernel_rfl)) ?_
        refine Tri.skip ?_
        refine Tri.seq ?_
        refine Tri.block ?_
        obtain ⟨x12, h13, h20⟩ := bind_some' h20
        obtain ⟨x14, h15, h20⟩ := bind_some' h20
        obtain ⟨r16, h17, h20⟩ := bind_some' h20
        refine Tri.dn hmix 8 [[], [], [0, 1], [0, 1, 2], [], [], [4, 5], [4, 5, 6], [0, 1, 2, 3, 4, 5, 6, 7], [0, 1, 2, 3, 4, 5, 6, 7, 8]] [0, 1, 5, 26] 0 [] [(2, .el (eS1 x12)), (6, .el (eS1 x14)), (8, .call (oB r16) [] false)] [_, _, _, _, _, _] ⟨27, [(0, o1 (.sl 6 (List.map eS1 a0))), (1, o1 (.sl 6 (List.map eS1 a1))), (5, oI z10), (26, oB (!r16))], [], 0, []⟩ (by kernel_rfl) ⟨(at?_0 h13), (at?_map (f := eS1) h13), (at?_0 h15), (at?_map (f := eS1) h15), (laws_eqItem.fn k x12 x14 r16 h17), (show (List.all [cB r16] PC.flatB) = true from rfl), trivial⟩ ?_
        rcases iteb_some h20 with ⟨h18, h20⟩ | ⟨h18, h20⟩
        · refine Tri.cond_false (useb (nF h18) (by kernel_rfl)) ?_
          refine Tri.skip ?_
          refine Tri.r1 [0, 1, 5] 0 [] [] [] ⟨27, [(0, o1 (.sl 6 (List.map eS1 a0))), (1, o1 (.sl 6 (List.map eS1 a1))), (5, oI (w64 (z10 + 1)))], [], 0, []⟩ (by kernel_rfl) trivial ?_
          exact IH19 _ (w64 (z10 + 1)) (Nat.le_refl _) h20
        · refine Tri.cond_true (useb (nT h18) (by kernel_rfl)) ?_
          refine Tri.rn [4] 0 [] [] [] ⟨27, [(4, oB false)], [], 0, []⟩ (by kernel_rfl) trivial ?_
          refine Tri.ret ?_
          obtain rfl := Option.some.inj h20
          try dsimp only at H
          obtain rfl := Option.some.inj H
          exact ⟨.inr rfl, rfl, rfl, Nat.le_refl _, rfl, by simp⟩
      · refine Tri.cond_false (useb (decide_eq_false h11) (by kernel_rfl)) ?_
        refine Tri.fix [] 0 [] ⟨27, [], [], 0, []⟩ (by kernel_rfl) ?_
        refine Tri.exit ?_
        repeat (with_reducible refine Ex.exit ?_)
        refine Bk.here ?_
        exact ⟨(), (Option.some.inj h20).symm, rfl⟩
  · refine Tri.cond_true (useb (nT (decide_eq_false h1)) (by kernel_rfl)) ?_
    refine Tri.rn [4] 0 [] [] [] ⟨27, [(4, oB false)], [], 0, []⟩ (by kernel_rfl) trivial ?_
    refine Tri.ret ?_
    obtain rfl := Option.some.inj H
    exact ⟨.inr rfl, rfl, rfl, Nat.le_refl _, rfl, by simp⟩
/-! laws_eqInterface: function 18 -/
def laws_eqInterface.f (k : Nat) (a0 : S2) (a1 : S2) : Option Bool := if a0.f0 = a1.f0 then ((laws_eqItemS.f k a0.f1 a1.f1).bind fun r2 => if r2 = true then (some true) else (some false)) else (some false)
set_option maxRecDepth 100000 in
theorem laws_eqInterface.fn (k : Nat) (a0 : S2) (a1 : S2) (r : Bool) (H : laws_eqInterface.f k a0 a1 = some r) : Fn Tryd.prog 18 [ag (eS2 a0), ag (eS2 a1)] [] (oB r) [] := by
  unfold laws_eqInterface.f at H
  refine Fn.body (ts := [4]) Tryd.func18 rfl rfl (by decide) (by decide) (Nat.le_of_ble_eq_true rfl) (Nat.le_refl _) ?_
  refine Tri.rn [2, 3] 2 [] [] [] ⟨16, [(2, o1 (.ref 0 0)), (3, o1 (.ref 1 0))], [eS2 a0, eS2 a1], 0, []⟩ (by kernel_rfl) trivial ?_
  refine Tri.seq ?_
  refine Tri.rn [2, 3, 9] 2 [] [] [] ⟨16, [(2, o1 (.ref 0 0)), (3, o1 (.ref 1 0)), (9, oB (!(decide (a0.f0 = a1.f0))))], [eS2 a0, eS2 a1], 0, []⟩ (by kernel_rfl) trivial ?_
  rcases ite_some H with ⟨h1, H⟩ | ⟨h1, H⟩
  · refine Tri.cond_false (useb (nF (decide_eq_true h1)) (by kernel_rfl)) ?_
    refine Tri.skip ?_
    refine Tri.seq ?_
    obtain ⟨r2, h3, H⟩ := bind_some' H
    refine Tri.rn [15] 0 [] [(4, .call (oB r2) [] false)] [_, _] ⟨16, [(15, oB (!r2))], [], 0, []⟩ (by kernel_rfl) ⟨(laws_eqItemS.fn k a0.f1 a1.f1 r2 h3), (show (List.all [cB r2] PC.flatB) = true from rfl), trivial⟩ ?_
    rcases iteb_some H with ⟨h4, H⟩ | ⟨h4, H⟩
    · refine Tri.cond_false (useb (nF h4) (by kernel_rfl)) ?_
      refine Tri.skip ?_
      refine Tri.rn [4] 0 [] [] [] ⟨16, [(4, oB true)], [], 0, []⟩ (by kernel_rfl) trivial ?_
      refine Tri.ret ?_
      obtain rfl := Option.some.inj H
      exact ⟨.inr rfl, rfl, rfl, Nat.le_refl _, rfl, by simp⟩
    · refine Tri.cond_true (useb (nT h4) (by kernel_rfl)) ?_
      refine Tri.rn [4] 0 [] [] [] ⟨16, [(4, oB false)], [], 0, []⟩ (by kernel_rfl) trivial ?_
      refine Tri.ret ?_
      obtain rfl := Option.some.inj H
      exact ⟨.inr rfl, rfl, rfl, Nat.le_refl _, rfl, by simp⟩
  · refine Tri.cond_true (useb (nT (decide_eq_false h1)) (by kernel_rfl)) ?_
    refine Tri.rn [4] 0 [] [] [] ⟨16, [(4, oB false)], [], 0, []⟩ (by kernel_rfl) trivial ?_
    refine Tri.ret ?_
    obtain rfl := Option.some.inj H
    exact ⟨.inr rfl, rfl, rfl, Nat.le_refl _, rfl, by simp⟩
/-! laws_FnExactInterfaceOK: function 4 -/
def laws_FnExactInterfaceOK.e1 (k : Nat) (r6 : Bool) (r10 : Bool) : Option (Bool ⊕ Unit) := if r10 = true then (if r6 = true then (some (.inr ())) else (some (.inl false))) else (if r6 = true then (some (.inl false)) else (some (.inr ())))
def laws_FnExactInterfaceOK.f (k : Nat) (a0 : S2) : Option Bool := (laws_szInterface.f k a0 1048576).bind fun r1 => if r1 < 0 then (some true) else ((laws_toInterface.f k a0).bind fun r4 => (spec_InterfaceOK.f k r4.1).bind fun r6 => (laws_toInterface.f k a0).bind fun r8 => (impl_InterfaceOK.f k r8.1).bind fun r10 => (laws_FnExactInterfaceOK.e1 k r6 r10).bind fun v => match v with | .inl r => some r | .inr _ => (laws_toInterface.f k a0).bind fun r17 => (laws_eqInterface.f k r8.1 r17.1).bind fun r19 => if r19 = true then (some true) else (some false))
set_option maxRecDepth 100000 in
theorem laws_FnExactInterfaceOK.fn (k : Nat) (a0 : S2) (r : Bool) (H : laws_FnExactInterfaceOK.f k a0 = some r) : Fn Tryd.prog 4 [ag (eS2 a0)] [] (oB r) [] := by
  unfold laws_FnExactInterfaceOK.f at H
  refine Fn.body (ts := [2]) Tryd.func4 rfl rfl (by decide) (by decide) (Nat.le_of_ble_eq_true rfl) (Nat.le_refl _) ?_
  refine Tri.rn [1] 1 [] [] [] ⟨27, [(1, o1 (.ref 0 0))], [eS2 a0], 0, []⟩ (by kernel_rfl) trivial ?_
  refine Tri.rn [1, 3] 1 [] [] [] ⟨27, [(1, o1 (.ref 0 0)), (3, oI 1048576)], [eS2 a0], 0, []⟩ (by kernel_rfl) trivial ?_
  obtain ⟨r1, h2, H⟩ := bind_some' H
  refine Tri.rn [1, 3] 1 [] [(2, .call (oI r1) [] false)] [_, _] ⟨27, [(1, o1 (.ref 0 0)), (3, oI r1)], [eS2 a0], 0, []⟩ (by kernel_rfl) ⟨(laws_szInterface.fn k a0 1048576 r1 h2), (show (List.all [cI r1] PC.flatB) = true from rfl), trivial⟩ ?_
  refine Tri.seq ?_
  refine Tri.rn [1, 11] 1 [] [] [] ⟨27, [(1, o1 (.ref 0 0)), (11, oB (decide (r1 < 0)))], [eS2 a0], 0, []⟩ (by kernel_rfl) trivial ?_
  rcases ite_some H with ⟨h3, H⟩ | ⟨h3, H⟩
  · refine Tri.cond_true (useb (decide_eq_true h3) (by kernel_rfl)) ?_
    refine Tri.rn [2] 0 [] [] [] ⟨27, [(2, oB true)], [], 0, []⟩ (by kernel_rfl) trivial ?_
    refine Tri.ret ?_
    obtain rfl := Option.some.inj H
    exact ⟨.inr rfl, rfl, rfl, Nat.le_refl _, rfl, by simp⟩
  · refine Tri.cond_false (useb (decide_eq_false h3) (by kernel_rfl)) ?_
    refine Tri.skip ?_
    obtain ⟨r4, h5, H⟩ := bind_some' H
    obtain ⟨r6, h7, H⟩ := bind_some' H
    refine Tri.rn [1, 4] 1 [] [(1, .call (ag (eS2 r4.1)) [] true), (2, .call (oB r6) [] false)] [_, _, _] ⟨27, [(1, o1 (.ref 0 0)), (4, oB r6)], [eS2 a0], 0, []⟩ (by kernel_rfl) ⟨(laws_toInterface.fn k a0 r4 h5), (spec_InterfaceOK.fn k r4.1 r6 h7), (show (List.all [cB r6] PC.flatB) = true from rfl), trivial⟩ ?_
    obtain ⟨r8, h9, H⟩ := bind_some' H
    refine Tri.rn [1, 4, 5] 2 [] [(1, .call (ag (eS2 r8.1)) [] true)] [_] ⟨27, [(1, o1 (.ref 0 0)), (4, oB r6), (5, o1 (.ref 1 0))], [eS2 a0, eS2 r8.1], 0, []⟩ (by kernel_rfl) ⟨(laws_toInterface.fn k a0 r8 h9), trivial⟩ ?_
    obtain ⟨r10, h11, H⟩ := bind_some' H
    refine Tri.rn [1, 4, 5, 6] 2 [] [(1, .call (oB r10) [] false)] [_, _] ⟨27, [(1, o1 (.ref 0 0)), (4, oB r6), (5, o1 (.ref 1 0)), (6, oB r10)], [eS2 a0, eS2 r8.1], 0, []⟩ (by kernel_rfl) ⟨(impl_InterfaceOK.fn k r8.1 r10 h11), (show (List.all [cB r10] PC.flatB) = true from rfl), trivial⟩ ?_
    obtain ⟨v16, h15, H⟩ := bind_some' H
    refine Tri.join (α := Unit) (fun w => v16 = .inr w) (fun _ => ⟨27, [(1, o1 (.ref 0 0)), (5, o1 (.ref 1 0))], [eS2 a0, eS2 r8.1], 0, []⟩) (fun w hw => ?_) ?_
    · rw [hw] at H; clear hw
      try dsimp only at H
      refine Tri.seq ?_
      obtain ⟨r17, h18, H⟩ := bind_some' H
      obtain ⟨r19, h20, H⟩ := bind_some' H
      refine Tri.dn hmix 3 [[], [], [1], [0, 1, 2], [0, 1, 2, 3]] [26] 0 [] [(2, .call (ag (eS2 r17.1)) [] true), (3, .call (oB r19) [] false)] [_, _, _] ⟨27, [(26, oB (!r19))], [], 0, []⟩ (by kernel_rfl) ⟨(laws_toInterface.fn k a0 r17 h18), (laws_eqInterface.fn k r8.1 r17.1 r19 h20), (show (List.all [cB r19] PC.flatB) = true from rfl), trivial⟩ ?_
      rcases iteb_some H with ⟨h21, H⟩ | ⟨h21, H⟩
      · refine Tri.cond_false (useb (nF h21) (by kernel_rfl)) ?_
        refine Tri.skip ?_
        refine Tri.rn [2] 0 [] [] [] ⟨27, [(2, oB true)], [], 0, []⟩ (by kernel_rfl) trivial ?_
        refine Tri.ret ?_
        obtain rfl := Option.some.inj H
        exact ⟨.inr rfl, rfl, rfl, Nat.le_refl _, rfl, by simp⟩
      · refine Tri.cond_true (useb (nT h21) (by kernel_rfl)) ?_
        refine Tri.rn [2] 0 [] [] [] ⟨27, [(2, oB false)], [], 0, []⟩ (by kernel_rfl) trivial ?_
        refine Tri.ret ?_
        obtain rfl := Option.some.inj H
        exact ⟨.inr rfl, rfl, rfl, Nat.le_refl _, rfl, by simp⟩
    · unfold laws_FnExactInterfaceOK.e1 at h15
      refine Tri.rn [1, 5, 21] 2 [] [] [] ⟨27, [(1, o1 (.ref 0 0)), (5, o1 (.ref 1 0)), (21, oB (!(r10 == r6)))], [eS2 a0, eS2 r8.1], 0, []⟩ (by kernel_rfl) trivial ?_
      rcases iteb_some h15 with ⟨h12, h15⟩ | ⟨h12, h15⟩
      · rcases iteb_some h15 with ⟨h13, h15⟩ | ⟨h13, h15⟩
        · refine Tri.cond_false (useb (nF (beqv h12 h13)) (by kernel_rfl)) ?_
          refine Tri.fix [1, 5] 2 [] ⟨27, [(1, o1 (.ref 0 0)), (5, o1 (.ref 1 0))], [eS2 a0, eS2 r8.1], 0, []⟩ (by kernel_rfl) ?_
          refine Tri.skip ?_
          exact ⟨(), (Option.some.inj h15).symm, rfl⟩
        · refine Tri.cond_true (useb (nT (beqv h12 h13)) (by kernel_rfl)) ?_
          refine Tri.rn [2] 0 [] [] [] ⟨27, [(2, oB false)], [], 0, []⟩ (by kernel_rfl) trivial ?_
          refine Tri.ret ?_
          obtain rfl := Option.some.inj h15
          try dsimp only at H
          obtain rfl := Option.some.inj H
          exact ⟨.inr rfl, rfl, rfl, Nat.le_refl _, rfl, by simp⟩
      · rcases iteb_some h15 with ⟨h14, h15⟩ | ⟨h14, h15⟩
        · refine Tri.cond_true (useb (nT (beqv h12 h14)) (by kernel_rfl)) ?_
          refine Tri.rn [2] 0 [] [] [] ⟨27, [(2, oB false)], [], 0, []⟩ (by kernel_rfl) trivial ?_
          refine Tri.ret ?_
          obtain rfl := Option.some.inj h15
          try dsimp only at H
          obtain rfl := Option.some.inj H
          exact ⟨.inr rfl, rfl, rfl, Nat.le_refl _, rfl, by simp⟩
        · refine Tri.cond_false (useb (nF (beqv h12 h14)) (by kernel_rfl)) ?_
          refine Tri.fix [1, 5] 2 [] ⟨27, [(1, o1 (.ref 0 0)), (5, o1 (.ref 1 0))], [eS2 a0, eS2 r8.1], 0, []⟩ (by kernel_rfl) ?_
          refine Tri.skip ?_
          exact ⟨(), (Option.some.inj h15).symm, rfl⟩
end Go.Proofs.YtaikjjlbfdkgmaaDoor.E
