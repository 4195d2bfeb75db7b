/- Functions of the program and their contracts: printed by ep3.py, a program of this session. -/
import Derived.Test.YtdoenfpleokadaaDoorGFnExactListing
import Derived.Test.YtdoenfpleokadaaDoorProg
set_option linter.unusedVariables false
set_option linter.unusedSectionVars false
set_option linter.unusedSimpArgs false
namespace Go.Proofs.YtdoenfpleokadaaDoor.E
open Go.RowKit
structure SIns where
  f0 : Int
  f1 : Int
  f2 : Int
  f3 : ByteArray
  f4 : ByteArray
def eSIns (x : SIns) : List PC := [cI x.f0, cI x.f1, cI x.f2, cS x.f3, cS x.f4]
structure SCode where
  f0 : ByteArray
  f1 : Int
  f2 : Int
  f3 : Int
  f4 : (List SIns)
def eSCode (x : SCode) : List PC := [cS x.f0, cI x.f1, cI x.f2, cI x.f3, .sl 5 (List.map eSIns x.f4)]
theorem hmix : Tryd.prog.follows .mixedOrders = true := by kernel_rfl
/-! laws_szIns: function 55 -/
def laws_szIns.f (k : Nat) (a0 : SIns) (a1 : Int) : Option Int := if (w64 (a1 - (a0.f3.size : Int))) < 0 then (some (-1)) else (if (w64 ((w64 (a1 - (a0.f3.size : Int))) - (a0.f4.size : Int))) < 0 then (some (-1)) else (some (w64 ((w64 (a1 - (a0.f3.size : Int))) - (a0.f4.size : Int)))))
set_option maxRecDepth 100000 in
theorem laws_szIns.fn (k : Nat) (a0 : SIns) (a1 : Int) (r : Int) (H : laws_szIns.f k a0 a1 = some r) : Fn Tryd.prog 55 [ag (eSIns a0), oI a1] [] (oI r) [] := by
  unfold laws_szIns.f at H
  refine Fn.body (ts := [4]) Tryd.func55 rfl rfl (by decide) (by decide) (Nat.le_of_ble_eq_true rfl) (Nat.le_refl _) ?_
  refine Tri.rn [1, 2] 1 [] [] [] ⟨20, [(1, oI a1), (2, o1 (.ref 0 0))], [eSIns a0], 0, []⟩ (by kernel_rfl) trivial ?_
  refine Tri.rn [1, 2] 1 [] [] [] ⟨20, [(1, oI (w64 (a1 - (a0.f3.size : Int)))), (2, o1 (.ref 0 0))], [eSIns a0], 0, []⟩ (by kernel_rfl) trivial ?_
  refine Tri.seq ?_
  refine Tri.rn [1, 2, 11] 1 [] [] [] ⟨20, [(1, oI (w64 (a1 - (a0.f3.size : Int)))), (2, o1 (.ref 0 0)), (11, oB (decide ((w64 (a1 - (a0.f3.size : Int))) < 0)))], [eSIns a0], 0, []⟩ (by kernel_rfl) trivial ?_
  rcases ite_some H with ⟨h1, H⟩ | ⟨h1, H⟩
  · refine Tri.cond_true (useb (decide_eq_true h1) (by kernel_rfl)) ?_
    refine Tri.rn [4] 0 [] [] [] ⟨20, [(4, oI (-1))], [], 0, []⟩ (by kernel_rfl) trivial ?_
    refine Tri.ret ?_
    obtain rfl := Option.some.inj H
    exact ⟨.inr rfl, rfl, rfl, Nat.le_refl _, rfl, by simp⟩
  · refine Tri.cond_false (useb (decide_eq_false h1) (by kernel_rfl)) ?_
    refine Tri.skip ?_
    refine Tri.rn [1] 0 [] [] [] ⟨20, [(1, oI (w64 ((w64 (a1 - (a0.f3.size : Int))) - (a0.f4.size : Int))))], [], 0, []⟩ (by kernel_rfl) trivial ?_
    refine Tri.seq ?_
    refine Tri.rn [1, 18] 0 [] [] [] ⟨20, [(1, oI (w64 ((w64 (a1 - (a0.f3.size : Int))) - (a0.f4.size : Int)))), (18, oB (decide ((w64 ((w64 (a1 - (a0.f3.size : Int))) - (a0.f4.size : Int))) < 0)))], [], 0, []⟩ (by kernel_rfl) trivial ?_
    rcases ite_some H with ⟨h2, H⟩ | ⟨h2, H⟩
    · refine Tri.cond_true (useb (decide_eq_true h2) (by kernel_rfl)) ?_
      refine Tri.rn [4] 0 [] [] [] ⟨20, [(4, oI (-1))], [], 0, []⟩ (by kernel_rfl) trivial ?_
      refine Tri.ret ?_
      obtain rfl := Option.some.inj H
      exact ⟨.inr rfl, rfl, rfl, Nat.le_refl _, rfl, by simp⟩
    · refine Tri.cond_false (useb (decide_eq_false h2) (by kernel_rfl)) ?_
      refine Tri.skip ?_
      refine Tri.rn [4] 0 [] [] [] ⟨20, [(4, oI (w64 ((w64 (a1 - (a0.f3.size : Int))) - (a0.f4.size : Int))))], [], 0, []⟩ (by kernel_rfl) trivial ?_
      refine Tri.ret ?_
      obtain rfl := Option.some.inj H
      exact ⟨.inr rfl, rfl, rfl, Nat.le_refl _, rfl, by simp⟩
/-! laws_szInsS: function 31 -/
def laws_szInsS.l1 : Nat → (List SIns) → Int → Int → Option (Int ⊕ Int)
  | 0, _, _, _ => none
  | k + 1, a0, z8, z9 => if z9 < (a0.length : Int) then ((at? a0 z9).bind fun x11 => (laws_szIns.f k x11 z8).bind fun r13 => if r13 < 0 then (some (.inl (-1))) else (laws_szInsS.l1 k a0 r13 (w64 (z9 + 1)))) else (some (.inr z8))
def laws_szInsS.e2 (k : Nat) (a0 : (List SIns)) (a1 : Int) : Option (Int ⊕ Int) := laws_szInsS.l1 k a0 (w64 (a1 - (a0.length : Int))) 0
def laws_szInsS.f (k : Nat) (a0 : (List SIns)) (a1 : Int) : Option Int := if (w64 (a1 - (a0.length : Int))) < 0 then (some (-1)) else ((laws_szInsS.e2 k a0 a1).bind fun v => match v with | .inl r => some r | .inr y17 => some y17)
set_option maxRecDepth 100000 in
theorem laws_szInsS.fn (k : Nat) (a0 : (List SIns)) (a1 : Int) (r : Int) (H : laws_szInsS.f k a0 a1 = some r) : Fn Tryd.prog 31 [o1 (.sl 5 (List.map eSIns a0)), oI a1] [] (oI r) [] := by
  unfold laws_szInsS.f at H
  refine Fn.body (ts := [4]) Tryd.func31 rfl rfl (by decide) (by decide) (Nat.le_of_ble_eq_true rfl) (Nat.le_refl _) ?_
  refine Tri.rn [0, 1] 0 [] [] [] ⟨27, [(0, o1 (.sl 5 (List.map eSIns a0))), (1, oI a1)], [], 0, []⟩ (by kernel_rfl) trivial ?_
  refine Tri.rn [0, 1] 0 [] [(2, .ov [.sc (.int .i64 (a0.length : Int))])] [_] ⟨27, [(0, o1 (.sl 5 (List.map eSIns a0))), (1, oI (w64 (a1 - (a0.length : Int))))], [], 0, []⟩ (by kernel_rfl) ⟨(ovlen (f := eSIns) (l := a0)), trivial⟩ ?_
  refine Tri.seq ?_
  refine Tri.rn [0, 1, 11] 0 [] [] [] ⟨27, [(0, o1 (.sl 5 (List.map eSIns a0))), (1, oI (w64 (a1 - (a0.length : Int)))), (11, oB (decide ((w64 (a1 - (a0.length : Int))) < 0)))], [], 0, []⟩ (by kernel_rfl) trivial ?_
  rcases ite_some H with ⟨h1, H⟩ | ⟨h1, H⟩
  · refine Tri.cond_true (useb (decide_eq_true h1) (by kernel_rfl)) ?_
    refine Tri.rn [4] 0 [] [] [] ⟨27, [(4, oI (-1))], [], 0, []⟩ (by kernel_rfl) trivial ?_
    refine Tri.ret ?_
    obtain rfl := Option.some.inj H
    exact ⟨.inr rfl, rfl, rfl, Nat.le_refl _, rfl, by simp⟩
  · refine Tri.cond_false (useb (decide_eq_false h1) (by kernel_rfl)) ?_
    refine Tri.skip ?_
    obtain ⟨v19, h18, H⟩ := bind_some' H
    refine Tri.join (α := Int) (fun w => v19 = .inr w) (fun y17 => ⟨27, [(1, oI y17)], [], 0, []⟩) (fun y17 hw => ?_) ?_
    · rw [hw] at H; clear hw
      try dsimp only at H
      refine Tri.rn [4] 0 [] [] [] ⟨27, [(4, oI y17)], [], 0, []⟩ (by kernel_rfl) trivial ?_
      refine Tri.ret ?_
      obtain rfl := Option.some.inj H
      exact ⟨.inr rfl, rfl, rfl, Nat.le_refl _, rfl, by simp⟩
    · unfold laws_szInsS.e2 at h18
      refine Tri.rn [0, 1, 5] 0 [] [] [] ⟨27, [(0, o1 (.sl 5 (List.map eSIns a0))), (1, oI (w64 (a1 - (a0.length : Int)))), (5, oI 0)], [], 0, []⟩ (by kernel_rfl) trivial ?_
      refine Tri.block ?_
      refine Tri.loop k (TriR.ind (α := (Int × Int)) (fun k x => laws_szInsS.l1 k a0 x.1 x.2) (fun x => ⟨27, [(0, o1 (.sl 5 (List.map eSIns a0))), (1, oI x.1), (5, oI x.2)], [], 0, []⟩) (fun _ => rfl) (fun k x h18 IH16 => ?_) k (w64 (a1 - (a0.length : Int)), 0) h18)
      obtain ⟨z8, z9⟩ := x
      rw [laws_szInsS.l1.eq_2] at h18
      refine Tri.seq ?_
      refine Tri.rn [0, 1, 5, 15] 0 [] [(2, .ov [.sc (.int .i64 (a0.length : Int))])] [_] ⟨27, [(0, o1 (.sl 5 (List.map eSIns a0))), (1, oI z8), (5, oI z9), (15, oB (decide (z9 < (a0.length : Int))))], [], 0, []⟩ (by kernel_rfl) ⟨(ovlen (f := eSIns) (l := a0)), trivial⟩ ?_
      rcases ite_some h18 with ⟨h10, h18⟩ | ⟨h10, h18⟩
      · refine Tri.cond_true (useb (decide_eq_true h10) (by kernel_rfl)) ?_
        refine Tri.skip ?_
        refine Tri.seq ?_
        refine Tri.block ?_
        obtain ⟨x11, h12, h18⟩ := bind_some' h18
        obtain ⟨r13, h14, h18⟩ := bind_some' h18
        refine Tri.rn [0, 1, 5] 0 [] [(2, .el (eSIns x11)), (5, .call (oI r13) [] false)] [_, _, _, _] ⟨27, [(0, o1 (.sl 5 (List.map eSIns a0))), (1, oI r13), (5, oI z9)], [], 0, []⟩ (by kernel_rfl) ⟨(at?_0 h12), (at?_map (f := eSIns) h12), (laws_szIns.fn k x11 z8 r13 h14), (show (List.all [cI r13] PC.flatB) = true from rfl), trivial⟩ ?_
        refine Tri.rn [0, 1, 5, 25] 0 [] [] [] ⟨27, [(0, o1 (.sl 5 (List.map eSIns a0))), (1, oI r13), (5, oI z9), (25, oB (decide (r13 < 0)))], [], 0, []⟩ (by kernel_rfl) trivial ?_
        rcases ite_some h18 with ⟨h15, h18⟩ | ⟨h15, h18⟩
        · refine Tri.cond_true (useb (decide_eq_true h15) (by kernel_rfl)) ?_
          refine Tri.rn [4] 0 [] [] [] ⟨27, [(4, oI (-1))], [], 0, []⟩ (by kernel_rfl) trivial ?_
          refine Tri.ret ?_
          obtain rfl := Option.some.inj h18
          try dsimp only at H
          obtain rfl := Option.some.inj H
          exact ⟨.inr rfl, rfl, rfl, Nat.le_refl _, rfl, by simp⟩
        · refine Tri.cond_false (useb (decide_eq_false h15) (by kernel_rfl)) ?_
          refine Tri.skip ?_
          refine Tri.r1 [0, 1, 5] 0 [] [] [] ⟨27, [(0, o1 (.sl 5 (List.map eSIns a0))), (1, oI r13), (5, oI (w64 (z9 + 1)))], [], 0, []⟩ (by kernel_rfl) trivial ?_
          exact IH16 _ (r13, w64 (z9 + 1)) (Nat.le_refl _) h18
      · refine Tri.cond_false (useb (decide_eq_false h10) (by kernel_rfl)) ?_
        refine Tri.fix [1] 0 [] ⟨27, [(1, oI z8)], [], 0, []⟩ (by kernel_rfl) ?_
        refine Tri.exit ?_
        repeat (with_reducible refine Ex.exit ?_)
        refine Bk.here ?_
        exact ⟨z8, (Option.some.inj h18).symm, rfl⟩
/-! laws_szCode: function 11 -/
def laws_szCode.f (k : Nat) (a0 : SCode) (a1 : Int) : Option Int := if (w64 (a1 - (a0.f0.size : Int))) < 0 then (some (-1)) else ((laws_szInsS.f k a0.f4 (w64 (a1 - (a0.f0.size : Int)))).bind fun r2 => if r2 < 0 then (some (-1)) else (some r2))
set_option maxRecDepth 100000 in
theorem laws_szCode.fn (k : Nat) (a0 : SCode) (a1 : Int) (r : Int) (H : laws_szCode.f k a0 a1 = some r) : Fn Tryd.prog 11 [ag (eSCode a0), oI a1] [] (oI r) [] := by
  unfold laws_szCode.f at H
  refine Fn.body (ts := [4]) Tryd.func11 rfl rfl (by decide) (by decide) (Nat.le_of_ble_eq_true rfl) (Nat.le_refl _) ?_
  refine Tri.rn [1, 2] 1 [] [] [] ⟨19, [(1, oI a1), (2, o1 (.ref 0 0))], [eSCode a0], 0, []⟩ (by kernel_rfl) trivial ?_
  refine Tri.rn [1, 2] 1 [] [] [] ⟨19, [(1, oI (w64 (a1 - (a0.f0.size : Int)))), (2, o1 (.ref 0 0))], [eSCode a0], 0, []⟩ (by kernel_rfl) trivial ?_
  refine Tri.seq ?_
  refine Tri.rn [1, 2, 11] 1 [] [] [] ⟨19, [(1, oI (w64 (a1 - (a0.f0.size : Int)))), (2, o1 (.ref 0 0)), (11, oB (decide ((w64 (a1 - (a0.f0.size : Int))) < 0)))], [eSCode a0], 0, []⟩ (by kernel_rfl) trivial ?_
  rcases ite_some H with ⟨h1, H⟩ | ⟨h1, H⟩
  · refine Tri.cond_true (useb (decide_eq_true h1) (by kernel_rfl)) ?_
    refine Tri.rn [4] 0 [] [] [] ⟨19, [(4, oI (-1))], [], 0, []⟩ (by kernel_rfl) trivial ?_
    refine Tri.ret ?_
    obtain rfl := Option.some.inj H
    exact ⟨.inr rfl, rfl, rfl, Nat.le_refl _, rfl, by simp⟩
  · refine Tri.cond_false (useb (decide_eq_false h1) (by kernel_rfl)) ?_
    refine Tri.skip ?_
    obtain ⟨r2, h3, H⟩ := bind_some' H
    refine Tri.rn [1] 0 [] [(3, .call (oI r2) [] false)] [_, _] ⟨19, [(1, oI r2)], [], 0, []⟩ (by kernel_rfl) ⟨(laws_szInsS.fn k a0.f4 (w64 (a1 - (a0.f0.size : Int))) r2 h3), (show (List.all [cI r2] PC.flatB) = true from rfl), trivial⟩ ?_
    refine Tri.seq ?_
    refine Tri.rn [1, 17] 0 [] [] [] ⟨19, [(1, oI r2), (17, oB (decide (r2 < 0)))], [], 0, []⟩ (by kernel_rfl) trivial ?_
    rcases ite_some H with ⟨h4, H⟩ | ⟨h4, H⟩
    · refine Tri.cond_true (useb (decide_eq_true h4) (by kernel_rfl)) ?_
      refine Tri.rn [4] 0 [] [] [] ⟨19, [(4, oI (-1))], [], 0, []⟩ (by kernel_rfl) trivial ?_
      refine Tri.ret ?_
      obtain rfl := Option.some.inj H
      exact ⟨.inr rfl, rfl, rfl, Nat.le_refl _, rfl, by simp⟩
    · refine Tri.cond_false (useb (decide_eq_false h4) (by kernel_rfl)) ?_
      refine Tri.skip ?_
      refine Tri.rn [4] 0 [] [] [] ⟨19, [(4, oI r2)], [], 0, []⟩ (by kernel_rfl) trivial ?_
      refine Tri.ret ?_
      obtain rfl := Option.some.inj H
      exact ⟨.inr rfl, rfl, rfl, Nat.le_refl _, rfl, by simp⟩
/-! laws_toIns: function 59 -/
def laws_toIns.f (k : Nat) (a0 : SIns) : Option (SIns × Int × Int × Int × ByteArray × ByteArray × Int × Int × Int × ByteArray × ByteArray) := some (a0, a0.f0, a0.f1, a0.f2, a0.f3, a0.f4, a0.f0, a0.f1, a0.f2, a0.f3, a0.f4)
set_option maxRecDepth 100000 in
theorem laws_toIns.fn (k : Nat) (a0 : SIns) (r : (SIns × Int × Int × Int × ByteArray × ByteArray × Int × Int × Int × ByteArray × ByteArray)) (H : laws_toIns.f k a0 = some r) : Fn Tryd.prog 59 [ag (eSIns a0)] [] (ag (eSIns r.1)) [] := by
  unfold laws_toIns.f at H
  refine Fn.bodyC (t := 2) (ty := 70) Tryd.func59 rfl rfl (Nat.le_of_ble_eq_true rfl) ?_
  refine Tri.rn [1, 2] 2 [] [] [] ⟨20, [(1, o1 (.ref 0 0)), (2, o1 (.ref 1 0))], [eSIns a0, [cI 0, cI 0, cI 0, cS (⟨#[]⟩ : ByteArray), cS (⟨#[]⟩ : ByteArray)]], 0, []⟩ (by kernel_rfl) trivial ?_
  refine Tri.rn [1, 2, 3] 3 [] [] [] ⟨20, [(1, o1 (.ref 0 0)), (2, o1 (.ref 1 0)), (3, o1 (.ref 2 0))], [eSIns a0, [cI 0, cI 0, cI 0, cS (⟨#[]⟩ : ByteArray), cS (⟨#[]⟩ : ByteArray)], [cI 0, cI 0, cI 0, cS (⟨#[]⟩ : ByteArray), cS (⟨#[]⟩ : ByteArray)]], 0, []⟩ (by kernel_rfl) trivial ?_
  refine Tri.rn [1, 2, 3] 3 [] [] [] ⟨20, [(1, o1 (.ref 0 0)), (2, o1 (.ref 1 0)), (3, o1 (.ref 2 0))], [eSIns a0, [cI 0, cI 0, cI 0, cS (⟨#[]⟩ : ByteArray), cS (⟨#[]⟩ : ByteArray)], [cI a0.f0, cI 0, cI 0, cS (⟨#[]⟩ : ByteArray), cS (⟨#[]⟩ : ByteArray)]], 0, []⟩ (by kernel_rfl) trivial ?_
  refine Tri.rn [1, 2, 3] 3 [] [] [] ⟨20, [(1, o1 (.ref 0 0)), (2, o1 (.ref 1 0)), (3, o1 (.ref 2 0))], [eSIns a0, [cI 0, cI 0, cI 0, cS (⟨#[]⟩ : ByteArray), cS (⟨#[]⟩ : ByteArray)], [cI a0.f0, cI a0.f1, cI 0, cS (⟨#[]⟩ : ByteArray), cS (⟨#[]⟩ : ByteArray)]], 0, []⟩ (by kernel_rfl) trivial ?_
  refine Tri.rn [1, 2, 3] 3 [] [] [] ⟨20, [(1, o1 (.ref 0 0)), (2, o1 (.ref 1 0)), (3, o1 (.ref 2 0))], [eSIns a0, [cI 0, cI 0, cI 0, cS (⟨#[]⟩ : ByteArray), cS (⟨#[]⟩ : ByteArray)], [cI a0.f0, cI a0.f1, cI a0.f2, cS (⟨#[]⟩ : ByteArray), cS (⟨#[]⟩ : ByteArray)]], 0, []⟩ (by kernel_rfl) trivial ?_
  refine Tri.rn [1, 2, 3] 3 [] [] [] ⟨20, [(1, o1 (.ref 0 0)), (2, o1 (.ref 1 0)), (3, o1 (.ref 2 0))], [eSIns a0, [cI 0, cI 0, cI 0, cS (⟨#[]⟩ : ByteArray), cS (⟨#[]⟩ : ByteArray)], [cI a0.f0, cI a0.f1, cI a0.f2, cS a0.f3, cS (⟨#[]⟩ : ByteArray)]], 0, []⟩ (by kernel_rfl) trivial ?_
  refine Tri.rn [2, 3] 3 [] [] [] ⟨20, [(2, o1 (.ref 1 0)), (3, o1 (.ref 2 0))], [eSIns a0, [cI 0, cI 0, cI 0, cS (⟨#[]⟩ : ByteArray), cS (⟨#[]⟩ : ByteArray)], eSIns a0], 0, []⟩ (by kernel_rfl) trivial ?_
  refine Tri.rn [2] 2 [] [] [] ⟨20, [(2, o1 (.ref 1 0))], [eSIns a0, eSIns a0], 0, []⟩ (by kernel_rfl) trivial ?_
  refine Tri.ret ?_
  obtain rfl := Option.some.inj H
  exact ⟨.inr rfl, ⟨_, _, rfl⟩, by kernel_rfl, rfl, rfl, rfl⟩
/-! laws_toInsS: function 35 -/
def laws_toInsS.l1 : Nat → (List SIns) → (List SIns) → Int → Option (List SIns)
  | 0, _, _, _ => none
  | k + 1, a0, z9, z10 => if z10 < (a0.length : Int) then ((at? a0 z10).bind fun x12 => (laws_toIns.f k x12).bind fun r14 => (at? z9 z10).bind fun x16 => laws_toInsS.l1 k a0 (z9.set (Int.toNat z10) r14.1) (w64 (z10 + 1))) else (some z9)
def laws_toInsS.e2 (k : Nat) (a0 : (List SIns)) : Option (List SIns) := laws_toInsS.l1 k a0 (List.replicate (Int.toNat (a0.length : Int)) (⟨(0 : Int), (0 : Int), (0 : Int), (⟨#[]⟩ : ByteArray), (⟨#[]⟩ : ByteArray)⟩ : SIns) : List SIns) 0
def laws_toInsS.f (k : Nat) (a0 : (List SIns)) : Option (List SIns) := if (a0.length : Int) * 56 ≤ 140737488355328 then ((laws_toInsS.e2 k a0).bind fun y19 => some y19) else none
set_option maxRecDepth 100000 in
theorem laws_toInsS.fn (k : Nat) (a0 : (List SIns)) (r : (List SIns)) (H : laws_toInsS.f k a0 = some r) : Fn Tryd.prog 35 [o1 (.sl 5 (List.map eSIns a0))] [] (o1 (.own 70 (List.map eSIns r))) [] := by
  unfold laws_toInsS.f at H
  refine Fn.body (ts := [2]) Tryd.func35 rfl rfl (by decide) (by decide) (Nat.le_of_ble_eq_true rfl) (Nat.le_refl _) ?_
  refine Tri.rn [0] 0 [] [] [] ⟨23, [(0, o1 (.sl 5 (List.map eSIns a0)))], [], 0, []⟩ (by kernel_rfl) trivial ?_
  obtain ⟨h1, H⟩ := need_some H
  refine Tri.rn [0, 3] 0 [] [(1, .ov [.sc (.int .i64 (a0.length : Int))]), (2, .nz []), (2, .ov [.own 70 (List.map eSIns (List.replicate (Int.toNat (a0.length : Int)) (⟨(0 : Int), (0 : Int), (0 : Int), (⟨#[]⟩ : ByteArray), (⟨#[]⟩ : ByteArray)⟩ : SIns) : List SIns))])] [_, _, _, _, _, _] ⟨23, [(0, o1 (.sl 5 (List.map eSIns a0))), (3, o1 (.own 70 (List.map eSIns (List.replicate (Int.toNat (a0.length : Int)) (⟨(0 : Int), (0 : Int), (0 : Int), (⟨#[]⟩ : ByteArray), (⟨#[]⟩ : ByteArray)⟩ : SIns) : List SIns))))], [], 0, []⟩ (by kernel_rfl) ⟨(ovlen (f := eSIns) (l := a0)), (rfl : (a0.length : Int) = (a0.length : Int)), (show (0 : Int) ≤ (a0.length : Int) from Int.natCast_nonneg _), (mkN (b := 56) (by decide) (show (0 : Int) ≤ (a0.length : Int) from Int.natCast_nonneg _) h1), h1, (ovrep (e := 70) (n := Int.toNat (a0.length : Int)) (z := (⟨(0 : Int), (0 : Int), (0 : Int), (⟨#[]⟩ : ByteArray), (⟨#[]⟩ : ByteArray)⟩ : SIns)) (f := eSIns)), trivial⟩ ?_
  obtain ⟨v21, h20, H⟩ := bind_some' H
  refine Tri.join (α := (List SIns)) (fun w => v21 = w) (fun y19 => ⟨23, [(3, o1 (.own 70 (List.map eSIns y19)))], [], 0, []⟩) (fun y19 hw => ?_) ?_
  · rw [hw] at H; clear hw
    try dsimp only at H
    refine Tri.rn [2] 0 [] [] [] ⟨23, [(2, o1 (.own 70 (List.map eSIns y19)))], [], 0, []⟩ (by kernel_rfl) trivial ?_
    refine Tri.ret ?_
    obtain rfl := Option.some.inj H
    exact ⟨.inr rfl, rfl, rfl, Nat.le_refl _, rfl, by simp⟩
  · unfold laws_toInsS.e2 at h20
    refine Tri.rn [0, 3, 4] 0 [] [] [] ⟨23, [(0, o1 (.sl 5 (List.map eSIns a0))), (3, o1 (.own 70 (List.map eSIns (List.replicate (Int.toNat (a0.length : Int)) (⟨(0 : Int), (0 : Int), (0 : Int), (⟨#[]⟩ : ByteArray), (⟨#[]⟩ : ByteArray)⟩ : SIns) : List SIns)))), (4, oI 0)], [], 0, []⟩ (by kernel_rfl) trivial ?_
    refine Tri.block ?_
    refine Tri.loop k (TriR.ind (α := ((List SIns) × Int)) (fun k x => laws_toInsS.l1 k a0 x.1 x.2) (fun x => ⟨23, [(0, o1 (.sl 5 (List.map eSIns a0))), (3, o1 (.own 70 (List.map eSIns x.1))), (4, oI x.2)], [], 0, []⟩) (fun _ => rfl) (fun k x h20 IH18 => ?_) k ((List.replicate (Int.toNat (a0.length : Int)) (⟨(0 : Int), (0 : Int), (0 : Int), (⟨#[]⟩ : ByteArray), (⟨#[]⟩ : ByteArray)⟩ : SIns) : List SIns), 0) h20)
    obtain ⟨z9, z10⟩ := x
    rw [laws_toInsS.l1.eq_2] at h20
    refine Tri.seq ?_
    refine Tri.rn [0, 3, 4, 11] 0 [] [(2, .ov [.sc (.int .i64 (a0.length : Int))])] [_] ⟨23, [(0, o1 (.sl 5 (List.map eSIns a0))), (3, o1 (.own 70 (List.map eSIns z9))), (4, oI z10), (11, oB (decide (z10 < (a0.length : Int))))], [], 0, []⟩ (by kernel_rfl) ⟨(ovlen (f := eSIns) (l := a0)), trivial⟩ ?_
    rcases ite_some h20 with ⟨h11, h20⟩ | ⟨h11, h20⟩
    · refine Tri.cond_true (useb (decide_eq_true h11) (by kernel_rfl)) ?_
      refine Tri.skip ?_
      refine Tri.seq ?_
      refine Tri.block ?_
      obtain ⟨x12, h13, h20⟩ := bind_some' h20
      obtain ⟨r14, h15, h20⟩ := bind_some' h20
      obtain ⟨x16, h17, h20⟩ := bind_some' h20
      refine Tri.r1 [0, 3, 4] 0 [] [(4, .el (eSIns x12)), (6, .call (ag (eSIns r14.1)) [] false), (7, .el (eSIns x16)), (8, .el (eSIns x16)), (8, .ovp (.t 3 0) (.own 70 (List.map eSIns (z9.set (Int.toNat z10) r14.1))))] [_, _, _, _, _, _, _, _] ⟨23, [(0, o1 (.sl 5 (List.map eSIns a0))), (3, o1 (.own 70 (List.map eSIns (z9.set (Int.toNat z10) r14.1)))), (4, oI z10)], [], 0, []⟩ (by kernel_rfl) ⟨(at?_0 h13), (at?_map (f := eSIns) h13), (laws_toIns.fn k x12 r14 h15), (show (List.all [cI r14.1.f0, cI r14.1.f1, cI r14.1.f2, cS r14.1.f3, cS r14.1.f4] PC.flatB) = true from rfl), (at?_0 h17), (at?_map (f := eSIns) h17), (at?_map (f := eSIns) h17), (ovset (e := 70) (f := eSIns) (l := z9) (v := r14.1) (i := Int.toNat z10)), trivial⟩ ?_
      refine Tri.r1 [0, 3, 4] 0 [] [] [] ⟨23, [(0, o1 (.sl 5 (List.map eSIns a0))), (3, o1 (.own 70 (List.map eSIns (z9.set (Int.toNat z10) r14.1)))), (4, oI (w64 (z10 + 1)))], [], 0, []⟩ (by kernel_rfl) trivial ?_
      exact IH18 _ (z9.set (Int.toNat z10) r14.1, w64 (z10 + 1)) (Nat.le_refl _) h20
    · refine Tri.cond_false (useb (decide_eq_false h11) (by kernel_rfl)) ?_
      refine Tri.fix [3] 0 [] ⟨23, [(3, o1 (.own 70 (List.map eSIns z9)))], [], 0, []⟩ (by kernel_rfl) ?_
      refine Tri.exit ?_
      repeat (with_reducible refine Ex.exit ?_)
      refine Bk.here ?_
      exact ⟨z9, (Option.some.inj h20).symm, rfl⟩
/-! laws_toCode: function 13 -/
def laws_toCode.f (k : Nat) (a0 : SCode) : Option (SCode × ByteArray × Int × Int × Int × (List SIns) × ByteArray × Int × Int × Int × (List SIns)) := (laws_toInsS.f k a0.f4).bind fun r1 => some ((⟨a0.f0, a0.f1, a0.f2, a0.f3, r1⟩ : SCode), a0.f0, a0.f1, a0.f2, a0.f3, a0.f4, a0.f0, a0.f1, a0.f2, a0.f3, r1)
set_option maxRecDepth 100000 in
theorem laws_toCode.fn (k : Nat) (a0 : SCode) (r : (SCode × ByteArray × Int × Int × Int × (List SIns) × ByteArray × Int × Int × Int × (List SIns))) (H : laws_toCode.f k a0 = some r) : Fn Tryd.prog 13 [ag (eSCode a0)] [] (ag (eSCode r.1)) [] := by
  unfold laws_toCode.f at H
  refine Fn.bodyC (t := 2) (ty := 37) Tryd.func13 rfl rfl (Nat.le_of_ble_eq_true rfl) ?_
  refine Tri.rn [1, 2] 2 [] [] [] ⟨21, [(1, o1 (.ref 0 0)), (2, o1 (.ref 1 0))], [eSCode a0, [cS (⟨#[]⟩ : ByteArray), cI 0, cI 0, cI 0, .nl]], 0, []⟩ (by kernel_rfl) trivial ?_
  refine Tri.rn [1, 2, 3] 3 [] [] [] ⟨21, [(1, o1 (.ref 0 0)), (2, o1 (.ref 1 0)), (3, o1 (.ref 2 0))], [eSCode a0, [cS (⟨#[]⟩ : ByteArray), cI 0, cI 0, cI 0, .nl], [cS (⟨#[]⟩ : ByteArray), cI 0, cI 0, cI 0, .nl]], 0, []⟩ (by kernel_rfl) trivial ?_
  refine Tri.rn [1, 2, 3] 3 [] [] [] ⟨21, [(1, o1 (.ref 0 0)), (2, o1 (.ref 1 0)), (3, o1 (.ref 2 0))], [eSCode a0, [cS (⟨#[]⟩ : ByteArray), cI 0, cI 0, cI 0, .nl], [cS a0.f0, cI 0, cI 0, cI 0, .nl]], 0, []⟩ (by kernel_rfl) trivial ?_
  refine Tri.rn [1, 2, 3] 3 [] [] [] ⟨21, [(1, o1 (.ref 0 0)), (2, o1 (.ref 1 0)), (3, o1 (.ref 2 0))], [eSCode a0, [cS (⟨#[]⟩ : ByteArray), cI 0, cI 0, cI 0, .nl], [cS a0.f0, cI a0.f1, cI 0, cI 0, .nl]], 0, []⟩ (by kernel_rfl) trivial ?_
  refine Tri.rn [1, 2, 3] 3 [] [] [] ⟨21, [(1, o1 (.ref 0 0)), (2, o1 (.ref 1 0)), (3, o1 (.ref 2 0))], [eSCode a0, [cS (⟨#[]⟩ : ByteArray), cI 0, cI 0, cI 0, .nl], [cS a0.f0, cI a0.f1, cI a0.f2, cI 0, .nl]], 0, []⟩ (by kernel_rfl) trivial ?_
  refine Tri.rn [1, 2, 3] 3 [] [] [] ⟨21, [(1, o1 (.ref 0 0)), (2, o1 (.ref 1 0)), (3, o1 (.ref 2 0))], [eSCode a0, [cS (⟨#[]⟩ : ByteArray), cI 0, cI 0, cI 0, .nl], [cS a0.f0, cI a0.f1, cI a0.f2, cI a0.f3, .nl]], 0, []⟩ (by kernel_rfl) trivial ?_
  obtain ⟨r1, h2, H⟩ := bind_some' H
  refine Tri.rn [2, 3] 3 [] [(2, .call (o1 (.own 70 (List.map eSIns r1))) [] false)] [_, _] ⟨21, [(2, o1 (.ref 1 0)), (3, o1 (.ref 2 0))], [eSCode a0, [cS (⟨#[]⟩ : ByteArray), cI 0, cI 0, cI 0, .nl], [cS a0.f0, cI a0.f1, cI a0.f2, cI a0.f3, .own 70 (List.map eSIns r1)]], 0, []⟩ (by kernel_rfl) ⟨(laws_toInsS.fn k a0.f4 r1 h2), (show (List.all [.own 70 (List.map eSIns r1)] PC.flatB) = true by simp [PC.flatB, PC.scalar, cI, cK, cB, cS, eSIns]), trivial⟩ ?_
  refine Tri.rn [2] 2 [] [(1, .frz (.b 2 4))] [] ⟨21, [(2, o1 (.ref 1 0))], [eSCode a0, [cS a0.f0, cI a0.f1, cI a0.f2, cI a0.f3, .sl 5 (List.map eSIns r1)]], 0, []⟩ (by kernel_rfl) trivial ?_
  refine Tri.ret ?_
  obtain rfl := Option.some.inj H
  exact ⟨.inr rfl, ⟨_, _, rfl⟩, by kernel_rfl, rfl, rfl, rfl⟩
/-! spec_l01In: function 22 -/
def spec_l01In.e1 (k : Nat) (a0 : Int) (a1 : Int) (a2 : Int) : Option Bool := if a1 ≤ a0 then (some (decide (a0 ≤ a2))) else (some false)
def spec_l01In.f (k : Nat) (a0 : Int) (a1 : Int) (a2 : Int) : Option Bool := (spec_l01In.e1 k a0 a1 a2).bind fun y2 => some y2
set_option maxRecDepth 100000 in
theorem spec_l01In.fn (k : Nat) (a0 : Int) (a1 : Int) (a2 : Int) (r : Bool) (H : spec_l01In.f k a0 a1 a2 = some r) : Fn Tryd.prog 22 [oI a0, oI a1, oI a2] [] (oB r) [] := by
  unfold spec_l01In.f at H
  refine Fn.body (ts := [6]) Tryd.func22 rfl rfl (by decide) (by decide) (Nat.le_of_ble_eq_true rfl) (Nat.le_refl _) ?_
  refine Tri.rn [0, 1, 2] 0 [] [] [] ⟨15, [(0, oI a0), (1, oI a1), (2, oI a2)], [], 0, []⟩ (by kernel_rfl) trivial ?_
  obtain ⟨v4, h3, H⟩ := bind_some' H
  refine Tri.join (α := Bool) (fun w => v4 = w) (fun y2 => ⟨15, [(6, oB y2)], [], 0, []⟩) (fun y2 hw => ?_) ?_
  · rw [hw] at H; clear hw
    try dsimp only at H
    refine Tri.ret ?_
    obtain rfl := Option.some.inj H
    exact ⟨.inr rfl, rfl, rfl, Nat.le_refl _, rfl, by simp⟩
  · unfold spec_l01In.e1 at h3
    rcases ite_some h3 with ⟨h1, h3⟩ | ⟨h1, h3⟩
    · refine Tri.r1 [6] 0 [] [(2, .ov [.sc (.bool true)])] [_] ⟨15, [(6, oB (decide (a0 ≤ a2)))], [], 0, []⟩ (by kernel_rfl) ⟨(ovb (decide_eq_true h1)), trivial⟩ ?_
      exact ⟨(decide (a0 ≤ a2)), (Option.some.inj h3).symm, rfl⟩
    · refine Tri.r1 [6] 0 [] [(2, .ov [.sc (.bool false)])] [_] ⟨15, [(6, oB false)], [], 0, []⟩ (by kernel_rfl) ⟨(ovb (decide_eq_false h1)), trivial⟩ ?_
      exact ⟨false, (Option.some.inj h3).symm, rfl⟩
/-! spec_l00Letter: function 141 -/
def spec_l00Letter.e1 (k : Nat) (a0 : Int) : Option Bool := if (97 : Int) ≤ a0 then (if a0 ≤ 122 then (some true) else (if (65 : Int) ≤ a0 then (if a0 ≤ 90 then (some true) else (some (decide (a0 = 95)))) else (some (decide (a0 = 95))))) else (if (65 : Int) ≤ a0 then (if a0 ≤ 90 then (some true) else (some (decide (a0 = 95)))) else (some (decide (a0 = 95))))
def spec_l00Letter.f (k : Nat) (a0 : Int) : Option Bool := (spec_l00Letter.e1 k a0).bind fun y7 => some y7
set_option maxRecDepth 100000 in
theorem spec_l00Letter.fn (k : Nat) (a0 : Int) (r : Bool) (H : spec_l00Letter.f k a0 = some r) : Fn Tryd.prog 141 [o1 (cK .u8 a0)] [] (oB r) [] := by
  unfold spec_l00Letter.f at H
  refine Fn.body (ts := [2]) Tryd.func141 rfl rfl (by decide) (by decide) (Nat.le_of_ble_eq_true rfl) (Nat.le_refl _) ?_
  refine Tri.rn [0] 0 [] [] [] ⟨21, [(0, o1 (cK .u8 a0))], [], 0, []⟩ (by kernel_rfl) trivial ?_
  obtain ⟨v9, h8, H⟩ := bind_some' H
  refine Tri.join (α := Bool) (fun w => v9 = w) (fun y7 => ⟨21, [(2, oB y7)], [], 0, []⟩) (fun y7 hw => ?_) ?_
  · rw [hw] at H; clear hw
    try dsimp only at H
    refine Tri.ret ?_
    obtain rfl := Option.some.inj H
    exact ⟨.inr rfl, rfl, rfl, Nat.le_refl _, rfl, by simp⟩
  · unfold spec_l00Letter.e1 at h8
    rcases ite_some h8 with ⟨h1, h8⟩ | ⟨h1, h8⟩
    · rcases ite_some h8 with ⟨h2, h8⟩ | ⟨h2, h8⟩
      · refine Tri.r1 [2] 0 [] [(1, .ov [.sc (.bool true)]), (4, .ov [.sc (.bool true)])] [_, _] ⟨21, [(2, oB true)], [], 0, []⟩ (by kernel_rfl) ⟨(ovb (decide_eq_true h1)), (ovb (decide_eq_true h2)), trivial⟩ ?_
        exact ⟨true, (Option.some.inj h8).symm, rfl⟩
      · rcases ite_some h8 with ⟨h3, h8⟩ | ⟨h3, h8⟩
        · rcases ite_some h8 with ⟨h4, h8⟩ | ⟨h4, h8⟩
          · refine Tri.r1 [2] 0 [] [(1, .ov [.sc (.bool true)]), (4, .ov [.sc (.bool false)]), (8, .ov [.sc (.bool true)]), (11, .ov [.sc (.bool true)])] [_, _, _, _] ⟨21, [(2, oB true)], [], 0, []⟩ (by kernel_rfl) ⟨(ovb (decide_eq_true h1)), (ovb (decide_eq_false h2)), (ovb (decide_eq_true h3)), (ovb (decide_eq_true h4)), trivial⟩ ?_
            exact ⟨true, (Option.some.inj h8).symm, rfl⟩
          · refine Tri.r1 [2] 0 [] [(1, .ov [.sc (.bool true)]), (4, .ov [.sc (.bool false)]), (8, .ov [.sc (.bool true)]), (11, .ov [.sc (.bool false)])] [_, _, _, _] ⟨21, [(2, oB (decide (a0 = 95)))], [], 0, []⟩ (by kernel_rfl) ⟨(ovb (decide_eq_true h1)), (ovb (decide_eq_false h2)), (ovb (decide_eq_true h3)), (ovb (decide_eq_false h4)), trivial⟩ ?_
            exact ⟨(decide (a0 = 95)), (Option.some.inj h8).symm, rfl⟩
        · refine Tri.r1 [2] 0 [] [(1, .ov [.sc (.bool true)]), (4, .ov [.sc (.bool false)]), (8, .ov [.sc (.bool false)])] [_, _, _] ⟨21, [(2, oB (decide (a0 = 95)))], [], 0, []⟩ (by kernel_rfl) ⟨(ovb (decide_eq_true h1)), (ovb (decide_eq_false h2)), (ovb (decide_eq_false h3)), trivial⟩ ?_
          exact ⟨(decide (a0 = 95)), (Option.some.inj h8).symm, rfl⟩
    · rcases ite_some h8 with ⟨h5, h8⟩ | ⟨h5, h8⟩
      · rcases ite_some h8 with ⟨h6, h8⟩ | ⟨h6, h8⟩
        · refine Tri.r1 [2] 0 [] [(1, .ov [.sc (.bool false)]), (8, .ov [.sc (.bool true)]), (11, .ov [.sc (.bool true)])] [_, _, _] ⟨21, [(2, oB true)], [], 0, []⟩ (by kernel_rfl) ⟨(ovb (decide_eq_false h1)), (ovb (decide_eq_true h5)), (ovb (decide_eq_true h6)), trivial⟩ ?_
          exact ⟨true, (Option.some.inj h8).symm, rfl⟩
        · refine Tri.r1 [2] 0 [] [(1, .ov [.sc (.bool false)]), (8, .ov [.sc (.bool true)]), (11, .ov [.sc (.bool false)])] [_, _, _] ⟨21, [(2, oB (decide (a0 = 95)))], [], 0, []⟩ (by kernel_rfl) ⟨(ovb (decide_eq_false h1)), (ovb (decide_eq_true h5)), (ovb (decide_eq_false h6)), trivial⟩ ?_
          exact ⟨(decide (a0 = 95)), (Option.some.inj h8).symm, rfl⟩
      · refine Tri.r1 [2] 0 [] [(1, .ov [.sc (.bool false)]), (8, .ov [.sc (.bool false)])] [_, _] ⟨21, [(2, oB (decide (a0 = 95)))], [], 0, []⟩ (by kernel_rfl) ⟨(ovb (decide_eq_false h1)), (ovb (decide_eq_false h5)), trivial⟩ ?_
        exact ⟨(decide (a0 = 95)), (Option.some.inj h8).symm, rfl⟩
/-! spec_l00Digit: function 142 -/
def spec_l00Digit.e1 (k : Nat) (a0 : Int) : Option Bool := if (48 : Int) ≤ a0 then (some (decide (a0 ≤ 57))) else (some false)
def spec_l00Digit.f (k : Nat) (a0 : Int) : Option Bool := (spec_l00Digit.e1 k a0).bind fun y2 => some y2
set_option maxRecDepth 100000 in
theorem spec_l00Digit.fn (k : Nat) (a0 : Int) (r : Bool) (H : spec_l00Digit.f k a0 = some r) : Fn Tryd.prog 142 [o1 (cK .u8 a0)] [] (oB r) [] := by
  unfold spec_l00Digit.f at H
  refine Fn.body (ts := [2]) Tryd.func142 rfl rfl (by decide) (by decide) (Nat.le_of_ble_eq_true rfl) (Nat.le_refl _) ?_
  refine Tri.rn [0] 0 [] [] [] ⟨9, [(0, o1 (cK .u8 a0))], [], 0, []⟩ (by kernel_rfl) trivial ?_
  obtain ⟨v4, h3, H⟩ := bind_some' H
  refine Tri.join (α := Bool) (fun w => v4 = w) (fun y2 => ⟨9, [(2, oB y2)], [], 0, []⟩) (fun y2 hw => ?_) ?_
  · rw [hw] at H; clear hw
    try dsimp only at H
    refine Tri.ret ?_
    obtain rfl := Option.some.inj H
    exact ⟨.inr rfl, rfl, rfl, Nat.le_refl _, rfl, by simp⟩
  · unfold spec_l00Digit.e1 at h3
    rcases ite_some h3 with ⟨h1, h3⟩ | ⟨h1, h3⟩
    · refine Tri.r1 [2] 0 [] [(1, .ov [.sc (.bool true)])] [_] ⟨9, [(2, oB (decide (a0 ≤ 57)))], [], 0, []⟩ (by kernel_rfl) ⟨(ovb (decide_eq_true h1)), trivial⟩ ?_
      exact ⟨(decide (a0 ≤ 57)), (Option.some.inj h3).symm, rfl⟩
    · refine Tri.r1 [2] 0 [] [(1, .ov [.sc (.bool false)])] [_] ⟨9, [(2, oB false)], [], 0, []⟩ (by kernel_rfl) ⟨(ovb (decide_eq_false h1)), trivial⟩ ?_
      exact ⟨false, (Option.some.inj h3).symm, rfl⟩
/-! spec_l00Word: function 118 -/
def spec_l00Word.e1 (k : Nat) (a0 : ByteArray) : Option Bool := if (a0.size : Int) < 1 then (some true) else (if (40 : Int) < (a0.size : Int) then (some true) else (if (0 : Int) ≤ 0 then (if 0 < (a0.size : Int) then ((spec_l00Letter.f k (byteAt a0 0)).bind fun r5 => some (!r5)) else none) else none))
def spec_l00Word.e2 (k : Nat) (a0 : ByteArray) (z23 : Int) : Option Bool := if (0 : Int) ≤ z23 then ((spec_l00Letter.f k (byteAt a0 z23)).bind fun r26 => if r26 = true then (some false) else ((spec_l00Digit.f k (byteAt a0 z23)).bind fun r29 => some (!r29))) else none
def spec_l00Word.l3 : Nat → ByteArray → Int → Option (Bool ⊕ Unit)
  | 0, _, _ => none
  | k + 1, a0, z23 => if z23 < (a0.size : Int) then ((spec_l00Word.e2 k a0 z23).bind fun y31 => if y31 = true then (some (.inl false)) else (spec_l00Word.l3 k a0 (w64 (z23 + 1)))) else (some (.inr ()))
def spec_l00Word.e4 (k : Nat) (a0 : ByteArray) : Option (Bool ⊕ Unit) := spec_l00Word.l3 k a0 1
def spec_l00Word.f (k : Nat) (a0 : ByteArray) : Option Bool := (spec_l00Word.e1 k a0).bind fun y7 => if y7 = true then (some false) else ((spec_l00Word.e4 k a0).bind fun v => match v with | .inl r => some r | .inr _ => some true)
set_option maxRecDepth 100000 in
theorem spec_l00Word.fn (k : Nat) (a0 : ByteArray) (r : Bool) (H : spec_l00Word.f k a0 = some r) : Fn Tryd.prog 118 [oS a0] [] (oB r) [] := by
  unfold spec_l00Word.f at H
  refine Fn.body (ts := [2]) Tryd.func118 rfl rfl (by decide) (by decide) (Nat.le_of_ble_eq_true rfl) (Nat.le_refl _) ?_
  refine Tri.rn [0] 0 [] [] [] ⟨36, [(0, oS a0)], [], 0, []⟩ (by kernel_rfl) trivial ?_
  refine Tri.seq ?_
  obtain ⟨v9, h8, H⟩ := bind_some' H
  refine Tri.join (α := Bool) (fun w => v9 = w) (fun y7 => ⟨36, [(0, oS a0), (17, oB y7)], [], 0, []⟩) (fun y7 hw => ?_) ?_
  · rw [hw] at H; clear hw
    try dsimp only at H
    rcases iteb_some H with ⟨h10, H⟩ | ⟨h10, H⟩
    · refine Tri.cond_true (useb h10 (by kernel_rfl)) ?_
      refine Tri.rn [2] 0 [] [] [] ⟨36, [(2, oB false)], [], 0, []⟩ (by kernel_rfl) trivial ?_
      refine Tri.ret ?_
      obtain rfl := Option.some.inj H
      exact ⟨.inr rfl, rfl, rfl, Nat.le_refl _, rfl, by simp⟩
    · refine Tri.cond_false (useb h10 (by kernel_rfl)) ?_
      refine Tri.skip ?_
      obtain ⟨v37, h36, H⟩ := bind_some' H
      refine Tri.join (α := Unit) (fun w => v37 = .inr w) (fun _ => ⟨36, [], [], 0, []⟩) (fun w hw => ?_) ?_
      · rw [hw] at H; clear hw
        try dsimp only at H
        refine Tri.rn [2] 0 [] [] [] ⟨36, [(2, oB true)], [], 0, []⟩ (by kernel_rfl) trivial ?_
        refine Tri.ret ?_
        obtain rfl := Option.some.inj H
        exact ⟨.inr rfl, rfl, rfl, Nat.le_refl _, rfl, by simp⟩
      · unfold spec_l00Word.e4 at h36
        refine Tri.rn [0, 3] 0 [] [] [] ⟨36, [(0, oS a0), (3, oI 1)], [], 0, []⟩ (by kernel_rfl) trivial ?_
        refine Tri.block ?_
        refine Tri.loop k (TriR.ind (α := Int) (fun k x => spec_l00Word.l3 k a0 x) (fun x => ⟨36, [(0, oS a0), (3, oI x)], [], 0, []⟩) (fun _ => rfl) (fun k z23 h36 IH35 => ?_) k 1 h36)
        rw [spec_l00Word.l3.eq_2] at h36
        refine Tri.seq ?_
        refine Tri.rn [0, 3, 21] 0 [] [] [] ⟨36, [(0, oS a0), (3, oI z23), (21, oB (decide (z23 < (a0.size : Int))))], [], 0, []⟩ (by kernel_rfl) trivial ?_
        rcases ite_some h36 with ⟨h24, h36⟩ | ⟨h24, h36⟩
        · refine Tri.cond_true (useb (decide_eq_true h24) (by kernel_rfl)) ?_
          refine Tri.skip ?_
          refine Tri.seq ?_
          refine Tri.block ?_
          obtain ⟨v33, h32, h36⟩ := bind_some' h36
          refine Tri.join (α := Bool) (fun w => v33 = w) (fun y31 => ⟨36, [(0, oS a0), (3, oI z23), (35, oB y31)], [], 0, []⟩) (fun y31 hw => ?_) ?_
          · rw [hw] at h36; clear hw
            try dsimp only at h36
            rcases iteb_some h36 with ⟨h34, h36⟩ | ⟨h34, h36⟩
            · refine Tri.cond_true (useb h34 (by kernel_rfl)) ?_
              refine Tri.rn [2] 0 [] [] [] ⟨36, [(2, oB false)], [], 0, []⟩ (by kernel_rfl) trivial ?_
              refine Tri.ret ?_
              obtain rfl := Option.some.inj h36
              try dsimp only at H
              obtain rfl := Option.some.inj H
              exact ⟨.inr rfl, rfl, rfl, Nat.le_refl _, rfl, by simp⟩
            · refine Tri.cond_false (useb h34 (by kernel_rfl)) ?_
              refine Tri.skip ?_
              refine Tri.r1 [0, 3] 0 [] [] [] ⟨36, [(0, oS a0), (3, oI (w64 (z23 + 1)))], [], 0, []⟩ (by kernel_rfl) trivial ?_
              exact IH35 _ (w64 (z23 + 1)) (Nat.le_refl _) h36
          · unfold spec_l00Word.e2 at h32
            obtain ⟨h25, h32⟩ := need_some h32
            obtain ⟨r26, h27, h32⟩ := bind_some' h32
            rcases iteb_some h32 with ⟨h28, h32⟩ | ⟨h28, h32⟩
            · refine Tri.r1 [0, 3, 35] 0 [] [(3, .call (oB r26) [] false), (3, .ov [.sc (.bool true)])] [_, _, _, _, _] ⟨36, [(0, oS a0), (3, oI z23), (35, oB false)], [], 0, []⟩ (by kernel_rfl) ⟨h25, h24, (spec_l00Letter.fn k (byteAt a0 z23) r26 h27), (show (List.all [cB r26] PC.flatB) = true from rfl), (ovb h28), trivial⟩ ?_
              exact ⟨false, (Option.some.inj h32).symm, rfl⟩
            · obtain ⟨r29, h30, h32⟩ := bind_some' h32
              refine Tri.r1 [0, 3, 35] 0 [] [(3, .call (oB r26) [] false), (3, .ov [.sc (.bool false)]), (9, .call (oB r29) [] false)] [_, _, _, _, _, _, _, _, _] ⟨36, [(0, oS a0), (3, oI z23), (35, oB (!r29))], [], 0, []⟩ (by kernel_rfl) ⟨h25, h24, (spec_l00Letter.fn k (byteAt a0 z23) r26 h27), (show (List.all [cB r26] PC.flatB) = true from rfl), (ovb h28), h25, h24, (spec_l00Digit.fn k (byteAt a0 z23) r29 h30), (show (List.all [cB r29] PC.flatB) = true from rfl), trivial⟩ ?_
              exact ⟨(!r29), (Option.some.inj h32).symm, rfl⟩
        · refine Tri.cond_false (useb (decide_eq_false h24) (by kernel_rfl)) ?_
          refine Tri.fix [] 0 [] ⟨36, [], [], 0, []⟩ (by kernel_rfl) ?_
          refine Tri.exit ?_
          repeat (with_reducible refine Ex.exit ?_)
          refine Bk.here ?_
          exact ⟨(), (Option.some.inj h36).symm, rfl⟩
  · unfold spec_l00Word.e1 at h8
    rcases ite_some h8 with ⟨h1, h8⟩ | ⟨h1, h8⟩
    · refine Tri.r1 [0, 17] 0 [] [(2, .ov [.sc (.bool true)])] [_] ⟨36, [(0, oS a0), (17, oB true)], [], 0, []⟩ (by kernel_rfl) ⟨(ovb (decide_eq_true h1)), trivial⟩ ?_
      exact ⟨true, (Option.some.inj h8).symm, rfl⟩
    · rcases ite_some h8 with ⟨h2, h8⟩ | ⟨h2, h8⟩
      · refine Tri.r1 [0, 17] 0 [] [(2, .ov [.sc (.bool false)]), (6, .ov [.sc (.bool true)])] [_, _] ⟨36, [(0, oS a0), (17, oB true)], [], 0, []⟩ (by kernel_rfl) ⟨(ovb (decide_eq_false h1)), (ovb (decide_eq_true h2)), trivial⟩ ?_
        exact ⟨true, (Option.some.inj h8).symm, rfl⟩
      · obtain ⟨h3, h8⟩ := need_some h8
        obtain ⟨h4, h8⟩ := need_some h8
        obtain ⟨r5, h6, h8⟩ := bind_some' h8
        refine Tri.r1 [0, 17] 0 [] [(2, .ov [.sc (.bool false)]), (6, .ov [.sc (.bool false)]), (11, .call (oB r5) [] false)] [_, _, _, _, _, _] ⟨36, [(0, oS a0), (17, oB (!r5))], [], 0, []⟩ (by kernel_rfl) ⟨(ovb (decide_eq_false h1)), (ovb (decide_eq_false h2)), h3, h4, (spec_l00Letter.fn k (byteAt a0 0) r5 h6), (show (List.all [cB r5] PC.flatB) = true from rfl), trivial⟩ ?_
        exact ⟨(!r5), (Option.some.inj h8).symm, rfl⟩
/-! spec_NameOK: function 84 -/
def spec_NameOK.f (k : Nat) (a0 : ByteArray) : Option Bool := (spec_l00Word.f k a0).bind fun r1 => some r1
set_option maxRecDepth 100000 in
theorem spec_NameOK.fn (k : Nat) (a0 : ByteArray) (r : Bool) (H : spec_NameOK.f k a0 = some r) : Fn Tryd.prog 84 [oS a0] [] (oB r) [] := by
  unfold spec_NameOK.f at H
  refine Fn.body (ts := [2]) Tryd.func84 rfl rfl (by decide) (by decide) (Nat.le_of_ble_eq_true rfl) (Nat.le_refl _) ?_
  refine Tri.rn [0] 0 [] [] [] ⟨5, [(0, oS a0)], [], 0, []⟩ (by kernel_rfl) trivial ?_
  obtain ⟨r1, h2, H⟩ := bind_some' H
  refine Tri.rn [2] 0 [] [(1, .call (oB r1) [] false)] [_, _] ⟨5, [(2, oB r1)], [], 0, []⟩ (by kernel_rfl) ⟨(spec_l00Word.fn k a0 r1 h2), (show (List.all [cB r1] PC.flatB) = true from rfl), trivial⟩ ?_
  refine Tri.ret ?_
  obtain rfl := Option.some.inj H
  exact ⟨.inr rfl, rfl, rfl, Nat.le_refl _, rfl, by simp⟩
/-! spec_l01Keys: function 120 -/
def spec_l01Keys.f (k : Nat) : Option (List ByteArray) := some ([(⟨#[77, 79, 68, 85, 76, 69]⟩ : ByteArray), (⟨#[73, 77, 80, 79, 82, 84]⟩ : ByteArray), (⟨#[67, 79, 78, 83, 84]⟩ : ByteArray), (⟨#[86, 65, 82]⟩ : ByteArray), (⟨#[80, 82, 79, 67, 69, 68, 85, 82, 69]⟩ : ByteArray), (⟨#[66, 69, 71, 73, 78]⟩ : ByteArray), (⟨#[69, 78, 68]⟩ : ByteArray), (⟨#[73, 70]⟩ : ByteArray), (⟨#[84, 72, 69, 78]⟩ : ByteArray), (⟨#[69, 76, 83, 73, 70]⟩ : ByteArray), (⟨#[69, 76, 83, 69]⟩ : ByteArray), (⟨#[87, 72, 73, 76, 69]⟩ : ByteArray), (⟨#[68, 79]⟩ : ByteArray), (⟨#[82, 69, 84, 85, 82, 78]⟩ : ByteArray), (⟨#[79, 82]⟩ : ByteArray), (⟨#[68, 73, 86]⟩ : ByteArray), (⟨#[77, 79, 68]⟩ : ByteArray), (⟨#[84, 82, 85, 69]⟩ : ByteArray), (⟨#[70, 65, 76, 83, 69]⟩ : ByteArray), (⟨#[65, 82, 82, 65, 89]⟩ : ByteArray), (⟨#[79, 70]⟩ : ByteArray), (⟨#[73, 78, 84, 69, 71, 69, 82]⟩ : ByteArray), (⟨#[66, 79, 79, 76, 69, 65, 78]⟩ : ByteArray), (⟨#[67, 72, 65, 82]⟩ : ByteArray), (⟨#[87, 82, 73, 84, 69]⟩ : ByteArray), (⟨#[82, 69, 65, 68]⟩ : ByteArray), (⟨#[79, 82, 68]⟩ : ByteArray), (⟨#[67, 72, 82]⟩ : ByteArray), (⟨#[76, 69, 78]⟩ : ByteArray)] : List ByteArray)
set_option maxRecDepth 100000 in
theorem spec_l01Keys.fn (k : Nat) (r : (List ByteArray)) (H : spec_l01Keys.f k  = some r) : Fn Tryd.prog 120 [] [] (o1 (.own 9 (List.map eS r))) [] := by
  unfold spec_l01Keys.f at H
  refine Fn.body (ts := [0]) Tryd.func120 rfl rfl (by decide) (by decide) (Nat.le_of_ble_eq_true rfl) (Nat.le_refl _) ?_
  refine Tri.rn [] 0 [] [] [] ⟨2, [], [], 0, []⟩ (by kernel_rfl) trivial ?_
  refine Tri.rn [0] 0 [] [] [] ⟨2, [(0, o1 (.own 9 (List.map eS ([(⟨#[77, 79, 68, 85, 76, 69]⟩ : ByteArray), (⟨#[73, 77, 80, 79, 82, 84]⟩ : ByteArray), (⟨#[67, 79, 78, 83, 84]⟩ : ByteArray), (⟨#[86, 65, 82]⟩ : ByteArray), (⟨#[80, 82, 79, 67, 69, 68, 85, 82, 69]⟩ : ByteArray), (⟨#[66, 69, 71, 73, 78]⟩ : ByteArray), (⟨#[69, 78, 68]⟩ : ByteArray), (⟨#[73, 70]⟩ : ByteArray), (⟨#[84, 72, 69, 78]⟩ : ByteArray), (⟨#[69, 76, 83, 73, 70]⟩ : ByteArray), (⟨#[69, 76, 83, 69]⟩ : ByteArray), (⟨#[87, 72, 73, 76, 69]⟩ : ByteArray), (⟨#[68, 79]⟩ : ByteArray), (⟨#[82, 69, 84, 85, 82, 78]⟩ : ByteArray), (⟨#[79, 82]⟩ : ByteArray), (⟨#[68, 73, 86]⟩ : ByteArray), (⟨#[77, 79, 68]⟩ : ByteArray), (⟨#[84, 82, 85, 69]⟩ : ByteArray), (⟨#[70, 65, 76, 83, 69]⟩ : ByteArray), (⟨#[65, 82, 82, 65, 89]⟩ : ByteArray), (⟨#[79, 70]⟩ : ByteArray), (⟨#[73, 78, 84, 69, 71, 69, 82]⟩ : ByteArray), (⟨#[66, 79, 79, 76, 69, 65, 78]⟩ : ByteArray), (⟨#[67, 72, 65, 82]⟩ : ByteArray), (⟨#[87, 82, 73, 84, 69]⟩ : ByteArray), (⟨#[82, 69, 65, 68]⟩ : ByteArray), (⟨#[79, 82, 68]⟩ : ByteArray), (⟨#[67, 72, 82]⟩ : ByteArray), (⟨#[76, 69, 78]⟩ : ByteArray)] : List ByteArray))))], [], 0, []⟩ (by kernel_rfl) trivial ?_
  refine Tri.ret ?_
  obtain rfl := Option.some.inj H
  exact ⟨.inr rfl, rfl, rfl, Nat.le_refl _, rfl, by simp⟩
/-! spec_l01Place: function 119 -/
def spec_l01Place.l1 : Nat → (List ByteArray) → ByteArray → Int → Option (Int ⊕ Unit)
  | 0, _, _, _ => none
  | k + 1, a0, a1, z5 => if z5 < (a0.length : Int) then ((at? a0 z5).bind fun x7 => if x7 = a1 then (some (.inl z5)) else (spec_l01Place.l1 k a0 a1 (w64 (z5 + 1)))) else (some (.inr ()))
def spec_l01Place.e2 (k : Nat) (a0 : (List ByteArray)) (a1 : ByteArray) : Option (Int ⊕ Unit) := spec_l01Place.l1 k a0 a1 0
def spec_l01Place.f (k : Nat) (a0 : (List ByteArray)) (a1 : ByteArray) : Option Int := (spec_l01Place.e2 k a0 a1).bind fun v => match v with | .inl r => some r | .inr _ => some (-1)
set_option maxRecDepth 100000 in
theorem spec_l01Place.fn (k : Nat) (a0 : (List ByteArray)) (a1 : ByteArray) (r : Int) (H : spec_l01Place.f k a0 a1 = some r) : Fn Tryd.prog 119 [o1 (.sl 1 (List.map eS a0)), oS a1] [] (oI r) [] := by
  unfold spec_l01Place.f at H
  refine Fn.body (ts := [4]) Tryd.func119 rfl rfl (by decide) (by decide) (Nat.le_of_ble_eq_true rfl) (Nat.le_refl _) ?_
  refine Tri.rn [0, 1] 0 [] [] [] ⟨19, [(0, o1 (.sl 1 (List.map eS a0))), (1, oS a1)], [], 0, []⟩ (by kernel_rfl) trivial ?_
  obtain ⟨v12, h11, H⟩ := bind_some' H
  refine Tri.join (α := Unit) (fun w => v12 = .inr w) (fun _ => ⟨19, [], [], 0, []⟩) (fun w hw => ?_) ?_
  · rw [hw] at H; clear hw
    try dsimp only at H
    refine Tri.rn [4] 0 [] [] [] ⟨19, [(4, oI (-1))], [], 0, []⟩ (by kernel_rfl) trivial ?_
    refine Tri.ret ?_
    obtain rfl := Option.some.inj H
    exact ⟨.inr rfl, rfl, rfl, Nat.le_refl _, rfl, by simp⟩
  · unfold spec_l01Place.e2 at h11
    refine Tri.rn [0, 1, 5] 0 [] [] [] ⟨19, [(0, o1 (.sl 1 (List.map eS a0))), (1, oS a1), (5, oI 0)], [], 0, []⟩ (by kernel_rfl) trivial ?_
    refine Tri.block ?_
    refine Tri.loop k (TriR.ind (α := Int) (fun k x => spec_l01Place.l1 k a0 a1 x) (fun x => ⟨19, [(0, o1 (.sl 1 (List.map eS a0))), (1, oS a1), (5, oI x)], [], 0, []⟩) (fun _ => rfl) (fun k z5 h11 IH10 => ?_) k 0 h11)
    rw [spec_l01Place.l1.eq_2] at h11
    refine Tri.seq ?_
    refine Tri.rn [0, 1, 5, 9] 0 [] [(2, .ov [.sc (.int .i64 (a0.length : Int))])] [_] ⟨19, [(0, o1 (.sl 1 (List.map eS a0))), (1, oS a1), (5, oI z5), (9, oB (decide (z5 < (a0.length : Int))))], [], 0, []⟩ (by kernel_rfl) ⟨(ovlen (f := eS) (l := a0)), trivial⟩ ?_
    rcases ite_some h11 with ⟨h6, h11⟩ | ⟨h6, h11⟩
    · refine Tri.cond_true (useb (decide_eq_true h6) (by kernel_rfl)) ?_
      refine Tri.skip ?_
      refine Tri.seq ?_
      refine Tri.block ?_
      obtain ⟨x7, h8, h11⟩ := bind_some' h11
      refine Tri.rn [0, 1, 5, 17] 0 [] [(2, .el (eS x7))] [_, _] ⟨19, [(0, o1 (.sl 1 (List.map eS a0))), (1, oS a1), (5, oI z5), (17, oB (decide (x7 = a1)))], [], 0, []⟩ (by kernel_rfl) ⟨(at?_0 h8), (at?_map (f := eS) h8), trivial⟩ ?_
      rcases ite_some h11 with ⟨h9, h11⟩ | ⟨h9, h11⟩
      · refine Tri.cond_true (useb (decide_eq_true h9) (by kernel_rfl)) ?_
        refine Tri.rn [4] 0 [] [] [] ⟨19, [(4, oI z5)], [], 0, []⟩ (by kernel_rfl) trivial ?_
        refine Tri.ret ?_
        obtain rfl := Option.some.inj h11
        try dsimp only at H
        obtain rfl := Option.some.inj H
        exact ⟨.inr rfl, rfl, rfl, Nat.le_refl _, rfl, by simp⟩
      · refine Tri.cond_false (useb (decide_eq_false h9) (by kernel_rfl)) ?_
        refine Tri.skip ?_
        refine Tri.r1 [0, 1, 5] 0 [] [] [] ⟨19, [(0, o1 (.sl 1 (List.map eS a0))), (1, oS a1), (5, oI (w64 (z5 + 1)))], [], 0, []⟩ (by kernel_rfl) trivial ?_
        exact IH10 _ (w64 (z5 + 1)) (Nat.le_refl _) h11
    · refine Tri.cond_false (useb (decide_eq_false h6) (by kernel_rfl)) ?_
      refine Tri.fix [] 0 [] ⟨19, [], [], 0, []⟩ (by kernel_rfl) ?_
      refine Tri.exit ?_
      repeat (with_reducible refine Ex.exit ?_)
      refine Bk.here ?_
      exact ⟨(), (Option.some.inj h11).symm, rfl⟩
/-! spec_IsKey: function 85 -/
def spec_IsKey.f (k : Nat) (a0 : ByteArray) : Option Bool := (spec_l01Keys.f k).bind fun r1 => (spec_l01Place.f k r1 a0).bind fun r3 => some (decide ((0 : Int) ≤ r3))
set_option maxRecDepth 100000 in
theorem spec_IsKey.fn (k : Nat) (a0 : ByteArray) (r : Bool) (H : spec_IsKey.f k a0 = some r) : Fn Tryd.prog 85 [oS a0] [] (oB r) [] := by
  unfold spec_IsKey.f at H
  refine Fn.body (ts := [2]) Tryd.func85 rfl rfl (by decide) (by decide) (Nat.le_of_ble_eq_true rfl) (Nat.le_refl _) ?_
  refine Tri.rn [0] 0 [] [] [] ⟨7, [(0, oS a0)], [], 0, []⟩ (by kernel_rfl) trivial ?_
  obtain ⟨r1, h2, H⟩ := bind_some' H
  obtain ⟨r3, h4, H⟩ := bind_some' H
  refine Tri.rn [2] 0 [] [(0, .call (o1 (.own 9 (List.map eS r1))) [] false), (2, .call (oI r3) [] false)] [_, _, _, _] ⟨7, [(2, oB (decide ((0 : Int) ≤ r3)))], [], 0, []⟩ (by kernel_rfl) ⟨(spec_l01Keys.fn k r1 h2), (show (List.all [.own 9 (List.map eS r1)] PC.flatB) = true by simp [PC.flatB, PC.scalar, cI, cK, cB, cS, eS]), (spec_l01Place.fn k r1 a0 r3 h4), (show (List.all [cI r3] PC.flatB) = true from rfl), trivial⟩ ?_
  refine Tri.ret ?_
  obtain rfl := Option.some.inj H
  exact ⟨.inr rfl, rfl, rfl, Nat.le_refl _, rfl, by simp⟩
/-! spec_l02Name: function 56 -/
def spec_l02Name.e1 (k : Nat) (a0 : ByteArray) : Option Bool := (spec_NameOK.f k a0).bind fun r1 => if r1 = true then ((spec_IsKey.f k a0).bind fun r4 => some (!r4)) else (some false)
def spec_l02Name.f (k : Nat) (a0 : ByteArray) : Option Bool := (spec_l02Name.e1 k a0).bind fun y6 => some y6
set_option maxRecDepth 100000 in
theorem spec_l02Name.fn (k : Nat) (a0 : ByteArray) (r : Bool) (H : spec_l02Name.f k a0 = some r) : Fn Tryd.prog 56 [oS a0] [] (oB r) [] := by
  unfold spec_l02Name.f at H
  refine Fn.body (ts := [2]) Tryd.func56 rfl rfl (by decide) (by decide) (Nat.le_of_ble_eq_true rfl) (Nat.le_refl _) ?_
  refine Tri.rn [0] 0 [] [] [] ⟨10, [(0, oS a0)], [], 0, []⟩ (by kernel_rfl) trivial ?_
  obtain ⟨v8, h7, H⟩ := bind_some' H
  refine Tri.join (α := Bool) (fun w => v8 = w) (fun y6 => ⟨10, [(2, oB y6)], [], 0, []⟩) (fun y6 hw => ?_) ?_
  · rw [hw] at H; clear hw
    try dsimp only at H
    refine Tri.ret ?_
    obtain rfl := Option.some.inj H
    exact ⟨.inr rfl, rfl, rfl, Nat.le_refl _, rfl, by simp⟩
  · unfold spec_l02Name.e1 at h7
    obtain ⟨r1, h2, h7⟩ := bind_some' h7
    rcases iteb_some h7 with ⟨h3, h7⟩ | ⟨h3, h7⟩
    · obtain ⟨r4, h5, h7⟩ := bind_some' h7
      refine Tri.r1 [2] 0 [] [(1, .call (oB r1) [] false), (1, .ov [.sc (.bool true)]), (4, .call (oB r4) [] false)] [_, _, _, _, _] ⟨10, [(2, oB (!r4))], [], 0, []⟩ (by kernel_rfl) ⟨(spec_NameOK.fn k a0 r1 h2), (show (List.all [cB r1] PC.flatB) = true from rfl), (ovb h3), (spec_IsKey.fn k a0 r4 h5), (show (List.all [cB r4] PC.flatB) = true from rfl), trivial⟩ ?_
      exact ⟨(!r4), (Option.some.inj h7).symm, rfl⟩
    · refine Tri.r1 [2] 0 [] [(1, .call (oB r1) [] false), (1, .ov [.sc (.bool false)])] [_, _, _] ⟨10, [(2, oB false)], [], 0, []⟩ (by kernel_rfl) ⟨(spec_NameOK.fn k a0 r1 h2), (show (List.all [cB r1] PC.flatB) = true from rfl), (ovb h3), trivial⟩ ?_
      exact ⟨false, (Option.some.inj h7).symm, rfl⟩
/-! spec_l04Signs: function 34 -/
def spec_l04Signs.f (k : Nat) : Option (List ByteArray) := some ([(⟨#[43]⟩ : ByteArray), (⟨#[45]⟩ : ByteArray), (⟨#[42]⟩ : ByteArray), (⟨#[68, 73, 86]⟩ : ByteArray), (⟨#[77, 79, 68]⟩ : ByteArray), (⟨#[61]⟩ : ByteArray), (⟨#[35]⟩ : ByteArray), (⟨#[60]⟩ : ByteArray), (⟨#[60, 61]⟩ : ByteArray), (⟨#[62]⟩ : ByteArray), (⟨#[62, 61]⟩ : ByteArray)] : List ByteArray)
set_option maxRecDepth 100000 in
theorem spec_l04Signs.fn (k : Nat) (r : (List ByteArray)) (H : spec_l04Signs.f k  = some r) : Fn Tryd.prog 34 [] [] (o1 (.own 9 (List.map eS r))) [] := by
  unfold spec_l04Signs.f at H
  refine Fn.body (ts := [0]) Tryd.func34 rfl rfl (by decide) (by decide) (Nat.le_of_ble_eq_true rfl) (Nat.le_refl _) ?_
  refine Tri.rn [] 0 [] [] [] ⟨2, [], [], 0, []⟩ (by kernel_rfl) trivial ?_
  refine Tri.rn [0] 0 [] [] [] ⟨2, [(0, o1 (.own 9 (List.map eS ([(⟨#[43]⟩ : ByteArray), (⟨#[45]⟩ : ByteArray), (⟨#[42]⟩ : ByteArray), (⟨#[68, 73, 86]⟩ : ByteArray), (⟨#[77, 79, 68]⟩ : ByteArray), (⟨#[61]⟩ : ByteArray), (⟨#[35]⟩ : ByteArray), (⟨#[60]⟩ : ByteArray), (⟨#[60, 61]⟩ : ByteArray), (⟨#[62]⟩ : ByteArray), (⟨#[62, 61]⟩ : ByteArray)] : List ByteArray))))], [], 0, []⟩ (by kernel_rfl) trivial ?_
  refine Tri.ret ?_
  obtain rfl := Option.some.inj H
  exact ⟨.inr rfl, rfl, rfl, Nat.le_refl _, rfl, by simp⟩
/-! spec_l04Ins: function 57 -/
def spec_l04Ins.e1 (k : Nat) (a0 : SIns) : Option Bool := if a0.f0 = 3 then (some true) else (some (decide (a0.f0 = 13)))
def spec_l04Ins.e2 (k : Nat) (a0 : SIns) (y2 : Bool) : Option Bool := if a0.f3 = (⟨#[]⟩ : ByteArray) then (if y2 = true then (if a0.f4 = (⟨#[]⟩ : ByteArray) then (some true) else ((spec_l02Name.f k a0.f3).bind fun r8 => if r8 = true then ((spec_l02Name.f k a0.f4).bind fun r11 => if r11 = true then (if a0.f0 = 13 then (some false) else (some (!(decide (a0.f2 = 0))))) else (some true)) else (some true))) else (if a0.f4 = (⟨#[]⟩ : ByteArray) then (if a0.f0 = 13 then (some false) else (some (!(decide (a0.f2 = 0))))) else (some true))) else (if y2 = true then ((spec_l02Name.f k a0.f3).bind fun r18 => if r18 = true then ((spec_l02Name.f k a0.f4).bind fun r21 => if r21 = true then (if a0.f0 = 13 then (some false) else (some (!(decide (a0.f2 = 0))))) else (some true)) else (some true)) else (some true))
def spec_l04Ins.e3 (k : Nat) (a0 : SIns) : Option Bool := if a0.f0 = 11 then (some (decide (a0.f0 = 11))) else (some (decide (a0.f0 = 12)))
def spec_l04Ins.e4 (k : Nat) (a0 : SIns) : Option Bool := (spec_l01In.f k a0.f1 0 20).bind fun r49 => if r49 = true then ((spec_l01In.f k a0.f2 0 1).bind fun r52 => some r52) else (some false)
def spec_l04Ins.e5 (k : Nat) (a0 : SIns) : Option Bool := if a0.f0 = 15 then (some (decide (a0.f0 = 15))) else (some (decide (a0.f0 = 16)))
def spec_l04Ins.e6 (k : Nat) (a0 : SIns) : Option Bool := (spec_l01In.f k a0.f1 1 3).bind fun r63 => if r63 = true then (if a0.f0 = 15 then (some true) else (some (!(decide (a0.f1 = 2))))) else (some false)
def spec_l04Ins.e7 (k : Nat) (a0 : SIns) : Option Bool := if a0.f1 = 0 then ((spec_l01In.f k a0.f0 3 10).bind fun r74 => some r74) else (some false)
def spec_l04Ins.f (k : Nat) (a0 : SIns) (a1 : SCode) : Option Bool := (spec_l04Ins.e1 k a0).bind fun y2 => (spec_l04Ins.e2 k a0 y2).bind fun y25 => if y25 = true then (some false) else (if a0.f0 = 1 then (some true) else (if a0.f0 = 2 then ((spec_l01In.f k a0.f1 0 (w64 (a1.f2 - 1))).bind fun r31 => some r31) else (if a0.f0 = 6 then ((spec_l01In.f k a0.f1 1 100).bind fun r34 => some r34) else (if a0.f0 = 7 then ((spec_l04Signs.f k).bind fun r37 => (spec_l01In.f k a0.f1 0 (w64 ((r37.length : Int) - 1))).bind fun r39 => some r39) else ((spec_l04Ins.e3 k a0).bind fun y42 => if y42 = true then ((spec_l01In.f k a0.f1 0 (w64 ((a1.f4.length : Int) - 1))).bind fun r46 => some r46) else (if a0.f0 = 13 then ((spec_l04Ins.e4 k a0).bind fun y54 => some y54) else (if a0.f0 = 14 then (some (decide (a0.f1 = a1.f3))) else ((spec_l04Ins.e5 k a0).bind fun y59 => if y59 = true then ((spec_l04Ins.e6 k a0).bind fun y67 => some y67) else (if a0.f0 = 17 then ((spec_l01In.f k a0.f1 1 5).bind fun r71 => some r71) else ((spec_l04Ins.e7 k a0).bind fun y76 => some y76))))))))))
set_option maxRecDepth 100000 in
theorem spec_l04Ins.fn (k : Nat) (a0 : SIns) (a1 : SCode) (r : Bool) (H : spec_l04Ins.f k a0 a1 = some r) : Fn Tryd.prog 57 [ag (eSIns a0), ag (eSCode a1)] [] (oB r) [] := by
  unfold spec_l04Ins.f at H
  refine Fn.body (ts := [4]) Tryd.func57 rfl rfl (by decide) (by decide) (Nat.le_of_ble_eq_true rfl) (Nat.le_refl _) ?_
  refine Tri.rn [2, 3] 2 [] [] [] ⟨130, [(2, o1 (.ref 0 0)), (3, o1 (.ref 1 0))], [eSIns a0, eSCode a1], 0, []⟩ (by kernel_rfl) trivial ?_
  obtain ⟨v4, h3, H⟩ := bind_some' H
  refine Tri.join (α := Bool) (fun w => v4 = w) (fun y2 => ⟨130, [(2, o1 (.ref 0 0)), (3, o1 (.ref 1 0)), (5, oB y2)], [eSIns a0, eSCode a1], 0, []⟩) (fun y2 hw => ?_) ?_
  · rw [hw] at H; clear hw
    try dsimp only at H
    refine Tri.seq ?_
    obtain ⟨v27, h26, H⟩ := bind_some' H
    refine Tri.join (α := Bool) (fun w => v27 = w) (fun y25 => ⟨130, [(2, o1 (.ref 0 0)), (3, o1 (.ref 1 0)), (48, oB y25)], [eSIns a0, eSCode a1], 0, []⟩) (fun y25 hw => ?_) ?_
    · rw [hw] at H; clear hw
      try dsimp only at H
      rcases iteb_some H with ⟨h28, H⟩ | ⟨h28, H⟩
      · refine Tri.cond_true (useb h28 (by kernel_rfl)) ?_
        refine Tri.rn [4] 0 [] [] [] ⟨130, [(4, oB false)], [], 0, []⟩ (by kernel_rfl) trivial ?_
        refine Tri.ret ?_
        obtain rfl := Option.some.inj H
        exact ⟨.inr rfl, rfl, rfl, Nat.le_refl _, rfl, by simp⟩
      · refine Tri.cond_false (useb h28 (by kernel_rfl)) ?_
        refine Tri.skip ?_
        refine Tri.seq ?_
        refine Tri.rn [2, 3, 50] 2 [] [] [] ⟨130, [(2, o1 (.ref 0 0)), (3, o1 (.ref 1 0)), (50, oI a0.f0)], [eSIns a0, eSCode a1], 0, []⟩ (by kernel_rfl) trivial ?_
        refine Tri.block ?_
        refine Tri.rn [2, 3, 50, 51] 2 [] [] [] ⟨130, [(2, o1 (.ref 0 0)), (3, o1 (.ref 1 0)), (50, oI a0.f0), (51, oB (decide (a0.f0 = 1)))], [eSIns a0, eSCode a1], 0, []⟩ (by kernel_rfl) trivial ?_
        rcases ite_some H with ⟨h29, H⟩ | ⟨h29, H⟩
        · refine Tri.cond_true (useb (decide_eq_true h29) (by kernel_rfl)) ?_
          refine Tri.rn [4] 0 [] [] [] ⟨130, [(4, oB true)], [], 0, []⟩ (by kernel_rfl) trivial ?_
          refine Tri.ret ?_
          obtain rfl := Option.some.inj H
          exact ⟨.inr rfl, rfl, rfl, Nat.le_refl _, rfl, by simp⟩
        · refine Tri.cond_false (useb (decide_eq_false h29) (by kernel_rfl)) ?_
          refine Tri.rn [2, 3, 50, 53] 2 [] [] [] ⟨130, [(2, o1 (.ref 0 0)), (3, o1 (.ref 1 0)), (50, oI a0.f0), (53, oB (decide (a0.f0 = 2)))], [eSIns a0, eSCode a1], 0, []⟩ (by kernel_rfl) trivial ?_
          rcases ite_some H with ⟨h30, H⟩ | ⟨h30, H⟩
          · refine Tri.cond_true (useb (decide_eq_true h30) (by kernel_rfl)) ?_
            obtain ⟨r31, h32, H⟩ := bind_some' H
            refine Tri.rn [4] 0 [] [(5, .call (oB r31) [] false)] [_, _] ⟨130, [(4, oB r31)], [], 0, []⟩ (by kernel_rfl) ⟨(spec_l01In.fn k a0.f1 0 (w64 (a1.f2 - 1)) r31 h32), (show (List.all [cB r31] PC.flatB) = true from rfl), trivial⟩ ?_
            refine Tri.ret ?_
            obtain rfl := Option.some.inj H
            exact ⟨.inr rfl, rfl, rfl, Nat.le_refl _, rfl, by simp⟩
          · refine Tri.cond_false (useb (decide_eq_false h30) (by kernel_rfl)) ?_
            refine Tri.rn [2, 3, 50, 61] 2 [] [] [] ⟨130, [(2, o1 (.ref 0 0)), (3, o1 (.ref 1 0)), (50, oI a0.f0), (61, oB (decide (a0.f0 = 6)))], [eSIns a0, eSCode a1], 0, []⟩ (by kernel_rfl) trivial ?_
            rcases ite_some H with ⟨h33, H⟩ | ⟨h33, H⟩
            · refine Tri.cond_true (useb (decide_eq_true h33) (by kernel_rfl)) ?_
              obtain ⟨r34, h35, H⟩ := bind_some' H
              refine Tri.rn [4] 0 [] [(2, .call (oB r34) [] false)] [_, _] ⟨130, [(4, oB r34)], [], 0, []⟩ (by kernel_rfl) ⟨(spec_l01In.fn k a0.f1 1 100 r34 h35), (show (List.all [cB r34] PC.flatB) = true from rfl), trivial⟩ ?_
              refine Tri.ret ?_
              obtain rfl := Option.some.inj H
              exact ⟨.inr rfl, rfl, rfl, Nat.le_refl _, rfl, by simp⟩
            · refine Tri.cond_false (useb (decide_eq_false h33) (by kernel_rfl)) ?_
              refine Tri.rn [2, 3, 50, 66] 2 [] [] [] ⟨130, [(2, o1 (.ref 0 0)), (3, o1 (.ref 1 0)), (50, oI a0.f0), (66, oB (decide (a0.f0 = 7)))], [eSIns a0, eSCode a1], 0, []⟩ (by kernel_rfl) trivial ?_
              rcases ite_some H with ⟨h36, H⟩ | ⟨h36, H⟩
              · refine Tri.cond_true (useb (decide_eq_true h36) (by kernel_rfl)) ?_
                obtain ⟨r37, h38, H⟩ := bind_some' H
                obtain ⟨r39, h40, H⟩ := bind_some' H
                refine Tri.dn hmix 5 [[], [0], [], [2], [2, 3], [0, 1, 2, 3, 4], [0, 1, 2, 3, 4, 5]] [4] 0 [] [(2, .call (o1 (.own 9 (List.map eS r37))) [] false), (3, .ov [.sc (.int .i64 (r37.length : Int))]), (5, .call (oB r39) [] false)] [_, _, _, _, _] ⟨130, [(4, oB r39)], [], 0, []⟩ (by kernel_rfl) ⟨(spec_l04Signs.fn k r37 h38), (show (List.all [.own 9 (List.map eS r37)] PC.flatB) = true by simp [PC.flatB, PC.scalar, cI, cK, cB, cS, eS]), (ovlen (f := eS) (l := r37)), (spec_l01In.fn k a0.f1 0 (w64 ((r37.length : Int) - 1)) r39 h40), (show (List.all [cB r39] PC.flatB) = true from rfl), trivial⟩ ?_
                refine Tri.ret ?_
                obtain rfl := Option.some.inj H
                exact ⟨.inr rfl, rfl, rfl, Nat.le_refl _, rfl, by simp⟩
              · refine Tri.cond_false (useb (decide_eq_false h36) (by kernel_rfl)) ?_
                obtain ⟨v44, h43, H⟩ := bind_some' H
                refine Tri.join (α := Bool) (fun w => v44 = w) (fun y42 => ⟨130, [(2, o1 (.ref 0 0)), (3, o1 (.ref 1 0)), (50, oI a0.f0), (74, oB y42)], [eSIns a0, eSCode a1], 0, []⟩) (fun y42 hw => ?_) ?_
                · rw [hw] at H; clear hw
                  try dsimp only at H
                  rcases iteb_some H with ⟨h45, H⟩ | ⟨h45, H⟩
                  · refine Tri.cond_true (useb h45 (by kernel_rfl)) ?_
                    obtain ⟨r46, h47, H⟩ := bind_some' H
                    refine Tri.rn [4] 0 [] [(4, .ov [.sc (.int .i64 (a1.f4.length : Int))]), (6, .call (oB r46) [] false)] [_, _, _] ⟨130, [(4, oB r46)], [], 0, []⟩ (by kernel_rfl) ⟨(ovlen (f := eSIns) (l := a1.f4)), (spec_l01In.fn k a0.f1 0 (w64 ((a1.f4.length : Int) - 1)) r46 h47), (show (List.all [cB r46] PC.flatB) = true from rfl), trivial⟩ ?_
                    refine Tri.ret ?_
                    obtain rfl := Option.some.inj H
                    exact ⟨.inr rfl, rfl, rfl, Nat.le_refl _, rfl, by simp⟩
                  · refine Tri.cond_false (useb h45 (by kernel_rfl)) ?_
                    refine Tri.rn [2, 3, 50, 84] 2 [] [] [] ⟨130, [(2, o1 (.ref 0 0)), (3, o1 (.ref 1 0)), (50, oI a0.f0), (84, oB (decide (a0.f0 = 13)))], [eSIns a0, eSCode a1], 0, []⟩ (by kernel_rfl) trivial ?_
                    rcases ite_some H with ⟨h48, H⟩ | ⟨h48, H⟩
                    · refine Tri.cond_true (useb (decide_eq_true h48) (by kernel_rfl)) ?_
                      obtain ⟨v56, h55, H⟩ := bind_some' H
                      refine Tri.join (α := Bool) (fun w => v56 = w) (fun y54 => ⟨130, [(4, oB y54)], [], 0, []⟩) (fun y54 hw => ?_) ?_
                      · rw [hw] at H; clear hw
                        try dsimp only at H
                        refine Tri.ret ?_
                        obtain rfl := Option.some.inj H
                        exact ⟨.inr rfl, rfl, rfl, Nat.le_refl _, rfl, by simp⟩
                      · unfold spec_l04Ins.e4 at h55
                        obtain ⟨r49, h50, h55⟩ := bind_some' h55
                        rcases iteb_some h55 with ⟨h51, h55⟩ | ⟨h51, h55⟩
                        · obtain ⟨r52, h53, h55⟩ := bind_some' h55
                          refine Tri.r1 [4] 0 [] [(2, .call (oB r49) [] false), (2, .ov [.sc (.bool true)]), (6, .call (oB r52) [] false)] [_, _, _, _, _] ⟨130, [(4, oB r52)], [], 0, []⟩ (by kernel_rfl) ⟨(spec_l01In.fn k a0.f1 0 20 r49 h50), (show (List.all [cB r49] PC.flatB) = true from rfl), (ovb h51), (spec_l01In.fn k a0.f2 0 1 r52 h53), (show (List.all [cB r52] PC.flatB) = true from rfl), trivial⟩ ?_
                          exact ⟨r52, (Option.some.inj h55).symm, rfl⟩
                        · refine Tri.r1 [4] 0 [] [(2, .call (oB r49) [] false), (2, .ov [.sc (.bool false)])] [_, _, _] ⟨130, [(4, oB false)], [], 0, []⟩ (by kernel_rfl) ⟨(spec_l01In.fn k a0.f1 0 20 r49 h50), (show (List.all [cB r49] PC.flatB) = true from rfl), (ovb h51), trivial⟩ ?_
                          exact ⟨false, (Option.some.inj h55).symm, rfl⟩
                    · refine Tri.cond_false (useb (decide_eq_false h48) (by kernel_rfl)) ?_
                      refine Tri.rn [2, 3, 50, 94] 2 [] [] [] ⟨130, [(2, o1 (.ref 0 0)), (3, o1 (.ref 1 0)), (50, oI a0.f0), (94, oB (decide (a0.f0 = 14)))], [eSIns a0, eSCode a1], 0, []⟩ (by kernel_rfl) trivial ?_
                      rcases ite_some H with ⟨h57, H⟩ | ⟨h57, H⟩
                      · refine Tri.cond_true (useb (decide_eq_true h57) (by kernel_rfl)) ?_
                        refine Tri.rn [4] 0 [] [] [] ⟨130, [(4, oB (decide (a0.f1 = a1.f3)))], [], 0, []⟩ (by kernel_rfl) trivial ?_
                        refine Tri.ret ?_
                        obtain rfl := Option.some.inj H
                        exact ⟨.inr rfl, rfl, rfl, Nat.le_refl _, rfl, by simp⟩
                      · refine Tri.cond_false (useb (decide_eq_false h57) (by kernel_rfl)) ?_
                        obtain ⟨v61, h60, H⟩ := bind_some' H
                        refine Tri.join (α := Bool) (fun w => v61 = w) (fun y59 => ⟨130, [(2, o1 (.ref 0 0)), (50, oI a0.f0), (101, oB y59)], [eSIns a0], 0, []⟩) (fun y59 hw => ?_) ?_
                        · rw [hw] at H; clear hw
                          try dsimp only at H
                          rcases iteb_some H with ⟨h62, H⟩ | ⟨h62, H⟩
                          · refine Tri.cond_true (useb h62 (by kernel_rfl)) ?_
                            obtain ⟨v69, h68, H⟩ := bind_some' H
                            refine Tri.join (α := Bool) (fun w => v69 = w) (fun y67 => ⟨130, [(4, oB y67)], [], 0, []⟩) (fun y67 hw => ?_) ?_
                            · rw [hw] at H; clear hw
                              try dsimp only at H
                              refine Tri.ret ?_
                              obtain rfl := Option.some.inj H
                              exact ⟨.inr rfl, rfl, rfl, Nat.le_refl _, rfl, by simp⟩
                            · unfold spec_l04Ins.e6 at h68
                              obtain ⟨r63, h64, h68⟩ := bind_some' h68
                              rcases iteb_some h68 with ⟨h65, h68⟩ | ⟨h65, h68⟩
                              · rcases ite_some h68 with ⟨h66, h68⟩ | ⟨h66, h68⟩
                                · refine Tri.r1 [4] 0 [] [(2, .call (oB r63) [] false), (2, .ov [.sc (.bool true)]), (6, .ov [.sc (.bool true)])] [_, _, _, _] ⟨130, [(4, oB true)], [], 0, []⟩ (by kernel_rfl) ⟨(spec_l01In.fn k a0.f1 1 3 r63 h64), (show (List.all [cB r63] PC.flatB) = true from rfl), (ovb h65), (ovb (decide_eq_true h66)), trivial⟩ ?_
                                  exact ⟨true, (Option.some.inj h68).symm, rfl⟩
                                · refine Tri.r1 [4] 0 [] [(2, .call (oB r63) [] false), (2, .ov [.sc (.bool true)]), (6, .ov [.sc (.bool false)])] [_, _, _, _] ⟨130, [(4, oB (!(decide (a0.f1 = 2))))], [], 0, []⟩ (by kernel_rfl) ⟨(spec_l01In.fn k a0.f1 1 3 r63 h64), (show (List.all [cB r63] PC.flatB) = true from rfl), (ovb h65), (ovb (decide_eq_false h66)), trivial⟩ ?_
                                  exact ⟨(!(decide (a0.f1 = 2))), (Option.some.inj h68).symm, rfl⟩
                              · refine Tri.r1 [4] 0 [] [(2, .call (oB r63) [] false), (2, .ov [.sc (.bool false)])] [_, _, _] ⟨130, [(4, oB false)], [], 0, []⟩ (by kernel_rfl) ⟨(spec_l01In.fn k a0.f1 1 3 r63 h64), (show (List.all [cB r63] PC.flatB) = true from rfl), (ovb h65), trivial⟩ ?_
                                exact ⟨false, (Option.some.inj h68).symm, rfl⟩
                          · refine Tri.cond_false (useb h62 (by kernel_rfl)) ?_
                            refine Tri.rn [2, 117] 1 [] [] [] ⟨130, [(2, o1 (.ref 0 0)), (117, oB (decide (a0.f0 = 17)))], [eSIns a0], 0, []⟩ (by kernel_rfl) trivial ?_
                            rcases ite_some H with ⟨h70, H⟩ | ⟨h70, H⟩
                            · refine Tri.cond_true (useb (decide_eq_true h70) (by kernel_rfl)) ?_
                              obtain ⟨r71, h72, H⟩ := bind_some' H
                              refine Tri.rn [4] 0 [] [(2, .call (oB r71) [] false)] [_, _] ⟨130, [(4, oB r71)], [], 0, []⟩ (by kernel_rfl) ⟨(spec_l01In.fn k a0.f1 1 5 r71 h72), (show (List.all [cB r71] PC.flatB) = true from rfl), trivial⟩ ?_
                              refine Tri.ret ?_
                              obtain rfl := Option.some.inj H
                              exact ⟨.inr rfl, rfl, rfl, Nat.le_refl _, rfl, by simp⟩
                            · refine Tri.cond_false (useb (decide_eq_false h70) (by kernel_rfl)) ?_
                              refine Tri.skip ?_
                              obtain ⟨v78, h77, H⟩ := bind_some' H
                              refine Tri.join (α := Bool) (fun w => v78 = w) (fun y76 => ⟨130, [(4, oB y76)], [], 0, []⟩) (fun y76 hw => ?_) ?_
                              · rw [hw] at H; clear hw
                                try dsimp only at H
                                refine Tri.ret ?_
                                obtain rfl := Option.some.inj H
                                exact ⟨.inr rfl, rfl, rfl, Nat.le_refl _, rfl, by simp⟩
                              · unfold spec_l04Ins.e7 at h77
                                rcases ite_some h77 with ⟨h73, h77⟩ | ⟨h73, h77⟩
                                · obtain ⟨r74, h75, h77⟩ := bind_some' h77
                                  refine Tri.r1 [4] 0 [] [(2, .ov [.sc (.bool true)]), (6, .call (oB r74) [] false)] [_, _, _] ⟨130, [(4, oB r74)], [], 0, []⟩ (by kernel_rfl) ⟨(ovb (decide_eq_true h73)), (spec_l01In.fn k a0.f0 3 10 r74 h75), (show (List.all [cB r74] PC.flatB) = true from rfl), trivial⟩ ?_
                                  exact ⟨r74, (Option.some.inj h77).symm, rfl⟩
                                · refine Tri.r1 [4] 0 [] [(2, .ov [.sc (.bool false)])] [_] ⟨130, [(4, oB false)], [], 0, []⟩ (by kernel_rfl) ⟨(ovb (decide_eq_false h73)), trivial⟩ ?_
                                  exact ⟨false, (Option.some.inj h77).symm, rfl⟩
                        · unfold spec_l04Ins.e5 at h60
                          refine Tri.rn [2, 50, 101] 1 [] [] [] ⟨130, [(2, o1 (.ref 0 0)), (50, oI a0.f0), (101, oB (decide (a0.f0 = 15)))], [eSIns a0], 0, []⟩ (by kernel_rfl) trivial ?_
                          rcases ite_some h60 with ⟨h58, h60⟩ | ⟨h58, h60⟩
                          · refine Tri.cond_true (useb (decide_eq_true h58) (by kernel_rfl)) ?_
                            refine Tri.skip ?_
                            exact ⟨(decide (a0.f0 = 15)), (Option.some.inj h60).symm, rfl⟩
                          · refine Tri.cond_false (useb (decide_eq_false h58) (by kernel_rfl)) ?_
                            refine Tri.r1 [2, 50, 101] 1 [] [] [] ⟨130, [(2, o1 (.ref 0 0)), (50, oI a0.f0), (101, oB (decide (a0.f0 = 16)))], [eSIns a0], 0, []⟩ (by kernel_rfl) trivial ?_
                            exact ⟨(decide (a0.f0 = 16)), (Option.some.inj h60).symm, rfl⟩
                · unfold spec_l04Ins.e3 at h43
                  refine Tri.rn [2, 3, 50, 74] 2 [] [] [] ⟨130, [(2, o1 (.ref 0 0)), (3, o1 (.ref 1 0)), (50, oI a0.f0), (74, oB (decide (a0.f0 = 11)))], [eSIns a0, eSCode a1], 0, []⟩ (by kernel_rfl) trivial ?_
                  rcases ite_some h43 with ⟨h41, h43⟩ | ⟨h41, h43⟩
                  · refine Tri.cond_true (useb (decide_eq_true h41) (by kernel_rfl)) ?_
                    refine Tri.skip ?_
                    exact ⟨(decide (a0.f0 = 11)), (Option.some.inj h43).symm, rfl⟩
                  · refine Tri.cond_false (useb (decide_eq_false h41) (by kernel_rfl)) ?_
                    refine Tri.r1 [2, 3, 50, 74] 2 [] [] [] ⟨130, [(2, o1 (.ref 0 0)), (3, o1 (.ref 1 0)), (50, oI a0.f0), (74, oB (decide (a0.f0 = 12)))], [eSIns a0, eSCode a1], 0, []⟩ (by kernel_rfl) trivial ?_
                    exact ⟨(decide (a0.f0 = 12)), (Option.some.inj h43).symm, rfl⟩
    · unfold spec_l04Ins.e2 at h26
      rcases ite_some h26 with ⟨h5, h26⟩ | ⟨h5, h26⟩
      · rcases iteb_some h26 with ⟨h6, h26⟩ | ⟨h6, h26⟩
        · rcases ite_some h26 with ⟨h7, h26⟩ | ⟨h7, h26⟩
          · refine Tri.r1 [2, 3, 48] 2 [] [(0, .ov [.sc (.bool true)]), (3, .ov [.sc (.bool false)]), (7, .ov [.sc (.bool false)])] [_, _, _] ⟨130, [(2, o1 (.ref 0 0)), (3, o1 (.ref 1 0)), (48, oB true)], [eSIns a0, eSCode a1], 0, []⟩ (by kernel_rfl) ⟨(ovb h6), (ovb (nF (decide_eq_true h5))), (ovb (nF (decide_eq_true h7))), trivial⟩ ?_
            exact ⟨true, (Option.some.inj h26).symm, rfl⟩
          · obtain ⟨r8, h9, h26⟩ := bind_some' h26
            rcases iteb_some h26 with ⟨h10, h26⟩ | ⟨h10, h26⟩
            · obtain ⟨r11, h12, h26⟩ := bind_some' h26
              rcases iteb_some h26 with ⟨h13, h26⟩ | ⟨h13, h26⟩
              · rcases ite_some h26 with ⟨h14, h26⟩ | ⟨h14, h26⟩
                · refine Tri.r1 [2, 3, 48] 2 [] [(0, .ov [.sc (.bool true)]), (3, .ov [.sc (.bool false)]), (7, .ov [.sc (.bool true)]), (11, .ov [.sc (.bool true)]), (15, .call (oB r8) [] false), (15, .ov [.sc (.bool true)]), (20, .call (oB r11) [] false), (20, .ov [.sc (.bool true)]), (28, .ov [.sc (.bool false)])] [_, _, _, _, _, _, _, _, _, _, _] ⟨130, [(2, o1 (.ref 0 0)), (3, o1 (.ref 1 0)), (48, oB false)], [eSIns a0, eSCode a1], 0, []⟩ (by kernel_rfl) ⟨(ovb h6), (ovb (nF (decide_eq_true h5))), (ovb (nT (decide_eq_false h7))), (ovb h6), (spec_l02Name.fn k a0.f3 r8 h9), (show (List.all [cB r8] PC.flatB) = true from rfl), (ovb h10), (spec_l02Name.fn k a0.f4 r11 h12), (show (List.all [cB r11] PC.flatB) = true from rfl), (ovb h13), (ovb (nF (decide_eq_true h14))), trivial⟩ ?_
                  exact ⟨false, (Option.some.inj h26).symm, rfl⟩
                · refine Tri.r1 [2, 3, 48] 2 [] [(0, .ov [.sc (.bool true)]), (3, .ov [.sc (.bool false)]), (7, .ov [.sc (.bool true)]), (11, .ov [.sc (.bool true)]), (15, .call (oB r8) [] false), (15, .ov [.sc (.bool true)]), (20, .call (oB r11) [] false), (20, .ov [.sc (.bool true)]), (28, .ov [.sc (.bool true)])] [_, _, _, _, _, _, _, _, _, _, _] ⟨130, [(2, o1 (.ref 0 0)), (3, o1 (.ref 1 0)), (48, oB (!(decide (a0.f2 = 0))))], [eSIns a0, eSCode a1], 0, []⟩ (by kernel_rfl) ⟨(ovb h6), (ovb (nF (decide_eq_true h5))), (ovb (nT (decide_eq_false h7))), (ovb h6), (spec_l02Name.fn k a0.f3 r8 h9), (show (List.all [cB r8] PC.flatB) = true from rfl), (ovb h10), (spec_l02Name.fn k a0.f4 r11 h12), (show (List.all [cB r11] PC.flatB) = true from rfl), (ovb h13), (ovb (nT (decide_eq_false h14))), trivial⟩ ?_
                  exact ⟨(!(decide (a0.f2 = 0))), (Option.some.inj h26).symm, rfl⟩
              · refine Tri.r1 [2, 3, 48] 2 [] [(0, .ov [.sc (.bool true)]), (3, .ov [.sc (.bool false)]), (7, .ov [.sc (.bool true)]), (11, .ov [.sc (.bool true)]), (15, .call (oB r8) [] false), (15, .ov [.sc (.bool true)]), (20, .call (oB r11) [] false), (20, .ov [.sc (.bool false)])] [_, _, _, _, _, _, _, _, _, _] ⟨130, [(2, o1 (.ref 0 0)), (3, o1 (.ref 1 0)), (48, oB true)], [eSIns a0, eSCode a1], 0, []⟩ (by kernel_rfl) ⟨(ovb h6), (ovb (nF (decide_eq_true h5))), (ovb (nT (decide_eq_false h7))), (ovb h6), (spec_l02Name.fn k a0.f3 r8 h9), (show (List.all [cB r8] PC.flatB) = true from rfl), (ovb h10), (spec_l02Name.fn k a0.f4 r11 h12), (show (List.all [cB r11] PC.flatB) = true from rfl), (ovb h13), trivial⟩ ?_
                exact ⟨true, (Option.some.inj h26).symm, rfl⟩
            · refine Tri.r1 [2, 3, 48] 2 [] [(0, .ov [.sc (.bool true)]), (3, .ov [.sc (.bool false)]), (7, .ov [.sc (.bool true)]), (11, .ov [.sc (.bool true)]), (15, .call (oB r8) [] false), (15, .ov [.sc (.bool false)])] [_, _, _, _, _, _, _] ⟨130, [(2, o1 (.ref 0 0)), (3, o1 (.ref 1 0)), (48, oB true)], [eSIns a0, eSCode a1], 0, []⟩ (by kernel_rfl) ⟨(ovb h6), (ovb (nF (decide_eq_true h5))), (ovb (nT (decide_eq_false h7))), (ovb h6), (spec_l02Name.fn k a0.f3 r8 h9), (show (List.all [cB r8] PC.flatB) = true from rfl), (ovb h10), trivial⟩ ?_
              exact ⟨true, (Option.some.inj h26).symm, rfl⟩
        · rcases ite_some h26 with ⟨h15, h26⟩ | ⟨h15, h26⟩
          · rcases ite_some h26 with ⟨h16, h26⟩ | ⟨h16, h26⟩
            · refine Tri.r1 [2, 3, 48] 2 [] [(0, .ov [.sc (.bool false)]), (3, .ov [.sc (.bool false)]), (7, .ov [.sc (.bool false)]), (11, .ov [.sc (.bool false)]), (28, .ov [.sc (.bool false)])] [_, _, _, _, _] ⟨130, [(2, o1 (.ref 0 0)), (3, o1 (.ref 1 0)), (48, oB false)], [eSIns a0, eSCode a1], 0, []⟩ (by kernel_rfl) ⟨(ovb h6), (ovb (nF (decide_eq_true h5))), (ovb (nF (decide_eq_true h15))), (ovb h6), (ovb (nF (decide_eq_true h16))), trivial⟩ ?_
              exact ⟨false, (Option.some.inj h26).symm, rfl⟩
            · refine Tri.r1 [2, 3, 48] 2 [] [(0, .ov [.sc (.bool false)]), (3, .ov [.sc (.bool false)]), (7, .ov [.sc (.bool false)]), (11, .ov [.sc (.bool false)]), (28, .ov [.sc (.bool true)])] [_, _, _, _, _] ⟨130, [(2, o1 (.ref 0 0)), (3, o1 (.ref 1 0)), (48, oB (!(decide (a0.f2 = 0))))], [eSIns a0, eSCode a1], 0, []⟩ (by kernel_rfl) ⟨(ovb h6), (ovb (nF (decide_eq_true h5))), (ovb (nF (decide_eq_true h15))), (ovb h6), (ovb (nT (decide_eq_false h16))), trivial⟩ ?_
              exact ⟨(!(decide (a0.f2 = 0))), (Option.some.inj h26).symm, rfl⟩
          · refine Tri.r1 [2, 3, 48] 2 [] [(0, .ov [.sc (.bool false)]), (3, .ov [.sc (.bool false)]), (7, .ov [.sc (.bool true)])] [_, _, _] ⟨130, [(2, o1 (.ref 0 0)), (3, o1 (.ref 1 0)), (48, oB true)], [eSIns a0, eSCode a1], 0, []⟩ (by kernel_rfl) ⟨(ovb h6), (ovb (nF (decide_eq_true h5))), (ovb (nT (decide_eq_false h15))), trivial⟩ ?_
            exact ⟨true, (Option.some.inj h26).symm, rfl⟩
      · rcases iteb_some h26 with ⟨h17, h26⟩ | ⟨h17, h26⟩
        · obtain ⟨r18, h19, h26⟩ := bind_some' h26
          rcases iteb_some h26 with ⟨h20, h26⟩ | ⟨h20, h26⟩
          · obtain ⟨r21, h22, h26⟩ := bind_some' h26
            rcases iteb_some h26 with ⟨h23, h26⟩ | ⟨h23, h26⟩
            · rcases ite_some h26 with ⟨h24, h26⟩ | ⟨h24, h26⟩
              · refine Tri.r1 [2, 3, 48] 2 [] [(0, .ov [.sc (.bool true)]), (3, .ov [.sc (.bool true)]), (11, .ov [.sc (.bool true)]), (15, .call (oB r18) [] false), (15, .ov [.sc (.bool true)]), (20, .call (oB r21) [] false), (20, .ov [.sc (.bool true)]), (28, .ov [.sc (.bool false)])] [_, _, _, _, _, _, _, _, _, _] ⟨130, [(2, o1 (.ref 0 0)), (3, o1 (.ref 1 0)), (48, oB false)], [eSIns a0, eSCode a1], 0, []⟩ (by kernel_rfl) ⟨(ovb h17), (ovb (nT (decide_eq_false h5))), (ovb h17), (spec_l02Name.fn k a0.f3 r18 h19), (show (List.all [cB r18] PC.flatB) = true from rfl), (ovb h20), (spec_l02Name.fn k a0.f4 r21 h22), (show (List.all [cB r21] PC.flatB) = true from rfl), (ovb h23), (ovb (nF (decide_eq_true h24))), trivial⟩ ?_
                exact ⟨false, (Option.some.inj h26).symm, rfl⟩
              · refine Tri.r1 [2, 3, 48] 2 [] [(0, .ov [.sc (.bool true)]), (3, .ov [.sc (.bool true)]), (11, .ov [.sc (.bool true)]), (15, .call (oB r18) [] false), (15, .ov [.sc (.bool true)]), (20, .call (oB r21) [] false), (20, .ov [.sc (.bool true)]), (28, .ov [.sc (.bool true)])] [_, _, _, _, _, _, _, _, _, _] ⟨130, [(2, o1 (.ref 0 0)), (3, o1 (.ref 1 0)), (48, oB (!(decide (a0.f2 = 0))))], [eSIns a0, eSCode a1], 0, []⟩ (by kernel_rfl) ⟨(ovb h17), (ovb (nT (decide_eq_false h5))), (ovb h17), (spec_l02Name.fn k a0.f3 r18 h19), (show (List.all [cB r18] PC.flatB) = true from rfl), (ovb h20), (spec_l02Name.fn k a0.f4 r21 h22), (show (List.all [cB r21] PC.flatB) = true from rfl), (ovb h23), (ovb (nT (decide_eq_false h24))), trivial⟩ ?_
                exact ⟨(!(decide (a0.f2 = 0))), (Option.some.inj h26).symm, rfl⟩
            · refine Tri.r1 [2, 3, 48] 2 [] [(0, .ov [.sc (.bool true)]), (3, .ov [.sc (.bool true)]), (11, .ov [.sc (.bool true)]), (15, .call (oB r18) [] false), (15, .ov [.sc (.bool true)]), (20, .call (oB r21) [] false), (20, .ov [.sc (.bool false)])] [_, _, _, _, _, _, _, _, _] ⟨130, [(2, o1 (.ref 0 0)), (3, o1 (.ref 1 0)), (48, oB true)], [eSIns a0, eSCode a1], 0, []⟩ (by kernel_rfl) ⟨(ovb h17), (ovb (nT (decide_eq_false h5))), (ovb h17), (spec_l02Name.fn k a0.f3 r18 h19), (show (List.all [cB r18] PC.flatB) = true from rfl), (ovb h20), (spec_l02Name.fn k a0.f4 r21 h22), (show (List.all [cB r21] PC.flatB) = true from rfl), (ovb h23), trivial⟩ ?_
              exact ⟨true, (Option.some.inj h26).symm, rfl⟩
          · refine Tri.r1 [2, 3, 48] 2 [] [(0, .ov [.sc (.bool true)]), (3, .ov [.sc (.bool true)]), (11, .ov [.sc (.bool true)]), (15, .call (oB r18) [] false), (15, .ov [.sc (.bool false)])] [_, _, _, _, _, _] ⟨130, [(2, o1 (.ref 0 0)), (3, o1 (.ref 1 0)), (48, oB true)], [eSIns a0, eSCode a1], 0, []⟩ (by kernel_rfl) ⟨(ovb h17), (ovb (nT (decide_eq_false h5))), (ovb h17), (spec_l02Name.fn k a0.f3 r18 h19), (show (List.all [cB r18] PC.flatB) = true from rfl), (ovb h20), trivial⟩ ?_
            exact ⟨true, (Option.some.inj h26).symm, rfl⟩
        · refine Tri.r1 [2, 3, 48] 2 [] [(0, .ov [.sc (.bool false)]), (3, .ov [.sc (.bool true)])] [_, _] ⟨130, [(2, o1 (.ref 0 0)), (3, o1 (.ref 1 0)), (48, oB true)], [eSIns a0, eSCode a1], 0, []⟩ (by kernel_rfl) ⟨(ovb h17), (ovb (nT (decide_eq_false h5))), trivial⟩ ?_
          exact ⟨true, (Option.some.inj h26).symm, rfl⟩
  · unfold spec_l04Ins.e1 at h3
    rcases ite_some h3 with ⟨h1, h3⟩ | ⟨h1, h3⟩
    · refine Tri.r1 [2, 3, 5] 2 [] [(2, .ov [.sc (.bool true)])] [_] ⟨130, [(2, o1 (.ref 0 0)), (3, o1 (.ref 1 0)), (5, oB true)], [eSIns a0, eSCode a1], 0, []⟩ (by kernel_rfl) ⟨(ovb (decide_eq_true h1)), trivial⟩ ?_
      exact ⟨true, (Option.some.inj h3).symm, rfl⟩
    · refine Tri.r1 [2, 3, 5] 2 [] [(2, .ov [.sc (.bool false)])] [_] ⟨130, [(2, o1 (.ref 0 0)), (3, o1 (.ref 1 0)), (5, oB (decide (a0.f0 = 13)))], [eSIns a0, eSCode a1], 0, []⟩ (by kernel_rfl) ⟨(ovb (decide_eq_false h1)), trivial⟩ ?_
      exact ⟨(decide (a0.f0 = 13)), (Option.some.inj h3).symm, rfl⟩
/-! spec_l04Effect: function 58 -/
def spec_l04Effect.e1 (k : Nat) (a0 : SIns) : Option Bool := if a0.f0 = 1 then (some (decide (a0.f0 = 1))) else (if a0.f0 = 2 then (some (decide (a0.f0 = 2))) else (some (decide (a0.f0 = 3))))
def spec_l04Effect.e2 (k : Nat) (a0 : SIns) : Option Bool := if a0.f0 = 4 then (some (decide (a0.f0 = 4))) else (if a0.f0 = 8 then (some (decide (a0.f0 = 8))) else (if a0.f0 = 9 then (some (decide (a0.f0 = 9))) else (some (decide (a0.f0 = 10)))))
def spec_l04Effect.e3 (k : Nat) (a0 : SIns) : Option Bool := if a0.f0 = 6 then (some (decide (a0.f0 = 6))) else (some (decide (a0.f0 = 7)))
def spec_l04Effect.e4 (k : Nat) (a0 : SIns) : Option Bool := if a0.f0 = 12 then (some (decide (a0.f0 = 12))) else (if a0.f0 = 15 then (some (decide (a0.f0 = 15))) else (some (decide (a0.f0 = 16))))
def spec_l04Effect.f (k : Nat) (a0 : SIns) : Option (Int × Int) := (spec_l04Effect.e1 k a0).bind fun y3 => if y3 = true then (some (0, 1)) else ((spec_l04Effect.e2 k a0).bind fun y10 => if y10 = true then (some (1, 1)) else (if a0.f0 = 5 then (some (2, 0)) else ((spec_l04Effect.e3 k a0).bind fun y16 => if y16 = true then (some (2, 1)) else ((spec_l04Effect.e4 k a0).bind fun y22 => if y22 = true then (some (1, 0)) else (if a0.f0 = 13 then (some (a0.f1, a0.f2)) else (if a0.f0 = 14 then (some (a0.f1, 0)) else (some (0, 0))))))))
set_option maxRecDepth 100000 in
theorem spec_l04Effect.fn (k : Nat) (a0 : SIns) (r : (Int × Int)) (H : spec_l04Effect.f k a0 = some r) : Fn Tryd.prog 58 [ag (eSIns a0)] [] (tp [none, none] [cI r.1, cI r.2]) [] := by
  unfold spec_l04Effect.f at H
  refine Fn.body (ts := [2, 3]) Tryd.func58 rfl rfl (by decide) (by decide) (Nat.le_of_ble_eq_true rfl) (Nat.le_refl _) ?_
  refine Tri.rn [1] 1 [] [] [] ⟨34, [(1, o1 (.ref 0 0))], [eSIns a0], 0, []⟩ (by kernel_rfl) trivial ?_
  refine Tri.seq ?_
  refine Tri.rn [1, 5] 1 [] [] [] ⟨34, [(1, o1 (.ref 0 0)), (5, oI a0.f0)], [eSIns a0], 0, []⟩ (by kernel_rfl) trivial ?_
  refine Tri.block ?_
  obtain ⟨v5, h4, H⟩ := bind_some' H
  refine Tri.join (α := Bool) (fun w => v5 = w) (fun y3 => ⟨34, [(1, o1 (.ref 0 0)), (5, oI a0.f0), (6, oB y3)], [eSIns a0], 0, []⟩) (fun y3 hw => ?_) ?_
  · rw [hw] at H; clear hw
    try dsimp only at H
    rcases iteb_some H with ⟨h6, H⟩ | ⟨h6, H⟩
    · refine Tri.cond_true (useb h6 (by kernel_rfl)) ?_
      refine Tri.rn [2, 3] 0 [] [] [] ⟨34, [(2, oI 0), (3, oI 1)], [], 0, []⟩ (by kernel_rfl) trivial ?_
      refine Tri.ret ?_
      obtain rfl := Option.some.inj H
      exact ⟨.inr rfl, rfl, rfl, Nat.le_refl _, rfl, by simp⟩
    · refine Tri.cond_false (useb h6 (by kernel_rfl)) ?_
      obtain ⟨v12, h11, H⟩ := bind_some' H
      refine Tri.join (α := Bool) (fun w => v12 = w) (fun y10 => ⟨34, [(1, o1 (.ref 0 0)), (5, oI a0.f0), (10, oB y10)], [eSIns a0], 0, []⟩) (fun y10 hw => ?_) ?_
      · rw [hw] at H; clear hw
        try dsimp only at H
        rcases iteb_some H with ⟨h13, H⟩ | ⟨h13, H⟩
        · refine Tri.cond_true (useb h13 (by kernel_rfl)) ?_
          refine Tri.rn [2, 3] 0 [] [] [] ⟨34, [(2, oI 1), (3, oI 1)], [], 0, []⟩ (by kernel_rfl) trivial ?_
          refine Tri.ret ?_
          obtain rfl := Option.some.inj H
          exact ⟨.inr rfl, rfl, rfl, Nat.le_refl _, rfl, by simp⟩
        · refine Tri.cond_false (useb h13 (by kernel_rfl)) ?_
          refine Tri.rn [1, 5, 15] 1 [] [] [] ⟨34, [(1, o1 (.ref 0 0)), (5, oI a0.f0), (15, oB (decide (a0.f0 = 5)))], [eSIns a0], 0, []⟩ (by kernel_rfl) trivial ?_
          rcases ite_some H with ⟨h14, H⟩ | ⟨h14, H⟩
          · refine Tri.cond_true (useb (decide_eq_true h14) (by kernel_rfl)) ?_
            refine Tri.rn [2, 3] 0 [] [] [] ⟨34, [(2, oI 2), (3, oI 0)], [], 0, []⟩ (by kernel_rfl) trivial ?_
            refine Tri.ret ?_
            obtain rfl := Option.some.inj H
            exact ⟨.inr rfl, rfl, rfl, Nat.le_refl _, rfl, by simp⟩
          · refine Tri.cond_false (useb (decide_eq_false h14) (by kernel_rfl)) ?_
            obtain ⟨v18, h17, H⟩ := bind_some' H
            refine Tri.join (α := Bool) (fun w => v18 = w) (fun y16 => ⟨34, [(1, o1 (.ref 0 0)), (5, oI a0.f0), (17, oB y16)], [eSIns a0], 0, []⟩) (fun y16 hw => ?_) ?_
            · rw [hw] at H; clear hw
              try dsimp only at H
              rcases iteb_some H with ⟨h19, H⟩ | ⟨h19, H⟩
              · refine Tri.cond_true (useb h19 (by kernel_rfl)) ?_
                refine Tri.rn [2, 3] 0 [] [] [] ⟨34, [(2, oI 2), (3, oI 1)], [], 0, []⟩ (by kernel_rfl) trivial ?_
                refine Tri.ret ?_
                obtain rfl := Option.some.inj H
                exact ⟨.inr rfl, rfl, rfl, Nat.le_refl _, rfl, by simp⟩
              · refine Tri.cond_false (useb h19 (by kernel_rfl)) ?_
                obtain ⟨v24, h23, H⟩ := bind_some' H
                refine Tri.join (α := Bool) (fun w => v24 = w) (fun y22 => ⟨34, [(1, o1 (.ref 0 0)), (5, oI a0.f0), (20, oB y22)], [eSIns a0], 0, []⟩) (fun y22 hw => ?_) ?_
                · rw [hw] at H; clear hw
                  try dsimp only at H
                  rcases iteb_some H with ⟨h25, H⟩ | ⟨h25, H⟩
                  · refine Tri.cond_true (useb h25 (by kernel_rfl)) ?_
                    refine Tri.rn [2, 3] 0 [] [] [] ⟨34, [(2, oI 1), (3, oI 0)], [], 0, []⟩ (by kernel_rfl) trivial ?_
                    refine Tri.ret ?_
                    obtain rfl := Option.some.inj H
                    exact ⟨.inr rfl, rfl, rfl, Nat.le_refl _, rfl, by simp⟩
                  · refine Tri.cond_false (useb h25 (by kernel_rfl)) ?_
                    refine Tri.rn [1, 5, 24] 1 [] [] [] ⟨34, [(1, o1 (.ref 0 0)), (5, oI a0.f0), (24, oB (decide (a0.f0 = 13)))], [eSIns a0], 0, []⟩ (by kernel_rfl) trivial ?_
                    rcases ite_some H with ⟨h26, H⟩ | ⟨h26, H⟩
                    · refine Tri.cond_true (useb (decide_eq_true h26) (by kernel_rfl)) ?_
                      refine Tri.dn hmix 5 [[], [0], [], [2], [0, 1], [0, 1, 2, 3, 4]] [2, 3] 0 [] [] [] ⟨34, [(2, oI a0.f1), (3, oI a0.f2)], [], 0, []⟩ (by kernel_rfl) trivial ?_
                      refine Tri.ret ?_
                      obtain rfl := Option.some.inj H
                      exact ⟨.inr rfl, rfl, rfl, Nat.le_refl _, rfl, by simp⟩
                    · refine Tri.cond_false (useb (decide_eq_false h26) (by kernel_rfl)) ?_
                      refine Tri.rn [1, 30] 1 [] [] [] ⟨34, [(1, o1 (.ref 0 0)), (30, oB (decide (a0.f0 = 14)))], [eSIns a0], 0, []⟩ (by kernel_rfl) trivial ?_
                      rcases ite_some H with ⟨h27, H⟩ | ⟨h27, H⟩
                      · refine Tri.cond_true (useb (decide_eq_true h27) (by kernel_rfl)) ?_
                        refine Tri.rn [2, 3] 0 [] [] [] ⟨34, [(2, oI a0.f1), (3, oI 0)], [], 0, []⟩ (by kernel_rfl) trivial ?_
                        refine Tri.ret ?_
                        obtain rfl := Option.some.inj H
                        exact ⟨.inr rfl, rfl, rfl, Nat.le_refl _, rfl, by simp⟩
                      · refine Tri.cond_false (useb (decide_eq_false h27) (by kernel_rfl)) ?_
                        refine Tri.skip ?_
                        refine Tri.rn [2, 3] 0 [] [] [] ⟨34, [(2, oI 0), (3, oI 0)], [], 0, []⟩ (by kernel_rfl) trivial ?_
                        refine Tri.ret ?_
                        obtain rfl := Option.some.inj H
                        exact ⟨.inr rfl, rfl, rfl, Nat.le_refl _, rfl, by simp⟩
                · unfold spec_l04Effect.e4 at h23
                  refine Tri.rn [1, 5, 20] 1 [] [] [] ⟨34, [(1, o1 (.ref 0 0)), (5, oI a0.f0), (20, oB (decide (a0.f0 = 12)))], [eSIns a0], 0, []⟩ (by kernel_rfl) trivial ?_
                  rcases ite_some h23 with ⟨h20, h23⟩ | ⟨h20, h23⟩
                  · refine Tri.cond_true (useb (decide_eq_true h20) (by kernel_rfl)) ?_
                    refine Tri.skip ?_
                    exact ⟨(decide (a0.f0 = 12)), (Option.some.inj h23).symm, rfl⟩
                  · refine Tri.cond_false (useb (decide_eq_false h20) (by kernel_rfl)) ?_
                    refine Tri.rn [1, 5, 20] 1 [] [] [] ⟨34, [(1, o1 (.ref 0 0)), (5, oI a0.f0), (20, oB (decide (a0.f0 = 15)))], [eSIns a0], 0, []⟩ (by kernel_rfl) trivial ?_
                    rcases ite_some h23 with ⟨h21, h23⟩ | ⟨h21, h23⟩
                    · refine Tri.cond_true (useb (decide_eq_true h21) (by kernel_rfl)) ?_
                      refine Tri.skip ?_
                      exact ⟨(decide (a0.f0 = 15)), (Option.some.inj h23).symm, rfl⟩
                    · refine Tri.cond_false (useb (decide_eq_false h21) (by kernel_rfl)) ?_
                      refine Tri.r1 [1, 5, 20] 1 [] [] [] ⟨34, [(1, o1 (.ref 0 0)), (5, oI a0.f0), (20, oB (decide (a0.f0 = 16)))], [eSIns a0], 0, []⟩ (by kernel_rfl) trivial ?_
                      exact ⟨(decide (a0.f0 = 16)), (Option.some.inj h23).symm, rfl⟩
            · unfold spec_l04Effect.e3 at h17
              refine Tri.rn [1, 5, 17] 1 [] [] [] ⟨34, [(1, o1 (.ref 0 0)), (5, oI a0.f0), (17, oB (decide (a0.f0 = 6)))], [eSIns a0], 0, []⟩ (by kernel_rfl) trivial ?_
              rcases ite_some h17 with ⟨h15, h17⟩ | ⟨h15, h17⟩
              · refine Tri.cond_true (useb (decide_eq_true h15) (by kernel_rfl)) ?_
                refine Tri.skip ?_
                exact ⟨(decide (a0.f0 = 6)), (Option.some.inj h17).symm, rfl⟩
              · refine Tri.cond_false (useb (decide_eq_false h15) (by kernel_rfl)) ?_
                refine Tri.r1 [1, 5, 17] 1 [] [] [] ⟨34, [(1, o1 (.ref 0 0)), (5, oI a0.f0), (17, oB (decide (a0.f0 = 7)))], [eSIns a0], 0, []⟩ (by kernel_rfl) trivial ?_
                exact ⟨(decide (a0.f0 = 7)), (Option.some.inj h17).symm, rfl⟩
      · unfold spec_l04Effect.e2 at h11
        refine Tri.rn [1, 5, 10] 1 [] [] [] ⟨34, [(1, o1 (.ref 0 0)), (5, oI a0.f0), (10, oB (decide (a0.f0 = 4)))], [eSIns a0], 0, []⟩ (by kernel_rfl) trivial ?_
        rcases ite_some h11 with ⟨h7, h11⟩ | ⟨h7, h11⟩
        · refine Tri.cond_true (useb (decide_eq_true h7) (by kernel_rfl)) ?_
          refine Tri.skip ?_
          exact ⟨(decide (a0.f0 = 4)), (Option.some.inj h11).symm, rfl⟩
        · refine Tri.cond_false (useb (decide_eq_false h7) (by kernel_rfl)) ?_
          refine Tri.rn [1, 5, 10] 1 [] [] [] ⟨34, [(1, o1 (.ref 0 0)), (5, oI a0.f0), (10, oB (decide (a0.f0 = 8)))], [eSIns a0], 0, []⟩ (by kernel_rfl) trivial ?_
          rcases ite_some h11 with ⟨h8, h11⟩ | ⟨h8, h11⟩
          · refine Tri.cond_true (useb (decide_eq_true h8) (by kernel_rfl)) ?_
            refine Tri.skip ?_
            exact ⟨(decide (a0.f0 = 8)), (Option.some.inj h11).symm, rfl⟩
          · refine Tri.cond_false (useb (decide_eq_false h8) (by kernel_rfl)) ?_
            refine Tri.rn [1, 5, 10] 1 [] [] [] ⟨34, [(1, o1 (.ref 0 0)), (5, oI a0.f0), (10, oB (decide (a0.f0 = 9)))], [eSIns a0], 0, []⟩ (by kernel_rfl) trivial ?_
            rcases ite_some h11 with ⟨h9, h11⟩ | ⟨h9, h11⟩
            · refine Tri.cond_true (useb (decide_eq_true h9) (by kernel_rfl)) ?_
              refine Tri.skip ?_
              exact ⟨(decide (a0.f0 = 9)), (Option.some.inj h11).symm, rfl⟩
            · refine Tri.cond_false (useb (decide_eq_false h9) (by kernel_rfl)) ?_
              refine Tri.r1 [1, 5, 10] 1 [] [] [] ⟨34, [(1, o1 (.ref 0 0)), (5, oI a0.f0), (10, oB (decide (a0.f0 = 10)))], [eSIns a0], 0, []⟩ (by kernel_rfl) trivial ?_
              exact ⟨(decide (a0.f0 = 10)), (Option.some.inj h11).symm, rfl⟩
  · unfold spec_l04Effect.e1 at h4
    refine Tri.rn [1, 5, 6] 1 [] [] [] ⟨34, [(1, o1 (.ref 0 0)), (5, oI a0.f0), (6, oB (decide (a0.f0 = 1)))], [eSIns a0], 0, []⟩ (by kernel_rfl) trivial ?_
    rcases ite_some h4 with ⟨h1, h4⟩ | ⟨h1, h4⟩
    · refine Tri.cond_true (useb (decide_eq_true h1) (by kernel_rfl)) ?_
      refine Tri.skip ?_
      exact ⟨(decide (a0.f0 = 1)), (Option.some.inj h4).symm, rfl⟩
    · refine Tri.cond_false (useb (decide_eq_false h1) (by kernel_rfl)) ?_
      refine Tri.rn [1, 5, 6] 1 [] [] [] ⟨34, [(1, o1 (.ref 0 0)), (5, oI a0.f0), (6, oB (decide (a0.f0 = 2)))], [eSIns a0], 0, []⟩ (by kernel_rfl) trivial ?_
      rcases ite_some h4 with ⟨h2, h4⟩ | ⟨h2, h4⟩
      · refine Tri.cond_true (useb (decide_eq_true h2) (by kernel_rfl)) ?_
        refine Tri.skip ?_
        exact ⟨(decide (a0.f0 = 2)), (Option.some.inj h4).symm, rfl⟩
      · refine Tri.cond_false (useb (decide_eq_false h2) (by kernel_rfl)) ?_
        refine Tri.r1 [1, 5, 6] 1 [] [] [] ⟨34, [(1, o1 (.ref 0 0)), (5, oI a0.f0), (6, oB (decide (a0.f0 = 3)))], [eSIns a0], 0, []⟩ (by kernel_rfl) trivial ?_
        exact ⟨(decide (a0.f0 = 3)), (Option.some.inj h4).symm, rfl⟩
/-! spec_l04Verify: function 32 -/
def spec_l04Verify.e1 (k : Nat) (a0 : SCode) : Option Bool := if (a0.f4.length : Int) = 0 then (some true) else (if (2000 : Int) < (a0.f4.length : Int) then (some true) else ((spec_l01In.f k a0.f1 0 20).bind fun r3 => if r3 = true then ((spec_l01In.f k a0.f2 a0.f1 2000).bind fun r6 => if r6 = true then ((spec_l01In.f k a0.f3 0 1).bind fun r9 => if r9 = true then (if a0.f0 = (⟨#[]⟩ : ByteArray) then (if a0.f2 = 0 then (some (!(decide (a0.f3 = 0)))) else (some true)) else ((spec_l02Name.f k a0.f0).bind fun r14 => if r14 = true then (some false) else (some true))) else (some true)) else (some true)) else (some true)))
def spec_l04Verify.l2 : Nat → SCode → Int → Option ((Int × Int) ⊕ Unit)
  | 0, _, _ => none
  | k + 1, a0, z27 => if z27 < (a0.f4.length : Int) then ((at? a0.f4 z27).bind fun x29 => (spec_l04Ins.f k x29 a0).bind fun r31 => if r31 = true then (spec_l04Verify.l2 k a0 (w64 (z27 + 1))) else (some (.inl (3, z27)))) else (some (.inr ()))
def spec_l04Verify.e3 (k : Nat) (a0 : SCode) : Option ((Int × Int) ⊕ Unit) := spec_l04Verify.l2 k a0 0
def spec_l04Verify.l4 : Nat → SCode → (List Int) → Int → Option (List Int)
  | 0, _, _, _ => none
  | k + 1, a0, z39, z40 => if z40 < (a0.f4.length : Int) then (if (z39 ++ ([-1] : List Int)).length * 8 ≤ 140737488355328 then (spec_l04Verify.l4 k a0 (z39 ++ ([-1] : List Int)) (w64 (z40 + 1))) else none) else (some z39)
def spec_l04Verify.e5 (k : Nat) (a0 : SCode) : Option (List Int) := spec_l04Verify.l4 k a0 ([] : List Int) 0
def spec_l04Verify.e6 (k : Nat) (x265 : SIns) : Option Bool := if x265.f0 = 11 then (some true) else (some (decide (x265.f0 = 12)))
def spec_l04Verify.e7 (k : Nat) (x265 : SIns) : Option (List Int) := (spec_l04Verify.e6 k x265).bind fun y272 => if y272 = true then (if (([] : List Int) ++ ([x265.f1] : List Int)).length * 8 ≤ 140737488355328 then (some (([] : List Int) ++ ([x265.f1] : List Int))) else none) else (some ([] : List Int))
def spec_l04Verify.e8 (k : Nat) (x265 : SIns) : Option Bool := if x265.f0 = 11 then (some false) else (if x265.f0 = 14 then (some false) else (some (!(decide (x265.f0 = 17)))))
def spec_l04Verify.e9 (k : Nat) (z260 : Int) (x265 : SIns) (y277 : (List Int)) : Option (List Int) := (spec_l04Verify.e8 k x265).bind fun y282 => if y282 = true then (if (y277 ++ ([w64 (z260 + 1)] : List Int)).length * 8 ≤ 140737488355328 then (some (y277 ++ ([w64 (z260 + 1)] : List Int))) else none) else (some y277)
def spec_l04Verify.e10 (k : Nat) (x262 : Int) (x265 : SIns) (r267 : (Int × Int)) : Option Bool := if x265.f0 = 14 then (some (!(decide ((w64 ((w64 (x262 - r267.1)) + r267.2)) = 0)))) else (some false)
def spec_l04Verify.e11 (k : Nat) (a0 : SCode) (z260 : Int) (x262 : Int) (r267 : (Int × Int)) (y287 : (List Int)) (z307 : (List Int)) (z308 : Bool) (z309 : Int) : Option ((Int × Int) ⊕ ((List Int) × Bool)) := (at? y287 z309).bind fun x311 => if x311 = (a0.f4.length : Int) then (some (.inl (10, z260))) else ((at? z307 x311).bind fun x314 => if x314 < 0 then (some (.inr (z307.set (Int.toNat x311) (w64 ((w64 (x262 - r267.1)) + r267.2)), true))) else (if x314 = (w64 ((w64 (x262 - r267.1)) + r267.2)) then (some (.inr (z307, z308))) else (some (.inl (8, z260)))))
def spec_l04Verify.l12 : Nat → SCode → Int → Int → (Int × Int) → (List Int) → (List Int) → Bool → Int → Option ((Int × Int) ⊕ ((List Int) × Bool))
  | 0, _, _, _, _, _, _, _, _ => none
  | k + 1, a0, z260, x262, r267, y287, z307, z308, z309 => if z309 < (y287.length : Int) then ((spec_l04Verify.e11 k a0 z260 x262 r267 y287 z307 z308 z309).bind fun v => match v with | .inl r => some (.inl r) | .inr (y318, y319) => spec_l04Verify.l12 k a0 z260 x262 r267 y287 y318 y319 (w64 (z309 + 1))) else (some (.inr (z307, z308)))
def spec_l04Verify.e13 (k : Nat) (a0 : SCode) (z258 : (List Int)) (z259 : Bool) (z260 : Int) : Option ((Int × Int) ⊕ ((List Int) × Bool)) := (at? z258 z260).bind fun x262 => if x262 < 0 then (some (.inr (z258, z259))) else ((at? a0.f4 z260).bind fun x265 => (spec_l04Effect.f k x265).bind fun r267 => if x262 < r267.1 then (some (.inl (11, z260))) else (if (60 : Int) < (w64 ((w64 (x262 - r267.1)) + r267.2)) then (some (.inl (14, z260))) else ((spec_l04Verify.e7 k x265).bind fun y277 => (spec_l04Verify.e9 k z260 x265 y277).bind fun y287 => (spec_l04Verify.e10 k x262 x265 r267).bind fun y291 => if y291 = true then (some (.inl (8, z260))) else (spec_l04Verify.l12 k a0 z260 x262 r267 y287 z258 z259 0))))
def spec_l04Verify.l14 : Nat → SCode → (List Int) → Bool → Int → Option ((Int × Int) ⊕ ((List Int) × Bool))
  | 0, _, _, _, _ => none
  | k + 1, a0, z258, z259, z260 => if z260 < (a0.f4.length : Int) then ((spec_l04Verify.e13 k a0 z258 z259 z260).bind fun v => match v with | .inl r => some (.inl r) | .inr (y323, y324) => spec_l04Verify.l14 k a0 y323 y324 (w64 (z260 + 1))) else (some (.inr (z258, z259)))
def spec_l04Verify.e15 (k : Nat) (a0 : SCode) (z189 : (List Int)) : Option ((Int × Int) ⊕ ((List Int) × Bool)) := spec_l04Verify.l14 k a0 z189 false 0
def spec_l04Verify.l16 : Nat → SCode → (List Int) → Bool → Option ((Int × Int) ⊕ Unit)
  | 0, _, _, _ => none
  | k + 1, a0, z189, z190 => if z190 = true then ((spec_l04Verify.e15 k a0 z189).bind fun v => match v with | .inl r => some (.inl r) | .inr (y328, y329) => spec_l04Verify.l16 k a0 y328 y329) else (some (.inr ()))
def spec_l04Verify.e17 (k : Nat) (a0 : SCode) (y44 : (List Int)) : Option ((Int × Int) ⊕ Unit) := spec_l04Verify.l16 k a0 (y44.set (Int.toNat 0) 0) true
def spec_l04Verify.f (k : Nat) (a0 : SCode) : Option (Int × Int) := (spec_l04Verify.e1 k a0).bind fun y17 => if y17 = true then (some (1, 0)) else ((spec_l04Verify.e3 k a0).bind fun v => match v with | .inl r => some r | .inr _ => (spec_l04Verify.e5 k a0).bind fun y44 => (at? y44 0).bind fun x47 => (spec_l04Verify.e17 k a0 y44).bind fun v => match v with | .inl r => some r | .inr _ => some (0, 0))
set_option maxRecDepth 100000 in
theorem spec_l04Verify.fn (k : Nat) (a0 : SCode) (r : (Int × Int)) (H : spec_l04Verify.f k a0 = some r) : Fn Tryd.prog 32 [ag (eSCode a0)] [] (tp [none, none] [cI r.1, cI r.2]) [] := by
  unfold spec_l04Verify.f at H
  refine Fn.body (ts := [2, 3]) Tryd.func32 rfl rfl (by decide) (by decide) (Nat.le_of_ble_eq_true rfl) (Nat.le_refl _) ?_
  refine Tri.rn [1] 1 [] [] [] ⟨224, [(1, o1 (.ref 0 0))], [eSCode a0], 0, []⟩ (by kernel_rfl) trivial ?_
  refine Tri.seq ?_
  obtain ⟨v19, h18, H⟩ := bind_some' H
  refine Tri.join (α := Bool) (fun w => v19 = w) (fun y17 => ⟨224, [(1, o1 (.ref 0 0)), (70, oB y17)], [eSCode a0], 0, []⟩) (fun y17 hw => ?_) ?_
  · rw [hw] at H; clear hw
    try dsimp only at H
    rcases iteb_some H with ⟨h20, H⟩ | ⟨h20, H⟩
    · refine Tri.cond_true (useb h20 (by kernel_rfl)) ?_
      refine Tri.rn [2, 3] 0 [] [] [] ⟨224, [(2, oI 1), (3, oI 0)], [], 0, []⟩ (by kernel_rfl) trivial ?_
      refine Tri.ret ?_
      obtain rfl := Option.some.inj H
      exact ⟨.inr rfl, rfl, rfl, Nat.le_refl _, rfl, by simp⟩
    · refine Tri.cond_false (useb h20 (by kernel_rfl)) ?_
      refine Tri.skip ?_
      obtain ⟨v36, h35, H⟩ := bind_some' H
      refine Tri.join (α := Unit) (fun w => v36 = .inr w) (fun _ => ⟨224, [(1, o1 (.ref 0 0))], [eSCode a0], 0, []⟩) (fun w hw => ?_) ?_
      · rw [hw] at H; clear hw
        try dsimp only at H
        refine Tri.rn [1, 5] 1 [] [] [] ⟨224, [(1, o1 (.ref 0 0)), (5, o1 (.own 3 (List.map eI ([] : List Int))))], [eSCode a0], 0, []⟩ (by kernel_rfl) trivial ?_
        obtain ⟨v46, h45, H⟩ := bind_some' H
        refine Tri.join (α := (List Int)) (fun w => v46 = w) (fun y44 => ⟨224, [(1, o1 (.ref 0 0)), (5, o1 (.own 3 (List.map eI y44)))], [eSCode a0], 0, []⟩) (fun y44 hw => ?_) ?_
        · rw [hw] at H; clear hw
          try dsimp only at H
          obtain ⟨x47, h48, H⟩ := bind_some' H
          refine Tri.rn [1, 5] 1 [] [(1, .el (eI x47)), (2, .el (eI x47)), (2, .ovp (.t 5 0) (.own 3 (List.map eI (y44.set (Int.toNat 0) 0))))] [_, _, _, _] ⟨224, [(1, o1 (.ref 0 0)), (5, o1 (.own 3 (List.map eI (y44.set (Int.toNat 0) 0))))], [eSCode a0], 0, []⟩ (by kernel_rfl) ⟨(at?_0 h48), (at?_map (f := eI) h48), (at?_map (f := eI) h48), (ovset (e := 3) (f := eI) (l := y44) (v := 0) (i := Int.toNat 0)), trivial⟩ ?_
          obtain ⟨v334, h333, H⟩ := bind_some' H
          refine Tri.join (α := Unit) (fun w => v334 = .inr w) (fun _ => ⟨224, [], [], 0, []⟩) (fun w hw => ?_) ?_
          · rw [hw] at H; clear hw
            try dsimp only at H
            refine Tri.rn [2, 3] 0 [] [] [] ⟨224, [(2, oI 0), (3, oI 0)], [], 0, []⟩ (by kernel_rfl) trivial ?_
            refine Tri.ret ?_
            obtain rfl := Option.some.inj H
            exact ⟨.inr rfl, rfl, rfl, Nat.le_refl _, rfl, by simp⟩
          · unfold spec_l04Verify.e17 at h333
            refine Tri.rn [1, 5, 7] 1 [] [] [] ⟨224, [(1, o1 (.ref 0 0)), (5, o1 (.own 3 (List.map eI (y44.set (Int.toNat 0) 0)))), (7, oB true)], [eSCode a0], 0, []⟩ (by kernel_rfl) trivial ?_
            refine Tri.block ?_
            refine Tri.loop k (TriR.ind (α := ((List Int) × Bool)) (fun k x => spec_l04Verify.l16 k a0 x.1 x.2) (fun x => ⟨224, [(1, o1 (.ref 0 0)), (5, o1 (.own 3 (List.map eI x.1))), (7, oB x.2)], [eSCode a0], 0, []⟩) (fun _ => rfl) (fun k x h333 IH332 => ?_) k (y44.set (Int.toNat 0) 0, true) h333)
            obtain ⟨z189, z190⟩ := x
            rw [spec_l04Verify.l16.eq_2] at h333
            refine Tri.seq ?_
            refine Tri.rn [1, 5, 100] 1 [] [] [] ⟨224, [(1, o1 (.ref 0 0)), (5, o1 (.own 3 (List.map eI z189))), (100, oB z190)], [eSCode a0], 0, []⟩ (by kernel_rfl) trivial ?_
            rcases iteb_some h333 with ⟨h191, h333⟩ | ⟨h191, h333⟩
            · refine Tri.cond_true (useb h191 (by kernel_rfl)) ?_
              refine Tri.skip ?_
              refine Tri.block ?_
              refine Tri.rn [1, 5, 7] 1 [] [] [] ⟨224, [(1, o1 (.ref 0 0)), (5, o1 (.own 3 (List.map eI z189))), (7, oB false)], [eSCode a0], 0, []⟩ (by kernel_rfl) trivial ?_
              refine Tri.rn [1, 5, 7, 8] 1 [] [] [] ⟨224, [(1, o1 (.ref 0 0)), (5, o1 (.own 3 (List.map eI z189))), (7, oB false), (8, oI 0)], [eSCode a0], 0, []⟩ (by kernel_rfl) trivial ?_
              obtain ⟨v331, h330, h333⟩ := bind_some' h333
              refine Tri.joinT (α := ((List Int) × Bool)) (fun w => v331 = .inr w) (fun w => ⟨224, [(1, o1 (.ref 0 0)), (5, o1 (.own 3 (List.map eI w.1))), (7, oB w.2)], [eSCode a0], 0, []⟩) (fun w hw => ?_) ?_
              · rw [hw] at h333; clear hw
                obtain ⟨y328, y329⟩ := w
                try dsimp only at h333
                exact IH332 _ (y328, y329) (Nat.le_refl _) h333
              · unfold spec_l04Verify.e15 at h330
                refine Tri.block ?_
                refine Tri.loop k (TriR.ind (α := ((List Int) × Bool × Int)) (fun k x => spec_l04Verify.l14 k a0 x.1 x.2.1 x.2.2) (fun x => ⟨224, [(1, o1 (.ref 0 0)), (5, o1 (.own 3 (List.map eI x.1))), (7, oB x.2.1), (8, oI x.2.2)], [eSCode a0], 0, []⟩) (fun _ => rfl) (fun k x h330 IH327 => ?_) k (z189, false, 0) h330)
                obtain ⟨z258, z259, z260⟩ := x
                rw [spec_l04Verify.l14.eq_2] at h330
                refine Tri.seq ?_
                refine Tri.rn [1, 5, 7, 8, 105] 1 [] [(3, .ov [.sc (.int .i64 (a0.f4.length : Int))])] [_] ⟨224, [(1, o1 (.ref 0 0)), (5, o1 (.own 3 (List.map eI z258))), (7, oB z259), (8, oI z260), (105, oB (decide (z260 < (a0.f4.length : Int))))], [eSCode a0], 0, []⟩ (by kernel_rfl) ⟨(ovlen (f := eSIns) (l := a0.f4)), trivial⟩ ?_
                rcases ite_some h330 with ⟨h261, h330⟩ | ⟨h261, h330⟩
                · refine Tri.cond_true (useb (decide_eq_true h261) (by kernel_rfl)) ?_
                  refine Tri.skip ?_
                  obtain ⟨v326, h325, h330⟩ := bind_some' h330
                  refine Tri.join (α := ((List Int) × Bool)) (fun w => v326 = .inr w) (fun w => ⟨224, [(1, o1 (.ref 0 0)), (5, o1 (.own 3 (List.map eI w.1))), (7, oB w.2), (8, oI z260)], [eSCode a0], 0, []⟩) (fun w hw => ?_) ?_
                  · rw [hw] at h330; clear hw
                    obtain ⟨y323, y324⟩ := w
                    try dsimp only at h330
                    refine Tri.r1 [1, 5, 7, 8] 1 [] [] [] ⟨224, [(1, o1 (.ref 0 0)), (5, o1 (.own 3 (List.map eI y323))), (7, oB y324), (8, oI (w64 (z260 + 1)))], [eSCode a0], 0, []⟩ (by kernel_rfl) trivial ?_
                    exact IH327 _ (y323, y324, w64 (z260 + 1)) (Nat.le_refl _) h330
                  · unfold spec_l04Verify.e13 at h325
                    refine Tri.block ?_
                    refine Tri.seq ?_
                    obtain ⟨x262, h263, h325⟩ := bind_some' h325
                    refine Tri.rn [1, 5, 7, 8, 112] 1 [] [(2, .el (eI x262)), (3, .el (eI x262))] [_, _, _] ⟨224, [(1, o1 (.ref 0 0)), (5, o1 (.own 3 (List.map eI z258))), (7, oB z259), (8, oI z260), (112, oB (decide (x262 < 0)))], [eSCode a0], 0, []⟩ (by kernel_rfl) ⟨(at?_0 h263), (at?_map (f := eI) h263), (at?_map (f := eI) h263), trivial⟩ ?_
                    rcases ite_some h325 with ⟨h264, h325⟩ | ⟨h264, h325⟩
                    · refine Tri.cond_true (useb (decide_eq_true h264) (by kernel_rfl)) ?_
                      refine Tri.fix [1, 5, 7, 8] 1 [] ⟨224, [(1, o1 (.ref 0 0)), (5, o1 (.own 3 (List.map eI z258))), (7, oB z259), (8, oI z260)], [eSCode a0], 0, []⟩ (by kernel_rfl) ?_
                      refine Tri.exit ?_
                      repeat (with_reducible refine Ex.exit ?_)
                      refine Bk.here ?_
                      exact ⟨(z258, z259), (Option.some.inj h325).symm, rfl⟩
                    · refine Tri.cond_false (useb (decide_eq_false h264) (by kernel_rfl)) ?_
                      refine Tri.skip ?_
                      obtain ⟨x265, h266, h325⟩ := bind_some' h325
                      refine Tri.rn [1, 5, 7, 8, 9] 2 [] [(3, .el (eSIns x265))] [_, _] ⟨224, [(1, o1 (.ref 0 0)), (5, o1 (.own 3 (List.map eI z258))), (7, oB z259), (8, oI z260), (9, o1 (.ref 1 0))], [eSCode a0, eSIns x265], 0, []⟩ (by kernel_rfl) ⟨(at?_0 h266), (at?_map (f := eSIns) h266), trivial⟩ ?_
                      obtain ⟨r267, h268, h325⟩ := bind_some' h325
                      refine Tri.rn [1, 5, 7, 8, 9, 10, 11] 2 [] [(1, .call (tp [none, none] [cI r267.1, cI r267.2]) [] false)] [_, _] ⟨224, [(1, o1 (.ref 0 0)), (5, o1 (.own 3 (List.map eI z258))), (7, oB z259), (8, oI z260), (9, o1 (.ref 1 0)), (10, oI r267.1), (11, oI r267.2)], [eSCode a0, eSIns x265], 0, []⟩ (by kernel_rfl) ⟨(spec_l04Effect.fn k x265 r267 h268), (show (List.all [cI r267.1, cI r267.2] PC.flatB) = true from rfl), trivial⟩ ?_
                      refine Tri.seq ?_
                      refine Tri.rn [1, 5, 7, 8, 9, 10, 11, 128] 2 [] [(2, .el (eI x262)), (3, .el (eI x262))] [_, _, _] ⟨224, [(1, o1 (.ref 0 0)), (5, o1 (.own 3 (List.map eI z258))), (7, oB z259), (8, oI z260), (9, o1 (.ref 1 0)), (10, oI r267.1), (11, oI r267.2), (128, oB (decide (x262 < r267.1)))], [eSCode a0, eSIns x265], 0, []⟩ (by kernel_rfl) ⟨(at?_0 h263), (at?_map (f := eI) h263), (at?_map (f := eI) h263), trivial⟩ ?_
                      rcases ite_some h325 with ⟨h269, h325⟩ | ⟨h269, h325⟩
                      · refine Tri.cond_true (useb (decide_eq_true h269) (by kernel_rfl)) ?_
                        refine Tri.rn [2, 3] 0 [] [] [] ⟨224, [(2, oI 11), (3, oI z260)], [], 0, []⟩ (by kernel_rfl) trivial ?_
                        refine Tri.ret ?_
                        obtain rfl := Option.some.inj h325
                        try dsimp only at h330
                        obtain rfl := Option.some.inj h330
                        try dsimp only at h333
                        obtain rfl := Option.some.inj h333
                        try dsimp only at H
                        obtain rfl := Option.some.inj H
                        exact ⟨.inr rfl, rfl, rfl, Nat.le_refl _, rfl, by simp⟩
                      · refine Tri.cond_false (useb (decide_eq_false h269) (by kernel_rfl)) ?_
                        refine Tri.skip ?_
                        refine Tri.rn [1, 5, 7, 8, 9, 12] 2 [] [(2, .el (eI x262)), (3, .el (eI x262))] [_, _, _] ⟨224, [(1, o1 (.ref 0 0)), (5, o1 (.own 3 (List.map eI z258))), (7, oB z259), (8, oI z260), (9, o1 (.ref 1 0)), (12, oI (w64 ((w64 (x262 - r267.1)) + r267.2)))], [eSCode a0, eSIns x265], 0, []⟩ (by kernel_rfl) ⟨(at?_0 h263), (at?_map (f := eI) h263), (at?_map (f := eI) h263), trivial⟩ ?_
                        refine Tri.seq ?_
                        refine Tri.rn [1, 5, 7, 8, 9, 12, 139] 2 [] [] [] ⟨224, [(1, o1 (.ref 0 0)), (5, o1 (.own 3 (List.map eI z258))), (7, oB z259), (8, oI z260), (9, o1 (.ref 1 0)), (12, oI (w64 ((w64 (x262 - r267.1)) + r267.2))), (139, oB (decide ((60 : Int) < (w64 ((w64 (x262 - r267.1)) + r267.2)))))], [eSCode a0, eSIns x265], 0, []⟩ (by kernel_rfl) trivial ?_
                        rcases ite_some h325 with ⟨h270, h325⟩ | ⟨h270, h325⟩
                        · refine Tri.cond_true (useb (decide_eq_true h270) (by kernel_rfl)) ?_
                          refine Tri.rn [2, 3] 0 [] [] [] ⟨224, [(2, oI 14), (3, oI z260)], [], 0, []⟩ (by kernel_rfl) trivial ?_
                          refine Tri.ret ?_
                          obtain rfl := Option.some.inj h325
                          try dsimp only at h330
                          obtain rfl := Option.some.inj h330
                          try dsimp only at h333
                          obtain rfl := Option.some.inj h333
                          try dsimp only at H
                          obtain rfl := Option.some.inj H
                          exact ⟨.inr rfl, rfl, rfl, Nat.le_refl _, rfl, by simp⟩
                        · refine Tri.cond_false (useb (decide_eq_false h270) (by kernel_rfl)) ?_
                          refine Tri.skip ?_
                          refine Tri.rn [1, 5, 7, 8, 9, 12, 13] 2 [] [] [] ⟨224, [(1, o1 (.ref 0 0)), (5, o1 (.own 3 (List.map eI z258))), (7, oB z259), (8, oI z260), (9, o1 (.ref 1 0)), (12, oI (w64 ((w64 (x262 - r267.1)) + r267.2))), (13, o1 (.own 3 (List.map eI ([] : List Int))))], [eSCode a0, eSIns x265], 0, []⟩ (by kernel_rfl) trivial ?_
                          obtain ⟨v279, h278, h325⟩ := bind_some' h325
                          refine Tri.join (α := (List Int)) (fun w => v279 = w) (fun y277 => ⟨224, [(1, o1 (.ref 0 0)), (5, o1 (.own 3 (List.map eI z258))), (7, oB z259), (8, oI z260), (9, o1 (.ref 1 0)), (12, oI (w64 ((w64 (x262 - r267.1)) + r267.2))), (13, o1 (.own 3 (List.map eI y277)))], [eSCode a0, eSIns x265], 0, []⟩) (fun y277 hw => ?_) ?_
                          · rw [hw] at h325; clear hw
                            try dsimp only at h325
                            obtain ⟨v289, h288, h325⟩ := bind_some' h325
                            refine Tri.join (α := (List Int)) (fun w => v289 = w) (fun y287 => ⟨224, [(1, o1 (.ref 0 0)), (5, o1 (.own 3 (List.map eI z258))), (7, oB z259), (8, oI z260), (9, o1 (.ref 1 0)), (12, oI (w64 ((w64 (x262 - r267.1)) + r267.2))), (13, o1 (.own 3 (List.map eI y287)))], [eSCode a0, eSIns x265], 0, []⟩) (fun y287 hw => ?_) ?_
                            · rw [hw] at h325; clear hw
                              try dsimp only at h325
                              refine Tri.seq ?_
                              obtain ⟨v293, h292, h325⟩ := bind_some' h325
                              refine Tri.join (α := Bool) (fun w => v293 = w) (fun y291 => ⟨224, [(1, o1 (.ref 0 0)), (5, o1 (.own 3 (List.map eI z258))), (7, oB z259), (8, oI z260), (12, oI (w64 ((w64 (x262 - r267.1)) + r267.2))), (13, o1 (.own 3 (List.map eI y287))), (179, oB y291)], [eSCode a0], 0, []⟩) (fun y291 hw => ?_) ?_
                              · rw [hw] at h325; clear hw
                                try dsimp only at h325
                                rcases iteb_some h325 with ⟨h294, h325⟩ | ⟨h294, h325⟩
                                · refine Tri.cond_true (useb h294 (by kernel_rfl)) ?_
                                  refine Tri.rn [2, 3] 0 [] [] [] ⟨224, [(2, oI 8), (3, oI z260)], [], 0, []⟩ (by kernel_rfl) trivial ?_
                                  refine Tri.ret ?_
                                  obtain rfl := Option.some.inj h325
                                  try dsimp only at h330
                                  obtain rfl := Option.some.inj h330
                                  try dsimp only at h333
                                  obtain rfl := Option.some.inj h333
                                  try dsimp only at H
                                  obtain rfl := Option.some.inj H
                                  exact ⟨.inr rfl, rfl, rfl, Nat.le_refl _, rfl, by simp⟩
                                · refine Tri.cond_false (useb h294 (by kernel_rfl)) ?_
                                  refine Tri.skip ?_
                                  refine Tri.rn [1, 5, 7, 8, 12, 13, 14] 1 [] [] [] ⟨224, [(1, o1 (.ref 0 0)), (5, o1 (.own 3 (List.map eI z258))), (7, oB z259), (8, oI z260), (12, oI (w64 ((w64 (x262 - r267.1)) + r267.2))), (13, o1 (.own 3 (List.map eI y287))), (14, oI 0)], [eSCode a0], 0, []⟩ (by kernel_rfl) trivial ?_
                                  refine Tri.block ?_
                                  refine Tri.loop k (TriR.ind (α := ((List Int) × Bool × Int)) (fun k x => spec_l04Verify.l12 k a0 z260 x262 r267 y287 x.1 x.2.1 x.2.2) (fun x => ⟨224, [(1, o1 (.ref 0 0)), (5, o1 (.own 3 (List.map eI x.1))), (7, oB x.2.1), (8, oI z260), (12, oI (w64 ((w64 (x262 - r267.1)) + r267.2))), (13, o1 (.own 3 (List.map eI y287))), (14, oI x.2.2)], [eSCode a0], 0, []⟩) (fun _ => rfl) (fun k x h325 IH322 => ?_) k (z258, z259, 0) h325)
                                  obtain ⟨z307, z308, z309⟩ := x
                                  rw [spec_l04Verify.l12.eq_2] at h325
                                  refine Tri.seq ?_
                                  refine Tri.rn [1, 5, 7, 8, 12, 13, 14, 184] 1 [] [(2, .ov [.sc (.int .i64 (y287.length : Int))])] [_] ⟨224, [(1, o1 (.ref 0 0)), (5, o1 (.own 3 (List.map eI z307))), (7, oB z308), (8, oI z260), (12, oI (w64 ((w64 (x262 - r267.1)) + r267.2))), (13, o1 (.own 3 (List.map eI y287))), (14, oI z309), (184, oB (decide (z309 < (y287.length : Int))))], [eSCode a0], 0, []⟩ (by kernel_rfl) ⟨(ovlen (f := eI) (l := y287)), trivial⟩ ?_
                                  rcases ite_some h325 with ⟨h310, h325⟩ | ⟨h310, h325⟩
                                  · refine Tri.cond_true (useb (decide_eq_true h310) (by kernel_rfl)) ?_
                                    refine Tri.skip ?_
                                    obtain ⟨v321, h320, h325⟩ := bind_some' h325
                                    refine Tri.join (α := ((List Int) × Bool)) (fun w => v321 = .inr w) (fun w => ⟨224, [(1, o1 (.ref 0 0)), (5, o1 (.own 3 (List.map eI w.1))), (7, oB w.2), (8, oI z260), (12, oI (w64 ((w64 (x262 - r267.1)) + r267.2))), (13, o1 (.own 3 (List.map eI y287))), (14, oI z309)], [eSCode a0], 0, []⟩) (fun w hw => ?_) ?_
                                    · rw [hw] at h325; clear hw
                                      obtain ⟨y318, y319⟩ := w
                                      try dsimp only at h325
                                      refine Tri.r1 [1, 5, 7, 8, 12, 13, 14] 1 [] [] [] ⟨224, [(1, o1 (.ref 0 0)), (5, o1 (.own 3 (List.map eI y318))), (7, oB y319), (8, oI z260), (12, oI (w64 ((w64 (x262 - r267.1)) + r267.2))), (13, o1 (.own 3 (List.map eI y287))), (14, oI (w64 (z309 + 1)))], [eSCode a0], 0, []⟩ (by kernel_rfl) trivial ?_
                                      exact IH322 _ (y318, y319, w64 (z309 + 1)) (Nat.le_refl _) h325
                                    · unfold spec_l04Verify.e11 at h320
                                      refine Tri.block ?_
                                      refine Tri.block ?_
                                      obtain ⟨x311, h312, h320⟩ := bind_some' h320
                                      refine Tri.dn hmix 7 [[], [], [0, 1], [0, 1, 2], [], [4], [4, 5], [0, 1, 2, 3, 4, 5, 6], [0, 1, 2, 3, 4, 5, 6, 7]] [1, 5, 7, 8, 12, 13, 14, 187] 1 [] [(2, .el (eI x311)), (3, .el (eI x311)), (6, .ov [.sc (.int .i64 (a0.f4.length : Int))])] [_, _, _, _] ⟨224, [(1, o1 (.ref 0 0)), (5, o1 (.own 3 (List.map eI z307))), (7, oB z308), (8, oI z260), (12, oI (w64 ((w64 (x262 - r267.1)) + r267.2))), (13, o1 (.own 3 (List.map eI y287))), (14, oI z309), (187, oB (decide (x311 = (a0.f4.length : Int))))], [eSCode a0], 0, []⟩ (by kernel_rfl) ⟨(at?_0 h312), (at?_map (f := eI) h312), (at?_map (f := eI) h312), (ovlen (f := eSIns) (l := a0.f4)), trivial⟩ ?_
                                      rcases ite_some h320 with ⟨h313, h320⟩ | ⟨h313, h320⟩
                                      · refine Tri.cond_true (useb (decide_eq_true h313) (by kernel_rfl)) ?_
                                        refine Tri.rn [2, 3] 0 [] [] [] ⟨224, [(2, oI 10), (3, oI z260)], [], 0, []⟩ (by kernel_rfl) trivial ?_
                                        refine Tri.ret ?_
                                        obtain rfl := Option.some.inj h320
                                        try dsimp only at h325
                                        obtain rfl := Option.some.inj h325
                                        try dsimp only at h330
                                        obtain rfl := Option.some.inj h330
                                        try dsimp only at h333
                                        obtain rfl := Option.some.inj h333
                                        try dsimp only at H
                                        obtain rfl := Option.some.inj H
                                        exact ⟨.inr rfl, rfl, rfl, Nat.le_refl _, rfl, by simp⟩
                                      · refine Tri.cond_false (useb (decide_eq_false h313) (by kernel_rfl)) ?_
                                        obtain ⟨x314, h315, h320⟩ := bind_some' h320
                                        refine Tri.rn [1, 5, 7, 8, 12, 13, 14, 197] 1 [] [(3, .el (eI x311)), (4, .el (eI x311)), (5, .el (eI x314)), (6, .el (eI x314))] [_, _, _, _, _, _] ⟨224, [(1, o1 (.ref 0 0)), (5, o1 (.own 3 (List.map eI z307))), (7, oB z308), (8, oI z260), (12, oI (w64 ((w64 (x262 - r267.1)) + r267.2))), (13, o1 (.own 3 (List.map eI y287))), (14, oI z309), (197, oB (decide (x314 < 0)))], [eSCode a0], 0, []⟩ (by kernel_rfl) ⟨(at?_0 h312), (at?_map (f := eI) h312), (at?_map (f := eI) h312), (at?_0 h315), (at?_map (f := eI) h315), (at?_map (f := eI) h315), trivial⟩ ?_
                                        rcases ite_some h320 with ⟨h316, h320⟩ | ⟨h316, h320⟩
                                        · refine Tri.cond_true (useb (decide_eq_true h316) (by kernel_rfl)) ?_
                                          refine Tri.rn [1, 5, 8, 12, 13, 14] 1 [] [(3, .el (eI x311)), (4, .el (eI x311)), (6, .el (eI x314)), (7, .el (eI x314)), (7, .ovp (.t 5 0) (.own 3 (List.map eI (z307.set (Int.toNat x311) (w64 ((w64 (x262 - r267.1)) + r267.2))))))] [_, _, _, _, _, _, _] ⟨224, [(1, o1 (.ref 0 0)), (5, o1 (.own 3 (List.map eI (z307.set (Int.toNat x311) (w64 ((w64 (x262 - r267.1)) + r267.2)))))), (8, oI z260), (12, oI (w64 ((w64 (x262 - r267.1)) + r267.2))), (13, o1 (.own 3 (List.map eI y287))), (14, oI z309)], [eSCode a0], 0, []⟩ (by kernel_rfl) ⟨(at?_0 h312), (at?_map (f := eI) h312), (at?_map (f := eI) h312), (at?_0 h315), (at?_map (f := eI) h315), (at?_map (f := eI) h315), (ovset (e := 3) (f := eI) (l := z307) (v := w64 ((w64 (x262 - r267.1)) + r267.2)) (i := Int.toNat x311)), trivial⟩ ?_
                                          refine Tri.r1 [1, 5, 7, 8, 12, 13, 14] 1 [] [] [] ⟨224, [(1, o1 (.ref 0 0)), (5, o1 (.own 3 (List.map eI (z307.set (Int.toNat x311) (w64 ((w64 (x262 - r267.1)) + r267.2)))))), (7, oB true), (8, oI z260), (12, oI (w64 ((w64 (x262 - r267.1)) + r267.2))), (13, o1 (.own 3 (List.map eI y287))), (14, oI z309)], [eSCode a0], 0, []⟩ (by kernel_rfl) trivial ?_
                                          exact ⟨(z307.set (Int.toNat x311) (w64 ((w64 (x262 - r267.1)) + r267.2)), true), (Option.some.inj h320).symm, rfl⟩
                                        · refine Tri.cond_false (useb (decide_eq_false h316) (by kernel_rfl)) ?_
                                          refine Tri.rn [1, 5, 7, 8, 12, 13, 14, 213] 1 [] [(3, .el (eI x311)), (4, .el (eI x311)), (5, .el (eI x314)), (6, .el (eI x314))] [_, _, _, _, _, _] ⟨224, [(1, o1 (.ref 0 0)), (5, o1 (.own 3 (List.map eI z307))), (7, oB z308), (8, oI z260), (12, oI (w64 ((w64 (x262 - r267.1)) + r267.2))), (13, o1 (.own 3 (List.map eI y287))), (14, oI z309), (213, oB (!(decide (x314 = (w64 ((w64 (x262 - r267.1)) + r267.2))))))], [eSCode a0], 0, []⟩ (by kernel_rfl) ⟨(at?_0 h312), (at?_map (f := eI) h312), (at?_map (f := eI) h312), (at?_0 h315), (at?_map (f := eI) h315), (at?_map (f := eI) h315), trivial⟩ ?_
                                          rcases ite_some h320 with ⟨h317, h320⟩ | ⟨h317, h320⟩
                                          · refine Tri.cond_false (useb (nF (decide_eq_true h317)) (by kernel_rfl)) ?_
                                            refine Tri.fix [1, 5, 7, 8, 12, 13, 14] 1 [] ⟨224, [(1, o1 (.ref 0 0)), (5, o1 (.own 3 (List.map eI z307))), (7, oB z308), (8, oI z260), (12, oI (w64 ((w64 (x262 - r267.1)) + r267.2))), (13, o1 (.own 3 (List.map eI y287))), (14, oI z309)], [eSCode a0], 0, []⟩ (by kernel_rfl) ?_
                                            refine Tri.skip ?_
                                            exact ⟨(z307, z308), (Option.some.inj h320).symm, rfl⟩
                                          · refine Tri.cond_true (useb (nT (decide_eq_false h317)) (by kernel_rfl)) ?_
                                            refine Tri.rn [2, 3] 0 [] [] [] ⟨224, [(2, oI 8), (3, oI z260)], [], 0, []⟩ (by kernel_rfl) trivial ?_
                                            refine Tri.ret ?_
                                            obtain rfl := Option.some.inj h320
                                            try dsimp only at h325
                                            obtain rfl := Option.some.inj h325
                                            try dsimp only at h330
                                            obtain rfl := Option.some.inj h330
                                            try dsimp only at h333
                                            obtain rfl := Option.some.inj h333
                                            try dsimp only at H
                                            obtain rfl := Option.some.inj H
                                            exact ⟨.inr rfl, rfl, rfl, Nat.le_refl _, rfl, by simp⟩
                                  · refine Tri.cond_false (useb (decide_eq_false h310) (by kernel_rfl)) ?_
                                    refine Tri.fix [1, 5, 7, 8] 1 [] ⟨224, [(1, o1 (.ref 0 0)), (5, o1 (.own 3 (List.map eI z307))), (7, oB z308), (8, oI z260)], [eSCode a0], 0, []⟩ (by kernel_rfl) ?_
                                    refine Tri.exit ?_
                                    repeat (with_reducible refine Ex.exit ?_)
                                    refine Bk.here ?_
                                    exact ⟨(z307, z308), (Option.some.inj h325).symm, rfl⟩
                              · unfold spec_l04Verify.e10 at h292
                                rcases ite_some h292 with ⟨h290, h292⟩ | ⟨h290, h292⟩
                                · refine Tri.r1 [1, 5, 7, 8, 12, 13, 179] 1 [] [(2, .ov [.sc (.bool true)])] [_] ⟨224, [(1, o1 (.ref 0 0)), (5, o1 (.own 3 (List.map eI z258))), (7, oB z259), (8, oI z260), (12, oI (w64 ((w64 (x262 - r267.1)) + r267.2))), (13, o1 (.own 3 (List.map eI y287))), (179, oB (!(decide ((w64 ((w64 (x262 - r267.1)) + r267.2)) = 0))))], [eSCode a0], 0, []⟩ (by kernel_rfl) ⟨(ovb (decide_eq_true h290)), trivial⟩ ?_
                                  exact ⟨(!(decide ((w64 ((w64 (x262 - r267.1)) + r267.2)) = 0))), (Option.some.inj h292).symm, rfl⟩
                                · refine Tri.r1 [1, 5, 7, 8, 12, 13, 179] 1 [] [(2, .ov [.sc (.bool false)])] [_] ⟨224, [(1, o1 (.ref 0 0)), (5, o1 (.own 3 (List.map eI z258))), (7, oB z259), (8, oI z260), (12, oI (w64 ((w64 (x262 - r267.1)) + r267.2))), (13, o1 (.own 3 (List.map eI y287))), (179, oB false)], [eSCode a0], 0, []⟩ (by kernel_rfl) ⟨(ovb (decide_eq_false h290)), trivial⟩ ?_
                                  exact ⟨false, (Option.some.inj h292).symm, rfl⟩
                            · unfold spec_l04Verify.e9 at h288
                              obtain ⟨v284, h283, h288⟩ := bind_some' h288
                              refine Tri.join (α := Bool) (fun w => v284 = w) (fun y282 => ⟨224, [(1, o1 (.ref 0 0)), (5, o1 (.own 3 (List.map eI z258))), (7, oB z259), (8, oI z260), (9, o1 (.ref 1 0)), (12, oI (w64 ((w64 (x262 - r267.1)) + r267.2))), (13, o1 (.own 3 (List.map eI y277))), (167, oB y282)], [eSCode a0, eSIns x265], 0, []⟩) (fun y282 hw => ?_) ?_
                              · rw [hw] at h288; clear hw
                                try dsimp only at h288
                                rcases iteb_some h288 with ⟨h285, h288⟩ | ⟨h285, h288⟩
                                · refine Tri.cond_true (useb h285 (by kernel_rfl)) ?_
                                  obtain ⟨h286, h288⟩ := need_some h288
                                  refine Tri.r1 [1, 5, 7, 8, 9, 12, 13] 2 [] [(4, .ov [.own 3 (List.map eI (y277 ++ ([w64 (z260 + 1)] : List Int)))])] [_, _, _] ⟨224, [(1, o1 (.ref 0 0)), (5, o1 (.own 3 (List.map eI z258))), (7, oB z259), (8, oI z260), (9, o1 (.ref 1 0)), (12, oI (w64 ((w64 (x262 - r267.1)) + r267.2))), (13, o1 (.own 3 (List.map eI (y277 ++ ([w64 (z260 + 1)] : List Int)))))], [eSCode a0, eSIns x265], 0, []⟩ (by kernel_rfl) ⟨(app1 (f := eI) (by decide) h286), (app2 (f := eI) h286), (ovapp (e := 3) (f := eI) (l := y277) (m := ([w64 (z260 + 1)] : List Int))), trivial⟩ ?_
                                  exact ⟨y277 ++ ([w64 (z260 + 1)] : List Int), (Option.some.inj h288).symm, rfl⟩
                                · refine Tri.cond_false (useb h285 (by kernel_rfl)) ?_
                                  refine Tri.fix [1, 5, 7, 8, 9, 12, 13] 2 [] ⟨224, [(1, o1 (.ref 0 0)), (5, o1 (.own 3 (List.map eI z258))), (7, oB z259), (8, oI z260), (9, o1 (.ref 1 0)), (12, oI (w64 ((w64 (x262 - r267.1)) + r267.2))), (13, o1 (.own 3 (List.map eI y277)))], [eSCode a0, eSIns x265], 0, []⟩ (by kernel_rfl) ?_
                                  refine Tri.skip ?_
                                  exact ⟨y277, (Option.some.inj h288).symm, rfl⟩
                              · unfold spec_l04Verify.e8 at h283
                                rcases ite_some h283 with ⟨h280, h283⟩ | ⟨h280, h283⟩
                                · refine Tri.r1 [1, 5, 7, 8, 9, 12, 13, 167] 2 [] [(2, .ov [.sc (.bool false)])] [_] ⟨224, [(1, o1 (.ref 0 0)), (5, o1 (.own 3 (List.map eI z258))), (7, oB z259), (8, oI z260), (9, o1 (.ref 1 0)), (12, oI (w64 ((w64 (x262 - r267.1)) + r267.2))), (13, o1 (.own 3 (List.map eI y277))), (167, oB false)], [eSCode a0, eSIns x265], 0, []⟩ (by kernel_rfl) ⟨(ovb (nF (decide_eq_true h280))), trivial⟩ ?_
                                  exact ⟨false, (Option.some.inj h283).symm, rfl⟩
                                · rcases ite_some h283 with ⟨h281, h283⟩ | ⟨h281, h283⟩
                                  · refine Tri.r1 [1, 5, 7, 8, 9, 12, 13, 167] 2 [] [(2, .ov [.sc (.bool true)]), (6, .ov [.sc (.bool false)])] [_, _] ⟨224, [(1, o1 (.ref 0 0)), (5, o1 (.own 3 (List.map eI z258))), (7, oB z259), (8, oI z260), (9, o1 (.ref 1 0)), (12, oI (w64 ((w64 (x262 - r267.1)) + r267.2))), (13, o1 (.own 3 (List.map eI y277))), (167, oB false)], [eSCode a0, eSIns x265], 0, []⟩ (by kernel_rfl) ⟨(ovb (nT (decide_eq_false h280))), (ovb (nF (decide_eq_true h281))), trivial⟩ ?_
                                    exact ⟨false, (Option.some.inj h283).symm, rfl⟩
                                  · refine Tri.r1 [1, 5, 7, 8, 9, 12, 13, 167] 2 [] [(2, .ov [.sc (.bool true)]), (6, .ov [.sc (.bool true)])] [_, _] ⟨224, [(1, o1 (.ref 0 0)), (5, o1 (.own 3 (List.map eI z258))), (7, oB z259), (8, oI z260), (9, o1 (.ref 1 0)), (12, oI (w64 ((w64 (x262 - r267.1)) + r267.2))), (13, o1 (.own 3 (List.map eI y277))), (167, oB (!(decide (x265.f0 = 17))))], [eSCode a0, eSIns x265], 0, []⟩ (by kernel_rfl) ⟨(ovb (nT (decide_eq_false h280))), (ovb (nT (decide_eq_false h281))), trivial⟩ ?_
                                    exact ⟨(!(decide (x265.f0 = 17))), (Option.some.inj h283).symm, rfl⟩
                          · unfold spec_l04Verify.e7 at h278
                            obtain ⟨v274, h273, h278⟩ := bind_some' h278
                            refine Tri.join (α := Bool) (fun w => v274 = w) (fun y272 => ⟨224, [(1, o1 (.ref 0 0)), (5, o1 (.own 3 (List.map eI z258))), (7, oB z259), (8, oI z260), (9, o1 (.ref 1 0)), (12, oI (w64 ((w64 (x262 - r267.1)) + r267.2))), (13, o1 (.own 3 (List.map eI ([] : List Int)))), (149, oB y272)], [eSCode a0, eSIns x265], 0, []⟩) (fun y272 hw => ?_) ?_
                            · rw [hw] at h278; clear hw
                              try dsimp only at h278
                              rcases iteb_some h278 with ⟨h275, h278⟩ | ⟨h275, h278⟩
                              · refine Tri.cond_true (useb h275 (by kernel_rfl)) ?_
                                obtain ⟨h276, h278⟩ := need_some h278
                                refine Tri.r1 [1, 5, 7, 8, 9, 12, 13] 2 [] [(4, .ov [.own 3 (List.map eI (([] : List Int) ++ ([x265.f1] : List Int)))])] [_, _, _] ⟨224, [(1, o1 (.ref 0 0)), (5, o1 (.own 3 (List.map eI z258))), (7, oB z259), (8, oI z260), (9, o1 (.ref 1 0)), (12, oI (w64 ((w64 (x262 - r267.1)) + r267.2))), (13, o1 (.own 3 (List.map eI (([] : List Int) ++ ([x265.f1] : List Int)))))], [eSCode a0, eSIns x265], 0, []⟩ (by kernel_rfl) ⟨(app1 (f := eI) (by decide) h276), (app2 (f := eI) h276), (ovapp (e := 3) (f := eI) (l := ([] : List Int)) (m := ([x265.f1] : List Int))), trivial⟩ ?_
                                exact ⟨([] : List Int) ++ ([x265.f1] : List Int), (Option.some.inj h278).symm, rfl⟩
                              · refine Tri.cond_false (useb h275 (by kernel_rfl)) ?_
                                refine Tri.fix [1, 5, 7, 8, 9, 12, 13] 2 [] ⟨224, [(1, o1 (.ref 0 0)), (5, o1 (.own 3 (List.map eI z258))), (7, oB z259), (8, oI z260), (9, o1 (.ref 1 0)), (12, oI (w64 ((w64 (x262 - r267.1)) + r267.2))), (13, o1 (.own 3 (List.map eI ([] : List Int))))], [eSCode a0, eSIns x265], 0, []⟩ (by kernel_rfl) ?_
                                refine Tri.skip ?_
                                exact ⟨([] : List Int), (Option.some.inj h278).symm, rfl⟩
                            · unfold spec_l04Verify.e6 at h273
                              rcases ite_some h273 with ⟨h271, h273⟩ | ⟨h271, h273⟩
                              · refine Tri.r1 [1, 5, 7, 8, 9, 12, 13, 149] 2 [] [(2, .ov [.sc (.bool true)])] [_] ⟨224, [(1, o1 (.ref 0 0)), (5, o1 (.own 3 (List.map eI z258))), (7, oB z259), (8, oI z260), (9, o1 (.ref 1 0)), (12, oI (w64 ((w64 (x262 - r267.1)) + r267.2))), (13, o1 (.own 3 (List.map eI ([] : List Int)))), (149, oB true)], [eSCode a0, eSIns x265], 0, []⟩ (by kernel_rfl) ⟨(ovb (decide_eq_true h271)), trivial⟩ ?_
                                exact ⟨true, (Option.some.inj h273).symm, rfl⟩
                              · refine Tri.r1 [1, 5, 7, 8, 9, 12, 13, 149] 2 [] [(2, .ov [.sc (.bool false)])] [_] ⟨224, [(1, o1 (.ref 0 0)), (5, o1 (.own 3 (List.map eI z258))), (7, oB z259), (8, oI z260), (9, o1 (.ref 1 0)), (12, oI (w64 ((w64 (x262 - r267.1)) + r267.2))), (13, o1 (.own 3 (List.map eI ([] : List Int)))), (149, oB (decide (x265.f0 = 12)))], [eSCode a0, eSIns x265], 0, []⟩ (by kernel_rfl) ⟨(ovb (decide_eq_false h271)), trivial⟩ ?_
                                exact ⟨(decide (x265.f0 = 12)), (Option.some.inj h273).symm, rfl⟩
                · refine Tri.cond_false (useb (decide_eq_false h261) (by kernel_rfl)) ?_
                  refine Tri.fix [1, 5, 7] 1 [] ⟨224, [(1, o1 (.ref 0 0)), (5, o1 (.own 3 (List.map eI z258))), (7, oB z259)], [eSCode a0], 0, []⟩ (by kernel_rfl) ?_
                  refine Tri.exit ?_
                  repeat (with_reducible refine Ex.exit ?_)
                  refine Bk.here ?_
                  exact ⟨(z258, z259), (Option.some.inj h330).symm, rfl⟩
            · refine Tri.cond_false (useb h191 (by kernel_rfl)) ?_
              refine Tri.fix [] 0 [] ⟨224, [], [], 0, []⟩ (by kernel_rfl) ?_
              refine Tri.exit ?_
              repeat (with_reducible refine Ex.exit ?_)
              refine Bk.here ?_
              exact ⟨(), (Option.some.inj h333).symm, rfl⟩
        · unfold spec_l04Verify.e5 at h45
          refine Tri.rn [1, 5, 6] 1 [] [] [] ⟨224, [(1, o1 (.ref 0 0)), (5, o1 (.own 3 (List.map eI ([] : List Int)))), (6, oI 0)], [eSCode a0], 0, []⟩ (by kernel_rfl) trivial ?_
          refine Tri.block ?_
          refine Tri.loop k (TriR.ind (α := ((List Int) × Int)) (fun k x => spec_l04Verify.l4 k a0 x.1 x.2) (fun x => ⟨224, [(1, o1 (.ref 0 0)), (5, o1 (.own 3 (List.map eI x.1))), (6, oI x.2)], [eSCode a0], 0, []⟩) (fun _ => rfl) (fun k x h45 IH43 => ?_) k (([] : List Int), 0) h45)
          obtain ⟨z39, z40⟩ := x
          rw [spec_l04Verify.l4.eq_2] at h45
          refine Tri.seq ?_
          refine Tri.rn [1, 5, 6, 92] 1 [] [(3, .ov [.sc (.int .i64 (a0.f4.length : Int))])] [_] ⟨224, [(1, o1 (.ref 0 0)), (5, o1 (.own 3 (List.map eI z39))), (6, oI z40), (92, oB (decide (z40 < (a0.f4.length : Int))))], [eSCode a0], 0, []⟩ (by kernel_rfl) ⟨(ovlen (f := eSIns) (l := a0.f4)), trivial⟩ ?_
          rcases ite_some h45 with ⟨h41, h45⟩ | ⟨h41, h45⟩
          · refine Tri.cond_true (useb (decide_eq_true h41) (by kernel_rfl)) ?_
            refine Tri.skip ?_
            refine Tri.seq ?_
            refine Tri.block ?_
            obtain ⟨h42, h45⟩ := need_some h45
            refine Tri.r1 [1, 5, 6] 1 [] [(2, .ov [.own 3 (List.map eI (z39 ++ ([-1] : List Int)))])] [_, _, _] ⟨224, [(1, o1 (.ref 0 0)), (5, o1 (.own 3 (List.map eI (z39 ++ ([-1] : List Int))))), (6, oI z40)], [eSCode a0], 0, []⟩ (by kernel_rfl) ⟨(app1 (f := eI) (by decide) h42), (app2 (f := eI) h42), (ovapp (e := 3) (f := eI) (l := z39) (m := ([-1] : List Int))), trivial⟩ ?_
            refine Tri.r1 [1, 5, 6] 1 [] [] [] ⟨224, [(1, o1 (.ref 0 0)), (5, o1 (.own 3 (List.map eI (z39 ++ ([-1] : List Int))))), (6, oI (w64 (z40 + 1)))], [eSCode a0], 0, []⟩ (by kernel_rfl) trivial ?_
            exact IH43 _ (z39 ++ ([-1] : List Int), w64 (z40 + 1)) (Nat.le_refl _) h45
          · refine Tri.cond_false (useb (decide_eq_false h41) (by kernel_rfl)) ?_
            refine Tri.fix [1, 5] 1 [] ⟨224, [(1, o1 (.ref 0 0)), (5, o1 (.own 3 (List.map eI z39)))], [eSCode a0], 0, []⟩ (by kernel_rfl) ?_
            refine Tri.exit ?_
            repeat (with_reducible refine Ex.exit ?_)
            refine Bk.here ?_
            exact ⟨z39, (Option.some.inj h45).symm, rfl⟩
      · unfold spec_l04Verify.e3 at h35
        refine Tri.rn [1, 4] 1 [] [] [] ⟨224, [(1, o1 (.ref 0 0)), (4, oI 0)], [eSCode a0], 0, []⟩ (by kernel_rfl) trivial ?_
        refine Tri.block ?_
        refine Tri.loop k (TriR.ind (α := Int) (fun k x => spec_l04Verify.l2 k a0 x) (fun x => ⟨224, [(1, o1 (.ref 0 0)), (4, oI x)], [eSCode a0], 0, []⟩) (fun _ => rfl) (fun k z27 h35 IH34 => ?_) k 0 h35)
        rw [spec_l04Verify.l2.eq_2] at h35
        refine Tri.seq ?_
        refine Tri.rn [1, 4, 75] 1 [] [(3, .ov [.sc (.int .i64 (a0.f4.length : Int))])] [_] ⟨224, [(1, o1 (.ref 0 0)), (4, oI z27), (75, oB (decide (z27 < (a0.f4.length : Int))))], [eSCode a0], 0, []⟩ (by kernel_rfl) ⟨(ovlen (f := eSIns) (l := a0.f4)), trivial⟩ ?_
        rcases ite_some h35 with ⟨h28, h35⟩ | ⟨h28, h35⟩
        · refine Tri.cond_true (useb (decide_eq_true h28) (by kernel_rfl)) ?_
          refine Tri.skip ?_
          refine Tri.seq ?_
          refine Tri.block ?_
          obtain ⟨x29, h30, h35⟩ := bind_some' h35
          obtain ⟨r31, h32, h35⟩ := bind_some' h35
          refine Tri.dn hmix 6 [[], [0], [], [0, 1, 2], [0, 1, 2, 3], [], [0, 1, 2, 3, 4, 5], [0, 1, 2, 3, 4, 5, 6]] [1, 4, 85] 1 [] [(3, .el (eSIns x29)), (6, .call (oB r31) [] false)] [_, _, _, _] ⟨224, [(1, o1 (.ref 0 0)), (4, oI z27), (85, oB (!r31))], [eSCode a0], 0, []⟩ (by kernel_rfl) ⟨(at?_0 h30), (at?_map (f := eSIns) h30), (spec_l04Ins.fn k x29 a0 r31 h32), (show (List.all [cB r31] PC.flatB) = true from rfl), trivial⟩ ?_
          rcases iteb_some h35 with ⟨h33, h35⟩ | ⟨h33, h35⟩
          · refine Tri.cond_false (useb (nF h33) (by kernel_rfl)) ?_
            refine Tri.skip ?_
            refine Tri.r1 [1, 4] 1 [] [] [] ⟨224, [(1, o1 (.ref 0 0)), (4, oI (w64 (z27 + 1)))], [eSCode a0], 0, []⟩ (by kernel_rfl) trivial ?_
            exact IH34 _ (w64 (z27 + 1)) (Nat.le_refl _) h35
          · refine Tri.cond_true (useb (nT h33) (by kernel_rfl)) ?_
            refine Tri.rn [2, 3] 0 [] [] [] ⟨224, [(2, oI 3), (3, oI z27)], [], 0, []⟩ (by kernel_rfl) trivial ?_
            refine Tri.ret ?_
            obtain rfl := Option.some.inj h35
            try dsimp only at H
            obtain rfl := Option.some.inj H
            exact ⟨.inr rfl, rfl, rfl, Nat.le_refl _, rfl, by simp⟩
        · refine Tri.cond_false (useb (decide_eq_false h28) (by kernel_rfl)) ?_
          refine Tri.fix [1] 1 [] ⟨224, [(1, o1 (.ref 0 0))], [eSCode a0], 0, []⟩ (by kernel_rfl) ?_
          refine Tri.exit ?_
          repeat (with_reducible refine Ex.exit ?_)
          refine Bk.here ?_
          exact ⟨(), (Option.some.inj h35).symm, rfl⟩
  · unfold spec_l04Verify.e1 at h18
    rcases ite_some h18 with ⟨h1, h18⟩ | ⟨h1, h18⟩
    · refine Tri.r1 [1, 70] 1 [] [(2, .ov [.sc (.int .i64 (a0.f4.length : Int))]), (3, .ov [.sc (.bool true)])] [_, _] ⟨224, [(1, o1 (.ref 0 0)), (70, oB true)], [eSCode a0], 0, []⟩ (by kernel_rfl) ⟨(ovlen (f := eSIns) (l := a0.f4)), (ovb (decide_eq_true h1)), trivial⟩ ?_
      exact ⟨true, (Option.some.inj h18).symm, rfl⟩
    · rcases ite_some h18 with ⟨h2, h18⟩ | ⟨h2, h18⟩
      · refine Tri.r1 [1, 70] 1 [] [(2, .ov [.sc (.int .i64 (a0.f4.length : Int))]), (3, .ov [.sc (.bool false)]), (7, .ov [.sc (.int .i64 (a0.f4.length : Int))]), (8, .ov [.sc (.bool true)])] [_, _, _, _] ⟨224, [(1, o1 (.ref 0 0)), (70, oB true)], [eSCode a0], 0, []⟩ (by kernel_rfl) ⟨(ovlen (f := eSIns) (l := a0.f4)), (ovb (decide_eq_false h1)), (ovlen (f := eSIns) (l := a0.f4)), (ovb (decide_eq_true h2)), trivial⟩ ?_
        exact ⟨true, (Option.some.inj h18).symm, rfl⟩
      · obtain ⟨r3, h4, h18⟩ := bind_some' h18
        rcases iteb_some h18 with ⟨h5, h18⟩ | ⟨h5, h18⟩
        · obtain ⟨r6, h7, h18⟩ := bind_some' h18
          rcases iteb_some h18 with ⟨h8, h18⟩ | ⟨h8, h18⟩
          · obtain ⟨r9, h10, h18⟩ := bind_some' h18
            rcases iteb_some h18 with ⟨h11, h18⟩ | ⟨h11, h18⟩
            · rcases ite_some h18 with ⟨h12, h18⟩ | ⟨h12, h18⟩
              · rcases ite_some h18 with ⟨h13, h18⟩ | ⟨h13, h18⟩
                · refine Tri.r1 [1, 70] 1 [] [(2, .ov [.sc (.int .i64 (a0.f4.length : Int))]), (3, .ov [.sc (.bool false)]), (7, .ov [.sc (.int .i64 (a0.f4.length : Int))]), (8, .ov [.sc (.bool false)]), (13, .call (oB r3) [] false), (13, .ov [.sc (.bool true)]), (21, .call (oB r6) [] false), (21, .ov [.sc (.bool true)]), (27, .call (oB r9) [] false), (27, .ov [.sc (.bool true)]), (33, .ov [.sc (.bool false)]), (44, .ov [.sc (.bool true)]), (48, .ov [.sc (.bool false)])] [_, _, _, _, _, _, _, _, _, _, _, _, _, _, _, _] ⟨224, [(1, o1 (.ref 0 0)), (70, oB (!(decide (a0.f3 = 0))))], [eSCode a0], 0, []⟩ (by kernel_rfl) ⟨(ovlen (f := eSIns) (l := a0.f4)), (ovb (decide_eq_false h1)), (ovlen (f := eSIns) (l := a0.f4)), (ovb (decide_eq_false h2)), (spec_l01In.fn k a0.f1 0 20 r3 h4), (show (List.all [cB r3] PC.flatB) = true from rfl), (ovb h5), (spec_l01In.fn k a0.f2 a0.f1 2000 r6 h7), (show (List.all [cB r6] PC.flatB) = true from rfl), (ovb h8), (spec_l01In.fn k a0.f3 0 1 r9 h10), (show (List.all [cB r9] PC.flatB) = true from rfl), (ovb h11), (ovb (nF (decide_eq_true h12))), (ovb (decide_eq_true h12)), (ovb (nF (decide_eq_true h13))), trivial⟩ ?_
                  exact ⟨(!(decide (a0.f3 = 0))), (Option.some.inj h18).symm, rfl⟩
                · refine Tri.r1 [1, 70] 1 [] [(2, .ov [.sc (.int .i64 (a0.f4.length : Int))]), (3, .ov [.sc (.bool false)]), (7, .ov [.sc (.int .i64 (a0.f4.length : Int))]), (8, .ov [.sc (.bool false)]), (13, .call (oB r3) [] false), (13, .ov [.sc (.bool true)]), (21, .call (oB r6) [] false), (21, .ov [.sc (.bool true)]), (27, .call (oB r9) [] false), (27, .ov [.sc (.bool true)]), (33, .ov [.sc (.bool false)]), (44, .ov [.sc (.bool true)]), (48, .ov [.sc (.bool true)])] [_, _, _, _, _, _, _, _, _, _, _, _, _, _, _, _] ⟨224, [(1, o1 (.ref 0 0)), (70, oB true)], [eSCode a0], 0, []⟩ (by kernel_rfl) ⟨(ovlen (f := eSIns) (l := a0.f4)), (ovb (decide_eq_false h1)), (ovlen (f := eSIns) (l := a0.f4)), (ovb (decide_eq_false h2)), (spec_l01In.fn k a0.f1 0 20 r3 h4), (show (List.all [cB r3] PC.flatB) = true from rfl), (ovb h5), (spec_l01In.fn k a0.f2 a0.f1 2000 r6 h7), (show (List.all [cB r6] PC.flatB) = true from rfl), (ovb h8), (spec_l01In.fn k a0.f3 0 1 r9 h10), (show (List.all [cB r9] PC.flatB) = true from rfl), (ovb h11), (ovb (nF (decide_eq_true h12))), (ovb (decide_eq_true h12)), (ovb (nT (decide_eq_false h13))), trivial⟩ ?_
                  exact ⟨true, (Option.some.inj h18).symm, rfl⟩
              · obtain ⟨r14, h15, h18⟩ := bind_some' h18
                rcases iteb_some h18 with ⟨h16, h18⟩ | ⟨h16, h18⟩
                · refine Tri.r1 [1, 70] 1 [] [(2, .ov [.sc (.int .i64 (a0.f4.length : Int))]), (3, .ov [.sc (.bool false)]), (7, .ov [.sc (.int .i64 (a0.f4.length : Int))]), (8, .ov [.sc (.bool false)]), (13, .call (oB r3) [] false), (13, .ov [.sc (.bool true)]), (21, .call (oB r6) [] false), (21, .ov [.sc (.bool true)]), (27, .call (oB r9) [] false), (27, .ov [.sc (.bool true)]), (33, .ov [.sc (.bool true)]), (37, .call (oB r14) [] false), (37, .ov [.sc (.bool true)]), (44, .ov [.sc (.bool false)])] [_, _, _, _, _, _, _, _, _, _, _, _, _, _, _, _, _, _] ⟨224, [(1, o1 (.ref 0 0)), (70, oB false)], [eSCode a0], 0, []⟩ (by kernel_rfl) ⟨(ovlen (f := eSIns) (l := a0.f4)), (ovb (decide_eq_false h1)), (ovlen (f := eSIns) (l := a0.f4)), (ovb (decide_eq_false h2)), (spec_l01In.fn k a0.f1 0 20 r3 h4), (show (List.all [cB r3] PC.flatB) = true from rfl), (ovb h5), (spec_l01In.fn k a0.f2 a0.f1 2000 r6 h7), (show (List.all [cB r6] PC.flatB) = true from rfl), (ovb h8), (spec_l01In.fn k a0.f3 0 1 r9 h10), (show (List.all [cB r9] PC.flatB) = true from rfl), (ovb h11), (ovb (nT (decide_eq_false h12))), (spec_l02Name.fn k a0.f0 r14 h15), (show (List.all [cB r14] PC.flatB) = true from rfl), (ovb h16), (ovb (decide_eq_false h12)), trivial⟩ ?_
                  exact ⟨false, (Option.some.inj h18).symm, rfl⟩
                · refine Tri.r1 [1, 70] 1 [] [(2, .ov [.sc (.int .i64 (a0.f4.length : Int))]), (3, .ov [.sc (.bool false)]), (7, .ov [.sc (.int .i64 (a0.f4.length : Int))]), (8, .ov [.sc (.bool false)]), (13, .call (oB r3) [] false), (13, .ov [.sc (.bool true)]), (21, .call (oB r6) [] false), (21, .ov [.sc (.bool true)]), (27, .call (oB r9) [] false), (27, .ov [.sc (.bool true)]), (33, .ov [.sc (.bool true)]), (37, .call (oB r14) [] false), (37, .ov [.sc (.bool false)])] [_, _, _, _, _, _, _, _, _, _, _, _, _, _, _, _, _] ⟨224, [(1, o1 (.ref 0 0)), (70, oB true)], [eSCode a0], 0, []⟩ (by kernel_rfl) ⟨(ovlen (f := eSIns) (l := a0.f4)), (ovb (decide_eq_false h1)), (ovlen (f := eSIns) (l := a0.f4)), (ovb (decide_eq_false h2)), (spec_l01In.fn k a0.f1 0 20 r3 h4), (show (List.all [cB r3] PC.flatB) = true from rfl), (ovb h5), (spec_l01In.fn k a0.f2 a0.f1 2000 r6 h7), (show (List.all [cB r6] PC.flatB) = true from rfl), (ovb h8), (spec_l01In.fn k a0.f3 0 1 r9 h10), (show (List.all [cB r9] PC.flatB) = true from rfl), (ovb h11), (ovb (nT (decide_eq_false h12))), (spec_l02Name.fn k a0.f0 r14 h15), (show (List.all [cB r14] PC.flatB) = true from rfl), (ovb h16), trivial⟩ ?_
                  exact ⟨true, (Option.some.inj h18).symm, rfl⟩
            · refine Tri.r1 [1, 70] 1 [] [(2, .ov [.sc (.int .i64 (a0.f4.length : Int))]), (3, .ov [.sc (.bool false)]), (7, .ov [.sc (.int .i64 (a0.f4.length : Int))]), (8, .ov [.sc (.bool false)]), (13, .call (oB r3) [] false), (13, .ov [.sc (.bool true)]), (21, .call (oB r6) [] false), (21, .ov [.sc (.bool true)]), (27, .call (oB r9) [] false), (27, .ov [.sc (.bool false)])] [_, _, _, _, _, _, _, _, _, _, _, _, _] ⟨224, [(1, o1 (.ref 0 0)), (70, oB true)], [eSCode a0], 0, []⟩ (by kernel_rfl) ⟨(ovlen (f := eSIns) (l := a0.f4)), (ovb (decide_eq_false h1)), (ovlen (f := eSIns) (l := a0.f4)), (ovb (decide_eq_false h2)), (spec_l01In.fn k a0.f1 0 20 r3 h4), (show (List.all [cB r3] PC.flatB) = true from rfl), (ovb h5), (spec_l01In.fn k a0.f2 a0.f1 2000 r6 h7), (show (List.all [cB r6] PC.flatB) = true from rfl), (ovb h8), (spec_l01In.fn k a0.f3 0 1 r9 h10), (show (List.all [cB r9] PC.flatB) = true from rfl), (ovb h11), trivial⟩ ?_
              exact ⟨true, (Option.some.inj h18).symm, rfl⟩
          · refine Tri.r1 [1, 70] 1 [] [(2, .ov [.sc (.int .i64 (a0.f4.length : Int))]), (3, .ov [.sc (.bool false)]), (7, .ov [.sc (.int .i64 (a0.f4.length : Int))]), (8, .ov [.sc (.bool false)]), (13, .call (oB r3) [] false), (13, .ov [.sc (.bool true)]), (21, .call (oB r6) [] false), (21, .ov [.sc (.bool false)])] [_, _, _, _, _, _, _, _, _, _] ⟨224, [(1, o1 (.ref 0 0)), (70, oB true)], [eSCode a0], 0, []⟩ (by kernel_rfl) ⟨(ovlen (f := eSIns) (l := a0.f4)), (ovb (decide_eq_false h1)), (ovlen (f := eSIns) (l := a0.f4)), (ovb (decide_eq_false h2)), (spec_l01In.fn k a0.f1 0 20 r3 h4), (show (List.all [cB r3] PC.flatB) = true from rfl), (ovb h5), (spec_l01In.fn k a0.f2 a0.f1 2000 r6 h7), (show (List.all [cB r6] PC.flatB) = true from rfl), (ovb h8), trivial⟩ ?_
            exact ⟨true, (Option.some.inj h18).symm, rfl⟩
        · refine Tri.r1 [1, 70] 1 [] [(2, .ov [.sc (.int .i64 (a0.f4.length : Int))]), (3, .ov [.sc (.bool false)]), (7, .ov [.sc (.int .i64 (a0.f4.length : Int))]), (8, .ov [.sc (.bool false)]), (13, .call (oB r3) [] false), (13, .ov [.sc (.bool false)])] [_, _, _, _, _, _, _] ⟨224, [(1, o1 (.ref 0 0)), (70, oB true)], [eSCode a0], 0, []⟩ (by kernel_rfl) ⟨(ovlen (f := eSIns) (l := a0.f4)), (ovb (decide_eq_false h1)), (ovlen (f := eSIns) (l := a0.f4)), (ovb (decide_eq_false h2)), (spec_l01In.fn k a0.f1 0 20 r3 h4), (show (List.all [cB r3] PC.flatB) = true from rfl), (ovb h5), trivial⟩ ?_
          exact ⟨true, (Option.some.inj h18).symm, rfl⟩
/-! spec_l00Digits: function 21 -/
def spec_l00Digits.f : Nat → Int → Option ByteArray
  | 0, _ => none
  | k + 1, a0 => if a0 = (-9223372036854775808) then (some (⟨#[45, 57, 50, 50, 51, 51, 55, 50, 48, 51, 54, 56, 53, 52, 55, 55, 53, 56, 48, 56]⟩ : ByteArray)) else (if a0 < 0 then (((spec_l00Digits.f k) (w64 (0 - a0))).bind fun r3 => if (⟨#[45]⟩ : ByteArray).size + r3.size ≤ 9223372036854775807 then (some ((⟨#[45]⟩ : ByteArray) ++ r3)) else none) else (if a0 < 10 then (some (strOfNums ([IntKind.u8.wrap (w64 (48 + a0))] : List Int))) else (((spec_l00Digits.f k) (w64 (Int.tdiv a0 10))).bind fun r7 => if r7.size + (strOfNums ([IntKind.u8.wrap (w64 (48 + (Int.tmod a0 10)))] : List Int)).size ≤ 9223372036854775807 then (some (r7 ++ (strOfNums ([IntKind.u8.wrap (w64 (48 + (Int.tmod a0 10)))] : List Int)))) else none)))
set_option maxRecDepth 100000 in
theorem spec_l00Digits.fn (k : Nat) : ∀ (a0 : Int) (r : ByteArray) (H : spec_l00Digits.f k a0 = some r), Fn Tryd.prog 21 [oI a0] [] (oS r) [] := by
  induction k with
  | zero => intro a0 r H; exact absurd H (by simp [spec_l00Digits.f])
  | succ k ih_spec_l00Digits =>
  intro a0 r H
  rw [spec_l00Digits.f.eq_2] at H
  generalize spec_l00Digits.f k = rec_spec_l00Digits at H ih_spec_l00Digits
  refine Fn.body (ts := [2]) Tryd.func21 rfl rfl (by decide) (by decide) (Nat.le_of_ble_eq_true rfl) (Nat.le_refl _) ?_
  refine Tri.rn [0] 0 [] [] [] ⟨28, [(0, oI a0)], [], 0, []⟩ (by kernel_rfl) trivial ?_
  refine Tri.seq ?_
  refine Tri.rn [0, 4] 0 [] [] [] ⟨28, [(0, oI a0), (4, oB (decide (a0 = (-9223372036854775808))))], [], 0, []⟩ (by kernel_rfl) trivial ?_
  rcases ite_some H with ⟨h1, H⟩ | ⟨h1, H⟩
  · refine Tri.cond_true (useb (decide_eq_true h1) (by kernel_rfl)) ?_
    refine Tri.rn [2] 0 [] [] [] ⟨28, [(2, oS (⟨#[45, 57, 50, 50, 51, 51, 55, 50, 48, 51, 54, 56, 53, 52, 55, 55, 53, 56, 48, 56]⟩ : ByteArray))], [], 0, []⟩ (by kernel_rfl) trivial ?_
    refine Tri.ret ?_
    obtain rfl := Option.some.inj H
    exact ⟨.inr rfl, rfl, rfl, Nat.le_refl _, rfl, by simp⟩
  · refine Tri.cond_false (useb (decide_eq_false h1) (by kernel_rfl)) ?_
    refine Tri.skip ?_
    refine Tri.seq ?_
    refine Tri.rn [0, 6] 0 [] [] [] ⟨28, [(0, oI a0), (6, oB (decide (a0 < 0)))], [], 0, []⟩ (by kernel_rfl) trivial ?_
    rcases ite_some H with ⟨h2, H⟩ | ⟨h2, H⟩
    · refine Tri.cond_true (useb (decide_eq_true h2) (by kernel_rfl)) ?_
      obtain ⟨r3, h4, H⟩ := bind_some' H
      obtain ⟨h5, H⟩ := need_some H
      refine Tri.rn [2] 0 [] [(2, .call (oS r3) [] false)] [_, _, _] ⟨28, [(2, oS ((⟨#[45]⟩ : ByteArray) ++ r3))], [], 0, []⟩ (by kernel_rfl) ⟨(ih_spec_l00Digits (w64 (0 - a0)) r3 h4), (show (List.all [cS r3] PC.flatB) = true from rfl), h5, trivial⟩ ?_
      refine Tri.ret ?_
      obtain rfl := Option.some.inj H
      exact ⟨.inr rfl, rfl, rfl, Nat.le_refl _, rfl, by simp⟩
    · refine Tri.cond_false (useb (decide_eq_false h2) (by kernel_rfl)) ?_
      refine Tri.skip ?_
      refine Tri.seq ?_
      refine Tri.rn [0, 12] 0 [] [] [] ⟨28, [(0, oI a0), (12, oB (decide (a0 < 10)))], [], 0, []⟩ (by kernel_rfl) trivial ?_
      rcases ite_some H with ⟨h6, H⟩ | ⟨h6, H⟩
      · refine Tri.cond_true (useb (decide_eq_true h6) (by kernel_rfl)) ?_
        refine Tri.rn [2] 0 [] [(4, .nums ([IntKind.u8.wrap (w64 (48 + a0))] : List Int))] [_, _] ⟨28, [(2, oS (strOfNums ([IntKind.u8.wrap (w64 (48 + a0))] : List Int)))], [], 0, []⟩ (by kernel_rfl) ⟨(rfl : List.map (eK .u8) ([IntKind.u8.wrap (w64 (48 + a0))] : List Int) = List.map (fun n => [PC.sc (.int .u8 n)]) ([IntKind.u8.wrap (w64 (48 + a0))] : List Int)), (mapne (f := eK .u8) (show ([IntKind.u8.wrap (w64 (48 + a0))] : List Int) ≠ [] by simp)), trivial⟩ ?_
        refine Tri.ret ?_
        obtain rfl := Option.some.inj H
        exact ⟨.inr rfl, rfl, rfl, Nat.le_refl _, rfl, by simp⟩
      · refine Tri.cond_false (useb (decide_eq_false h6) (by kernel_rfl)) ?_
        refine Tri.skip ?_
        obtain ⟨r7, h8, H⟩ := bind_some' H
        obtain ⟨h9, H⟩ := need_some H
        refine Tri.dn hmix 9 [[], [0], [0, 1], [], [3], [3, 4], [3, 4, 5], [3, 4, 5, 6], [3, 4, 5, 6, 7], [0, 1, 2, 3, 4, 5, 6, 7, 8], [0, 1, 2, 3, 4, 5, 6, 7, 8, 9]] [2] 0 [] [(2, .call (oS r7) [] false), (8, .nums ([IntKind.u8.wrap (w64 (48 + (Int.tmod a0 10)))] : List Int))] [_, _, _, _, _, _, _] ⟨28, [(2, oS (r7 ++ (strOfNums ([IntKind.u8.wrap (w64 (48 + (Int.tmod a0 10)))] : List Int))))], [], 0, []⟩ (by kernel_rfl) ⟨(show (10 : Int) ≠ 0 by decide), (ih_spec_l00Digits (w64 (Int.tdiv a0 10)) r7 h8), (show (List.all [cS r7] PC.flatB) = true from rfl), (show (10 : Int) ≠ 0 by decide), (rfl : List.map (eK .u8) ([IntKind.u8.wrap (w64 (48 + (Int.tmod a0 10)))] : List Int) = List.map (fun n => [PC.sc (.int .u8 n)]) ([IntKind.u8.wrap (w64 (48 + (Int.tmod a0 10)))] : List Int)), (mapne (f := eK .u8) (show ([IntKind.u8.wrap (w64 (48 + (Int.tmod a0 10)))] : List Int) ≠ [] by simp)), h9, trivial⟩ ?_
        refine Tri.ret ?_
        obtain rfl := Option.some.inj H
        exact ⟨.inr rfl, rfl, rfl, Nat.le_refl _, rfl, by simp⟩
/-! spec_l04Words: function 33 -/
def spec_l04Words.f (k : Nat) : Option (List ByteArray) := some ([(⟨#[]⟩ : ByteArray), (⟨#[112, 117, 115, 104]⟩ : ByteArray), (⟨#[108, 111, 99, 97, 108]⟩ : ByteArray), (⟨#[103, 108, 111, 98, 97, 108]⟩ : ByteArray), (⟨#[108, 111, 97, 100]⟩ : ByteArray), (⟨#[115, 116, 111, 114, 101]⟩ : ByteArray), (⟨#[105, 110, 100, 101, 120]⟩ : ByteArray), (⟨#[119, 111, 114, 107]⟩ : ByteArray), (⟨#[110, 101, 103]⟩ : ByteArray), (⟨#[110, 111, 116]⟩ : ByteArray), (⟨#[99, 104, 114]⟩ : ByteArray), (⟨#[106, 117, 109, 112]⟩ : ByteArray), (⟨#[106, 117, 109, 112, 102, 97, 108, 115, 101]⟩ : ByteArray), (⟨#[99, 97, 108, 108]⟩ : ByteArray), (⟨#[114, 101, 116, 117, 114, 110]⟩ : ByteArray), (⟨#[119, 114, 105, 116, 101]⟩ : ByteArray), (⟨#[114, 101, 97, 100]⟩ : ByteArray), (⟨#[116, 114, 97, 112]⟩ : ByteArray)] : List ByteArray)
set_option maxRecDepth 100000 in
theorem spec_l04Words.fn (k : Nat) (r : (List ByteArray)) (H : spec_l04Words.f k  = some r) : Fn Tryd.prog 33 [] [] (o1 (.own 9 (List.map eS r))) [] := by
  unfold spec_l04Words.f at H
  refine Fn.body (ts := [0]) Tryd.func33 rfl rfl (by decide) (by decide) (Nat.le_of_ble_eq_true rfl) (Nat.le_refl _) ?_
  refine Tri.rn [] 0 [] [] [] ⟨2, [], [], 0, []⟩ (by kernel_rfl) trivial ?_
  refine Tri.rn [0] 0 [] [] [] ⟨2, [(0, o1 (.own 9 (List.map eS ([(⟨#[]⟩ : ByteArray), (⟨#[112, 117, 115, 104]⟩ : ByteArray), (⟨#[108, 111, 99, 97, 108]⟩ : ByteArray), (⟨#[103, 108, 111, 98, 97, 108]⟩ : ByteArray), (⟨#[108, 111, 97, 100]⟩ : ByteArray), (⟨#[115, 116, 111, 114, 101]⟩ : ByteArray), (⟨#[105, 110, 100, 101, 120]⟩ : ByteArray), (⟨#[119, 111, 114, 107]⟩ : ByteArray), (⟨#[110, 101, 103]⟩ : ByteArray), (⟨#[110, 111, 116]⟩ : ByteArray), (⟨#[99, 104, 114]⟩ : ByteArray), (⟨#[106, 117, 109, 112]⟩ : ByteArray), (⟨#[106, 117, 109, 112, 102, 97, 108, 115, 101]⟩ : ByteArray), (⟨#[99, 97, 108, 108]⟩ : ByteArray), (⟨#[114, 101, 116, 117, 114, 110]⟩ : ByteArray), (⟨#[119, 114, 105, 116, 101]⟩ : ByteArray), (⟨#[114, 101, 97, 100]⟩ : ByteArray), (⟨#[116, 114, 97, 112]⟩ : ByteArray)] : List ByteArray))))], [], 0, []⟩ (by kernel_rfl) trivial ?_
  refine Tri.ret ?_
  obtain rfl := Option.some.inj H
  exact ⟨.inr rfl, rfl, rfl, Nat.le_refl _, rfl, by simp⟩
/-! spec_Listing: function 12 -/
def spec_Listing.e1 (k : Nat) (x63 : SIns) : Option Bool := if x63.f0 = 1 then (some (decide (x63.f0 = 1))) else (if x63.f0 = 2 then (some (decide (x63.f0 = 2))) else (if x63.f0 = 6 then (some (decide (x63.f0 = 6))) else (if x63.f0 = 11 then (some (decide (x63.f0 = 11))) else (if x63.f0 = 12 then (some (decide (x63.f0 = 12))) else (if x63.f0 = 15 then (some (decide (x63.f0 = 15))) else (if x63.f0 = 16 then (some (decide (x63.f0 = 16))) else (some (decide (x63.f0 = 17)))))))))
def spec_Listing.e2 (k : Nat) (x63 : SIns) (r65 : ByteArray) (x70 : ByteArray) : Option ByteArray := (spec_Listing.e1 k x63).bind fun y80 => if y80 = true then ((spec_l00Digits.f k x63.f1).bind fun r84 => if (⟨#[32]⟩ : ByteArray).size + r84.size ≤ 9223372036854775807 then (if ((r65 ++ (⟨#[32]⟩ : ByteArray)) ++ x70).size + ((⟨#[32]⟩ : ByteArray) ++ r84).size ≤ 9223372036854775807 then (some (((r65 ++ (⟨#[32]⟩ : ByteArray)) ++ x70) ++ ((⟨#[32]⟩ : ByteArray) ++ r84))) else none) else none) else (if x63.f0 = 7 then ((spec_l04Signs.f k).bind fun r89 => (at? r89 x63.f1).bind fun x91 => if (⟨#[32]⟩ : ByteArray).size + x91.size ≤ 9223372036854775807 then (if ((r65 ++ (⟨#[32]⟩ : ByteArray)) ++ x70).size + ((⟨#[32]⟩ : ByteArray) ++ x91).size ≤ 9223372036854775807 then (some (((r65 ++ (⟨#[32]⟩ : ByteArray)) ++ x70) ++ ((⟨#[32]⟩ : ByteArray) ++ x91))) else none) else none) else (if x63.f0 = 3 then (if (⟨#[32]⟩ : ByteArray).size + x63.f3.size ≤ 9223372036854775807 then (if ((⟨#[32]⟩ : ByteArray) ++ x63.f3).size + (⟨#[46]⟩ : ByteArray).size ≤ 9223372036854775807 then (if (((⟨#[32]⟩ : ByteArray) ++ x63.f3) ++ (⟨#[46]⟩ : ByteArray)).size + x63.f4.size ≤ 9223372036854775807 then (if ((r65 ++ (⟨#[32]⟩ : ByteArray)) ++ x70).size + ((((⟨#[32]⟩ : ByteArray) ++ x63.f3) ++ (⟨#[46]⟩ : ByteArray)) ++ x63.f4).size ≤ 9223372036854775807 then (some (((r65 ++ (⟨#[32]⟩ : ByteArray)) ++ x70) ++ ((((⟨#[32]⟩ : ByteArray) ++ x63.f3) ++ (⟨#[46]⟩ : ByteArray)) ++ x63.f4))) else none) else none) else none) else none) else (if x63.f0 = 13 then (if (⟨#[32]⟩ : ByteArray).size + x63.f3.size ≤ 9223372036854775807 then (if ((⟨#[32]⟩ : ByteArray) ++ x63.f3).size + (⟨#[46]⟩ : ByteArray).size ≤ 9223372036854775807 then (if (((⟨#[32]⟩ : ByteArray) ++ x63.f3) ++ (⟨#[46]⟩ : ByteArray)).size + x63.f4.size ≤ 9223372036854775807 then (if ((((⟨#[32]⟩ : ByteArray) ++ x63.f3) ++ (⟨#[46]⟩ : ByteArray)) ++ x63.f4).size + (⟨#[32]⟩ : ByteArray).size ≤ 9223372036854775807 then ((spec_l00Digits.f k x63.f1).bind fun r105 => if (((((⟨#[32]⟩ : ByteArray) ++ x63.f3) ++ (⟨#[46]⟩ : ByteArray)) ++ x63.f4) ++ (⟨#[32]⟩ : ByteArray)).size + r105.size ≤ 9223372036854775807 then (if ((((((⟨#[32]⟩ : ByteArray) ++ x63.f3) ++ (⟨#[46]⟩ : ByteArray)) ++ x63.f4) ++ (⟨#[32]⟩ : ByteArray)) ++ r105).size + (⟨#[32]⟩ : ByteArray).size ≤ 9223372036854775807 then ((spec_l00Digits.f k x63.f2).bind fun r109 => if (((((((⟨#[32]⟩ : ByteArray) ++ x63.f3) ++ (⟨#[46]⟩ : ByteArray)) ++ x63.f4) ++ (⟨#[32]⟩ : ByteArray)) ++ r105) ++ (⟨#[32]⟩ : ByteArray)).size + r109.size ≤ 9223372036854775807 then (if ((r65 ++ (⟨#[32]⟩ : ByteArray)) ++ x70).size + ((((((((⟨#[32]⟩ : ByteArray) ++ x63.f3) ++ (⟨#[46]⟩ : ByteArray)) ++ x63.f4) ++ (⟨#[32]⟩ : ByteArray)) ++ r105) ++ (⟨#[32]⟩ : ByteArray)) ++ r109).size ≤ 9223372036854775807 then (some (((r65 ++ (⟨#[32]⟩ : ByteArray)) ++ x70) ++ ((((((((⟨#[32]⟩ : ByteArray) ++ x63.f3) ++ (⟨#[46]⟩ : ByteArray)) ++ x63.f4) ++ (⟨#[32]⟩ : ByteArray)) ++ r105) ++ (⟨#[32]⟩ : ByteArray)) ++ r109))) else none) else none) else none) else none) else none) else none) else none) else none) else (some ((r65 ++ (⟨#[32]⟩ : ByteArray)) ++ x70)))))
def spec_Listing.l3 : Nat → SCode → (List Int) → Int → Option (List Int)
  | 0, _, _, _ => none
  | k + 1, a0, z60, z61 => if z61 < (a0.f4.length : Int) then ((at? a0.f4 z61).bind fun x63 => (spec_l00Digits.f k z61).bind fun r65 => if r65.size + (⟨#[32]⟩ : ByteArray).size ≤ 9223372036854775807 then ((spec_l04Words.f k).bind fun r68 => (at? r68 x63.f0).bind fun x70 => if (r65 ++ (⟨#[32]⟩ : ByteArray)).size + x70.size ≤ 9223372036854775807 then ((spec_Listing.e2 k x63 r65 x70).bind fun y113 => if (z60 ++ (bytesOf y113)).length * 1 ≤ 140737488355328 then (if ((z60 ++ (bytesOf y113)) ++ ([10] : List Int)).length * 1 ≤ 140737488355328 then (spec_Listing.l3 k a0 ((z60 ++ (bytesOf y113)) ++ ([10] : List Int)) (w64 (z61 + 1))) else none) else none) else none) else none) else (some z60)
def spec_Listing.e4 (k : Nat) (a0 : SCode) : Option (List Int) := spec_Listing.l3 k a0 ([] : List Int) 0
def spec_Listing.f (k : Nat) (a0 : SCode) : Option (ByteArray × Int) := (spec_l04Verify.f k a0).bind fun r1 => if r1.1 = 0 then ((spec_Listing.e4 k a0).bind fun y119 => if y119 ≠ [] then (some (strOfNums y119, 0)) else none) else (some ((⟨#[]⟩ : ByteArray), 1))
set_option maxRecDepth 100000 in
theorem spec_Listing.fn (k : Nat) (a0 : SCode) (r : (ByteArray × Int)) (H : spec_Listing.f k a0 = some r) : Fn Tryd.prog 12 [ag (eSCode a0)] [] (tp [none, none] [cS r.1, cI r.2]) [] := by
  unfold spec_Listing.f at H
  refine Fn.body (ts := [2, 3]) Tryd.func12 rfl rfl (by decide) (by decide) (Nat.le_of_ble_eq_true rfl) (Nat.le_refl _) ?_
  refine Tri.rn [1] 1 [] [] [] ⟨105, [(1, o1 (.ref 0 0))], [eSCode a0], 0, []⟩ (by kernel_rfl) trivial ?_
  refine Tri.seq ?_
  obtain ⟨r1, h2, H⟩ := bind_some' H
  refine Tri.rn [1, 4] 1 [] [(1, .call (tp [none, none] [cI r1.1, cI r1.2]) [] false)] [_, _] ⟨105, [(1, o1 (.ref 0 0)), (4, oI r1.1)], [eSCode a0], 0, []⟩ (by kernel_rfl) ⟨(spec_l04Verify.fn k a0 r1 h2), (show (List.all [cI r1.1, cI r1.2] PC.flatB) = true from rfl), trivial⟩ ?_
  refine Tri.rn [1, 16] 1 [] [] [] ⟨105, [(1, o1 (.ref 0 0)), (16, oB (!(decide (r1.1 = 0))))], [eSCode a0], 0, []⟩ (by kernel_rfl) trivial ?_
  rcases ite_some H with ⟨h3, H⟩ | ⟨h3, H⟩
  · refine Tri.cond_false (useb (nF (decide_eq_true h3)) (by kernel_rfl)) ?_
    refine Tri.skip ?_
    refine Tri.rn [1, 6] 1 [] [] [] ⟨105, [(1, o1 (.ref 0 0)), (6, o1 (.own 5 (List.map (eK .u8) ([] : List Int))))], [eSCode a0], 0, []⟩ (by kernel_rfl) trivial ?_
    obtain ⟨v121, h120, H⟩ := bind_some' H
    refine Tri.join (α := (List Int)) (fun w => v121 = w) (fun y119 => ⟨105, [(6, o1 (.own 5 (List.map (eK .u8) y119)))], [], 0, []⟩) (fun y119 hw => ?_) ?_
    · rw [hw] at H; clear hw
      try dsimp only at H
      obtain ⟨h122, H⟩ := need_some H
      refine Tri.rn [2, 3] 0 [] [(1, .nums y119)] [_, _] ⟨105, [(2, oS (strOfNums y119)), (3, oI 0)], [], 0, []⟩ (by kernel_rfl) ⟨(rfl : List.map (eK .u8) y119 = List.map (fun n => [PC.sc (.int .u8 n)]) y119), (mapne (f := eK .u8) h122), trivial⟩ ?_
      refine Tri.ret ?_
      obtain rfl := Option.some.inj H
      exact ⟨.inr rfl, rfl, rfl, Nat.le_refl _, rfl, by simp⟩
    · unfold spec_Listing.e4 at h120
      refine Tri.rn [1, 6, 7] 1 [] [] [] ⟨105, [(1, o1 (.ref 0 0)), (6, o1 (.own 5 (List.map (eK .u8) ([] : List Int)))), (7, oI 0)], [eSCode a0], 0, []⟩ (by kernel_rfl) trivial ?_
      refine Tri.block ?_
      refine Tri.loop k (TriR.ind (α := ((List Int) × Int)) (fun k x => spec_Listing.l3 k a0 x.1 x.2) (fun x => ⟨105, [(1, o1 (.ref 0 0)), (6, o1 (.own 5 (List.map (eK .u8) x.1))), (7, oI x.2)], [eSCode a0], 0, []⟩) (fun _ => rfl) (fun k x h120 IH118 => ?_) k (([] : List Int), 0) h120)
      obtain ⟨z60, z61⟩ := x
      rw [spec_Listing.l3.eq_2] at h120
      refine Tri.seq ?_
      refine Tri.rn [1, 6, 7, 22] 1 [] [(3, .ov [.sc (.int .i64 (a0.f4.length : Int))])] [_] ⟨105, [(1, o1 (.ref 0 0)), (6, o1 (.own 5 (List.map (eK .u8) z60))), (7, oI z61), (22, oB (decide (z61 < (a0.f4.length : Int))))], [eSCode a0], 0, []⟩ (by kernel_rfl) ⟨(ovlen (f := eSIns) (l := a0.f4)), trivial⟩ ?_
      rcases ite_some h120 with ⟨h62, h120⟩ | ⟨h62, h120⟩
      · refine Tri.cond_true (useb (decide_eq_true h62) (by kernel_rfl)) ?_
        refine Tri.skip ?_
        refine Tri.seq ?_
        refine Tri.block ?_
        obtain ⟨x63, h64, h120⟩ := bind_some' h120
        refine Tri.rn [1, 6, 7, 8] 2 [] [(3, .el (eSIns x63))] [_, _] ⟨105, [(1, o1 (.ref 0 0)), (6, o1 (.own 5 (List.map (eK .u8) z60))), (7, oI z61), (8, o1 (.ref 1 0))], [eSCode a0, eSIns x63], 0, []⟩ (by kernel_rfl) ⟨(at?_0 h64), (at?_map (f := eSIns) h64), trivial⟩ ?_
        obtain ⟨r65, h66, h120⟩ := bind_some' h120
        obtain ⟨h67, h120⟩ := need_some h120
        obtain ⟨r68, h69, h120⟩ := bind_some' h120
        obtain ⟨x70, h71, h120⟩ := bind_some' h120
        obtain ⟨h72, h120⟩ := need_some h120
        refine Tri.dn hmix 8 [[], [0], [0, 1], [0, 1], [], [4], [0, 1, 3, 4, 5], [0, 1, 3, 4, 5, 6], [0, 1, 2, 3, 4, 5, 6, 7], [0, 1, 2, 3, 4, 5, 6, 7, 8]] [1, 6, 7, 8, 9] 2 [] [(1, .call (oS r65) [] false), (3, .call (o1 (.own 9 (List.map eS r68))) [] false), (6, .el (eS x70)), (7, .el (eS x70))] [_, _, _, _, _, _, _, _, _] ⟨105, [(1, o1 (.ref 0 0)), (6, o1 (.own 5 (List.map (eK .u8) z60))), (7, oI z61), (8, o1 (.ref 1 0)), (9, oS ((r65 ++ (⟨#[32]⟩ : ByteArray)) ++ x70))], [eSCode a0, eSIns x63], 0, []⟩ (by kernel_rfl) ⟨(spec_l00Digits.fn k z61 r65 h66), (show (List.all [cS r65] PC.flatB) = true from rfl), h67, (spec_l04Words.fn k r68 h69), (show (List.all [.own 9 (List.map eS r68)] PC.flatB) = true by simp [PC.flatB, PC.scalar, cI, cK, cB, cS, eS]), (at?_0 h71), (at?_map (f := eS) h71), (at?_map (f := eS) h71), h72, trivial⟩ ?_
        obtain ⟨v115, h114, h120⟩ := bind_some' h120
        refine Tri.join (α := ByteArray) (fun w => v115 = w) (fun y113 => ⟨105, [(1, o1 (.ref 0 0)), (6, o1 (.own 5 (List.map (eK .u8) z60))), (7, oI z61), (9, oS y113)], [eSCode a0], 0, []⟩) (fun y113 hw => ?_) ?_
        · rw [hw] at h120; clear hw
          try dsimp only at h120
          obtain ⟨h116, h120⟩ := need_some h120
          obtain ⟨h117, h120⟩ := need_some h120
          refine Tri.r1 [1, 6, 7] 1 [] [(2, .ov [.own 5 (List.map (eK .u8) (z60 ++ (bytesOf y113)))]), (4, .ov [.own 5 (List.map (eK .u8) ((z60 ++ (bytesOf y113)) ++ ([10] : List Int)))])] [_, _, _, _, _, _] ⟨105, [(1, o1 (.ref 0 0)), (6, o1 (.own 5 (List.map (eK .u8) ((z60 ++ (bytesOf y113)) ++ ([10] : List Int))))), (7, oI z61)], [eSCode a0], 0, []⟩ (by kernel_rfl) ⟨(appS1 (by decide) h116), (appS2 h116), (ovappS (e := 5) (l := z60) (s := y113)), (app1 (f := (eK .u8)) (by decide) h117), (app2 (f := (eK .u8)) h117), (ovapp (e := 5) (f := (eK .u8)) (l := z60 ++ (bytesOf y113)) (m := ([10] : List Int))), trivial⟩ ?_
          refine Tri.r1 [1, 6, 7] 1 [] [] [] ⟨105, [(1, o1 (.ref 0 0)), (6, o1 (.own 5 (List.map (eK .u8) ((z60 ++ (bytesOf y113)) ++ ([10] : List Int))))), (7, oI (w64 (z61 + 1)))], [eSCode a0], 0, []⟩ (by kernel_rfl) trivial ?_
          exact IH118 _ ((z60 ++ (bytesOf y113)) ++ ([10] : List Int), w64 (z61 + 1)) (Nat.le_refl _) h120
        · unfold spec_Listing.e2 at h114
          refine Tri.rn [1, 6, 7, 8, 9, 40] 2 [] [] [] ⟨105, [(1, o1 (.ref 0 0)), (6, o1 (.own 5 (List.map (eK .u8) z60))), (7, oI z61), (8, o1 (.ref 1 0)), (9, oS ((r65 ++ (⟨#[32]⟩ : ByteArray)) ++ x70)), (40, oI x63.f0)], [eSCode a0, eSIns x63], 0, []⟩ (by kernel_rfl) trivial ?_
          refine Tri.block ?_
          obtain ⟨v82, h81, h114⟩ := bind_some' h114
          refine Tri.join (α := Bool) (fun w => v82 = w) (fun y80 => ⟨105, [(1, o1 (.ref 0 0)), (6, o1 (.own 5 (List.map (eK .u8) z60))), (7, oI z61), (8, o1 (.ref 1 0)), (9, oS ((r65 ++ (⟨#[32]⟩ : ByteArray)) ++ x70)), (40, oI x63.f0), (41, oB y80)], [eSCode a0, eSIns x63], 0, []⟩) (fun y80 hw => ?_) ?_
          · rw [hw] at h114; clear hw
            try dsimp only at h114
            rcases iteb_some h114 with ⟨h83, h114⟩ | ⟨h83, h114⟩
            · refine Tri.cond_true (useb h83 (by kernel_rfl)) ?_
              obtain ⟨r84, h85, h114⟩ := bind_some' h114
              obtain ⟨h86, h114⟩ := need_some h114
              obtain ⟨h87, h114⟩ := need_some h114
              refine Tri.r1 [1, 6, 7, 9] 1 [] [(3, .call (oS r84) [] false)] [_, _, _, _] ⟨105, [(1, o1 (.ref 0 0)), (6, o1 (.own 5 (List.map (eK .u8) z60))), (7, oI z61), (9, oS (((r65 ++ (⟨#[32]⟩ : ByteArray)) ++ x70) ++ ((⟨#[32]⟩ : ByteArray) ++ r84)))], [eSCode a0], 0, []⟩ (by kernel_rfl) ⟨(spec_l00Digits.fn k x63.f1 r84 h85), (show (List.all [cS r84] PC.flatB) = true from rfl), h86, h87, trivial⟩ ?_
              exact ⟨((r65 ++ (⟨#[32]⟩ : ByteArray)) ++ x70) ++ ((⟨#[32]⟩ : ByteArray) ++ r84), (Option.some.inj h114).symm, rfl⟩
            · refine Tri.cond_false (useb h83 (by kernel_rfl)) ?_
              refine Tri.rn [1, 6, 7, 8, 9, 40, 56] 2 [] [] [] ⟨105, [(1, o1 (.ref 0 0)), (6, o1 (.own 5 (List.map (eK .u8) z60))), (7, oI z61), (8, o1 (.ref 1 0)), (9, oS ((r65 ++ (⟨#[32]⟩ : ByteArray)) ++ x70)), (40, oI x63.f0), (56, oB (decide (x63.f0 = 7)))], [eSCode a0, eSIns x63], 0, []⟩ (by kernel_rfl) trivial ?_
              rcases ite_some h114 with ⟨h88, h114⟩ | ⟨h88, h114⟩
              · refine Tri.cond_true (useb (decide_eq_true h88) (by kernel_rfl)) ?_
                obtain ⟨r89, h90, h114⟩ := bind_some' h114
                obtain ⟨x91, h92, h114⟩ := bind_some' h114
                obtain ⟨h93, h114⟩ := need_some h114
                obtain ⟨h94, h114⟩ := need_some h114
                refine Tri.d1 hmix 7 [[], [], [], [2], [1, 2, 3], [1, 2, 3, 4], [1, 2, 3, 4, 5], [0, 1, 2, 3, 4, 5, 6], [0, 1, 2, 3, 4, 5, 6, 7]] [1, 6, 7, 9] 1 [] [(1, .call (o1 (.own 9 (List.map eS r89))) [] false), (4, .el (eS x91)), (5, .el (eS x91))] [_, _, _, _, _, _, _] ⟨105, [(1, o1 (.ref 0 0)), (6, o1 (.own 5 (List.map (eK .u8) z60))), (7, oI z61), (9, oS (((r65 ++ (⟨#[32]⟩ : ByteArray)) ++ x70) ++ ((⟨#[32]⟩ : ByteArray) ++ x91)))], [eSCode a0], 0, []⟩ (by kernel_rfl) ⟨(spec_l04Signs.fn k r89 h90), (show (List.all [.own 9 (List.map eS r89)] PC.flatB) = true by simp [PC.flatB, PC.scalar, cI, cK, cB, cS, eS]), (at?_0 h92), (at?_map (f := eS) h92), (at?_map (f := eS) h92), h93, h94, trivial⟩ ?_
                exact ⟨((r65 ++ (⟨#[32]⟩ : ByteArray)) ++ x70) ++ ((⟨#[32]⟩ : ByteArray) ++ x91), (Option.some.inj h114).symm, rfl⟩
              · refine Tri.cond_false (useb (decide_eq_false h88) (by kernel_rfl)) ?_
                refine Tri.rn [1, 6, 7, 8, 9, 40, 66] 2 [] [] [] ⟨105, [(1, o1 (.ref 0 0)), (6, o1 (.own 5 (List.map (eK .u8) z60))), (7, oI z61), (8, o1 (.ref 1 0)), (9, oS ((r65 ++ (⟨#[32]⟩ : ByteArray)) ++ x70)), (40, oI x63.f0), (66, oB (decide (x63.f0 = 3)))], [eSCode a0, eSIns x63], 0, []⟩ (by kernel_rfl) trivial ?_
                rcases ite_some h114 with ⟨h95, h114⟩ | ⟨h95, h114⟩
                · refine Tri.cond_true (useb (decide_eq_true h95) (by kernel_rfl)) ?_
                  obtain ⟨h96, h114⟩ := need_some h114
                  obtain ⟨h97, h114⟩ := need_some h114
                  obtain ⟨h98, h114⟩ := need_some h114
                  obtain ⟨h99, h114⟩ := need_some h114
                  refine Tri.r1 [1, 6, 7, 9] 1 [] [] [_, _, _, _] ⟨105, [(1, o1 (.ref 0 0)), (6, o1 (.own 5 (List.map (eK .u8) z60))), (7, oI z61), (9, oS (((r65 ++ (⟨#[32]⟩ : ByteArray)) ++ x70) ++ ((((⟨#[32]⟩ : ByteArray) ++ x63.f3) ++ (⟨#[46]⟩ : ByteArray)) ++ x63.f4)))], [eSCode a0], 0, []⟩ (by kernel_rfl) ⟨h96, h97, h98, h99, trivial⟩ ?_
                  exact ⟨((r65 ++ (⟨#[32]⟩ : ByteArray)) ++ x70) ++ ((((⟨#[32]⟩ : ByteArray) ++ x63.f3) ++ (⟨#[46]⟩ : ByteArray)) ++ x63.f4), (Option.some.inj h114).symm, rfl⟩
                · refine Tri.cond_false (useb (decide_eq_false h95) (by kernel_rfl)) ?_
                  refine Tri.rn [1, 6, 7, 8, 9, 77] 2 [] [] [] ⟨105, [(1, o1 (.ref 0 0)), (6, o1 (.own 5 (List.map (eK .u8) z60))), (7, oI z61), (8, o1 (.ref 1 0)), (9, oS ((r65 ++ (⟨#[32]⟩ : ByteArray)) ++ x70)), (77, oB (decide (x63.f0 = 13)))], [eSCode a0, eSIns x63], 0, []⟩ (by kernel_rfl) trivial ?_
                  rcases ite_some h114 with ⟨h100, h114⟩ | ⟨h100, h114⟩
                  · refine Tri.cond_true (useb (decide_eq_true h100) (by kernel_rfl)) ?_
                    obtain ⟨h101, h114⟩ := need_some h114
                    obtain ⟨h102, h114⟩ := need_some h114
                    obtain ⟨h103, h114⟩ := need_some h114
                    obtain ⟨h104, h114⟩ := need_some h114
                    obtain ⟨r105, h106, h114⟩ := bind_some' h114
                    obtain ⟨h107, h114⟩ := need_some h114
                    obtain ⟨h108, h114⟩ := need_some h114
                    obtain ⟨r109, h110, h114⟩ := bind_some' h114
                    obtain ⟨h111, h114⟩ := need_some h114
                    obtain ⟨h112, h114⟩ := need_some h114
                    refine Tri.d1 hmix 18 [[], [], [1], [1, 2], [1, 2, 3], [], [5], [1, 2, 3, 4, 5, 6], [1, 2, 3, 4, 5, 6, 7], [], [9], [9, 10], [1, 2, 3, 4, 5, 6, 7, 8, 9, 10, 11], [1, 2, 3, 4, 5, 6, 7, 8, 9, 10, 11, 12], [], [14], [9, 10, 11, 14, 15], [1, 2, 3, 4, 5, 6, 7, 8, 9, 10, 11, 12, 13, 14, 15, 16], [0, 1, 2, 3, 4, 5, 6, 7, 8, 9, 10, 11, 12, 13, 14, 15, 16, 17], [0, 1, 2, 3, 4, 5, 6, 7, 8, 9, 10, 11, 12, 13, 14, 15, 16, 17, 18]] [1, 6, 7, 9] 1 [] [(11, .call (oS r105) [] false), (16, .call (oS r109) [] false)] [_, _, _, _, _, _, _, _, _, _, _, _] ⟨105, [(1, o1 (.ref 0 0)), (6, o1 (.own 5 (List.map (eK .u8) z60))), (7, oI z61), (9, oS (((r65 ++ (⟨#[32]⟩ : ByteArray)) ++ x70) ++ ((((((((⟨#[32]⟩ : ByteArray) ++ x63.f3) ++ (⟨#[46]⟩ : ByteArray)) ++ x63.f4) ++ (⟨#[32]⟩ : ByteArray)) ++ r105) ++ (⟨#[32]⟩ : ByteArray)) ++ r109)))], [eSCode a0], 0, []⟩ (by kernel_rfl) ⟨h101, h102, h103, h104, (spec_l00Digits.fn k x63.f1 r105 h106), (show (List.all [cS r105] PC.flatB) = true from rfl), h107, h108, (spec_l00Digits.fn k x63.f2 r109 h110), (show (List.all [cS r109] PC.flatB) = true from rfl), h111, h112, trivial⟩ ?_
                    exact ⟨((r65 ++ (⟨#[32]⟩ : ByteArray)) ++ x70) ++ ((((((((⟨#[32]⟩ : ByteArray) ++ x63.f3) ++ (⟨#[46]⟩ : ByteArray)) ++ x63.f4) ++ (⟨#[32]⟩ : ByteArray)) ++ r105) ++ (⟨#[32]⟩ : ByteArray)) ++ r109), (Option.some.inj h114).symm, rfl⟩
                  · refine Tri.cond_false (useb (decide_eq_false h100) (by kernel_rfl)) ?_
                    refine Tri.fix [1, 6, 7, 9] 1 [] ⟨105, [(1, o1 (.ref 0 0)), (6, o1 (.own 5 (List.map (eK .u8) z60))), (7, oI z61), (9, oS ((r65 ++ (⟨#[32]⟩ : ByteArray)) ++ x70))], [eSCode a0], 0, []⟩ (by kernel_rfl) ?_
                    refine Tri.skip ?_
                    exact ⟨(r65 ++ (⟨#[32]⟩ : ByteArray)) ++ x70, (Option.some.inj h114).symm, rfl⟩
          · unfold spec_Listing.e1 at h81
            refine Tri.rn [1, 6, 7, 8, 9, 40, 41] 2 [] [] [] ⟨105, [(1, o1 (.ref 0 0)), (6, o1 (.own 5 (List.map (eK .u8) z60))), (7, oI z61), (8, o1 (.ref 1 0)), (9, oS ((r65 ++ (⟨#[32]⟩ : ByteArray)) ++ x70)), (40, oI x63.f0), (41, oB (decide (x63.f0 = 1)))], [eSCode a0, eSIns x63], 0, []⟩ (by kernel_rfl) trivial ?_
            rcases ite_some h81 with ⟨h73, h81⟩ | ⟨h73, h81⟩
            · refine Tri.cond_true (useb (decide_eq_true h73) (by kernel_rfl)) ?_
              refine Tri.skip ?_
              exact ⟨(decide (x63.f0 = 1)), (Option.some.inj h81).symm, rfl⟩
            · refine Tri.cond_false (useb (decide_eq_false h73) (by kernel_rfl)) ?_
              refine Tri.rn [1, 6, 7, 8, 9, 40, 41] 2 [] [] [] ⟨105, [(1, o1 (.ref 0 0)), (6, o1 (.own 5 (List.map (eK .u8) z60))), (7, oI z61), (8, o1 (.ref 1 0)), (9, oS ((r65 ++ (⟨#[32]⟩ : ByteArray)) ++ x70)), (40, oI x63.f0), (41, oB (decide (x63.f0 = 2)))], [eSCode a0, eSIns x63], 0, []⟩ (by kernel_rfl) trivial ?_
              rcases ite_some h81 with ⟨h74, h81⟩ | ⟨h74, h81⟩
              · refine Tri.cond_true (useb (decide_eq_true h74) (by kernel_rfl)) ?_
                refine Tri.skip ?_
                exact ⟨(decide (x63.f0 = 2)), (Option.some.inj h81).symm, rfl⟩
              · refine Tri.cond_false (useb (decide_eq_false h74) (by kernel_rfl)) ?_
                refine Tri.rn [1, 6, 7, 8, 9, 40, 41] 2 [] [] [] ⟨105, [(1, o1 (.ref 0 0)), (6, o1 (.own 5 (List.map (eK .u8) z60))), (7, oI z61), (8, o1 (.ref 1 0)), (9, oS ((r65 ++ (⟨#[32]⟩ : ByteArray)) ++ x70)), (40, oI x63.f0), (41, oB (decide (x63.f0 = 6)))], [eSCode a0, eSIns x63], 0, []⟩ (by kernel_rfl) trivial ?_
                rcases ite_some h81 with ⟨h75, h81⟩ | ⟨h75, h81⟩
                · refine Tri.cond_true (useb (decide_eq_true h75) (by kernel_rfl)) ?_
                  refine Tri.skip ?_
                  exact ⟨(decide (x63.f0 = 6)), (Option.some.inj h81).symm, rfl⟩
                · refine Tri.cond_false (useb (decide_eq_false h75) (by kernel_rfl)) ?_
                  refine Tri.rn [1, 6, 7, 8, 9, 40, 41] 2 [] [] [] ⟨105, [(1, o1 (.ref 0 0)), (6, o1 (.own 5 (List.map (eK .u8) z60))), (7, oI z61), (8, o1 (.ref 1 0)), (9, oS ((r65 ++ (⟨#[32]⟩ : ByteArray)) ++ x70)), (40, oI x63.f0), (41, oB (decide (x63.f0 = 11)))], [eSCode a0, eSIns x63], 0, []⟩ (by kernel_rfl) trivial ?_
                  rcases ite_some h81 with ⟨h76, h81⟩ | ⟨h76, h81⟩
                  · refine Tri.cond_true (useb (decide_eq_true h76) (by kernel_rfl)) ?_
                    refine Tri.skip ?_
                    exact ⟨(decide (x63.f0 = 11)), (Option.some.inj h81).symm, rfl⟩
                  · refine Tri.cond_false (useb (decide_eq_false h76) (by kernel_rfl)) ?_
                    refine Tri.rn [1, 6, 7, 8, 9, 40, 41] 2 [] [] [] ⟨105, [(1, o1 (.ref 0 0)), (6, o1 (.own 5 (List.map (eK .u8) z60))), (7, oI z61), (8, o1 (.ref 1 0)), (9, oS ((r65 ++ (⟨#[32]⟩ : ByteArray)) ++ x70)), (40, oI x63.f0), (41, oB (decide (x63.f0 = 12)))], [eSCode a0, eSIns x63], 0, []⟩ (by kernel_rfl) trivial ?_
                    rcases ite_some h81 with ⟨h77, h81⟩ | ⟨h77, h81⟩
                    · refine Tri.cond_true (useb (decide_eq_true h77) (by kernel_rfl)) ?_
                      refine Tri.skip ?_
                      exact ⟨(decide (x63.f0 = 12)), (Option.some.inj h81).symm, rfl⟩
                    · refine Tri.cond_false (useb (decide_eq_false h77) (by kernel_rfl)) ?_
                      refine Tri.rn [1, 6, 7, 8, 9, 40, 41] 2 [] [] [] ⟨105, [(1, o1 (.ref 0 0)), (6, o1 (.own 5 (List.map (eK .u8) z60))), (7, oI z61), (8, o1 (.ref 1 0)), (9, oS ((r65 ++ (⟨#[32]⟩ : ByteArray)) ++ x70)), (40, oI x63.f0), (41, oB (decide (x63.f0 = 15)))], [eSCode a0, eSIns x63], 0, []⟩ (by kernel_rfl) trivial ?_
                      rcases ite_some h81 with ⟨h78, h81⟩ | ⟨h78, h81⟩
                      · refine Tri.cond_true (useb (decide_eq_true h78) (by kernel_rfl)) ?_
                        refine Tri.skip ?_
                        exact ⟨(decide (x63.f0 = 15)), (Option.some.inj h81).symm, rfl⟩
                      · refine Tri.cond_false (useb (decide_eq_false h78) (by kernel_rfl)) ?_
                        refine Tri.rn [1, 6, 7, 8, 9, 40, 41] 2 [] [] [] ⟨105, [(1, o1 (.ref 0 0)), (6, o1 (.own 5 (List.map (eK .u8) z60))), (7, oI z61), (8, o1 (.ref 1 0)), (9, oS ((r65 ++ (⟨#[32]⟩ : ByteArray)) ++ x70)), (40, oI x63.f0), (41, oB (decide (x63.f0 = 16)))], [eSCode a0, eSIns x63], 0, []⟩ (by kernel_rfl) trivial ?_
                        rcases ite_some h81 with ⟨h79, h81⟩ | ⟨h79, h81⟩
                        · refine Tri.cond_true (useb (decide_eq_true h79) (by kernel_rfl)) ?_
                          refine Tri.skip ?_
                          exact ⟨(decide (x63.f0 = 16)), (Option.some.inj h81).symm, rfl⟩
                        · refine Tri.cond_false (useb (decide_eq_false h79) (by kernel_rfl)) ?_
                          refine Tri.r1 [1, 6, 7, 8, 9, 40, 41] 2 [] [] [] ⟨105, [(1, o1 (.ref 0 0)), (6, o1 (.own 5 (List.map (eK .u8) z60))), (7, oI z61), (8, o1 (.ref 1 0)), (9, oS ((r65 ++ (⟨#[32]⟩ : ByteArray)) ++ x70)), (40, oI x63.f0), (41, oB (decide (x63.f0 = 17)))], [eSCode a0, eSIns x63], 0, []⟩ (by kernel_rfl) trivial ?_
                          exact ⟨(decide (x63.f0 = 17)), (Option.some.inj h81).symm, rfl⟩
      · refine Tri.cond_false (useb (decide_eq_false h62) (by kernel_rfl)) ?_
        refine Tri.fix [6] 0 [] ⟨105, [(6, o1 (.own 5 (List.map (eK .u8) z60)))], [], 0, []⟩ (by kernel_rfl) ?_
        refine Tri.exit ?_
        repeat (with_reducible refine Ex.exit ?_)
        refine Bk.here ?_
        exact ⟨z60, (Option.some.inj h120).symm, rfl⟩
  · refine Tri.cond_true (useb (nT (decide_eq_false h3)) (by kernel_rfl)) ?_
    refine Tri.rn [2, 3] 0 [] [] [] ⟨105, [(2, oS (⟨#[]⟩ : ByteArray)), (3, oI 1)], [], 0, []⟩ (by kernel_rfl) trivial ?_
    refine Tri.ret ?_
    obtain rfl := Option.some.inj H
    exact ⟨.inr rfl, rfl, rfl, Nat.le_refl _, rfl, by simp⟩
/-! impl_within: function 75 -/
def impl_within.e1 (k : Nat) (a0 : Int) (a1 : Int) (a2 : Int) : Option Bool := if a1 ≤ a0 then (some (decide (a0 ≤ a2))) else (some false)
def impl_within.f (k : Nat) (a0 : Int) (a1 : Int) (a2 : Int) : Option Bool := (impl_within.e1 k a0 a1 a2).bind fun y2 => some y2
set_option maxRecDepth 100000 in
theorem impl_within.fn (k : Nat) (a0 : Int) (a1 : Int) (a2 : Int) (r : Bool) (H : impl_within.f k a0 a1 a2 = some r) : Fn Tryd.prog 75 [oI a0, oI a1, oI a2] [] (oB r) [] := by
  unfold impl_within.f at H
  refine Fn.body (ts := [6]) Tryd.func75 rfl rfl (by decide) (by decide) (Nat.le_of_ble_eq_true rfl) (Nat.le_refl _) ?_
  refine Tri.rn [0, 1, 2] 0 [] [] [] ⟨15, [(0, oI a0), (1, oI a1), (2, oI a2)], [], 0, []⟩ (by kernel_rfl) trivial ?_
  obtain ⟨v4, h3, H⟩ := bind_some' H
  refine Tri.join (α := Bool) (fun w => v4 = w) (fun y2 => ⟨15, [(6, oB y2)], [], 0, []⟩) (fun y2 hw => ?_) ?_
  · rw [hw] at H; clear hw
    try dsimp only at H
    refine Tri.ret ?_
    obtain rfl := Option.some.inj H
    exact ⟨.inr rfl, rfl, rfl, Nat.le_refl _, rfl, by simp⟩
  · unfold impl_within.e1 at h3
    rcases ite_some h3 with ⟨h1, h3⟩ | ⟨h1, h3⟩
    · refine Tri.r1 [6] 0 [] [(2, .ov [.sc (.bool true)])] [_] ⟨15, [(6, oB (decide (a0 ≤ a2)))], [], 0, []⟩ (by kernel_rfl) ⟨(ovb (decide_eq_true h1)), trivial⟩ ?_
      exact ⟨(decide (a0 ≤ a2)), (Option.some.inj h3).symm, rfl⟩
    · refine Tri.r1 [6] 0 [] [(2, .ov [.sc (.bool false)])] [_] ⟨15, [(6, oB false)], [], 0, []⟩ (by kernel_rfl) ⟨(ovb (decide_eq_false h1)), trivial⟩ ?_
      exact ⟨false, (Option.some.inj h3).symm, rfl⟩
/-! impl_isLetter: function 143 -/
def impl_isLetter.e1 (k : Nat) (a0 : Int) : Option Bool := if (97 : Int) ≤ a0 then (if a0 ≤ 122 then (some true) else (if (65 : Int) ≤ a0 then (if a0 ≤ 90 then (some true) else (some (decide (a0 = 95)))) else (some (decide (a0 = 95))))) else (if (65 : Int) ≤ a0 then (if a0 ≤ 90 then (some true) else (some (decide (a0 = 95)))) else (some (decide (a0 = 95))))
def impl_isLetter.f (k : Nat) (a0 : Int) : Option Bool := (impl_isLetter.e1 k a0).bind fun y7 => some y7
set_option maxRecDepth 100000 in
theorem impl_isLetter.fn (k : Nat) (a0 : Int) (r : Bool) (H : impl_isLetter.f k a0 = some r) : Fn Tryd.prog 143 [o1 (cK .u8 a0)] [] (oB r) [] := by
  unfold impl_isLetter.f at H
  refine Fn.body (ts := [2]) Tryd.func143 rfl rfl (by decide) (by decide) (Nat.le_of_ble_eq_true rfl) (Nat.le_refl _) ?_
  refine Tri.rn [0] 0 [] [] [] ⟨21, [(0, o1 (cK .u8 a0))], [], 0, []⟩ (by kernel_rfl) trivial ?_
  obtain ⟨v9, h8, H⟩ := bind_some' H
  refine Tri.join (α := Bool) (fun w => v9 = w) (fun y7 => ⟨21, [(2, oB y7)], [], 0, []⟩) (fun y7 hw => ?_) ?_
  · rw [hw] at H; clear hw
    try dsimp only at H
    refine Tri.ret ?_
    obtain rfl := Option.some.inj H
    exact ⟨.inr rfl, rfl, rfl, Nat.le_refl _, rfl, by simp⟩
  · unfold impl_isLetter.e1 at h8
    rcases ite_some h8 with ⟨h1, h8⟩ | ⟨h1, h8⟩
    · rcases ite_some h8 with ⟨h2, h8⟩ | ⟨h2, h8⟩
      · refine Tri.r1 [2] 0 [] [(1, .ov [.sc (.bool true)]), (4, .ov [.sc (.bool true)])] [_, _] ⟨21, [(2, oB true)], [], 0, []⟩ (by kernel_rfl) ⟨(ovb (decide_eq_true h1)), (ovb (decide_eq_true h2)), trivial⟩ ?_
        exact ⟨true, (Option.some.inj h8).symm, rfl⟩
      · rcases ite_some h8 with ⟨h3, h8⟩ | ⟨h3, h8⟩
        · rcases ite_some h8 with ⟨h4, h8⟩ | ⟨h4, h8⟩
          · refine Tri.r1 [2] 0 [] [(1, .ov [.sc (.bool true)]), (4, .ov [.sc (.bool false)]), (8, .ov [.sc (.bool true)]), (11, .ov [.sc (.bool true)])] [_, _, _, _] ⟨21, [(2, oB true)], [], 0, []⟩ (by kernel_rfl) ⟨(ovb (decide_eq_true h1)), (ovb (decide_eq_false h2)), (ovb (decide_eq_true h3)), (ovb (decide_eq_true h4)), trivial⟩ ?_
            exact ⟨true, (Option.some.inj h8).symm, rfl⟩
          · refine Tri.r1 [2] 0 [] [(1, .ov [.sc (.bool true)]), (4, .ov [.sc (.bool false)]), (8, .ov [.sc (.bool true)]), (11, .ov [.sc (.bool false)])] [_, _, _, _] ⟨21, [(2, oB (decide (a0 = 95)))], [], 0, []⟩ (by kernel_rfl) ⟨(ovb (decide_eq_true h1)), (ovb (decide_eq_false h2)), (ovb (decide_eq_true h3)), (ovb (decide_eq_false h4)), trivial⟩ ?_
            exact ⟨(decide (a0 = 95)), (Option.some.inj h8).symm, rfl⟩
        · refine Tri.r1 [2] 0 [] [(1, .ov [.sc (.bool true)]), (4, .ov [.sc (.bool false)]), (8, .ov [.sc (.bool false)])] [_, _, _] ⟨21, [(2, oB (decide (a0 = 95)))], [], 0, []⟩ (by kernel_rfl) ⟨(ovb (decide_eq_true h1)), (ovb (decide_eq_false h2)), (ovb (decide_eq_false h3)), trivial⟩ ?_
          exact ⟨(decide (a0 = 95)), (Option.some.inj h8).symm, rfl⟩
    · rcases ite_some h8 with ⟨h5, h8⟩ | ⟨h5, h8⟩
      · rcases ite_some h8 with ⟨h6, h8⟩ | ⟨h6, h8⟩
        · refine Tri.r1 [2] 0 [] [(1, .ov [.sc (.bool false)]), (8, .ov [.sc (.bool true)]), (11, .ov [.sc (.bool true)])] [_, _, _] ⟨21, [(2, oB true)], [], 0, []⟩ (by kernel_rfl) ⟨(ovb (decide_eq_false h1)), (ovb (decide_eq_true h5)), (ovb (decide_eq_true h6)), trivial⟩ ?_
          exact ⟨true, (Option.some.inj h8).symm, rfl⟩
        · refine Tri.r1 [2] 0 [] [(1, .ov [.sc (.bool false)]), (8, .ov [.sc (.bool true)]), (11, .ov [.sc (.bool false)])] [_, _, _] ⟨21, [(2, oB (decide (a0 = 95)))], [], 0, []⟩ (by kernel_rfl) ⟨(ovb (decide_eq_false h1)), (ovb (decide_eq_true h5)), (ovb (decide_eq_false h6)), trivial⟩ ?_
          exact ⟨(decide (a0 = 95)), (Option.some.inj h8).symm, rfl⟩
      · refine Tri.r1 [2] 0 [] [(1, .ov [.sc (.bool false)]), (8, .ov [.sc (.bool false)])] [_, _] ⟨21, [(2, oB (decide (a0 = 95)))], [], 0, []⟩ (by kernel_rfl) ⟨(ovb (decide_eq_false h1)), (ovb (decide_eq_false h5)), trivial⟩ ?_
        exact ⟨(decide (a0 = 95)), (Option.some.inj h8).symm, rfl⟩
/-! impl_isDigit: function 162 -/
def impl_isDigit.e1 (k : Nat) (a0 : Int) : Option Bool := if (48 : Int) ≤ a0 then (some (decide (a0 ≤ 57))) else (some false)
def impl_isDigit.f (k : Nat) (a0 : Int) : Option Bool := (impl_isDigit.e1 k a0).bind fun y2 => some y2
set_option maxRecDepth 100000 in
theorem impl_isDigit.fn (k : Nat) (a0 : Int) (r : Bool) (H : impl_isDigit.f k a0 = some r) : Fn Tryd.prog 162 [o1 (cK .u8 a0)] [] (oB r) [] := by
  unfold impl_isDigit.f at H
  refine Fn.body (ts := [2]) Tryd.func162 rfl rfl (by decide) (by decide) (Nat.le_of_ble_eq_true rfl) (Nat.le_refl _) ?_
  refine Tri.rn [0] 0 [] [] [] ⟨9, [(0, o1 (cK .u8 a0))], [], 0, []⟩ (by kernel_rfl) trivial ?_
  obtain ⟨v4, h3, H⟩ := bind_some' H
  refine Tri.join (α := Bool) (fun w => v4 = w) (fun y2 => ⟨9, [(2, oB y2)], [], 0, []⟩) (fun y2 hw => ?_) ?_
  · rw [hw] at H; clear hw
    try dsimp only at H
    refine Tri.ret ?_
    obtain rfl := Option.some.inj H
    exact ⟨.inr rfl, rfl, rfl, Nat.le_refl _, rfl, by simp⟩
  · unfold impl_isDigit.e1 at h3
    rcases ite_some h3 with ⟨h1, h3⟩ | ⟨h1, h3⟩
    · refine Tri.r1 [2] 0 [] [(1, .ov [.sc (.bool true)])] [_] ⟨9, [(2, oB (decide (a0 ≤ 57)))], [], 0, []⟩ (by kernel_rfl) ⟨(ovb (decide_eq_true h1)), trivial⟩ ?_
      exact ⟨(decide (a0 ≤ 57)), (Option.some.inj h3).symm, rfl⟩
    · refine Tri.r1 [2] 0 [] [(1, .ov [.sc (.bool false)])] [_] ⟨9, [(2, oB false)], [], 0, []⟩ (by kernel_rfl) ⟨(ovb (decide_eq_false h1)), trivial⟩ ?_
      exact ⟨false, (Option.some.inj h3).symm, rfl⟩
/-! impl_isWordByte: function 145 -/
def impl_isWordByte.e1 (k : Nat) (a0 : Int) : Option Bool := (impl_isLetter.f k a0).bind fun r1 => if r1 = true then (some true) else ((impl_isDigit.f k a0).bind fun r4 => some r4)
def impl_isWordByte.f (k : Nat) (a0 : Int) : Option Bool := (impl_isWordByte.e1 k a0).bind fun y6 => some y6
set_option maxRecDepth 100000 in
theorem impl_isWordByte.fn (k : Nat) (a0 : Int) (r : Bool) (H : impl_isWordByte.f k a0 = some r) : Fn Tryd.prog 145 [o1 (cK .u8 a0)] [] (oB r) [] := by
  unfold impl_isWordByte.f at H
  refine Fn.body (ts := [2]) Tryd.func145 rfl rfl (by decide) (by decide) (Nat.le_of_ble_eq_true rfl) (Nat.le_refl _) ?_
  refine Tri.rn [0] 0 [] [] [] ⟨9, [(0, o1 (cK .u8 a0))], [], 0, []⟩ (by kernel_rfl) trivial ?_
  obtain ⟨v8, h7, H⟩ := bind_some' H
  refine Tri.join (α := Bool) (fun w => v8 = w) (fun y6 => ⟨9, [(2, oB y6)], [], 0, []⟩) (fun y6 hw => ?_) ?_
  · rw [hw] at H; clear hw
    try dsimp only at H
    refine Tri.ret ?_
    obtain rfl := Option.some.inj H
    exact ⟨.inr rfl, rfl, rfl, Nat.le_refl _, rfl, by simp⟩
  · unfold impl_isWordByte.e1 at h7
    obtain ⟨r1, h2, h7⟩ := bind_some' h7
    rcases iteb_some h7 with ⟨h3, h7⟩ | ⟨h3, h7⟩
    · refine Tri.r1 [2] 0 [] [(1, .call (oB r1) [] false), (1, .ov [.sc (.bool true)])] [_, _, _] ⟨9, [(2, oB true)], [], 0, []⟩ (by kernel_rfl) ⟨(impl_isLetter.fn k a0 r1 h2), (show (List.all [cB r1] PC.flatB) = true from rfl), (ovb h3), trivial⟩ ?_
      exact ⟨true, (Option.some.inj h7).symm, rfl⟩
    · obtain ⟨r4, h5, h7⟩ := bind_some' h7
      refine Tri.r1 [2] 0 [] [(1, .call (oB r1) [] false), (1, .ov [.sc (.bool false)]), (4, .call (oB r4) [] false)] [_, _, _, _, _] ⟨9, [(2, oB r4)], [], 0, []⟩ (by kernel_rfl) ⟨(impl_isLetter.fn k a0 r1 h2), (show (List.all [cB r1] PC.flatB) = true from rfl), (ovb h3), (impl_isDigit.fn k a0 r4 h5), (show (List.all [cB r4] PC.flatB) = true from rfl), trivial⟩ ?_
      exact ⟨r4, (Option.some.inj h7).symm, rfl⟩
/-! impl_areAll_byte__1_1: function 161 -/
def impl_areAll_byte__1_1.f (k : Nat) (a0 : Int) : Option Bool := (impl_isWordByte.f k a0).bind fun r1 => some (!r1)
set_option maxRecDepth 100000 in
theorem impl_areAll_byte__1_1.fn (k : Nat) (a0 : Int) (r : Bool) (H : impl_areAll_byte__1_1.f k a0 = some r) : Fn Tryd.prog 161 [o1 (cK .u8 a0), o1 (.cel ([.sc (.func (.func 145) #[] #[])]) 0)] [] (oB r) [] := by
  unfold impl_areAll_byte__1_1.f at H
  refine Fn.body (ts := [3]) Tryd.func161 rfl rfl (by decide) (by decide) (Nat.le_of_ble_eq_true rfl) (Nat.le_refl _) ?_
  refine Tri.rn [0, 1] 0 [] [] [] ⟨8, [(0, o1 (cK .u8 a0)), (1, o1 (.cel ([.sc (.func (.func 145) #[] #[])]) 0))], [], 0, []⟩ (by kernel_rfl) trivial ?_
  obtain ⟨r1, h2, H⟩ := bind_some' H
  refine Tri.rn [3] 0 [] [(2, .call (oB r1) [] false)] [_, _] ⟨8, [(3, oB (!r1))], [], 0, []⟩ (by kernel_rfl) ⟨(impl_isWordByte.fn k a0 r1 h2), (show (List.all [cB r1] PC.flatB) = true from rfl), trivial⟩ ?_
  refine Tri.ret ?_
  obtain rfl := Option.some.inj H
  exact ⟨.inr rfl, rfl, rfl, Nat.le_refl _, rfl, by simp⟩
/-! slices_IndexFunc___byte_byte_1: function 172 -/
def slices_IndexFunc___byte_byte_1.l1 : Nat → (List Int) → Int → Option (Int ⊕ Unit)
  | 0, _, _ => none
  | k + 1, a0, z7 => if z7 < (a0.length : Int) then ((at? a0 z7).bind fun x9 => (impl_areAll_byte__1_1.f k x9).bind fun r11 => if r11 = true then (some (.inl z7)) else (slices_IndexFunc___byte_byte_1.l1 k a0 (w64 (z7 + 1)))) else (some (.inr ()))
def slices_IndexFunc___byte_byte_1.e2 (k : Nat) (a0 : (List Int)) : Option (Int ⊕ Unit) := slices_IndexFunc___byte_byte_1.l1 k a0 0
def slices_IndexFunc___byte_byte_1.f (k : Nat) (a0 : (List Int)) : Option Int := (slices_IndexFunc___byte_byte_1.e2 k a0).bind fun v => match v with | .inl r => some r | .inr _ => some (-1)
set_option maxRecDepth 100000 in
theorem slices_IndexFunc___byte_byte_1.fn (k : Nat) (a0 : (List Int)) (r : Int) (H : slices_IndexFunc___byte_byte_1.f k a0 = some r) : Fn Tryd.prog 172 [o1 (.sl 1 (List.map (eK .u8) a0)), o1 (.fn 161 [.cel ([.sc (.func (.func 145) #[] #[])]) 0])] [] (oI r) [] := by
  unfold slices_IndexFunc___byte_byte_1.f at H
  refine Fn.body (ts := [4]) Tryd.func172 rfl rfl (by decide) (by decide) (Nat.le_of_ble_eq_true rfl) (Nat.le_refl _) ?_
  refine Tri.rn [0, 1] 0 [] [] [] ⟨19, [(0, o1 (.sl 1 (List.map (eK .u8) a0))), (1, o1 (.fn 161 [.cel ([.sc (.func (.func 145) #[] #[])]) 0]))], [], 0, []⟩ (by kernel_rfl) trivial ?_
  obtain ⟨v16, h15, H⟩ := bind_some' H
  refine Tri.join (α := Unit) (fun w => v16 = .inr w) (fun _ => ⟨19, [], [], 0, []⟩) (fun w hw => ?_) ?_
  · rw [hw] at H; clear hw
    try dsimp only at H
    refine Tri.rn [4] 0 [] [] [] ⟨19, [(4, oI (-1))], [], 0, []⟩ (by kernel_rfl) trivial ?_
    refine Tri.ret ?_
    obtain rfl := Option.some.inj H
    exact ⟨.inr rfl, rfl, rfl, Nat.le_refl _, rfl, by simp⟩
  · unfold slices_IndexFunc___byte_byte_1.e2 at h15
    refine Tri.rn [0, 1, 7, 8] 0 [] [(1, .ov [.sc (.int .i64 (a0.length : Int))])] [_] ⟨19, [(0, o1 (.sl 1 (List.map (eK .u8) a0))), (1, o1 (.fn 161 [.cel ([.sc (.func (.func 145) #[] #[])]) 0])), (7, oI (a0.length : Int)), (8, oI 0)], [], 0, []⟩ (by kernel_rfl) ⟨(ovlen (f := (eK .u8)) (l := a0)), trivial⟩ ?_
    refine Tri.block ?_
    refine Tri.loop k (TriR.ind (α := Int) (fun k x => slices_IndexFunc___byte_byte_1.l1 k a0 x) (fun x => ⟨19, [(0, o1 (.sl 1 (List.map (eK .u8) a0))), (1, o1 (.fn 161 [.cel ([.sc (.func (.func 145) #[] #[])]) 0])), (7, oI (a0.length : Int)), (8, oI x)], [], 0, []⟩) (fun _ => rfl) (fun k z7 h15 IH14 => ?_) k 0 h15)
    rw [slices_IndexFunc___byte_byte_1.l1.eq_2] at h15
    refine Tri.rn [0, 1, 7, 8, 9] 0 [] [] [] ⟨19, [(0, o1 (.sl 1 (List.map (eK .u8) a0))), (1, o1 (.fn 161 [.cel ([.sc (.func (.func 145) #[] #[])]) 0])), (7, oI (a0.length : Int)), (8, oI z7), (9, oB (decide (z7 < (a0.length : Int))))], [], 0, []⟩ (by kernel_rfl) trivial ?_
    refine Tri.seq ?_
    rcases ite_some h15 with ⟨h8, h15⟩ | ⟨h8, h15⟩
    · refine Tri.cond_true (useb (decide_eq_true h8) (by kernel_rfl)) ?_
      refine Tri.skip ?_
      refine Tri.seq ?_
      refine Tri.block ?_
      refine Tri.rn [0, 1, 5, 7, 8] 0 [] [] [] ⟨19, [(0, o1 (.sl 1 (List.map (eK .u8) a0))), (1, o1 (.fn 161 [.cel ([.sc (.func (.func 145) #[] #[])]) 0])), (5, oI z7), (7, oI (a0.length : Int)), (8, oI z7)], [], 0, []⟩ (by kernel_rfl) trivial ?_
      obtain ⟨x9, h10, h15⟩ := bind_some' h15
      obtain ⟨r11, h12, h15⟩ := bind_some' h15
      refine Tri.rn [0, 1, 5, 7, 8, 16] 0 [] [(3, .el ((eK .u8) x9)), (5, .call (oB r11) [] false)] [_, _, _, _] ⟨19, [(0, o1 (.sl 1 (List.map (eK .u8) a0))), (1, o1 (.fn 161 [.cel ([.sc (.func (.func 145) #[] #[])]) 0])), (5, oI z7), (7, oI (a0.length : Int)), (8, oI z7), (16, oB r11)], [], 0, []⟩ (by kernel_rfl) ⟨(at?_0 h10), (at?_map (f := (eK .u8)) h10), (impl_areAll_byte__1_1.fn k x9 r11 h12), (show (List.all [cB r11] PC.flatB) = true from rfl), trivial⟩ ?_
      rcases iteb_some h15 with ⟨h13, h15⟩ | ⟨h13, h15⟩
      · refine Tri.cond_true (useb h13 (by kernel_rfl)) ?_
        refine Tri.rn [4] 0 [] [] [] ⟨19, [(4, oI z7)], [], 0, []⟩ (by kernel_rfl) trivial ?_
        refine Tri.ret ?_
        obtain rfl := Option.some.inj h15
        try dsimp only at H
        obtain rfl := Option.some.inj H
        exact ⟨.inr rfl, rfl, rfl, Nat.le_refl _, rfl, by simp⟩
      · refine Tri.cond_false (useb h13 (by kernel_rfl)) ?_
        refine Tri.skip ?_
        refine Tri.r1 [0, 1, 7, 8] 0 [] [] [] ⟨19, [(0, o1 (.sl 1 (List.map (eK .u8) a0))), (1, o1 (.fn 161 [.cel ([.sc (.func (.func 145) #[] #[])]) 0])), (7, oI (a0.length : Int)), (8, oI (w64 (z7 + 1)))], [], 0, []⟩ (by kernel_rfl) trivial ?_
        exact IH14 _ (w64 (z7 + 1)) (Nat.le_refl _) h15
    · refine Tri.cond_false (useb (decide_eq_false h8) (by kernel_rfl)) ?_
      refine Tri.fix [] 0 [] ⟨19, [], [], 0, []⟩ (by kernel_rfl) ?_
      refine Tri.exit ?_
      repeat (with_reducible refine Ex.exit ?_)
      refine Bk.here ?_
      exact ⟨(), (Option.some.inj h15).symm, rfl⟩
/-! slices_ContainsFunc___byte_byte_1: function 160 -/
def slices_ContainsFunc___byte_byte_1.f (k : Nat) (a0 : (List Int)) : Option Bool := (slices_IndexFunc___byte_byte_1.f k a0).bind fun r1 => some (decide ((0 : Int) ≤ r1))
set_option maxRecDepth 100000 in
theorem slices_ContainsFunc___byte_byte_1.fn (k : Nat) (a0 : (List Int)) (r : Bool) (H : slices_ContainsFunc___byte_byte_1.f k a0 = some r) : Fn Tryd.prog 160 [o1 (.sl 1 (List.map (eK .u8) a0)), o1 (.fn 161 [.cel ([.sc (.func (.func 145) #[] #[])]) 0])] [] (oB r) [] := by
  unfold slices_ContainsFunc___byte_byte_1.f at H
  refine Fn.body (ts := [4]) Tryd.func160 rfl rfl (by decide) (by decide) (Nat.le_of_ble_eq_true rfl) (Nat.le_refl _) ?_
  refine Tri.rn [0, 1] 0 [] [] [] ⟨9, [(0, o1 (.sl 1 (List.map (eK .u8) a0))), (1, o1 (.fn 161 [.cel ([.sc (.func (.func 145) #[] #[])]) 0]))], [], 0, []⟩ (by kernel_rfl) trivial ?_
  obtain ⟨r1, h2, H⟩ := bind_some' H
  refine Tri.rn [4] 0 [] [(2, .call (oI r1) [] false)] [_, _] ⟨9, [(4, oB (decide ((0 : Int) ≤ r1)))], [], 0, []⟩ (by kernel_rfl) ⟨(slices_IndexFunc___byte_byte_1.fn k a0 r1 h2), (show (List.all [cI r1] PC.flatB) = true from rfl), trivial⟩ ?_
  refine Tri.ret ?_
  obtain rfl := Option.some.inj H
  exact ⟨.inr rfl, rfl, rfl, Nat.le_refl _, rfl, by simp⟩
/-! impl_areAll_byte_1: function 144 -/
def impl_areAll_byte_1.f (k : Nat) (a0 : (List Int)) : Option Bool := (slices_ContainsFunc___byte_byte_1.f k a0).bind fun r1 => some (!r1)
set_option maxRecDepth 100000 in
theorem impl_areAll_byte_1.fn (k : Nat) (a0 : (List Int)) (r : Bool) (H : impl_areAll_byte_1.f k a0 = some r) : Fn Tryd.prog 144 [o1 (.sl 1 (List.map (eK .u8) a0)), o1 (.sc (.func (.func 145) #[] #[]))] [] (oB r) [] := by
  unfold impl_areAll_byte_1.f at H
  refine Fn.body (ts := [4]) Tryd.func144 rfl rfl (by decide) (by decide) (Nat.le_of_ble_eq_true rfl) (Nat.le_refl _) ?_
  refine Tri.rn [0, 3] 1 [] [] [] ⟨9, [(0, o1 (.sl 1 (List.map (eK .u8) a0))), (3, o1 (.ref 0 0))], [[.sc (.func (.func 145) #[] #[])]], 0, []⟩ (by kernel_rfl) trivial ?_
  obtain ⟨r1, h2, H⟩ := bind_some' H
  refine Tri.rn [4] 0 [] [(2, .call (oB r1) [] false)] [_, _] ⟨9, [(4, oB (!r1))], [], 0, []⟩ (by kernel_rfl) ⟨(slices_ContainsFunc___byte_byte_1.fn k a0 r1 h2), (show (List.all [cB r1] PC.flatB) = true from rfl), trivial⟩ ?_
  refine Tri.ret ?_
  obtain rfl := Option.some.inj H
  exact ⟨.inr rfl, rfl, rfl, Nat.le_refl _, rfl, by simp⟩
/-! impl_NameOK: function 121 -/
def impl_NameOK.e1 (k : Nat) (a0 : ByteArray) : Option Bool := (impl_within.f k (a0.size : Int) 1 40).bind fun r1 => if r1 = true then (if (0 : Int) ≤ 0 then (if 0 < (a0.size : Int) then ((impl_isLetter.f k (byteAt a0 0)).bind fun r6 => if r6 = true then ((impl_areAll_byte_1.f k (bytesOf a0)).bind fun r9 => some r9) else (some false)) else none) else none) else (some false)
def impl_NameOK.f (k : Nat) (a0 : ByteArray) : Option Bool := (impl_NameOK.e1 k a0).bind fun y11 => some y11
set_option maxRecDepth 100000 in
theorem impl_NameOK.fn (k : Nat) (a0 : ByteArray) (r : Bool) (H : impl_NameOK.f k a0 = some r) : Fn Tryd.prog 121 [oS a0] [] (oB r) [] := by
  unfold impl_NameOK.f at H
  refine Fn.body (ts := [2]) Tryd.func121 rfl rfl (by decide) (by decide) (Nat.le_of_ble_eq_true rfl) (Nat.le_refl _) ?_
  refine Tri.rn [0] 0 [] [] [] ⟨16, [(0, oS a0)], [], 0, []⟩ (by kernel_rfl) trivial ?_
  obtain ⟨v13, h12, H⟩ := bind_some' H
  refine Tri.join (α := Bool) (fun w => v13 = w) (fun y11 => ⟨16, [(2, oB y11)], [], 0, []⟩) (fun y11 hw => ?_) ?_
  · rw [hw] at H; clear hw
    try dsimp only at H
    refine Tri.ret ?_
    obtain rfl := Option.some.inj H
    exact ⟨.inr rfl, rfl, rfl, Nat.le_refl _, rfl, by simp⟩
  · unfold impl_NameOK.e1 at h12
    obtain ⟨r1, h2, h12⟩ := bind_some' h12
    rcases iteb_some h12 with ⟨h3, h12⟩ | ⟨h3, h12⟩
    · obtain ⟨h4, h12⟩ := need_some h12
      obtain ⟨h5, h12⟩ := need_some h12
      obtain ⟨r6, h7, h12⟩ := bind_some' h12
      rcases iteb_some h12 with ⟨h8, h12⟩ | ⟨h8, h12⟩
      · obtain ⟨r9, h10, h12⟩ := bind_some' h12
        refine Tri.r1 [2] 0 [] [(2, .call (oB r1) [] false), (2, .ov [.sc (.bool true)]), (6, .call (oB r6) [] false), (6, .ov [.sc (.bool true)]), (11, .call (oB r9) [] false)] [_, _, _, _, _, _, _, _, _, _] ⟨16, [(2, oB r9)], [], 0, []⟩ (by kernel_rfl) ⟨(impl_within.fn k (a0.size : Int) 1 40 r1 h2), (show (List.all [cB r1] PC.flatB) = true from rfl), (ovb h3), h4, h5, (impl_isLetter.fn k (byteAt a0 0) r6 h7), (show (List.all [cB r6] PC.flatB) = true from rfl), (ovb h8), (impl_areAll_byte_1.fn k (bytesOf a0) r9 h10), (show (List.all [cB r9] PC.flatB) = true from rfl), trivial⟩ ?_
        exact ⟨r9, (Option.some.inj h12).symm, rfl⟩
      · refine Tri.r1 [2] 0 [] [(2, .call (oB r1) [] false), (2, .ov [.sc (.bool true)]), (6, .call (oB r6) [] false), (6, .ov [.sc (.bool false)])] [_, _, _, _, _, _, _, _] ⟨16, [(2, oB false)], [], 0, []⟩ (by kernel_rfl) ⟨(impl_within.fn k (a0.size : Int) 1 40 r1 h2), (show (List.all [cB r1] PC.flatB) = true from rfl), (ovb h3), h4, h5, (impl_isLetter.fn k (byteAt a0 0) r6 h7), (show (List.all [cB r6] PC.flatB) = true from rfl), (ovb h8), trivial⟩ ?_
        exact ⟨false, (Option.some.inj h12).symm, rfl⟩
    · refine Tri.r1 [2] 0 [] [(2, .call (oB r1) [] false), (2, .ov [.sc (.bool false)])] [_, _, _] ⟨16, [(2, oB false)], [], 0, []⟩ (by kernel_rfl) ⟨(impl_within.fn k (a0.size : Int) 1 40 r1 h2), (show (List.all [cB r1] PC.flatB) = true from rfl), (ovb h3), trivial⟩ ?_
      exact ⟨false, (Option.some.inj h12).symm, rfl⟩
/-! impl_keys: function 146 -/
def impl_keys.f (k : Nat) : Option (List ByteArray) := (strings_Fields.f k (⟨#[77, 79, 68, 85, 76, 69, 32, 73, 77, 80, 79, 82, 84, 32, 67, 79, 78, 83, 84, 32, 86, 65, 82, 32, 80, 82, 79, 67, 69, 68, 85, 82, 69, 32, 66, 69, 71, 73, 78, 32, 69, 78, 68, 32, 73, 70, 32, 84, 72, 69, 78, 32, 69, 76, 83, 73, 70, 32, 69, 76, 83, 69, 32, 87, 72, 73, 76, 69, 32, 68, 79, 32, 82, 69, 84, 85, 82, 78, 32, 79, 82, 32, 68, 73, 86, 32, 77, 79, 68, 32, 84, 82, 85, 69, 32, 70, 65, 76, 83, 69, 32, 65, 82, 82, 65, 89, 32, 79, 70, 32, 73, 78, 84, 69, 71, 69, 82, 32, 66, 79, 79, 76, 69, 65, 78, 32, 67, 72, 65, 82, 32, 87, 82, 73, 84, 69, 32, 82, 69, 65, 68, 32, 79, 82, 68, 32, 67, 72, 82, 32, 76, 69, 78]⟩ : ByteArray)).bind fun r1 => some r1
set_option maxRecDepth 100000 in
theorem impl_keys.fn (k : Nat) (r : (List ByteArray)) (H : impl_keys.f k  = some r) : Fn Tryd.prog 146 [] [] (o1 (.own 9 (List.map eS r))) [] := by
  unfold impl_keys.f at H
  refine Fn.body (ts := [0]) Tryd.func146 rfl rfl (by decide) (by decide) (Nat.le_of_ble_eq_true rfl) (Nat.le_refl _) ?_
  refine Tri.rn [] 0 [] [] [] ⟨2, [], [], 0, []⟩ (by kernel_rfl) trivial ?_
  obtain ⟨r1, h2, H⟩ := bind_some' H
  refine Tri.rn [0] 0 [] [(0, .call (o1 (.own 9 (List.map eS r1))) [] false)] [_, _] ⟨2, [(0, o1 (.own 9 (List.map eS r1)))], [], 0, []⟩ (by kernel_rfl) ⟨(strings_Fields.fn k (⟨#[77, 79, 68, 85, 76, 69, 32, 73, 77, 80, 79, 82, 84, 32, 67, 79, 78, 83, 84, 32, 86, 65, 82, 32, 80, 82, 79, 67, 69, 68, 85, 82, 69, 32, 66, 69, 71, 73, 78, 32, 69, 78, 68, 32, 73, 70, 32, 84, 72, 69, 78, 32, 69, 76, 83, 73, 70, 32, 69, 76, 83, 69, 32, 87, 72, 73, 76, 69, 32, 68, 79, 32, 82, 69, 84, 85, 82, 78, 32, 79, 82, 32, 68, 73, 86, 32, 77, 79, 68, 32, 84, 82, 85, 69, 32, 70, 65, 76, 83, 69, 32, 65, 82, 82, 65, 89, 32, 79, 70, 32, 73, 78, 84, 69, 71, 69, 82, 32, 66, 79, 79, 76, 69, 65, 78, 32, 67, 72, 65, 82, 32, 87, 82, 73, 84, 69, 32, 82, 69, 65, 68, 32, 79, 82, 68, 32, 67, 72, 82, 32, 76, 69, 78]⟩ : ByteArray) r1 h2), (show (List.all [.own 9 (List.map eS r1)] PC.flatB) = true by simp [PC.flatB, PC.scalar, cI, cK, cB, cS, eS]), trivial⟩ ?_
  refine Tri.ret ?_
  obtain rfl := Option.some.inj H
  exact ⟨.inr rfl, rfl, rfl, Nat.le_refl _, rfl, by simp⟩
/-! slices_Index___string_string: function 132 -/
def slices_Index___string_string.l1 : Nat → (List ByteArray) → ByteArray → Int → Option (Int ⊕ Unit)
  | 0, _, _, _ => none
  | k + 1, a0, a1, z5 => if z5 < (a0.length : Int) then ((at? a0 z5).bind fun x7 => if a1 = x7 then (some (.inl z5)) else (slices_Index___string_string.l1 k a0 a1 (w64 (z5 + 1)))) else (some (.inr ()))
def slices_Index___string_string.e2 (k : Nat) (a0 : (List ByteArray)) (a1 : ByteArray) : Option (Int ⊕ Unit) := slices_Index___string_string.l1 k a0 a1 0
def slices_Index___string_string.f (k : Nat) (a0 : (List ByteArray)) (a1 : ByteArray) : Option Int := (slices_Index___string_string.e2 k a0 a1).bind fun v => match v with | .inl r => some r | .inr _ => some (-1)
set_option maxRecDepth 100000 in
theorem slices_Index___string_string.fn (k : Nat) (a0 : (List ByteArray)) (a1 : ByteArray) (r : Int) (H : slices_Index___string_string.f k a0 a1 = some r) : Fn Tryd.prog 132 [o1 (.sl 1 (List.map eS a0)), oS a1] [] (oI r) [] := by
  unfold slices_Index___string_string.f at H
  refine Fn.body (ts := [4]) Tryd.func132 rfl rfl (by decide) (by decide) (Nat.le_of_ble_eq_true rfl) (Nat.le_refl _) ?_
  refine Tri.rn [0, 1] 0 [] [] [] ⟨19, [(0, o1 (.sl 1 (List.map eS a0))), (1, oS a1)], [], 0, []⟩ (by kernel_rfl) trivial ?_
  obtain ⟨v12, h11, H⟩ := bind_some' H
  refine Tri.join (α := Unit) (fun w => v12 = .inr w) (fun _ => ⟨19, [], [], 0, []⟩) (fun w hw => ?_) ?_
  · rw [hw] at H; clear hw
    try dsimp only at H
    refine Tri.rn [4] 0 [] [] [] ⟨19, [(4, oI (-1))], [], 0, []⟩ (by kernel_rfl) trivial ?_
    refine Tri.ret ?_
    obtain rfl := Option.some.inj H
    exact ⟨.inr rfl, rfl, rfl, Nat.le_refl _, rfl, by simp⟩
  · unfold slices_Index___string_string.e2 at h11
    refine Tri.rn [0, 1, 7, 8] 0 [] [(1, .ov [.sc (.int .i64 (a0.length : Int))])] [_] ⟨19, [(0, o1 (.sl 1 (List.map eS a0))), (1, oS a1), (7, oI (a0.length : Int)), (8, oI 0)], [], 0, []⟩ (by kernel_rfl) ⟨(ovlen (f := eS) (l := a0)), trivial⟩ ?_
    refine Tri.block ?_
    refine Tri.loop k (TriR.ind (α := Int) (fun k x => slices_Index___string_string.l1 k a0 a1 x) (fun x => ⟨19, [(0, o1 (.sl 1 (List.map eS a0))), (1, oS a1), (7, oI (a0.length : Int)), (8, oI x)], [], 0, []⟩) (fun _ => rfl) (fun k z5 h11 IH10 => ?_) k 0 h11)
    rw [slices_Index___string_string.l1.eq_2] at h11
    refine Tri.rn [0, 1, 7, 8, 9] 0 [] [] [] ⟨19, [(0, o1 (.sl 1 (List.map eS a0))), (1, oS a1), (7, oI (a0.length : Int)), (8, oI z5), (9, oB (decide (z5 < (a0.length : Int))))], [], 0, []⟩ (by kernel_rfl) trivial ?_
    refine Tri.seq ?_
    rcases ite_some h11 with ⟨h6, h11⟩ | ⟨h6, h11⟩
    · refine Tri.cond_true (useb (decide_eq_true h6) (by kernel_rfl)) ?_
      refine Tri.skip ?_
      refine Tri.seq ?_
      refine Tri.block ?_
      refine Tri.rn [0, 1, 5, 7, 8] 0 [] [] [] ⟨19, [(0, o1 (.sl 1 (List.map eS a0))), (1, oS a1), (5, oI z5), (7, oI (a0.length : Int)), (8, oI z5)], [], 0, []⟩ (by kernel_rfl) trivial ?_
      obtain ⟨x7, h8, h11⟩ := bind_some' h11
      refine Tri.rn [0, 1, 5, 7, 8, 16] 0 [] [(3, .el (eS x7))] [_, _] ⟨19, [(0, o1 (.sl 1 (List.map eS a0))), (1, oS a1), (5, oI z5), (7, oI (a0.length : Int)), (8, oI z5), (16, oB (decide (a1 = x7)))], [], 0, []⟩ (by kernel_rfl) ⟨(at?_0 h8), (at?_map (f := eS) h8), trivial⟩ ?_
      rcases ite_some h11 with ⟨h9, h11⟩ | ⟨h9, h11⟩
      · refine Tri.cond_true (useb (decide_eq_true h9) (by kernel_rfl)) ?_
        refine Tri.rn [4] 0 [] [] [] ⟨19, [(4, oI z5)], [], 0, []⟩ (by kernel_rfl) trivial ?_
        refine Tri.ret ?_
        obtain rfl := Option.some.inj h11
        try dsimp only at H
        obtain rfl := Option.some.inj H
        exact ⟨.inr rfl, rfl, rfl, Nat.le_refl _, rfl, by simp⟩
      · refine Tri.cond_false (useb (decide_eq_false h9) (by kernel_rfl)) ?_
        refine Tri.skip ?_
        refine Tri.r1 [0, 1, 7, 8] 0 [] [] [] ⟨19, [(0, o1 (.sl 1 (List.map eS a0))), (1, oS a1), (7, oI (a0.length : Int)), (8, oI (w64 (z5 + 1)))], [], 0, []⟩ (by kernel_rfl) trivial ?_
        exact IH10 _ (w64 (z5 + 1)) (Nat.le_refl _) h11
    · refine Tri.cond_false (useb (decide_eq_false h6) (by kernel_rfl)) ?_
      refine Tri.fix [] 0 [] ⟨19, [], [], 0, []⟩ (by kernel_rfl) ?_
      refine Tri.exit ?_
      repeat (with_reducible refine Ex.exit ?_)
      refine Bk.here ?_
      exact ⟨(), (Option.some.inj h11).symm, rfl⟩
/-! slices_Contains___string_string: function 101 -/
def slices_Contains___string_string.f (k : Nat) (a0 : (List ByteArray)) (a1 : ByteArray) : Option Bool := (slices_Index___string_string.f k a0 a1).bind fun r1 => some (decide ((0 : Int) ≤ r1))
set_option maxRecDepth 100000 in
theorem slices_Contains___string_string.fn (k : Nat) (a0 : (List ByteArray)) (a1 : ByteArray) (r : Bool) (H : slices_Contains___string_string.f k a0 a1 = some r) : Fn Tryd.prog 101 [o1 (.sl 1 (List.map eS a0)), oS a1] [] (oB r) [] := by
  unfold slices_Contains___string_string.f at H
  refine Fn.body (ts := [4]) Tryd.func101 rfl rfl (by decide) (by decide) (Nat.le_of_ble_eq_true rfl) (Nat.le_refl _) ?_
  refine Tri.rn [0, 1] 0 [] [] [] ⟨9, [(0, o1 (.sl 1 (List.map eS a0))), (1, oS a1)], [], 0, []⟩ (by kernel_rfl) trivial ?_
  obtain ⟨r1, h2, H⟩ := bind_some' H
  refine Tri.rn [4] 0 [] [(2, .call (oI r1) [] false)] [_, _] ⟨9, [(4, oB (decide ((0 : Int) ≤ r1)))], [], 0, []⟩ (by kernel_rfl) ⟨(slices_Index___string_string.fn k a0 a1 r1 h2), (show (List.all [cI r1] PC.flatB) = true from rfl), trivial⟩ ?_
  refine Tri.ret ?_
  obtain rfl := Option.some.inj H
  exact ⟨.inr rfl, rfl, rfl, Nat.le_refl _, rfl, by simp⟩
/-! impl_IsKey: function 122 -/
def impl_IsKey.f (k : Nat) (a0 : ByteArray) : Option Bool := (impl_keys.f k).bind fun r1 => (slices_Contains___string_string.f k r1 a0).bind fun r3 => some r3
set_option maxRecDepth 100000 in
theorem impl_IsKey.fn (k : Nat) (a0 : ByteArray) (r : Bool) (H : impl_IsKey.f k a0 = some r) : Fn Tryd.prog 122 [oS a0] [] (oB r) [] := by
  unfold impl_IsKey.f at H
  refine Fn.body (ts := [2]) Tryd.func122 rfl rfl (by decide) (by decide) (Nat.le_of_ble_eq_true rfl) (Nat.le_refl _) ?_
  refine Tri.rn [0] 0 [] [] [] ⟨6, [(0, oS a0)], [], 0, []⟩ (by kernel_rfl) trivial ?_
  obtain ⟨r1, h2, H⟩ := bind_some' H
  obtain ⟨r3, h4, H⟩ := bind_some' H
  refine Tri.rn [2] 0 [] [(0, .call (o1 (.own 9 (List.map eS r1))) [] false), (2, .call (oB r3) [] false)] [_, _, _, _] ⟨6, [(2, oB r3)], [], 0, []⟩ (by kernel_rfl) ⟨(impl_keys.fn k r1 h2), (show (List.all [.own 9 (List.map eS r1)] PC.flatB) = true by simp [PC.flatB, PC.scalar, cI, cK, cB, cS, eS]), (slices_Contains___string_string.fn k r1 a0 r3 h4), (show (List.all [cB r3] PC.flatB) = true from rfl), trivial⟩ ?_
  refine Tri.ret ?_
  obtain rfl := Option.some.inj H
  exact ⟨.inr rfl, rfl, rfl, Nat.le_refl _, rfl, by simp⟩
/-! impl_isName: function 86 -/
def impl_isName.e1 (k : Nat) (a0 : ByteArray) : Option Bool := (impl_NameOK.f k a0).bind fun r1 => if r1 = true then ((impl_IsKey.f k a0).bind fun r4 => some (!r4)) else (some false)
def impl_isName.f (k : Nat) (a0 : ByteArray) : Option Bool := (impl_isName.e1 k a0).bind fun y6 => some y6
set_option maxRecDepth 100000 in
theorem impl_isName.fn (k : Nat) (a0 : ByteArray) (r : Bool) (H : impl_isName.f k a0 = some r) : Fn Tryd.prog 86 [oS a0] [] (oB r) [] := by
  unfold impl_isName.f at H
  refine Fn.body (ts := [2]) Tryd.func86 rfl rfl (by decide) (by decide) (Nat.le_of_ble_eq_true rfl) (Nat.le_refl _) ?_
  refine Tri.rn [0] 0 [] [] [] ⟨10, [(0, oS a0)], [], 0, []⟩ (by kernel_rfl) trivial ?_
  obtain ⟨v8, h7, H⟩ := bind_some' H
  refine Tri.join (α := Bool) (fun w => v8 = w) (fun y6 => ⟨10, [(2, oB y6)], [], 0, []⟩) (fun y6 hw => ?_) ?_
  · rw [hw] at H; clear hw
    try dsimp only at H
    refine Tri.ret ?_
    obtain rfl := Option.some.inj H
    exact ⟨.inr rfl, rfl, rfl, Nat.le_refl _, rfl, by simp⟩
  · unfold impl_isName.e1 at h7
    obtain ⟨r1, h2, h7⟩ := bind_some' h7
    rcases iteb_some h7 with ⟨h3, h7⟩ | ⟨h3, h7⟩
    · obtain ⟨r4, h5, h7⟩ := bind_some' h7
      refine Tri.r1 [2] 0 [] [(1, .call (oB r1) [] false), (1, .ov [.sc (.bool true)]), (4, .call (oB r4) [] false)] [_, _, _, _, _] ⟨10, [(2, oB (!r4))], [], 0, []⟩ (by kernel_rfl) ⟨(impl_NameOK.fn k a0 r1 h2), (show (List.all [cB r1] PC.flatB) = true from rfl), (ovb h3), (impl_IsKey.fn k a0 r4 h5), (show (List.all [cB r4] PC.flatB) = true from rfl), trivial⟩ ?_
      exact ⟨(!r4), (Option.some.inj h7).symm, rfl⟩
    · refine Tri.r1 [2] 0 [] [(1, .call (oB r1) [] false), (1, .ov [.sc (.bool false)])] [_, _, _] ⟨10, [(2, oB false)], [], 0, []⟩ (by kernel_rfl) ⟨(impl_NameOK.fn k a0 r1 h2), (show (List.all [cB r1] PC.flatB) = true from rfl), (ovb h3), trivial⟩ ?_
      exact ⟨false, (Option.some.inj h7).symm, rfl⟩
/-! impl_hasPlace: function 123 -/
def impl_hasPlace.e1 (k : Nat) (a0 : Int) : Option Bool := if a0 = 3 then (some true) else (some (decide (a0 = 13)))
def impl_hasPlace.f (k : Nat) (a0 : Int) : Option Bool := (impl_hasPlace.e1 k a0).bind fun y2 => some y2
set_option maxRecDepth 100000 in
theorem impl_hasPlace.fn (k : Nat) (a0 : Int) (r : Bool) (H : impl_hasPlace.f k a0 = some r) : Fn Tryd.prog 123 [oI a0] [] (oB r) [] := by
  unfold impl_hasPlace.f at H
  refine Fn.body (ts := [2]) Tryd.func123 rfl rfl (by decide) (by decide) (Nat.le_of_ble_eq_true rfl) (Nat.le_refl _) ?_
  refine Tri.rn [0] 0 [] [] [] ⟨9, [(0, oI a0)], [], 0, []⟩ (by kernel_rfl) trivial ?_
  obtain ⟨v4, h3, H⟩ := bind_some' H
  refine Tri.join (α := Bool) (fun w => v4 = w) (fun y2 => ⟨9, [(2, oB y2)], [], 0, []⟩) (fun y2 hw => ?_) ?_
  · rw [hw] at H; clear hw
    try dsimp only at H
    refine Tri.ret ?_
    obtain rfl := Option.some.inj H
    exact ⟨.inr rfl, rfl, rfl, Nat.le_refl _, rfl, by simp⟩
  · unfold impl_hasPlace.e1 at h3
    rcases ite_some h3 with ⟨h1, h3⟩ | ⟨h1, h3⟩
    · refine Tri.r1 [2] 0 [] [(1, .ov [.sc (.bool true)])] [_] ⟨9, [(2, oB true)], [], 0, []⟩ (by kernel_rfl) ⟨(ovb (decide_eq_true h1)), trivial⟩ ?_
      exact ⟨true, (Option.some.inj h3).symm, rfl⟩
    · refine Tri.r1 [2] 0 [] [(1, .ov [.sc (.bool false)])] [_] ⟨9, [(2, oB (decide (a0 = 13)))], [], 0, []⟩ (by kernel_rfl) ⟨(ovb (decide_eq_false h1)), trivial⟩ ?_
      exact ⟨(decide (a0 = 13)), (Option.some.inj h3).symm, rfl⟩
/-! impl_works: function 63 -/
def impl_works.f (k : Nat) : Option (List ByteArray) := (strings_Fields.f k (⟨#[43, 32, 45, 32, 42, 32, 68, 73, 86, 32, 77, 79, 68, 32, 61, 32, 35, 32, 60, 32, 60, 61, 32, 62, 32, 62, 61]⟩ : ByteArray)).bind fun r1 => some r1
set_option maxRecDepth 100000 in
theorem impl_works.fn (k : Nat) (r : (List ByteArray)) (H : impl_works.f k  = some r) : Fn Tryd.prog 63 [] [] (o1 (.own 9 (List.map eS r))) [] := by
  unfold impl_works.f at H
  refine Fn.body (ts := [0]) Tryd.func63 rfl rfl (by decide) (by decide) (Nat.le_of_ble_eq_true rfl) (Nat.le_refl _) ?_
  refine Tri.rn [] 0 [] [] [] ⟨2, [], [], 0, []⟩ (by kernel_rfl) trivial ?_
  obtain ⟨r1, h2, H⟩ := bind_some' H
  refine Tri.rn [0] 0 [] [(0, .call (o1 (.own 9 (List.map eS r1))) [] false)] [_, _] ⟨2, [(0, o1 (.own 9 (List.map eS r1)))], [], 0, []⟩ (by kernel_rfl) ⟨(strings_Fields.fn k (⟨#[43, 32, 45, 32, 42, 32, 68, 73, 86, 32, 77, 79, 68, 32, 61, 32, 35, 32, 60, 32, 60, 61, 32, 62, 32, 62, 61]⟩ : ByteArray) r1 h2), (show (List.all [.own 9 (List.map eS r1)] PC.flatB) = true by simp [PC.flatB, PC.scalar, cI, cK, cB, cS, eS]), trivial⟩ ?_
  refine Tri.ret ?_
  obtain rfl := Option.some.inj H
  exact ⟨.inr rfl, rfl, rfl, Nat.le_refl _, rfl, by simp⟩
/-! impl_isType: function 100 -/
def impl_isType.f (k : Nat) (a0 : Int) : Option Bool := (impl_within.f k a0 1 3).bind fun r1 => some r1
set_option maxRecDepth 100000 in
theorem impl_isType.fn (k : Nat) (a0 : Int) (r : Bool) (H : impl_isType.f k a0 = some r) : Fn Tryd.prog 100 [oI a0] [] (oB r) [] := by
  unfold impl_isType.f at H
  refine Fn.body (ts := [2]) Tryd.func100 rfl rfl (by decide) (by decide) (Nat.le_of_ble_eq_true rfl) (Nat.le_refl _) ?_
  refine Tri.rn [0] 0 [] [] [] ⟨5, [(0, oI a0)], [], 0, []⟩ (by kernel_rfl) trivial ?_
  obtain ⟨r1, h2, H⟩ := bind_some' H
  refine Tri.rn [2] 0 [] [(1, .call (oB r1) [] false)] [_, _] ⟨5, [(2, oB r1)], [], 0, []⟩ (by kernel_rfl) ⟨(impl_within.fn k a0 1 3 r1 h2), (show (List.all [cB r1] PC.flatB) = true from rfl), trivial⟩ ?_
  refine Tri.ret ?_
  obtain rfl := Option.some.inj H
  exact ⟨.inr rfl, rfl, rfl, Nat.le_refl _, rfl, by simp⟩
end Go.Proofs.YtdoenfpleokadaaDoor.E
