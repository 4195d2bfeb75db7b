/- Functions of the program and their contracts: printed by ep3.py, a program of this session. -/
import Derived.Test.YtgiiholpgpfgkaaGreatDoorGFnExactTokens
import Derived.Test.YtgiiholpgpfgkaaGreatDoorProg
set_option maxRecDepth 100000
set_option linter.unusedVariables false
set_option linter.unusedSectionVars false
set_option linter.unusedSimpArgs false
namespace Go.Proofs.YtgiiholpgpfgkaaGreatDoor.E
open Go.RowKit
structure STok where
  f0 : Int
  f1 : Int
  f2 : ByteArray
  f3 : Int
def eSTok (x : STok) : List PC := [cI x.f0, cI x.f1, cS x.f2, cI x.f3]
structure S65b163 where
  f0 : ByteArray
  f1 : Int
  f2 : (List STok)
  f3 : Int
  f4 : Int
def eS65b163 (x : S65b163) : List PC := [cS x.f0, cI x.f1, .sl 4 (List.map eSTok x.f2), cI x.f3, cI x.f4]
structure SNeed where
  f0 : ByteArray
  f1 : Int
def eSNeed (x : SNeed) : List PC := [cS x.f0, cI x.f1]
theorem hmix : Tryz.prog.follows .mixedOrders = true := by kernel_rfl
def impl_numeral.f (k : Nat) (a0 : ByteArray) : Option (STok × Bool) := if a0.size ≤ 4000 ∧ Nm.word a0.data.toList = true then some (⟨(Nm.res a0.data.toList).1, (Nm.res a0.data.toList).2.1, ⟨#[]⟩, 0⟩, (Nm.res a0.data.toList).2.2) else none
theorem impl_numeral.fn (k : Nat) (a0 : ByteArray) (r : STok × Bool) (h : impl_numeral.f k a0 = some r) : Fn Tryz.prog 33 [oS a0] [] (tp [some 4, none] [cI r.1.f0, cI r.1.f1, cS r.1.f2, cI r.1.f3, cB r.2]) [] := by
  unfold impl_numeral.f at h
  split at h
  · rename_i hc
    obtain ⟨h1, h2⟩ := hc
    obtain rfl := Option.some.inj h
    exact Fn.ofSc (P := Tryz.prog) (f := 33) (vs := [.string a0]) (v := .tuple #[.agg #[.int .i64 (Nm.res a0.data.toList).1, .int .i64 (Nm.res a0.data.toList).2.1, .string ⟨#[]⟩, .int .i64 0], .bool (Nm.res a0.data.toList).2.2])
      ⟨_, rfl, rfl, rfl, fun x hx y hy => by simp at hx; rcases hx with rfl | rfl <;> (simp [Value.cells] at hy; first | (subst hy; rfl) | (rcases hy with h | h | h | h <;> subst h <;> rfl))⟩ (fun c x hx => by
        match c, hx with
        | 0, hx => simp only [tp, List.getElem?_cons_zero, Option.some.injEq] at hx; subst hx; exact ⟨_, rfl, rfl, rfl⟩
        | 1, hx => simp only [tp, List.getElem?_cons_succ, List.getElem?_cons_zero, Option.some.injEq] at hx; subst hx; exact ⟨_, rfl, rfl, rfl⟩
        | 2, hx => simp only [tp, List.getElem?_cons_succ, List.getElem?_cons_zero, Option.some.injEq] at hx; subst hx; exact ⟨_, rfl, rfl, rfl⟩
        | 3, hx => simp only [tp, List.getElem?_cons_succ, List.getElem?_cons_zero, Option.some.injEq] at hx; subst hx; exact ⟨_, rfl, rfl, rfl⟩
        | 4, hx => simp only [tp, List.getElem?_cons_succ, List.getElem?_cons_zero, Option.some.injEq] at hx; subst hx; exact ⟨_, rfl, rfl, rfl⟩
        | c + 5, hx => simp [tp] at hx) fun w Sh hlw => Nm.numeral_run a0 h1 h2 w (hlw.1.1) (hlw.2.2.1.1.1) (hlw.2.2.1.2.1)
  · cases h

/-! spec_l01Scanner__fail_2: function 21 -/
def spec_l01Scanner__fail_2.f (k : Nat) (a1 : Int) (a2 : Int) (b0 : S65b163) : Option (Int × Int) := if b0.f3 = 0 then (some (a1, a2)) else (some (b0.f3, b0.f4))
theorem spec_l01Scanner__fail_2.fn {k : Nat} {a1 : Int} {a2 : Int} {b0 : S65b163} {r : (Int × Int)} (H : spec_l01Scanner__fail_2.f k a1 a2 b0 = some r) : FnG Tryz.prog 21 [o1 (.ref 0 0), oI a1, oI a2] [] [[cS b0.f0, cI b0.f1, .own 30 (List.map eSTok b0.f2), cI b0.f3, cI b0.f4]] (tp [] []) [] [[cS b0.f0, cI b0.f1, .own 30 (List.map eSTok b0.f2), cI r.1, cI r.2]] := by
 refine FnG.body (ts := []) Tryz.func21 rfl rfl (by decide) (by decide) (Nat.le_of_ble_eq_true rfl) rfl (Nat.le_of_ble_eq_true rfl) ?_
 refine rn [0, 1, 2, 10] 1 [] [] ?_
 refine ci H (fun h1 H => ?_) fun h1 H => ?_
 ·refine rn [0, 2] 1 [] [] ?_
  refine rl [] 1 [] [] ?_
  obtain rfl := si H;exact endsG (.inl rfl) (by kernel_rfl)
 refine sk ?_
 obtain rfl := si H;exact endsG (.inl rfl) (by kernel_rfl)
/-! spec_l01Scanner__remark_2: function 17 -/
def spec_l01Scanner__remark_2.e1 (k : Nat) (b0 : S65b163) (z12 : Int) (z13 : Int) : Option (Int × Int) := if (b0.f0.extract (Int.toNat z13) (Int.toNat (w64 (z13 + 2)))) = (⟨#[40, 42]⟩ : ByteArray) then (some (w64 (z12 + 1), w64 (z13 + 2))) else (if (b0.f0.extract (Int.toNat z13) (Int.toNat (w64 (z13 + 2)))) = (⟨#[42, 41]⟩ : ByteArray) then (some (w64 (z12 - 1), w64 (z13 + 2))) else (some (z12, w64 (z13 + 1))))
def spec_l01Scanner__remark_2.l2 : Nat → S65b163 → Int → Int → Option ((Int × Int × Int) ⊕ Int)
  | 0, _, _, _ => none
  | k + 1, b0, z12, z13 => if (w64 (z13 + 1)) < (b0.f0.size : Int) then (if (0 : Int) ≤ z13 then (if z13 ≤ w64 (z13 + 2) then (if (w64 (z13 + 2)) ≤ (b0.f0.size : Int) then ((spec_l01Scanner__remark_2.e1 k b0 z12 z13).bind fun v => match v with | (y20, y21) => if y20 = 0 then (some (.inl (y21, b0.f3, b0.f4))) else (spec_l01Scanner__remark_2.l2 k b0 y20 y21)) else none) else none) else none) else (some (.inr z13))
def spec_l01Scanner__remark_2.e3 (k : Nat) (b0 : S65b163) : Option ((Int × Int × Int) ⊕ Int) := spec_l01Scanner__remark_2.l2 k b0 0 b0.f1
def spec_l01Scanner__remark_2.f (k : Nat) (b0 : S65b163) : Option (Int × Int × Int) := (spec_l01Scanner__remark_2.e3 k b0).bind fun v => match v with | .inl r => some r | .inr y26 => (spec_l01Scanner__fail_2.f k 4 b0.f1 (⟨b0.f0, y26, b0.f2, b0.f3, b0.f4⟩ : S65b163)).bind fun r29 => some ((b0.f0.size : Int), r29.1, r29.2)
theorem spec_l01Scanner__remark_2.fn {k : Nat} {b0 : S65b163} {r : (Int × Int × Int)} (H : spec_l01Scanner__remark_2.f k b0 = some r) : FnG Tryz.prog 17 [o1 (.ref 0 0)] [] [[cS b0.f0, cI b0.f1, .own 30 (List.map eSTok b0.f2), cI b0.f3, cI b0.f4]] (tp [] []) [] [[cS b0.f0, cI r.1, .own 30 (List.map eSTok b0.f2), cI r.2.1, cI r.2.2]] := by
 refine FnG.body (ts := []) Tryz.func17 rfl rfl (by decide) (by decide) (Nat.le_of_ble_eq_true rfl) rfl (Nat.le_of_ble_eq_true rfl) ?_
 refine rn [0, 2] 1 [] [] ?_
 refine rn [0, 2, 3] 1 [] [] ?_
 refine jr H (fun y26 => ⟨77, [(0, o1 (.ref 0 0)), (2, oI b0.f1)], [[cS b0.f0, cI y26, .own 30 (List.map eSTok b0.f2), cI b0.f3, cI b0.f4]], 1, []⟩) (fun y26 H => ?_) fun v28 h27 H => ?_
 ·obtain ⟨r29, h30, H⟩ := bs H
  refine rn [0] 1 [] [hG 2 [] [0] none (spec_l01Scanner__fail_2.fn h30)] ?_
  refine rl [] 1 [] [] ?_
  obtain rfl := si H;exact endsG (.inl rfl) (by kernel_rfl)
 refine bl ?_
 refine lo (Int × Int) k (fun k x => spec_l01Scanner__remark_2.l2 k b0 x.1 x.2) (fun x => ⟨77, [(0, o1 (.ref 0 0)), (2, oI b0.f1), (3, oI x.1)], [[cS b0.f0, cI x.2, .own 30 (List.map eSTok b0.f2), cI b0.f3, cI b0.f4]], 1, []⟩) (0, b0.f1) h27 fun k x h27 IH25 => ?_
 obtain ⟨z12, z13⟩ := x
 rw [spec_l01Scanner__remark_2.l2.eq_2] at h27
 refine sq ?_
 refine dn hmix 10 [[], [0], [0, 1], [0, 1, 2], [0, 1, 2, 3], [], [5], [5, 6], [5, 6, 7], [5, 6, 7, 8], [0, 1, 2, 3, 4, 5, 6, 7, 8, 9]] [0, 2, 3, 19] 1 [] [] ?_
 refine ci h27 (fun h14 h27 => ?_) fun h14 h27 => ?_
 ·refine sk ?_
  refine bl ?_
  obtain ⟨h15, h27⟩ := nd h27
  obtain ⟨h16, h27⟩ := nd h27
  obtain ⟨h17, h27⟩ := nd h27
  refine dn hmix 13 [[], [0], [0, 1], [0, 1, 2], [], [4], [4, 5], [4, 5, 6], [], [8], [8, 9], [8, 9, 10], [8, 9, 10, 11], [0, 1, 2, 3, 4, 5, 6, 7, 8, 9, 10, 11, 12], [0, 1, 2, 3, 4, 5, 6, 7, 8, 9, 10, 11, 12, 13]] [0, 2, 3, 4] 1 [] [p3 h15 h16 h17] ?_
  refine jo h27 (fun w => ⟨77, [(0, o1 (.ref 0 0)), (2, oI b0.f1), (3, oI w.1)], [[cS b0.f0, cI w.2, .own 30 (List.map eSTok b0.f2), cI b0.f3, cI b0.f4]], 1, []⟩) (fun w h27 => ?_) fun v23 h22 h27 => ?_
  ·obtain ⟨y20, y21⟩ := w
   refine rn [0, 2, 3, 65] 1 [] [] ?_
   refine ci h27 (fun h24 h27 => ?_) fun h24 h27 => ?_
   ·refine Tri.ret ?_
    obtain rfl := si h27;obtain rfl := si H;exact endsG (.inr rfl) (by kernel_rfl)
   refine fx [0, 2, 3] 1 [] ?_
   refine sk ?_
   exact lb IH25 (y20, y21) h27
  refine rn [0, 2, 3, 34] 1 [] [] ?_
  refine bl ?_
  refine rn [0, 2, 3, 34, 42] 1 [] [] ?_
  refine ci h22 (fun h18 h22 => ?_) fun h18 h22 => ?_
  ·refine rn [0, 2, 3] 1 [] [] ?_
   refine rl [0, 2, 3] 1 [] [] ?_
   exact pf (w64 (z12 + 1), w64 (z13 + 2)) h22
  refine rn [0, 2, 3, 53] 1 [] [] ?_
  refine ci h22 (fun h19 h22 => ?_) fun h19 h22 => ?_
  ·refine rx [0, 2, 3] 1 [] [] ⟨77, [(0, o1 (.ref 0 0)), (2, oI b0.f1), (3, oI (w64 (z12 - 1)))], [[cS b0.f0, cI z13, .own 30 (List.map eSTok b0.f2), cI b0.f3, cI b0.f4]], 1, []⟩ ?_
   refine rl [0, 2, 3] 1 [] [] ?_
   exact pf (w64 (z12 - 1), w64 (z13 + 2)) h22
  refine rl [0, 2, 3] 1 [] [] ?_
  exact pf (z12, w64 (z13 + 1)) h22
 refine fx [0, 2] 1 [] ?_
 refine xi ?_
 exact pe z13 h27
/-! spec_l00Digit: function 18 -/
def spec_l00Digit.e1 (k : Nat) (a0 : Int) : Option Bool := if (48 : Int) ≤ a0 then (some (decide (a0 ≤ 57))) else (some false)
def spec_l00Digit.f (k : Nat) (a0 : Int) : Option Bool := (spec_l00Digit.e1 k a0).bind fun y2 => some y2
theorem spec_l00Digit.fn {k : Nat} {a0 : Int} {r : Bool} (H : spec_l00Digit.f k a0 = some r) : Fn Tryz.prog 18 [o1 (cK .u8 a0)] [] (oB r) [] := by
 refine Fn.bd [2] Tryz.func18 ?_
 refine rn [0] 0 [] [] ?_
 refine jo H (fun y2 => ⟨9, [(2, oB y2)], [], 0, []⟩) (fun y2 H => ?_) fun v4 h3 H => ?_
 ·refine Tri.ret ?_
  obtain rfl := si H;exact eR
 rcases ite_some h3 with ⟨h1, h3⟩ | ⟨h1, h3⟩
 ·refine rl [2] 0 [] [hB 1 (decide_eq_true h1)] ?_
  exact pf (decide (a0 ≤ 57)) h3
 refine rl [2] 0 [] [hB 1 (decide_eq_false h1)] ?_
 exact pf false h3
/-! spec_l00Letter: function 20 -/
def spec_l00Letter.e1 (k : Nat) (a0 : Int) : Option Bool := if (97 : Int) ≤ a0 then (if a0 ≤ 122 then (some true) else (if (65 : Int) ≤ a0 then (if a0 ≤ 90 then (some true) else (some (decide (a0 = 95)))) else (some (decide (a0 = 95))))) else (if (65 : Int) ≤ a0 then (if a0 ≤ 90 then (some true) else (some (decide (a0 = 95)))) else (some (decide (a0 = 95))))
def spec_l00Letter.f (k : Nat) (a0 : Int) : Option Bool := (spec_l00Letter.e1 k a0).bind fun y7 => some y7
theorem spec_l00Letter.fn {k : Nat} {a0 : Int} {r : Bool} (H : spec_l00Letter.f k a0 = some r) : Fn Tryz.prog 20 [o1 (cK .u8 a0)] [] (oB r) [] := by
 refine Fn.bd [2] Tryz.func20 ?_
 refine rn [0] 0 [] [] ?_
 refine jo H (fun y7 => ⟨21, [(2, oB y7)], [], 0, []⟩) (fun y7 H => ?_) fun v9 h8 H => ?_
 ·refine Tri.ret ?_
  obtain rfl := si H;exact eR
 rcases ite_some h8 with ⟨h1, h8⟩ | ⟨h1, h8⟩
 ·rcases ite_some h8 with ⟨h2, h8⟩ | ⟨h2, h8⟩
  ·refine rl [2] 0 [] [hB 1 (decide_eq_true h1), hB 4 (decide_eq_true h2)] ?_
   exact pf true h8
  rcases ite_some h8 with ⟨h3, h8⟩ | ⟨h3, h8⟩
  ·rcases ite_some h8 with ⟨h4, h8⟩ | ⟨h4, h8⟩
   ·refine rl [2] 0 [] [hB 1 (decide_eq_true h1), hB 4 (decide_eq_false h2), hB 8 (decide_eq_true h3), hB 11 (decide_eq_true h4)] ?_
    exact pf true h8
   refine rl [2] 0 [] [hB 1 (decide_eq_true h1), hB 4 (decide_eq_false h2), hB 8 (decide_eq_true h3), hB 11 (decide_eq_false h4)] ?_
   exact pf (decide (a0 = 95)) h8
  refine rl [2] 0 [] [hB 1 (decide_eq_true h1), hB 4 (decide_eq_false h2), hB 8 (decide_eq_false h3)] ?_
  exact pf (decide (a0 = 95)) h8
 rcases ite_some h8 with ⟨h5, h8⟩ | ⟨h5, h8⟩
 ·rcases ite_some h8 with ⟨h6, h8⟩ | ⟨h6, h8⟩
  ·refine rl [2] 0 [] [hB 1 (decide_eq_false h1), hB 8 (decide_eq_true h5), hB 11 (decide_eq_true h6)] ?_
   exact pf true h8
  refine rl [2] 0 [] [hB 1 (decide_eq_false h1), hB 8 (decide_eq_true h5), hB 11 (decide_eq_false h6)] ?_
  exact pf (decide (a0 = 95)) h8
 refine rl [2] 0 [] [hB 1 (decide_eq_false h1), hB 8 (decide_eq_false h5)] ?_
 exact pf (decide (a0 = 95)) h8
/-! spec_l01Upper: function 38 -/
def spec_l01Upper.e1 (k : Nat) (a0 : Int) : Option Bool := if (65 : Int) ≤ a0 then (some (decide (a0 ≤ 70))) else (some false)
def spec_l01Upper.f (k : Nat) (a0 : Int) : Option Bool := (spec_l01Upper.e1 k a0).bind fun y2 => some y2
theorem spec_l01Upper.fn {k : Nat} {a0 : Int} {r : Bool} (H : spec_l01Upper.f k a0 = some r) : Fn Tryz.prog 38 [o1 (cK .u8 a0)] [] (oB r) [] := by
 refine Fn.bd [2] Tryz.func38 ?_
 refine rn [0] 0 [] [] ?_
 refine jo H (fun y2 => ⟨9, [(2, oB y2)], [], 0, []⟩) (fun y2 H => ?_) fun v4 h3 H => ?_
 ·refine Tri.ret ?_
  obtain rfl := si H;exact eR
 rcases ite_some h3 with ⟨h1, h3⟩ | ⟨h1, h3⟩
 ·refine rl [2] 0 [] [hB 1 (decide_eq_true h1)] ?_
  exact pf (decide (a0 ≤ 70)) h3
 refine rl [2] 0 [] [hB 1 (decide_eq_false h1)] ?_
 exact pf false h3
/-! spec_l01In: function 59 -/
def spec_l01In.e1 (k : Nat) (a0 : Int) (a1 : Int) (a2 : Int) : Option Bool := if a1 ≤ a0 then (some (decide (a0 ≤ a2))) else (some false)
def spec_l01In.f (k : Nat) (a0 : Int) (a1 : Int) (a2 : Int) : Option Bool := (spec_l01In.e1 k a0 a1 a2).bind fun y2 => some y2
theorem spec_l01In.fn {k : Nat} {a0 : Int} {a1 : Int} {a2 : Int} {r : Bool} (H : spec_l01In.f k a0 a1 a2 = some r) : Fn Tryz.prog 59 [oI a0, oI a1, oI a2] [] (oB r) [] := by
 refine Fn.bd [6] Tryz.func59 ?_
 refine rn [0, 1, 2] 0 [] [] ?_
 refine jo H (fun y2 => ⟨15, [(6, oB y2)], [], 0, []⟩) (fun y2 H => ?_) fun v4 h3 H => ?_
 ·refine Tri.ret ?_
  obtain rfl := si H;exact eR
 rcases ite_some h3 with ⟨h1, h3⟩ | ⟨h1, h3⟩
 ·refine rl [6] 0 [] [hB 2 (decide_eq_true h1)] ?_
  exact pf (decide (a0 ≤ a2)) h3
 refine rl [6] 0 [] [hB 2 (decide_eq_false h1)] ?_
 exact pf false h3
/-! spec_CharOK: function 39 -/
def spec_CharOK.e1 (k : Nat) (a0 : Int) : Option Bool := (spec_l01In.f k a0 0 55295).bind fun r1 => if r1 = true then (some true) else ((spec_l01In.f k a0 57344 1114111).bind fun r4 => some r4)
def spec_CharOK.f (k : Nat) (a0 : Int) : Option Bool := (spec_CharOK.e1 k a0).bind fun y6 => some y6
theorem spec_CharOK.fn {k : Nat} {a0 : Int} {r : Bool} (H : spec_CharOK.f k a0 = some r) : Fn Tryz.prog 39 [oI a0] [] (oB r) [] := by
 refine Fn.bd [2] Tryz.func39 ?_
 refine rn [0] 0 [] [] ?_
 refine jo H (fun y6 => ⟨9, [(2, oB y6)], [], 0, []⟩) (fun y6 H => ?_) fun v8 h7 H => ?_
 ·refine Tri.ret ?_
  obtain rfl := si H;exact eR
 obtain ⟨r1, h2, h7⟩ := bs h7
 rcases iteb_some h7 with ⟨h3, h7⟩ | ⟨h3, h7⟩
 ·refine rl [2] 0 [] [hC 1 (spec_l01In.fn h2), hB 1 h3] ?_
  exact pf true h7
 obtain ⟨r4, h5, h7⟩ := bs h7
 refine rl [2] 0 [] [hC 1 (spec_l01In.fn h2), hB 1 h3, hC 4 (spec_l01In.fn h5)] ?_
 exact pf r4 h7
/-! spec_l01Scanner__add_2: function 23 -/
def spec_l01Scanner__add_2.f (k : Nat) (a1 : Int) (a2 : Int) (a3 : ByteArray) (a4 : Int) (b0 : S65b163) : Option ((List STok) × Int × Int) := if (b0.f2.length : Int) = 1200 then ((spec_l01Scanner__fail_2.f k 13 a4 (⟨b0.f0, b0.f1, b0.f2, b0.f3, b0.f4⟩ : S65b163)).bind fun r2 => some (b0.f2, r2.1, r2.2)) else (if (b0.f2 ++ ([(⟨a1, a2, a3, a4⟩ : STok)] : List STok)).length * 40 ≤ 140737488355328 then (some (b0.f2 ++ ([(⟨a1, a2, a3, a4⟩ : STok)] : List STok), b0.f3, b0.f4)) else none)
theorem spec_l01Scanner__add_2.fn {k : Nat} {a1 : Int} {a2 : Int} {a3 : ByteArray} {a4 : Int} {b0 : S65b163} {r : ((List STok) × Int × Int)} (H : spec_l01Scanner__add_2.f k a1 a2 a3 a4 b0 = some r) : FnG Tryz.prog 23 [o1 (.ref 0 0), oI a1, oI a2, oS a3, oI a4] [] [[cS b0.f0, cI b0.f1, .own 30 (List.map eSTok b0.f2), cI b0.f3, cI b0.f4]] (tp [] []) [] [[cS b0.f0, cI b0.f1, .own 30 (List.map eSTok r.1), cI r.2.1, cI r.2.2]] := by
 refine FnG.body (ts := []) Tryz.func23 rfl rfl (by decide) (by decide) (Nat.le_of_ble_eq_true rfl) rfl (Nat.le_of_ble_eq_true rfl) ?_
 refine sq ?_
 refine rn [0, 1, 2, 3, 4, 15] 1 [] [hL 4 eSTok b0.f2] ?_
 refine ci H (fun h1 H => ?_) fun h1 H => ?_
 ·obtain ⟨r2, h3, H⟩ := bs H
  refine rn [] 1 [] [hG 2 [] [0] none (spec_l01Scanner__fail_2.fn h3)] ?_
  refine Tri.ret ?_
  obtain rfl := si H;exact endsG (.inr rfl) (by kernel_rfl)
 refine sk ?_
 obtain ⟨h4, H⟩ := nd H
 refine rl [] 1 [] [hA 11 30 eSTok h4] ?_
 obtain rfl := si H;exact endsG (.inl rfl) (by kernel_rfl)
/-! spec_l00Number: function 40 -/
def spec_l00Number.e1 (k : Nat) (a0 : ByteArray) : Option Bool := if (0 : Int) < (a0.size : Int) then (if (0 : Int) ≤ 0 then (if 0 < (a0.size : Int) then (some (decide ((byteAt a0 0) = 45))) else none) else none) else (some false)
def spec_l00Number.e2 (k : Nat) (a0 : ByteArray) : Option (ByteArray × Int) := (spec_l00Number.e1 k a0).bind fun y4 => if y4 = true then (if (1 : Int) ≤ (a0.size : Int) then (some (a0.extract (Int.toNat 1) (Int.toNat (a0.size : Int)), -1)) else none) else (some (a0, 1))
def spec_l00Number.e3 (k : Nat) (y9 : ByteArray) (y10 : Int) : Option Bool := if (y9.size : Int) = 0 then (some true) else (if (18 : Int) < (y9.size : Int) then (some true) else (if (0 : Int) ≤ 0 then (if 0 < (y9.size : Int) then (if (byteAt y9 0) = 48 then (if (1 : Int) < (y9.size : Int) then (some true) else (some (decide (y10 < 0)))) else (some false)) else none) else none))
def spec_l00Number.e4 (k : Nat) (y9 : ByteArray) (z34 : Int) : Option Bool := if (0 : Int) ≤ z34 then (if (byteAt y9 z34) < 48 then (some true) else (some (decide ((57 : Int) < (byteAt y9 z34))))) else none
def spec_l00Number.l5 : Nat → ByteArray → Int → Int → Option ((Int × Bool) ⊕ Int)
  | 0, _, _, _ => none
  | k + 1, y9, z33, z34 => if z34 < (y9.size : Int) then ((spec_l00Number.e4 k y9 z34).bind fun y38 => if y38 = true then (some (.inl (0, false))) else (if (0 : Int) ≤ z34 then (spec_l00Number.l5 k y9 (w64 ((w64 ((w64 (z33 * 10)) + (w64 (byteAt y9 z34)))) - 48)) (w64 (z34 + 1))) else none)) else (some (.inr z33))
def spec_l00Number.e6 (k : Nat) (y9 : ByteArray) : Option ((Int × Bool) ⊕ Int) := spec_l00Number.l5 k y9 0 0
def spec_l00Number.f (k : Nat) (a0 : ByteArray) : Option (Int × Bool) := (spec_l00Number.e2 k a0).bind fun v => match v with | (y9, y10) => (spec_l00Number.e3 k y9 y10).bind fun y19 => if y19 = true then (some (0, false)) else ((spec_l00Number.e6 k y9).bind fun v => match v with | .inl r => some r | .inr y44 => some (w64 (y10 * y44), true))
theorem spec_l00Number.fn {k : Nat} {a0 : ByteArray} {r : (Int × Bool)} (H : spec_l00Number.f k a0 = some r) : Fn Tryz.prog 40 [oS a0] [] (tp [none, none] [cI r.1, cB r.2]) [] := by
 refine Fn.bd [2, 3] Tryz.func40 ?_
 refine rn [0] 0 [] [] ?_
 refine rn [0, 4] 0 [] [] ?_
 refine jo H (fun w => ⟨66, [(0, oS w.1), (4, oI w.2)], [], 0, []⟩) (fun w H => ?_) fun v12 h11 H => ?_
 ·obtain ⟨y9, y10⟩ := w
  refine sq ?_
  refine jo H (fun y19 => ⟨66, [(0, oS y9), (4, oI y10), (38, oB y19)], [], 0, []⟩) (fun y19 H => ?_) fun v21 h20 H => ?_
  ·refine cb H (fun h22 H => ?_) fun h22 H => ?_
   ·refine rn [2, 3] 0 [] [] ?_
    refine Tri.ret ?_
    obtain rfl := si H;exact eR
   refine sk ?_
   refine rn [0, 4, 5] 0 [] [] ?_
   refine jr H (fun y44 => ⟨66, [(4, oI y10), (5, oI y44)], [], 0, []⟩) (fun y44 H => ?_) fun v46 h45 H => ?_
   ·refine rn [2, 3] 0 [] [] ?_
    refine Tri.ret ?_
    obtain rfl := si H;exact eR
   refine rn [0, 4, 5, 6] 0 [] [] ?_
   refine bl ?_
   refine lo (Int × Int) k (fun k x => spec_l00Number.l5 k y9 x.1 x.2) (fun x => ⟨66, [(0, oS y9), (4, oI y10), (5, oI x.1), (6, oI x.2)], [], 0, []⟩) (0, 0) h45 fun k x h45 IH43 => ?_
   obtain ⟨z33, z34⟩ := x
   rw [spec_l00Number.l5.eq_2] at h45
   refine sq ?_
   refine rn [0, 4, 5, 6, 42] 0 [] [] ?_
   refine ci h45 (fun h35 h45 => ?_) fun h35 h45 => ?_
   ·refine sk ?_
    refine sq ?_
    refine bl ?_
    refine sq ?_
    refine jo h45 (fun y38 => ⟨66, [(0, oS y9), (4, oI y10), (5, oI z33), (6, oI z34), (54, oB y38)], [], 0, []⟩) (fun y38 h45 => ?_) fun v40 h39 h45 => ?_
    ·refine cb h45 (fun h41 h45 => ?_) fun h41 h45 => ?_
     ·refine rn [2, 3] 0 [] [] ?_
      refine Tri.ret ?_
      obtain rfl := si h45;obtain rfl := si H;exact eR
     refine sk ?_
     obtain ⟨h42, h45⟩ := nd h45
     refine rl [0, 4, 5, 6] 0 [] [p2 h42 h35] ?_
     refine rl [0, 4, 5, 6] 0 [] [] ?_
     exact lb IH43 (w64 ((w64 ((w64 (z33 * 10)) + (w64 (byteAt y9 z34)))) - 48), w64 (z34 + 1)) h45
    obtain ⟨h36, h39⟩ := nd h39
    rcases ite_some h39 with ⟨h37, h39⟩ | ⟨h37, h39⟩
    ·refine rl [0, 4, 5, 6, 54] 0 [] [p2 h36 h35, hB 3 (decide_eq_true h37)] ?_
     exact pf true h39
    refine rl [0, 4, 5, 6, 54] 0 [] [p2 h36 h35, hB 3 (decide_eq_false h37), p2 h36 h35] ?_
    exact pf (decide ((57 : Int) < (byteAt y9 z34))) h39
   refine fx [4, 5] 0 [] ?_
   refine xi ?_
   exact pe z33 h45
  rcases ite_some h20 with ⟨h13, h20⟩ | ⟨h13, h20⟩
  ·refine rl [0, 4, 38] 0 [] [hB 2 (decide_eq_true h13)] ?_
   exact pf true h20
  rcases ite_some h20 with ⟨h14, h20⟩ | ⟨h14, h20⟩
  ·refine rl [0, 4, 38] 0 [] [hB 2 (decide_eq_false h13), hB 6 (decide_eq_true h14)] ?_
   exact pf true h20
  obtain ⟨h15, h20⟩ := nd h20
  obtain ⟨h16, h20⟩ := nd h20
  rcases ite_some h20 with ⟨h17, h20⟩ | ⟨h17, h20⟩
  ·rcases ite_some h20 with ⟨h18, h20⟩ | ⟨h18, h20⟩
   ·refine rl [0, 4, 38] 0 [] [hB 2 (decide_eq_false h13), hB 6 (decide_eq_false h14), p2 h15 h16, hB 11 (decide_eq_true h17), hB 15 (decide_eq_true h18)] ?_
    exact pf true h20
   refine rl [0, 4, 38] 0 [] [hB 2 (decide_eq_false h13), hB 6 (decide_eq_false h14), p2 h15 h16, hB 11 (decide_eq_true h17), hB 15 (decide_eq_false h18)] ?_
   exact pf (decide (y10 < 0)) h20
  refine rl [0, 4, 38] 0 [] [hB 2 (decide_eq_false h13), hB 6 (decide_eq_false h14), p2 h15 h16, hB 11 (decide_eq_false h17)] ?_
  exact pf false h20
 refine jo h11 (fun y4 => ⟨66, [(0, oS a0), (4, oI 1), (14, oB y4)], [], 0, []⟩) (fun y4 h11 => ?_) fun v6 h5 h11 => ?_
 ·refine cb h11 (fun h7 h11 => ?_) fun h7 h11 => ?_
  ·refine rn [0, 4] 0 [] [] ?_
   obtain ⟨h8, h11⟩ := nd h11
   refine rl [0, 4] 0 [] [p3 (show (0 : Int) ≤ 1 by decide) h8 (Int.le_refl (a0.size : Int))] ?_
   exact pf (a0.extract (Int.toNat 1) (Int.toNat (a0.size : Int)), -1) h11
  refine fx [0, 4] 0 [] ?_
  refine sk ?_
  exact pf (a0, 1) h11
 rcases ite_some h5 with ⟨h1, h5⟩ | ⟨h1, h5⟩
 ·obtain ⟨h2, h5⟩ := nd h5
  obtain ⟨h3, h5⟩ := nd h5
  refine rl [0, 4, 14] 0 [] [hB 2 (decide_eq_true h1), p2 h2 h3] ?_
  exact pf (decide ((byteAt a0 0) = 45)) h5
 refine rl [0, 4, 14] 0 [] [hB 2 (decide_eq_false h1)] ?_
 exact pf false h5
/-! spec_l01Scanner__number_2: function 19 -/
def spec_l01Scanner__number_2.e1 (k : Nat) (b0 : S65b163) (z12 : Int) : Option Bool := if z12 < (b0.f0.size : Int) then (if (0 : Int) ≤ z12 then ((spec_l00Digit.f k (byteAt b0.f0 z12)).bind fun r15 => if r15 = true then (some true) else ((spec_l00Letter.f k (byteAt b0.f0 z12)).bind fun r18 => some r18)) else none) else (some false)
def spec_l01Scanner__number_2.l2 : Nat → S65b163 → Int → Option Int
  | 0, _, _ => none
  | k + 1, b0, z12 => (spec_l01Scanner__number_2.e1 k b0 z12).bind fun y20 => if y20 = true then (spec_l01Scanner__number_2.l2 k b0 (w64 (z12 + 1))) else (some z12)
def spec_l01Scanner__number_2.e3 (k : Nat) (b0 : S65b163) : Option Int := spec_l01Scanner__number_2.l2 k b0 b0.f1
def spec_l01Scanner__number_2.e4 (k : Nat) (b0 : S65b163) (y25 : Int) : Option Bool := if (1 : Int) < ((b0.f0.extract (Int.toNat b0.f1) (Int.toNat y25)).size : Int) then (some (decide (((b0.f0.extract (Int.toNat b0.f1) (Int.toNat y25)).size : Int) < 9))) else (some false)
def spec_l01Scanner__number_2.e5 (k : Nat) (b0 : S65b163) (y25 : Int) (z51 : Int) (z52 : Bool) (z53 : Int) : Option (Int × Bool) := if (0 : Int) ≤ z53 then (if z53 < ((b0.f0.extract (Int.toNat b0.f1) (Int.toNat y25)).size : Int) then ((spec_l00Digit.f k (byteAt (b0.f0.extract (Int.toNat b0.f1) (Int.toNat y25)) z53)).bind fun r57 => if r57 = true then (some (w64 ((w64 ((w64 (z51 * 16)) + (w64 (byteAt (b0.f0.extract (Int.toNat b0.f1) (Int.toNat y25)) z53)))) - 48), z52)) else ((spec_l01Upper.f k (byteAt (b0.f0.extract (Int.toNat b0.f1) (Int.toNat y25)) z53)).bind fun r60 => if r60 = true then (some (w64 ((w64 ((w64 (z51 * 16)) + (w64 (byteAt (b0.f0.extract (Int.toNat b0.f1) (Int.toNat y25)) z53)))) - 55), z52)) else (some (z51, false)))) else none) else none
def spec_l01Scanner__number_2.l6 : Nat → S65b163 → Int → Int → Bool → Int → Option (Int × Bool)
  | 0, _, _, _, _, _ => none
  | k + 1, b0, y25, z51, z52, z53 => if (w64 (z53 + 1)) < ((b0.f0.extract (Int.toNat b0.f1) (Int.toNat y25)).size : Int) then ((spec_l01Scanner__number_2.e5 k b0 y25 z51 z52 z53).bind fun v => match v with | (y63, y64) => spec_l01Scanner__number_2.l6 k b0 y25 y63 y64 (w64 (z53 + 1))) else (some (z51, z52))
def spec_l01Scanner__number_2.e7 (k : Nat) (b0 : S65b163) (y25 : Int) (y35 : Bool) : Option (Int × Bool) := spec_l01Scanner__number_2.l6 k b0 y25 0 y35 0
def spec_l01Scanner__number_2.e8 (k : Nat) (y68 : Int) (y69 : Bool) : Option Bool := if y69 = true then ((spec_CharOK.f k y68).bind fun r73 => some (!r73)) else (some true)
def spec_l01Scanner__number_2.e9 (k : Nat) (b0 : S65b163) (y25 : Int) : Option ((Int × (List STok) × Int × Int) ⊕ Unit) := if (0 : Int) ≤ (w64 (((b0.f0.extract (Int.toNat b0.f1) (Int.toNat y25)).size : Int) - 1)) then (if (w64 (((b0.f0.extract (Int.toNat b0.f1) (Int.toNat y25)).size : Int) - 1)) < ((b0.f0.extract (Int.toNat b0.f1) (Int.toNat y25)).size : Int) then (if (byteAt (b0.f0.extract (Int.toNat b0.f1) (Int.toNat y25)) (w64 (((b0.f0.extract (Int.toNat b0.f1) (Int.toNat y25)).size : Int) - 1))) = 88 then ((spec_l01Scanner__number_2.e4 k b0 y25).bind fun y35 => (spec_l01Scanner__number_2.e7 k b0 y25 y35).bind fun v => match v with | (y68, y69) => (spec_l01Scanner__number_2.e8 k y68 y69).bind fun y75 => if y75 = true then ((spec_l01Scanner__fail_2.f k 4 b0.f1 (⟨b0.f0, y25, b0.f2, b0.f3, b0.f4⟩ : S65b163)).bind fun r79 => some (.inl (y25, b0.f2, r79.1, r79.2))) else ((spec_l01Scanner__add_2.f k 4 y68 (⟨#[]⟩ : ByteArray) b0.f1 (⟨b0.f0, y25, b0.f2, b0.f3, b0.f4⟩ : S65b163)).bind fun r81 => some (.inl (y25, r81.1, r81.2.1, r81.2.2)))) else (some (.inr ()))) else none) else none
def spec_l01Scanner__number_2.f (k : Nat) (b0 : S65b163) : Option (Int × (List STok) × Int × Int) := (spec_l01Scanner__number_2.e3 k b0).bind fun y25 => if (0 : Int) ≤ b0.f1 then (if b0.f1 ≤ y25 then (if y25 ≤ (b0.f0.size : Int) then ((spec_l01Scanner__number_2.e9 k b0 y25).bind fun v => match v with | .inl r => some r | .inr _ => (spec_l00Number.f k (b0.f0.extract (Int.toNat b0.f1) (Int.toNat y25))).bind fun r85 => if r85.2 = true then ((spec_l01Scanner__add_2.f k 3 r85.1 (⟨#[]⟩ : ByteArray) b0.f1 (⟨b0.f0, y25, b0.f2, b0.f3, b0.f4⟩ : S65b163)).bind fun r90 => some (y25, r90.1, r90.2.1, r90.2.2)) else ((spec_l01Scanner__fail_2.f k 4 b0.f1 (⟨b0.f0, y25, b0.f2, b0.f3, b0.f4⟩ : S65b163)).bind fun r88 => some (y25, b0.f2, r88.1, r88.2))) else none) else none) else none
theorem spec_l01Scanner__number_2.fn {k : Nat} {b0 : S65b163} {r : (Int × (List STok) × Int × Int)} (H : spec_l01Scanner__number_2.f k b0 = some r) : FnG Tryz.prog 19 [o1 (.ref 0 0)] [] [[cS b0.f0, cI b0.f1, .own 30 (List.map eSTok b0.f2), cI b0.f3, cI b0.f4]] (tp [] []) [] [[cS b0.f0, cI r.1, .own 30 (List.map eSTok r.2.1), cI r.2.2.1, cI r.2.2.2]] := by
 refine FnG.body (ts := []) Tryz.func19 rfl rfl (by decide) (by decide) (Nat.le_of_ble_eq_true rfl) rfl (Nat.le_of_ble_eq_true rfl) ?_
 refine rn [0, 2] 1 [] [] ?_
 refine jo H (fun y25 => ⟨139, [(0, o1 (.ref 0 0)), (2, oI b0.f1)], [[cS b0.f0, cI y25, .own 30 (List.map eSTok b0.f2), cI b0.f3, cI b0.f4]], 1, []⟩) (fun y25 H => ?_) fun v27 h26 H => ?_
 ·obtain ⟨h28, H⟩ := nd H
  obtain ⟨h29, H⟩ := nd H
  obtain ⟨h30, H⟩ := nd H
  refine dn hmix 9 [[], [0], [0, 1], [0, 1, 2], [], [], [5], [5, 6], [5, 6, 7], [0, 1, 2, 3, 4, 5, 6, 7, 8], [0, 1, 2, 3, 4, 5, 6, 7, 8, 9]] [0, 2, 3] 1 [] [p3 h28 h29 h30] ?_
  refine jr H (fun _ => ⟨139, [(0, o1 (.ref 0 0)), (2, oI b0.f1), (3, oS (b0.f0.extract (Int.toNat b0.f1) (Int.toNat y25)))], [[cS b0.f0, cI y25, .own 30 (List.map eSTok b0.f2), cI b0.f3, cI b0.f4]], 1, []⟩) (fun _ H => ?_) fun v84 h83 H => ?_
  ·obtain ⟨r85, h86, H⟩ := bs H
   refine rn [0, 2, 7, 8] 1 [] [hC 1 (spec_l00Number.fn h86)] ?_
   refine sq ?_
   refine rn [0, 2, 7, 131] 1 [] [] ?_
   refine cm H (fun h87 H => ?_) fun h87 H => ?_
   ·refine sk ?_
    obtain ⟨r90, h91, H⟩ := bs H
    refine rl [] 1 [] [hG 3 [] [0] none (spec_l01Scanner__add_2.fn h91)] ?_
    obtain rfl := si H;exact endsG (.inl rfl) (by kernel_rfl)
   obtain ⟨r88, h89, H⟩ := bs H
   refine rn [] 1 [] [hG 2 [] [0] none (spec_l01Scanner__fail_2.fn h89)] ?_
   refine Tri.ret ?_
   obtain rfl := si H;exact endsG (.inr rfl) (by kernel_rfl)
  obtain ⟨h31, h83⟩ := nd h83
  obtain ⟨h32, h83⟩ := nd h83
  refine rn [0, 2, 3, 69] 1 [] [p2 h31 h32] ?_
  refine ci h83 (fun h33 h83 => ?_) fun h33 h83 => ?_
  ·refine rn [0, 2, 3, 4] 1 [] [] ?_
   refine jo h83 (fun y35 => ⟨139, [(0, o1 (.ref 0 0)), (2, oI b0.f1), (3, oS (b0.f0.extract (Int.toNat b0.f1) (Int.toNat y25))), (4, oI 0), (5, oB y35)], [[cS b0.f0, cI y25, .own 30 (List.map eSTok b0.f2), cI b0.f3, cI b0.f4]], 1, []⟩) (fun y35 h83 => ?_) fun v37 h36 h83 => ?_
   ·refine jo h83 (fun w => ⟨139, [(0, o1 (.ref 0 0)), (2, oI b0.f1), (4, oI w.1), (5, oB w.2)], [[cS b0.f0, cI y25, .own 30 (List.map eSTok b0.f2), cI b0.f3, cI b0.f4]], 1, []⟩) (fun w h83 => ?_) fun v71 h70 h83 => ?_
    ·obtain ⟨y68, y69⟩ := w
     refine sq ?_
     refine jo h83 (fun y75 => ⟨139, [(0, o1 (.ref 0 0)), (2, oI b0.f1), (4, oI y68), (117, oB y75)], [[cS b0.f0, cI y25, .own 30 (List.map eSTok b0.f2), cI b0.f3, cI b0.f4]], 1, []⟩) (fun y75 h83 => ?_) fun v77 h76 h83 => ?_
     ·refine cb h83 (fun h78 h83 => ?_) fun h78 h83 => ?_
      ·obtain ⟨r79, h80, h83⟩ := bs h83
       refine rn [] 1 [] [hG 2 [] [0] none (spec_l01Scanner__fail_2.fn h80)] ?_
       refine Tri.ret ?_
       obtain rfl := si h83;obtain rfl := si H;exact endsG (.inr rfl) (by kernel_rfl)
      refine sk ?_
      obtain ⟨r81, h82, h83⟩ := bs h83
      refine rn [] 1 [] [hG 3 [] [0] none (spec_l01Scanner__add_2.fn h82)] ?_
      refine Tri.ret ?_
      obtain rfl := si h83;obtain rfl := si H;exact endsG (.inr rfl) (by kernel_rfl)
     rcases iteb_some h76 with ⟨h72, h76⟩ | ⟨h72, h76⟩
     ·obtain ⟨r73, h74, h76⟩ := bs h76
      refine rl [0, 2, 4, 117] 1 [] [hB 0 h72, hC 4 (spec_CharOK.fn h74)] ?_
      exact pf (!r73) h76
     refine rl [0, 2, 4, 117] 1 [] [hB 0 h72] ?_
     exact pf true h76
    refine rn [0, 2, 3, 4, 5, 6] 1 [] [] ?_
    refine bl ?_
    refine lo (Int × Bool × Int) k (fun k x => spec_l01Scanner__number_2.l6 k b0 y25 x.1 x.2.1 x.2.2) (fun x => ⟨139, [(0, o1 (.ref 0 0)), (2, oI b0.f1), (3, oS (b0.f0.extract (Int.toNat b0.f1) (Int.toNat y25))), (4, oI x.1), (5, oB x.2.1), (6, oI x.2.2)], [[cS b0.f0, cI y25, .own 30 (List.map eSTok b0.f2), cI b0.f3, cI b0.f4]], 1, []⟩) (0, y35, 0) h70 fun k x h70 IH67 => ?_
    obtain ⟨z51, z52, z53⟩ := x
    rw [spec_l01Scanner__number_2.l6.eq_2] at h70
    refine sq ?_
    refine rn [0, 2, 3, 4, 5, 6, 82] 1 [] [] ?_
    refine ci h70 (fun h54 h70 => ?_) fun h54 h70 => ?_
    ·refine sk ?_
     refine jo h70 (fun w => ⟨139, [(0, o1 (.ref 0 0)), (2, oI b0.f1), (3, oS (b0.f0.extract (Int.toNat b0.f1) (Int.toNat y25))), (4, oI w.1), (5, oB w.2), (6, oI z53)], [[cS b0.f0, cI y25, .own 30 (List.map eSTok b0.f2), cI b0.f3, cI b0.f4]], 1, []⟩) (fun w h70 => ?_) fun v66 h65 h70 => ?_
     ·obtain ⟨y63, y64⟩ := w
      refine rl [0, 2, 3, 4, 5, 6] 1 [] [] ?_
      exact lb IH67 (y63, y64, w64 (z53 + 1)) h70
     refine bl ?_
     refine bl ?_
     obtain ⟨h55, h65⟩ := nd h65
     obtain ⟨h56, h65⟩ := nd h65
     obtain ⟨r57, h58, h65⟩ := bs h65
     refine rn [0, 2, 3, 4, 5, 6, 85] 1 [] [p2 h55 h56, hC 3 (spec_l00Digit.fn h58)] ?_
     refine cb h65 (fun h59 h65 => ?_) fun h59 h65 => ?_
     ·refine rl [0, 2, 3, 4, 5, 6] 1 [] [p2 h55 h56] ?_
      exact pf (w64 ((w64 ((w64 (z51 * 16)) + (w64 (byteAt (b0.f0.extract (Int.toNat b0.f1) (Int.toNat y25)) z53)))) - 48), z52) h65
     obtain ⟨r60, h61, h65⟩ := bs h65
     refine rn [0, 2, 3, 4, 5, 6, 98] 1 [] [p2 h55 h56, hC 3 (spec_l01Upper.fn h61)] ?_
     refine cb h65 (fun h62 h65 => ?_) fun h62 h65 => ?_
     ·refine rl [0, 2, 3, 4, 5, 6] 1 [] [p2 h55 h56] ?_
      exact pf (w64 ((w64 ((w64 (z51 * 16)) + (w64 (byteAt (b0.f0.extract (Int.toNat b0.f1) (Int.toNat y25)) z53)))) - 55), z52) h65
     refine rl [0, 2, 3, 4, 5, 6] 1 [] [] ?_
     exact pf (z51, false) h65
    refine fx [0, 2, 4, 5] 1 [] ?_
    refine xi ?_
    exact pf (z51, z52) h70
   rcases ite_some h36 with ⟨h34, h36⟩ | ⟨h34, h36⟩
   ·refine rl [0, 2, 3, 4, 5] 1 [] [hB 2 (decide_eq_true h34)] ?_
    exact pf (decide (((b0.f0.extract (Int.toNat b0.f1) (Int.toNat y25)).size : Int) < 9)) h36
   refine rl [0, 2, 3, 4, 5] 1 [] [hB 2 (decide_eq_false h34)] ?_
   exact pf false h36
  refine fx [0, 2, 3] 1 [] ?_
  refine sk ?_
  exact pe () h83
 refine bl ?_
 refine lo Int k (fun k x => spec_l01Scanner__number_2.l2 k b0 x) (fun x => ⟨139, [(0, o1 (.ref 0 0)), (2, oI b0.f1)], [[cS b0.f0, cI x, .own 30 (List.map eSTok b0.f2), cI b0.f3, cI b0.f4]], 1, []⟩) b0.f1 h26 fun k z12 h26 IH24 => ?_
 rw [spec_l01Scanner__number_2.l2.eq_2] at h26
 refine sq ?_
 refine jo h26 (fun y20 => ⟨139, [(0, o1 (.ref 0 0)), (2, oI b0.f1), (46, oB y20)], [[cS b0.f0, cI z12, .own 30 (List.map eSTok b0.f2), cI b0.f3, cI b0.f4]], 1, []⟩) (fun y20 h26 => ?_) fun v22 h21 h26 => ?_
 ·refine cb h26 (fun h23 h26 => ?_) fun h23 h26 => ?_
  ·refine sk ?_
   refine bl ?_
   refine rl [0, 2] 1 [] [] ?_
   exact lb IH24 (w64 (z12 + 1)) h26
  refine fx [0, 2] 1 [] ?_
  refine xi ?_
  exact pf z12 h26
 rcases ite_some h21 with ⟨h13, h21⟩ | ⟨h13, h21⟩
 ·obtain ⟨h14, h21⟩ := nd h21
  obtain ⟨r15, h16, h21⟩ := bs h21
  rcases iteb_some h21 with ⟨h17, h21⟩ | ⟨h17, h21⟩
  ·refine dl hmix 30 [[], [0], [0, 1], [0, 1, 2], [], [4], [4, 5], [4, 5, 6], [4, 5, 6, 7], [0, 1, 2, 3, 4, 5, 6, 7, 8], [0, 1, 2, 3, 4, 5, 6, 7, 8, 9], [0, 1, 2, 3, 4, 5, 6, 7, 8, 9, 10], [0, 1, 2, 3, 4, 5, 6, 7, 8, 9, 10, 11], [0, 1, 2, 3, 4, 5, 6, 7, 8, 9, 10, 11, 12], [0, 1, 2, 3, 4, 5, 6, 7, 8, 9, 10, 11, 12, 13], [0, 1, 2, 3, 4, 5, 6, 7, 8, 9, 10], [0, 1, 2, 3, 4, 5, 6, 7, 8, 9, 10, 15], [0, 1, 2, 3, 4, 5, 6, 7, 8, 9, 10, 15, 16], [0, 1, 2, 3, 4, 5, 6, 7, 8, 9, 10, 15, 16, 17], [0, 1, 2, 3, 4, 5, 6, 7, 8, 9, 10, 11, 12, 13, 14, 15, 16, 17, 18], [0, 1, 2, 3, 4, 5, 6, 7, 8, 9, 10, 11, 12, 13, 14, 15, 16, 17, 18, 19], [0, 1, 2, 3, 4, 5, 6, 7, 8, 9, 10, 11, 12, 13, 14, 15, 16, 17, 18, 19, 20], [0, 1, 2, 3, 4, 5, 6, 7, 8, 9, 10, 11, 12, 13, 14, 15, 16, 17, 18, 19, 20, 21], [0, 1, 2, 3, 4, 5, 6, 7, 8, 9, 10, 11, 12, 13, 14, 15, 16, 17, 18, 19, 20, 21, 22], [0, 1, 2, 3, 4, 5, 6, 7, 8, 9, 10, 11, 12, 13, 14, 15, 16, 17, 18, 19, 20, 21, 22, 23], [0, 1, 2, 3, 4, 5, 6, 7, 8, 9, 10, 11, 12, 13, 14, 15, 16, 17, 18, 19, 20, 21, 22, 23, 24], [0, 1, 2, 3, 4, 5, 6, 7, 8, 9, 10, 11, 12, 13, 14, 15, 16, 17, 18, 19, 20, 21], [0, 1, 2, 3, 4, 5, 6, 7, 8, 9, 10, 11, 12, 13, 14, 15, 16, 17, 18, 19, 20, 21, 26], [0, 1, 2, 3, 4, 5, 6, 7, 8, 9, 10, 11, 12, 13, 14, 15, 16, 17, 18, 19, 20, 21, 26, 27], [0, 1, 2, 3, 4, 5, 6, 7, 8, 9, 10, 11, 12, 13, 14, 15, 16, 17, 18, 19, 20, 21, 26, 27, 28], [0, 1, 2, 3, 4, 5, 6, 7, 8, 9, 10, 11, 12, 13, 14, 15, 16, 17, 18, 19, 20, 21, 22, 23, 24, 25, 26, 27, 28, 29], [0, 1, 2, 3, 4, 5, 6, 7, 8, 9, 10, 11, 12, 13, 14, 15, 16, 17, 18, 19, 20, 21, 22, 23, 24, 25, 26, 27, 28, 29, 30], [0, 1, 2, 3, 4, 5, 6, 7, 8, 9, 10, 11, 12, 13, 14, 15, 16, 17, 18, 19, 20, 21, 22, 23, 24, 25, 26, 27, 28, 29, 30, 31], [0, 1, 2, 3, 4, 5, 6, 7, 8, 9, 10, 11, 12, 13, 14, 15, 16, 17, 18, 19, 20, 21, 22, 23, 24, 25, 26, 27, 28, 29, 30, 31, 32]] [0, 2, 46] 1 [] [hB 9 (decide_eq_true h13), p2 h14 h13, hC 20 (spec_l00Digit.fn h16), hB 20 h17] ?_
   exact pf true h21
  obtain ⟨r18, h19, h21⟩ := bs h21
  refine dl hmix 30 [[], [0], [0, 1], [0, 1, 2], [], [4], [4, 5], [4, 5, 6], [4, 5, 6, 7], [0, 1, 2, 3, 4, 5, 6, 7, 8], [0, 1, 2, 3, 4, 5, 6, 7, 8, 9], [0, 1, 2, 3, 4, 5, 6, 7, 8, 9, 10], [0, 1, 2, 3, 4, 5, 6, 7, 8, 9, 10, 11], [0, 1, 2, 3, 4, 5, 6, 7, 8, 9, 10, 11, 12], [0, 1, 2, 3, 4, 5, 6, 7, 8, 9, 10, 11, 12, 13], [0, 1, 2, 3, 4, 5, 6, 7, 8, 9, 10], [0, 1, 2, 3, 4, 5, 6, 7, 8, 9, 10, 15], [0, 1, 2, 3, 4, 5, 6, 7, 8, 9, 10, 15, 16], [0, 1, 2, 3, 4, 5, 6, 7, 8, 9, 10, 15, 16, 17], [0, 1, 2, 3, 4, 5, 6, 7, 8, 9, 10, 11, 12, 13, 14, 15, 16, 17, 18], [0, 1, 2, 3, 4, 5, 6, 7, 8, 9, 10, 11, 12, 13, 14, 15, 16, 17, 18, 19], [0, 1, 2, 3, 4, 5, 6, 7, 8, 9, 10, 11, 12, 13, 14, 15, 16, 17, 18, 19, 20], [0, 1, 2, 3, 4, 5, 6, 7, 8, 9, 10, 11, 12, 13, 14, 15, 16, 17, 18, 19, 20, 21], [0, 1, 2, 3, 4, 5, 6, 7, 8, 9, 10, 11, 12, 13, 14, 15, 16, 17, 18, 19, 20, 21, 22], [0, 1, 2, 3, 4, 5, 6, 7, 8, 9, 10, 11, 12, 13, 14, 15, 16, 17, 18, 19, 20, 21, 22, 23], [0, 1, 2, 3, 4, 5, 6, 7, 8, 9, 10, 11, 12, 13, 14, 15, 16, 17, 18, 19, 20, 21, 22, 23, 24], [0, 1, 2, 3, 4, 5, 6, 7, 8, 9, 10, 11, 12, 13, 14, 15, 16, 17, 18, 19, 20, 21], [0, 1, 2, 3, 4, 5, 6, 7, 8, 9, 10, 11, 12, 13, 14, 15, 16, 17, 18, 19, 20, 21, 26], [0, 1, 2, 3, 4, 5, 6, 7, 8, 9, 10, 11, 12, 13, 14, 15, 16, 17, 18, 19, 20, 21, 26, 27], [0, 1, 2, 3, 4, 5, 6, 7, 8, 9, 10, 11, 12, 13, 14, 15, 16, 17, 18, 19, 20, 21, 26, 27, 28], [0, 1, 2, 3, 4, 5, 6, 7, 8, 9, 10, 11, 12, 13, 14, 15, 16, 17, 18, 19, 20, 21, 22, 23, 24, 25, 26, 27, 28, 29], [0, 1, 2, 3, 4, 5, 6, 7, 8, 9, 10, 11, 12, 13, 14, 15, 16, 17, 18, 19, 20, 21, 22, 23, 24, 25, 26, 27, 28, 29, 30], [0, 1, 2, 3, 4, 5, 6, 7, 8, 9, 10, 11, 12, 13, 14, 15, 16, 17, 18, 19, 20, 21, 22, 23, 24, 25, 26, 27, 28, 29, 30, 31], [0, 1, 2, 3, 4, 5, 6, 7, 8, 9, 10, 11, 12, 13, 14, 15, 16, 17, 18, 19, 20, 21, 22, 23, 24, 25, 26, 27, 28, 29, 30, 31, 32]] [0, 2, 46] 1 [] [hB 9 (decide_eq_true h13), p2 h14 h13, hC 20 (spec_l00Digit.fn h16), hB 20 h17, p2 h14 h13, hC 31 (spec_l00Letter.fn h19)] ?_
  exact pf r18 h21
 refine dl hmix 30 [[], [0], [0, 1], [0, 1, 2], [], [4], [4, 5], [4, 5, 6], [4, 5, 6, 7], [0, 1, 2, 3, 4, 5, 6, 7, 8], [0, 1, 2, 3, 4, 5, 6, 7, 8, 9], [0, 1, 2, 3, 4, 5, 6, 7, 8, 9, 10], [0, 1, 2, 3, 4, 5, 6, 7, 8, 9, 10, 11], [0, 1, 2, 3, 4, 5, 6, 7, 8, 9, 10, 11, 12], [0, 1, 2, 3, 4, 5, 6, 7, 8, 9, 10, 11, 12, 13], [0, 1, 2, 3, 4, 5, 6, 7, 8, 9, 10], [0, 1, 2, 3, 4, 5, 6, 7, 8, 9, 10, 15], [0, 1, 2, 3, 4, 5, 6, 7, 8, 9, 10, 15, 16], [0, 1, 2, 3, 4, 5, 6, 7, 8, 9, 10, 15, 16, 17], [0, 1, 2, 3, 4, 5, 6, 7, 8, 9, 10, 11, 12, 13, 14, 15, 16, 17, 18], [0, 1, 2, 3, 4, 5, 6, 7, 8, 9, 10, 11, 12, 13, 14, 15, 16, 17, 18, 19], [0, 1, 2, 3, 4, 5, 6, 7, 8, 9, 10, 11, 12, 13, 14, 15, 16, 17, 18, 19, 20], [0, 1, 2, 3, 4, 5, 6, 7, 8, 9, 10, 11, 12, 13, 14, 15, 16, 17, 18, 19, 20, 21], [0, 1, 2, 3, 4, 5, 6, 7, 8, 9, 10, 11, 12, 13, 14, 15, 16, 17, 18, 19, 20, 21, 22], [0, 1, 2, 3, 4, 5, 6, 7, 8, 9, 10, 11, 12, 13, 14, 15, 16, 17, 18, 19, 20, 21, 22, 23], [0, 1, 2, 3, 4, 5, 6, 7, 8, 9, 10, 11, 12, 13, 14, 15, 16, 17, 18, 19, 20, 21, 22, 23, 24], [0, 1, 2, 3, 4, 5, 6, 7, 8, 9, 10, 11, 12, 13, 14, 15, 16, 17, 18, 19, 20, 21], [0, 1, 2, 3, 4, 5, 6, 7, 8, 9, 10, 11, 12, 13, 14, 15, 16, 17, 18, 19, 20, 21, 26], [0, 1, 2, 3, 4, 5, 6, 7, 8, 9, 10, 11, 12, 13, 14, 15, 16, 17, 18, 19, 20, 21, 26, 27], [0, 1, 2, 3, 4, 5, 6, 7, 8, 9, 10, 11, 12, 13, 14, 15, 16, 17, 18, 19, 20, 21, 26, 27, 28], [0, 1, 2, 3, 4, 5, 6, 7, 8, 9, 10, 11, 12, 13, 14, 15, 16, 17, 18, 19, 20, 21, 22, 23, 24, 25, 26, 27, 28, 29], [0, 1, 2, 3, 4, 5, 6, 7, 8, 9, 10, 11, 12, 13, 14, 15, 16, 17, 18, 19, 20, 21, 22, 23, 24, 25, 26, 27, 28, 29, 30], [0, 1, 2, 3, 4, 5, 6, 7, 8, 9, 10, 11, 12, 13, 14, 15, 16, 17, 18, 19, 20, 21, 22, 23, 24, 25, 26, 27, 28, 29, 30, 31], [0, 1, 2, 3, 4, 5, 6, 7, 8, 9, 10, 11, 12, 13, 14, 15, 16, 17, 18, 19, 20, 21, 22, 23, 24, 25, 26, 27, 28, 29, 30, 31, 32]] [0, 2, 46] 1 [] [hB 9 (decide_eq_false h13)] ?_
 exact pf false h21
/-! spec_l01Keys: function 42 -/
def spec_l01Keys.f (k : Nat) : Option (List ByteArray) := some ([(⟨#[77, 79, 68, 85, 76, 69]⟩ : ByteArray), (⟨#[73, 77, 80, 79, 82, 84]⟩ : ByteArray), (⟨#[67, 79, 78, 83, 84]⟩ : ByteArray), (⟨#[86, 65, 82]⟩ : ByteArray), (⟨#[80, 82, 79, 67, 69, 68, 85, 82, 69]⟩ : ByteArray), (⟨#[66, 69, 71, 73, 78]⟩ : ByteArray), (⟨#[69, 78, 68]⟩ : ByteArray), (⟨#[73, 70]⟩ : ByteArray), (⟨#[84, 72, 69, 78]⟩ : ByteArray), (⟨#[69, 76, 83, 73, 70]⟩ : ByteArray), (⟨#[69, 76, 83, 69]⟩ : ByteArray), (⟨#[87, 72, 73, 76, 69]⟩ : ByteArray), (⟨#[68, 79]⟩ : ByteArray), (⟨#[82, 69, 84, 85, 82, 78]⟩ : ByteArray), (⟨#[79, 82]⟩ : ByteArray), (⟨#[68, 73, 86]⟩ : ByteArray), (⟨#[77, 79, 68]⟩ : ByteArray), (⟨#[84, 82, 85, 69]⟩ : ByteArray), (⟨#[70, 65, 76, 83, 69]⟩ : ByteArray), (⟨#[65, 82, 82, 65, 89]⟩ : ByteArray), (⟨#[79, 70]⟩ : ByteArray), (⟨#[73, 78, 84, 69, 71, 69, 82]⟩ : ByteArray), (⟨#[66, 79, 79, 76, 69, 65, 78]⟩ : ByteArray), (⟨#[67, 72, 65, 82]⟩ : ByteArray), (⟨#[87, 82, 73, 84, 69]⟩ : ByteArray), (⟨#[82, 69, 65, 68]⟩ : ByteArray), (⟨#[79, 82, 68]⟩ : ByteArray), (⟨#[67, 72, 82]⟩ : ByteArray), (⟨#[76, 69, 78]⟩ : ByteArray)] : List ByteArray)
theorem spec_l01Keys.fn {k : Nat} {r : (List ByteArray)} (H : spec_l01Keys.f k  = some r) : Fn Tryz.prog 42 [] [] (o1 (.own 9 (List.map eS r))) [] := by
 refine Fn.bd [0] Tryz.func42 ?_
 refine rn [] 0 [] [] ?_
 refine rn [0] 0 [] [] ?_
 refine Tri.ret ?_
 obtain rfl := si H;exact eR
/-! spec_l01Place: function 41 -/
def spec_l01Place.l1 : Nat → (List ByteArray) → ByteArray → Int → Option (Int ⊕ Unit)
  | 0, _, _, _ => none
  | k + 1, a0, a1, z5 => if z5 < (a0.length : Int) then ((at? a0 z5).bind fun x7 => if x7 = a1 then (some (.inl z5)) else (spec_l01Place.l1 k a0 a1 (w64 (z5 + 1)))) else (some (.inr ()))
def spec_l01Place.e2 (k : Nat) (a0 : (List ByteArray)) (a1 : ByteArray) : Option (Int ⊕ Unit) := spec_l01Place.l1 k a0 a1 0
def spec_l01Place.f (k : Nat) (a0 : (List ByteArray)) (a1 : ByteArray) : Option Int := (spec_l01Place.e2 k a0 a1).bind fun v => match v with | .inl r => some r | .inr _ => some (-1)
theorem spec_l01Place.fn {k : Nat} {a0 : (List ByteArray)} {a1 : ByteArray} {r : Int} (H : spec_l01Place.f k a0 a1 = some r) : Fn Tryz.prog 41 [o1 (.sl 1 (List.map eS a0)), oS a1] [] (oI r) [] := by
 refine Fn.bd [4] Tryz.func41 ?_
 refine rn [0, 1] 0 [] [] ?_
 refine jr H (fun _ => ⟨19, [], [], 0, []⟩) (fun _ H => ?_) fun v12 h11 H => ?_
 ·refine rn [4] 0 [] [] ?_
  refine Tri.ret ?_
  obtain rfl := si H;exact eR
 refine rn [0, 1, 5] 0 [] [] ?_
 refine bl ?_
 refine lo Int k (fun k x => spec_l01Place.l1 k a0 a1 x) (fun x => ⟨19, [(0, o1 (.sl 1 (List.map eS a0))), (1, oS a1), (5, oI x)], [], 0, []⟩) 0 h11 fun k z5 h11 IH10 => ?_
 rw [spec_l01Place.l1.eq_2] at h11
 refine sq ?_
 refine rn [0, 1, 5, 9] 0 [] [hL 2 eS a0] ?_
 refine ci h11 (fun h6 h11 => ?_) fun h6 h11 => ?_
 ·refine sk ?_
  refine sq ?_
  refine bl ?_
  obtain ⟨x7, h8, h11⟩ := bs h11
  refine rn [0, 1, 5, 17] 0 [] [hE 2 eS h8] ?_
  refine ci h11 (fun h9 h11 => ?_) fun h9 h11 => ?_
  ·refine rn [4] 0 [] [] ?_
   refine Tri.ret ?_
   obtain rfl := si h11;obtain rfl := si H;exact eR
  refine sk ?_
  refine rl [0, 1, 5] 0 [] [] ?_
  exact lb IH10 (w64 (z5 + 1)) h11
 refine fx [] 0 [] ?_
 refine xi ?_
 exact pe () h11
/-! spec_IsKey: function 22 -/
def spec_IsKey.f (k : Nat) (a0 : ByteArray) : Option Bool := (spec_l01Keys.f k).bind fun r1 => (spec_l01Place.f k r1 a0).bind fun r3 => some (decide ((0 : Int) ≤ r3))
theorem spec_IsKey.fn {k : Nat} {a0 : ByteArray} {r : Bool} (H : spec_IsKey.f k a0 = some r) : Fn Tryz.prog 22 [oS a0] [] (oB r) [] := by
 refine Fn.bd [2] Tryz.func22 ?_
 refine rn [0] 0 [] [] ?_
 obtain ⟨r1, h2, H⟩ := bs H
 obtain ⟨r3, h4, H⟩ := bs H
 refine rn [2] 0 [] [hC 0 (spec_l01Keys.fn h2) (show (List.all [.own 9 (List.map eS r1)] PC.flatB) = true by simp [PC.flatB, PC.scalar, cI, cK, cB, cS, eS]), hC 2 (spec_l01Place.fn h4)] ?_
 refine Tri.ret ?_
 obtain rfl := si H;exact eR
/-! spec_l01Utf8: function 43 -/
def spec_l01Utf8.f (k : Nat) (a0 : Int) : Option ByteArray := if a0 < 128 then (some (strOfNums ([IntKind.u8.wrap (a0)] : List Int))) else (if a0 < 2048 then (some (strOfNums ([IntKind.u8.wrap (w64 (192 + (w64 (Int.tdiv a0 64)))), IntKind.u8.wrap (w64 (128 + (Int.tmod a0 64)))] : List Int))) else (if a0 < 65536 then (some (strOfNums ([IntKind.u8.wrap (w64 (224 + (w64 (Int.tdiv a0 4096)))), IntKind.u8.wrap (w64 (128 + (Int.tmod (w64 (Int.tdiv a0 64)) 64))), IntKind.u8.wrap (w64 (128 + (Int.tmod a0 64)))] : List Int))) else (some (strOfNums ([IntKind.u8.wrap (w64 (240 + (w64 (Int.tdiv a0 262144)))), IntKind.u8.wrap (w64 (128 + (Int.tmod (w64 (Int.tdiv a0 4096)) 64))), IntKind.u8.wrap (w64 (128 + (Int.tmod (w64 (Int.tdiv a0 64)) 64))), IntKind.u8.wrap (w64 (128 + (Int.tmod a0 64)))] : List Int)))))
theorem spec_l01Utf8.fn {k : Nat} {a0 : Int} {r : ByteArray} (H : spec_l01Utf8.f k a0 = some r) : Fn Tryz.prog 43 [oI a0] [] (oS r) [] := by
 refine Fn.bd [2] Tryz.func43 ?_
 refine rn [0] 0 [] [] ?_
 refine sq ?_
 refine bl ?_
 refine rn [0, 3] 0 [] [] ?_
 refine ci H (fun h1 H => ?_) fun h1 H => ?_
 ·refine rn [2] 0 [] [q1 3 (.nums ([IntKind.u8.wrap (a0)] : List Int)) (rfl : List.map (eK .u8) ([IntKind.u8.wrap (a0)] : List Int) = List.map (fun n => [PC.sc (.int .u8 n)]) ([IntKind.u8.wrap (a0)] : List Int))] ?_
  refine Tri.ret ?_
  obtain rfl := si H;exact eR
 refine rn [0, 10] 0 [] [] ?_
 refine ci H (fun h2 H => ?_) fun h2 H => ?_
 ·refine rn [2] 0 [] [p1 (show (64 : Int) ≠ 0 by decide), p1 (show (64 : Int) ≠ 0 by decide), q1 9 (.nums ([IntKind.u8.wrap (w64 (192 + (w64 (Int.tdiv a0 64)))), IntKind.u8.wrap (w64 (128 + (Int.tmod a0 64)))] : List Int)) (rfl : List.map (eK .u8) ([IntKind.u8.wrap (w64 (192 + (w64 (Int.tdiv a0 64)))), IntKind.u8.wrap (w64 (128 + (Int.tmod a0 64)))] : List Int) = List.map (fun n => [PC.sc (.int .u8 n)]) ([IntKind.u8.wrap (w64 (192 + (w64 (Int.tdiv a0 64)))), IntKind.u8.wrap (w64 (128 + (Int.tmod a0 64)))] : List Int))] ?_
  refine Tri.ret ?_
  obtain rfl := si H;exact eR
 refine rn [0, 23] 0 [] [] ?_
 refine ci H (fun h3 H => ?_) fun h3 H => ?_
 ·refine rn [2] 0 [] [p1 (show (4096 : Int) ≠ 0 by decide), p1 (show (64 : Int) ≠ 0 by decide), p1 (show (64 : Int) ≠ 0 by decide), p1 (show (64 : Int) ≠ 0 by decide), q1 14 (.nums ([IntKind.u8.wrap (w64 (224 + (w64 (Int.tdiv a0 4096)))), IntKind.u8.wrap (w64 (128 + (Int.tmod (w64 (Int.tdiv a0 64)) 64))), IntKind.u8.wrap (w64 (128 + (Int.tmod a0 64)))] : List Int)) (rfl : List.map (eK .u8) ([IntKind.u8.wrap (w64 (224 + (w64 (Int.tdiv a0 4096)))), IntKind.u8.wrap (w64 (128 + (Int.tmod (w64 (Int.tdiv a0 64)) 64))), IntKind.u8.wrap (w64 (128 + (Int.tmod a0 64)))] : List Int) = List.map (fun n => [PC.sc (.int .u8 n)]) ([IntKind.u8.wrap (w64 (224 + (w64 (Int.tdiv a0 4096)))), IntKind.u8.wrap (w64 (128 + (Int.tmod (w64 (Int.tdiv a0 64)) 64))), IntKind.u8.wrap (w64 (128 + (Int.tmod a0 64)))] : List Int))] ?_
  refine Tri.ret ?_
  obtain rfl := si H;exact eR
 refine sk ?_
 refine rn [2] 0 [] [p1 (show (262144 : Int) ≠ 0 by decide), p1 (show (4096 : Int) ≠ 0 by decide), p1 (show (64 : Int) ≠ 0 by decide), p1 (show (64 : Int) ≠ 0 by decide), p1 (show (64 : Int) ≠ 0 by decide), p1 (show (64 : Int) ≠ 0 by decide), q1 19 (.nums ([IntKind.u8.wrap (w64 (240 + (w64 (Int.tdiv a0 262144)))), IntKind.u8.wrap (w64 (128 + (Int.tmod (w64 (Int.tdiv a0 4096)) 64))), IntKind.u8.wrap (w64 (128 + (Int.tmod (w64 (Int.tdiv a0 64)) 64))), IntKind.u8.wrap (w64 (128 + (Int.tmod a0 64)))] : List Int)) (rfl : List.map (eK .u8) ([IntKind.u8.wrap (w64 (240 + (w64 (Int.tdiv a0 262144)))), IntKind.u8.wrap (w64 (128 + (Int.tmod (w64 (Int.tdiv a0 4096)) 64))), IntKind.u8.wrap (w64 (128 + (Int.tmod (w64 (Int.tdiv a0 64)) 64))), IntKind.u8.wrap (w64 (128 + (Int.tmod a0 64)))] : List Int) = List.map (fun n => [PC.sc (.int .u8 n)]) ([IntKind.u8.wrap (w64 (240 + (w64 (Int.tdiv a0 262144)))), IntKind.u8.wrap (w64 (128 + (Int.tmod (w64 (Int.tdiv a0 4096)) 64))), IntKind.u8.wrap (w64 (128 + (Int.tmod (w64 (Int.tdiv a0 64)) 64))), IntKind.u8.wrap (w64 (128 + (Int.tmod a0 64)))] : List Int))] ?_
 refine Tri.ret ?_
 obtain rfl := si H;exact eR
/-! spec_l01Rune: function 24 -/
def spec_l01Rune.e1 (k : Nat) (a0 : ByteArray) (a1 : Int) (z39 : Int) : Option Bool := if z39 ≤ 4 then (some (decide ((w64 (a1 + z39)) ≤ (a0.size : Int)))) else (some false)
def spec_l01Rune.e2 (k : Nat) (a0 : ByteArray) (a1 : Int) : Option Int := if (w64 (byteAt a0 a1)) < 128 then (some (w64 (byteAt a0 a1))) else (if (240 : Int) ≤ (w64 (byteAt a0 a1)) then (some (Int.tmod (w64 (byteAt a0 a1)) 8)) else (if (224 : Int) ≤ (w64 (byteAt a0 a1)) then (some (Int.tmod (w64 (byteAt a0 a1)) 16)) else (some (Int.tmod (w64 (byteAt a0 a1)) 32))))
def spec_l01Rune.l3 : Nat → ByteArray → Int → Int → Int → Int → Option Int
  | 0, _, _, _, _, _ => none
  | k + 1, a0, a1, z39, z56, z57 => if z57 < z39 then (if (0 : Int) ≤ (w64 (a1 + z57)) then (if (w64 (a1 + z57)) < (a0.size : Int) then (spec_l01Rune.l3 k a0 a1 z39 (w64 ((w64 (z56 * 64)) + (Int.tmod (w64 (byteAt a0 (w64 (a1 + z57)))) 64))) (w64 (z57 + 1))) else none) else none) else (some z56)
def spec_l01Rune.e4 (k : Nat) (a0 : ByteArray) (a1 : Int) (z39 : Int) (y50 : Int) : Option Int := spec_l01Rune.l3 k a0 a1 z39 y50 1
def spec_l01Rune.e5 (k : Nat) (a0 : ByteArray) (a1 : Int) (z39 : Int) (y62 : Int) : Option Bool := (spec_CharOK.f k y62).bind fun r65 => if r65 = true then ((spec_l01Utf8.f k y62).bind fun r68 => if a1 ≤ w64 (a1 + z39) then (if (w64 (a1 + z39)) ≤ (a0.size : Int) then (some (decide (r68 = (a0.extract (Int.toNat a1) (Int.toNat (w64 (a1 + z39))))))) else none) else none) else (some false)
def spec_l01Rune.e6 (k : Nat) (a0 : ByteArray) (a1 : Int) (z39 : Int) : Option ((Int × Int) ⊕ Unit) := if (0 : Int) ≤ a1 then (if a1 < (a0.size : Int) then ((spec_l01Rune.e2 k a0 a1).bind fun y50 => (spec_l01Rune.e4 k a0 a1 z39 y50).bind fun y62 => (spec_l01Rune.e5 k a0 a1 z39 y62).bind fun y72 => if y72 = true then (some (.inl (y62, z39))) else (some (.inr ()))) else none) else none
def spec_l01Rune.l7 : Nat → ByteArray → Int → Int → Option ((Int × Int) ⊕ Unit)
  | 0, _, _, _ => none
  | k + 1, a0, a1, z39 => (spec_l01Rune.e1 k a0 a1 z39).bind fun y41 => if y41 = true then ((spec_l01Rune.e6 k a0 a1 z39).bind fun v => match v with | .inl r => some (.inl r) | .inr _ => spec_l01Rune.l7 k a0 a1 (w64 (z39 + 1))) else (some (.inr ()))
def spec_l01Rune.e8 (k : Nat) (a0 : ByteArray) (a1 : Int) : Option ((Int × Int) ⊕ Unit) := spec_l01Rune.l7 k a0 a1 1
def spec_l01Rune.f (k : Nat) (a0 : ByteArray) (a1 : Int) : Option (Int × Int) := (spec_l01Rune.e8 k a0 a1).bind fun v => match v with | .inl r => some r | .inr _ => some (0, 0)
theorem spec_l01Rune.fn {k : Nat} {a0 : ByteArray} {a1 : Int} {r : (Int × Int)} (H : spec_l01Rune.f k a0 a1 = some r) : Fn Tryz.prog 24 [oS a0, oI a1] [] (tp [none, none] [cI r.1, cI r.2]) [] := by
 refine Fn.bd [4, 5] Tryz.func24 ?_
 refine rn [0, 1] 0 [] [] ?_
 refine jr H (fun _ => ⟨72, [], [], 0, []⟩) (fun _ H => ?_) fun v80 h79 H => ?_
 ·refine rn [4, 5] 0 [] [] ?_
  refine Tri.ret ?_
  obtain rfl := si H;exact eR
 refine rn [0, 1, 6] 0 [] [] ?_
 refine bl ?_
 refine lo Int k (fun k x => spec_l01Rune.l7 k a0 a1 x) (fun x => ⟨72, [(0, oS a0), (1, oI a1), (6, oI x)], [], 0, []⟩) 1 h79 fun k z39 h79 IH78 => ?_
 rw [spec_l01Rune.l7.eq_2] at h79
 refine sq ?_
 refine jo h79 (fun y41 => ⟨72, [(0, oS a0), (1, oI a1), (6, oI z39), (19, oB y41)], [], 0, []⟩) (fun y41 h79 => ?_) fun v43 h42 h79 => ?_
 ·refine cb h79 (fun h44 h79 => ?_) fun h44 h79 => ?_
  ·refine sk ?_
   refine jr h79 (fun _ => ⟨72, [(0, oS a0), (1, oI a1), (6, oI z39)], [], 0, []⟩) (fun _ h79 => ?_) fun v77 h76 h79 => ?_
   ·refine rl [0, 1, 6] 0 [] [] ?_
    exact lb IH78 (w64 (z39 + 1)) h79
   refine bl ?_
   refine rn [0, 1, 6] 0 [] [] ?_
   obtain ⟨h45, h76⟩ := nd h76
   obtain ⟨h46, h76⟩ := nd h76
   refine rn [0, 1, 6, 8] 0 [] [p2 h45 h46] ?_
   refine jo h76 (fun y50 => ⟨72, [(0, oS a0), (1, oI a1), (6, oI z39), (7, oI y50)], [], 0, []⟩) (fun y50 h76 => ?_) fun v52 h51 h76 => ?_
   ·refine jo h76 (fun y62 => ⟨72, [(0, oS a0), (1, oI a1), (6, oI z39), (7, oI y62)], [], 0, []⟩) (fun y62 h76 => ?_) fun v64 h63 h76 => ?_
    ·refine jo h76 (fun y72 => ⟨72, [(0, oS a0), (1, oI a1), (6, oI z39), (7, oI y62), (69, oB y72)], [], 0, []⟩) (fun y72 h76 => ?_) fun v74 h73 h76 => ?_
     ·refine cb h76 (fun h75 h76 => ?_) fun h75 h76 => ?_
      ·refine rn [4, 5] 0 [] [] ?_
       refine Tri.ret ?_
       obtain rfl := si h76;obtain rfl := si h79;obtain rfl := si H;exact eR
      refine fx [0, 1, 6] 0 [] ?_
      refine sk ?_
      exact pe () h76
     obtain ⟨r65, h66, h73⟩ := bs h73
     rcases iteb_some h73 with ⟨h67, h73⟩ | ⟨h67, h73⟩
     ·obtain ⟨r68, h69, h73⟩ := bs h73
      obtain ⟨h70, h73⟩ := nd h73
      obtain ⟨h71, h73⟩ := nd h73
      refine dl hmix 11 [[], [0], [0, 1], [0, 1, 2], [0, 1, 2, 3], [0, 1, 2], [0, 1, 2], [0, 1, 2], [0, 1, 2], [0, 1, 2, 7, 8], [0, 1, 2, 5, 6, 7, 8, 9], [0, 1, 2, 3, 4, 5, 6, 7, 8, 9, 10], [0, 1, 2, 3, 4, 5, 6, 7, 8, 9, 10, 11]] [0, 1, 6, 7, 69] 0 [] [hC 1 (spec_CharOK.fn h66), hB 1 h67, hC 4 (spec_l01Utf8.fn h69), p3 h45 h70 h71] ?_
      exact pf (decide (r68 = (a0.extract (Int.toNat a1) (Int.toNat (w64 (a1 + z39)))))) h73
     refine dl hmix 11 [[], [0], [0, 1], [0, 1, 2], [0, 1, 2, 3], [0, 1, 2], [0, 1, 2], [0, 1, 2], [0, 1, 2], [0, 1, 2, 7, 8], [0, 1, 2, 5, 6, 7, 8, 9], [0, 1, 2, 3, 4, 5, 6, 7, 8, 9, 10], [0, 1, 2, 3, 4, 5, 6, 7, 8, 9, 10, 11]] [0, 1, 6, 7, 69] 0 [] [hC 1 (spec_CharOK.fn h66), hB 1 h67] ?_
     exact pf false h73
    refine rn [0, 1, 6, 7, 9] 0 [] [] ?_
    refine bl ?_
    refine lo (Int × Int) k (fun k x => spec_l01Rune.l3 k a0 a1 z39 x.1 x.2) (fun x => ⟨72, [(0, oS a0), (1, oI a1), (6, oI z39), (7, oI x.1), (9, oI x.2)], [], 0, []⟩) (y50, 1) h63 fun k x h63 IH61 => ?_
    obtain ⟨z56, z57⟩ := x
    rw [spec_l01Rune.l3.eq_2] at h63
    refine sq ?_
    refine rn [0, 1, 6, 7, 9, 44] 0 [] [] ?_
    refine ci h63 (fun h58 h63 => ?_) fun h58 h63 => ?_
    ·refine sk ?_
     refine sq ?_
     refine bl ?_
     obtain ⟨h59, h63⟩ := nd h63
     obtain ⟨h60, h63⟩ := nd h63
     refine rl [0, 1, 6, 7, 9] 0 [] [p2 h59 h60, p1 (show (64 : Int) ≠ 0 by decide)] ?_
     refine rl [0, 1, 6, 7, 9] 0 [] [] ?_
     exact lb IH61 (w64 ((w64 (z56 * 64)) + (Int.tmod (w64 (byteAt a0 (w64 (a1 + z57)))) 64)), w64 (z57 + 1)) h63
    refine fx [0, 1, 6, 7] 0 [] ?_
    refine xi ?_
    exact pf z56 h63
   refine bl ?_
   refine rn [0, 1, 6, 8, 28] 0 [] [] ?_
   refine ci h51 (fun h47 h51 => ?_) fun h47 h51 => ?_
   ·refine rl [0, 1, 6, 7] 0 [] [] ?_
    exact pf (w64 (byteAt a0 a1)) h51
   refine rn [0, 1, 6, 8, 32] 0 [] [] ?_
   refine ci h51 (fun h48 h51 => ?_) fun h48 h51 => ?_
   ·refine rl [0, 1, 6, 7] 0 [] [p1 (show (8 : Int) ≠ 0 by decide)] ?_
    exact pf (Int.tmod (w64 (byteAt a0 a1)) 8) h51
   refine rn [0, 1, 6, 8, 37] 0 [] [] ?_
   refine ci h51 (fun h49 h51 => ?_) fun h49 h51 => ?_
   ·refine rl [0, 1, 6, 7] 0 [] [p1 (show (16 : Int) ≠ 0 by decide)] ?_
    exact pf (Int.tmod (w64 (byteAt a0 a1)) 16) h51
   refine rl [0, 1, 6, 7] 0 [] [p1 (show (32 : Int) ≠ 0 by decide)] ?_
   exact pf (Int.tmod (w64 (byteAt a0 a1)) 32) h51
  refine fx [] 0 [] ?_
  refine xi ?_
  exact pe () h79
 rcases ite_some h42 with ⟨h40, h42⟩ | ⟨h40, h42⟩
 ·refine rl [0, 1, 6, 19] 0 [] [hB 1 (decide_eq_true h40)] ?_
  exact pf (decide ((w64 (a1 + z39)) ≤ (a0.size : Int))) h42
 refine rl [0, 1, 6, 19] 0 [] [hB 1 (decide_eq_false h40)] ?_
 exact pf false h42
/-! spec_l01Scanner__sign_2: function 25 -/
def spec_l01Scanner__sign_2.e1 (k : Nat) (b0 : S65b163) (z15 : Int) : Option Bool := (at? ([(⟨#[58, 61]⟩ : ByteArray), (⟨#[60, 61]⟩ : ByteArray), (⟨#[62, 61]⟩ : ByteArray), (⟨#[61]⟩ : ByteArray), (⟨#[35]⟩ : ByteArray), (⟨#[60]⟩ : ByteArray), (⟨#[62]⟩ : ByteArray), (⟨#[43]⟩ : ByteArray), (⟨#[45]⟩ : ByteArray), (⟨#[42]⟩ : ByteArray), (⟨#[40]⟩ : ByteArray), (⟨#[41]⟩ : ByteArray), (⟨#[91]⟩ : ByteArray), (⟨#[93]⟩ : ByteArray), (⟨#[44]⟩ : ByteArray), (⟨#[59]⟩ : ByteArray), (⟨#[58]⟩ : ByteArray), (⟨#[46]⟩ : ByteArray), (⟨#[38]⟩ : ByteArray), (⟨#[126]⟩ : ByteArray)] : List ByteArray) z15).bind fun x17 => if (w64 (b0.f1 + (x17.size : Int))) ≤ (b0.f0.size : Int) then (if (0 : Int) ≤ b0.f1 then (if b0.f1 ≤ w64 (b0.f1 + (x17.size : Int)) then (some (decide ((b0.f0.extract (Int.toNat b0.f1) (Int.toNat (w64 (b0.f1 + (x17.size : Int))))) = x17))) else none) else none) else (some false)
def spec_l01Scanner__sign_2.l2 : Nat → S65b163 → Int → Option ((Int × (List STok) × Int × Int) ⊕ Unit)
  | 0, _, _ => none
  | k + 1, b0, z15 => if z15 < (([(⟨#[58, 61]⟩ : ByteArray), (⟨#[60, 61]⟩ : ByteArray), (⟨#[62, 61]⟩ : ByteArray), (⟨#[61]⟩ : ByteArray), (⟨#[35]⟩ : ByteArray), (⟨#[60]⟩ : ByteArray), (⟨#[62]⟩ : ByteArray), (⟨#[43]⟩ : ByteArray), (⟨#[45]⟩ : ByteArray), (⟨#[42]⟩ : ByteArray), (⟨#[40]⟩ : ByteArray), (⟨#[41]⟩ : ByteArray), (⟨#[91]⟩ : ByteArray), (⟨#[93]⟩ : ByteArray), (⟨#[44]⟩ : ByteArray), (⟨#[59]⟩ : ByteArray), (⟨#[58]⟩ : ByteArray), (⟨#[46]⟩ : ByteArray), (⟨#[38]⟩ : ByteArray), (⟨#[126]⟩ : ByteArray)] : List ByteArray).length : Int) then ((spec_l01Scanner__sign_2.e1 k b0 z15).bind fun y22 => if y22 = true then ((at? ([(⟨#[58, 61]⟩ : ByteArray), (⟨#[60, 61]⟩ : ByteArray), (⟨#[62, 61]⟩ : ByteArray), (⟨#[61]⟩ : ByteArray), (⟨#[35]⟩ : ByteArray), (⟨#[60]⟩ : ByteArray), (⟨#[62]⟩ : ByteArray), (⟨#[43]⟩ : ByteArray), (⟨#[45]⟩ : ByteArray), (⟨#[42]⟩ : ByteArray), (⟨#[40]⟩ : ByteArray), (⟨#[41]⟩ : ByteArray), (⟨#[91]⟩ : ByteArray), (⟨#[93]⟩ : ByteArray), (⟨#[44]⟩ : ByteArray), (⟨#[59]⟩ : ByteArray), (⟨#[58]⟩ : ByteArray), (⟨#[46]⟩ : ByteArray), (⟨#[38]⟩ : ByteArray), (⟨#[126]⟩ : ByteArray)] : List ByteArray) z15).bind fun x26 => (spec_l01Scanner__add_2.f k 5 0 x26 b0.f1 (⟨b0.f0, b0.f1, b0.f2, b0.f3, b0.f4⟩ : S65b163)).bind fun r28 => some (.inl (w64 (b0.f1 + (x26.size : Int)), r28.1, r28.2.1, r28.2.2))) else (spec_l01Scanner__sign_2.l2 k b0 (w64 (z15 + 1)))) else (some (.inr ()))
def spec_l01Scanner__sign_2.e3 (k : Nat) (b0 : S65b163) : Option ((Int × (List STok) × Int × Int) ⊕ Unit) := spec_l01Scanner__sign_2.l2 k b0 0
def spec_l01Scanner__sign_2.f (k : Nat) (b0 : S65b163) : Option (Int × (List STok) × Int × Int) := (spec_l01Scanner__sign_2.e3 k b0).bind fun v => match v with | .inl r => some r | .inr _ => (spec_l01Scanner__fail_2.f k 4 b0.f1 (⟨b0.f0, b0.f1, b0.f2, b0.f3, b0.f4⟩ : S65b163)).bind fun r33 => some (b0.f1, b0.f2, r33.1, r33.2)
theorem spec_l01Scanner__sign_2.fn {k : Nat} {b0 : S65b163} {r : (Int × (List STok) × Int × Int)} (H : spec_l01Scanner__sign_2.f k b0 = some r) : FnG Tryz.prog 25 [o1 (.ref 0 0)] [] [[cS b0.f0, cI b0.f1, .own 30 (List.map eSTok b0.f2), cI b0.f3, cI b0.f4]] (tp [] []) [] [[cS b0.f0, cI r.1, .own 30 (List.map eSTok r.2.1), cI r.2.2.1, cI r.2.2.2]] := by
 refine FnG.body (ts := []) Tryz.func25 rfl rfl (by decide) (by decide) (Nat.le_of_ble_eq_true rfl) rfl (Nat.le_of_ble_eq_true rfl) ?_
 refine rn [0, 2] 1 [] [] ?_
 refine jr H (fun _ => ⟨81, [(0, o1 (.ref 0 0))], [[cS b0.f0, cI b0.f1, .own 30 (List.map eSTok b0.f2), cI b0.f3, cI b0.f4]], 1, []⟩) (fun _ H => ?_) fun v32 h31 H => ?_
 ·obtain ⟨r33, h34, H⟩ := bs H
  refine rl [] 1 [] [hG 5 [] [0] none (spec_l01Scanner__fail_2.fn h34)] ?_
  obtain rfl := si H;exact endsG (.inl rfl) (by kernel_rfl)
 refine rn [0, 2, 3] 1 [] [] ?_
 refine bl ?_
 refine lo Int k (fun k x => spec_l01Scanner__sign_2.l2 k b0 x) (fun x => ⟨81, [(0, o1 (.ref 0 0)), (2, o1 (.own 9 (List.map eS ([(⟨#[58, 61]⟩ : ByteArray), (⟨#[60, 61]⟩ : ByteArray), (⟨#[62, 61]⟩ : ByteArray), (⟨#[61]⟩ : ByteArray), (⟨#[35]⟩ : ByteArray), (⟨#[60]⟩ : ByteArray), (⟨#[62]⟩ : ByteArray), (⟨#[43]⟩ : ByteArray), (⟨#[45]⟩ : ByteArray), (⟨#[42]⟩ : ByteArray), (⟨#[40]⟩ : ByteArray), (⟨#[41]⟩ : ByteArray), (⟨#[91]⟩ : ByteArray), (⟨#[93]⟩ : ByteArray), (⟨#[44]⟩ : ByteArray), (⟨#[59]⟩ : ByteArray), (⟨#[58]⟩ : ByteArray), (⟨#[46]⟩ : ByteArray), (⟨#[38]⟩ : ByteArray), (⟨#[126]⟩ : ByteArray)] : List ByteArray)))), (3, oI x)], [[cS b0.f0, cI b0.f1, .own 30 (List.map eSTok b0.f2), cI b0.f3, cI b0.f4]], 1, []⟩) 0 h31 fun k z15 h31 IH30 => ?_
 rw [spec_l01Scanner__sign_2.l2.eq_2] at h31
 refine sq ?_
 refine rn [0, 2, 3, 8] 1 [] [hL 2 eS ([(⟨#[58, 61]⟩ : ByteArray), (⟨#[60, 61]⟩ : ByteArray), (⟨#[62, 61]⟩ : ByteArray), (⟨#[61]⟩ : ByteArray), (⟨#[35]⟩ : ByteArray), (⟨#[60]⟩ : ByteArray), (⟨#[62]⟩ : ByteArray), (⟨#[43]⟩ : ByteArray), (⟨#[45]⟩ : ByteArray), (⟨#[42]⟩ : ByteArray), (⟨#[40]⟩ : ByteArray), (⟨#[41]⟩ : ByteArray), (⟨#[91]⟩ : ByteArray), (⟨#[93]⟩ : ByteArray), (⟨#[44]⟩ : ByteArray), (⟨#[59]⟩ : ByteArray), (⟨#[58]⟩ : ByteArray), (⟨#[46]⟩ : ByteArray), (⟨#[38]⟩ : ByteArray), (⟨#[126]⟩ : ByteArray)] : List ByteArray)] ?_
 refine ci h31 (fun h16 h31 => ?_) fun h16 h31 => ?_
 ·refine sk ?_
  refine sq ?_
  refine bl ?_
  refine jo h31 (fun y22 => ⟨81, [(0, o1 (.ref 0 0)), (2, o1 (.own 9 (List.map eS ([(⟨#[58, 61]⟩ : ByteArray), (⟨#[60, 61]⟩ : ByteArray), (⟨#[62, 61]⟩ : ByteArray), (⟨#[61]⟩ : ByteArray), (⟨#[35]⟩ : ByteArray), (⟨#[60]⟩ : ByteArray), (⟨#[62]⟩ : ByteArray), (⟨#[43]⟩ : ByteArray), (⟨#[45]⟩ : ByteArray), (⟨#[42]⟩ : ByteArray), (⟨#[40]⟩ : ByteArray), (⟨#[41]⟩ : ByteArray), (⟨#[91]⟩ : ByteArray), (⟨#[93]⟩ : ByteArray), (⟨#[44]⟩ : ByteArray), (⟨#[59]⟩ : ByteArray), (⟨#[58]⟩ : ByteArray), (⟨#[46]⟩ : ByteArray), (⟨#[38]⟩ : ByteArray), (⟨#[126]⟩ : ByteArray)] : List ByteArray)))), (3, oI z15), (52, oB y22)], [[cS b0.f0, cI b0.f1, .own 30 (List.map eSTok b0.f2), cI b0.f3, cI b0.f4]], 1, []⟩) (fun y22 h31 => ?_) fun v24 h23 h31 => ?_
  ·refine cb h31 (fun h25 h31 => ?_) fun h25 h31 => ?_
   ·obtain ⟨x26, h27, h31⟩ := bs h31
    obtain ⟨r28, h29, h31⟩ := bs h31
    refine dn hmix 9 [[], [], [], [1, 2], [1, 2, 3], [], [5], [5, 6], [5, 6, 7], [0, 1, 2, 3, 4, 5, 6, 7, 8]] [0, 2, 3] 1 [] [hE 3 eS h27, hF 4 eS h27, hG 9 [] [0] none (spec_l01Scanner__add_2.fn h29)] ?_
    refine dn hmix 9 [[], [0], [0, 1], [0, 1, 2], [], [], [4, 5], [4, 5, 6], [4, 5, 6, 7], [0, 1, 2, 3, 4, 5, 6, 7, 8], [0, 1, 2, 3, 4, 5, 6, 7, 8, 9], [0, 1, 2, 3, 4, 5, 6, 7, 8, 9, 10], [0, 1, 2, 3, 4, 5, 6, 7, 8, 9, 10, 11]] [] 1 [] [hE 6 eS h27, hF 7 eS h27] ?_
    refine Tri.ret ?_
    obtain rfl := si h31;obtain rfl := si H;exact endsG (.inr rfl) (by kernel_rfl)
   refine sk ?_
   refine rl [0, 2, 3] 1 [] [] ?_
   exact lb IH30 (w64 (z15 + 1)) h31
  obtain ⟨x17, h18, h23⟩ := bs h23
  rcases ite_some h23 with ⟨h19, h23⟩ | ⟨h19, h23⟩
  ·obtain ⟨h20, h23⟩ := nd h23
   obtain ⟨h21, h23⟩ := nd h23
   refine dl hmix 40 [[], [0], [0, 1], [0, 1, 2], [], [], [4, 5], [4, 5, 6], [4, 5, 6, 7], [0, 1, 2, 3, 4, 5, 6, 7, 8], [], [10], [10, 11], [10, 11, 12], [10, 11, 12, 13], [0, 1, 2, 3, 4, 5, 6, 7, 8, 9, 10, 11, 12, 13, 14], [0, 1, 2, 3, 4, 5, 6, 7, 8, 9, 10, 11, 12, 13, 14, 15], [0, 1, 2, 3, 4, 5, 6, 7, 8, 9, 10, 11, 12, 13, 14, 15, 16], [0, 1, 2, 3, 4, 5, 6, 7, 8, 9, 10, 11, 12, 13, 14, 15, 16, 17], [0, 1, 2, 3, 4, 5, 6, 7, 8, 9, 10, 11, 12, 13, 14, 15, 16, 17, 18], [0, 1, 2, 3, 4, 5, 6, 7, 8, 9, 10, 11, 12, 13, 14, 15, 16, 17, 18, 19], [0, 1, 2, 3, 4, 5, 6, 7, 8, 9, 10, 11, 12, 13, 14, 15, 16], [0, 1, 2, 3, 4, 5, 6, 7, 8, 9, 10, 11, 12, 13, 14, 15, 16, 21], [0, 1, 2, 3, 4, 5, 6, 7, 8, 9, 10, 11, 12, 13, 14, 15, 16, 21, 22], [0, 1, 2, 3, 4, 5, 6, 7, 8, 9, 10, 11, 12, 13, 14, 15, 16, 21, 22, 23], [0, 1, 2, 3, 4, 5, 6, 7, 8, 9, 10, 11, 12, 13, 14, 15, 16], [0, 1, 2, 3, 4, 5, 6, 7, 8, 9, 10, 11, 12, 13, 14, 15, 16, 25], [0, 1, 2, 3, 4, 5, 6, 7, 8, 9, 10, 11, 12, 13, 14, 15, 16, 25, 26], [0, 1, 2, 3, 4, 5, 6, 7, 8, 9, 10, 11, 12, 13, 14, 15, 16, 25, 26, 27], [0, 1, 2, 3, 4, 5, 6, 7, 8, 9, 10, 11, 12, 13, 14, 15, 16], [0, 1, 2, 3, 4, 5, 6, 7, 8, 9, 10, 11, 12, 13, 14, 15, 16], [0, 1, 2, 3, 4, 5, 6, 7, 8, 9, 10, 11, 12, 13, 14, 15, 16, 29, 30], [0, 1, 2, 3, 4, 5, 6, 7, 8, 9, 10, 11, 12, 13, 14, 15, 16, 29, 30, 31], [0, 1, 2, 3, 4, 5, 6, 7, 8, 9, 10, 11, 12, 13, 14, 15, 16, 29, 30, 31, 32], [0, 1, 2, 3, 4, 5, 6, 7, 8, 9, 10, 11, 12, 13, 14, 15, 16, 25, 26, 27, 28, 29, 30, 31, 32, 33], [0, 1, 2, 3, 4, 5, 6, 7, 8, 9, 10, 11, 12, 13, 14, 15, 16, 17, 18, 19, 20, 21, 22, 23, 24, 25, 26, 27, 28, 29, 30, 31, 32, 33, 34], [0, 1, 2, 3, 4, 5, 6, 7, 8, 9, 10, 11, 12, 13, 14, 15, 16], [0, 1, 2, 3, 4, 5, 6, 7, 8, 9, 10, 11, 12, 13, 14, 15, 16], [0, 1, 2, 3, 4, 5, 6, 7, 8, 9, 10, 11, 12, 13, 14, 15, 16, 36, 37], [0, 1, 2, 3, 4, 5, 6, 7, 8, 9, 10, 11, 12, 13, 14, 15, 16, 36, 37, 38], [0, 1, 2, 3, 4, 5, 6, 7, 8, 9, 10, 11, 12, 13, 14, 15, 16, 17, 18, 19, 20, 21, 22, 23, 24, 25, 26, 27, 28, 29, 30, 31, 32, 33, 34, 35, 36, 37, 38, 39], [0, 1, 2, 3, 4, 5, 6, 7, 8, 9, 10, 11, 12, 13, 14, 15, 16, 17, 18, 19, 20, 21, 22, 23, 24, 25, 26, 27, 28, 29, 30, 31, 32, 33, 34, 35, 36, 37, 38, 39, 40]] [0, 2, 3, 52] 1 [] [hE 6 eS h18, hF 7 eS h18, hB 15 (decide_eq_true h19), hE 31 eS h18, hF 32 eS h18, p3 h20 h21 h19, hE 38 eS h18, hF 39 eS h18] ?_
   exact pf (decide ((b0.f0.extract (Int.toNat b0.f1) (Int.toNat (w64 (b0.f1 + (x17.size : Int))))) = x17)) h23
  refine dl hmix 40 [[], [0], [0, 1], [0, 1, 2], [], [], [4, 5], [4, 5, 6], [4, 5, 6, 7], [0, 1, 2, 3, 4, 5, 6, 7, 8], [], [10], [10, 11], [10, 11, 12], [10, 11, 12, 13], [0, 1, 2, 3, 4, 5, 6, 7, 8, 9, 10, 11, 12, 13, 14], [0, 1, 2, 3, 4, 5, 6, 7, 8, 9, 10, 11, 12, 13, 14, 15], [0, 1, 2, 3, 4, 5, 6, 7, 8, 9, 10, 11, 12, 13, 14, 15, 16], [0, 1, 2, 3, 4, 5, 6, 7, 8, 9, 10, 11, 12, 13, 14, 15, 16, 17], [0, 1, 2, 3, 4, 5, 6, 7, 8, 9, 10, 11, 12, 13, 14, 15, 16, 17, 18], [0, 1, 2, 3, 4, 5, 6, 7, 8, 9, 10, 11, 12, 13, 14, 15, 16, 17, 18, 19], [0, 1, 2, 3, 4, 5, 6, 7, 8, 9, 10, 11, 12, 13, 14, 15, 16], [0, 1, 2, 3, 4, 5, 6, 7, 8, 9, 10, 11, 12, 13, 14, 15, 16, 21], [0, 1, 2, 3, 4, 5, 6, 7, 8, 9, 10, 11, 12, 13, 14, 15, 16, 21, 22], [0, 1, 2, 3, 4, 5, 6, 7, 8, 9, 10, 11, 12, 13, 14, 15, 16, 21, 22, 23], [0, 1, 2, 3, 4, 5, 6, 7, 8, 9, 10, 11, 12, 13, 14, 15, 16], [0, 1, 2, 3, 4, 5, 6, 7, 8, 9, 10, 11, 12, 13, 14, 15, 16, 25], [0, 1, 2, 3, 4, 5, 6, 7, 8, 9, 10, 11, 12, 13, 14, 15, 16, 25, 26], [0, 1, 2, 3, 4, 5, 6, 7, 8, 9, 10, 11, 12, 13, 14, 15, 16, 25, 26, 27], [0, 1, 2, 3, 4, 5, 6, 7, 8, 9, 10, 11, 12, 13, 14, 15, 16], [0, 1, 2, 3, 4, 5, 6, 7, 8, 9, 10, 11, 12, 13, 14, 15, 16], [0, 1, 2, 3, 4, 5, 6, 7, 8, 9, 10, 11, 12, 13, 14, 15, 16, 29, 30], [0, 1, 2, 3, 4, 5, 6, 7, 8, 9, 10, 11, 12, 13, 14, 15, 16, 29, 30, 31], [0, 1, 2, 3, 4, 5, 6, 7, 8, 9, 10, 11, 12, 13, 14, 15, 16, 29, 30, 31, 32], [0, 1, 2, 3, 4, 5, 6, 7, 8, 9, 10, 11, 12, 13, 14, 15, 16, 25, 26, 27, 28, 29, 30, 31, 32, 33], [0, 1, 2, 3, 4, 5, 6, 7, 8, 9, 10, 11, 12, 13, 14, 15, 16, 17, 18, 19, 20, 21, 22, 23, 24, 25, 26, 27, 28, 29, 30, 31, 32, 33, 34], [0, 1, 2, 3, 4, 5, 6, 7, 8, 9, 10, 11, 12, 13, 14, 15, 16], [0, 1, 2, 3, 4, 5, 6, 7, 8, 9, 10, 11, 12, 13, 14, 15, 16], [0, 1, 2, 3, 4, 5, 6, 7, 8, 9, 10, 11, 12, 13, 14, 15, 16, 36, 37], [0, 1, 2, 3, 4, 5, 6, 7, 8, 9, 10, 11, 12, 13, 14, 15, 16, 36, 37, 38], [0, 1, 2, 3, 4, 5, 6, 7, 8, 9, 10, 11, 12, 13, 14, 15, 16, 17, 18, 19, 20, 21, 22, 23, 24, 25, 26, 27, 28, 29, 30, 31, 32, 33, 34, 35, 36, 37, 38, 39], [0, 1, 2, 3, 4, 5, 6, 7, 8, 9, 10, 11, 12, 13, 14, 15, 16, 17, 18, 19, 20, 21, 22, 23, 24, 25, 26, 27, 28, 29, 30, 31, 32, 33, 34, 35, 36, 37, 38, 39, 40]] [0, 2, 3, 52] 1 [] [hE 6 eS h18, hF 7 eS h18, hB 15 (decide_eq_false h19)] ?_
  exact pf false h23
 refine fx [0] 1 [] ?_
 refine xi ?_
 exact pe () h31
/-! spec_l01Scanner__one_2: function 14 -/
def spec_l01Scanner__one_2.e1 (k : Nat) (b0 : S65b163) : Option Bool := if (byteAt b0.f0 b0.f1) = 32 then (some true) else (if (byteAt b0.f0 b0.f1) = 9 then (some true) else (if (byteAt b0.f0 b0.f1) = 10 then (some true) else (some (decide ((byteAt b0.f0 b0.f1) = 13)))))
def spec_l01Scanner__one_2.e2 (k : Nat) (b0 : S65b163) : Option Bool := if (w64 (b0.f1 + 1)) < (b0.f0.size : Int) then (if b0.f1 ≤ w64 (b0.f1 + 2) then (if (w64 (b0.f1 + 2)) ≤ (b0.f0.size : Int) then (some (decide ((b0.f0.extract (Int.toNat b0.f1) (Int.toNat (w64 (b0.f1 + 2)))) = (⟨#[40, 42]⟩ : ByteArray)))) else none) else none) else (some false)
def spec_l01Scanner__one_2.e3 (k : Nat) (b0 : S65b163) (z36 : Int) : Option Bool := if z36 < (b0.f0.size : Int) then (if (0 : Int) ≤ z36 then ((spec_l00Digit.f k (byteAt b0.f0 z36)).bind fun r39 => if r39 = true then (some true) else ((spec_l00Letter.f k (byteAt b0.f0 z36)).bind fun r42 => some r42)) else none) else (some false)
def spec_l01Scanner__one_2.l4 : Nat → S65b163 → Int → Option Int
  | 0, _, _ => none
  | k + 1, b0, z36 => (spec_l01Scanner__one_2.e3 k b0 z36).bind fun y44 => if y44 = true then (spec_l01Scanner__one_2.l4 k b0 (w64 (z36 + 1))) else (some z36)
def spec_l01Scanner__one_2.e5 (k : Nat) (b0 : S65b163) : Option Int := spec_l01Scanner__one_2.l4 k b0 b0.f1
def spec_l01Scanner__one_2.e6 (k : Nat) (b0 : S65b163) (r65 : (Int × Int)) : Option Bool := if r65.2 = 0 then (some true) else (if r65.1 < 32 then (some true) else (if r65.1 = 34 then (some true) else (if r65.1 = 127 then (some true) else (if (b0.f0.size : Int) ≤ (w64 ((w64 (b0.f1 + 1)) + r65.2)) then (some true) else (if (0 : Int) ≤ (w64 ((w64 (b0.f1 + 1)) + r65.2)) then (if (w64 ((w64 (b0.f1 + 1)) + r65.2)) < (b0.f0.size : Int) then (some (!(decide ((byteAt b0.f0 (w64 ((w64 (b0.f1 + 1)) + r65.2))) = 34)))) else none) else none)))))
def spec_l01Scanner__one_2.f (k : Nat) (b0 : S65b163) : Option (Int × (List STok) × Int × Int) := if (0 : Int) ≤ b0.f1 then (if b0.f1 < (b0.f0.size : Int) then ((spec_l01Scanner__one_2.e1 k b0).bind fun y6 => if y6 = true then (some (w64 (b0.f1 + 1), b0.f2, b0.f3, b0.f4)) else ((spec_l01Scanner__one_2.e2 k b0).bind fun y13 => if y13 = true then ((spec_l01Scanner__remark_2.f k (⟨b0.f0, b0.f1, b0.f2, b0.f3, b0.f4⟩ : S65b163)).bind fun r17 => some (r17.1, b0.f2, r17.2.1, r17.2.2)) else ((spec_l00Digit.f k (byteAt b0.f0 b0.f1)).bind fun r19 => if r19 = true then ((spec_l01Scanner__number_2.f k (⟨b0.f0, b0.f1, b0.f2, b0.f3, b0.f4⟩ : S65b163)).bind fun r22 => some (r22.1, r22.2.1, r22.2.2.1, r22.2.2.2)) else ((spec_l00Letter.f k (byteAt b0.f0 b0.f1)).bind fun r24 => if r24 = true then ((spec_l01Scanner__one_2.e5 k b0).bind fun y49 => if b0.f1 ≤ y49 then (if y49 ≤ (b0.f0.size : Int) then (if (40 : Int) < ((b0.f0.extract (Int.toNat b0.f1) (Int.toNat y49)).size : Int) then ((spec_l01Scanner__fail_2.f k 4 b0.f1 (⟨b0.f0, y49, b0.f2, b0.f3, b0.f4⟩ : S65b163)).bind fun r55 => some (y49, b0.f2, r55.1, r55.2)) else ((spec_IsKey.f k (b0.f0.extract (Int.toNat b0.f1) (Int.toNat y49))).bind fun r57 => if r57 = true then ((spec_l01Scanner__add_2.f k 2 0 (b0.f0.extract (Int.toNat b0.f1) (Int.toNat y49)) b0.f1 (⟨b0.f0, y49, b0.f2, b0.f3, b0.f4⟩ : S65b163)).bind fun r60 => some (y49, r60.1, r60.2.1, r60.2.2)) else ((spec_l01Scanner__add_2.f k 1 0 (b0.f0.extract (Int.toNat b0.f1) (Int.toNat y49)) b0.f1 (⟨b0.f0, y49, b0.f2, b0.f3, b0.f4⟩ : S65b163)).bind fun r62 => some (y49, r62.1, r62.2.1, r62.2.2)))) else none) else none) else (if (byteAt b0.f0 b0.f1) = 34 then ((spec_l01Rune.f k b0.f0 (w64 (b0.f1 + 1))).bind fun r65 => (spec_l01Scanner__one_2.e6 k b0 r65).bind fun y74 => if y74 = true then ((spec_l01Scanner__fail_2.f k 4 b0.f1 (⟨b0.f0, b0.f1, b0.f2, b0.f3, b0.f4⟩ : S65b163)).bind fun r78 => some (b0.f1, b0.f2, r78.1, r78.2)) else ((spec_l01Scanner__add_2.f k 4 r65.1 (⟨#[]⟩ : ByteArray) b0.f1 (⟨b0.f0, w64 (b0.f1 + (w64 (r65.2 + 2))), b0.f2, b0.f3, b0.f4⟩ : S65b163)).bind fun r80 => some (w64 (b0.f1 + (w64 (r65.2 + 2))), r80.1, r80.2.1, r80.2.2))) else ((spec_l01Scanner__sign_2.f k (⟨b0.f0, b0.f1, b0.f2, b0.f3, b0.f4⟩ : S65b163)).bind fun r82 => some (r82.1, r82.2.1, r82.2.2.1, r82.2.2.2))))))) else none) else none
theorem spec_l01Scanner__one_2.fn {k : Nat} {b0 : S65b163} {r : (Int × (List STok) × Int × Int)} (H : spec_l01Scanner__one_2.f k b0 = some r) : FnG Tryz.prog 14 [o1 (.ref 0 0)] [] [[cS b0.f0, cI b0.f1, .own 30 (List.map eSTok b0.f2), cI b0.f3, cI b0.f4]] (tp [] []) [] [[cS b0.f0, cI r.1, .own 30 (List.map eSTok r.2.1), cI r.2.2.1, cI r.2.2.2]] := by
 refine FnG.body (ts := []) Tryz.func14 rfl rfl (by decide) (by decide) (Nat.le_of_ble_eq_true rfl) rfl (Nat.le_of_ble_eq_true rfl) ?_
 obtain ⟨h1, H⟩ := nd H
 obtain ⟨h2, H⟩ := nd H
 refine dn hmix 8 [[], [0], [0, 1], [0, 1, 2], [], [4], [4, 5], [4, 5, 6], [0, 1, 2, 3, 4, 5, 6, 7], [0, 1, 2, 3, 4, 5, 6, 7, 8]] [0, 2] 1 [] [p2 h1 h2] ?_
 refine rn [0, 2, 3] 1 [] [] ?_
 refine bl ?_
 refine jo H (fun y6 => ⟨228, [(0, o1 (.ref 0 0)), (2, o1 (cK .u8 (byteAt b0.f0 b0.f1))), (3, oI b0.f1), (22, oB y6)], [[cS b0.f0, cI b0.f1, .own 30 (List.map eSTok b0.f2), cI b0.f3, cI b0.f4]], 1, []⟩) (fun y6 H => ?_) fun v8 h7 H => ?_
 ·refine cb H (fun h9 H => ?_) fun h9 H => ?_
  ·refine rl [] 1 [] [] ?_
   obtain rfl := si H;exact endsG (.inl rfl) (by kernel_rfl)
  refine jo H (fun y13 => ⟨228, [(0, o1 (.ref 0 0)), (2, o1 (cK .u8 (byteAt b0.f0 b0.f1))), (3, oI b0.f1), (44, oB y13)], [[cS b0.f0, cI b0.f1, .own 30 (List.map eSTok b0.f2), cI b0.f3, cI b0.f4]], 1, []⟩) (fun y13 H => ?_) fun v15 h14 H => ?_
  ·refine cb H (fun h16 H => ?_) fun h16 H => ?_
   ·obtain ⟨r17, h18, H⟩ := bs H
    refine rl [] 1 [] [hG 1 [] [0] none (spec_l01Scanner__remark_2.fn h18)] ?_
    obtain rfl := si H;exact endsG (.inl rfl) (by kernel_rfl)
   obtain ⟨r19, h20, H⟩ := bs H
   refine rn [0, 2, 3, 75] 1 [] [hC 1 (spec_l00Digit.fn h20)] ?_
   refine cb H (fun h21 H => ?_) fun h21 H => ?_
   ·obtain ⟨r22, h23, H⟩ := bs H
    refine rl [] 1 [] [hG 1 [] [0] none (spec_l01Scanner__number_2.fn h23)] ?_
    obtain rfl := si H;exact endsG (.inl rfl) (by kernel_rfl)
   obtain ⟨r24, h25, H⟩ := bs H
   refine rn [0, 2, 3, 80] 1 [] [hC 1 (spec_l00Letter.fn h25)] ?_
   refine cb H (fun h26 H => ?_) fun h26 H => ?_
   ·refine jo H (fun y49 => ⟨228, [(0, o1 (.ref 0 0)), (3, oI b0.f1)], [[cS b0.f0, cI y49, .own 30 (List.map eSTok b0.f2), cI b0.f3, cI b0.f4]], 1, []⟩) (fun y49 H => ?_) fun v51 h50 H => ?_
    ·obtain ⟨h52, H⟩ := nd H
     obtain ⟨h53, H⟩ := nd H
     refine dn hmix 9 [[], [0], [0, 1], [0, 1, 2], [], [], [5], [5, 6], [5, 6, 7], [0, 1, 2, 3, 4, 5, 6, 7, 8], [0, 1, 2, 3, 4, 5, 6, 7, 8, 9]] [0, 3, 4] 1 [] [p3 h1 h52 h53] ?_
     refine bl ?_
     refine rn [0, 3, 4, 138] 1 [] [] ?_
     refine ci H (fun h54 H => ?_) fun h54 H => ?_
     ·obtain ⟨r55, h56, H⟩ := bs H
      refine rl [] 1 [] [hG 2 [] [0] none (spec_l01Scanner__fail_2.fn h56)] ?_
      obtain rfl := si H;exact endsG (.inl rfl) (by kernel_rfl)
     obtain ⟨r57, h58, H⟩ := bs H
     refine rn [0, 3, 4, 145] 1 [] [hC 1 (spec_IsKey.fn h58)] ?_
     refine cb H (fun h59 H => ?_) fun h59 H => ?_
     ·obtain ⟨r60, h61, H⟩ := bs H
      refine rl [] 1 [] [hG 3 [] [0] none (spec_l01Scanner__add_2.fn h61)] ?_
      obtain rfl := si H;exact endsG (.inl rfl) (by kernel_rfl)
     obtain ⟨r62, h63, H⟩ := bs H
     refine rl [] 1 [] [hG 3 [] [0] none (spec_l01Scanner__add_2.fn h63)] ?_
     obtain rfl := si H;exact endsG (.inl rfl) (by kernel_rfl)
    refine bl ?_
    refine fx [0, 3] 1 [] ?_
    refine lo Int k (fun k x => spec_l01Scanner__one_2.l4 k b0 x) (fun x => ⟨228, [(0, o1 (.ref 0 0)), (3, oI b0.f1)], [[cS b0.f0, cI x, .own 30 (List.map eSTok b0.f2), cI b0.f3, cI b0.f4]], 1, []⟩) b0.f1 h50 fun k z36 h50 IH48 => ?_
    rw [spec_l01Scanner__one_2.l4.eq_2] at h50
    refine sq ?_
    refine jo h50 (fun y44 => ⟨228, [(0, o1 (.ref 0 0)), (3, oI b0.f1), (116, oB y44)], [[cS b0.f0, cI z36, .own 30 (List.map eSTok b0.f2), cI b0.f3, cI b0.f4]], 1, []⟩) (fun y44 h50 => ?_) fun v46 h45 h50 => ?_
    ·refine cb h50 (fun h47 h50 => ?_) fun h47 h50 => ?_
     ·refine sk ?_
      refine bl ?_
      refine rl [0, 3] 1 [] [] ?_
      exact lb IH48 (w64 (z36 + 1)) h50
     refine fx [0, 3] 1 [] ?_
     refine xi ?_
     exact pf z36 h50
    rcases ite_some h45 with ⟨h37, h45⟩ | ⟨h37, h45⟩
    ·obtain ⟨h38, h45⟩ := nd h45
     obtain ⟨r39, h40, h45⟩ := bs h45
     rcases iteb_some h45 with ⟨h41, h45⟩ | ⟨h41, h45⟩
     ·refine dl hmix 30 [[], [0], [0, 1], [0, 1, 2], [], [4], [4, 5], [4, 5, 6], [4, 5, 6, 7], [0, 1, 2, 3, 4, 5, 6, 7, 8], [0, 1, 2, 3, 4, 5, 6, 7, 8, 9], [0, 1, 2, 3, 4, 5, 6, 7, 8, 9, 10], [0, 1, 2, 3, 4, 5, 6, 7, 8, 9, 10, 11], [0, 1, 2, 3, 4, 5, 6, 7, 8, 9, 10, 11, 12], [0, 1, 2, 3, 4, 5, 6, 7, 8, 9, 10, 11, 12, 13], [0, 1, 2, 3, 4, 5, 6, 7, 8, 9, 10], [0, 1, 2, 3, 4, 5, 6, 7, 8, 9, 10, 15], [0, 1, 2, 3, 4, 5, 6, 7, 8, 9, 10, 15, 16], [0, 1, 2, 3, 4, 5, 6, 7, 8, 9, 10, 15, 16, 17], [0, 1, 2, 3, 4, 5, 6, 7, 8, 9, 10, 11, 12, 13, 14, 15, 16, 17, 18], [0, 1, 2, 3, 4, 5, 6, 7, 8, 9, 10, 11, 12, 13, 14, 15, 16, 17, 18, 19], [0, 1, 2, 3, 4, 5, 6, 7, 8, 9, 10, 11, 12, 13, 14, 15, 16, 17, 18, 19, 20], [0, 1, 2, 3, 4, 5, 6, 7, 8, 9, 10, 11, 12, 13, 14, 15, 16, 17, 18, 19, 20, 21], [0, 1, 2, 3, 4, 5, 6, 7, 8, 9, 10, 11, 12, 13, 14, 15, 16, 17, 18, 19, 20, 21, 22], [0, 1, 2, 3, 4, 5, 6, 7, 8, 9, 10, 11, 12, 13, 14, 15, 16, 17, 18, 19, 20, 21, 22, 23], [0, 1, 2, 3, 4, 5, 6, 7, 8, 9, 10, 11, 12, 13, 14, 15, 16, 17, 18, 19, 20, 21, 22, 23, 24], [0, 1, 2, 3, 4, 5, 6, 7, 8, 9, 10, 11, 12, 13, 14, 15, 16, 17, 18, 19, 20, 21], [0, 1, 2, 3, 4, 5, 6, 7, 8, 9, 10, 11, 12, 13, 14, 15, 16, 17, 18, 19, 20, 21, 26], [0, 1, 2, 3, 4, 5, 6, 7, 8, 9, 10, 11, 12, 13, 14, 15, 16, 17, 18, 19, 20, 21, 26, 27], [0, 1, 2, 3, 4, 5, 6, 7, 8, 9, 10, 11, 12, 13, 14, 15, 16, 17, 18, 19, 20, 21, 26, 27, 28], [0, 1, 2, 3, 4, 5, 6, 7, 8, 9, 10, 11, 12, 13, 14, 15, 16, 17, 18, 19, 20, 21, 22, 23, 24, 25, 26, 27, 28, 29], [0, 1, 2, 3, 4, 5, 6, 7, 8, 9, 10, 11, 12, 13, 14, 15, 16, 17, 18, 19, 20, 21, 22, 23, 24, 25, 26, 27, 28, 29, 30], [0, 1, 2, 3, 4, 5, 6, 7, 8, 9, 10, 11, 12, 13, 14, 15, 16, 17, 18, 19, 20, 21, 22, 23, 24, 25, 26, 27, 28, 29, 30, 31], [0, 1, 2, 3, 4, 5, 6, 7, 8, 9, 10, 11, 12, 13, 14, 15, 16, 17, 18, 19, 20, 21, 22, 23, 24, 25, 26, 27, 28, 29, 30, 31, 32]] [0, 3, 116] 1 [] [hB 9 (decide_eq_true h37), p2 h38 h37, hC 20 (spec_l00Digit.fn h40), hB 20 h41] ?_
      exact pf true h45
     obtain ⟨r42, h43, h45⟩ := bs h45
     refine dl hmix 30 [[], [0], [0, 1], [0, 1, 2], [], [4], [4, 5], [4, 5, 6], [4, 5, 6, 7], [0, 1, 2, 3, 4, 5, 6, 7, 8], [0, 1, 2, 3, 4, 5, 6, 7, 8, 9], [0, 1, 2, 3, 4, 5, 6, 7, 8, 9, 10], [0, 1, 2, 3, 4, 5, 6, 7, 8, 9, 10, 11], [0, 1, 2, 3, 4, 5, 6, 7, 8, 9, 10, 11, 12], [0, 1, 2, 3, 4, 5, 6, 7, 8, 9, 10, 11, 12, 13], [0, 1, 2, 3, 4, 5, 6, 7, 8, 9, 10], [0, 1, 2, 3, 4, 5, 6, 7, 8, 9, 10, 15], [0, 1, 2, 3, 4, 5, 6, 7, 8, 9, 10, 15, 16], [0, 1, 2, 3, 4, 5, 6, 7, 8, 9, 10, 15, 16, 17], [0, 1, 2, 3, 4, 5, 6, 7, 8, 9, 10, 11, 12, 13, 14, 15, 16, 17, 18], [0, 1, 2, 3, 4, 5, 6, 7, 8, 9, 10, 11, 12, 13, 14, 15, 16, 17, 18, 19], [0, 1, 2, 3, 4, 5, 6, 7, 8, 9, 10, 11, 12, 13, 14, 15, 16, 17, 18, 19, 20], [0, 1, 2, 3, 4, 5, 6, 7, 8, 9, 10, 11, 12, 13, 14, 15, 16, 17, 18, 19, 20, 21], [0, 1, 2, 3, 4, 5, 6, 7, 8, 9, 10, 11, 12, 13, 14, 15, 16, 17, 18, 19, 20, 21, 22], [0, 1, 2, 3, 4, 5, 6, 7, 8, 9, 10, 11, 12, 13, 14, 15, 16, 17, 18, 19, 20, 21, 22, 23], [0, 1, 2, 3, 4, 5, 6, 7, 8, 9, 10, 11, 12, 13, 14, 15, 16, 17, 18, 19, 20, 21, 22, 23, 24], [0, 1, 2, 3, 4, 5, 6, 7, 8, 9, 10, 11, 12, 13, 14, 15, 16, 17, 18, 19, 20, 21], [0, 1, 2, 3, 4, 5, 6, 7, 8, 9, 10, 11, 12, 13, 14, 15, 16, 17, 18, 19, 20, 21, 26], [0, 1, 2, 3, 4, 5, 6, 7, 8, 9, 10, 11, 12, 13, 14, 15, 16, 17, 18, 19, 20, 21, 26, 27], [0, 1, 2, 3, 4, 5, 6, 7, 8, 9, 10, 11, 12, 13, 14, 15, 16, 17, 18, 19, 20, 21, 26, 27, 28], [0, 1, 2, 3, 4, 5, 6, 7, 8, 9, 10, 11, 12, 13, 14, 15, 16, 17, 18, 19, 20, 21, 22, 23, 24, 25, 26, 27, 28, 29], [0, 1, 2, 3, 4, 5, 6, 7, 8, 9, 10, 11, 12, 13, 14, 15, 16, 17, 18, 19, 20, 21, 22, 23, 24, 25, 26, 27, 28, 29, 30], [0, 1, 2, 3, 4, 5, 6, 7, 8, 9, 10, 11, 12, 13, 14, 15, 16, 17, 18, 19, 20, 21, 22, 23, 24, 25, 26, 27, 28, 29, 30, 31], [0, 1, 2, 3, 4, 5, 6, 7, 8, 9, 10, 11, 12, 13, 14, 15, 16, 17, 18, 19, 20, 21, 22, 23, 24, 25, 26, 27, 28, 29, 30, 31, 32]] [0, 3, 116] 1 [] [hB 9 (decide_eq_true h37), p2 h38 h37, hC 20 (spec_l00Digit.fn h40), hB 20 h41, p2 h38 h37, hC 31 (spec_l00Letter.fn h43)] ?_
     exact pf r42 h45
    refine dl hmix 30 [[], [0], [0, 1], [0, 1, 2], [], [4], [4, 5], [4, 5, 6], [4, 5, 6, 7], [0, 1, 2, 3, 4, 5, 6, 7, 8], [0, 1, 2, 3, 4, 5, 6, 7, 8, 9], [0, 1, 2, 3, 4, 5, 6, 7, 8, 9, 10], [0, 1, 2, 3, 4, 5, 6, 7, 8, 9, 10, 11], [0, 1, 2, 3, 4, 5, 6, 7, 8, 9, 10, 11, 12], [0, 1, 2, 3, 4, 5, 6, 7, 8, 9, 10, 11, 12, 13], [0, 1, 2, 3, 4, 5, 6, 7, 8, 9, 10], [0, 1, 2, 3, 4, 5, 6, 7, 8, 9, 10, 15], [0, 1, 2, 3, 4, 5, 6, 7, 8, 9, 10, 15, 16], [0, 1, 2, 3, 4, 5, 6, 7, 8, 9, 10, 15, 16, 17], [0, 1, 2, 3, 4, 5, 6, 7, 8, 9, 10, 11, 12, 13, 14, 15, 16, 17, 18], [0, 1, 2, 3, 4, 5, 6, 7, 8, 9, 10, 11, 12, 13, 14, 15, 16, 17, 18, 19], [0, 1, 2, 3, 4, 5, 6, 7, 8, 9, 10, 11, 12, 13, 14, 15, 16, 17, 18, 19, 20], [0, 1, 2, 3, 4, 5, 6, 7, 8, 9, 10, 11, 12, 13, 14, 15, 16, 17, 18, 19, 20, 21], [0, 1, 2, 3, 4, 5, 6, 7, 8, 9, 10, 11, 12, 13, 14, 15, 16, 17, 18, 19, 20, 21, 22], [0, 1, 2, 3, 4, 5, 6, 7, 8, 9, 10, 11, 12, 13, 14, 15, 16, 17, 18, 19, 20, 21, 22, 23], [0, 1, 2, 3, 4, 5, 6, 7, 8, 9, 10, 11, 12, 13, 14, 15, 16, 17, 18, 19, 20, 21, 22, 23, 24], [0, 1, 2, 3, 4, 5, 6, 7, 8, 9, 10, 11, 12, 13, 14, 15, 16, 17, 18, 19, 20, 21], [0, 1, 2, 3, 4, 5, 6, 7, 8, 9, 10, 11, 12, 13, 14, 15, 16, 17, 18, 19, 20, 21, 26], [0, 1, 2, 3, 4, 5, 6, 7, 8, 9, 10, 11, 12, 13, 14, 15, 16, 17, 18, 19, 20, 21, 26, 27], [0, 1, 2, 3, 4, 5, 6, 7, 8, 9, 10, 11, 12, 13, 14, 15, 16, 17, 18, 19, 20, 21, 26, 27, 28], [0, 1, 2, 3, 4, 5, 6, 7, 8, 9, 10, 11, 12, 13, 14, 15, 16, 17, 18, 19, 20, 21, 22, 23, 24, 25, 26, 27, 28, 29], [0, 1, 2, 3, 4, 5, 6, 7, 8, 9, 10, 11, 12, 13, 14, 15, 16, 17, 18, 19, 20, 21, 22, 23, 24, 25, 26, 27, 28, 29, 30], [0, 1, 2, 3, 4, 5, 6, 7, 8, 9, 10, 11, 12, 13, 14, 15, 16, 17, 18, 19, 20, 21, 22, 23, 24, 25, 26, 27, 28, 29, 30, 31], [0, 1, 2, 3, 4, 5, 6, 7, 8, 9, 10, 11, 12, 13, 14, 15, 16, 17, 18, 19, 20, 21, 22, 23, 24, 25, 26, 27, 28, 29, 30, 31, 32]] [0, 3, 116] 1 [] [hB 9 (decide_eq_false h37)] ?_
    exact pf false h45
   refine rn [0, 3, 152] 1 [] [] ?_
   refine ci H (fun h64 H => ?_) fun h64 H => ?_
   ·obtain ⟨r65, h66, H⟩ := bs H
    refine dn hmix 14 [[], [0], [0, 1], [0, 1, 2], [], [4], [4, 5], [4, 5, 6], [4, 5, 6, 7], [0, 1, 2, 3, 4, 5, 6, 7, 8], [0, 1, 2, 3, 4, 5, 6, 7, 8, 9], [0, 1, 2, 3, 4, 5, 6, 7, 8, 9, 10], [0, 1, 2, 3, 4, 5, 6, 7, 8, 9, 10], [0, 1, 2, 3, 4, 5, 6, 7, 8, 9, 10, 11], [0, 1, 2, 3, 4, 5, 6, 7, 8, 9, 10, 11, 12, 13]] [0, 3, 5, 6] 1 [] [hC 9 (spec_l01Rune.fn h66)] ?_
    refine sq ?_
    refine jo H (fun y74 => ⟨228, [(0, o1 (.ref 0 0)), (3, oI b0.f1), (5, oI r65.1), (6, oI r65.2), (211, oB y74)], [[cS b0.f0, cI b0.f1, .own 30 (List.map eSTok b0.f2), cI b0.f3, cI b0.f4]], 1, []⟩) (fun y74 H => ?_) fun v76 h75 H => ?_
    ·refine cb H (fun h77 H => ?_) fun h77 H => ?_
     ·obtain ⟨r78, h79, H⟩ := bs H
      refine rn [] 1 [] [hG 2 [] [0] none (spec_l01Scanner__fail_2.fn h79)] ?_
      refine Tri.ret ?_
      obtain rfl := si H;exact endsG (.inr rfl) (by kernel_rfl)
     refine sk ?_
     refine rn [0, 3, 5] 1 [] [] ?_
     obtain ⟨r80, h81, H⟩ := bs H
     refine rl [] 1 [] [hG 3 [] [0] none (spec_l01Scanner__add_2.fn h81)] ?_
     obtain rfl := si H;exact endsG (.inl rfl) (by kernel_rfl)
    rcases ite_some h75 with ⟨h67, h75⟩ | ⟨h67, h75⟩
    ·refine dl hmix 41 [[], [0], [0, 1], [0, 1, 2], [0, 1, 2, 3], [0, 1, 2, 3, 4], [0, 1, 2, 3, 4, 5], [0, 1, 2, 3, 4, 5, 6], [0, 1, 2, 3, 4, 5, 6, 7], [0, 1, 2, 3, 4, 5, 6, 7, 8], [0, 1, 2, 3, 4, 5, 6, 7, 8, 9], [0, 1, 2, 3, 4, 5, 6, 7, 8, 9, 10], [0, 1, 2, 3, 4, 5, 6, 7, 8, 9, 10, 11], [0, 1, 2, 3, 4, 5, 6, 7, 8, 9, 10, 11, 12], [0, 1, 2, 3, 4, 5, 6, 7, 8, 9, 10, 11, 12, 13], [0, 1, 2, 3, 4, 5, 6, 7, 8, 9, 10, 11, 12, 13, 14], [0, 1, 2, 3, 4, 5, 6, 7, 8, 9, 10, 11, 12, 13, 14, 15], [0, 1, 2, 3, 4, 5, 6, 7, 8, 9, 10, 11, 12, 13, 14, 15, 16], [0, 1, 2, 3, 4, 5, 6, 7, 8, 9, 10, 11, 12, 13, 14, 15, 16, 17], [0, 1, 2, 3, 4, 5, 6, 7, 8, 9, 10, 11, 12, 13, 14, 15, 16, 17, 18], [0, 1, 2, 3, 4, 5, 6, 7, 8, 9, 10, 11, 12, 13, 14], [0, 1, 2, 3, 4, 5, 6, 7, 8, 9, 10, 11, 12, 13, 14, 15, 16, 17, 18, 19, 20], [0, 1, 2, 3, 4, 5, 6, 7, 8, 9, 10, 11, 12, 13, 14], [0, 1, 2, 3, 4, 5, 6, 7, 8, 9, 10, 11, 12, 13, 14, 22], [0, 1, 2, 3, 4, 5, 6, 7, 8, 9, 10, 11, 12, 13, 14, 22, 23], [0, 1, 2, 3, 4, 5, 6, 7, 8, 9, 10, 11, 12, 13, 14, 22, 23, 24], [0, 1, 2, 3, 4, 5, 6, 7, 8, 9, 10, 11, 12, 13, 14, 22, 23, 24, 25], [0, 1, 2, 3, 4, 5, 6, 7, 8, 9, 10, 11, 12, 13, 14, 15, 16, 17, 18, 19, 20, 21, 22, 23, 24, 25, 26], [0, 1, 2, 3, 4, 5, 6, 7, 8, 9, 10, 11, 12, 13, 14, 15, 16, 17, 18, 19, 20, 21, 22, 23, 24, 25, 26, 27], [0, 1, 2, 3, 4, 5, 6, 7, 8, 9, 10, 11, 12, 13, 14, 15, 16, 17, 18, 19, 20, 21, 22, 23, 24, 25, 26, 27, 28], [0, 1, 2, 3, 4, 5, 6, 7, 8, 9, 10, 11, 12, 13, 14, 15, 16, 17, 18, 19, 20, 21, 22, 23, 24, 25, 26, 27, 28, 29], [0, 1, 2, 3, 4, 5, 6, 7, 8, 9, 10, 11, 12, 13, 14, 15, 16, 17, 18, 19, 20, 21, 22, 23, 24, 25, 26, 27, 28, 29, 30], [0, 1, 2, 3, 4, 5, 6, 7, 8, 9, 10, 11, 12, 13, 14, 15, 16, 17, 18, 19, 20, 21, 22, 23, 24, 25, 26, 27, 28, 29, 30, 31], [0, 1, 2, 3, 4, 5, 6, 7, 8, 9, 10, 11, 12, 13, 14, 15, 16, 17, 18, 19, 20, 21, 22, 23, 24, 25, 26, 27, 28, 29, 30, 31, 32], [0, 1, 2, 3, 4, 5, 6, 7, 8, 9, 10, 11, 12, 13, 14, 15, 16, 17, 18, 19, 20, 21, 22, 23, 24, 25, 26, 27, 28, 29], [0, 1, 2, 3, 4, 5, 6, 7, 8, 9, 10, 11, 12, 13, 14, 15, 16, 17, 18, 19, 20, 21, 22, 23, 24, 25, 26, 27, 28, 29, 34], [0, 1, 2, 3, 4, 5, 6, 7, 8, 9, 10, 11, 12, 13, 14, 15, 16, 17, 18, 19, 20, 21, 22, 23, 24, 25, 26, 27, 28, 29, 34, 35], [0, 1, 2, 3, 4, 5, 6, 7, 8, 9, 10, 11, 12, 13, 14, 15, 16, 17, 18, 19, 20, 21, 22, 23, 24, 25, 26, 27, 28, 29, 34, 35, 36], [0, 1, 2, 3, 4, 5, 6, 7, 8, 9, 10, 11, 12, 13, 14, 15, 16, 17, 18, 19, 20, 21, 22, 23, 24, 25, 26, 27, 28, 29, 34, 35, 36, 37], [0, 1, 2, 3, 4, 5, 6, 7, 8, 9, 10, 11, 12, 13, 14, 15, 16, 17, 18, 19, 20, 21, 22, 23, 24, 25, 26, 27, 28, 29], [0, 1, 2, 3, 4, 5, 6, 7, 8, 9, 10, 11, 12, 13, 14, 15, 16, 17, 18, 19, 20, 21, 22, 23, 24, 25, 26, 27, 28, 29, 34, 35, 36, 37, 38, 39], [0, 1, 2, 3, 4, 5, 6, 7, 8, 9, 10, 11, 12, 13, 14, 15, 16, 17, 18, 19, 20, 21, 22, 23, 24, 25, 26, 27, 28, 29, 30, 31, 32, 33, 34, 35, 36, 37, 38, 39, 40], [0, 1, 2, 3, 4, 5, 6, 7, 8, 9, 10, 11, 12, 13, 14, 15, 16, 17, 18, 19, 20, 21, 22, 23, 24, 25, 26, 27, 28, 29, 30, 31, 32, 33, 34, 35, 36, 37, 38, 39, 40, 41], [0, 1, 2, 3, 4, 5, 6, 7, 8, 9, 10, 11, 12, 13, 14, 15, 16, 17, 18, 19, 20, 21, 22, 23, 24, 25, 26, 27, 28, 29, 30, 31, 32, 33, 34, 35, 36, 37, 38, 39, 40, 41, 42]] [0, 3, 5, 6, 211] 1 [] [hB 1 (decide_eq_true h67)] ?_
     exact pf true h75
    rcases ite_some h75 with ⟨h68, h75⟩ | ⟨h68, h75⟩
    ·refine dl hmix 41 [[], [0], [0, 1], [0, 1, 2], [0, 1, 2, 3], [0, 1, 2, 3, 4], [0, 1, 2, 3, 4, 5], [0, 1, 2, 3, 4, 5, 6], [0, 1, 2, 3, 4, 5, 6, 7], [0, 1, 2, 3, 4, 5, 6, 7, 8], [0, 1, 2, 3, 4, 5, 6, 7, 8, 9], [0, 1, 2, 3, 4, 5, 6, 7, 8, 9, 10], [0, 1, 2, 3, 4, 5, 6, 7, 8, 9, 10, 11], [0, 1, 2, 3, 4, 5, 6, 7, 8, 9, 10, 11, 12], [0, 1, 2, 3, 4, 5, 6, 7, 8, 9, 10, 11, 12, 13], [0, 1, 2, 3, 4, 5, 6, 7, 8, 9, 10, 11, 12, 13, 14], [0, 1, 2, 3, 4, 5, 6, 7, 8, 9, 10, 11, 12, 13, 14, 15], [0, 1, 2, 3, 4, 5, 6, 7, 8, 9, 10, 11, 12, 13, 14, 15, 16], [0, 1, 2, 3, 4, 5, 6, 7, 8, 9, 10, 11, 12, 13, 14, 15, 16, 17], [0, 1, 2, 3, 4, 5, 6, 7, 8, 9, 10, 11, 12, 13, 14, 15, 16, 17, 18], [0, 1, 2, 3, 4, 5, 6, 7, 8, 9, 10, 11, 12, 13, 14], [0, 1, 2, 3, 4, 5, 6, 7, 8, 9, 10, 11, 12, 13, 14, 15, 16, 17, 18, 19, 20], [0, 1, 2, 3, 4, 5, 6, 7, 8, 9, 10, 11, 12, 13, 14], [0, 1, 2, 3, 4, 5, 6, 7, 8, 9, 10, 11, 12, 13, 14, 22], [0, 1, 2, 3, 4, 5, 6, 7, 8, 9, 10, 11, 12, 13, 14, 22, 23], [0, 1, 2, 3, 4, 5, 6, 7, 8, 9, 10, 11, 12, 13, 14, 22, 23, 24], [0, 1, 2, 3, 4, 5, 6, 7, 8, 9, 10, 11, 12, 13, 14, 22, 23, 24, 25], [0, 1, 2, 3, 4, 5, 6, 7, 8, 9, 10, 11, 12, 13, 14, 15, 16, 17, 18, 19, 20, 21, 22, 23, 24, 25, 26], [0, 1, 2, 3, 4, 5, 6, 7, 8, 9, 10, 11, 12, 13, 14, 15, 16, 17, 18, 19, 20, 21, 22, 23, 24, 25, 26, 27], [0, 1, 2, 3, 4, 5, 6, 7, 8, 9, 10, 11, 12, 13, 14, 15, 16, 17, 18, 19, 20, 21, 22, 23, 24, 25, 26, 27, 28], [0, 1, 2, 3, 4, 5, 6, 7, 8, 9, 10, 11, 12, 13, 14, 15, 16, 17, 18, 19, 20, 21, 22, 23, 24, 25, 26, 27, 28, 29], [0, 1, 2, 3, 4, 5, 6, 7, 8, 9, 10, 11, 12, 13, 14, 15, 16, 17, 18, 19, 20, 21, 22, 23, 24, 25, 26, 27, 28, 29, 30], [0, 1, 2, 3, 4, 5, 6, 7, 8, 9, 10, 11, 12, 13, 14, 15, 16, 17, 18, 19, 20, 21, 22, 23, 24, 25, 26, 27, 28, 29, 30, 31], [0, 1, 2, 3, 4, 5, 6, 7, 8, 9, 10, 11, 12, 13, 14, 15, 16, 17, 18, 19, 20, 21, 22, 23, 24, 25, 26, 27, 28, 29, 30, 31, 32], [0, 1, 2, 3, 4, 5, 6, 7, 8, 9, 10, 11, 12, 13, 14, 15, 16, 17, 18, 19, 20, 21, 22, 23, 24, 25, 26, 27, 28, 29], [0, 1, 2, 3, 4, 5, 6, 7, 8, 9, 10, 11, 12, 13, 14, 15, 16, 17, 18, 19, 20, 21, 22, 23, 24, 25, 26, 27, 28, 29, 34], [0, 1, 2, 3, 4, 5, 6, 7, 8, 9, 10, 11, 12, 13, 14, 15, 16, 17, 18, 19, 20, 21, 22, 23, 24, 25, 26, 27, 28, 29, 34, 35], [0, 1, 2, 3, 4, 5, 6, 7, 8, 9, 10, 11, 12, 13, 14, 15, 16, 17, 18, 19, 20, 21, 22, 23, 24, 25, 26, 27, 28, 29, 34, 35, 36], [0, 1, 2, 3, 4, 5, 6, 7, 8, 9, 10, 11, 12, 13, 14, 15, 16, 17, 18, 19, 20, 21, 22, 23, 24, 25, 26, 27, 28, 29, 34, 35, 36, 37], [0, 1, 2, 3, 4, 5, 6, 7, 8, 9, 10, 11, 12, 13, 14, 15, 16, 17, 18, 19, 20, 21, 22, 23, 24, 25, 26, 27, 28, 29], [0, 1, 2, 3, 4, 5, 6, 7, 8, 9, 10, 11, 12, 13, 14, 15, 16, 17, 18, 19, 20, 21, 22, 23, 24, 25, 26, 27, 28, 29, 34, 35, 36, 37, 38, 39], [0, 1, 2, 3, 4, 5, 6, 7, 8, 9, 10, 11, 12, 13, 14, 15, 16, 17, 18, 19, 20, 21, 22, 23, 24, 25, 26, 27, 28, 29, 30, 31, 32, 33, 34, 35, 36, 37, 38, 39, 40], [0, 1, 2, 3, 4, 5, 6, 7, 8, 9, 10, 11, 12, 13, 14, 15, 16, 17, 18, 19, 20, 21, 22, 23, 24, 25, 26, 27, 28, 29, 30, 31, 32, 33, 34, 35, 36, 37, 38, 39, 40, 41], [0, 1, 2, 3, 4, 5, 6, 7, 8, 9, 10, 11, 12, 13, 14, 15, 16, 17, 18, 19, 20, 21, 22, 23, 24, 25, 26, 27, 28, 29, 30, 31, 32, 33, 34, 35, 36, 37, 38, 39, 40, 41, 42]] [0, 3, 5, 6, 211] 1 [] [hB 1 (decide_eq_false h67), hB 4 (decide_eq_true h68)] ?_
     exact pf true h75
    rcases ite_some h75 with ⟨h69, h75⟩ | ⟨h69, h75⟩
    ·refine dl hmix 41 [[], [0], [0, 1], [0, 1, 2], [0, 1, 2, 3], [0, 1, 2, 3, 4], [0, 1, 2, 3, 4, 5], [0, 1, 2, 3, 4, 5, 6], [0, 1, 2, 3, 4, 5, 6, 7], [0, 1, 2, 3, 4, 5, 6, 7, 8], [0, 1, 2, 3, 4, 5, 6, 7, 8, 9], [0, 1, 2, 3, 4, 5, 6, 7, 8, 9, 10], [0, 1, 2, 3, 4, 5, 6, 7, 8, 9, 10, 11], [0, 1, 2, 3, 4, 5, 6, 7, 8, 9, 10, 11, 12], [0, 1, 2, 3, 4, 5, 6, 7, 8, 9, 10, 11, 12, 13], [0, 1, 2, 3, 4, 5, 6, 7, 8, 9, 10, 11, 12, 13, 14], [0, 1, 2, 3, 4, 5, 6, 7, 8, 9, 10, 11, 12, 13, 14, 15], [0, 1, 2, 3, 4, 5, 6, 7, 8, 9, 10, 11, 12, 13, 14, 15, 16], [0, 1, 2, 3, 4, 5, 6, 7, 8, 9, 10, 11, 12, 13, 14, 15, 16, 17], [0, 1, 2, 3, 4, 5, 6, 7, 8, 9, 10, 11, 12, 13, 14, 15, 16, 17, 18], [0, 1, 2, 3, 4, 5, 6, 7, 8, 9, 10, 11, 12, 13, 14], [0, 1, 2, 3, 4, 5, 6, 7, 8, 9, 10, 11, 12, 13, 14, 15, 16, 17, 18, 19, 20], [0, 1, 2, 3, 4, 5, 6, 7, 8, 9, 10, 11, 12, 13, 14], [0, 1, 2, 3, 4, 5, 6, 7, 8, 9, 10, 11, 12, 13, 14, 22], [0, 1, 2, 3, 4, 5, 6, 7, 8, 9, 10, 11, 12, 13, 14, 22, 23], [0, 1, 2, 3, 4, 5, 6, 7, 8, 9, 10, 11, 12, 13, 14, 22, 23, 24], [0, 1, 2, 3, 4, 5, 6, 7, 8, 9, 10, 11, 12, 13, 14, 22, 23, 24, 25], [0, 1, 2, 3, 4, 5, 6, 7, 8, 9, 10, 11, 12, 13, 14, 15, 16, 17, 18, 19, 20, 21, 22, 23, 24, 25, 26], [0, 1, 2, 3, 4, 5, 6, 7, 8, 9, 10, 11, 12, 13, 14, 15, 16, 17, 18, 19, 20, 21, 22, 23, 24, 25, 26, 27], [0, 1, 2, 3, 4, 5, 6, 7, 8, 9, 10, 11, 12, 13, 14, 15, 16, 17, 18, 19, 20, 21, 22, 23, 24, 25, 26, 27, 28], [0, 1, 2, 3, 4, 5, 6, 7, 8, 9, 10, 11, 12, 13, 14, 15, 16, 17, 18, 19, 20, 21, 22, 23, 24, 25, 26, 27, 28, 29], [0, 1, 2, 3, 4, 5, 6, 7, 8, 9, 10, 11, 12, 13, 14, 15, 16, 17, 18, 19, 20, 21, 22, 23, 24, 25, 26, 27, 28, 29, 30], [0, 1, 2, 3, 4, 5, 6, 7, 8, 9, 10, 11, 12, 13, 14, 15, 16, 17, 18, 19, 20, 21, 22, 23, 24, 25, 26, 27, 28, 29, 30, 31], [0, 1, 2, 3, 4, 5, 6, 7, 8, 9, 10, 11, 12, 13, 14, 15, 16, 17, 18, 19, 20, 21, 22, 23, 24, 25, 26, 27, 28, 29, 30, 31, 32], [0, 1, 2, 3, 4, 5, 6, 7, 8, 9, 10, 11, 12, 13, 14, 15, 16, 17, 18, 19, 20, 21, 22, 23, 24, 25, 26, 27, 28, 29], [0, 1, 2, 3, 4, 5, 6, 7, 8, 9, 10, 11, 12, 13, 14, 15, 16, 17, 18, 19, 20, 21, 22, 23, 24, 25, 26, 27, 28, 29, 34], [0, 1, 2, 3, 4, 5, 6, 7, 8, 9, 10, 11, 12, 13, 14, 15, 16, 17, 18, 19, 20, 21, 22, 23, 24, 25, 26, 27, 28, 29, 34, 35], [0, 1, 2, 3, 4, 5, 6, 7, 8, 9, 10, 11, 12, 13, 14, 15, 16, 17, 18, 19, 20, 21, 22, 23, 24, 25, 26, 27, 28, 29, 34, 35, 36], [0, 1, 2, 3, 4, 5, 6, 7, 8, 9, 10, 11, 12, 13, 14, 15, 16, 17, 18, 19, 20, 21, 22, 23, 24, 25, 26, 27, 28, 29, 34, 35, 36, 37], [0, 1, 2, 3, 4, 5, 6, 7, 8, 9, 10, 11, 12, 13, 14, 15, 16, 17, 18, 19, 20, 21, 22, 23, 24, 25, 26, 27, 28, 29], [0, 1, 2, 3, 4, 5, 6, 7, 8, 9, 10, 11, 12, 13, 14, 15, 16, 17, 18, 19, 20, 21, 22, 23, 24, 25, 26, 27, 28, 29, 34, 35, 36, 37, 38, 39], [0, 1, 2, 3, 4, 5, 6, 7, 8, 9, 10, 11, 12, 13, 14, 15, 16, 17, 18, 19, 20, 21, 22, 23, 24, 25, 26, 27, 28, 29, 30, 31, 32, 33, 34, 35, 36, 37, 38, 39, 40], [0, 1, 2, 3, 4, 5, 6, 7, 8, 9, 10, 11, 12, 13, 14, 15, 16, 17, 18, 19, 20, 21, 22, 23, 24, 25, 26, 27, 28, 29, 30, 31, 32, 33, 34, 35, 36, 37, 38, 39, 40, 41], [0, 1, 2, 3, 4, 5, 6, 7, 8, 9, 10, 11, 12, 13, 14, 15, 16, 17, 18, 19, 20, 21, 22, 23, 24, 25, 26, 27, 28, 29, 30, 31, 32, 33, 34, 35, 36, 37, 38, 39, 40, 41, 42]] [0, 3, 5, 6, 211] 1 [] [hB 1 (decide_eq_false h67), hB 4 (decide_eq_false h68), hB 8 (decide_eq_true h69)] ?_
     exact pf true h75
    rcases ite_some h75 with ⟨h70, h75⟩ | ⟨h70, h75⟩
    ·refine dl hmix 41 [[], [0], [0, 1], [0, 1, 2], [0, 1, 2, 3], [0, 1, 2, 3, 4], [0, 1, 2, 3, 4, 5], [0, 1, 2, 3, 4, 5, 6], [0, 1, 2, 3, 4, 5, 6, 7], [0, 1, 2, 3, 4, 5, 6, 7, 8], [0, 1, 2, 3, 4, 5, 6, 7, 8, 9], [0, 1, 2, 3, 4, 5, 6, 7, 8, 9, 10], [0, 1, 2, 3, 4, 5, 6, 7, 8, 9, 10, 11], [0, 1, 2, 3, 4, 5, 6, 7, 8, 9, 10, 11, 12], [0, 1, 2, 3, 4, 5, 6, 7, 8, 9, 10, 11, 12, 13], [0, 1, 2, 3, 4, 5, 6, 7, 8, 9, 10, 11, 12, 13, 14], [0, 1, 2, 3, 4, 5, 6, 7, 8, 9, 10, 11, 12, 13, 14, 15], [0, 1, 2, 3, 4, 5, 6, 7, 8, 9, 10, 11, 12, 13, 14, 15, 16], [0, 1, 2, 3, 4, 5, 6, 7, 8, 9, 10, 11, 12, 13, 14, 15, 16, 17], [0, 1, 2, 3, 4, 5, 6, 7, 8, 9, 10, 11, 12, 13, 14, 15, 16, 17, 18], [0, 1, 2, 3, 4, 5, 6, 7, 8, 9, 10, 11, 12, 13, 14], [0, 1, 2, 3, 4, 5, 6, 7, 8, 9, 10, 11, 12, 13, 14, 15, 16, 17, 18, 19, 20], [0, 1, 2, 3, 4, 5, 6, 7, 8, 9, 10, 11, 12, 13, 14], [0, 1, 2, 3, 4, 5, 6, 7, 8, 9, 10, 11, 12, 13, 14, 22], [0, 1, 2, 3, 4, 5, 6, 7, 8, 9, 10, 11, 12, 13, 14, 22, 23], [0, 1, 2, 3, 4, 5, 6, 7, 8, 9, 10, 11, 12, 13, 14, 22, 23, 24], [0, 1, 2, 3, 4, 5, 6, 7, 8, 9, 10, 11, 12, 13, 14, 22, 23, 24, 25], [0, 1, 2, 3, 4, 5, 6, 7, 8, 9, 10, 11, 12, 13, 14, 15, 16, 17, 18, 19, 20, 21, 22, 23, 24, 25, 26], [0, 1, 2, 3, 4, 5, 6, 7, 8, 9, 10, 11, 12, 13, 14, 15, 16, 17, 18, 19, 20, 21, 22, 23, 24, 25, 26, 27], [0, 1, 2, 3, 4, 5, 6, 7, 8, 9, 10, 11, 12, 13, 14, 15, 16, 17, 18, 19, 20, 21, 22, 23, 24, 25, 26, 27, 28], [0, 1, 2, 3, 4, 5, 6, 7, 8, 9, 10, 11, 12, 13, 14, 15, 16, 17, 18, 19, 20, 21, 22, 23, 24, 25, 26, 27, 28, 29], [0, 1, 2, 3, 4, 5, 6, 7, 8, 9, 10, 11, 12, 13, 14, 15, 16, 17, 18, 19, 20, 21, 22, 23, 24, 25, 26, 27, 28, 29, 30], [0, 1, 2, 3, 4, 5, 6, 7, 8, 9, 10, 11, 12, 13, 14, 15, 16, 17, 18, 19, 20, 21, 22, 23, 24, 25, 26, 27, 28, 29, 30, 31], [0, 1, 2, 3, 4, 5, 6, 7, 8, 9, 10, 11, 12, 13, 14, 15, 16, 17, 18, 19, 20, 21, 22, 23, 24, 25, 26, 27, 28, 29, 30, 31, 32], [0, 1, 2, 3, 4, 5, 6, 7, 8, 9, 10, 11, 12, 13, 14, 15, 16, 17, 18, 19, 20, 21, 22, 23, 24, 25, 26, 27, 28, 29], [0, 1, 2, 3, 4, 5, 6, 7, 8, 9, 10, 11, 12, 13, 14, 15, 16, 17, 18, 19, 20, 21, 22, 23, 24, 25, 26, 27, 28, 29, 34], [0, 1, 2, 3, 4, 5, 6, 7, 8, 9, 10, 11, 12, 13, 14, 15, 16, 17, 18, 19, 20, 21, 22, 23, 24, 25, 26, 27, 28, 29, 34, 35], [0, 1, 2, 3, 4, 5, 6, 7, 8, 9, 10, 11, 12, 13, 14, 15, 16, 17, 18, 19, 20, 21, 22, 23, 24, 25, 26, 27, 28, 29, 34, 35, 36], [0, 1, 2, 3, 4, 5, 6, 7, 8, 9, 10, 11, 12, 13, 14, 15, 16, 17, 18, 19, 20, 21, 22, 23, 24, 25, 26, 27, 28, 29, 34, 35, 36, 37], [0, 1, 2, 3, 4, 5, 6, 7, 8, 9, 10, 11, 12, 13, 14, 15, 16, 17, 18, 19, 20, 21, 22, 23, 24, 25, 26, 27, 28, 29], [0, 1, 2, 3, 4, 5, 6, 7, 8, 9, 10, 11, 12, 13, 14, 15, 16, 17, 18, 19, 20, 21, 22, 23, 24, 25, 26, 27, 28, 29, 34, 35, 36, 37, 38, 39], [0, 1, 2, 3, 4, 5, 6, 7, 8, 9, 10, 11, 12, 13, 14, 15, 16, 17, 18, 19, 20, 21, 22, 23, 24, 25, 26, 27, 28, 29, 30, 31, 32, 33, 34, 35, 36, 37, 38, 39, 40], [0, 1, 2, 3, 4, 5, 6, 7, 8, 9, 10, 11, 12, 13, 14, 15, 16, 17, 18, 19, 20, 21, 22, 23, 24, 25, 26, 27, 28, 29, 30, 31, 32, 33, 34, 35, 36, 37, 38, 39, 40, 41], [0, 1, 2, 3, 4, 5, 6, 7, 8, 9, 10, 11, 12, 13, 14, 15, 16, 17, 18, 19, 20, 21, 22, 23, 24, 25, 26, 27, 28, 29, 30, 31, 32, 33, 34, 35, 36, 37, 38, 39, 40, 41, 42]] [0, 3, 5, 6, 211] 1 [] [hB 1 (decide_eq_false h67), hB 4 (decide_eq_false h68), hB 8 (decide_eq_false h69), hB 12 (decide_eq_true h70)] ?_
     exact pf true h75
    rcases ite_some h75 with ⟨h71, h75⟩ | ⟨h71, h75⟩
    ·refine dl hmix 41 [[], [0], [0, 1], [0, 1, 2], [0, 1, 2, 3], [0, 1, 2, 3, 4], [0, 1, 2, 3, 4, 5], [0, 1, 2, 3, 4, 5, 6], [0, 1, 2, 3, 4, 5, 6, 7], [0, 1, 2, 3, 4, 5, 6, 7, 8], [0, 1, 2, 3, 4, 5, 6, 7, 8, 9], [0, 1, 2, 3, 4, 5, 6, 7, 8, 9, 10], [0, 1, 2, 3, 4, 5, 6, 7, 8, 9, 10, 11], [0, 1, 2, 3, 4, 5, 6, 7, 8, 9, 10, 11, 12], [0, 1, 2, 3, 4, 5, 6, 7, 8, 9, 10, 11, 12, 13], [0, 1, 2, 3, 4, 5, 6, 7, 8, 9, 10, 11, 12, 13, 14], [0, 1, 2, 3, 4, 5, 6, 7, 8, 9, 10, 11, 12, 13, 14, 15], [0, 1, 2, 3, 4, 5, 6, 7, 8, 9, 10, 11, 12, 13, 14, 15, 16], [0, 1, 2, 3, 4, 5, 6, 7, 8, 9, 10, 11, 12, 13, 14, 15, 16, 17], [0, 1, 2, 3, 4, 5, 6, 7, 8, 9, 10, 11, 12, 13, 14, 15, 16, 17, 18], [0, 1, 2, 3, 4, 5, 6, 7, 8, 9, 10, 11, 12, 13, 14], [0, 1, 2, 3, 4, 5, 6, 7, 8, 9, 10, 11, 12, 13, 14, 15, 16, 17, 18, 19, 20], [0, 1, 2, 3, 4, 5, 6, 7, 8, 9, 10, 11, 12, 13, 14], [0, 1, 2, 3, 4, 5, 6, 7, 8, 9, 10, 11, 12, 13, 14, 22], [0, 1, 2, 3, 4, 5, 6, 7, 8, 9, 10, 11, 12, 13, 14, 22, 23], [0, 1, 2, 3, 4, 5, 6, 7, 8, 9, 10, 11, 12, 13, 14, 22, 23, 24], [0, 1, 2, 3, 4, 5, 6, 7, 8, 9, 10, 11, 12, 13, 14, 22, 23, 24, 25], [0, 1, 2, 3, 4, 5, 6, 7, 8, 9, 10, 11, 12, 13, 14, 15, 16, 17, 18, 19, 20, 21, 22, 23, 24, 25, 26], [0, 1, 2, 3, 4, 5, 6, 7, 8, 9, 10, 11, 12, 13, 14, 15, 16, 17, 18, 19, 20, 21, 22, 23, 24, 25, 26, 27], [0, 1, 2, 3, 4, 5, 6, 7, 8, 9, 10, 11, 12, 13, 14, 15, 16, 17, 18, 19, 20, 21, 22, 23, 24, 25, 26, 27, 28], [0, 1, 2, 3, 4, 5, 6, 7, 8, 9, 10, 11, 12, 13, 14, 15, 16, 17, 18, 19, 20, 21, 22, 23, 24, 25, 26, 27, 28, 29], [0, 1, 2, 3, 4, 5, 6, 7, 8, 9, 10, 11, 12, 13, 14, 15, 16, 17, 18, 19, 20, 21, 22, 23, 24, 25, 26, 27, 28, 29, 30], [0, 1, 2, 3, 4, 5, 6, 7, 8, 9, 10, 11, 12, 13, 14, 15, 16, 17, 18, 19, 20, 21, 22, 23, 24, 25, 26, 27, 28, 29, 30, 31], [0, 1, 2, 3, 4, 5, 6, 7, 8, 9, 10, 11, 12, 13, 14, 15, 16, 17, 18, 19, 20, 21, 22, 23, 24, 25, 26, 27, 28, 29, 30, 31, 32], [0, 1, 2, 3, 4, 5, 6, 7, 8, 9, 10, 11, 12, 13, 14, 15, 16, 17, 18, 19, 20, 21, 22, 23, 24, 25, 26, 27, 28, 29], [0, 1, 2, 3, 4, 5, 6, 7, 8, 9, 10, 11, 12, 13, 14, 15, 16, 17, 18, 19, 20, 21, 22, 23, 24, 25, 26, 27, 28, 29, 34], [0, 1, 2, 3, 4, 5, 6, 7, 8, 9, 10, 11, 12, 13, 14, 15, 16, 17, 18, 19, 20, 21, 22, 23, 24, 25, 26, 27, 28, 29, 34, 35], [0, 1, 2, 3, 4, 5, 6, 7, 8, 9, 10, 11, 12, 13, 14, 15, 16, 17, 18, 19, 20, 21, 22, 23, 24, 25, 26, 27, 28, 29, 34, 35, 36], [0, 1, 2, 3, 4, 5, 6, 7, 8, 9, 10, 11, 12, 13, 14, 15, 16, 17, 18, 19, 20, 21, 22, 23, 24, 25, 26, 27, 28, 29, 34, 35, 36, 37], [0, 1, 2, 3, 4, 5, 6, 7, 8, 9, 10, 11, 12, 13, 14, 15, 16, 17, 18, 19, 20, 21, 22, 23, 24, 25, 26, 27, 28, 29], [0, 1, 2, 3, 4, 5, 6, 7, 8, 9, 10, 11, 12, 13, 14, 15, 16, 17, 18, 19, 20, 21, 22, 23, 24, 25, 26, 27, 28, 29, 34, 35, 36, 37, 38, 39], [0, 1, 2, 3, 4, 5, 6, 7, 8, 9, 10, 11, 12, 13, 14, 15, 16, 17, 18, 19, 20, 21, 22, 23, 24, 25, 26, 27, 28, 29, 30, 31, 32, 33, 34, 35, 36, 37, 38, 39, 40], [0, 1, 2, 3, 4, 5, 6, 7, 8, 9, 10, 11, 12, 13, 14, 15, 16, 17, 18, 19, 20, 21, 22, 23, 24, 25, 26, 27, 28, 29, 30, 31, 32, 33, 34, 35, 36, 37, 38, 39, 40, 41], [0, 1, 2, 3, 4, 5, 6, 7, 8, 9, 10, 11, 12, 13, 14, 15, 16, 17, 18, 19, 20, 21, 22, 23, 24, 25, 26, 27, 28, 29, 30, 31, 32, 33, 34, 35, 36, 37, 38, 39, 40, 41, 42]] [0, 3, 5, 6, 211] 1 [] [hB 1 (decide_eq_false h67), hB 4 (decide_eq_false h68), hB 8 (decide_eq_false h69), hB 12 (decide_eq_false h70), hB 27 (decide_eq_true h71)] ?_
     exact pf true h75
    obtain ⟨h72, h75⟩ := nd h75
    obtain ⟨h73, h75⟩ := nd h75
    refine dl hmix 41 [[], [0], [0, 1], [0, 1, 2], [0, 1, 2, 3], [0, 1, 2, 3, 4], [0, 1, 2, 3, 4, 5], [0, 1, 2, 3, 4, 5, 6], [0, 1, 2, 3, 4, 5, 6, 7], [0, 1, 2, 3, 4, 5, 6, 7, 8], [0, 1, 2, 3, 4, 5, 6, 7, 8, 9], [0, 1, 2, 3, 4, 5, 6, 7, 8, 9, 10], [0, 1, 2, 3, 4, 5, 6, 7, 8, 9, 10, 11], [0, 1, 2, 3, 4, 5, 6, 7, 8, 9, 10, 11, 12], [0, 1, 2, 3, 4, 5, 6, 7, 8, 9, 10, 11, 12, 13], [0, 1, 2, 3, 4, 5, 6, 7, 8, 9, 10, 11, 12, 13, 14], [0, 1, 2, 3, 4, 5, 6, 7, 8, 9, 10, 11, 12, 13, 14, 15], [0, 1, 2, 3, 4, 5, 6, 7, 8, 9, 10, 11, 12, 13, 14, 15, 16], [0, 1, 2, 3, 4, 5, 6, 7, 8, 9, 10, 11, 12, 13, 14, 15, 16, 17], [0, 1, 2, 3, 4, 5, 6, 7, 8, 9, 10, 11, 12, 13, 14, 15, 16, 17, 18], [0, 1, 2, 3, 4, 5, 6, 7, 8, 9, 10, 11, 12, 13, 14], [0, 1, 2, 3, 4, 5, 6, 7, 8, 9, 10, 11, 12, 13, 14, 15, 16, 17, 18, 19, 20], [0, 1, 2, 3, 4, 5, 6, 7, 8, 9, 10, 11, 12, 13, 14], [0, 1, 2, 3, 4, 5, 6, 7, 8, 9, 10, 11, 12, 13, 14, 22], [0, 1, 2, 3, 4, 5, 6, 7, 8, 9, 10, 11, 12, 13, 14, 22, 23], [0, 1, 2, 3, 4, 5, 6, 7, 8, 9, 10, 11, 12, 13, 14, 22, 23, 24], [0, 1, 2, 3, 4, 5, 6, 7, 8, 9, 10, 11, 12, 13, 14, 22, 23, 24, 25], [0, 1, 2, 3, 4, 5, 6, 7, 8, 9, 10, 11, 12, 13, 14, 15, 16, 17, 18, 19, 20, 21, 22, 23, 24, 25, 26], [0, 1, 2, 3, 4, 5, 6, 7, 8, 9, 10, 11, 12, 13, 14, 15, 16, 17, 18, 19, 20, 21, 22, 23, 24, 25, 26, 27], [0, 1, 2, 3, 4, 5, 6, 7, 8, 9, 10, 11, 12, 13, 14, 15, 16, 17, 18, 19, 20, 21, 22, 23, 24, 25, 26, 27, 28], [0, 1, 2, 3, 4, 5, 6, 7, 8, 9, 10, 11, 12, 13, 14, 15, 16, 17, 18, 19, 20, 21, 22, 23, 24, 25, 26, 27, 28, 29], [0, 1, 2, 3, 4, 5, 6, 7, 8, 9, 10, 11, 12, 13, 14, 15, 16, 17, 18, 19, 20, 21, 22, 23, 24, 25, 26, 27, 28, 29, 30], [0, 1, 2, 3, 4, 5, 6, 7, 8, 9, 10, 11, 12, 13, 14, 15, 16, 17, 18, 19, 20, 21, 22, 23, 24, 25, 26, 27, 28, 29, 30, 31], [0, 1, 2, 3, 4, 5, 6, 7, 8, 9, 10, 11, 12, 13, 14, 15, 16, 17, 18, 19, 20, 21, 22, 23, 24, 25, 26, 27, 28, 29, 30, 31, 32], [0, 1, 2, 3, 4, 5, 6, 7, 8, 9, 10, 11, 12, 13, 14, 15, 16, 17, 18, 19, 20, 21, 22, 23, 24, 25, 26, 27, 28, 29], [0, 1, 2, 3, 4, 5, 6, 7, 8, 9, 10, 11, 12, 13, 14, 15, 16, 17, 18, 19, 20, 21, 22, 23, 24, 25, 26, 27, 28, 29, 34], [0, 1, 2, 3, 4, 5, 6, 7, 8, 9, 10, 11, 12, 13, 14, 15, 16, 17, 18, 19, 20, 21, 22, 23, 24, 25, 26, 27, 28, 29, 34, 35], [0, 1, 2, 3, 4, 5, 6, 7, 8, 9, 10, 11, 12, 13, 14, 15, 16, 17, 18, 19, 20, 21, 22, 23, 24, 25, 26, 27, 28, 29, 34, 35, 36], [0, 1, 2, 3, 4, 5, 6, 7, 8, 9, 10, 11, 12, 13, 14, 15, 16, 17, 18, 19, 20, 21, 22, 23, 24, 25, 26, 27, 28, 29, 34, 35, 36, 37], [0, 1, 2, 3, 4, 5, 6, 7, 8, 9, 10, 11, 12, 13, 14, 15, 16, 17, 18, 19, 20, 21, 22, 23, 24, 25, 26, 27, 28, 29], [0, 1, 2, 3, 4, 5, 6, 7, 8, 9, 10, 11, 12, 13, 14, 15, 16, 17, 18, 19, 20, 21, 22, 23, 24, 25, 26, 27, 28, 29, 34, 35, 36, 37, 38, 39], [0, 1, 2, 3, 4, 5, 6, 7, 8, 9, 10, 11, 12, 13, 14, 15, 16, 17, 18, 19, 20, 21, 22, 23, 24, 25, 26, 27, 28, 29, 30, 31, 32, 33, 34, 35, 36, 37, 38, 39, 40], [0, 1, 2, 3, 4, 5, 6, 7, 8, 9, 10, 11, 12, 13, 14, 15, 16, 17, 18, 19, 20, 21, 22, 23, 24, 25, 26, 27, 28, 29, 30, 31, 32, 33, 34, 35, 36, 37, 38, 39, 40, 41], [0, 1, 2, 3, 4, 5, 6, 7, 8, 9, 10, 11, 12, 13, 14, 15, 16, 17, 18, 19, 20, 21, 22, 23, 24, 25, 26, 27, 28, 29, 30, 31, 32, 33, 34, 35, 36, 37, 38, 39, 40, 41, 42]] [0, 3, 5, 6, 211] 1 [] [hB 1 (decide_eq_false h67), hB 4 (decide_eq_false h68), hB 8 (decide_eq_false h69), hB 12 (decide_eq_false h70), hB 27 (decide_eq_false h71), p2 h72 h73] ?_
    exact pf (!(decide ((byteAt b0.f0 (w64 ((w64 (b0.f1 + 1)) + r65.2))) = 34))) h75
   obtain ⟨r82, h83, H⟩ := bs H
   refine rl [] 1 [] [hG 1 [] [0] none (spec_l01Scanner__sign_2.fn h83)] ?_
   obtain rfl := si H;exact endsG (.inl rfl) (by kernel_rfl)
  rcases ite_some h14 with ⟨h10, h14⟩ | ⟨h10, h14⟩
  ·obtain ⟨h11, h14⟩ := nd h14
   obtain ⟨h12, h14⟩ := nd h14
   refine dl hmix 25 [[], [0], [0, 1], [0, 1, 2], [0, 1, 2, 3], [], [5], [5, 6], [5, 6, 7], [5, 6, 7, 8], [0, 1, 2, 3, 4, 5, 6, 7, 8, 9], [0, 1, 2, 3, 4, 5, 6, 7, 8, 9, 10], [0, 1, 2, 3, 4, 5, 6, 7, 8, 9, 10, 11], [0, 1, 2, 3, 4, 5, 6, 7, 8, 9, 10, 11, 12], [0, 1, 2, 3, 4, 5, 6, 7, 8, 9, 10, 11, 12, 13], [0, 1, 2, 3, 4, 5, 6, 7, 8, 9, 10, 11, 12, 13, 14], [0, 1, 2, 3, 4, 5, 6, 7, 8, 9, 10, 11], [0, 1, 2, 3, 4, 5, 6, 7, 8, 9, 10, 11, 16], [0, 1, 2, 3, 4, 5, 6, 7, 8, 9, 10, 11, 16, 17], [0, 1, 2, 3, 4, 5, 6, 7, 8, 9, 10, 11, 16, 17, 18], [0, 1, 2, 3, 4, 5, 6, 7, 8, 9, 10, 11], [0, 1, 2, 3, 4, 5, 6, 7, 8, 9, 10, 11, 20], [0, 1, 2, 3, 4, 5, 6, 7, 8, 9, 10, 11, 20, 21], [0, 1, 2, 3, 4, 5, 6, 7, 8, 9, 10, 11, 20, 21, 22], [0, 1, 2, 3, 4, 5, 6, 7, 8, 9, 10, 11, 20, 21, 22, 23], [0, 1, 2, 3, 4, 5, 6, 7, 8, 9, 10, 11, 12, 13, 14, 15, 16, 17, 18, 19, 20, 21, 22, 23, 24], [0, 1, 2, 3, 4, 5, 6, 7, 8, 9, 10, 11, 12, 13, 14, 15, 16, 17, 18, 19, 20, 21, 22, 23, 24, 25], [0, 1, 2, 3, 4, 5, 6, 7, 8, 9, 10, 11, 12, 13, 14, 15, 16, 17, 18, 19, 20, 21, 22, 23, 24, 25, 26], [0, 1, 2, 3, 4, 5, 6, 7, 8, 9, 10, 11, 12, 13, 14, 15, 16, 17, 18, 19, 20, 21, 22, 23, 24, 25, 26, 27]] [0, 2, 3, 44] 1 [] [hB 10 (decide_eq_true h10), p3 h1 h11 h12] ?_
   exact pf (decide ((b0.f0.extract (Int.toNat b0.f1) (Int.toNat (w64 (b0.f1 + 2)))) = (⟨#[40, 42]⟩ : ByteArray))) h14
  refine dl hmix 25 [[], [0], [0, 1], [0, 1, 2], [0, 1, 2, 3], [], [5], [5, 6], [5, 6, 7], [5, 6, 7, 8], [0, 1, 2, 3, 4, 5, 6, 7, 8, 9], [0, 1, 2, 3, 4, 5, 6, 7, 8, 9, 10], [0, 1, 2, 3, 4, 5, 6, 7, 8, 9, 10, 11], [0, 1, 2, 3, 4, 5, 6, 7, 8, 9, 10, 11, 12], [0, 1, 2, 3, 4, 5, 6, 7, 8, 9, 10, 11, 12, 13], [0, 1, 2, 3, 4, 5, 6, 7, 8, 9, 10, 11, 12, 13, 14], [0, 1, 2, 3, 4, 5, 6, 7, 8, 9, 10, 11], [0, 1, 2, 3, 4, 5, 6, 7, 8, 9, 10, 11, 16], [0, 1, 2, 3, 4, 5, 6, 7, 8, 9, 10, 11, 16, 17], [0, 1, 2, 3, 4, 5, 6, 7, 8, 9, 10, 11, 16, 17, 18], [0, 1, 2, 3, 4, 5, 6, 7, 8, 9, 10, 11], [0, 1, 2, 3, 4, 5, 6, 7, 8, 9, 10, 11, 20], [0, 1, 2, 3, 4, 5, 6, 7, 8, 9, 10, 11, 20, 21], [0, 1, 2, 3, 4, 5, 6, 7, 8, 9, 10, 11, 20, 21, 22], [0, 1, 2, 3, 4, 5, 6, 7, 8, 9, 10, 11, 20, 21, 22, 23], [0, 1, 2, 3, 4, 5, 6, 7, 8, 9, 10, 11, 12, 13, 14, 15, 16, 17, 18, 19, 20, 21, 22, 23, 24], [0, 1, 2, 3, 4, 5, 6, 7, 8, 9, 10, 11, 12, 13, 14, 15, 16, 17, 18, 19, 20, 21, 22, 23, 24, 25], [0, 1, 2, 3, 4, 5, 6, 7, 8, 9, 10, 11, 12, 13, 14, 15, 16, 17, 18, 19, 20, 21, 22, 23, 24, 25, 26], [0, 1, 2, 3, 4, 5, 6, 7, 8, 9, 10, 11, 12, 13, 14, 15, 16, 17, 18, 19, 20, 21, 22, 23, 24, 25, 26, 27]] [0, 2, 3, 44] 1 [] [hB 10 (decide_eq_false h10)] ?_
  exact pf false h14
 rcases ite_some h7 with ⟨h3, h7⟩ | ⟨h3, h7⟩
 ·refine rl [0, 2, 3, 22] 1 [] [hB 1 (decide_eq_true h3)] ?_
  exact pf true h7
 rcases ite_some h7 with ⟨h4, h7⟩ | ⟨h4, h7⟩
 ·refine rl [0, 2, 3, 22] 1 [] [hB 1 (decide_eq_false h3), hB 4 (decide_eq_true h4)] ?_
  exact pf true h7
 rcases ite_some h7 with ⟨h5, h7⟩ | ⟨h5, h7⟩
 ·refine rl [0, 2, 3, 22] 1 [] [hB 1 (decide_eq_false h3), hB 4 (decide_eq_false h4), hB 8 (decide_eq_true h5)] ?_
  exact pf true h7
 refine rl [0, 2, 3, 22] 1 [] [hB 1 (decide_eq_false h3), hB 4 (decide_eq_false h4), hB 8 (decide_eq_false h5)] ?_
 exact pf (decide ((byteAt b0.f0 b0.f1) = 13)) h7
/-! spec_l01Tokens: function 9 -/
def spec_l01Tokens.e1 (k : Nat) (a0 : ByteArray) (z16 : Int) (z18 : Int) : Option Bool := if z18 = 0 then (some (decide (z16 < (a0.size : Int)))) else (some false)
def spec_l01Tokens.l2 : Nat → ByteArray → Int → (List STok) → Int → Int → Option (Int × (List STok) × Int × Int)
  | 0, _, _, _, _, _ => none
  | k + 1, a0, z16, z17, z18, z19 => (spec_l01Tokens.e1 k a0 z16 z18).bind fun y21 => if y21 = true then ((spec_l01Scanner__one_2.f k (⟨a0, z16, z17, z18, z19⟩ : S65b163)).bind fun r25 => spec_l01Tokens.l2 k a0 r25.1 r25.2.1 r25.2.2.1 r25.2.2.2) else (some (z16, z17, z18, z19))
def spec_l01Tokens.e3 (k : Nat) (a0 : ByteArray) : Option (Int × (List STok) × Int × Int) := spec_l01Tokens.l2 k a0 0 ([] : List STok) 0 0
def spec_l01Tokens.f (k : Nat) (a0 : ByteArray) : Option ((List STok) × Int × Int) := (spec_l01Tokens.e3 k a0).bind fun v => match v with | (y28, y29, y30, y31) => if y30 = 0 then (if (([] : List STok) ++ y29).length * 40 ≤ 140737488355328 then (some (([] : List STok) ++ y29, 0, 0)) else none) else (some (([] : List STok), y30, y31))
theorem spec_l01Tokens.fn {k : Nat} {a0 : ByteArray} {r : ((List STok) × Int × Int)} (H : spec_l01Tokens.f k a0 = some r) : Fn Tryz.prog 9 [oS a0] [] (tp [none, none, none] [.own 30 (List.map eSTok r.1), cI r.2.1, cI r.2.2]) [] := by
 refine Fn.bd [2, 3, 4] Tryz.func9 ?_
 refine rn [0] 0 [] [] ?_
 refine rn [0, 5] 1 [] [] ?_
 refine jo H (fun w => ⟨45, [(5, o1 (.ref 0 0))], [[cS a0, cI w.1, .own 30 (List.map eSTok w.2.1), cI w.2.2.1, cI w.2.2.2]], 0, []⟩) (fun w H => ?_) fun v33 h32 H => ?_
 ·obtain ⟨y28, y29, y30, y31⟩ := w
  refine sq ?_
  refine rn [5, 29] 1 [] [] ?_
  refine cn H (fun h34 H => ?_) fun h34 H => ?_
  ·refine sk ?_
   obtain ⟨h35, H⟩ := nd H
   refine rn [2, 3, 4] 0 [] [hA 5 30 eSTok h35] ?_
   refine Tri.ret ?_
   obtain rfl := si H;exact eR
  refine dn hmix 11 [[], [], [1], [1, 2], [1, 2, 3], [], [5], [5, 6], [5, 6, 7], [0], [0, 1, 2, 3, 4, 9], [0, 1, 2, 3, 4, 5, 6, 7, 8, 9, 10]] [2, 3, 4, 30] 0 [] [] ?_;refine gv 2 1 ?_
  refine Tri.ret ?_
  obtain rfl := si H;exact eR
 refine bl ?_
 refine fx [0, 5] 1 [.own (.b 0 2) 30] ?_
 refine lo (Int × (List STok) × Int × Int) k (fun k x => spec_l01Tokens.l2 k a0 x.1 x.2.1 x.2.2.1 x.2.2.2) (fun x => ⟨45, [(0, oS a0), (5, o1 (.ref 0 0))], [[cS a0, cI x.1, .own 30 (List.map eSTok x.2.1), cI x.2.2.1, cI x.2.2.2]], 0, []⟩) (0, ([] : List STok), 0, 0) h32 fun k x h32 IH27 => ?_
 obtain ⟨z16, z17, z18, z19⟩ := x
 rw [spec_l01Tokens.l2.eq_2] at h32
 refine sq ?_
 refine jo h32 (fun y21 => ⟨45, [(0, oS a0), (5, o1 (.ref 0 0)), (22, oB y21)], [[cS a0, cI z16, .own 30 (List.map eSTok z17), cI z18, cI z19]], 0, []⟩) (fun y21 h32 => ?_) fun v23 h22 h32 => ?_
 ·refine cb h32 (fun h24 h32 => ?_) fun h24 h32 => ?_
  ·refine sk ?_
   refine bl ?_
   obtain ⟨r25, h26, h32⟩ := bs h32
   refine rl [0, 5] 1 [] [hG 1 [] [0] none (spec_l01Scanner__one_2.fn h26)] ?_
   exact lb IH27 (r25.1, r25.2.1, r25.2.2.1, r25.2.2.2) h32
  refine fx [5] 1 [] ?_
  refine xi ?_
  exact pf (z16, z17, z18, z19) h32
 rcases ite_some h22 with ⟨h20, h22⟩ | ⟨h20, h22⟩
 ·refine rl [0, 5, 22] 1 [] [hB 4 (decide_eq_true h20)] ?_
  exact pf (decide (z16 < (a0.size : Int))) h22
 refine rl [0, 5, 22] 1 [] [hB 4 (decide_eq_false h20)] ?_
 exact pf false h22
/-! spec_Tokens: function 4 -/
def spec_Tokens.f (k : Nat) (a0 : ByteArray) : Option ((List STok) × Int × Int) := if (65536 : Int) < (a0.size : Int) then (some (([] : List STok), 2, 0)) else (if (4000 : Int) < (a0.size : Int) then (some (([] : List STok), 15, 0)) else ((spec_l01Tokens.f k a0).bind fun r3 => some (r3.1, r3.2.1, r3.2.2)))
theorem spec_Tokens.fn {k : Nat} {a0 : ByteArray} {r : ((List STok) × Int × Int)} (H : spec_Tokens.f k a0 = some r) : Fn Tryz.prog 4 [oS a0] [] (tp [none, none, none] [.own 30 (List.map eSTok r.1), cI r.2.1, cI r.2.2]) [] := by
 refine Fn.bd [2, 3, 4] Tryz.func4 ?_
 refine rn [0] 0 [] [] ?_
 refine sq ?_
 refine rn [0, 7] 0 [] [] ?_
 refine ci H (fun h1 H => ?_) fun h1 H => ?_
 ·refine rn [2, 3, 4] 0 [] [] ?_
  refine Tri.ret ?_
  obtain rfl := si H;exact eR
 refine sk ?_
 refine sq ?_
 refine rn [0, 11] 0 [] [] ?_
 refine ci H (fun h2 H => ?_) fun h2 H => ?_
 ·refine rn [2, 3, 4] 0 [] [] ?_
  refine Tri.ret ?_
  obtain rfl := si H;exact eR
 refine sk ?_
 obtain ⟨r3, h4, H⟩ := bs H
 refine rn [2, 3, 4] 0 [] [hC 1 (spec_l01Tokens.fn h4) (show (List.all [.own 30 (List.map eSTok r3.1), cI r3.2.1, cI r3.2.2] PC.flatB) = true by simp [PC.flatB, PC.scalar, cI, cK, cB, cS, eSTok])] ?_
 refine Tri.ret ?_
 obtain rfl := si H;exact eR
/-! impl_isShort_string: function 10 -/
def impl_isShort_string.f (k : Nat) (a0 : ByteArray) : Option Bool := some (decide ((a0.size : Int) ≤ 65536))
theorem impl_isShort_string.fn {k : Nat} {a0 : ByteArray} {r : Bool} (H : impl_isShort_string.f k a0 = some r) : Fn Tryz.prog 10 [oS a0] [] (oB r) [] := by
 refine Fn.bd [2] Tryz.func10 ?_
 refine rn [0] 0 [] [] ?_
 refine rn [2] 0 [] [] ?_
 refine Tri.ret ?_
 obtain rfl := si H;exact eR
/-! impl_remark: function 28 -/
def impl_remark.e1 (k : Nat) (a0 : ByteArray) (z11 : Int) (z12 : Int) : Option (Int ⊕ (Int × Int)) := if (0 : Int) ≤ z12 then (if z12 ≤ w64 (z12 + 2) then (if (w64 (z12 + 2)) ≤ (a0.size : Int) then (if (a0.extract (Int.toNat z12) (Int.toNat (w64 (z12 + 2)))) = (⟨#[40, 42]⟩ : ByteArray) then (some (.inr (w64 (z11 + 1), w64 (z12 + 1)))) else (if (a0.extract (Int.toNat z12) (Int.toNat (w64 (z12 + 2)))) = (⟨#[42, 41]⟩ : ByteArray) then (if (w64 (z11 - 1)) = 0 then (some (.inl (w64 ((w64 (z12 + 1)) + 1)))) else (some (.inr (w64 (z11 - 1), w64 (z12 + 1))))) else (some (.inr (z11, z12))))) else none) else none) else none
def impl_remark.l2 : Nat → ByteArray → Int → Int → Option (Int ⊕ Unit)
  | 0, _, _, _ => none
  | k + 1, a0, z11, z12 => if (w64 (z12 + 1)) < (a0.size : Int) then ((impl_remark.e1 k a0 z11 z12).bind fun v => match v with | .inl r => some (.inl r) | .inr (y20, y21) => impl_remark.l2 k a0 y20 (w64 (y21 + 1))) else (some (.inr ()))
def impl_remark.e3 (k : Nat) (a0 : ByteArray) : Option (Int ⊕ Unit) := impl_remark.l2 k a0 0 0
def impl_remark.f (k : Nat) (a0 : ByteArray) : Option Int := (impl_remark.e3 k a0).bind fun v => match v with | .inl r => some r | .inr _ => some 0
theorem impl_remark.fn {k : Nat} {a0 : ByteArray} {r : Int} (H : impl_remark.f k a0 = some r) : Fn Tryz.prog 28 [oS a0] [] (oI r) [] := by
 refine Fn.bd [2] Tryz.func28 ?_
 refine rn [0] 0 [] [] ?_
 refine rn [0, 3] 0 [] [] ?_
 refine jr H (fun _ => ⟨33, [], [], 0, []⟩) (fun _ H => ?_) fun v26 h25 H => ?_
 ·refine rn [2] 0 [] [] ?_
  refine Tri.ret ?_
  obtain rfl := si H;exact eR
 refine rn [0, 3, 4] 0 [] [] ?_
 refine bl ?_
 refine lo (Int × Int) k (fun k x => impl_remark.l2 k a0 x.1 x.2) (fun x => ⟨33, [(0, oS a0), (3, oI x.1), (4, oI x.2)], [], 0, []⟩) (0, 0) h25 fun k x h25 IH24 => ?_
 obtain ⟨z11, z12⟩ := x
 rw [impl_remark.l2.eq_2] at h25
 refine sq ?_
 refine rn [0, 3, 4, 9] 0 [] [] ?_
 refine ci h25 (fun h13 h25 => ?_) fun h13 h25 => ?_
 ·refine sk ?_
  refine jr h25 (fun w => ⟨33, [(0, oS a0), (3, oI w.1), (4, oI w.2)], [], 0, []⟩) (fun w h25 => ?_) fun v23 h22 h25 => ?_
  ·obtain ⟨y20, y21⟩ := w
   refine rl [0, 3, 4] 0 [] [] ?_
   exact lb IH24 (y20, w64 (y21 + 1)) h25
  refine bl ?_
  obtain ⟨h14, h22⟩ := nd h22
  obtain ⟨h15, h22⟩ := nd h22
  obtain ⟨h16, h22⟩ := nd h22
  refine rn [0, 3, 4, 16] 0 [] [p3 h14 h15 h16] ?_
  refine bl ?_
  refine rn [0, 3, 4, 16, 17] 0 [] [] ?_
  refine ci h22 (fun h17 h22 => ?_) fun h17 h22 => ?_
  ·refine rn [0, 3, 4] 0 [] [] ?_
   refine rl [0, 3, 4] 0 [] [] ?_
   exact pe (w64 (z11 + 1), w64 (z12 + 1)) h22
  refine rn [0, 3, 4, 23] 0 [] [] ?_
  refine ci h22 (fun h18 h22 => ?_) fun h18 h22 => ?_
  ·refine rn [0, 3, 4] 0 [] [] ?_
   refine rx [0, 3, 4] 0 [] [] ⟨33, [(0, oS a0), (3, oI (w64 (z11 - 1))), (4, oI (w64 (z12 + 1)))], [], 0, []⟩ ?_
   refine rn [0, 3, 4, 30] 0 [] [] ?_
   refine ci h22 (fun h19 h22 => ?_) fun h19 h22 => ?_
   ·refine rn [2] 0 [] [] ?_
    refine Tri.ret ?_
    obtain rfl := si h22;obtain rfl := si h25;obtain rfl := si H;exact eR
   refine fx [0, 3, 4] 0 [] ?_
   refine sk ?_
   exact pe (w64 (z11 - 1), w64 (z12 + 1)) h22
  refine fx [0, 3, 4] 0 [] ?_
  refine sk ?_
  exact pe (z11, z12) h22
 refine fx [] 0 [] ?_
 refine xi ?_
 exact pe () h25
/-! impl_scanner__skip_2: function 15 -/
def impl_scanner__skip_2.l1 : Nat → SNeed → Int → Option ((Bool × Int) ⊕ Int)
  | 0, _, _ => none
  | k + 1, b0, z13 => if z13 < (b0.f0.size : Int) then (if (0 : Int) ≤ z13 then ((strings_IndexByte.f k (⟨#[32, 9, 10, 13]⟩ : ByteArray) (byteAt b0.f0 z13)).bind fun r16 => if (0 : Int) ≤ r16 then (impl_scanner__skip_2.l1 k b0 (w64 (z13 + 1))) else (if z13 ≤ (b0.f0.size : Int) then ((strings_HasPrefix.f k (b0.f0.extract (Int.toNat z13) (Int.toNat (b0.f0.size : Int))) (⟨#[40, 42]⟩ : ByteArray)).bind fun r20 => if r20 = true then ((impl_remark.f k (b0.f0.extract (Int.toNat z13) (Int.toNat (b0.f0.size : Int)))).bind fun r23 => if r23 = 0 then (some (.inl (false, z13))) else (impl_scanner__skip_2.l1 k b0 (w64 (z13 + r23)))) else (some (.inl (true, z13)))) else none)) else none) else (some (.inr z13))
def impl_scanner__skip_2.e2 (k : Nat) (b0 : SNeed) : Option ((Bool × Int) ⊕ Int) := impl_scanner__skip_2.l1 k b0 b0.f1
def impl_scanner__skip_2.f (k : Nat) (b0 : SNeed) : Option (Bool × Int) := (impl_scanner__skip_2.e2 k b0).bind fun v => match v with | .inl r => some r | .inr y27 => some (true, y27)
theorem impl_scanner__skip_2.fn {k : Nat} {b0 : SNeed} {r : (Bool × Int)} (H : impl_scanner__skip_2.f k b0 = some r) : FnG Tryz.prog 15 [o1 (.ref 0 0)] [] [eSNeed b0] (oB r.1) [] [[cS b0.f0, cI r.2]] := by
 refine FnG.body (ts := [2]) Tryz.func15 rfl rfl (by decide) (by decide) (Nat.le_of_ble_eq_true rfl) rfl (Nat.le_of_ble_eq_true rfl) ?_
 refine rn [0] 1 [] [] ?_
 refine jr H (fun y27 => ⟨64, [], [[cS b0.f0, cI y27]], 1, []⟩) (fun y27 H => ?_) fun v29 h28 H => ?_
 ·refine rn [2] 1 [] [] ?_
  refine Tri.ret ?_
  obtain rfl := si H;exact endsG (.inr rfl) (by kernel_rfl)
 refine bl ?_
 refine lo Int k (fun k x => impl_scanner__skip_2.l1 k b0 x) (fun x => ⟨64, [(0, o1 (.ref 0 0))], [[cS b0.f0, cI x]], 1, []⟩) b0.f1 h28 fun k z13 h28 IH26 => ?_
 rw [impl_scanner__skip_2.l1.eq_2] at h28
 refine sq ?_
 refine dn hmix 9 [[], [0], [0, 1], [0, 1, 2], [], [4], [4, 5], [4, 5, 6], [4, 5, 6, 7], [0, 1, 2, 3, 4, 5, 6, 7, 8]] [0, 13] 1 [] [] ?_
 refine ci h28 (fun h14 h28 => ?_) fun h14 h28 => ?_
 ·refine sk ?_
  refine bl ?_
  refine bl ?_
  obtain ⟨h15, h28⟩ := nd h28
  obtain ⟨r16, h17, h28⟩ := bs h28
  refine dn hmix 8 [[], [0], [0, 1], [0, 1, 2], [], [4], [4, 5], [4, 5, 6], [0, 1, 2, 3, 4, 5, 6, 7], [0, 1, 2, 3, 4, 5, 6, 7, 8], [0, 1, 2, 3, 4, 5, 6, 7, 8, 9], [0, 1, 2, 3, 4, 5, 6, 7, 8, 9, 10]] [0, 14] 1 [] [p2 h15 h14, hC 9 (strings_IndexByte.fn k (⟨#[32, 9, 10, 13]⟩ : ByteArray) (byteAt b0.f0 z13) r16 h17)] ?_
  refine ci h28 (fun h18 h28 => ?_) fun h18 h28 => ?_
  ·refine rl [0] 1 [] [] ?_
   exact lb IH26 (w64 (z13 + 1)) h28
  obtain ⟨h19, h28⟩ := nd h28
  obtain ⟨r20, h21, h28⟩ := bs h28
  refine dn hmix 8 [[], [0], [0, 1], [0, 1, 2], [], [4], [4, 5], [4, 5, 6], [0, 1, 2, 3, 4, 5, 6, 7], [0, 1, 2, 3, 4, 5, 6, 7, 8], [0, 1, 2, 3, 4, 5, 6, 7, 8, 9]] [0, 33] 1 [] [p3 h15 h19 (Int.le_refl (b0.f0.size : Int)), hC 9 (strings_HasPrefix.fn k (b0.f0.extract (Int.toNat z13) (Int.toNat (b0.f0.size : Int))) (⟨#[40, 42]⟩ : ByteArray) r20 h21)] ?_
  refine cb h28 (fun h22 h28 => ?_) fun h22 h28 => ?_
  ·obtain ⟨r23, h24, h28⟩ := bs h28
   refine dn hmix 8 [[], [0], [0, 1], [0, 1, 2], [], [4], [4, 5], [4, 5, 6], [0, 1, 2, 3, 4, 5, 6, 7], [0, 1, 2, 3, 4, 5, 6, 7, 8], [0, 1, 2, 3, 4, 5, 6, 7, 8, 9]] [0, 3] 1 [] [p3 h15 h19 (Int.le_refl (b0.f0.size : Int)), hC 9 (impl_remark.fn h24)] ?_
   refine sq ?_
   refine rn [0, 3, 55] 1 [] [] ?_
   refine ci h28 (fun h25 h28 => ?_) fun h25 h28 => ?_
   ·refine rx [2] 1 [] [] ⟨64, [(2, oB false)], [[cS b0.f0, cI z13]], 1, []⟩ ?_
    refine Tri.ret ?_
    obtain rfl := si h28;obtain rfl := si H;exact endsG (.inr rfl) (by kernel_rfl)
   refine sk ?_
   refine rl [0] 1 [] [] ?_
   exact lb IH26 (w64 (z13 + r23)) h28
  refine rn [2] 1 [] [] ?_
  refine Tri.ret ?_
  obtain rfl := si h28;obtain rfl := si H;exact endsG (.inr rfl) (by kernel_rfl)
 refine fx [] 1 [] ?_
 refine xi ?_
 exact pe z13 h28
/-! impl_isLetter: function 30 -/
def impl_isLetter.e1 (k : Nat) (a0 : Int) : Option Bool := if (97 : Int) ≤ a0 then (if a0 ≤ 122 then (some true) else (if (65 : Int) ≤ a0 then (if a0 ≤ 90 then (some true) else (some (decide (a0 = 95)))) else (some (decide (a0 = 95))))) else (if (65 : Int) ≤ a0 then (if a0 ≤ 90 then (some true) else (some (decide (a0 = 95)))) else (some (decide (a0 = 95))))
def impl_isLetter.f (k : Nat) (a0 : Int) : Option Bool := (impl_isLetter.e1 k a0).bind fun y7 => some y7
theorem impl_isLetter.fn {k : Nat} {a0 : Int} {r : Bool} (H : impl_isLetter.f k a0 = some r) : Fn Tryz.prog 30 [o1 (cK .u8 a0)] [] (oB r) [] := by
 refine Fn.bd [2] Tryz.func30 ?_
 refine rn [0] 0 [] [] ?_
 refine jo H (fun y7 => ⟨21, [(2, oB y7)], [], 0, []⟩) (fun y7 H => ?_) fun v9 h8 H => ?_
 ·refine Tri.ret ?_
  obtain rfl := si H;exact eR
 rcases ite_some h8 with ⟨h1, h8⟩ | ⟨h1, h8⟩
 ·rcases ite_some h8 with ⟨h2, h8⟩ | ⟨h2, h8⟩
  ·refine rl [2] 0 [] [hB 1 (decide_eq_true h1), hB 4 (decide_eq_true h2)] ?_
   exact pf true h8
  rcases ite_some h8 with ⟨h3, h8⟩ | ⟨h3, h8⟩
  ·rcases ite_some h8 with ⟨h4, h8⟩ | ⟨h4, h8⟩
   ·refine rl [2] 0 [] [hB 1 (decide_eq_true h1), hB 4 (decide_eq_false h2), hB 8 (decide_eq_true h3), hB 11 (decide_eq_true h4)] ?_
    exact pf true h8
   refine rl [2] 0 [] [hB 1 (decide_eq_true h1), hB 4 (decide_eq_false h2), hB 8 (decide_eq_true h3), hB 11 (decide_eq_false h4)] ?_
   exact pf (decide (a0 = 95)) h8
  refine rl [2] 0 [] [hB 1 (decide_eq_true h1), hB 4 (decide_eq_false h2), hB 8 (decide_eq_false h3)] ?_
  exact pf (decide (a0 = 95)) h8
 rcases ite_some h8 with ⟨h5, h8⟩ | ⟨h5, h8⟩
 ·rcases ite_some h8 with ⟨h6, h8⟩ | ⟨h6, h8⟩
  ·refine rl [2] 0 [] [hB 1 (decide_eq_false h1), hB 8 (decide_eq_true h5), hB 11 (decide_eq_true h6)] ?_
   exact pf true h8
  refine rl [2] 0 [] [hB 1 (decide_eq_false h1), hB 8 (decide_eq_true h5), hB 11 (decide_eq_false h6)] ?_
  exact pf (decide (a0 = 95)) h8
 refine rl [2] 0 [] [hB 1 (decide_eq_false h1), hB 8 (decide_eq_false h5)] ?_
 exact pf (decide (a0 = 95)) h8
/-! impl_isDigit: function 32 -/
def impl_isDigit.e1 (k : Nat) (a0 : Int) : Option Bool := if (48 : Int) ≤ a0 then (some (decide (a0 ≤ 57))) else (some false)
def impl_isDigit.f (k : Nat) (a0 : Int) : Option Bool := (impl_isDigit.e1 k a0).bind fun y2 => some y2
theorem impl_isDigit.fn {k : Nat} {a0 : Int} {r : Bool} (H : impl_isDigit.f k a0 = some r) : Fn Tryz.prog 32 [o1 (cK .u8 a0)] [] (oB r) [] := by
 refine Fn.bd [2] Tryz.func32 ?_
 refine rn [0] 0 [] [] ?_
 refine jo H (fun y2 => ⟨9, [(2, oB y2)], [], 0, []⟩) (fun y2 H => ?_) fun v4 h3 H => ?_
 ·refine Tri.ret ?_
  obtain rfl := si H;exact eR
 rcases ite_some h3 with ⟨h1, h3⟩ | ⟨h1, h3⟩
 ·refine rl [2] 0 [] [hB 1 (decide_eq_true h1)] ?_
  exact pf (decide (a0 ≤ 57)) h3
 refine rl [2] 0 [] [hB 1 (decide_eq_false h1)] ?_
 exact pf false h3
/-! impl_isWordByte: function 46 -/
def impl_isWordByte.e1 (k : Nat) (a0 : Int) : Option Bool := (impl_isLetter.f k a0).bind fun r1 => if r1 = true then (some true) else ((impl_isDigit.f k a0).bind fun r4 => some r4)
def impl_isWordByte.f (k : Nat) (a0 : Int) : Option Bool := (impl_isWordByte.e1 k a0).bind fun y6 => some y6
theorem impl_isWordByte.fn {k : Nat} {a0 : Int} {r : Bool} (H : impl_isWordByte.f k a0 = some r) : Fn Tryz.prog 46 [o1 (cK .u8 a0)] [] (oB r) [] := by
 refine Fn.bd [2] Tryz.func46 ?_
 refine rn [0] 0 [] [] ?_
 refine jo H (fun y6 => ⟨9, [(2, oB y6)], [], 0, []⟩) (fun y6 H => ?_) fun v8 h7 H => ?_
 ·refine Tri.ret ?_
  obtain rfl := si H;exact eR
 obtain ⟨r1, h2, h7⟩ := bs h7
 rcases iteb_some h7 with ⟨h3, h7⟩ | ⟨h3, h7⟩
 ·refine rl [2] 0 [] [hC 1 (impl_isLetter.fn h2), hB 1 h3] ?_
  exact pf true h7
 obtain ⟨r4, h5, h7⟩ := bs h7
 refine rl [2] 0 [] [hC 1 (impl_isLetter.fn h2), hB 1 h3, hC 4 (impl_isDigit.fn h5)] ?_
 exact pf r4 h7
/-! impl_wordSize: function 29 -/
def impl_wordSize.e1 (k : Nat) (a0 : ByteArray) (z10 : Int) : Option Bool := if z10 < (a0.size : Int) then (if (0 : Int) ≤ z10 then ((impl_isWordByte.f k (byteAt a0 z10)).bind fun r13 => some r13) else none) else (some false)
def impl_wordSize.l2 : Nat → ByteArray → Int → Option Int
  | 0, _, _ => none
  | k + 1, a0, z10 => (impl_wordSize.e1 k a0 z10).bind fun y15 => if y15 = true then (impl_wordSize.l2 k a0 (w64 (z10 + 1))) else (some z10)
def impl_wordSize.e3 (k : Nat) (a0 : ByteArray) : Option Int := impl_wordSize.l2 k a0 0
def impl_wordSize.f (k : Nat) (a0 : ByteArray) : Option Int := (impl_wordSize.e3 k a0).bind fun y20 => some y20
theorem impl_wordSize.fn {k : Nat} {a0 : ByteArray} {r : Int} (H : impl_wordSize.f k a0 = some r) : Fn Tryz.prog 29 [oS a0] [] (oI r) [] := by
 refine Fn.bd [2] Tryz.func29 ?_
 refine rn [0] 0 [] [] ?_
 refine rn [0, 3] 0 [] [] ?_
 refine jo H (fun y20 => ⟨17, [(3, oI y20)], [], 0, []⟩) (fun y20 H => ?_) fun v22 h21 H => ?_
 ·refine rn [2] 0 [] [] ?_
  refine Tri.ret ?_
  obtain rfl := si H;exact eR
 refine bl ?_
 refine lo Int k (fun k x => impl_wordSize.l2 k a0 x) (fun x => ⟨17, [(0, oS a0), (3, oI x)], [], 0, []⟩) 0 h21 fun k z10 h21 IH19 => ?_
 rw [impl_wordSize.l2.eq_2] at h21
 refine sq ?_
 refine jo h21 (fun y15 => ⟨17, [(0, oS a0), (3, oI z10), (13, oB y15)], [], 0, []⟩) (fun y15 h21 => ?_) fun v17 h16 h21 => ?_
 ·refine cb h21 (fun h18 h21 => ?_) fun h18 h21 => ?_
  ·refine sk ?_
   refine bl ?_
   refine rl [0, 3] 0 [] [] ?_
   exact lb IH19 (w64 (z10 + 1)) h21
  refine fx [3] 0 [] ?_
  refine xi ?_
  exact pf z10 h21
 rcases ite_some h16 with ⟨h11, h16⟩ | ⟨h11, h16⟩
 ·obtain ⟨h12, h16⟩ := nd h16
  obtain ⟨r13, h14, h16⟩ := bs h16
  refine rl [0, 3, 13] 0 [] [hB 3 (decide_eq_true h11), p2 h12 h11, hC 8 (impl_isWordByte.fn h14)] ?_
  exact pf r13 h16
 refine rl [0, 3, 13] 0 [] [hB 3 (decide_eq_false h11)] ?_
 exact pf false h16
/-! impl_keys: function 48 -/
def impl_keys.f (k : Nat) : Option (List ByteArray) := (strings_Fields.f k (⟨#[77, 79, 68, 85, 76, 69, 32, 73, 77, 80, 79, 82, 84, 32, 67, 79, 78, 83, 84, 32, 86, 65, 82, 32, 80, 82, 79, 67, 69, 68, 85, 82, 69, 32, 66, 69, 71, 73, 78, 32, 69, 78, 68, 32, 73, 70, 32, 84, 72, 69, 78, 32, 69, 76, 83, 73, 70, 32, 69, 76, 83, 69, 32, 87, 72, 73, 76, 69, 32, 68, 79, 32, 82, 69, 84, 85, 82, 78, 32, 79, 82, 32, 68, 73, 86, 32, 77, 79, 68, 32, 84, 82, 85, 69, 32, 70, 65, 76, 83, 69, 32, 65, 82, 82, 65, 89, 32, 79, 70, 32, 73, 78, 84, 69, 71, 69, 82, 32, 66, 79, 79, 76, 69, 65, 78, 32, 67, 72, 65, 82, 32, 87, 82, 73, 84, 69, 32, 82, 69, 65, 68, 32, 79, 82, 68, 32, 67, 72, 82, 32, 76, 69, 78]⟩ : ByteArray)).bind fun r1 => some r1
theorem impl_keys.fn {k : Nat} {r : (List ByteArray)} (H : impl_keys.f k  = some r) : Fn Tryz.prog 48 [] [] (o1 (.own 9 (List.map eS r))) [] := by
 refine Fn.bd [0] Tryz.func48 ?_
 refine rn [] 0 [] [] ?_
 obtain ⟨r1, h2, H⟩ := bs H
 refine rn [0] 0 [] [hC 0 (strings_Fields.fn k (⟨#[77, 79, 68, 85, 76, 69, 32, 73, 77, 80, 79, 82, 84, 32, 67, 79, 78, 83, 84, 32, 86, 65, 82, 32, 80, 82, 79, 67, 69, 68, 85, 82, 69, 32, 66, 69, 71, 73, 78, 32, 69, 78, 68, 32, 73, 70, 32, 84, 72, 69, 78, 32, 69, 76, 83, 73, 70, 32, 69, 76, 83, 69, 32, 87, 72, 73, 76, 69, 32, 68, 79, 32, 82, 69, 84, 85, 82, 78, 32, 79, 82, 32, 68, 73, 86, 32, 77, 79, 68, 32, 84, 82, 85, 69, 32, 70, 65, 76, 83, 69, 32, 65, 82, 82, 65, 89, 32, 79, 70, 32, 73, 78, 84, 69, 71, 69, 82, 32, 66, 79, 79, 76, 69, 65, 78, 32, 67, 72, 65, 82, 32, 87, 82, 73, 84, 69, 32, 82, 69, 65, 68, 32, 79, 82, 68, 32, 67, 72, 82, 32, 76, 69, 78]⟩ : ByteArray) r1 h2) (show (List.all [.own 9 (List.map eS r1)] PC.flatB) = true by simp [PC.flatB, PC.scalar, cI, cK, cB, cS, eS])] ?_
 refine Tri.ret ?_
 obtain rfl := si H;exact eR
/-! slices_Index___string_string: function 61 -/
def slices_Index___string_string.l1 : Nat → (List ByteArray) → ByteArray → Int → Option (Int ⊕ Unit)
  | 0, _, _, _ => none
  | k + 1, a0, a1, z5 => if z5 < (a0.length : Int) then ((at? a0 z5).bind fun x7 => if a1 = x7 then (some (.inl z5)) else (slices_Index___string_string.l1 k a0 a1 (w64 (z5 + 1)))) else (some (.inr ()))
def slices_Index___string_string.e2 (k : Nat) (a0 : (List ByteArray)) (a1 : ByteArray) : Option (Int ⊕ Unit) := slices_Index___string_string.l1 k a0 a1 0
def slices_Index___string_string.f (k : Nat) (a0 : (List ByteArray)) (a1 : ByteArray) : Option Int := (slices_Index___string_string.e2 k a0 a1).bind fun v => match v with | .inl r => some r | .inr _ => some (-1)
theorem slices_Index___string_string.fn {k : Nat} {a0 : (List ByteArray)} {a1 : ByteArray} {r : Int} (H : slices_Index___string_string.f k a0 a1 = some r) : Fn Tryz.prog 61 [o1 (.sl 1 (List.map eS a0)), oS a1] [] (oI r) [] := by
 refine Fn.bd [4] Tryz.func61 ?_
 refine rn [0, 1] 0 [] [] ?_
 refine jr H (fun _ => ⟨19, [], [], 0, []⟩) (fun _ H => ?_) fun v12 h11 H => ?_
 ·refine rn [4] 0 [] [] ?_
  refine Tri.ret ?_
  obtain rfl := si H;exact eR
 refine rn [0, 1, 7, 8] 0 [] [hL 1 eS a0] ?_
 refine bl ?_
 refine lo Int k (fun k x => slices_Index___string_string.l1 k a0 a1 x) (fun x => ⟨19, [(0, o1 (.sl 1 (List.map eS a0))), (1, oS a1), (7, oI (a0.length : Int)), (8, oI x)], [], 0, []⟩) 0 h11 fun k z5 h11 IH10 => ?_
 rw [slices_Index___string_string.l1.eq_2] at h11
 refine rn [0, 1, 7, 8, 9] 0 [] [] ?_
 refine sq ?_
 refine ci h11 (fun h6 h11 => ?_) fun h6 h11 => ?_
 ·refine sk ?_
  refine sq ?_
  refine bl ?_
  refine rn [0, 1, 5, 7, 8] 0 [] [] ?_
  obtain ⟨x7, h8, h11⟩ := bs h11
  refine rn [0, 1, 5, 7, 8, 16] 0 [] [hE 3 eS h8] ?_
  refine ci h11 (fun h9 h11 => ?_) fun h9 h11 => ?_
  ·refine rn [4] 0 [] [] ?_
   refine Tri.ret ?_
   obtain rfl := si h11;obtain rfl := si H;exact eR
  refine sk ?_
  refine rl [0, 1, 7, 8] 0 [] [] ?_
  exact lb IH10 (w64 (z5 + 1)) h11
 refine fx [] 0 [] ?_
 refine xi ?_
 exact pe () h11
/-! slices_Contains___string_string: function 47 -/
def slices_Contains___string_string.f (k : Nat) (a0 : (List ByteArray)) (a1 : ByteArray) : Option Bool := (slices_Index___string_string.f k a0 a1).bind fun r1 => some (decide ((0 : Int) ≤ r1))
theorem slices_Contains___string_string.fn {k : Nat} {a0 : (List ByteArray)} {a1 : ByteArray} {r : Bool} (H : slices_Contains___string_string.f k a0 a1 = some r) : Fn Tryz.prog 47 [o1 (.sl 1 (List.map eS a0)), oS a1] [] (oB r) [] := by
 refine Fn.bd [4] Tryz.func47 ?_
 refine rn [0, 1] 0 [] [] ?_
 obtain ⟨r1, h2, H⟩ := bs H
 refine rn [4] 0 [] [hC 2 (slices_Index___string_string.fn h2)] ?_
 refine Tri.ret ?_
 obtain rfl := si H;exact eR
/-! impl_IsKey: function 31 -/
def impl_IsKey.f (k : Nat) (a0 : ByteArray) : Option Bool := (impl_keys.f k).bind fun r1 => (slices_Contains___string_string.f k r1 a0).bind fun r3 => some r3
theorem impl_IsKey.fn {k : Nat} {a0 : ByteArray} {r : Bool} (H : impl_IsKey.f k a0 = some r) : Fn Tryz.prog 31 [oS a0] [] (oB r) [] := by
 refine Fn.bd [2] Tryz.func31 ?_
 refine rn [0] 0 [] [] ?_
 obtain ⟨r1, h2, H⟩ := bs H
 obtain ⟨r3, h4, H⟩ := bs H
 refine rn [2] 0 [] [hC 0 (impl_keys.fn h2) (show (List.all [.own 9 (List.map eS r1)] PC.flatB) = true by simp [PC.flatB, PC.scalar, cI, cK, cB, cS, eS]), hC 2 (slices_Contains___string_string.fn h4)] ?_
 refine Tri.ret ?_
 obtain rfl := si H;exact eR
/-! impl_isPlain: function 57 -/
def impl_isPlain.e1 (k : Nat) (a0 : Int) : Option Bool := if (32 : Int) ≤ a0 then (if a0 = 127 then (some false) else (some (!(decide (a0 = 34))))) else (some false)
def impl_isPlain.f (k : Nat) (a0 : Int) : Option Bool := (impl_isPlain.e1 k a0).bind fun y3 => some y3
theorem impl_isPlain.fn {k : Nat} {a0 : Int} {r : Bool} (H : impl_isPlain.f k a0 = some r) : Fn Tryz.prog 57 [oI a0] [] (oB r) [] := by
 refine Fn.bd [2] Tryz.func57 ?_
 refine rn [0] 0 [] [] ?_
 refine jo H (fun y3 => ⟨13, [(2, oB y3)], [], 0, []⟩) (fun y3 H => ?_) fun v5 h4 H => ?_
 ·refine Tri.ret ?_
  obtain rfl := si H;exact eR
 rcases ite_some h4 with ⟨h1, h4⟩ | ⟨h1, h4⟩
 ·rcases ite_some h4 with ⟨h2, h4⟩ | ⟨h2, h4⟩
  ·refine rl [2] 0 [] [hB 1 (decide_eq_true h1), hB 4 (nF (decide_eq_true h2))] ?_
   exact pf false h4
  refine rl [2] 0 [] [hB 1 (decide_eq_true h1), hB 4 (nT (decide_eq_false h2))] ?_
  exact pf (!(decide (a0 = 34))) h4
 refine rl [2] 0 [] [hB 1 (decide_eq_false h1)] ?_
 exact pf false h4
/-! impl_quoted: function 34 -/
def impl_quoted.e1 (k : Nat) (a0 : ByteArray) (r2 : (Int × Int)) : Option Bool := if r2.1 = 65533 then (if r2.2 < 2 then (some true) else ((impl_isPlain.f k (w64 (r2.1))).bind fun r6 => if r6 = true then (if (0 : Int) ≤ (w64 (1 + r2.2)) then (if (w64 (1 + r2.2)) ≤ (a0.size : Int) then ((strings_HasPrefix.f k (a0.extract (Int.toNat (w64 (1 + r2.2))) (Int.toNat (a0.size : Int))) (⟨#[34]⟩ : ByteArray)).bind fun r11 => some (!r11)) else none) else none) else (some true))) else ((impl_isPlain.f k (w64 (r2.1))).bind fun r13 => if r13 = true then (if (0 : Int) ≤ (w64 (1 + r2.2)) then (if (w64 (1 + r2.2)) ≤ (a0.size : Int) then ((strings_HasPrefix.f k (a0.extract (Int.toNat (w64 (1 + r2.2))) (Int.toNat (a0.size : Int))) (⟨#[34]⟩ : ByteArray)).bind fun r18 => some (!r18)) else none) else none) else (some true))
def impl_quoted.f (k : Nat) (a0 : ByteArray) : Option (STok × Int × Bool × Int × Int × ByteArray × Int) := if (1 : Int) ≤ (a0.size : Int) then ((unicode_utf8_DecodeRuneInString.f k (a0.extract (Int.toNat 1) (Int.toNat (a0.size : Int)))).bind fun r2 => (impl_quoted.e1 k a0 r2).bind fun y20 => if y20 = true then (some ((⟨0, 0, (⟨#[]⟩ : ByteArray), 0⟩ : STok), 0, false, 0, 0, (⟨#[]⟩ : ByteArray), 0)) else (some ((⟨4, w64 (r2.1), (⟨#[]⟩ : ByteArray), 0⟩ : STok), w64 (r2.2 + 2), true, 4, w64 (r2.1), (⟨#[]⟩ : ByteArray), 0))) else none
theorem impl_quoted.fn {k : Nat} {a0 : ByteArray} {r : (STok × Int × Bool × Int × Int × ByteArray × Int)} (H : impl_quoted.f k a0 = some r) : FnG Tryz.prog 34 [oS a0] [] [] (tp [some 4, none, none] [cI r.1.f0, cI r.1.f1, cS r.1.f2, cI r.1.f3, cI r.2.1, cB r.2.2.1]) [] [[cI r.2.2.2.1, cI r.2.2.2.2.1, cS r.2.2.2.2.2.1, cI r.2.2.2.2.2.2]] := by
 refine FnG.bodyR (rv := [(2, some 30), (3, none), (4, none)]) Tryz.func34 rfl rfl (by decide) (by decide) (Nat.le_of_ble_eq_true rfl) rfl (Nat.le_of_ble_eq_true rfl) ?_
 refine rn [0, 2] 1 [] [] ?_
 obtain ⟨h1, H⟩ := nd H
 obtain ⟨r2, h3, H⟩ := bs H
 refine rn [0, 2, 5, 6] 1 [] [p3 (show (0 : Int) ≤ 1 by decide) h1 (Int.le_refl (a0.size : Int)), hC 2 (unicode_utf8_DecodeRuneInString.fn k (a0.extract (Int.toNat 1) (Int.toNat (a0.size : Int))) r2 h3)] ?_
 refine sq ?_
 refine jo H (fun y20 => ⟨39, [(2, o1 (.ref 0 0)), (5, o1 (cK .i32 r2.1)), (6, oI r2.2), (32, oB y20)], [[cI 0, cI 0, cS (⟨#[]⟩ : ByteArray), cI 0]], 0, []⟩) (fun y20 H => ?_) fun v22 h21 H => ?_
 ·refine cb H (fun h23 H => ?_) fun h23 H => ?_
  ·refine rn [2, 3, 4] 1 [] [] ?_
   refine Tri.ret ?_
   obtain rfl := si H;exact endsR (.inr rfl) (by kernel_rfl)
  refine sk ?_
  refine rn [2, 3, 4] 1 [] [] ?_
  refine Tri.ret ?_
  obtain rfl := si H;exact endsR (.inr rfl) (by kernel_rfl)
 rcases ite_some h21 with ⟨h4, h21⟩ | ⟨h4, h21⟩
 ·rcases ite_some h21 with ⟨h5, h21⟩ | ⟨h5, h21⟩
  ·refine rl [2, 5, 6, 32] 1 [] [hB 1 (decide_eq_true h4), hB 4 (decide_eq_true h5)] ?_
   exact pf true h21
  obtain ⟨r6, h7, h21⟩ := bs h21
  rcases iteb_some h21 with ⟨h8, h21⟩ | ⟨h8, h21⟩
  ·obtain ⟨h9, h21⟩ := nd h21
   obtain ⟨h10, h21⟩ := nd h21
   obtain ⟨r11, h12, h21⟩ := bs h21
   refine rl [2, 5, 6, 32] 1 [] [hB 1 (decide_eq_true h4), hB 4 (decide_eq_false h5), hC 9 (impl_isPlain.fn h7), hB 9 h8, p3 h9 h10 (Int.le_refl (a0.size : Int)), hC 17 (strings_HasPrefix.fn k (a0.extract (Int.toNat (w64 (1 + r2.2))) (Int.toNat (a0.size : Int))) (⟨#[34]⟩ : ByteArray) r11 h12)] ?_
   exact pf (!r11) h21
  refine rl [2, 5, 6, 32] 1 [] [hB 1 (decide_eq_true h4), hB 4 (decide_eq_false h5), hC 9 (impl_isPlain.fn h7), hB 9 h8] ?_
  exact pf true h21
 obtain ⟨r13, h14, h21⟩ := bs h21
 rcases iteb_some h21 with ⟨h15, h21⟩ | ⟨h15, h21⟩
 ·obtain ⟨h16, h21⟩ := nd h21
  obtain ⟨h17, h21⟩ := nd h21
  obtain ⟨r18, h19, h21⟩ := bs h21
  refine rl [2, 5, 6, 32] 1 [] [hB 1 (decide_eq_false h4), hC 9 (impl_isPlain.fn h14), hB 9 h15, p3 h16 h17 (Int.le_refl (a0.size : Int)), hC 17 (strings_HasPrefix.fn k (a0.extract (Int.toNat (w64 (1 + r2.2))) (Int.toNat (a0.size : Int))) (⟨#[34]⟩ : ByteArray) r18 h19)] ?_
  exact pf (!r18) h21
 refine rl [2, 5, 6, 32] 1 [] [hB 1 (decide_eq_false h4), hC 9 (impl_isPlain.fn h14), hB 9 h15] ?_
 exact pf true h21
/-! impl_signs: function 36 -/
def impl_signs.f (k : Nat) : Option (List ByteArray) := (strings_Fields.f k (⟨#[58, 61, 32, 60, 61, 32, 62, 61, 32, 61, 32, 35, 32, 60, 32, 62, 32, 43, 32, 45, 32, 42, 32, 40, 32, 41, 32, 91, 32, 93, 32, 44, 32, 59, 32, 58, 32, 46, 32, 38, 32, 126]⟩ : ByteArray)).bind fun r1 => some r1
theorem impl_signs.fn {k : Nat} {r : (List ByteArray)} (H : impl_signs.f k  = some r) : Fn Tryz.prog 36 [] [] (o1 (.own 9 (List.map eS r))) [] := by
 refine Fn.bd [0] Tryz.func36 ?_
 refine rn [] 0 [] [] ?_
 obtain ⟨r1, h2, H⟩ := bs H
 refine rn [0] 0 [] [hC 0 (strings_Fields.fn k (⟨#[58, 61, 32, 60, 61, 32, 62, 61, 32, 61, 32, 35, 32, 60, 32, 62, 32, 43, 32, 45, 32, 42, 32, 40, 32, 41, 32, 91, 32, 93, 32, 44, 32, 59, 32, 58, 32, 46, 32, 38, 32, 126]⟩ : ByteArray) r1 h2) (show (List.all [.own 9 (List.map eS r1)] PC.flatB) = true by simp [PC.flatB, PC.scalar, cI, cK, cB, cS, eS])] ?_
 refine Tri.ret ?_
 obtain rfl := si H;exact eR
/-! impl_scanner__next_1_1: function 37 -/
def impl_scanner__next_1_1.f (k : Nat) (a0 : ByteArray) (a1_1 : ByteArray) : Option Bool := (strings_HasPrefix.f k a1_1 a0).bind fun r1 => some r1
theorem impl_scanner__next_1_1.fn {k : Nat} {a0 : ByteArray} {a1_1 : ByteArray} {r : Bool} (H : impl_scanner__next_1_1.f k a0 a1_1 = some r) : Fn Tryz.prog 37 [oS a0, o1 (.cel [cS a1_1] 0)] [] (oB r) [] := by
 refine Fn.bd [3] Tryz.func37 ?_
 refine rn [0, 1] 0 [] [] ?_
 obtain ⟨r1, h2, H⟩ := bs H
 refine rn [3] 0 [] [hC 2 (strings_HasPrefix.fn k a1_1 a0 r1 h2)] ?_
 refine Tri.ret ?_
 obtain rfl := si H;exact eR
/-! slices_IndexFunc___string_string_1: function 35 -/
def slices_IndexFunc___string_string_1.l1 : Nat → (List ByteArray) → ByteArray → Int → Option (Int ⊕ Unit)
  | 0, _, _, _ => none
  | k + 1, a0, a1_1, z7 => if z7 < (a0.length : Int) then ((at? a0 z7).bind fun x9 => (impl_scanner__next_1_1.f k x9 a1_1).bind fun r11 => if r11 = true then (some (.inl z7)) else (slices_IndexFunc___string_string_1.l1 k a0 a1_1 (w64 (z7 + 1)))) else (some (.inr ()))
def slices_IndexFunc___string_string_1.e2 (k : Nat) (a0 : (List ByteArray)) (a1_1 : ByteArray) : Option (Int ⊕ Unit) := slices_IndexFunc___string_string_1.l1 k a0 a1_1 0
def slices_IndexFunc___string_string_1.f (k : Nat) (a0 : (List ByteArray)) (a1_1 : ByteArray) : Option Int := (slices_IndexFunc___string_string_1.e2 k a0 a1_1).bind fun v => match v with | .inl r => some r | .inr _ => some (-1)
theorem slices_IndexFunc___string_string_1.fn {k : Nat} {a0 : (List ByteArray)} {a1_1 : ByteArray} {r : Int} (H : slices_IndexFunc___string_string_1.f k a0 a1_1 = some r) : Fn Tryz.prog 35 [o1 (.sl 1 (List.map eS a0)), o1 (.fn 37 [.cel [cS a1_1] 0])] [] (oI r) [] := by
 refine Fn.bd [4] Tryz.func35 ?_
 refine rn [0, 1] 0 [] [] ?_
 refine jr H (fun _ => ⟨19, [], [], 0, []⟩) (fun _ H => ?_) fun v16 h15 H => ?_
 ·refine rn [4] 0 [] [] ?_
  refine Tri.ret ?_
  obtain rfl := si H;exact eR
 refine rn [0, 1, 7, 8] 0 [] [hL 1 eS a0] ?_
 refine bl ?_
 refine lo Int k (fun k x => slices_IndexFunc___string_string_1.l1 k a0 a1_1 x) (fun x => ⟨19, [(0, o1 (.sl 1 (List.map eS a0))), (1, o1 (.fn 37 [.cel [cS a1_1] 0])), (7, oI (a0.length : Int)), (8, oI x)], [], 0, []⟩) 0 h15 fun k z7 h15 IH14 => ?_
 rw [slices_IndexFunc___string_string_1.l1.eq_2] at h15
 refine rn [0, 1, 7, 8, 9] 0 [] [] ?_
 refine sq ?_
 refine ci h15 (fun h8 h15 => ?_) fun h8 h15 => ?_
 ·refine sk ?_
  refine sq ?_
  refine bl ?_
  refine rn [0, 1, 5, 7, 8] 0 [] [] ?_
  obtain ⟨x9, h10, h15⟩ := bs h15
  obtain ⟨r11, h12, h15⟩ := bs h15
  refine rn [0, 1, 5, 7, 8, 16] 0 [] [hE 3 eS h10, hC 5 (impl_scanner__next_1_1.fn h12)] ?_
  refine cb h15 (fun h13 h15 => ?_) fun h13 h15 => ?_
  ·refine rn [4] 0 [] [] ?_
   refine Tri.ret ?_
   obtain rfl := si h15;obtain rfl := si H;exact eR
  refine sk ?_
  refine rl [0, 1, 7, 8] 0 [] [] ?_
  exact lb IH14 (w64 (z7 + 1)) h15
 refine fx [] 0 [] ?_
 refine xi ?_
 exact pe () h15
/-! impl_scanner__next_2: function 16 -/
def impl_scanner__next_2.e1 (k : Nat) (b0 : SNeed) (r3 : Int) : Option Int := (impl_IsKey.f k ((b0.f0.extract (Int.toNat b0.f1) (Int.toNat (b0.f0.size : Int))).extract (Int.toNat 0) (Int.toNat r3))).bind fun r12 => if r12 = true then (some 2) else (some 1)
def impl_scanner__next_2.e2 (k : Nat) (b0 : SNeed) (r3 : Int) : Option ((STok × Bool × Int × Int × Int × ByteArray × Int) ⊕ (Int × Bool × Int × Int × ByteArray × Int)) := if (0 : Int) ≤ 0 then (if 0 < ((b0.f0.extract (Int.toNat b0.f1) (Int.toNat (b0.f0.size : Int))).size : Int) then ((impl_isLetter.f k (byteAt (b0.f0.extract (Int.toNat b0.f1) (Int.toNat (b0.f0.size : Int))) 0)).bind fun r7 => if r7 = true then (if (0 : Int) ≤ r3 then (if r3 ≤ ((b0.f0.extract (Int.toNat b0.f1) (Int.toNat (b0.f0.size : Int))).size : Int) then ((impl_scanner__next_2.e1 k b0 r3).bind fun y15 => some (.inr (r3, (decide (r3 ≤ 40)), y15, 0, (b0.f0.extract (Int.toNat b0.f1) (Int.toNat (b0.f0.size : Int))).extract (Int.toNat 0) (Int.toNat r3), 0))) else none) else none) else ((impl_isDigit.f k (byteAt (b0.f0.extract (Int.toNat b0.f1) (Int.toNat (b0.f0.size : Int))) 0)).bind fun r18 => if r18 = true then (if (0 : Int) ≤ r3 then (if r3 ≤ ((b0.f0.extract (Int.toNat b0.f1) (Int.toNat (b0.f0.size : Int))).size : Int) then ((impl_numeral.f k ((b0.f0.extract (Int.toNat b0.f1) (Int.toNat (b0.f0.size : Int))).extract (Int.toNat 0) (Int.toNat r3))).bind fun r23 => some (.inr (r3, r23.2, r23.1.f0, r23.1.f1, r23.1.f2, r23.1.f3))) else none) else none) else (if (byteAt (b0.f0.extract (Int.toNat b0.f1) (Int.toNat (b0.f0.size : Int))) 0) = 34 then ((impl_quoted.f k (b0.f0.extract (Int.toNat b0.f1) (Int.toNat (b0.f0.size : Int)))).bind fun r26 => some (.inr (r26.2.1, r26.2.2.1, r26.1.f0, r26.1.f1, r26.1.f2, r26.1.f3))) else ((impl_signs.f k).bind fun r28 => (slices_IndexFunc___string_string_1.f k r28 (b0.f0.extract (Int.toNat b0.f1) (Int.toNat (b0.f0.size : Int)))).bind fun r30 => if r30 < 0 then (some (.inl ((⟨0, 0, (⟨#[]⟩ : ByteArray), 0⟩ : STok), false, b0.f1, 0, 0, (⟨#[]⟩ : ByteArray), 0))) else ((impl_signs.f k).bind fun r33 => (at? r33 r30).bind fun x35 => some (.inr ((x35.size : Int), true, 5, 0, x35, 0))))))) else none) else none
def impl_scanner__next_2.f (k : Nat) (b0 : SNeed) : Option (STok × Bool × Int × Int × Int × ByteArray × Int) := if (0 : Int) ≤ b0.f1 then (if b0.f1 ≤ (b0.f0.size : Int) then ((impl_wordSize.f k (b0.f0.extract (Int.toNat b0.f1) (Int.toNat (b0.f0.size : Int)))).bind fun r3 => (impl_scanner__next_2.e2 k b0 r3).bind fun v => match v with | .inl r => some r | .inr (y37, y38, y39, y40, y41, y42) => some ((⟨y39, y40, y41, b0.f1⟩ : STok), y38, w64 (b0.f1 + y37), y39, y40, y41, b0.f1)) else none) else none
theorem impl_scanner__next_2.fn {k : Nat} {b0 : SNeed} {r : (STok × Bool × Int × Int × Int × ByteArray × Int)} (H : impl_scanner__next_2.f k b0 = some r) : FnG Tryz.prog 16 [o1 (.ref 0 0)] [] [eSNeed b0] (tp [some 4, none] [cI r.1.f0, cI r.1.f1, cS r.1.f2, cI r.1.f3, cB r.2.1]) [] [[cS b0.f0, cI r.2.2.1], [cI r.2.2.2.1, cI r.2.2.2.2.1, cS r.2.2.2.2.2.1, cI r.2.2.2.2.2.2]] := by
 refine FnG.bodyR (rv := [(2, some 30), (3, none)]) Tryz.func16 rfl rfl (by decide) (by decide) (Nat.le_of_ble_eq_true rfl) rfl (Nat.le_of_ble_eq_true rfl) ?_
 refine rn [0, 2] 2 [] [] ?_
 obtain ⟨h1, H⟩ := nd H
 obtain ⟨h2, H⟩ := nd H
 refine deN hmix [[], [0], [0, 1], [0, 1, 2], [], [4], [4, 5], [4, 5, 6], [0, 1, 2, 3, 4, 5, 6, 7], [], [0, 1, 2, 3, 4, 5, 6, 7, 8, 9]] [9] [⟨85, [(0, o1 (.ref 0 0)), (2, o1 (.ref 1 0))], [eSNeed b0, [cI 0, cI 0, cS (⟨#[]⟩ : ByteArray), cI 0], [cS (⟨#[]⟩ : ByteArray)]], 1, []⟩] [(9, o1 (.ref 0 0)), (10, o1 (.ref 0 0)), (11, o1 (.ref 0 0)), (12, oS b0.f0), (13, o1 (.ref 0 0)), (14, o1 (.ref 0 0)), (15, o1 (.ref 0 1)), (16, oI b0.f1), (17, oS (b0.f0.extract (Int.toNat b0.f1) (Int.toNat (b0.f0.size : Int)))), (4, o1 (.ref 2 0))] [0, 2, 4] 3 [] (fun A D B => ([hz B 1, ht D 0, ht D 0, ht D 1, ht D 1, ht D 2, ht D 2, ht D 3, ht D 3, ht D 4, ht D 4, ht D 5, ht D 5, ht D 6, ht D 6, ht D 7, ht D 7, p3 h1 h2 (Int.le_refl (b0.f0.size : Int)), ht D 8, hn (p3 h1 h2 (Int.le_refl (b0.f0.size : Int))), ht D 8, hm A D B 0 9 [4, 0, 2]], [])) ?_
 obtain ⟨r3, h4, H⟩ := bs H
 refine rn [0, 2, 4, 5, 6] 3 [] [hC 1 (impl_wordSize.fn h4)] ?_
 refine rn [0, 2, 4, 5, 6, 7] 4 [] [] ?_
 refine jr H (fun w => ⟨85, [(0, o1 (.ref 0 0)), (2, o1 (.ref 1 0)), (5, oI w.1), (6, oB w.2.1), (7, o1 (.ref 3 0))], [eSNeed b0, [cI 0, cI 0, cS (⟨#[]⟩ : ByteArray), cI 0], [cS (b0.f0.extract (Int.toNat b0.f1) (Int.toNat (b0.f0.size : Int)))], [cI w.2.2.1, cI w.2.2.2.1, cS w.2.2.2.2.1, cI w.2.2.2.2.2]], 1, []⟩) (fun w H => ?_) fun v44 h43 H => ?_
 ·obtain ⟨y37, y38, y39, y40, y41, y42⟩ := w
  refine rn [0, 2, 5, 6, 7] 4 [] [] ?_
  refine rn [2, 6, 7] 4 [] [] ?_
  refine rn [2, 3] 2 [] [] ?_
  refine Tri.ret ?_
  obtain rfl := si H;exact endsR (.inr rfl) (by kernel_rfl)
 refine bl ?_
 obtain ⟨h5, h43⟩ := nd h43
 obtain ⟨h6, h43⟩ := nd h43
 obtain ⟨r7, h8, h43⟩ := bs h43
 refine rn [0, 2, 4, 5, 6, 7, 34] 4 [] [p2 h5 h6, hC 2 (impl_isLetter.fn h8)] ?_
 refine cb h43 (fun h9 h43 => ?_) fun h9 h43 => ?_
 ·obtain ⟨h10, h43⟩ := nd h43
  obtain ⟨h11, h43⟩ := nd h43
  refine rx [0, 2, 4, 5, 7] 4 [] [p3 (show (0 : Int) ≤ 0 by decide) h10 h11] ⟨85, [(0, o1 (.ref 0 0)), (2, o1 (.ref 1 0)), (4, o1 (.ref 2 0)), (5, oI r3), (7, o1 (.ref 3 0))], [eSNeed b0, [cI 0, cI 0, cS (⟨#[]⟩ : ByteArray), cI 0], [cS (b0.f0.extract (Int.toNat b0.f1) (Int.toNat (b0.f0.size : Int)))], [cI 1, cI 0, cS ((b0.f0.extract (Int.toNat b0.f1) (Int.toNat (b0.f0.size : Int))).extract (Int.toNat 0) (Int.toNat r3)), cI 0]], 1, []⟩ ?_
  refine jo h43 (fun y15 => ⟨85, [(0, o1 (.ref 0 0)), (2, o1 (.ref 1 0)), (5, oI r3), (7, o1 (.ref 3 0))], [eSNeed b0, [cI 0, cI 0, cS (⟨#[]⟩ : ByteArray), cI 0], [cS (b0.f0.extract (Int.toNat b0.f1) (Int.toNat (b0.f0.size : Int)))], [cI y15, cI 0, cS ((b0.f0.extract (Int.toNat b0.f1) (Int.toNat (b0.f0.size : Int))).extract (Int.toNat 0) (Int.toNat r3)), cI 0]], 1, []⟩) (fun y15 h43 => ?_) fun v17 h16 h43 => ?_
  ·refine rl [0, 2, 5, 6, 7] 4 [] [] ?_
   exact pe (r3, (decide (r3 ≤ 40)), y15, 0, (b0.f0.extract (Int.toNat b0.f1) (Int.toNat (b0.f0.size : Int))).extract (Int.toNat 0) (Int.toNat r3), 0) h43
  obtain ⟨r12, h13, h16⟩ := bs h16
  refine rn [0, 2, 5, 7, 45] 4 [] [p3 (show (0 : Int) ≤ 0 by decide) h10 h11, hC 3 (impl_IsKey.fn h13)] ?_
  refine cb h16 (fun h14 h16 => ?_) fun h14 h16 => ?_
  ·refine rl [0, 2, 5, 7] 4 [] [] ?_
   exact pf 2 h16
  refine fx [0, 2, 5, 7] 4 [] ?_
  refine sk ?_
  exact pf 1 h16
 obtain ⟨r18, h19, h43⟩ := bs h43
 refine rx [0, 2, 4, 5, 6, 7, 49] 4 [] [p2 h5 h6, hC 2 (impl_isDigit.fn h19)] ⟨85, [(0, o1 (.ref 0 0)), (2, o1 (.ref 1 0)), (4, o1 (.ref 2 0)), (5, oI r3), (6, oB true), (7, o1 (.ref 3 0)), (49, oB r18)], [eSNeed b0, [cI 0, cI 0, cS (⟨#[]⟩ : ByteArray), cI 0], [cS (b0.f0.extract (Int.toNat b0.f1) (Int.toNat (b0.f0.size : Int)))], [cI 0, cI 0, cS (⟨#[]⟩ : ByteArray), cI 0]], 1, []⟩ ?_
 refine cb h43 (fun h20 h43 => ?_) fun h20 h43 => ?_
 ·obtain ⟨h21, h43⟩ := nd h43
  obtain ⟨h22, h43⟩ := nd h43
  obtain ⟨r23, h24, h43⟩ := bs h43
  refine rl [0, 2, 5, 6, 7] 4 [] [p3 (show (0 : Int) ≤ 0 by decide) h21 h22, hC 3 (impl_numeral.fn k ((b0.f0.extract (Int.toNat b0.f1) (Int.toNat (b0.f0.size : Int))).extract (Int.toNat 0) (Int.toNat r3)) r23 h24)] ?_
  exact pe (r3, r23.2, r23.1.f0, r23.1.f1, r23.1.f2, r23.1.f3) h43
 refine rn [0, 2, 4, 6, 7, 60] 4 [] [p2 h5 h6] ?_
 refine ci h43 (fun h25 h43 => ?_) fun h25 h43 => ?_
 ·obtain ⟨r26, h27, h43⟩ := bs h43
  refine rl [0, 2, 5, 6, 7] 4 [] [hG 1 [] [] none (impl_quoted.fn h27)] ?_
  exact pe (r26.2.1, r26.2.2.1, r26.1.f0, r26.1.f1, r26.1.f2, r26.1.f3) h43
 obtain ⟨r28, h29, h43⟩ := bs h43
 obtain ⟨r30, h31, h43⟩ := bs h43
 refine rn [0, 2, 6, 7, 8] 4 [] [hC 0 (impl_signs.fn h29) (show (List.all [.own 9 (List.map eS r28)] PC.flatB) = true by simp [PC.flatB, PC.scalar, cI, cK, cB, cS, eS]), hC 2 (slices_IndexFunc___string_string_1.fn h31)] ?_
 refine sq ?_
 refine rn [0, 2, 6, 7, 8, 24] 4 [] [] ?_
 refine ci h43 (fun h32 h43 => ?_) fun h32 h43 => ?_
 ·refine rn [2, 3] 2 [] [] ?_
  refine Tri.ret ?_
  obtain rfl := si h43;obtain rfl := si H;exact endsR (.inr rfl) (by kernel_rfl)
 refine sk ?_
 obtain ⟨r33, h34, h43⟩ := bs h43
 obtain ⟨x35, h36, h43⟩ := bs h43
 refine rn [0, 2, 6, 7] 4 [] [hC 0 (impl_signs.fn h34) (show (List.all [.own 9 (List.map eS r33)] PC.flatB) = true by simp [PC.flatB, PC.scalar, cI, cK, cB, cS, eS]), hE 2 eS h36, hF 3 eS h36] ?_
 refine rl [0, 2, 5, 6, 7] 4 [] [] ?_
 exact pe ((x35.size : Int), true, 5, 0, x35, 0) h43
/-! impl_tokens: function 11 -/
def impl_tokens.l1 : Nat → ByteArray → (List STok) → Int → Option ((List STok) × Int × Int)
  | 0, _, _, _ => none
  | k + 1, a0, z20, z21 => (impl_scanner__skip_2.f k (⟨a0, z21⟩ : SNeed)).bind fun r22 => if r22.1 = true then (if r22.2 = (a0.size : Int) then (some (z20, 0, 0)) else ((impl_scanner__next_2.f k (⟨a0, r22.2⟩ : SNeed)).bind fun r26 => if r26.2.1 = true then (if (z20.length : Int) = 1200 then (some (([] : List STok), 13, r22.2)) else (if (z20 ++ ([r26.1] : List STok)).length * 40 ≤ 140737488355328 then (impl_tokens.l1 k a0 (z20 ++ ([r26.1] : List STok)) r26.2.2.1) else none)) else (some (([] : List STok), 4, r22.2)))) else (some (([] : List STok), 4, r22.2))
def impl_tokens.f (k : Nat) (a0 : ByteArray) : Option ((List STok) × Int × Int) := if (4000 : Int) < (a0.size : Int) then (some (([] : List STok), 15, 0)) else (impl_tokens.l1 k a0 ([] : List STok) 0)
theorem impl_tokens.fn {k : Nat} {a0 : ByteArray} {r : ((List STok) × Int × Int)} (H : impl_tokens.f k a0 = some r) : Fn Tryz.prog 11 [oS a0] [] (tp [none, none, none] [.own 30 (List.map eSTok r.1), cI r.2.1, cI r.2.2]) [] := by
 refine Fn.bd [2, 3, 4] Tryz.func11 ?_
 refine rn [0] 0 [] [] ?_
 refine sq ?_
 refine rn [0, 12] 0 [] [] ?_
 refine ci H (fun h1 H => ?_) fun h1 H => ?_
 ·refine rn [2, 3, 4] 0 [] [] ?_
  refine fx [2, 3, 4] 0 [.own (.t 2 0) 30] ?_
  refine Tri.ret ?_
  obtain rfl := si H;exact eR
 refine sk ?_
 refine rn [0, 5] 1 [] [] ?_
 refine rn [0, 5, 6] 1 [] [] ?_
 refine bl ?_
 refine fx [0, 5, 6] 1 [.own (.t 6 0) 30] ?_
 refine lo ((List STok) × Int) k (fun k x => impl_tokens.l1 k a0 x.1 x.2) (fun x => ⟨51, [(0, oS a0), (5, o1 (.ref 0 0)), (6, o1 (.own 30 (List.map eSTok x.1)))], [[cS a0, cI x.2]], 0, []⟩) (([] : List STok), 0) H fun k x H IH31 => ?_
 obtain ⟨z20, z21⟩ := x
 rw [impl_tokens.l1.eq_2] at H
 refine bl ?_
 refine sq ?_
 obtain ⟨r22, h23, H⟩ := bs H
 refine rn [0, 5, 6, 18] 1 [] [hG 1 [] [0] none (impl_scanner__skip_2.fn h23)] ?_
 refine cm H (fun h24 H => ?_) fun h24 H => ?_
 ·refine sk ?_
  refine sq ?_
  refine rn [0, 5, 6, 29] 1 [] [] ?_
  refine ci H (fun h25 H => ?_) fun h25 H => ?_
  ·refine rn [2, 3, 4] 0 [] [] ?_
   refine Tri.ret ?_
   obtain rfl := si H;exact eR
  refine sk ?_
  refine rn [0, 5, 6, 7] 1 [] [] ?_
  obtain ⟨r26, h27, H⟩ := bs H
  refine rn [0, 5, 6, 7, 8, 9] 3 [] [hG 1 [] [0] none (impl_scanner__next_2.fn h27)] ?_
  refine sq ?_
  refine rn [0, 5, 6, 7, 8, 41] 3 [] [] ?_
  refine cm H (fun h28 H => ?_) fun h28 H => ?_
  ·refine sk ?_
   refine sq ?_
   refine rx [0, 5, 6, 7, 8, 45] 3 [] [hL 1 eSTok z20] ⟨51, [(0, oS a0), (5, o1 (.ref 0 0)), (6, o1 (.own 30 (List.map eSTok z20))), (7, oI r22.2), (8, o1 (.ref 2 0)), (45, oB (decide ((z20.length : Int) = 1200)))], [[cS a0, cI r26.2.2.1], [cI r26.2.2.2.1, cI r26.2.2.2.2.1, cS r26.2.2.2.2.2.1, cI r26.2.2.2.2.2.2], eSTok r26.1], 0, []⟩ ?_
   refine ci H (fun h29 H => ?_) fun h29 H => ?_
   ·refine rn [2, 3, 4] 0 [] [] ?_
    refine fx [2, 3, 4] 0 [.own (.t 2 0) 30] ?_
    refine Tri.ret ?_
    obtain rfl := si H;exact eR
   refine sk ?_
   obtain ⟨h30, H⟩ := nd H
   refine rl [0, 5, 6] 1 [] [hA 3 30 eSTok h30] ?_
   exact lb IH31 (z20 ++ ([r26.1] : List STok), r26.2.2.1) H
  refine rx [2, 3, 4] 0 [] [] ⟨51, [(2, o1 .nl), (3, oI 4), (4, oI r22.2)], [], 0, []⟩ ?_
  refine fx [2, 3, 4] 0 [.own (.t 2 0) 30] ?_
  refine Tri.ret ?_
  obtain rfl := si H;exact eR
 refine dn hmix 6 [[], [0], [0, 1], [0, 1, 2], [], [4], [0, 1, 2, 3, 4, 5]] [2, 3, 4] 0 [] [] ?_
 refine fx [2, 3, 4] 0 [.own (.t 2 0) 30] ?_
 refine Tri.ret ?_
 obtain rfl := si H;exact eR
/-! impl_Tokens: function 5 -/
def impl_Tokens.f (k : Nat) (a0 : ByteArray) : Option ((List STok) × Int × Int) := (impl_isShort_string.f k a0).bind fun r1 => if r1 = true then ((impl_tokens.f k a0).bind fun r4 => some (r4.1, r4.2.1, r4.2.2)) else (some (([] : List STok), 2, 0))
theorem impl_Tokens.fn {k : Nat} {a0 : ByteArray} {r : ((List STok) × Int × Int)} (H : impl_Tokens.f k a0 = some r) : Fn Tryz.prog 5 [oS a0] [] (tp [none, none, none] [.own 30 (List.map eSTok r.1), cI r.2.1, cI r.2.2]) [] := by
 refine Fn.bd [2, 3, 4] Tryz.func5 ?_
 refine rn [0] 0 [] [] ?_
 refine sq ?_
 obtain ⟨r1, h2, H⟩ := bs H
 refine rn [0, 7] 0 [] [hC 1 (impl_isShort_string.fn h2)] ?_
 refine cm H (fun h3 H => ?_) fun h3 H => ?_
 ·refine sk ?_
  obtain ⟨r4, h5, H⟩ := bs H
  refine rn [2, 3, 4] 0 [] [hC 1 (impl_tokens.fn h5) (show (List.all [.own 30 (List.map eSTok r4.1), cI r4.2.1, cI r4.2.2] PC.flatB) = true by simp [PC.flatB, PC.scalar, cI, cK, cB, cS, eSTok])] ?_
  refine Tri.ret ?_
  obtain rfl := si H;exact eR
 refine rn [2, 3, 4] 0 [] [] ?_
 refine fx [2, 3, 4] 0 [.own (.t 2 0) 30] ?_
 refine Tri.ret ?_
 obtain rfl := si H;exact eR
/-! laws_eqToken: function 12 -/
def laws_eqToken.f (k : Nat) (a0 : STok) (a1 : STok) : Option Bool := if a0.f0 = a1.f0 then (if a0.f1 = a1.f1 then (if a0.f2 = a1.f2 then (if a0.f3 = a1.f3 then (some true) else (some false)) else (some false)) else (some false)) else (some false)
theorem laws_eqToken.fn {k : Nat} {a0 : STok} {a1 : STok} {r : Bool} (H : laws_eqToken.f k a0 a1 = some r) : Fn Tryz.prog 12 [ag (eSTok a0), ag (eSTok a1)] [] (oB r) [] := by
 refine Fn.bd [4] Tryz.func12 ?_
 refine rn [2, 3] 2 [] [] ?_
 refine sq ?_
 refine rn [2, 3, 9] 2 [] [] ?_
 refine cn H (fun h1 H => ?_) fun h1 H => ?_
 ·refine sk ?_
  refine sq ?_
  refine rn [2, 3, 14] 2 [] [] ?_
  refine cn H (fun h2 H => ?_) fun h2 H => ?_
  ·refine sk ?_
   refine sq ?_
   refine rn [2, 3, 19] 2 [] [] ?_
   refine cn H (fun h3 H => ?_) fun h3 H => ?_
   ·refine sk ?_
    refine sq ?_
    refine rn [24] 0 [] [] ?_
    refine cn H (fun h4 H => ?_) fun h4 H => ?_
    ·refine sk ?_
     refine rx [4] 0 [] [] ⟨25, [(4, oB true)], [], 0, []⟩ ?_
     refine Tri.ret ?_
     obtain rfl := si H;exact eR
    refine rx [4] 0 [] [] ⟨25, [(4, oB false)], [], 0, []⟩ ?_
    refine Tri.ret ?_
    obtain rfl := si H;exact eR
   refine rn [4] 0 [] [] ?_
   refine Tri.ret ?_
   obtain rfl := si H;exact eR
  refine rn [4] 0 [] [] ?_
  refine Tri.ret ?_
  obtain rfl := si H;exact eR
 refine rn [4] 0 [] [] ?_
 refine Tri.ret ?_
 obtain rfl := si H;exact eR
/-! laws_eqTokenS: function 6 -/
def laws_eqTokenS.l1 : Nat → (List STok) → (List STok) → Int → Option (Bool ⊕ Unit)
  | 0, _, _, _ => none
  | k + 1, a0, a1, z10 => if z10 < (a0.length : Int) then ((at? a0 z10).bind fun x12 => (at? a1 z10).bind fun x14 => (laws_eqToken.f k x12 x14).bind fun r16 => if r16 = true then (laws_eqTokenS.l1 k a0 a1 (w64 (z10 + 1))) else (some (.inl false))) else (some (.inr ()))
def laws_eqTokenS.e2 (k : Nat) (a0 : (List STok)) (a1 : (List STok)) : Option (Bool ⊕ Unit) := laws_eqTokenS.l1 k a0 a1 0
def laws_eqTokenS.f (k : Nat) (a0 : (List STok)) (a1 : (List STok)) : Option Bool := if (a0.length : Int) = (a1.length : Int) then ((laws_eqTokenS.e2 k a0 a1).bind fun v => match v with | .inl r => some r | .inr _ => some true) else (some false)
theorem laws_eqTokenS.fn {k : Nat} {a0 : (List STok)} {a1 : (List STok)} {r : Bool} (H : laws_eqTokenS.f k a0 a1 = some r) : Fn Tryz.prog 6 [o1 (.sl 4 (List.map eSTok a0)), o1 (.sl 4 (List.map eSTok a1))] [] (oB r) [] := by
 refine Fn.bd [4] Tryz.func6 ?_
 refine rn [0, 1] 0 [] [] ?_
 refine sq ?_
 refine rn [0, 1, 10] 0 [] [hL 1 eSTok a0, hL 3 eSTok a1] ?_
 refine cn H (fun h1 H => ?_) fun h1 H => ?_
 ·refine sk ?_
  refine jr H (fun _ => ⟨27, [], [], 0, []⟩) (fun _ H => ?_) fun v21 h20 H => ?_
  ·refine rn [4] 0 [] [] ?_
   refine Tri.ret ?_
   obtain rfl := si H;exact eR
  refine rn [0, 1, 5] 0 [] [] ?_
  refine bl ?_
  refine lo Int k (fun k x => laws_eqTokenS.l1 k a0 a1 x) (fun x => ⟨27, [(0, o1 (.sl 4 (List.map eSTok a0))), (1, o1 (.sl 4 (List.map eSTok a1))), (5, oI x)], [], 0, []⟩) 0 h20 fun k z10 h20 IH19 => ?_
  rw [laws_eqTokenS.l1.eq_2] at h20
  refine sq ?_
  refine rn [0, 1, 5, 14] 0 [] [hL 2 eSTok a0] ?_
  refine ci h20 (fun h11 h20 => ?_) fun h11 h20 => ?_
  ·refine sk ?_
   refine sq ?_
   refine bl ?_
   obtain ⟨x12, h13, h20⟩ := bs h20
   obtain ⟨x14, h15, h20⟩ := bs h20
   obtain ⟨r16, h17, h20⟩ := bs h20
   refine dn hmix 8 [[], [], [0, 1], [0, 1, 2], [], [], [4, 5], [4, 5, 6], [0, 1, 2, 3, 4, 5, 6, 7], [0, 1, 2, 3, 4, 5, 6, 7, 8]] [0, 1, 5, 26] 0 [] [hE 2 eSTok h13, hE 6 eSTok h15, hC 8 (laws_eqToken.fn h17)] ?_
   refine cm h20 (fun h18 h20 => ?_) fun h18 h20 => ?_
   ·refine sk ?_
    refine rl [0, 1, 5] 0 [] [] ?_
    exact lb IH19 (w64 (z10 + 1)) h20
   refine rn [4] 0 [] [] ?_
   refine Tri.ret ?_
   obtain rfl := si h20;obtain rfl := si H;exact eR
  refine fx [] 0 [] ?_
  refine xi ?_
  exact pe () h20
 refine rn [4] 0 [] [] ?_
 refine Tri.ret ?_
 obtain rfl := si H;exact eR
/-! laws_markText: function 13 -/
def laws_markText.l1 : Nat → Int → ByteArray → Option ByteArray
  | 0, _, _ => none
  | k + 1, z4, z5 => if (0 : Int) < z4 then (if (strOfNums ([IntKind.u8.wrap (w64 (48 + (Int.tmod z4 10)))] : List Int)).size + z5.size ≤ 9223372036854775807 then (laws_markText.l1 k  (w64 (Int.tdiv z4 10)) ((strOfNums ([IntKind.u8.wrap (w64 (48 + (Int.tmod z4 10)))] : List Int)) ++ z5)) else none) else (some z5)
def laws_markText.e2 (k : Nat) (a0 : Int) : Option ByteArray := laws_markText.l1 k  a0 (⟨#[]⟩ : ByteArray)
def laws_markText.f (k : Nat) (a0 : Int) : Option ByteArray := if a0 ≤ 0 then (some (⟨#[109, 48]⟩ : ByteArray)) else ((laws_markText.e2 k a0).bind fun y9 => if (⟨#[109]⟩ : ByteArray).size + y9.size ≤ 9223372036854775807 then (some ((⟨#[109]⟩ : ByteArray) ++ y9)) else none)
theorem laws_markText.fn {k : Nat} {a0 : Int} {r : ByteArray} (H : laws_markText.f k a0 = some r) : Fn Tryz.prog 13 [oI a0] [] (oS r) [] := by
 refine Fn.bd [2] Tryz.func13 ?_
 refine rn [0] 0 [] [] ?_
 refine sq ?_
 refine rn [0, 5] 0 [] [] ?_
 refine ci H (fun h1 H => ?_) fun h1 H => ?_
 ·refine rn [2] 0 [] [] ?_
  refine Tri.ret ?_
  obtain rfl := si H;exact eR
 refine sk ?_
 refine rn [0, 3] 0 [] [] ?_
 refine jo H (fun y9 => ⟨20, [(3, oS y9)], [], 0, []⟩) (fun y9 H => ?_) fun v11 h10 H => ?_
 ·obtain ⟨h12, H⟩ := nd H
  refine rn [2] 0 [] [p1 h12] ?_
  refine Tri.ret ?_
  obtain rfl := si H;exact eR
 refine bl ?_
 refine lo (Int × ByteArray) k (fun k x => laws_markText.l1 k  x.1 x.2) (fun x => ⟨20, [(0, oI x.1), (3, oS x.2)], [], 0, []⟩) (a0, (⟨#[]⟩ : ByteArray)) h10 fun k x h10 IH8 => ?_
 obtain ⟨z4, z5⟩ := x
 rw [laws_markText.l1.eq_2] at h10
 refine sq ?_
 refine rn [0, 3, 7] 0 [] [] ?_
 refine ci h10 (fun h6 h10 => ?_) fun h6 h10 => ?_
 ·refine sk ?_
  refine bl ?_
  obtain ⟨h7, h10⟩ := nd h10
  refine rn [0, 3] 0 [] [p1 (show (10 : Int) ≠ 0 by decide), q1 5 (.nums ([IntKind.u8.wrap (w64 (48 + (Int.tmod z4 10)))] : List Int)) (rfl : List.map (eK .u8) ([IntKind.u8.wrap (w64 (48 + (Int.tmod z4 10)))] : List Int) = List.map (fun n => [PC.sc (.int .u8 n)]) ([IntKind.u8.wrap (w64 (48 + (Int.tmod z4 10)))] : List Int)), p1 h7] ?_
  refine rl [0, 3] 0 [] [p1 (show (10 : Int) ≠ 0 by decide)] ?_
  exact lb IH8 (w64 (Int.tdiv z4 10), (strOfNums ([IntKind.u8.wrap (w64 (48 + (Int.tmod z4 10)))] : List Int)) ++ z5) h10
 refine fx [3] 0 [] ?_
 refine xi ?_
 exact pf z5 h10
/-! laws_markTokenS_1: function 7 -/
def laws_markTokenS_1.l1 : Nat → (List STok) → Int → Int → Option ((List STok) × Int)
  | 0, _, _, _ => none
  | k + 1, z12, z13, z14 => if z14 < (z12.length : Int) then ((at? z12 z14).bind fun x16 => (at? (z12.set (Int.toNat z14) (⟨z13, x16.f1, x16.f2, x16.f3⟩ : STok)) z14).bind fun x18 => (laws_markText.f k (w64 ((w64 (z13 + 1)) + 1))).bind fun r20 => (at? ((z12.set (Int.toNat z14) (⟨z13, x16.f1, x16.f2, x16.f3⟩ : STok)).set (Int.toNat z14) (⟨x18.f0, w64 (z13 + 1), x18.f2, x18.f3⟩ : STok)) z14).bind fun x22 => (at? (((z12.set (Int.toNat z14) (⟨z13, x16.f1, x16.f2, x16.f3⟩ : STok)).set (Int.toNat z14) (⟨x18.f0, w64 (z13 + 1), x18.f2, x18.f3⟩ : STok)).set (Int.toNat z14) (⟨x22.f0, x22.f1, r20, x22.f3⟩ : STok)) z14).bind fun x24 => laws_markTokenS_1.l1 k  ((((z12.set (Int.toNat z14) (⟨z13, x16.f1, x16.f2, x16.f3⟩ : STok)).set (Int.toNat z14) (⟨x18.f0, w64 (z13 + 1), x18.f2, x18.f3⟩ : STok)).set (Int.toNat z14) (⟨x22.f0, x22.f1, r20, x22.f3⟩ : STok)).set (Int.toNat z14) (⟨x24.f0, x24.f1, x24.f2, w64 ((w64 ((w64 (z13 + 1)) + 1)) + 1)⟩ : STok)) (w64 ((w64 ((w64 ((w64 (z13 + 1)) + 1)) + 1)) + 1)) (w64 (z14 + 1))) else (some (z12, z13))
def laws_markTokenS_1.e2 (k : Nat) (a0_1 : (List STok)) (a1 : Int) : Option ((List STok) × Int) := laws_markTokenS_1.l1 k  a0_1 a1 0
def laws_markTokenS_1.f (k : Nat) (a0_1 : (List STok)) (a1 : Int) : Option (Int × (List STok)) := (laws_markTokenS_1.e2 k a0_1 a1).bind fun v => match v with | (y27, y28) => some (y28, y27)
theorem laws_markTokenS_1.fn {k : Nat} {a0_1 : (List STok)} {a1 : Int} {r : (Int × (List STok))} (H : laws_markTokenS_1.f k a0_1 a1 = some r) : FnG Tryz.prog 7 [o1 (.own 30 (List.map eSTok a0_1)), oI a1] [0] [] (oI r.1) [.own 30 (List.map eSTok r.2)] [] := by
 refine FnG.body (ts := [4]) Tryz.func7 rfl rfl (by decide) (by decide) (Nat.le_of_ble_eq_true rfl) rfl (Nat.le_of_ble_eq_true rfl) ?_
 refine rn [0, 1] 0 [] [] ?_
 refine jo H (fun w => ⟨42, [(0, o1 (.own 30 (List.map eSTok w.1))), (1, oI w.2)], [], 0, [0]⟩) (fun w H => ?_) fun v30 h29 H => ?_
 ·obtain ⟨y27, y28⟩ := w
  refine rn [0, 4] 0 [] [] ?_
  refine Tri.ret ?_
  obtain rfl := si H;exact endsG (.inr rfl) (by kernel_rfl)
 refine rn [0, 1, 5] 0 [] [] ?_
 refine bl ?_
 refine lo ((List STok) × Int × Int) k (fun k x => laws_markTokenS_1.l1 k  x.1 x.2.1 x.2.2) (fun x => ⟨42, [(0, o1 (.own 30 (List.map eSTok x.1))), (1, oI x.2.1), (5, oI x.2.2)], [], 0, [0]⟩) (a0_1, a1, 0) h29 fun k x h29 IH26 => ?_
 obtain ⟨z12, z13, z14⟩ := x
 rw [laws_markTokenS_1.l1.eq_2] at h29
 refine sq ?_
 refine rn [0, 1, 5, 9] 0 [] [hL 2 eSTok z12] ?_
 refine ci h29 (fun h15 h29 => ?_) fun h15 h29 => ?_
 ·refine sk ?_
  refine sq ?_
  refine bl ?_
  obtain ⟨x16, h17, h29⟩ := bs h29
  refine rn [0, 1, 5] 0 [] [hE 3 eSTok h17, hF 4 eSTok h17, hW 5 (.t 0 0) 30 eSTok h17 (⟨z13, x16.f1, x16.f2, x16.f3⟩ : STok)] ?_
  refine rn [0, 1, 5] 0 [] [] ?_
  obtain ⟨x18, h19, h29⟩ := bs h29
  refine rn [0, 1, 5] 0 [] [hE 3 eSTok h19, hF 4 eSTok h19, hW 5 (.t 0 0) 30 eSTok h19 (⟨x18.f0, w64 (z13 + 1), x18.f2, x18.f3⟩ : STok)] ?_
  refine rn [0, 1, 5] 0 [] [] ?_
  obtain ⟨r20, h21, h29⟩ := bs h29
  obtain ⟨x22, h23, h29⟩ := bs h29
  refine rx [0, 1, 5] 0 [] [hC 3 (laws_markText.fn h21), hE 4 eSTok h23, hF 5 eSTok h23, hW 6 (.t 0 0) 30 eSTok h23 (⟨x22.f0, x22.f1, r20, x22.f3⟩ : STok)] ⟨42, [(0, o1 (.own 30 (List.map eSTok (((z12.set (Int.toNat z14) (⟨z13, x16.f1, x16.f2, x16.f3⟩ : STok)).set (Int.toNat z14) (⟨x18.f0, w64 (z13 + 1), x18.f2, x18.f3⟩ : STok)).set (Int.toNat z14) (⟨x22.f0, x22.f1, r20, x22.f3⟩ : STok))))), (1, oI (w64 ((w64 (z13 + 1)) + 1))), (5, oI z14)], [], 0, [0]⟩ ?_
  refine rn [0, 1, 5] 0 [] [] ?_
  obtain ⟨x24, h25, h29⟩ := bs h29
  refine rn [0, 1, 5] 0 [] [hE 3 eSTok h25, hF 4 eSTok h25, hW 5 (.t 0 0) 30 eSTok h25 (⟨x24.f0, x24.f1, x24.f2, w64 ((w64 ((w64 (z13 + 1)) + 1)) + 1)⟩ : STok)] ?_
  refine rl [0, 1, 5] 0 [] [] ?_
  refine rl [0, 1, 5] 0 [] [] ?_
  exact lb IH26 ((((z12.set (Int.toNat z14) (⟨z13, x16.f1, x16.f2, x16.f3⟩ : STok)).set (Int.toNat z14) (⟨x18.f0, w64 (z13 + 1), x18.f2, x18.f3⟩ : STok)).set (Int.toNat z14) (⟨x22.f0, x22.f1, r20, x22.f3⟩ : STok)).set (Int.toNat z14) (⟨x24.f0, x24.f1, x24.f2, w64 ((w64 ((w64 (z13 + 1)) + 1)) + 1)⟩ : STok), w64 ((w64 ((w64 ((w64 (z13 + 1)) + 1)) + 1)) + 1), w64 (z14 + 1)) h29
 refine fx [0, 1] 0 [] ?_
 refine xi ?_
 exact pf (z12, z13) h29
/-! laws_heldTokenS: function 8 -/
def laws_heldTokenS.l1 : Nat → (List STok) → Int → Int → Option (Int ⊕ Int)
  | 0, _, _, _ => none
  | k + 1, a0, z10, z11 => if z11 < (a0.length : Int) then ((at? a0 z11).bind fun x13 => if x13.f0 = z10 then (if x13.f1 = (w64 (z10 + 1)) then ((laws_markText.f k (w64 ((w64 (z10 + 1)) + 1))).bind fun r17 => if x13.f2 = r17 then (if x13.f3 = (w64 ((w64 ((w64 (z10 + 1)) + 1)) + 1)) then (laws_heldTokenS.l1 k a0 (w64 ((w64 ((w64 ((w64 (z10 + 1)) + 1)) + 1)) + 1)) (w64 (z11 + 1))) else (some (.inl (-1)))) else (some (.inl (-1)))) else (some (.inl (-1)))) else (some (.inl (-1)))) else (some (.inr z10))
def laws_heldTokenS.e2 (k : Nat) (a0 : (List STok)) (a1 : Int) : Option (Int ⊕ Int) := laws_heldTokenS.l1 k a0 a1 0
def laws_heldTokenS.f (k : Nat) (a0 : (List STok)) (a1 : Int) : Option Int := (laws_heldTokenS.e2 k a0 a1).bind fun v => match v with | .inl r => some r | .inr y22 => some y22
theorem laws_heldTokenS.fn {k : Nat} {a0 : (List STok)} {a1 : Int} {r : Int} (H : laws_heldTokenS.f k a0 a1 = some r) : Fn Tryz.prog 8 [o1 (.sl 4 (List.map eSTok a0)), oI a1] [] (oI r) [] := by
 refine Fn.bd [4] Tryz.func8 ?_
 refine rn [0, 1] 0 [] [] ?_
 refine jr H (fun y22 => ⟨50, [(1, oI y22)], [], 0, []⟩) (fun y22 H => ?_) fun v24 h23 H => ?_
 ·refine rn [4] 0 [] [] ?_
  refine Tri.ret ?_
  obtain rfl := si H;exact eR
 refine rn [0, 1, 5] 0 [] [] ?_
 refine bl ?_
 refine lo (Int × Int) k (fun k x => laws_heldTokenS.l1 k a0 x.1 x.2) (fun x => ⟨50, [(0, o1 (.sl 4 (List.map eSTok a0))), (1, oI x.1), (5, oI x.2)], [], 0, []⟩) (a1, 0) h23 fun k x h23 IH21 => ?_
 obtain ⟨z10, z11⟩ := x
 rw [laws_heldTokenS.l1.eq_2] at h23
 refine sq ?_
 refine rn [0, 1, 5, 9] 0 [] [hL 2 eSTok a0] ?_
 refine ci h23 (fun h12 h23 => ?_) fun h12 h23 => ?_
 ·refine sk ?_
  refine sq ?_
  refine bl ?_
  refine sq ?_
  obtain ⟨x13, h14, h23⟩ := bs h23
  refine rn [0, 1, 5, 18] 0 [] [hE 2 eSTok h14] ?_
  refine cn h23 (fun h15 h23 => ?_) fun h15 h23 => ?_
  ·refine sk ?_
   refine rn [0, 1, 5] 0 [] [] ?_
   refine sq ?_
   refine rn [0, 1, 5, 27] 0 [] [hE 2 eSTok h14] ?_
   refine cn h23 (fun h16 h23 => ?_) fun h16 h23 => ?_
   ·refine sk ?_
    refine rn [0, 1, 5] 0 [] [] ?_
    refine sq ?_
    obtain ⟨r17, h18, h23⟩ := bs h23
    refine dx hmix 7 [[], [], [0, 1], [0, 1, 2], [0, 1, 2, 3], [], [5], [0, 1, 2, 3, 4, 5, 6]] [0, 1, 5, 37] 0 [] [hE 2 eSTok h14, hC 6 (laws_markText.fn h18)] ⟨50, [(0, o1 (.sl 4 (List.map eSTok a0))), (1, oI (w64 ((w64 (z10 + 1)) + 1))), (5, oI z11), (37, oB (!(decide (x13.f2 = r17))))], [], 0, []⟩ ?_
    refine cn h23 (fun h19 h23 => ?_) fun h19 h23 => ?_
    ·refine sk ?_
     refine rn [0, 1, 5] 0 [] [] ?_
     refine sq ?_
     refine rn [0, 1, 5, 46] 0 [] [hE 2 eSTok h14] ?_
     refine cn h23 (fun h20 h23 => ?_) fun h20 h23 => ?_
     ·refine sk ?_
      refine rl [0, 1, 5] 0 [] [] ?_
      refine rl [0, 1, 5] 0 [] [] ?_
      exact lb IH21 (w64 ((w64 ((w64 ((w64 (z10 + 1)) + 1)) + 1)) + 1), w64 (z11 + 1)) h23
     refine rn [4] 0 [] [] ?_
     refine Tri.ret ?_
     obtain rfl := si h23;obtain rfl := si H;exact eR
    refine rn [4] 0 [] [] ?_
    refine Tri.ret ?_
    obtain rfl := si h23;obtain rfl := si H;exact eR
   refine rn [4] 0 [] [] ?_
   refine Tri.ret ?_
   obtain rfl := si h23;obtain rfl := si H;exact eR
  refine rn [4] 0 [] [] ?_
  refine Tri.ret ?_
  obtain rfl := si h23;obtain rfl := si H;exact eR
 refine fx [1] 0 [] ?_
 refine xi ?_
 exact pe z10 h23
/-! laws_FnExactTokens: function 3 -/
def laws_FnExactTokens.e1 (k : Nat) (r2 : ((List STok) × Int × Int)) (r4 : ((List STok) × Int × Int)) : Option Bool := (laws_eqTokenS.f k r4.1 r2.1).bind fun r6 => if r6 = true then (if r4.2.1 = r2.2.1 then (some (!(decide (r4.2.2 = r2.2.2)))) else (some true)) else (some true)
def laws_FnExactTokens.e2 (k : Nat) (r2 : ((List STok) × Int × Int)) (r20 : ((List STok) × Int × Int)) : Option Bool := (laws_eqTokenS.f k r20.1 r2.1).bind fun r22 => if r22 = true then (if r20.2.1 = r2.2.1 then (some (!(decide (r20.2.2 = r2.2.2)))) else (some true)) else (some true)
def laws_FnExactTokens.f (k : Nat) (a0 : ByteArray) : Option Bool := if (1048576 : Int) < (a0.size : Int) then (some true) else ((spec_Tokens.f k a0).bind fun r2 => (impl_Tokens.f k a0).bind fun r4 => (laws_FnExactTokens.e1 k r2 r4).bind fun y10 => if y10 = true then (some false) else ((laws_markTokenS_1.f k r4.1 1).bind fun r14 => (laws_heldTokenS.f k r14.2 1).bind fun r16 => if r16 < 0 then (some false) else (if r16 = r14.1 then ((impl_Tokens.f k a0).bind fun r20 => (laws_FnExactTokens.e2 k r2 r20).bind fun y26 => if y26 = true then (some false) else ((laws_heldTokenS.f k r14.2 1).bind fun r30 => if r30 < 0 then (some false) else (if r30 = r14.1 then (some true) else (some false)))) else (some false))))
theorem laws_FnExactTokens.fn {k : Nat} {a0 : ByteArray} {r : Bool} (H : laws_FnExactTokens.f k a0 = some r) : Fn Tryz.prog 3 [oS a0] [] (oB r) [] := by
 refine Fn.bd [2] Tryz.func3 ?_
 refine rn [0] 0 [] [] ?_
 refine sq ?_
 refine rn [0, 16] 0 [] [] ?_
 refine ci H (fun h1 H => ?_) fun h1 H => ?_
 ·refine rn [2] 0 [] [] ?_
  refine Tri.ret ?_
  obtain rfl := si H;exact eR
 refine sk ?_
 obtain ⟨r2, h3, H⟩ := bs H
 refine rn [0, 3, 4, 5] 0 [] [hC 1 (spec_Tokens.fn h3) (show (List.all [.own 30 (List.map eSTok r2.1), cI r2.2.1, cI r2.2.2] PC.flatB) = true by simp [PC.flatB, PC.scalar, cI, cK, cB, cS, eSTok])] ?_
 obtain ⟨r4, h5, H⟩ := bs H
 refine rn [0, 3, 4, 5, 6, 7, 8] 0 [] [hC 1 (impl_Tokens.fn h5) (show (List.all [.own 30 (List.map eSTok r4.1), cI r4.2.1, cI r4.2.2] PC.flatB) = true by simp [PC.flatB, PC.scalar, cI, cK, cB, cS, eSTok])] ?_
 refine sq ?_
 refine jo H (fun y10 => ⟨82, [(0, oS a0), (3, o1 (.own 30 (List.map eSTok r2.1))), (4, oI r2.2.1), (5, oI r2.2.2), (6, o1 (.own 30 (List.map eSTok r4.1))), (42, oB y10)], [], 0, []⟩) (fun y10 H => ?_) fun v12 h11 H => ?_
 ·refine cb H (fun h13 H => ?_) fun h13 H => ?_
  ·refine rn [2] 0 [] [] ?_
   refine Tri.ret ?_
   obtain rfl := si H;exact eR
  refine sk ?_
  refine rn [0, 3, 4, 5, 6, 9] 0 [] [] ?_
  obtain ⟨r14, h15, H⟩ := bs H
  refine rn [0, 3, 4, 5, 6, 9] 0 [] [hG 2 [] [] (some (0, (.t 6 0))) (laws_markTokenS_1.fn h15)] ?_
  refine rn [0, 3, 4, 5, 6, 9, 10] 0 [] [] ?_
  obtain ⟨r16, h17, H⟩ := bs H
  refine rn [0, 3, 4, 5, 6, 9, 10] 0 [] [hC 2 (laws_heldTokenS.fn h17)] ?_
  refine sq ?_
  refine rn [0, 3, 4, 5, 6, 9, 10, 50] 0 [] [] ?_
  refine ci H (fun h18 H => ?_) fun h18 H => ?_
  ·refine rx [2] 0 [] [] ⟨82, [(2, oB false)], [], 0, []⟩ ?_
   refine Tri.ret ?_
   obtain rfl := si H;exact eR
  refine sk ?_
  refine sq ?_
  refine rx [0, 3, 4, 5, 6, 9, 53] 0 [] [] ⟨82, [(0, oS a0), (3, o1 (.own 30 (List.map eSTok r2.1))), (4, oI r2.2.1), (5, oI r2.2.2), (6, o1 (.own 30 (List.map eSTok r14.2))), (9, oI r14.1), (53, oB (!(decide (r16 = r14.1))))], [], 0, []⟩ ?_
  refine cn H (fun h19 H => ?_) fun h19 H => ?_
  ·refine sk ?_
   obtain ⟨r20, h21, H⟩ := bs H
   refine rn [3, 4, 5, 6, 9, 11, 12, 13] 0 [] [hC 1 (impl_Tokens.fn h21) (show (List.all [.own 30 (List.map eSTok r20.1), cI r20.2.1, cI r20.2.2] PC.flatB) = true by simp [PC.flatB, PC.scalar, cI, cK, cB, cS, eSTok])] ?_
   refine sq ?_
   refine jo H (fun y26 => ⟨82, [(6, o1 (.own 30 (List.map eSTok r14.2))), (9, oI r14.1), (73, oB y26)], [], 0, []⟩) (fun y26 H => ?_) fun v28 h27 H => ?_
   ·refine cb H (fun h29 H => ?_) fun h29 H => ?_
    ·refine rn [2] 0 [] [] ?_
     refine Tri.ret ?_
     obtain rfl := si H;exact eR
    refine sk ?_
    refine rn [6, 9, 10] 0 [] [] ?_
    obtain ⟨r30, h31, H⟩ := bs H
    refine rn [9, 10] 0 [] [hC 2 (laws_heldTokenS.fn h31)] ?_
    refine sq ?_
    refine rn [9, 10, 78] 0 [] [] ?_
    refine ci H (fun h32 H => ?_) fun h32 H => ?_
    ·refine rn [2] 0 [] [] ?_
     refine Tri.ret ?_
     obtain rfl := si H;exact eR
    refine sk ?_
    refine sq ?_
    refine rn [81] 0 [] [] ?_
    refine cn H (fun h33 H => ?_) fun h33 H => ?_
    ·refine sk ?_
     refine rn [2] 0 [] [] ?_
     refine Tri.ret ?_
     obtain rfl := si H;exact eR
    refine rn [2] 0 [] [] ?_
    refine Tri.ret ?_
    obtain rfl := si H;exact eR
   obtain ⟨r22, h23, h27⟩ := bs h27
   rcases iteb_some h27 with ⟨h24, h27⟩ | ⟨h24, h27⟩
   ·rcases ite_some h27 with ⟨h25, h27⟩ | ⟨h25, h27⟩
    ·refine rl [6, 9, 73] 0 [] [hC 2 (laws_eqTokenS.fn h23), hB 2 h24, hB 7 (nF (decide_eq_true h25))] ?_
     exact pf (!(decide (r20.2.2 = r2.2.2))) h27
    refine rl [6, 9, 73] 0 [] [hC 2 (laws_eqTokenS.fn h23), hB 2 h24, hB 7 (nT (decide_eq_false h25))] ?_
    exact pf true h27
   refine rl [6, 9, 73] 0 [] [hC 2 (laws_eqTokenS.fn h23), hB 2 h24] ?_
   exact pf true h27
  refine rn [2] 0 [] [] ?_
  refine Tri.ret ?_
  obtain rfl := si H;exact eR
 obtain ⟨r6, h7, h11⟩ := bs h11
 rcases iteb_some h11 with ⟨h8, h11⟩ | ⟨h8, h11⟩
 ·rcases ite_some h11 with ⟨h9, h11⟩ | ⟨h9, h11⟩
  ·refine rl [0, 3, 4, 5, 6, 42] 0 [] [hC 2 (laws_eqTokenS.fn h7), hB 2 h8, hB 7 (nF (decide_eq_true h9))] ?_
   exact pf (!(decide (r4.2.2 = r2.2.2))) h11
  refine rl [0, 3, 4, 5, 6, 42] 0 [] [hC 2 (laws_eqTokenS.fn h7), hB 2 h8, hB 7 (nT (decide_eq_false h9))] ?_
  exact pf true h11
 refine rl [0, 3, 4, 5, 6, 42] 0 [] [hC 2 (laws_eqTokenS.fn h7), hB 2 h8] ?_
 exact pf true h11
end Go.Proofs.YtgiiholpgpfgkaaGreatDoor.E
