/- Functions of the program and their contracts: printed by ep3.py, a program of this session. -/
import Derived.Test.YtjgddjmgcffjfaaDoorGFnExactCharText
import Derived.Test.YtjgddjmgcffjfaaDoorProg
set_option maxRecDepth 100000
set_option linter.unusedVariables false
set_option linter.unusedSectionVars false
set_option linter.unusedSimpArgs false
namespace Go.Proofs.YtjgddjmgcffjfaaDoor.E
open Go.RowKit

theorem hmix : Tryd.prog.follows .mixedOrders = true := by kernel_rfl
/-! spec_l01In: function 29 -/
def spec_l01In.e1 (k : Nat) (a0 : Int) (a1 : Int) (a2 : Int) : Option Bool := if a1 ≤ a0 then (some (decide (a0 ≤ a2))) else (some false)
def spec_l01In.f (k : Nat) (a0 : Int) (a1 : Int) (a2 : Int) : Option Bool := (spec_l01In.e1 k a0 a1 a2).bind fun y2 => some y2
theorem spec_l01In.fn {k : Nat} {a0 : Int} {a1 : Int} {a2 : Int} {r : Bool} (H : spec_l01In.f k a0 a1 a2 = some r) : Fn Tryd.prog 29 [oI a0, oI a1, oI a2] [] (oB r) [] := by
 refine Fn.bd [6] Tryd.func29 ?_
 refine rn [0, 1, 2] 0 [] [] ?_
 refine jo H (fun y2 => ⟨15, [(6, oB y2)], [], 0, []⟩) (fun y2 H => ?_) fun v4 h3 H => ?_
 ·refine Tri.ret ?_
  obtain rfl := si H;exact eR
 rcases ite_some h3 with ⟨h1, h3⟩ | ⟨h1, h3⟩
 ·refine rl [6] 0 [] [hB 2 (decide_eq_true h1)] ?_
  exact pf (decide (a0 ≤ a2)) h3
 refine rl [6] 0 [] [hB 2 (decide_eq_false h1)] ?_
 exact pf false h3
/-! spec_CharOK: function 18 -/
def spec_CharOK.e1 (k : Nat) (a0 : Int) : Option Bool := (spec_l01In.f k a0 0 55295).bind fun r1 => if r1 = true then (some true) else ((spec_l01In.f k a0 57344 1114111).bind fun r4 => some r4)
def spec_CharOK.f (k : Nat) (a0 : Int) : Option Bool := (spec_CharOK.e1 k a0).bind fun y6 => some y6
theorem spec_CharOK.fn {k : Nat} {a0 : Int} {r : Bool} (H : spec_CharOK.f k a0 = some r) : Fn Tryd.prog 18 [oI a0] [] (oB r) [] := by
 refine Fn.bd [2] Tryd.func18 ?_
 refine rn [0] 0 [] [] ?_
 refine jo H (fun y6 => ⟨9, [(2, oB y6)], [], 0, []⟩) (fun y6 H => ?_) fun v8 h7 H => ?_
 ·refine Tri.ret ?_
  obtain rfl := si H;exact eR
 obtain ⟨r1, h2, h7⟩ := bs h7
 rcases iteb_some h7 with ⟨h3, h7⟩ | ⟨h3, h7⟩
 ·refine rl [2] 0 [] [hC 1 (spec_l01In.fn h2), hB 1 h3] ?_
  exact pf true h7
 obtain ⟨r4, h5, h7⟩ := bs h7
 refine rl [2] 0 [] [hC 1 (spec_l01In.fn h2), hB 1 h3, hC 4 (spec_l01In.fn h5)] ?_
 exact pf r4 h7
/-! spec_l01Hex: function 36 -/
def spec_l01Hex.f : Nat → Int → Option ByteArray
  | 0, _ => none
  | k + 1, a0 => if a0 < 16 then (if (0 : Int) ≤ a0 then (if a0 < ((⟨#[48, 49, 50, 51, 52, 53, 54, 55, 56, 57, 65, 66, 67, 68, 69, 70]⟩ : ByteArray).size : Int) then (some (Utf8.encode (byteAt (⟨#[48, 49, 50, 51, 52, 53, 54, 55, 56, 57, 65, 66, 67, 68, 69, 70]⟩ : ByteArray) a0))) else none) else none) else (((spec_l01Hex.f k) (w64 (Int.tdiv a0 16))).bind fun r4 => if (0 : Int) ≤ (Int.tmod a0 16) then (if (Int.tmod a0 16) < ((⟨#[48, 49, 50, 51, 52, 53, 54, 55, 56, 57, 65, 66, 67, 68, 69, 70]⟩ : ByteArray).size : Int) then (if r4.size + (Utf8.encode (byteAt (⟨#[48, 49, 50, 51, 52, 53, 54, 55, 56, 57, 65, 66, 67, 68, 69, 70]⟩ : ByteArray) (Int.tmod a0 16))).size ≤ 9223372036854775807 then (some (r4 ++ (Utf8.encode (byteAt (⟨#[48, 49, 50, 51, 52, 53, 54, 55, 56, 57, 65, 66, 67, 68, 69, 70]⟩ : ByteArray) (Int.tmod a0 16))))) else none) else none) else none)
theorem spec_l01Hex.fn {k : Nat} : ∀ {a0 : Int} {r : ByteArray} (H : spec_l01Hex.f k a0 = some r), Fn Tryd.prog 36 [oI a0] [] (oS r) [] := by
 induction k with
 | zero => intro a0 r H; exact absurd H (by simp [spec_l01Hex.f])
 | succ k ih_spec_l01Hex =>
 intro a0 r H
 rw [spec_l01Hex.f.eq_2] at H
 generalize spec_l01Hex.f k = rec_spec_l01Hex at H ih_spec_l01Hex
 refine Fn.bd [2] Tryd.func36 ?_
 refine rn [0] 0 [] [] ?_
 refine sq ?_
 refine rn [0, 4] 0 [] [] ?_
 refine ci H (fun h1 H => ?_) fun h1 H => ?_
 ·obtain ⟨h2, H⟩ := nd H
  obtain ⟨h3, H⟩ := nd H
  refine rn [2] 0 [] [p2 h2 h3] ?_
  refine Tri.ret ?_
  obtain rfl := si H;exact eR
 refine sk ?_
 obtain ⟨r4, h5, H⟩ := bs H
 obtain ⟨h6, H⟩ := nd H
 obtain ⟨h7, H⟩ := nd H
 obtain ⟨h8, H⟩ := nd H
 refine dn hmix 7 [[], [0], [0, 1], [], [3], [3, 4], [3, 4, 5], [0, 1, 2, 3, 4, 5, 6], [0, 1, 2, 3, 4, 5, 6, 7]] [2] 0 [] [p1 (show (16 : Int) ≠ 0 by decide), hC 2 (ih_spec_l01Hex h5), p1 (show (16 : Int) ≠ 0 by decide), p2 h6 h7, p1 h8] ?_
 refine Tri.ret ?_
 obtain rfl := si H;exact eR
/-! spec_l01Utf8: function 37 -/
def spec_l01Utf8.f (k : Nat) (a0 : Int) : Option ByteArray := if a0 < 128 then (some (strOfNums ([IntKind.u8.wrap (a0)] : List Int))) else (if a0 < 2048 then (some (strOfNums ([IntKind.u8.wrap (w64 (192 + (w64 (Int.tdiv a0 64)))), IntKind.u8.wrap (w64 (128 + (Int.tmod a0 64)))] : List Int))) else (if a0 < 65536 then (some (strOfNums ([IntKind.u8.wrap (w64 (224 + (w64 (Int.tdiv a0 4096)))), IntKind.u8.wrap (w64 (128 + (Int.tmod (w64 (Int.tdiv a0 64)) 64))), IntKind.u8.wrap (w64 (128 + (Int.tmod a0 64)))] : List Int))) else (some (strOfNums ([IntKind.u8.wrap (w64 (240 + (w64 (Int.tdiv a0 262144)))), IntKind.u8.wrap (w64 (128 + (Int.tmod (w64 (Int.tdiv a0 4096)) 64))), IntKind.u8.wrap (w64 (128 + (Int.tmod (w64 (Int.tdiv a0 64)) 64))), IntKind.u8.wrap (w64 (128 + (Int.tmod a0 64)))] : List Int)))))
theorem spec_l01Utf8.fn {k : Nat} {a0 : Int} {r : ByteArray} (H : spec_l01Utf8.f k a0 = some r) : Fn Tryd.prog 37 [oI a0] [] (oS r) [] := by
 refine Fn.bd [2] Tryd.func37 ?_
 refine rn [0] 0 [] [] ?_
 refine sq ?_
 refine bl ?_
 refine rn [0, 3] 0 [] [] ?_
 refine ci H (fun h1 H => ?_) fun h1 H => ?_
 ·refine rn [2] 0 [] [q1 3 (.nums ([IntKind.u8.wrap (a0)] : List Int)) (rfl : List.map (eK .u8) ([IntKind.u8.wrap (a0)] : List Int) = List.map (fun n => [PC.sc (.int .u8 n)]) ([IntKind.u8.wrap (a0)] : List Int))] ?_
  refine Tri.ret ?_
  obtain rfl := si H;exact eR
 refine rn [0, 10] 0 [] [] ?_
 refine ci H (fun h2 H => ?_) fun h2 H => ?_
 ·refine rn [2] 0 [] [p1 (show (64 : Int) ≠ 0 by decide), p1 (show (64 : Int) ≠ 0 by decide), q1 9 (.nums ([IntKind.u8.wrap (w64 (192 + (w64 (Int.tdiv a0 64)))), IntKind.u8.wrap (w64 (128 + (Int.tmod a0 64)))] : List Int)) (rfl : List.map (eK .u8) ([IntKind.u8.wrap (w64 (192 + (w64 (Int.tdiv a0 64)))), IntKind.u8.wrap (w64 (128 + (Int.tmod a0 64)))] : List Int) = List.map (fun n => [PC.sc (.int .u8 n)]) ([IntKind.u8.wrap (w64 (192 + (w64 (Int.tdiv a0 64)))), IntKind.u8.wrap (w64 (128 + (Int.tmod a0 64)))] : List Int))] ?_
  refine Tri.ret ?_
  obtain rfl := si H;exact eR
 refine rn [0, 23] 0 [] [] ?_
 refine ci H (fun h3 H => ?_) fun h3 H => ?_
 ·refine rn [2] 0 [] [p1 (show (4096 : Int) ≠ 0 by decide), p1 (show (64 : Int) ≠ 0 by decide), p1 (show (64 : Int) ≠ 0 by decide), p1 (show (64 : Int) ≠ 0 by decide), q1 14 (.nums ([IntKind.u8.wrap (w64 (224 + (w64 (Int.tdiv a0 4096)))), IntKind.u8.wrap (w64 (128 + (Int.tmod (w64 (Int.tdiv a0 64)) 64))), IntKind.u8.wrap (w64 (128 + (Int.tmod a0 64)))] : List Int)) (rfl : List.map (eK .u8) ([IntKind.u8.wrap (w64 (224 + (w64 (Int.tdiv a0 4096)))), IntKind.u8.wrap (w64 (128 + (Int.tmod (w64 (Int.tdiv a0 64)) 64))), IntKind.u8.wrap (w64 (128 + (Int.tmod a0 64)))] : List Int) = List.map (fun n => [PC.sc (.int .u8 n)]) ([IntKind.u8.wrap (w64 (224 + (w64 (Int.tdiv a0 4096)))), IntKind.u8.wrap (w64 (128 + (Int.tmod (w64 (Int.tdiv a0 64)) 64))), IntKind.u8.wrap (w64 (128 + (Int.tmod a0 64)))] : List Int))] ?_
  refine Tri.ret ?_
  obtain rfl := si H;exact eR
 refine sk ?_
 refine rn [2] 0 [] [p1 (show (262144 : Int) ≠ 0 by decide), p1 (show (4096 : Int) ≠ 0 by decide), p1 (show (64 : Int) ≠ 0 by decide), p1 (show (64 : Int) ≠ 0 by decide), p1 (show (64 : Int) ≠ 0 by decide), p1 (show (64 : Int) ≠ 0 by decide), q1 19 (.nums ([IntKind.u8.wrap (w64 (240 + (w64 (Int.tdiv a0 262144)))), IntKind.u8.wrap (w64 (128 + (Int.tmod (w64 (Int.tdiv a0 4096)) 64))), IntKind.u8.wrap (w64 (128 + (Int.tmod (w64 (Int.tdiv a0 64)) 64))), IntKind.u8.wrap (w64 (128 + (Int.tmod a0 64)))] : List Int)) (rfl : List.map (eK .u8) ([IntKind.u8.wrap (w64 (240 + (w64 (Int.tdiv a0 262144)))), IntKind.u8.wrap (w64 (128 + (Int.tmod (w64 (Int.tdiv a0 4096)) 64))), IntKind.u8.wrap (w64 (128 + (Int.tmod (w64 (Int.tdiv a0 64)) 64))), IntKind.u8.wrap (w64 (128 + (Int.tmod a0 64)))] : List Int) = List.map (fun n => [PC.sc (.int .u8 n)]) ([IntKind.u8.wrap (w64 (240 + (w64 (Int.tdiv a0 262144)))), IntKind.u8.wrap (w64 (128 + (Int.tmod (w64 (Int.tdiv a0 4096)) 64))), IntKind.u8.wrap (w64 (128 + (Int.tmod (w64 (Int.tdiv a0 64)) 64))), IntKind.u8.wrap (w64 (128 + (Int.tmod a0 64)))] : List Int))] ?_
 refine Tri.ret ?_
 obtain rfl := si H;exact eR
/-! spec_l01Char: function 19 -/
def spec_l01Char.e1 (k : Nat) (a0 : Int) : Option Bool := if a0 < 32 then (some true) else (if a0 = 34 then (some true) else (some (decide (a0 = 127))))
def spec_l01Char.f (k : Nat) (a0 : Int) : Option ByteArray := (spec_l01Char.e1 k a0).bind fun y3 => if y3 = true then ((spec_l01Hex.f k a0).bind fun r7 => if (⟨#[48]⟩ : ByteArray).size + r7.size ≤ 9223372036854775807 then (if ((⟨#[48]⟩ : ByteArray) ++ r7).size + (⟨#[88]⟩ : ByteArray).size ≤ 9223372036854775807 then (some (((⟨#[48]⟩ : ByteArray) ++ r7) ++ (⟨#[88]⟩ : ByteArray))) else none) else none) else ((spec_l01Utf8.f k a0).bind fun r11 => if (⟨#[34]⟩ : ByteArray).size + r11.size ≤ 9223372036854775807 then (if ((⟨#[34]⟩ : ByteArray) ++ r11).size + (⟨#[34]⟩ : ByteArray).size ≤ 9223372036854775807 then (some (((⟨#[34]⟩ : ByteArray) ++ r11) ++ (⟨#[34]⟩ : ByteArray))) else none) else none)
theorem spec_l01Char.fn {k : Nat} {a0 : Int} {r : ByteArray} (H : spec_l01Char.f k a0 = some r) : Fn Tryd.prog 19 [oI a0] [] (oS r) [] := by
 refine Fn.bd [2] Tryd.func19 ?_
 refine rn [0] 0 [] [] ?_
 refine sq ?_
 refine jo H (fun y3 => ⟨21, [(0, oI a0), (12, oB y3)], [], 0, []⟩) (fun y3 H => ?_) fun v5 h4 H => ?_
 ·refine cb H (fun h6 H => ?_) fun h6 H => ?_
  ·obtain ⟨r7, h8, H⟩ := bs H
   obtain ⟨h9, H⟩ := nd H
   obtain ⟨h10, H⟩ := nd H
   refine rn [2] 0 [] [hC 1 (spec_l01Hex.fn h8), p1 h9, p1 h10] ?_
   refine Tri.ret ?_
   obtain rfl := si H;exact eR
  refine sk ?_
  obtain ⟨r11, h12, H⟩ := bs H
  obtain ⟨h13, H⟩ := nd H
  obtain ⟨h14, H⟩ := nd H
  refine rn [2] 0 [] [hC 1 (spec_l01Utf8.fn h12), p1 h13, p1 h14] ?_
  refine Tri.ret ?_
  obtain rfl := si H;exact eR
 rcases ite_some h4 with ⟨h1, h4⟩ | ⟨h1, h4⟩
 ·refine rl [0, 12] 0 [] [hB 1 (decide_eq_true h1)] ?_
  exact pf true h4
 rcases ite_some h4 with ⟨h2, h4⟩ | ⟨h2, h4⟩
 ·refine rl [0, 12] 0 [] [hB 1 (decide_eq_false h1), hB 4 (decide_eq_true h2)] ?_
  exact pf true h4
 refine rl [0, 12] 0 [] [hB 1 (decide_eq_false h1), hB 4 (decide_eq_false h2)] ?_
 exact pf (decide (a0 = 127)) h4
/-! spec_CharText: function 6 -/
def spec_CharText.f (k : Nat) (a0 : Int) : Option (ByteArray × Int) := (spec_CharOK.f k a0).bind fun r1 => if r1 = true then ((spec_l01Char.f k a0).bind fun r4 => some (r4, 0)) else (some ((⟨#[]⟩ : ByteArray), 11))
theorem spec_CharText.fn {k : Nat} {a0 : Int} {r : (ByteArray × Int)} (H : spec_CharText.f k a0 = some r) : Fn Tryd.prog 6 [oI a0] [] (tp [none, none] [cS r.1, cI r.2]) [] := by
 refine Fn.bd [2, 3] Tryd.func6 ?_
 refine rn [0] 0 [] [] ?_
 refine sq ?_
 obtain ⟨r1, h2, H⟩ := bs H
 refine rn [0, 6] 0 [] [hC 1 (spec_CharOK.fn h2)] ?_
 refine cm H (fun h3 H => ?_) fun h3 H => ?_
 ·refine sk ?_
  obtain ⟨r4, h5, H⟩ := bs H
  refine rn [2, 3] 0 [] [hC 1 (spec_l01Char.fn h5)] ?_
  refine Tri.ret ?_
  obtain rfl := si H;exact eR
 refine rn [2, 3] 0 [] [] ?_
 refine Tri.ret ?_
 obtain rfl := si H;exact eR
/-! impl_within: function 38 -/
def impl_within.e1 (k : Nat) (a0 : Int) (a1 : Int) (a2 : Int) : Option Bool := if a1 ≤ a0 then (some (decide (a0 ≤ a2))) else (some false)
def impl_within.f (k : Nat) (a0 : Int) (a1 : Int) (a2 : Int) : Option Bool := (impl_within.e1 k a0 a1 a2).bind fun y2 => some y2
theorem impl_within.fn {k : Nat} {a0 : Int} {a1 : Int} {a2 : Int} {r : Bool} (H : impl_within.f k a0 a1 a2 = some r) : Fn Tryd.prog 38 [oI a0, oI a1, oI a2] [] (oB r) [] := by
 refine Fn.bd [6] Tryd.func38 ?_
 refine rn [0, 1, 2] 0 [] [] ?_
 refine jo H (fun y2 => ⟨15, [(6, oB y2)], [], 0, []⟩) (fun y2 H => ?_) fun v4 h3 H => ?_
 ·refine Tri.ret ?_
  obtain rfl := si H;exact eR
 rcases ite_some h3 with ⟨h1, h3⟩ | ⟨h1, h3⟩
 ·refine rl [6] 0 [] [hB 2 (decide_eq_true h1)] ?_
  exact pf (decide (a0 ≤ a2)) h3
 refine rl [6] 0 [] [hB 2 (decide_eq_false h1)] ?_
 exact pf false h3
/-! impl_CharOK: function 20 -/
def impl_CharOK.e1 (k : Nat) (a0 : Int) : Option Bool := (impl_within.f k a0 0 1114111).bind fun r1 => if r1 = true then ((impl_within.f k a0 55296 57343).bind fun r4 => some (!r4)) else (some false)
def impl_CharOK.f (k : Nat) (a0 : Int) : Option Bool := (impl_CharOK.e1 k a0).bind fun y6 => some y6
theorem impl_CharOK.fn {k : Nat} {a0 : Int} {r : Bool} (H : impl_CharOK.f k a0 = some r) : Fn Tryd.prog 20 [oI a0] [] (oB r) [] := by
 refine Fn.bd [2] Tryd.func20 ?_
 refine rn [0] 0 [] [] ?_
 refine jo H (fun y6 => ⟨10, [(2, oB y6)], [], 0, []⟩) (fun y6 H => ?_) fun v8 h7 H => ?_
 ·refine Tri.ret ?_
  obtain rfl := si H;exact eR
 obtain ⟨r1, h2, h7⟩ := bs h7
 rcases iteb_some h7 with ⟨h3, h7⟩ | ⟨h3, h7⟩
 ·obtain ⟨r4, h5, h7⟩ := bs h7
  refine rl [2] 0 [] [hC 1 (impl_within.fn h2), hB 1 h3, hC 4 (impl_within.fn h5)] ?_
  exact pf (!r4) h7
 refine rl [2] 0 [] [hC 1 (impl_within.fn h2), hB 1 h3] ?_
 exact pf false h7
/-! impl_isPlain: function 39 -/
def impl_isPlain.e1 (k : Nat) (a0 : Int) : Option Bool := if (32 : Int) ≤ a0 then (if a0 = 127 then (some false) else (some (!(decide (a0 = 34))))) else (some false)
def impl_isPlain.f (k : Nat) (a0 : Int) : Option Bool := (impl_isPlain.e1 k a0).bind fun y3 => some y3
theorem impl_isPlain.fn {k : Nat} {a0 : Int} {r : Bool} (H : impl_isPlain.f k a0 = some r) : Fn Tryd.prog 39 [oI a0] [] (oB r) [] := by
 refine Fn.bd [2] Tryd.func39 ?_
 refine rn [0] 0 [] [] ?_
 refine jo H (fun y3 => ⟨13, [(2, oB y3)], [], 0, []⟩) (fun y3 H => ?_) fun v5 h4 H => ?_
 ·refine Tri.ret ?_
  obtain rfl := si H;exact eR
 rcases ite_some h4 with ⟨h1, h4⟩ | ⟨h1, h4⟩
 ·rcases ite_some h4 with ⟨h2, h4⟩ | ⟨h2, h4⟩
  ·refine rl [2] 0 [] [hB 1 (decide_eq_true h1), hB 4 (nF (decide_eq_true h2))] ?_
   exact pf false h4
  refine rl [2] 0 [] [hB 1 (decide_eq_true h1), hB 4 (nT (decide_eq_false h2))] ?_
  exact pf (!(decide (a0 = 34))) h4
 refine rl [2] 0 [] [hB 1 (decide_eq_false h1)] ?_
 exact pf false h4
/-! impl_charText: function 21 -/
def impl_charText.f (k : Nat) (a0 : Int) : Option ByteArray := (impl_isPlain.f k a0).bind fun r1 => if r1 = true then (if (⟨#[34]⟩ : ByteArray).size + (Utf8.encode (IntKind.i32.wrap (a0))).size ≤ 9223372036854775807 then (if ((⟨#[34]⟩ : ByteArray) ++ (Utf8.encode (IntKind.i32.wrap (a0)))).size + (⟨#[34]⟩ : ByteArray).size ≤ 9223372036854775807 then (some (((⟨#[34]⟩ : ByteArray) ++ (Utf8.encode (IntKind.i32.wrap (a0)))) ++ (⟨#[34]⟩ : ByteArray))) else none) else none) else ((strconv_FormatInt.f k a0 16).bind fun r6 => (strings_ToUpper.f k r6).bind fun r8 => if (⟨#[48]⟩ : ByteArray).size + r8.size ≤ 9223372036854775807 then (if ((⟨#[48]⟩ : ByteArray) ++ r8).size + (⟨#[88]⟩ : ByteArray).size ≤ 9223372036854775807 then (some (((⟨#[48]⟩ : ByteArray) ++ r8) ++ (⟨#[88]⟩ : ByteArray))) else none) else none)
theorem impl_charText.fn {k : Nat} {a0 : Int} {r : ByteArray} (H : impl_charText.f k a0 = some r) : Fn Tryd.prog 21 [oI a0] [] (oS r) [] := by
 refine Fn.bd [2] Tryd.func21 ?_
 refine rn [0] 0 [] [] ?_
 refine sq ?_
 obtain ⟨r1, h2, H⟩ := bs H
 refine rn [0, 4] 0 [] [hC 1 (impl_isPlain.fn h2)] ?_
 refine cb H (fun h3 H => ?_) fun h3 H => ?_
 ·obtain ⟨h4, H⟩ := nd H
  obtain ⟨h5, H⟩ := nd H
  refine rn [2] 0 [] [p1 h4, p1 h5] ?_
  refine Tri.ret ?_
  obtain rfl := si H;exact eR
 refine sk ?_
 obtain ⟨r6, h7, H⟩ := bs H
 obtain ⟨r8, h9, H⟩ := bs H
 obtain ⟨h10, H⟩ := nd H
 obtain ⟨h11, H⟩ := nd H
 refine rn [2] 0 [] [hC 1 (strconv_FormatInt.fn k a0 16 r6 h7), hC 2 (strings_ToUpper.fn k r6 r8 h9), p1 h10, p1 h11] ?_
 refine Tri.ret ?_
 obtain rfl := si H;exact eR
/-! impl_CharText: function 7 -/
def impl_CharText.f (k : Nat) (a0 : Int) : Option (ByteArray × Int) := (impl_CharOK.f k a0).bind fun r1 => if r1 = true then ((impl_charText.f k a0).bind fun r4 => some (r4, 0)) else (some ((⟨#[]⟩ : ByteArray), 11))
theorem impl_CharText.fn {k : Nat} {a0 : Int} {r : (ByteArray × Int)} (H : impl_CharText.f k a0 = some r) : Fn Tryd.prog 7 [oI a0] [] (tp [none, none] [cS r.1, cI r.2]) [] := by
 refine Fn.bd [2, 3] Tryd.func7 ?_
 refine rn [0] 0 [] [] ?_
 refine sq ?_
 obtain ⟨r1, h2, H⟩ := bs H
 refine rn [0, 6] 0 [] [hC 1 (impl_CharOK.fn h2)] ?_
 refine cm H (fun h3 H => ?_) fun h3 H => ?_
 ·refine sk ?_
  obtain ⟨r4, h5, H⟩ := bs H
  refine rn [2, 3] 0 [] [hC 1 (impl_charText.fn h5)] ?_
  refine Tri.ret ?_
  obtain rfl := si H;exact eR
 refine rn [2, 3] 0 [] [] ?_
 refine Tri.ret ?_
 obtain rfl := si H;exact eR
/-! laws_FnExactCharText: function 3 -/
def laws_FnExactCharText.e1 (k : Nat) (r1 : (ByteArray × Int)) (r3 : (ByteArray × Int)) : Option Bool := if r3.1 = r1.1 then (some (!(decide (r3.2 = r1.2)))) else (some true)
def laws_FnExactCharText.f (k : Nat) (a0 : Int) : Option Bool := (spec_CharText.f k a0).bind fun r1 => (impl_CharText.f k a0).bind fun r3 => (laws_FnExactCharText.e1 k r1 r3).bind fun y6 => if y6 = true then (some false) else (some true)
theorem laws_FnExactCharText.fn {k : Nat} {a0 : Int} {r : Bool} (H : laws_FnExactCharText.f k a0 = some r) : Fn Tryd.prog 3 [oI a0] [] (oB r) [] := by
 refine Fn.bd [2] Tryd.func3 ?_
 refine rn [0] 0 [] [] ?_
 obtain ⟨r1, h2, H⟩ := bs H
 refine rn [0, 3, 4] 0 [] [hC 1 (spec_CharText.fn h2)] ?_
 obtain ⟨r3, h4, H⟩ := bs H
 refine rn [3, 4, 5, 6] 0 [] [hC 1 (impl_CharText.fn h4)] ?_
 refine sq ?_
 refine jo H (fun y6 => ⟨25, [(24, oB y6)], [], 0, []⟩) (fun y6 H => ?_) fun v8 h7 H => ?_
 ·refine cb H (fun h9 H => ?_) fun h9 H => ?_
  ·refine rn [2] 0 [] [] ?_
   refine Tri.ret ?_
   obtain rfl := si H;exact eR
  refine sk ?_
  refine rn [2] 0 [] [] ?_
  refine Tri.ret ?_
  obtain rfl := si H;exact eR
 rcases ite_some h7 with ⟨h5, h7⟩ | ⟨h5, h7⟩
 ·refine rl [24] 0 [] [hB 2 (nF (decide_eq_true h5))] ?_
  exact pf (!(decide (r3.2 = r1.2))) h7
 refine rl [24] 0 [] [hB 2 (nT (decide_eq_false h5))] ?_
 exact pf true h7
end Go.Proofs.YtjgddjmgcffjfaaDoor.E
