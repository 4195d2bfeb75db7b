/- Functions of the program and their contracts: printed by ep3.py, a program of this session. -/
import Derived.Test.YtjgddjmgcffjfaaDoorGFnExactOutText
import Derived.Test.YtjgddjmgcffjfaaDoorProg
set_option maxRecDepth 100000
set_option linter.unusedVariables false
set_option linter.unusedSectionVars false
set_option linter.unusedSimpArgs false
namespace Go.Proofs.YtjgddjmgcffjfaaDoor.E
open Go.RowKit
structure SOut where
  f0 : Int
  f1 : Int
def eSOut (x : SOut) : List PC := [cI x.f0, cI x.f1]
structure SNode where
  f0 : Int
  f1 : Int
  f2 : ByteArray
  f3 : ByteArray
  f4 : (List SNode)
mutual
def eSNode : SNode → List PC
  | ⟨x0, x1, x2, x3, x4⟩ => [cI x0, cI x1, cS x2, cS x3, .sl 5 (eSNodeL x4)]
def eSNodeL : List SNode → List (List PC)
  | [] => []
  | x :: l => eSNode x :: eSNodeL l
end
theorem eSNodeL_eq : ∀ l : List SNode, eSNodeL l = List.map eSNode l
  | [] => rfl
  | x :: l => by rw [eSNodeL, eSNodeL_eq l]; rfl
def vSNode (x : SNode) : List PC := [cI x.f0, cI x.f1, cS x.f2, cS x.f3, .sl 5 (List.map eSNode x.f4)]
theorem eSNode_v : ∀ x, eSNode x = vSNode x := fun ⟨x0, x1, x2, x3, x4⟩ => by rw [eSNode, eSNodeL_eq]; rfl
theorem hmix : Tryd.prog.follows .mixedOrders = true := by kernel_rfl
/-! laws_szOutS: function 13 -/
def laws_szOutS.f (k : Nat) (a0 : (List SOut)) (a1 : Int) : Option Int := if (w64 (a1 - (a0.length : Int))) < 0 then (some (-1)) else (some (w64 (a1 - (a0.length : Int))))
theorem laws_szOutS.fn {k : Nat} {a0 : (List SOut)} {a1 : Int} {r : Int} (H : laws_szOutS.f k a0 a1 = some r) : Fn Tryd.prog 13 [o1 (.sl 2 (List.map eSOut a0)), oI a1] [] (oI r) [] := by
 refine Fn.bd [4] Tryd.func13 ?_
 refine rn [0, 1] 0 [] [] ?_
 refine rn [1] 0 [] [hL 2 eSOut a0] ?_
 refine sq ?_
 refine rn [1, 10] 0 [] [] ?_
 refine ci H (fun h1 H => ?_) fun h1 H => ?_
 ·refine rn [4] 0 [] [] ?_
  refine Tri.ret ?_
  obtain rfl := si H;exact eR
 refine sk ?_
 refine rn [4] 0 [] [] ?_
 refine Tri.ret ?_
 obtain rfl := si H;exact eR
/-! laws_toOut: function 30 -/
def laws_toOut.f (k : Nat) (a0 : SOut) : Option (SOut × Int × Int × Int × Int) := some (a0, a0.f0, a0.f1, a0.f0, a0.f1)
theorem laws_toOut.fn {k : Nat} {a0 : SOut} {r : (SOut × Int × Int × Int × Int)} (H : laws_toOut.f k a0 = some r) : FnG Tryd.prog 30 [ag (eSOut a0)] [] [] (ag (eSOut r.1)) [] [[cI r.2.1, cI r.2.2.1], [cI r.2.2.2.1, cI r.2.2.2.2]] := by
 refine FnG.bodyR (rv := [(2, some 52)]) Tryd.func30 rfl rfl (by decide) (by decide) (Nat.le_of_ble_eq_true rfl) rfl (Nat.le_of_ble_eq_true rfl) ?_
 refine rn [1, 2] 2 [] [] ?_
 refine rn [1, 2, 3] 3 [] [] ?_
 refine rn [1, 2, 3] 3 [] [] ?_
 refine rn [2, 3] 3 [] [] ?_
 refine rn [2] 2 [] [] ?_
 refine Tri.ret ?_
 obtain rfl := si H;exact endsR (.inr rfl) (by kernel_rfl)
/-! laws_toOutS: function 15 -/
def laws_toOutS.l1 : Nat → (List SOut) → (List SOut) → Int → Option (List SOut)
  | 0, _, _, _ => none
  | k + 1, a0, z9, z10 => if z10 < (a0.length : Int) then ((at? a0 z10).bind fun x12 => (laws_toOut.f k x12).bind fun r14 => (at? z9 z10).bind fun x16 => laws_toOutS.l1 k a0 (z9.set (Int.toNat z10) r14.1) (w64 (z10 + 1))) else (some z9)
def laws_toOutS.e2 (k : Nat) (a0 : (List SOut)) : Option (List SOut) := laws_toOutS.l1 k a0 (List.replicate (Int.toNat (a0.length : Int)) (⟨(0 : Int), (0 : Int)⟩ : SOut) : List SOut) 0
def laws_toOutS.f (k : Nat) (a0 : (List SOut)) : Option (List SOut) := if (a0.length : Int) * 16 ≤ 140737488355328 then ((laws_toOutS.e2 k a0).bind fun y19 => some y19) else none
theorem laws_toOutS.fn {k : Nat} {a0 : (List SOut)} {r : (List SOut)} (H : laws_toOutS.f k a0 = some r) : Fn Tryd.prog 15 [o1 (.sl 2 (List.map eSOut a0))] [] (o1 (.own 52 (List.map eSOut r))) [] := by
 refine Fn.bd [2] Tryd.func15 ?_
 refine rn [0] 0 [] [] ?_
 obtain ⟨h1, H⟩ := nd H
 refine rn [0, 3] 0 [] [hL 1 eSOut a0, q4 2 (.nz []) (rfl : (a0.length : Int) = (a0.length : Int)) (show (0 : Int) ≤ (a0.length : Int) from Int.natCast_nonneg _) (mkN (b := 16) (by decide) (show (0 : Int) ≤ (a0.length : Int) from Int.natCast_nonneg _) h1) h1, q1 2 (.ov [.own 52 (List.map eSOut (List.replicate (Int.toNat (a0.length : Int)) (⟨(0 : Int), (0 : Int)⟩ : SOut) : List SOut))]) (ovrep (e := 52) (n := Int.toNat (a0.length : Int)) (z := (⟨(0 : Int), (0 : Int)⟩ : SOut)) (f := eSOut))] ?_
 refine jo H (fun y19 => ⟨23, [(3, o1 (.own 52 (List.map eSOut y19)))], [], 0, []⟩) (fun y19 H => ?_) fun v21 h20 H => ?_
 ·refine rn [2] 0 [] [] ?_
  refine Tri.ret ?_
  obtain rfl := si H;exact eR
 refine rn [0, 3, 4] 0 [] [] ?_
 refine bl ?_
 refine lo ((List SOut) × Int) k (fun k x => laws_toOutS.l1 k a0 x.1 x.2) (fun x => ⟨23, [(0, o1 (.sl 2 (List.map eSOut a0))), (3, o1 (.own 52 (List.map eSOut x.1))), (4, oI x.2)], [], 0, []⟩) ((List.replicate (Int.toNat (a0.length : Int)) (⟨(0 : Int), (0 : Int)⟩ : SOut) : List SOut), 0) h20 fun k x h20 IH18 => ?_
 obtain ⟨z9, z10⟩ := x
 rw [laws_toOutS.l1.eq_2] at h20
 refine sq ?_
 refine rn [0, 3, 4, 11] 0 [] [hL 2 eSOut a0] ?_
 refine ci h20 (fun h11 h20 => ?_) fun h11 h20 => ?_
 ·refine sk ?_
  refine sq ?_
  refine bl ?_
  obtain ⟨x12, h13, h20⟩ := bs h20
  obtain ⟨r14, h15, h20⟩ := bs h20
  obtain ⟨x16, h17, h20⟩ := bs h20
  refine rl [0, 3, 4] 0 [] [hE 4 eSOut h13, hG 6 [] [] none (laws_toOut.fn h15), hE 7 eSOut h17, hW 8 (.t 3 0) 52 eSOut h17 r14.1] ?_
  refine rl [0, 3, 4] 0 [] [] ?_
  exact lb IH18 (z9.set (Int.toNat z10) r14.1, w64 (z10 + 1)) h20
 refine fx [3] 0 [] ?_
 refine xi ?_
 exact pf z9 h20
/-! spec_l00Digits: function 28 -/
def spec_l00Digits.f : Nat → Int → Option ByteArray
  | 0, _ => none
  | k + 1, a0 => if a0 = (-9223372036854775808) then (some (⟨#[45, 57, 50, 50, 51, 51, 55, 50, 48, 51, 54, 56, 53, 52, 55, 55, 53, 56, 48, 56]⟩ : ByteArray)) else (if a0 < 0 then (((spec_l00Digits.f k) (w64 (0 - a0))).bind fun r3 => if (⟨#[45]⟩ : ByteArray).size + r3.size ≤ 9223372036854775807 then (some ((⟨#[45]⟩ : ByteArray) ++ r3)) else none) else (if a0 < 10 then (some (strOfNums ([IntKind.u8.wrap (w64 (48 + a0))] : List Int))) else (((spec_l00Digits.f k) (w64 (Int.tdiv a0 10))).bind fun r7 => if r7.size + (strOfNums ([IntKind.u8.wrap (w64 (48 + (Int.tmod a0 10)))] : List Int)).size ≤ 9223372036854775807 then (some (r7 ++ (strOfNums ([IntKind.u8.wrap (w64 (48 + (Int.tmod a0 10)))] : List Int)))) else none)))
theorem spec_l00Digits.fn {k : Nat} : ∀ {a0 : Int} {r : ByteArray} (H : spec_l00Digits.f k a0 = some r), Fn Tryd.prog 28 [oI a0] [] (oS r) [] := by
 induction k with
 | zero => intro a0 r H; exact absurd H (by simp [spec_l00Digits.f])
 | succ k ih_spec_l00Digits =>
 intro a0 r H
 rw [spec_l00Digits.f.eq_2] at H
 generalize spec_l00Digits.f k = rec_spec_l00Digits at H ih_spec_l00Digits
 refine Fn.bd [2] Tryd.func28 ?_
 refine rn [0] 0 [] [] ?_
 refine sq ?_
 refine rn [0, 4] 0 [] [] ?_
 refine ci H (fun h1 H => ?_) fun h1 H => ?_
 ·refine rn [2] 0 [] [] ?_
  refine Tri.ret ?_
  obtain rfl := si H;exact eR
 refine sk ?_
 refine sq ?_
 refine rn [0, 6] 0 [] [] ?_
 refine ci H (fun h2 H => ?_) fun h2 H => ?_
 ·obtain ⟨r3, h4, H⟩ := bs H
  obtain ⟨h5, H⟩ := nd H
  refine rn [2] 0 [] [hC 2 (ih_spec_l00Digits h4), p1 h5] ?_
  refine Tri.ret ?_
  obtain rfl := si H;exact eR
 refine sk ?_
 refine sq ?_
 refine rn [0, 12] 0 [] [] ?_
 refine ci H (fun h6 H => ?_) fun h6 H => ?_
 ·refine rn [2] 0 [] [q1 4 (.nums ([IntKind.u8.wrap (w64 (48 + a0))] : List Int)) (rfl : List.map (eK .u8) ([IntKind.u8.wrap (w64 (48 + a0))] : List Int) = List.map (fun n => [PC.sc (.int .u8 n)]) ([IntKind.u8.wrap (w64 (48 + a0))] : List Int))] ?_
  refine Tri.ret ?_
  obtain rfl := si H;exact eR
 refine sk ?_
 obtain ⟨r7, h8, H⟩ := bs H
 obtain ⟨h9, H⟩ := nd H
 refine dn hmix 9 [[], [0], [0, 1], [], [3], [3, 4], [3, 4, 5], [3, 4, 5, 6], [3, 4, 5, 6, 7], [0, 1, 2, 3, 4, 5, 6, 7, 8], [0, 1, 2, 3, 4, 5, 6, 7, 8, 9]] [2] 0 [] [p1 (show (10 : Int) ≠ 0 by decide), hC 2 (ih_spec_l00Digits h8), p1 (show (10 : Int) ≠ 0 by decide), q1 8 (.nums ([IntKind.u8.wrap (w64 (48 + (Int.tmod a0 10)))] : List Int)) (rfl : List.map (eK .u8) ([IntKind.u8.wrap (w64 (48 + (Int.tmod a0 10)))] : List Int) = List.map (fun n => [PC.sc (.int .u8 n)]) ([IntKind.u8.wrap (w64 (48 + (Int.tmod a0 10)))] : List Int)), p1 h9] ?_
 refine Tri.ret ?_
 obtain rfl := si H;exact eR
/-! spec_l01In: function 29 -/
def spec_l01In.e1 (k : Nat) (a0 : Int) (a1 : Int) (a2 : Int) : Option Bool := if a1 ≤ a0 then (some (decide (a0 ≤ a2))) else (some false)
def spec_l01In.f (k : Nat) (a0 : Int) (a1 : Int) (a2 : Int) : Option Bool := (spec_l01In.e1 k a0 a1 a2).bind fun y2 => some y2
theorem spec_l01In.fn {k : Nat} {a0 : Int} {a1 : Int} {a2 : Int} {r : Bool} (H : spec_l01In.f k a0 a1 a2 = some r) : Fn Tryd.prog 29 [oI a0, oI a1, oI a2] [] (oB r) [] := by
 refine Fn.bd [6] Tryd.func29 ?_
 refine rn [0, 1, 2] 0 [] [] ?_
 refine jo H (fun y2 => ⟨15, [(6, oB y2)], [], 0, []⟩) (fun y2 H => ?_) fun v4 h3 H => ?_
 ·refine Tri.ret ?_
  obtain rfl := si H;exact eR
 rcases ite_some h3 with ⟨h1, h3⟩ | ⟨h1, h3⟩
 ·refine rl [6] 0 [] [hB 2 (decide_eq_true h1)] ?_
  exact pf (decide (a0 ≤ a2)) h3
 refine rl [6] 0 [] [hB 2 (decide_eq_false h1)] ?_
 exact pf false h3
/-! spec_CharOK: function 18 -/
def spec_CharOK.e1 (k : Nat) (a0 : Int) : Option Bool := (spec_l01In.f k a0 0 55295).bind fun r1 => if r1 = true then (some true) else ((spec_l01In.f k a0 57344 1114111).bind fun r4 => some r4)
def spec_CharOK.f (k : Nat) (a0 : Int) : Option Bool := (spec_CharOK.e1 k a0).bind fun y6 => some y6
theorem spec_CharOK.fn {k : Nat} {a0 : Int} {r : Bool} (H : spec_CharOK.f k a0 = some r) : Fn Tryd.prog 18 [oI a0] [] (oB r) [] := by
 refine Fn.bd [2] Tryd.func18 ?_
 refine rn [0] 0 [] [] ?_
 refine jo H (fun y6 => ⟨9, [(2, oB y6)], [], 0, []⟩) (fun y6 H => ?_) fun v8 h7 H => ?_
 ·refine Tri.ret ?_
  obtain rfl := si H;exact eR
 obtain ⟨r1, h2, h7⟩ := bs h7
 rcases iteb_some h7 with ⟨h3, h7⟩ | ⟨h3, h7⟩
 ·refine rl [2] 0 [] [hC 1 (spec_l01In.fn h2), hB 1 h3] ?_
  exact pf true h7
 obtain ⟨r4, h5, h7⟩ := bs h7
 refine rl [2] 0 [] [hC 1 (spec_l01In.fn h2), hB 1 h3, hC 4 (spec_l01In.fn h5)] ?_
 exact pf r4 h7
/-! spec_l01Hex: function 36 -/
def spec_l01Hex.f : Nat → Int → Option ByteArray
  | 0, _ => none
  | k + 1, a0 => if a0 < 16 then (if (0 : Int) ≤ a0 then (if a0 < ((⟨#[48, 49, 50, 51, 52, 53, 54, 55, 56, 57, 65, 66, 67, 68, 69, 70]⟩ : ByteArray).size : Int) then (some (Utf8.encode (byteAt (⟨#[48, 49, 50, 51, 52, 53, 54, 55, 56, 57, 65, 66, 67, 68, 69, 70]⟩ : ByteArray) a0))) else none) else none) else (((spec_l01Hex.f k) (w64 (Int.tdiv a0 16))).bind fun r4 => if (0 : Int) ≤ (Int.tmod a0 16) then (if (Int.tmod a0 16) < ((⟨#[48, 49, 50, 51, 52, 53, 54, 55, 56, 57, 65, 66, 67, 68, 69, 70]⟩ : ByteArray).size : Int) then (if r4.size + (Utf8.encode (byteAt (⟨#[48, 49, 50, 51, 52, 53, 54, 55, 56, 57, 65, 66, 67, 68, 69, 70]⟩ : ByteArray) (Int.tmod a0 16))).size ≤ 9223372036854775807 then (some (r4 ++ (Utf8.encode (byteAt (⟨#[48, 49, 50, 51, 52, 53, 54, 55, 56, 57, 65, 66, 67, 68, 69, 70]⟩ : ByteArray) (Int.tmod a0 16))))) else none) else none) else none)
theorem spec_l01Hex.fn {k : Nat} : ∀ {a0 : Int} {r : ByteArray} (H : spec_l01Hex.f k a0 = some r), Fn Tryd.prog 36 [oI a0] [] (oS r) [] := by
 induction k with
 | zero => intro a0 r H; exact absurd H (by simp [spec_l01Hex.f])
 | succ k ih_spec_l01Hex =>
 intro a0 r H
 rw [spec_l01Hex.f.eq_2] at H
 generalize spec_l01Hex.f k = rec_spec_l01Hex at H ih_spec_l01Hex
 refine Fn.bd [2] Tryd.func36 ?_
 refine rn [0] 0 [] [] ?_
 refine sq ?_
 refine rn [0, 4] 0 [] [] ?_
 refine ci H (fun h1 H => ?_) fun h1 H => ?_
 ·obtain ⟨h2, H⟩ := nd H
  obtain ⟨h3, H⟩ := nd H
  refine rn [2] 0 [] [p2 h2 h3] ?_
  refine Tri.ret ?_
  obtain rfl := si H;exact eR
 refine sk ?_
 obtain ⟨r4, h5, H⟩ := bs H
 obtain ⟨h6, H⟩ := nd H
 obtain ⟨h7, H⟩ := nd H
 obtain ⟨h8, H⟩ := nd H
 refine dn hmix 7 [[], [0], [0, 1], [], [3], [3, 4], [3, 4, 5], [0, 1, 2, 3, 4, 5, 6], [0, 1, 2, 3, 4, 5, 6, 7]] [2] 0 [] [p1 (show (16 : Int) ≠ 0 by decide), hC 2 (ih_spec_l01Hex h5), p1 (show (16 : Int) ≠ 0 by decide), p2 h6 h7, p1 h8] ?_
 refine Tri.ret ?_
 obtain rfl := si H;exact eR
/-! spec_l01Utf8: function 37 -/
def spec_l01Utf8.f (k : Nat) (a0 : Int) : Option ByteArray := if a0 < 128 then (some (strOfNums ([IntKind.u8.wrap (a0)] : List Int))) else (if a0 < 2048 then (some (strOfNums ([IntKind.u8.wrap (w64 (192 + (w64 (Int.tdiv a0 64)))), IntKind.u8.wrap (w64 (128 + (Int.tmod a0 64)))] : List Int))) else (if a0 < 65536 then (some (strOfNums ([IntKind.u8.wrap (w64 (224 + (w64 (Int.tdiv a0 4096)))), IntKind.u8.wrap (w64 (128 + (Int.tmod (w64 (Int.tdiv a0 64)) 64))), IntKind.u8.wrap (w64 (128 + (Int.tmod a0 64)))] : List Int))) else (some (strOfNums ([IntKind.u8.wrap (w64 (240 + (w64 (Int.tdiv a0 262144)))), IntKind.u8.wrap (w64 (128 + (Int.tmod (w64 (Int.tdiv a0 4096)) 64))), IntKind.u8.wrap (w64 (128 + (Int.tmod (w64 (Int.tdiv a0 64)) 64))), IntKind.u8.wrap (w64 (128 + (Int.tmod a0 64)))] : List Int)))))
theorem spec_l01Utf8.fn {k : Nat} {a0 : Int} {r : ByteArray} (H : spec_l01Utf8.f k a0 = some r) : Fn Tryd.prog 37 [oI a0] [] (oS r) [] := by
 refine Fn.bd [2] Tryd.func37 ?_
 refine rn [0] 0 [] [] ?_
 refine sq ?_
 refine bl ?_
 refine rn [0, 3] 0 [] [] ?_
 refine ci H (fun h1 H => ?_) fun h1 H => ?_
 ·refine rn [2] 0 [] [q1 3 (.nums ([IntKind.u8.wrap (a0)] : List Int)) (rfl : List.map (eK .u8) ([IntKind.u8.wrap (a0)] : List Int) = List.map (fun n => [PC.sc (.int .u8 n)]) ([IntKind.u8.wrap (a0)] : List Int))] ?_
  refine Tri.ret ?_
  obtain rfl := si H;exact eR
 refine rn [0, 10] 0 [] [] ?_
 refine ci H (fun h2 H => ?_) fun h2 H => ?_
 ·refine rn [2] 0 [] [p1 (show (64 : Int) ≠ 0 by decide), p1 (show (64 : Int) ≠ 0 by decide), q1 9 (.nums ([IntKind.u8.wrap (w64 (192 + (w64 (Int.tdiv a0 64)))), IntKind.u8.wrap (w64 (128 + (Int.tmod a0 64)))] : List Int)) (rfl : List.map (eK .u8) ([IntKind.u8.wrap (w64 (192 + (w64 (Int.tdiv a0 64)))), IntKind.u8.wrap (w64 (128 + (Int.tmod a0 64)))] : List Int) = List.map (fun n => [PC.sc (.int .u8 n)]) ([IntKind.u8.wrap (w64 (192 + (w64 (Int.tdiv a0 64)))), IntKind.u8.wrap (w64 (128 + (Int.tmod a0 64)))] : List Int))] ?_
  refine Tri.ret ?_
  obtain rfl := si H;exact eR
 refine rn [0, 23] 0 [] [] ?_
 refine ci H (fun h3 H => ?_) fun h3 H => ?_
 ·refine rn [2] 0 [] [p1 (show (4096 : Int) ≠ 0 by decide), p1 (show (64 : Int) ≠ 0 by decide), p1 (show (64 : Int) ≠ 0 by decide), p1 (show (64 : Int) ≠ 0 by decide), q1 14 (.nums ([IntKind.u8.wrap (w64 (224 + (w64 (Int.tdiv a0 4096)))), IntKind.u8.wrap (w64 (128 + (Int.tmod (w64 (Int.tdiv a0 64)) 64))), IntKind.u8.wrap (w64 (128 + (Int.tmod a0 64)))] : List Int)) (rfl : List.map (eK .u8) ([IntKind.u8.wrap (w64 (224 + (w64 (Int.tdiv a0 4096)))), IntKind.u8.wrap (w64 (128 + (Int.tmod (w64 (Int.tdiv a0 64)) 64))), IntKind.u8.wrap (w64 (128 + (Int.tmod a0 64)))] : List Int) = List.map (fun n => [PC.sc (.int .u8 n)]) ([IntKind.u8.wrap (w64 (224 + (w64 (Int.tdiv a0 4096)))), IntKind.u8.wrap (w64 (128 + (Int.tmod (w64 (Int.tdiv a0 64)) 64))), IntKind.u8.wrap (w64 (128 + (Int.tmod a0 64)))] : List Int))] ?_
  refine Tri.ret ?_
  obtain rfl := si H;exact eR
 refine sk ?_
 refine rn [2] 0 [] [p1 (show (262144 : Int) ≠ 0 by decide), p1 (show (4096 : Int) ≠ 0 by decide), p1 (show (64 : Int) ≠ 0 by decide), p1 (show (64 : Int) ≠ 0 by decide), p1 (show (64 : Int) ≠ 0 by decide), p1 (show (64 : Int) ≠ 0 by decide), q1 19 (.nums ([IntKind.u8.wrap (w64 (240 + (w64 (Int.tdiv a0 262144)))), IntKind.u8.wrap (w64 (128 + (Int.tmod (w64 (Int.tdiv a0 4096)) 64))), IntKind.u8.wrap (w64 (128 + (Int.tmod (w64 (Int.tdiv a0 64)) 64))), IntKind.u8.wrap (w64 (128 + (Int.tmod a0 64)))] : List Int)) (rfl : List.map (eK .u8) ([IntKind.u8.wrap (w64 (240 + (w64 (Int.tdiv a0 262144)))), IntKind.u8.wrap (w64 (128 + (Int.tmod (w64 (Int.tdiv a0 4096)) 64))), IntKind.u8.wrap (w64 (128 + (Int.tmod (w64 (Int.tdiv a0 64)) 64))), IntKind.u8.wrap (w64 (128 + (Int.tmod a0 64)))] : List Int) = List.map (fun n => [PC.sc (.int .u8 n)]) ([IntKind.u8.wrap (w64 (240 + (w64 (Int.tdiv a0 262144)))), IntKind.u8.wrap (w64 (128 + (Int.tmod (w64 (Int.tdiv a0 4096)) 64))), IntKind.u8.wrap (w64 (128 + (Int.tmod (w64 (Int.tdiv a0 64)) 64))), IntKind.u8.wrap (w64 (128 + (Int.tmod a0 64)))] : List Int))] ?_
 refine Tri.ret ?_
 obtain rfl := si H;exact eR
/-! spec_l01Char: function 19 -/
def spec_l01Char.e1 (k : Nat) (a0 : Int) : Option Bool := if a0 < 32 then (some true) else (if a0 = 34 then (some true) else (some (decide (a0 = 127))))
def spec_l01Char.f (k : Nat) (a0 : Int) : Option ByteArray := (spec_l01Char.e1 k a0).bind fun y3 => if y3 = true then ((spec_l01Hex.f k a0).bind fun r7 => if (⟨#[48]⟩ : ByteArray).size + r7.size ≤ 9223372036854775807 then (if ((⟨#[48]⟩ : ByteArray) ++ r7).size + (⟨#[88]⟩ : ByteArray).size ≤ 9223372036854775807 then (some (((⟨#[48]⟩ : ByteArray) ++ r7) ++ (⟨#[88]⟩ : ByteArray))) else none) else none) else ((spec_l01Utf8.f k a0).bind fun r11 => if (⟨#[34]⟩ : ByteArray).size + r11.size ≤ 9223372036854775807 then (if ((⟨#[34]⟩ : ByteArray) ++ r11).size + (⟨#[34]⟩ : ByteArray).size ≤ 9223372036854775807 then (some (((⟨#[34]⟩ : ByteArray) ++ r11) ++ (⟨#[34]⟩ : ByteArray))) else none) else none)
theorem spec_l01Char.fn {k : Nat} {a0 : Int} {r : ByteArray} (H : spec_l01Char.f k a0 = some r) : Fn Tryd.prog 19 [oI a0] [] (oS r) [] := by
 refine Fn.bd [2] Tryd.func19 ?_
 refine rn [0] 0 [] [] ?_
 refine sq ?_
 refine jo H (fun y3 => ⟨21, [(0, oI a0), (12, oB y3)], [], 0, []⟩) (fun y3 H => ?_) fun v5 h4 H => ?_
 ·refine cb H (fun h6 H => ?_) fun h6 H => ?_
  ·obtain ⟨r7, h8, H⟩ := bs H
   obtain ⟨h9, H⟩ := nd H
   obtain ⟨h10, H⟩ := nd H
   refine rn [2] 0 [] [hC 1 (spec_l01Hex.fn h8), p1 h9, p1 h10] ?_
   refine Tri.ret ?_
   obtain rfl := si H;exact eR
  refine sk ?_
  obtain ⟨r11, h12, H⟩ := bs H
  obtain ⟨h13, H⟩ := nd H
  obtain ⟨h14, H⟩ := nd H
  refine rn [2] 0 [] [hC 1 (spec_l01Utf8.fn h12), p1 h13, p1 h14] ?_
  refine Tri.ret ?_
  obtain rfl := si H;exact eR
 rcases ite_some h4 with ⟨h1, h4⟩ | ⟨h1, h4⟩
 ·refine rl [0, 12] 0 [] [hB 1 (decide_eq_true h1)] ?_
  exact pf true h4
 rcases ite_some h4 with ⟨h2, h4⟩ | ⟨h2, h4⟩
 ·refine rl [0, 12] 0 [] [hB 1 (decide_eq_false h1), hB 4 (decide_eq_true h2)] ?_
  exact pf true h4
 refine rl [0, 12] 0 [] [hB 1 (decide_eq_false h1), hB 4 (decide_eq_false h2)] ?_
 exact pf (decide (a0 = 127)) h4
/-! spec_OutText: function 14 -/
def spec_OutText.e1 (k : Nat) (x36 : SOut) : Option Bool := if x36.f0 = 2 then ((spec_l01In.f k x36.f1 0 1).bind fun r43 => some r43) else (some false)
def spec_OutText.e2 (k : Nat) (x36 : SOut) : Option Bool := if x36.f0 = 3 then ((spec_CharOK.f k x36.f1).bind fun r53 => some r53) else (some false)
def spec_OutText.e3 (k : Nat) (z33 : (List Int)) (x36 : SOut) : Option ((ByteArray × Int) ⊕ (List Int)) := if x36.f0 = 1 then ((spec_l00Digits.f k x36.f1).bind fun r39 => if (z33 ++ (bytesOf r39)).length * 1 ≤ 140737488355328 then (some (.inr (z33 ++ (bytesOf r39)))) else none) else ((spec_OutText.e1 k x36).bind fun y45 => if y45 = true then ((at? ([(⟨#[70, 65, 76, 83, 69]⟩ : ByteArray), (⟨#[84, 82, 85, 69]⟩ : ByteArray)] : List ByteArray) x36.f1).bind fun x49 => if (z33 ++ (bytesOf x49)).length * 1 ≤ 140737488355328 then (some (.inr (z33 ++ (bytesOf x49)))) else none) else ((spec_OutText.e2 k x36).bind fun y55 => if y55 = true then ((spec_l01Char.f k x36.f1).bind fun r59 => if (z33 ++ (bytesOf r59)).length * 1 ≤ 140737488355328 then (some (.inr (z33 ++ (bytesOf r59)))) else none) else (some (.inl ((⟨#[]⟩ : ByteArray), 1)))))
def spec_OutText.l4 : Nat → (List SOut) → (List Int) → Int → Option ((ByteArray × Int) ⊕ (List Int))
  | 0, _, _, _ => none
  | k + 1, a0, z33, z34 => if z34 < (a0.length : Int) then ((at? a0 z34).bind fun x36 => (spec_OutText.e3 k z33 x36).bind fun v => match v with | .inl r => some (.inl r) | .inr y62 => if (y62 ++ ([10] : List Int)).length * 1 ≤ 140737488355328 then (spec_OutText.l4 k a0 (y62 ++ ([10] : List Int)) (w64 (z34 + 1))) else none) else (some (.inr z33))
def spec_OutText.e5 (k : Nat) (a0 : (List SOut)) : Option ((ByteArray × Int) ⊕ (List Int)) := spec_OutText.l4 k a0 ([] : List Int) 0
def spec_OutText.f (k : Nat) (a0 : (List SOut)) : Option (ByteArray × Int) := if (4096 : Int) < (a0.length : Int) then (some ((⟨#[]⟩ : ByteArray), 2)) else ((spec_OutText.e5 k a0).bind fun v => match v with | .inl r => some r | .inr y67 => some (strOfNums y67, 0))
theorem spec_OutText.fn {k : Nat} {a0 : (List SOut)} {r : (ByteArray × Int)} (H : spec_OutText.f k a0 = some r) : Fn Tryd.prog 14 [o1 (.sl 2 (List.map eSOut a0))] [] (tp [none, none] [cS r.1, cI r.2]) [] := by
 refine Fn.bd [2, 3] Tryd.func14 ?_
 refine rn [0] 0 [] [] ?_
 refine sq ?_
 refine rn [0, 9] 0 [] [hL 1 eSOut a0] ?_
 refine ci H (fun h1 H => ?_) fun h1 H => ?_
 ·refine rn [2, 3] 0 [] [] ?_
  refine Tri.ret ?_
  obtain rfl := si H;exact eR
 refine sk ?_
 refine rn [0, 4] 0 [] [] ?_
 refine jr H (fun y67 => ⟨65, [(4, o1 (.own 5 (List.map (eK .u8) y67)))], [], 0, []⟩) (fun y67 H => ?_) fun v69 h68 H => ?_
 ·refine rn [2, 3] 0 [] [q1 1 (.nums y67) (rfl : List.map (eK .u8) y67 = List.map (fun n => [PC.sc (.int .u8 n)]) y67)] ?_
  refine Tri.ret ?_
  obtain rfl := si H;exact eR
 refine rn [0, 4, 5] 0 [] [] ?_
 refine bl ?_
 refine lo ((List Int) × Int) k (fun k x => spec_OutText.l4 k a0 x.1 x.2) (fun x => ⟨65, [(0, o1 (.sl 2 (List.map eSOut a0))), (4, o1 (.own 5 (List.map (eK .u8) x.1))), (5, oI x.2)], [], 0, []⟩) (([] : List Int), 0) h68 fun k x h68 IH66 => ?_
 obtain ⟨z33, z34⟩ := x
 rw [spec_OutText.l4.eq_2] at h68
 refine sq ?_
 refine rn [0, 4, 5, 14] 0 [] [hL 2 eSOut a0] ?_
 refine ci h68 (fun h35 h68 => ?_) fun h35 h68 => ?_
 ·refine sk ?_
  refine sq ?_
  refine bl ?_
  obtain ⟨x36, h37, h68⟩ := bs h68
  refine rn [0, 4, 5, 6] 1 [] [hE 2 eSOut h37] ?_
  refine jr h68 (fun y62 => ⟨65, [(0, o1 (.sl 2 (List.map eSOut a0))), (4, o1 (.own 5 (List.map (eK .u8) y62))), (5, oI z34)], [], 0, []⟩) (fun y62 h68 => ?_) fun v64 h63 h68 => ?_
  ·obtain ⟨h65, h68⟩ := nd h68
   refine rl [0, 4, 5] 0 [] [hA 2 5 (eK .u8) h65] ?_
   refine rl [0, 4, 5] 0 [] [] ?_
   exact lb IH66 (y62 ++ ([10] : List Int), w64 (z34 + 1)) h68
  refine bl ?_
  refine rn [0, 4, 5, 6, 21] 1 [] [] ?_
  refine ci h63 (fun h38 h63 => ?_) fun h38 h63 => ?_
  ·obtain ⟨r39, h40, h63⟩ := bs h63
   obtain ⟨h41, h63⟩ := nd h63
   refine rl [0, 4, 5] 0 [] [hC 3 (spec_l00Digits.fn h40), hT 4 5 h41] ?_
   exact pe (z33 ++ (bytesOf r39)) h63
  refine jo h63 (fun y45 => ⟨65, [(0, o1 (.sl 2 (List.map eSOut a0))), (4, o1 (.own 5 (List.map (eK .u8) z33))), (5, oI z34), (6, o1 (.ref 0 0)), (30, oB y45)], [eSOut x36], 0, []⟩) (fun y45 h63 => ?_) fun v47 h46 h63 => ?_
  ·refine cb h63 (fun h48 h63 => ?_) fun h48 h63 => ?_
   ·obtain ⟨x49, h50, h63⟩ := bs h63
    obtain ⟨h51, h63⟩ := nd h63
    refine rl [0, 4, 5] 0 [] [hE 4 eS h50, hF 5 eS h50, hT 6 5 h51] ?_
    exact pe (z33 ++ (bytesOf x49)) h63
   refine jo h63 (fun y55 => ⟨65, [(0, o1 (.sl 2 (List.map eSOut a0))), (4, o1 (.own 5 (List.map (eK .u8) z33))), (5, oI z34), (6, o1 (.ref 0 0)), (46, oB y55)], [eSOut x36], 0, []⟩) (fun y55 h63 => ?_) fun v57 h56 h63 => ?_
   ·refine cb h63 (fun h58 h63 => ?_) fun h58 h63 => ?_
    ·obtain ⟨r59, h60, h63⟩ := bs h63
     obtain ⟨h61, h63⟩ := nd h63
     refine rl [0, 4, 5] 0 [] [hC 3 (spec_l01Char.fn h60), hT 4 5 h61] ?_
     exact pe (z33 ++ (bytesOf r59)) h63
    refine rn [2, 3] 0 [] [] ?_
    refine Tri.ret ?_
    obtain rfl := si h63;obtain rfl := si h68;obtain rfl := si H;exact eR
   rcases ite_some h56 with ⟨h52, h56⟩ | ⟨h52, h56⟩
   ·obtain ⟨r53, h54, h56⟩ := bs h56
    refine rl [0, 4, 5, 6, 46] 1 [] [hB 2 (decide_eq_true h52), hC 6 (spec_CharOK.fn h54)] ?_
    exact pf r53 h56
   refine rl [0, 4, 5, 6, 46] 1 [] [hB 2 (decide_eq_false h52)] ?_
   exact pf false h56
  rcases ite_some h46 with ⟨h42, h46⟩ | ⟨h42, h46⟩
  ·obtain ⟨r43, h44, h46⟩ := bs h46
   refine rl [0, 4, 5, 6, 30] 1 [] [hB 2 (decide_eq_true h42), hC 6 (spec_l01In.fn h44)] ?_
   exact pf r43 h46
  refine rl [0, 4, 5, 6, 30] 1 [] [hB 2 (decide_eq_false h42)] ?_
  exact pf false h46
 refine fx [4] 0 [] ?_
 refine xi ?_
 exact pe z33 h68
/-! impl_isList_impl_Out: function 31 -/
def impl_isList_impl_Out.f (k : Nat) (a0 : (List SOut)) : Option Bool := some (decide ((a0.length : Int) ≤ 4096))
theorem impl_isList_impl_Out.fn {k : Nat} {a0 : (List SOut)} {r : Bool} (H : impl_isList_impl_Out.f k a0 = some r) : Fn Tryd.prog 31 [o1 (.sl 2 (List.map eSOut a0))] [] (oB r) [] := by
 refine Fn.bd [2] Tryd.func31 ?_
 refine rn [0] 0 [] [] ?_
 refine rn [2] 0 [] [hL 1 eSOut a0] ?_
 refine Tri.ret ?_
 obtain rfl := si H;exact eR
/-! impl_within: function 38 -/
def impl_within.e1 (k : Nat) (a0 : Int) (a1 : Int) (a2 : Int) : Option Bool := if a1 ≤ a0 then (some (decide (a0 ≤ a2))) else (some false)
def impl_within.f (k : Nat) (a0 : Int) (a1 : Int) (a2 : Int) : Option Bool := (impl_within.e1 k a0 a1 a2).bind fun y2 => some y2
theorem impl_within.fn {k : Nat} {a0 : Int} {a1 : Int} {a2 : Int} {r : Bool} (H : impl_within.f k a0 a1 a2 = some r) : Fn Tryd.prog 38 [oI a0, oI a1, oI a2] [] (oB r) [] := by
 refine Fn.bd [6] Tryd.func38 ?_
 refine rn [0, 1, 2] 0 [] [] ?_
 refine jo H (fun y2 => ⟨15, [(6, oB y2)], [], 0, []⟩) (fun y2 H => ?_) fun v4 h3 H => ?_
 ·refine Tri.ret ?_
  obtain rfl := si H;exact eR
 rcases ite_some h3 with ⟨h1, h3⟩ | ⟨h1, h3⟩
 ·refine rl [6] 0 [] [hB 2 (decide_eq_true h1)] ?_
  exact pf (decide (a0 ≤ a2)) h3
 refine rl [6] 0 [] [hB 2 (decide_eq_false h1)] ?_
 exact pf false h3
/-! impl_CharOK: function 20 -/
def impl_CharOK.e1 (k : Nat) (a0 : Int) : Option Bool := (impl_within.f k a0 0 1114111).bind fun r1 => if r1 = true then ((impl_within.f k a0 55296 57343).bind fun r4 => some (!r4)) else (some false)
def impl_CharOK.f (k : Nat) (a0 : Int) : Option Bool := (impl_CharOK.e1 k a0).bind fun y6 => some y6
theorem impl_CharOK.fn {k : Nat} {a0 : Int} {r : Bool} (H : impl_CharOK.f k a0 = some r) : Fn Tryd.prog 20 [oI a0] [] (oB r) [] := by
 refine Fn.bd [2] Tryd.func20 ?_
 refine rn [0] 0 [] [] ?_
 refine jo H (fun y6 => ⟨10, [(2, oB y6)], [], 0, []⟩) (fun y6 H => ?_) fun v8 h7 H => ?_
 ·refine Tri.ret ?_
  obtain rfl := si H;exact eR
 obtain ⟨r1, h2, h7⟩ := bs h7
 rcases iteb_some h7 with ⟨h3, h7⟩ | ⟨h3, h7⟩
 ·obtain ⟨r4, h5, h7⟩ := bs h7
  refine rl [2] 0 [] [hC 1 (impl_within.fn h2), hB 1 h3, hC 4 (impl_within.fn h5)] ?_
  exact pf (!r4) h7
 refine rl [2] 0 [] [hC 1 (impl_within.fn h2), hB 1 h3] ?_
 exact pf false h7
/-! impl_isValueOf: function 52 -/
def impl_isValueOf.e1 (k : Nat) (a0 : Int) (a1 : Int) : Option Bool := if a0 = 1 then (some true) else (if a0 = 2 then ((impl_within.f k a1 0 1).bind fun r3 => if r3 = true then (some true) else (if a0 = 3 then ((impl_CharOK.f k a1).bind fun r7 => some r7) else (some false))) else (if a0 = 3 then ((impl_CharOK.f k a1).bind fun r10 => some r10) else (some false)))
def impl_isValueOf.f (k : Nat) (a0 : Int) (a1 : Int) : Option Bool := (impl_isValueOf.e1 k a0 a1).bind fun y12 => some y12
theorem impl_isValueOf.fn {k : Nat} {a0 : Int} {a1 : Int} {r : Bool} (H : impl_isValueOf.f k a0 a1 = some r) : Fn Tryd.prog 52 [oI a0, oI a1] [] (oB r) [] := by
 refine Fn.bd [4] Tryd.func52 ?_
 refine rn [0, 1] 0 [] [] ?_
 refine jo H (fun y12 => ⟨23, [(4, oB y12)], [], 0, []⟩) (fun y12 H => ?_) fun v14 h13 H => ?_
 ·refine Tri.ret ?_
  obtain rfl := si H;exact eR
 rcases ite_some h13 with ⟨h1, h13⟩ | ⟨h1, h13⟩
 ·refine rl [4] 0 [] [hB 1 (decide_eq_true h1)] ?_
  exact pf true h13
 rcases ite_some h13 with ⟨h2, h13⟩ | ⟨h2, h13⟩
 ·obtain ⟨r3, h4, h13⟩ := bs h13
  rcases iteb_some h13 with ⟨h5, h13⟩ | ⟨h5, h13⟩
  ·refine rl [4] 0 [] [hB 1 (decide_eq_false h1), hB 4 (decide_eq_true h2), hC 7 (impl_within.fn h4), hB 7 h5] ?_
   exact pf true h13
  rcases ite_some h13 with ⟨h6, h13⟩ | ⟨h6, h13⟩
  ·obtain ⟨r7, h8, h13⟩ := bs h13
   refine rl [4] 0 [] [hB 1 (decide_eq_false h1), hB 4 (decide_eq_true h2), hC 7 (impl_within.fn h4), hB 7 h5, hB 12 (decide_eq_true h6), hC 15 (impl_CharOK.fn h8)] ?_
   exact pf r7 h13
  refine rl [4] 0 [] [hB 1 (decide_eq_false h1), hB 4 (decide_eq_true h2), hC 7 (impl_within.fn h4), hB 7 h5, hB 12 (decide_eq_false h6)] ?_
  exact pf false h13
 rcases ite_some h13 with ⟨h9, h13⟩ | ⟨h9, h13⟩
 ·obtain ⟨r10, h11, h13⟩ := bs h13
  refine rl [4] 0 [] [hB 1 (decide_eq_false h1), hB 4 (decide_eq_false h2), hB 12 (decide_eq_true h9), hC 15 (impl_CharOK.fn h11)] ?_
  exact pf r10 h13
 refine rl [4] 0 [] [hB 1 (decide_eq_false h1), hB 4 (decide_eq_false h2), hB 12 (decide_eq_false h9)] ?_
 exact pf false h13
/-! impl_isTold: function 33 -/
def impl_isTold.f (k : Nat) (a0 : SOut) : Option Bool := (impl_isValueOf.f k a0.f0 a0.f1).bind fun r1 => some r1
theorem impl_isTold.fn {k : Nat} {a0 : SOut} {r : Bool} (H : impl_isTold.f k a0 = some r) : Fn Tryd.prog 33 [ag (eSOut a0)] [] (oB r) [] := by
 refine Fn.bd [2] Tryd.func33 ?_
 refine rn [1] 1 [] [] ?_
 obtain ⟨r1, h2, H⟩ := bs H
 refine rn [2] 0 [] [hC 4 (impl_isValueOf.fn h2)] ?_
 refine Tri.ret ?_
 obtain rfl := si H;exact eR
/-! impl_areAll_impl_Out__1_1: function 51 -/
def impl_areAll_impl_Out__1_1.f (k : Nat) (a0 : SOut) : Option Bool := (impl_isTold.f k a0).bind fun r1 => some (!r1)
theorem impl_areAll_impl_Out__1_1.fn {k : Nat} {a0 : SOut} {r : Bool} (H : impl_areAll_impl_Out__1_1.f k a0 = some r) : Fn Tryd.prog 51 [ag (eSOut a0), o1 (.cel ([.sc (.func (.func 33) #[] #[])]) 0)] [] (oB r) [] := by
 refine Fn.bd [3] Tryd.func51 ?_
 refine rn [1, 2] 1 [] [] ?_
 obtain ⟨r1, h2, H⟩ := bs H
 refine rn [3] 0 [] [hC 2 (impl_isTold.fn h2)] ?_
 refine Tri.ret ?_
 obtain rfl := si H;exact eR
/-! slices_IndexFunc___impl_Out_impl_Out_1: function 83 -/
def slices_IndexFunc___impl_Out_impl_Out_1.l1 : Nat → (List SOut) → Int → Option (Int ⊕ Unit)
  | 0, _, _ => none
  | k + 1, a0, z7 => if z7 < (a0.length : Int) then ((at? a0 z7).bind fun x9 => (impl_areAll_impl_Out__1_1.f k x9).bind fun r11 => if r11 = true then (some (.inl z7)) else (slices_IndexFunc___impl_Out_impl_Out_1.l1 k a0 (w64 (z7 + 1)))) else (some (.inr ()))
def slices_IndexFunc___impl_Out_impl_Out_1.e2 (k : Nat) (a0 : (List SOut)) : Option (Int ⊕ Unit) := slices_IndexFunc___impl_Out_impl_Out_1.l1 k a0 0
def slices_IndexFunc___impl_Out_impl_Out_1.f (k : Nat) (a0 : (List SOut)) : Option Int := (slices_IndexFunc___impl_Out_impl_Out_1.e2 k a0).bind fun v => match v with | .inl r => some r | .inr _ => some (-1)
theorem slices_IndexFunc___impl_Out_impl_Out_1.fn {k : Nat} {a0 : (List SOut)} {r : Int} (H : slices_IndexFunc___impl_Out_impl_Out_1.f k a0 = some r) : Fn Tryd.prog 83 [o1 (.sl 2 (List.map eSOut a0)), o1 (.fn 51 [.cel ([.sc (.func (.func 33) #[] #[])]) 0])] [] (oI r) [] := by
 refine Fn.bd [4] Tryd.func83 ?_
 refine rn [0, 1] 0 [] [] ?_
 refine jr H (fun _ => ⟨19, [], [], 0, []⟩) (fun _ H => ?_) fun v16 h15 H => ?_
 ·refine rn [4] 0 [] [] ?_
  refine Tri.ret ?_
  obtain rfl := si H;exact eR
 refine rn [0, 1, 7, 8] 0 [] [hL 1 eSOut a0] ?_
 refine bl ?_
 refine lo Int k (fun k x => slices_IndexFunc___impl_Out_impl_Out_1.l1 k a0 x) (fun x => ⟨19, [(0, o1 (.sl 2 (List.map eSOut a0))), (1, o1 (.fn 51 [.cel ([.sc (.func (.func 33) #[] #[])]) 0])), (7, oI (a0.length : Int)), (8, oI x)], [], 0, []⟩) 0 h15 fun k z7 h15 IH14 => ?_
 rw [slices_IndexFunc___impl_Out_impl_Out_1.l1.eq_2] at h15
 refine rn [0, 1, 7, 8, 9] 0 [] [] ?_
 refine sq ?_
 refine ci h15 (fun h8 h15 => ?_) fun h8 h15 => ?_
 ·refine sk ?_
  refine sq ?_
  refine bl ?_
  refine rn [0, 1, 5, 7, 8] 0 [] [] ?_
  obtain ⟨x9, h10, h15⟩ := bs h15
  obtain ⟨r11, h12, h15⟩ := bs h15
  refine rn [0, 1, 5, 7, 8, 16] 0 [] [hE 3 eSOut h10, hC 5 (impl_areAll_impl_Out__1_1.fn h12)] ?_
  refine cb h15 (fun h13 h15 => ?_) fun h13 h15 => ?_
  ·refine rn [4] 0 [] [] ?_
   refine Tri.ret ?_
   obtain rfl := si h15;obtain rfl := si H;exact eR
  refine sk ?_
  refine rl [0, 1, 7, 8] 0 [] [] ?_
  exact lb IH14 (w64 (z7 + 1)) h15
 refine fx [] 0 [] ?_
 refine xi ?_
 exact pe () h15
/-! slices_ContainsFunc___impl_Out_impl_Out_1: function 50 -/
def slices_ContainsFunc___impl_Out_impl_Out_1.f (k : Nat) (a0 : (List SOut)) : Option Bool := (slices_IndexFunc___impl_Out_impl_Out_1.f k a0).bind fun r1 => some (decide ((0 : Int) ≤ r1))
theorem slices_ContainsFunc___impl_Out_impl_Out_1.fn {k : Nat} {a0 : (List SOut)} {r : Bool} (H : slices_ContainsFunc___impl_Out_impl_Out_1.f k a0 = some r) : Fn Tryd.prog 50 [o1 (.sl 2 (List.map eSOut a0)), o1 (.fn 51 [.cel ([.sc (.func (.func 33) #[] #[])]) 0])] [] (oB r) [] := by
 refine Fn.bd [4] Tryd.func50 ?_
 refine rn [0, 1] 0 [] [] ?_
 obtain ⟨r1, h2, H⟩ := bs H
 refine rn [4] 0 [] [hC 2 (slices_IndexFunc___impl_Out_impl_Out_1.fn h2)] ?_
 refine Tri.ret ?_
 obtain rfl := si H;exact eR
/-! impl_areAll_impl_Out_1: function 32 -/
def impl_areAll_impl_Out_1.f (k : Nat) (a0 : (List SOut)) : Option Bool := (slices_ContainsFunc___impl_Out_impl_Out_1.f k a0).bind fun r1 => some (!r1)
theorem impl_areAll_impl_Out_1.fn {k : Nat} {a0 : (List SOut)} {r : Bool} (H : impl_areAll_impl_Out_1.f k a0 = some r) : Fn Tryd.prog 32 [o1 (.sl 2 (List.map eSOut a0)), o1 (.sc (.func (.func 33) #[] #[]))] [] (oB r) [] := by
 refine Fn.bd [4] Tryd.func32 ?_
 refine rn [0, 3] 1 [] [] ?_
 obtain ⟨r1, h2, H⟩ := bs H
 refine rn [4] 0 [] [hC 2 (slices_ContainsFunc___impl_Out_impl_Out_1.fn h2)] ?_
 refine Tri.ret ?_
 obtain rfl := si H;exact eR
/-! impl_isPlain: function 39 -/
def impl_isPlain.e1 (k : Nat) (a0 : Int) : Option Bool := if (32 : Int) ≤ a0 then (if a0 = 127 then (some false) else (some (!(decide (a0 = 34))))) else (some false)
def impl_isPlain.f (k : Nat) (a0 : Int) : Option Bool := (impl_isPlain.e1 k a0).bind fun y3 => some y3
theorem impl_isPlain.fn {k : Nat} {a0 : Int} {r : Bool} (H : impl_isPlain.f k a0 = some r) : Fn Tryd.prog 39 [oI a0] [] (oB r) [] := by
 refine Fn.bd [2] Tryd.func39 ?_
 refine rn [0] 0 [] [] ?_
 refine jo H (fun y3 => ⟨13, [(2, oB y3)], [], 0, []⟩) (fun y3 H => ?_) fun v5 h4 H => ?_
 ·refine Tri.ret ?_
  obtain rfl := si H;exact eR
 rcases ite_some h4 with ⟨h1, h4⟩ | ⟨h1, h4⟩
 ·rcases ite_some h4 with ⟨h2, h4⟩ | ⟨h2, h4⟩
  ·refine rl [2] 0 [] [hB 1 (decide_eq_true h1), hB 4 (nF (decide_eq_true h2))] ?_
   exact pf false h4
  refine rl [2] 0 [] [hB 1 (decide_eq_true h1), hB 4 (nT (decide_eq_false h2))] ?_
  exact pf (!(decide (a0 = 34))) h4
 refine rl [2] 0 [] [hB 1 (decide_eq_false h1)] ?_
 exact pf false h4
/-! impl_charText: function 21 -/
def impl_charText.f (k : Nat) (a0 : Int) : Option ByteArray := (impl_isPlain.f k a0).bind fun r1 => if r1 = true then (if (⟨#[34]⟩ : ByteArray).size + (Utf8.encode (IntKind.i32.wrap (a0))).size ≤ 9223372036854775807 then (if ((⟨#[34]⟩ : ByteArray) ++ (Utf8.encode (IntKind.i32.wrap (a0)))).size + (⟨#[34]⟩ : ByteArray).size ≤ 9223372036854775807 then (some (((⟨#[34]⟩ : ByteArray) ++ (Utf8.encode (IntKind.i32.wrap (a0)))) ++ (⟨#[34]⟩ : ByteArray))) else none) else none) else ((strconv_FormatInt.f k a0 16).bind fun r6 => (strings_ToUpper.f k r6).bind fun r8 => if (⟨#[48]⟩ : ByteArray).size + r8.size ≤ 9223372036854775807 then (if ((⟨#[48]⟩ : ByteArray) ++ r8).size + (⟨#[88]⟩ : ByteArray).size ≤ 9223372036854775807 then (some (((⟨#[48]⟩ : ByteArray) ++ r8) ++ (⟨#[88]⟩ : ByteArray))) else none) else none)
theorem impl_charText.fn {k : Nat} {a0 : Int} {r : ByteArray} (H : impl_charText.f k a0 = some r) : Fn Tryd.prog 21 [oI a0] [] (oS r) [] := by
 refine Fn.bd [2] Tryd.func21 ?_
 refine rn [0] 0 [] [] ?_
 refine sq ?_
 obtain ⟨r1, h2, H⟩ := bs H
 refine rn [0, 4] 0 [] [hC 1 (impl_isPlain.fn h2)] ?_
 refine cb H (fun h3 H => ?_) fun h3 H => ?_
 ·obtain ⟨h4, H⟩ := nd H
  obtain ⟨h5, H⟩ := nd H
  refine rn [2] 0 [] [p1 h4, p1 h5] ?_
  refine Tri.ret ?_
  obtain rfl := si H;exact eR
 refine sk ?_
 obtain ⟨r6, h7, H⟩ := bs H
 obtain ⟨r8, h9, H⟩ := bs H
 obtain ⟨h10, H⟩ := nd H
 obtain ⟨h11, H⟩ := nd H
 refine rn [2] 0 [] [hC 1 (strconv_FormatInt.fn k a0 16 r6 h7), hC 2 (strings_ToUpper.fn k r6 r8 h9), p1 h10, p1 h11] ?_
 refine Tri.ret ?_
 obtain rfl := si H;exact eR
/-! impl_Node__full: function 85 -/
def impl_Node__full.f (k : Nat) (a0 : SNode) : Option ByteArray := if a0.f3 = (⟨#[]⟩ : ByteArray) then (some a0.f2) else (if a0.f3.size + (⟨#[46]⟩ : ByteArray).size ≤ 9223372036854775807 then (if (a0.f3 ++ (⟨#[46]⟩ : ByteArray)).size + a0.f2.size ≤ 9223372036854775807 then (some ((a0.f3 ++ (⟨#[46]⟩ : ByteArray)) ++ a0.f2)) else none) else none)
theorem impl_Node__full.fn {k : Nat} {a0 : SNode} {r : ByteArray} (H : impl_Node__full.f k a0 = some r) : Fn Tryd.prog 85 [ag (vSNode a0)] [] (oS r) [] := by
 refine Fn.bd [2] Tryd.func85 ?_
 refine rn [1] 1 [] [] ?_
 refine sq ?_
 refine rn [1, 5] 1 [] [] ?_
 refine ci H (fun h1 H => ?_) fun h1 H => ?_
 ·refine rn [2] 0 [] [] ?_
  refine Tri.ret ?_
  obtain rfl := si H;exact eR
 refine sk ?_
 obtain ⟨h2, H⟩ := nd H
 obtain ⟨h3, H⟩ := nd H
 refine rn [2] 0 [] [p1 h2, p1 h3] ?_
 refine Tri.ret ?_
 obtain rfl := si H;exact eR
/-! impl_side: function 86 -/
def impl_side.e1 (k : Nat) (a0 : SNode) (a1 : Bool) : Option Bool := if a0.f0 = 24 then (some a1) else (some false)
def impl_side.f (k : Nat) (rec_impl_Node__text : (SNode → Option ByteArray)) (a0 : SNode) (a1 : Bool) : Option ByteArray := (impl_side.e1 k a0 a1).bind fun y2 => if y2 = true then ((rec_impl_Node__text a0).bind fun r6 => if (⟨#[40]⟩ : ByteArray).size + r6.size ≤ 9223372036854775807 then (if ((⟨#[40]⟩ : ByteArray) ++ r6).size + (⟨#[41]⟩ : ByteArray).size ≤ 9223372036854775807 then (some (((⟨#[40]⟩ : ByteArray) ++ r6) ++ (⟨#[41]⟩ : ByteArray))) else none) else none) else ((rec_impl_Node__text a0).bind fun r10 => some r10)
theorem impl_side.fn {k : Nat} {rec_impl_Node__text : (SNode → Option ByteArray)} (ih_impl_Node__text : ∀ {a0 : SNode} {r : ByteArray} (H : rec_impl_Node__text a0 = some r), Fn Tryd.prog 54 [ag (vSNode a0)] [] (oS r) []) {a0 : SNode} {a1 : Bool} {r : ByteArray} (H : impl_side.f k rec_impl_Node__text a0 a1 = some r) : Fn Tryd.prog 86 [ag (vSNode a0), oB a1] [] (oS r) [] := by
 refine Fn.bd [4] Tryd.func86 ?_
 refine rn [1, 2] 1 [] [] ?_
 refine sq ?_
 refine jo H (fun y2 => ⟨17, [(2, o1 (.ref 0 0)), (10, oB y2)], [vSNode a0], 0, []⟩) (fun y2 H => ?_) fun v4 h3 H => ?_
 ·refine cb H (fun h5 H => ?_) fun h5 H => ?_
  ·obtain ⟨r6, h7, H⟩ := bs H
   obtain ⟨h8, H⟩ := nd H
   obtain ⟨h9, H⟩ := nd H
   refine rn [4] 0 [] [hC 1 (ih_impl_Node__text h7), p1 h8, p1 h9] ?_
   refine Tri.ret ?_
   obtain rfl := si H;exact eR
  refine sk ?_
  obtain ⟨r10, h11, H⟩ := bs H
  refine rn [4] 0 [] [hC 1 (ih_impl_Node__text h11)] ?_
  refine Tri.ret ?_
  obtain rfl := si H;exact eR
 rcases ite_some h3 with ⟨h1, h3⟩ | ⟨h1, h3⟩
 ·refine rl [2, 10] 1 [] [hB 2 (decide_eq_true h1)] ?_
  exact pf a1 h3
 refine rl [2, 10] 1 [] [hB 2 (decide_eq_false h1)] ?_
 exact pf false h3
/-! impl_rankOf: function 87 -/
def impl_rankOf.e1 (k : Nat) (a0 : ByteArray) : Option Bool := if a0 = (⟨#[43]⟩ : ByteArray) then (some (decide (a0 = (⟨#[43]⟩ : ByteArray)))) else (if a0 = (⟨#[45]⟩ : ByteArray) then (some (decide (a0 = (⟨#[45]⟩ : ByteArray)))) else (some (decide (a0 = (⟨#[79, 82]⟩ : ByteArray)))))
def impl_rankOf.e2 (k : Nat) (a0 : ByteArray) : Option Bool := if a0 = (⟨#[42]⟩ : ByteArray) then (some (decide (a0 = (⟨#[42]⟩ : ByteArray)))) else (if a0 = (⟨#[68, 73, 86]⟩ : ByteArray) then (some (decide (a0 = (⟨#[68, 73, 86]⟩ : ByteArray)))) else (if a0 = (⟨#[77, 79, 68]⟩ : ByteArray) then (some (decide (a0 = (⟨#[77, 79, 68]⟩ : ByteArray)))) else (some (decide (a0 = (⟨#[38]⟩ : ByteArray))))))
def impl_rankOf.f (k : Nat) (a0 : ByteArray) : Option Int := (impl_rankOf.e1 k a0).bind fun y3 => if y3 = true then (some 2) else ((impl_rankOf.e2 k a0).bind fun y10 => if y10 = true then (some 3) else (some 1))
theorem impl_rankOf.fn {k : Nat} {a0 : ByteArray} {r : Int} (H : impl_rankOf.f k a0 = some r) : Fn Tryd.prog 87 [oS a0] [] (oI r) [] := by
 refine Fn.bd [2] Tryd.func87 ?_
 refine rn [0] 0 [] [] ?_
 refine sq ?_
 refine rn [3] 0 [] [] ?_
 refine bl ?_
 refine jo H (fun y3 => ⟨13, [(3, oS a0), (4, oB y3)], [], 0, []⟩) (fun y3 H => ?_) fun v5 h4 H => ?_
 ·refine cb H (fun h6 H => ?_) fun h6 H => ?_
  ·refine rn [2] 0 [] [] ?_
   refine Tri.ret ?_
   obtain rfl := si H;exact eR
  refine jo H (fun y10 => ⟨13, [(8, oB y10)], [], 0, []⟩) (fun y10 H => ?_) fun v12 h11 H => ?_
  ·refine cb H (fun h13 H => ?_) fun h13 H => ?_
   ·refine rn [2] 0 [] [] ?_
    refine Tri.ret ?_
    obtain rfl := si H;exact eR
   refine sk ?_
   refine rn [2] 0 [] [] ?_
   refine Tri.ret ?_
   obtain rfl := si H;exact eR
  refine rn [3, 8] 0 [] [] ?_
  refine ci h11 (fun h7 h11 => ?_) fun h7 h11 => ?_
  ·refine fx [8] 0 [] ?_
   refine sk ?_
   exact pf (decide (a0 = (⟨#[42]⟩ : ByteArray))) h11
  refine rn [3, 8] 0 [] [] ?_
  refine ci h11 (fun h8 h11 => ?_) fun h8 h11 => ?_
  ·refine fx [8] 0 [] ?_
   refine sk ?_
   exact pf (decide (a0 = (⟨#[68, 73, 86]⟩ : ByteArray))) h11
  refine rn [3, 8] 0 [] [] ?_
  refine ci h11 (fun h9 h11 => ?_) fun h9 h11 => ?_
  ·refine fx [8] 0 [] ?_
   refine sk ?_
   exact pf (decide (a0 = (⟨#[77, 79, 68]⟩ : ByteArray))) h11
  refine rl [8] 0 [] [] ?_
  exact pf (decide (a0 = (⟨#[38]⟩ : ByteArray))) h11
 refine rn [3, 4] 0 [] [] ?_
 refine ci h4 (fun h1 h4 => ?_) fun h1 h4 => ?_
 ·refine sk ?_
  exact pf (decide (a0 = (⟨#[43]⟩ : ByteArray))) h4
 refine rn [3, 4] 0 [] [] ?_
 refine ci h4 (fun h2 h4 => ?_) fun h2 h4 => ?_
 ·refine sk ?_
  exact pf (decide (a0 = (⟨#[45]⟩ : ByteArray))) h4
 refine rl [3, 4] 0 [] [] ?_
 exact pf (decide (a0 = (⟨#[79, 82]⟩ : ByteArray))) h4
/-! impl_texts: function 88 -/
def impl_texts.l1 : Nat → (List SNode) → (SNode → Option ByteArray) → (List ByteArray) → Int → Option (List ByteArray)
  | 0, _, _, _, _ => none
  | k + 1, a0, rec_impl_Node__text, z13, z14 => if z14 < (a0.length : Int) then ((at? a0 z14).bind fun x16 => (rec_impl_Node__text x16).bind fun r18 => if (z13 ++ ([r18] : List ByteArray)).length * 16 ≤ 140737488355328 then (impl_texts.l1 k a0 rec_impl_Node__text (z13 ++ ([r18] : List ByteArray)) (w64 (z14 + 1))) else none) else (some z13)
def impl_texts.e2 (k : Nat) (a0 : (List SNode)) (rec_impl_Node__text : (SNode → Option ByteArray)) : Option (List ByteArray) := impl_texts.l1 k a0 rec_impl_Node__text ([] : List ByteArray) 0
def impl_texts.f (k : Nat) (rec_impl_Node__text : (SNode → Option ByteArray)) (a0 : (List SNode)) : Option ByteArray := (impl_texts.e2 k a0 rec_impl_Node__text).bind fun y22 => (strings_Join.f k y22 (⟨#[44, 32]⟩ : ByteArray)).bind fun r25 => some r25
theorem impl_texts.fn {k : Nat} {rec_impl_Node__text : (SNode → Option ByteArray)} (ih_impl_Node__text : ∀ {a0 : SNode} {r : ByteArray} (H : rec_impl_Node__text a0 = some r), Fn Tryd.prog 54 [ag (vSNode a0)] [] (oS r) []) {a0 : (List SNode)} {r : ByteArray} (H : impl_texts.f k rec_impl_Node__text a0 = some r) : Fn Tryd.prog 88 [o1 (.sl 5 (List.map eSNode a0))] [] (oS r) [] := by
 refine Fn.bd [2] Tryd.func88 ?_
 refine rn [0] 0 [] [] ?_
 refine rn [0, 3] 0 [] [] ?_
 refine jo H (fun y22 => ⟨20, [(3, o1 (.own 9 (List.map eS y22)))], [], 0, []⟩) (fun y22 H => ?_) fun v24 h23 H => ?_
 ·obtain ⟨r25, h26, H⟩ := bs H
  refine rn [2] 0 [] [hC 1 (strings_Join.fn k y22 (⟨#[44, 32]⟩ : ByteArray) r25 h26)] ?_
  refine Tri.ret ?_
  obtain rfl := si H;exact eR
 refine rn [3, 6, 7, 8] 0 [] [hL 1 eSNode a0] ?_
 refine bl ?_
 refine fx [3, 6, 7, 8] 0 [.own (.t 3 0) 9] ?_
 refine lo ((List ByteArray) × Int) k (fun k x => impl_texts.l1 k a0 rec_impl_Node__text x.1 x.2) (fun x => ⟨20, [(3, o1 (.own 9 (List.map eS x.1))), (6, o1 (.sl 5 (List.map eSNode a0))), (7, oI (a0.length : Int)), (8, oI x.2)], [], 0, []⟩) (([] : List ByteArray), 0) h23 fun k x h23 IH21 => ?_
 obtain ⟨z13, z14⟩ := x
 rw [impl_texts.l1.eq_2] at h23
 refine rn [3, 6, 7, 8, 9] 0 [] [] ?_
 refine sq ?_
 refine ci h23 (fun h15 h23 => ?_) fun h15 h23 => ?_
 ·refine sk ?_
  refine sq ?_
  refine bl ?_
  obtain ⟨x16, h17, h23⟩ := bs h23
  refine rn [3, 5, 6, 7, 8] 1 [] [hEv 0 eSNode_v h17] ?_
  obtain ⟨r18, h19, h23⟩ := bs h23
  obtain ⟨h20, h23⟩ := nd h23
  refine rl [3, 6, 7, 8] 0 [] [hC 2 (ih_impl_Node__text h19), hA 4 9 eS h20] ?_
  refine rl [3, 6, 7, 8] 0 [] [] ?_
  exact lb IH21 (z13 ++ ([r18] : List ByteArray), w64 (z14 + 1)) h23
 refine fx [3] 0 [] ?_
 refine xi ?_
 exact pf z13 h23
/-! impl_Node__text: function 54 -/
def impl_Node__text.e1 (k : Nat) (a0 : SNode) (rec_impl_Node__text : (SNode → Option ByteArray)) (r31 : Int) (x33 : SNode) (r35 : Int) (x37 : SNode) (r39 : Int) : Option ByteArray := if r35 < r31 then ((impl_side.f k rec_impl_Node__text x33 true).bind fun r42 => if r42.size + (⟨#[32]⟩ : ByteArray).size ≤ 9223372036854775807 then (if (r42 ++ (⟨#[32]⟩ : ByteArray)).size + a0.f2.size ≤ 9223372036854775807 then (if ((r42 ++ (⟨#[32]⟩ : ByteArray)) ++ a0.f2).size + (⟨#[32]⟩ : ByteArray).size ≤ 9223372036854775807 then ((impl_side.f k rec_impl_Node__text x37 (decide (r39 ≤ r31))).bind fun r47 => if (((r42 ++ (⟨#[32]⟩ : ByteArray)) ++ a0.f2) ++ (⟨#[32]⟩ : ByteArray)).size + r47.size ≤ 9223372036854775807 then (some ((((r42 ++ (⟨#[32]⟩ : ByteArray)) ++ a0.f2) ++ (⟨#[32]⟩ : ByteArray)) ++ r47)) else none) else none) else none) else none) else (if r35 = r31 then ((impl_side.f k rec_impl_Node__text x33 (decide (r31 = 1))).bind fun r51 => if r51.size + (⟨#[32]⟩ : ByteArray).size ≤ 9223372036854775807 then (if (r51 ++ (⟨#[32]⟩ : ByteArray)).size + a0.f2.size ≤ 9223372036854775807 then (if ((r51 ++ (⟨#[32]⟩ : ByteArray)) ++ a0.f2).size + (⟨#[32]⟩ : ByteArray).size ≤ 9223372036854775807 then ((impl_side.f k rec_impl_Node__text x37 (decide (r39 ≤ r31))).bind fun r56 => if (((r51 ++ (⟨#[32]⟩ : ByteArray)) ++ a0.f2) ++ (⟨#[32]⟩ : ByteArray)).size + r56.size ≤ 9223372036854775807 then (some ((((r51 ++ (⟨#[32]⟩ : ByteArray)) ++ a0.f2) ++ (⟨#[32]⟩ : ByteArray)) ++ r56)) else none) else none) else none) else none) else ((impl_side.f k rec_impl_Node__text x33 false).bind fun r59 => if r59.size + (⟨#[32]⟩ : ByteArray).size ≤ 9223372036854775807 then (if (r59 ++ (⟨#[32]⟩ : ByteArray)).size + a0.f2.size ≤ 9223372036854775807 then (if ((r59 ++ (⟨#[32]⟩ : ByteArray)) ++ a0.f2).size + (⟨#[32]⟩ : ByteArray).size ≤ 9223372036854775807 then ((impl_side.f k rec_impl_Node__text x37 (decide (r39 ≤ r31))).bind fun r64 => if (((r59 ++ (⟨#[32]⟩ : ByteArray)) ++ a0.f2) ++ (⟨#[32]⟩ : ByteArray)).size + r64.size ≤ 9223372036854775807 then (some ((((r59 ++ (⟨#[32]⟩ : ByteArray)) ++ a0.f2) ++ (⟨#[32]⟩ : ByteArray)) ++ r64)) else none) else none) else none) else none))
def impl_Node__text.f : Nat → SNode → Option ByteArray
  | 0, _ => none
  | k + 1, a0 => if a0.f0 = 18 then ((strconv_Itoa.f k a0.f1).bind fun r2 => some r2) else (if a0.f0 = 19 then ((impl_charText.f k a0.f1).bind fun r5 => some r5) else (if a0.f0 = 20 then (if a0.f1 = 1 then (some (⟨#[84, 82, 85, 69]⟩ : ByteArray)) else (some (⟨#[70, 65, 76, 83, 69]⟩ : ByteArray))) else (if a0.f0 = 21 then ((impl_Node__full.f k a0).bind fun r10 => some r10) else (if a0.f0 = 22 then ((at? a0.f4 0).bind fun x13 => ((impl_Node__text.f k) x13).bind fun r15 => if r15.size + (⟨#[91]⟩ : ByteArray).size ≤ 9223372036854775807 then ((at? a0.f4 1).bind fun x18 => ((impl_Node__text.f k) x18).bind fun r20 => if (r15 ++ (⟨#[91]⟩ : ByteArray)).size + r20.size ≤ 9223372036854775807 then (if ((r15 ++ (⟨#[91]⟩ : ByteArray)) ++ r20).size + (⟨#[93]⟩ : ByteArray).size ≤ 9223372036854775807 then (some (((r15 ++ (⟨#[91]⟩ : ByteArray)) ++ r20) ++ (⟨#[93]⟩ : ByteArray))) else none) else none) else none) else (if a0.f0 = 23 then ((at? a0.f4 0).bind fun x25 => (impl_side.f k (impl_Node__text.f k) x25 true).bind fun r27 => if a0.f2.size + r27.size ≤ 9223372036854775807 then (some (a0.f2 ++ r27)) else none) else (if a0.f0 = 24 then ((impl_rankOf.f k a0.f2).bind fun r31 => (at? a0.f4 0).bind fun x33 => (impl_rankOf.f k x33.f2).bind fun r35 => (at? a0.f4 1).bind fun x37 => (impl_rankOf.f k x37.f2).bind fun r39 => (impl_Node__text.e1 k a0 (impl_Node__text.f k) r31 x33 r35 x37 r39).bind fun y67 => some y67) else (if a0.f0 = 25 then ((at? a0.f4 0).bind fun x71 => ((impl_Node__text.f k) x71).bind fun r73 => if (⟨#[79, 82, 68, 40]⟩ : ByteArray).size + r73.size ≤ 9223372036854775807 then (if ((⟨#[79, 82, 68, 40]⟩ : ByteArray) ++ r73).size + (⟨#[41]⟩ : ByteArray).size ≤ 9223372036854775807 then (some (((⟨#[79, 82, 68, 40]⟩ : ByteArray) ++ r73) ++ (⟨#[41]⟩ : ByteArray))) else none) else none) else (if a0.f0 = 26 then ((at? a0.f4 0).bind fun x78 => ((impl_Node__text.f k) x78).bind fun r80 => if (⟨#[67, 72, 82, 40]⟩ : ByteArray).size + r80.size ≤ 9223372036854775807 then (if ((⟨#[67, 72, 82, 40]⟩ : ByteArray) ++ r80).size + (⟨#[41]⟩ : ByteArray).size ≤ 9223372036854775807 then (some (((⟨#[67, 72, 82, 40]⟩ : ByteArray) ++ r80) ++ (⟨#[41]⟩ : ByteArray))) else none) else none) else (if a0.f0 = 27 then ((at? a0.f4 0).bind fun x85 => ((impl_Node__text.f k) x85).bind fun r87 => if (⟨#[76, 69, 78, 40]⟩ : ByteArray).size + r87.size ≤ 9223372036854775807 then (if ((⟨#[76, 69, 78, 40]⟩ : ByteArray) ++ r87).size + (⟨#[41]⟩ : ByteArray).size ≤ 9223372036854775807 then (some (((⟨#[76, 69, 78, 40]⟩ : ByteArray) ++ r87) ++ (⟨#[41]⟩ : ByteArray))) else none) else none) else ((impl_Node__full.f k a0).bind fun r91 => if r91.size + (⟨#[40]⟩ : ByteArray).size ≤ 9223372036854775807 then ((impl_texts.f k (impl_Node__text.f k) a0.f4).bind fun r94 => if (r91 ++ (⟨#[40]⟩ : ByteArray)).size + r94.size ≤ 9223372036854775807 then (if ((r91 ++ (⟨#[40]⟩ : ByteArray)) ++ r94).size + (⟨#[41]⟩ : ByteArray).size ≤ 9223372036854775807 then (some (((r91 ++ (⟨#[40]⟩ : ByteArray)) ++ r94) ++ (⟨#[41]⟩ : ByteArray))) else none) else none) else none))))))))))
theorem impl_Node__text.fn {k : Nat} : ∀ {a0 : SNode} {r : ByteArray} (H : impl_Node__text.f k a0 = some r), Fn Tryd.prog 54 [ag (vSNode a0)] [] (oS r) [] := by
 induction k with
 | zero => intro a0 r H; exact absurd H (by simp [impl_Node__text.f])
 | succ k ih_impl_Node__text =>
 intro a0 r H
 rw [impl_Node__text.f.eq_2] at H
 generalize impl_Node__text.f k = rec_impl_Node__text at H ih_impl_Node__text
 refine Fn.bd [2] Tryd.func54 ?_
 refine rn [1] 1 [] [] ?_
 refine sq ?_
 refine rn [1, 7] 1 [] [] ?_
 refine bl ?_
 refine rn [1, 7, 8] 1 [] [] ?_
 refine ci H (fun h1 H => ?_) fun h1 H => ?_
 ·obtain ⟨r2, h3, H⟩ := bs H
  refine rn [2] 0 [] [hC 2 (strconv_Itoa.fn k a0.f1 r2 h3)] ?_
  refine Tri.ret ?_
  obtain rfl := si H;exact eR
 refine rn [1, 7, 13] 1 [] [] ?_
 refine ci H (fun h4 H => ?_) fun h4 H => ?_
 ·obtain ⟨r5, h6, H⟩ := bs H
  refine rn [2] 0 [] [hC 2 (impl_charText.fn h6)] ?_
  refine Tri.ret ?_
  obtain rfl := si H;exact eR
 refine rn [1, 7, 18] 1 [] [] ?_
 refine ci H (fun h7 H => ?_) fun h7 H => ?_
 ·refine sq ?_
  refine rx [22] 0 [] [] ⟨135, [(22, oB (decide (a0.f1 = 1)))], [], 0, []⟩ ?_
  refine ci H (fun h8 H => ?_) fun h8 H => ?_
  ·refine rn [2] 0 [] [] ?_
   refine Tri.ret ?_
   obtain rfl := si H;exact eR
  refine sk ?_
  refine rn [2] 0 [] [] ?_
  refine Tri.ret ?_
  obtain rfl := si H;exact eR
 refine rx [1, 7, 23] 1 [] [] ⟨135, [(1, o1 (.ref 0 0)), (7, oI a0.f0), (23, oB (decide (a0.f0 = 21)))], [vSNode a0], 0, []⟩ ?_
 refine ci H (fun h9 H => ?_) fun h9 H => ?_
 ·obtain ⟨r10, h11, H⟩ := bs H
  refine rn [2] 0 [] [hC 1 (impl_Node__full.fn h11)] ?_
  refine Tri.ret ?_
  obtain rfl := si H;exact eR
 refine rn [1, 7, 27] 1 [] [] ?_
 refine ci H (fun h12 H => ?_) fun h12 H => ?_
 ·obtain ⟨x13, h14, H⟩ := bs H
  obtain ⟨r15, h16, H⟩ := bs H
  obtain ⟨h17, H⟩ := nd H
  obtain ⟨x18, h19, H⟩ := bs H
  obtain ⟨r20, h21, H⟩ := bs H
  obtain ⟨h22, H⟩ := nd H
  obtain ⟨h23, H⟩ := nd H
  refine dn hmix 11 [[], [0], [0, 1], [0, 1, 2], [0, 1, 2, 3], [0, 1, 2, 3, 4], [], [6], [6, 7], [6, 7, 8], [0, 1, 2, 3, 4, 6, 7, 8, 9], [0, 1, 2, 3, 4, 5, 6, 7, 8, 9, 10], [0, 1, 2, 3, 4, 5, 6, 7, 8, 9, 10, 11], [0, 1, 2, 3, 4, 5, 6, 7, 8, 9, 10, 11, 12]] [2] 0 [] [hEv 2 eSNode_v h14, hC 4 (ih_impl_Node__text h16), p1 h17, hEv 8 eSNode_v h19, hC 10 (ih_impl_Node__text h21), p1 h22, p1 h23] ?_
  refine Tri.ret ?_
  obtain rfl := si H;exact eR
 refine rn [1, 7, 42] 1 [] [] ?_
 refine ci H (fun h24 H => ?_) fun h24 H => ?_
 ·obtain ⟨x25, h26, H⟩ := bs H
  obtain ⟨r27, h28, H⟩ := bs H
  obtain ⟨h29, H⟩ := nd H
  refine dn hmix 7 [[], [0], [], [2], [2, 3], [2, 3, 4], [2, 3, 4, 5], [0, 1, 2, 3, 4, 5, 6], [0, 1, 2, 3, 4, 5, 6, 7]] [2] 0 [] [hEv 4 eSNode_v h26, hC 6 (impl_side.fn ih_impl_Node__text h28), p1 h29] ?_
  refine Tri.ret ?_
  obtain rfl := si H;exact eR
 refine rn [1, 7, 52] 1 [] [] ?_
 refine ci H (fun h30 H => ?_) fun h30 H => ?_
 ·obtain ⟨r31, h32, H⟩ := bs H
  obtain ⟨x33, h34, H⟩ := bs H
  obtain ⟨r35, h36, H⟩ := bs H
  obtain ⟨x37, h38, H⟩ := bs H
  obtain ⟨r39, h40, H⟩ := bs H
  refine dn hmix 14 [[], [0], [0, 1], [], [3], [3, 4], [3, 4, 5], [3, 4, 5, 6], [0, 1, 2, 3, 4, 5, 6, 7], [], [9], [9, 10], [9, 10, 11], [9, 10, 11, 12], [0, 1, 2, 3, 4, 5, 6, 7, 8, 9, 10, 11, 12, 13], [0, 1, 2, 3, 4, 5, 6, 7, 8, 9, 10, 11, 12, 13, 14], [0, 1, 2, 3, 4, 5, 6, 7, 8, 9, 10, 11, 12, 13, 14, 15], [0, 1, 2, 3, 4, 5, 6, 7, 8, 9, 10, 11, 12, 13, 14, 15, 16]] [1, 3, 4, 5] 1 [] [hC 2 (impl_rankOf.fn h32), hEv 5 eSNode_v h34, hC 8 (impl_rankOf.fn h36), hEv 11 eSNode_v h38, hC 14 (impl_rankOf.fn h40)] ?_
  refine jo H (fun y67 => ⟨135, [(2, oS y67)], [], 0, []⟩) (fun y67 H => ?_) fun v69 h68 H => ?_
  ·refine Tri.ret ?_
   obtain rfl := si H;exact eR
  rcases ite_some h68 with ⟨h41, h68⟩ | ⟨h41, h68⟩
  ·obtain ⟨r42, h43, h68⟩ := bs h68
   obtain ⟨h44, h68⟩ := nd h68
   obtain ⟨h45, h68⟩ := nd h68
   obtain ⟨h46, h68⟩ := nd h68
   obtain ⟨r47, h48, h68⟩ := bs h68
   obtain ⟨h49, h68⟩ := nd h68
   refine dl hmix 30 [[], [0], [0, 1], [0, 1, 2], [], [], [4, 5], [4, 5, 6], [4, 5, 6, 7], [4, 5, 6, 7], [4, 5, 6, 7, 8, 9], [4, 5, 6, 7, 8, 9, 10], [4, 5, 6, 7, 8, 9, 10, 11], [4, 5, 6, 7, 8, 9, 10, 11, 12], [4, 5, 6, 7, 8, 9, 10, 11, 12, 13], [4, 5, 6, 7, 8, 9, 10, 11, 12, 13, 14], [0, 1, 2, 3, 4, 5, 6, 7, 8, 9, 10, 11, 12, 13, 14, 15], [0, 1, 2, 3, 4, 5, 6, 7, 8, 9, 10, 11, 12, 13, 14, 15, 16], [], [18], [0, 1, 2, 3, 4, 5, 6, 7, 8, 9, 10, 11, 12, 13, 14, 15, 16, 17, 18, 19], [0, 1, 2, 3, 4, 5, 6, 7, 8, 9, 10, 11, 12, 13, 14, 15, 16, 17, 18, 19, 20], [], [22], [22, 23], [22, 23, 24], [], [], [26, 27], [0, 1, 2, 3, 4, 5, 6, 7, 8, 9, 10, 11, 12, 13, 14, 15, 16, 22, 23, 24, 25, 26, 27, 28], [0, 1, 2, 3, 4, 5, 6, 7, 8, 9, 10, 11, 12, 13, 14, 15, 16, 17, 18, 19, 20, 21, 22, 23, 24, 25, 26, 27, 28, 29], [0, 1, 2, 3, 4, 5, 6, 7, 8, 9, 10, 11, 12, 13, 14, 15, 16, 17, 18, 19, 20, 21, 22, 23, 24, 25, 26, 27, 28, 29, 30]] [2] 0 [] [hEv 2 eSNode_v h34, hB 6 (decide_eq_true h41), hC 16 (impl_side.fn ih_impl_Node__text h43), p1 h44, p1 h45, p1 h46, hEv 24 eSNode_v h38, hC 29 (impl_side.fn ih_impl_Node__text h48), p1 h49] ?_
   exact pf ((((r42 ++ (⟨#[32]⟩ : ByteArray)) ++ a0.f2) ++ (⟨#[32]⟩ : ByteArray)) ++ r47) h68
  rcases ite_some h68 with ⟨h50, h68⟩ | ⟨h50, h68⟩
  ·obtain ⟨r51, h52, h68⟩ := bs h68
   obtain ⟨h53, h68⟩ := nd h68
   obtain ⟨h54, h68⟩ := nd h68
   obtain ⟨h55, h68⟩ := nd h68
   obtain ⟨r56, h57, h68⟩ := bs h68
   obtain ⟨h58, h68⟩ := nd h68
   refine dl hmix 30 [[], [0], [0, 1], [0, 1, 2], [], [], [4, 5], [4, 5, 6], [4, 5, 6, 7], [4, 5, 6, 7], [4, 5, 6, 7, 8, 9], [4, 5, 6, 7, 8, 9, 10], [4, 5, 6, 7, 8, 9, 10, 11], [4, 5, 6, 7, 8, 9, 10, 11, 12], [4, 5, 6, 7, 8, 9, 10, 11, 12, 13], [4, 5, 6, 7, 8, 9, 10, 11, 12, 13, 14], [0, 1, 2, 3, 4, 5, 6, 7, 8, 9, 10, 11, 12, 13, 14, 15], [0, 1, 2, 3, 4, 5, 6, 7, 8, 9, 10, 11, 12, 13, 14, 15, 16], [], [18], [0, 1, 2, 3, 4, 5, 6, 7, 8, 9, 10, 11, 12, 13, 14, 15, 16, 17, 18, 19], [0, 1, 2, 3, 4, 5, 6, 7, 8, 9, 10, 11, 12, 13, 14, 15, 16, 17, 18, 19, 20], [], [22], [22, 23], [22, 23, 24], [], [], [26, 27], [0, 1, 2, 3, 4, 5, 6, 7, 8, 9, 10, 11, 12, 13, 14, 15, 16, 22, 23, 24, 25, 26, 27, 28], [0, 1, 2, 3, 4, 5, 6, 7, 8, 9, 10, 11, 12, 13, 14, 15, 16, 17, 18, 19, 20, 21, 22, 23, 24, 25, 26, 27, 28, 29], [0, 1, 2, 3, 4, 5, 6, 7, 8, 9, 10, 11, 12, 13, 14, 15, 16, 17, 18, 19, 20, 21, 22, 23, 24, 25, 26, 27, 28, 29, 30]] [2] 0 [] [hEv 2 eSNode_v h34, hB 6 (decide_eq_false h41), hB 10 (decide_eq_true h50), hC 16 (impl_side.fn ih_impl_Node__text h52), p1 h53, p1 h54, p1 h55, hEv 24 eSNode_v h38, hC 29 (impl_side.fn ih_impl_Node__text h57), p1 h58] ?_
   exact pf ((((r51 ++ (⟨#[32]⟩ : ByteArray)) ++ a0.f2) ++ (⟨#[32]⟩ : ByteArray)) ++ r56) h68
  obtain ⟨r59, h60, h68⟩ := bs h68
  obtain ⟨h61, h68⟩ := nd h68
  obtain ⟨h62, h68⟩ := nd h68
  obtain ⟨h63, h68⟩ := nd h68
  obtain ⟨r64, h65, h68⟩ := bs h68
  obtain ⟨h66, h68⟩ := nd h68
  refine dl hmix 30 [[], [0], [0, 1], [0, 1, 2], [], [], [4, 5], [4, 5, 6], [4, 5, 6, 7], [4, 5, 6, 7], [4, 5, 6, 7, 8, 9], [4, 5, 6, 7, 8, 9, 10], [4, 5, 6, 7, 8, 9, 10, 11], [4, 5, 6, 7, 8, 9, 10, 11, 12], [4, 5, 6, 7, 8, 9, 10, 11, 12, 13], [4, 5, 6, 7, 8, 9, 10, 11, 12, 13, 14], [0, 1, 2, 3, 4, 5, 6, 7, 8, 9, 10, 11, 12, 13, 14, 15], [0, 1, 2, 3, 4, 5, 6, 7, 8, 9, 10, 11, 12, 13, 14, 15, 16], [], [18], [0, 1, 2, 3, 4, 5, 6, 7, 8, 9, 10, 11, 12, 13, 14, 15, 16, 17, 18, 19], [0, 1, 2, 3, 4, 5, 6, 7, 8, 9, 10, 11, 12, 13, 14, 15, 16, 17, 18, 19, 20], [], [22], [22, 23], [22, 23, 24], [], [], [26, 27], [0, 1, 2, 3, 4, 5, 6, 7, 8, 9, 10, 11, 12, 13, 14, 15, 16, 22, 23, 24, 25, 26, 27, 28], [0, 1, 2, 3, 4, 5, 6, 7, 8, 9, 10, 11, 12, 13, 14, 15, 16, 17, 18, 19, 20, 21, 22, 23, 24, 25, 26, 27, 28, 29], [0, 1, 2, 3, 4, 5, 6, 7, 8, 9, 10, 11, 12, 13, 14, 15, 16, 17, 18, 19, 20, 21, 22, 23, 24, 25, 26, 27, 28, 29, 30]] [2] 0 [] [hEv 2 eSNode_v h34, hB 6 (decide_eq_false h41), hB 10 (decide_eq_false h50), hC 16 (impl_side.fn ih_impl_Node__text h60), p1 h61, p1 h62, p1 h63, hEv 24 eSNode_v h38, hC 29 (impl_side.fn ih_impl_Node__text h65), p1 h66] ?_
  exact pf ((((r59 ++ (⟨#[32]⟩ : ByteArray)) ++ a0.f2) ++ (⟨#[32]⟩ : ByteArray)) ++ r64) h68
 refine rn [1, 7, 100] 1 [] [] ?_
 refine ci H (fun h70 H => ?_) fun h70 H => ?_
 ·obtain ⟨x71, h72, H⟩ := bs H
  obtain ⟨r73, h74, H⟩ := bs H
  obtain ⟨h75, H⟩ := nd H
  obtain ⟨h76, H⟩ := nd H
  refine rn [2] 0 [] [hEv 2 eSNode_v h72, hC 4 (ih_impl_Node__text h74), p1 h75, p1 h76] ?_
  refine Tri.ret ?_
  obtain rfl := si H;exact eR
 refine rn [1, 7, 109] 1 [] [] ?_
 refine ci H (fun h77 H => ?_) fun h77 H => ?_
 ·obtain ⟨x78, h79, H⟩ := bs H
  obtain ⟨r80, h81, H⟩ := bs H
  obtain ⟨h82, H⟩ := nd H
  obtain ⟨h83, H⟩ := nd H
  refine rx [2] 0 [] [hEv 2 eSNode_v h79, hC 4 (ih_impl_Node__text h81), p1 h82, p1 h83] ⟨135, [(2, oS (((⟨#[67, 72, 82, 40]⟩ : ByteArray) ++ r80) ++ (⟨#[41]⟩ : ByteArray)))], [], 0, []⟩ ?_
  refine Tri.ret ?_
  obtain rfl := si H;exact eR
 refine rx [1, 118] 1 [] [] ⟨135, [(1, o1 (.ref 0 0)), (118, oB (decide (a0.f0 = 27)))], [vSNode a0], 0, []⟩ ?_
 refine ci H (fun h84 H => ?_) fun h84 H => ?_
 ·obtain ⟨x85, h86, H⟩ := bs H
  obtain ⟨r87, h88, H⟩ := bs H
  obtain ⟨h89, H⟩ := nd H
  obtain ⟨h90, H⟩ := nd H
  refine rn [2] 0 [] [hEv 2 eSNode_v h86, hC 4 (ih_impl_Node__text h88), p1 h89, p1 h90] ?_
  refine Tri.ret ?_
  obtain rfl := si H;exact eR
 refine sk ?_
 obtain ⟨r91, h92, H⟩ := bs H
 obtain ⟨h93, H⟩ := nd H
 obtain ⟨r94, h95, H⟩ := bs H
 obtain ⟨h96, H⟩ := nd H
 obtain ⟨h97, H⟩ := nd H
 refine dn hmix 6 [[], [0], [0, 1], [], [3], [0, 1, 3, 4], [0, 1, 2, 3, 4, 5], [0, 1, 2, 3, 4, 5, 6], [0, 1, 2, 3, 4, 5, 6, 7]] [2] 0 [] [hC 1 (impl_Node__full.fn h92), p1 h93, hC 5 (impl_texts.fn ih_impl_Node__text h95), p1 h96, p1 h97] ?_
 refine Tri.ret ?_
 obtain rfl := si H;exact eR
/-! strings_Builder__copyCheck_2: function 89 -/
def strings_Builder__copyCheck_2.f (k : Nat) (b0_1 : Bool) (b0_2 : (List Int)) : Option Bool := if b0_1 = true then (some b0_1) else (some true)
theorem strings_Builder__copyCheck_2.fn {k : Nat} {b0_1 : Bool} {b0_2 : (List Int)} {r : Bool} (H : strings_Builder__copyCheck_2.f k b0_1 b0_2 = some r) : FnG Tryd.prog 89 [o1 (.ref 0 0)] [] [[.opt 69 b0_1 0 0, .own 5 (List.map (eK .u8) b0_2)]] (tp [] []) [] [[.opt 69 r 0 0, .own 5 (List.map (eK .u8) b0_2)]] := by
 refine FnG.body (ts := []) Tryd.func89 rfl rfl (by decide) (by decide) (Nat.le_of_ble_eq_true rfl) rfl (Nat.le_of_ble_eq_true rfl) ?_
 refine rn [0, 6] 1 [] [] ?_
 refine cm H (fun h1 H => ?_) fun h1 H => ?_
 ·refine rn [19] 1 [] [hB 5 (nF h1)] ?_
  refine cf ?_
  refine sk ?_
  obtain rfl := si H;exact endsG (.inl rfl) (by kernel_rfl)
 refine rl [] 1 [] [p1 (⟨_, Tryd.func109, by kernel_rfl, by kernel_rfl, by kernel_rfl, by kernel_rfl⟩ : isSame Tryd.prog 109)] ?_
 obtain rfl := si H;exact endsG (.inl rfl) (by kernel_rfl)
/-! strings_Builder__WriteString_1: function 55 -/
def strings_Builder__WriteString_1.f (k : Nat) (a1 : ByteArray) (b0_1 : Bool) (b0_2 : (List Int)) : Option (Int × Bool × (List Int)) := (strings_Builder__copyCheck_2.f k b0_1 b0_2).bind fun r1 => if (b0_2 ++ (bytesOf a1)).length * 1 ≤ 140737488355328 then (some ((a1.size : Int), r1, b0_2 ++ (bytesOf a1))) else none
theorem strings_Builder__WriteString_1.fn {k : Nat} {a1 : ByteArray} {b0_1 : Bool} {b0_2 : (List Int)} {r : (Int × Bool × (List Int))} (H : strings_Builder__WriteString_1.f k a1 b0_1 b0_2 = some r) : FnG Tryd.prog 55 [o1 (.ref 0 0), oS a1] [] [[.opt 69 b0_1 0 0, .own 5 (List.map (eK .u8) b0_2)]] (tp [none, none] [cI r.1, .sc .nilIface]) [] [[.opt 69 r.2.1 0 0, .own 5 (List.map (eK .u8) r.2.2)]] := by
 refine FnG.body (ts := [4, 5]) Tryd.func55 rfl rfl (by decide) (by decide) (Nat.le_of_ble_eq_true rfl) rfl (Nat.le_of_ble_eq_true rfl) ?_
 refine rn [0, 1] 1 [] [] ?_
 obtain ⟨r1, h2, H⟩ := bs H
 refine rn [0, 1] 1 [] [hG 1 [] [0] none (strings_Builder__copyCheck_2.fn h2)] ?_
 obtain ⟨h3, H⟩ := nd H
 refine rn [1] 1 [] [hT 6 5 h3] ?_
 refine rn [4, 5] 1 [] [] ?_
 refine Tri.ret ?_
 obtain rfl := si H;exact endsG (.inr rfl) (by kernel_rfl)
def strings_Builder_String_2.f (k : Nat) (b0_1 : Bool) (b0_2 : (List Int)) : Option ByteArray := strings_Builder_String.f k b0_2
theorem strings_Builder_String_2.fn (k : Nat) (b0_1 : Bool) (b0_2 : (List Int)) (r : ByteArray) (H : strings_Builder_String_2.f k b0_1 b0_2 = some r) : FnG Tryd.prog 56 [o1 (.ref 0 0)] [] [[.opt 69 b0_1 0 0, .own 5 (List.map (eK .u8) b0_2)]] (oS r) [] [[.opt 69 b0_1 0 0, .dead]] := strings_Builder_String.fn k b0_1 b0_2 [] r H
/-! impl_outText: function 34 -/
def impl_outText.e1 (k : Nat) (x41 : SOut) (r43 : ByteArray) : Option ByteArray := if x41.f0 = 2 then ((impl_Node__text.f k (⟨20, x41.f1, (⟨#[]⟩ : ByteArray), (⟨#[]⟩ : ByteArray), []⟩ : SNode)).bind fun r46 => some r46) else (if x41.f0 = 3 then ((impl_charText.f k x41.f1).bind fun r49 => some r49) else (some r43))
def impl_outText.l2 : Nat → (List SOut) → Int → Bool → (List Int) → Option (Bool × (List Int))
  | 0, _, _, _, _ => none
  | k + 1, a0, z37, z38, z39 => if z37 < (a0.length : Int) then ((at? a0 z37).bind fun x41 => (strconv_Itoa.f k x41.f1).bind fun r43 => (impl_outText.e1 k x41 r43).bind fun y51 => if y51.size + (⟨#[10]⟩ : ByteArray).size ≤ 9223372036854775807 then ((strings_Builder__WriteString_1.f k (y51 ++ (⟨#[10]⟩ : ByteArray)) z38 z39).bind fun r55 => impl_outText.l2 k a0 (w64 (z37 + 1)) r55.2.1 r55.2.2) else none) else (some (z38, z39))
def impl_outText.e3 (k : Nat) (a0 : (List SOut)) : Option (Bool × (List Int)) := impl_outText.l2 k a0 0 false ([] : List Int)
def impl_outText.f (k : Nat) (a0 : (List SOut)) : Option ByteArray := (impl_outText.e3 k a0).bind fun v => match v with | (y58, y59) => (strings_Builder_String_2.f k y58 y59).bind fun r62 => some r62
theorem impl_outText.fn {k : Nat} {a0 : (List SOut)} {r : ByteArray} (H : impl_outText.f k a0 = some r) : Fn Tryd.prog 34 [o1 (.sl 2 (List.map eSOut a0))] [] (oS r) [] := by
 refine Fn.bd [2] Tryd.func34 ?_
 refine rn [0] 0 [] [] ?_
 refine rn [0, 3] 1 [] [q0 0 (.nz [0])] ?_
 refine jo H (fun w => ⟨34, [(3, o1 (.ref 0 0))], [[.opt 69 w.1 0 0, .own 5 (List.map (eK .u8) w.2)]], 0, []⟩) (fun w H => ?_) fun v61 h60 H => ?_
 ·obtain ⟨y58, y59⟩ := w
  obtain ⟨r62, h63, H⟩ := bs H
  refine rn [2] 0 [] [hG 0 [] [0] none (strings_Builder_String_2.fn k y58 y59 r62 h63)] ?_
  refine Tri.ret ?_
  obtain rfl := si H;exact eR
 refine rn [3, 7, 8, 9] 1 [] [hL 1 eSOut a0] ?_
 refine bl ?_
 refine fx [3, 7, 8, 9] 1 [.own (.b 0 1) 5] ?_
 refine lo (Int × Bool × (List Int)) k (fun k x => impl_outText.l2 k a0 x.1 x.2.1 x.2.2) (fun x => ⟨34, [(3, o1 (.ref 0 0)), (7, o1 (.sl 2 (List.map eSOut a0))), (8, oI (a0.length : Int)), (9, oI x.1)], [[.opt 69 x.2.1 0 0, .own 5 (List.map (eK .u8) x.2.2)]], 0, []⟩) (0, false, ([] : List Int)) h60 fun k x h60 IH57 => ?_
 obtain ⟨z37, z38, z39⟩ := x
 rw [impl_outText.l2.eq_2] at h60
 refine rn [3, 7, 8, 9, 10] 1 [] [] ?_
 refine sq ?_
 refine ci h60 (fun h40 h60 => ?_) fun h40 h60 => ?_
 ·refine sk ?_
  refine sq ?_
  refine bl ?_
  obtain ⟨x41, h42, h60⟩ := bs h60
  refine rn [3, 5, 7, 8, 9] 2 [] [hE 0 eSOut h42] ?_
  obtain ⟨r43, h44, h60⟩ := bs h60
  refine rn [3, 5, 6, 7, 8, 9] 2 [] [hC 2 (strconv_Itoa.fn k x41.f1 r43 h44)] ?_
  refine jo h60 (fun y51 => ⟨34, [(3, o1 (.ref 0 0)), (6, oS y51), (7, o1 (.sl 2 (List.map eSOut a0))), (8, oI (a0.length : Int)), (9, oI z37)], [[.opt 69 z38 0 0, .own 5 (List.map (eK .u8) z39)]], 0, []⟩) (fun y51 h60 => ?_) fun v53 h52 h60 => ?_
  ·obtain ⟨h54, h60⟩ := nd h60
   obtain ⟨r55, h56, h60⟩ := bs h60
   refine rl [3, 7, 8, 9] 1 [] [p1 h54, hG 2 [] [0] none (strings_Builder__WriteString_1.fn h56)] ?_
   refine rl [3, 7, 8, 9] 1 [] [] ?_
   exact lb IH57 (w64 (z37 + 1), r55.2.1, r55.2.2) h60
  refine rn [3, 5, 6, 7, 8, 9, 17] 2 [] [] ?_
  refine bl ?_
  refine rn [3, 5, 6, 7, 8, 9, 17, 18] 2 [] [] ?_
  refine ci h52 (fun h45 h52 => ?_) fun h45 h52 => ?_
  ·obtain ⟨r46, h47, h52⟩ := bs h52
   refine rl [3, 6, 7, 8, 9] 1 [] [hCn 3 [5] (impl_Node__text.fn h47)] ?_
   exact pf r46 h52
  refine rx [3, 5, 6, 7, 8, 9, 24] 2 [] [] ⟨34, [(3, o1 (.ref 0 0)), (5, o1 (.ref 1 0)), (6, oS r43), (7, o1 (.sl 2 (List.map eSOut a0))), (8, oI (a0.length : Int)), (9, oI z37), (24, oB (decide (x41.f0 = 3)))], [[.opt 69 z38 0 0, .own 5 (List.map (eK .u8) z39)], eSOut x41], 0, []⟩ ?_
  refine ci h52 (fun h48 h52 => ?_) fun h48 h52 => ?_
  ·obtain ⟨r49, h50, h52⟩ := bs h52
   refine rl [3, 6, 7, 8, 9] 1 [] [hC 2 (impl_charText.fn h50)] ?_
   exact pf r49 h52
  refine fx [3, 6, 7, 8, 9] 1 [] ?_
  refine sk ?_
  exact pf r43 h52
 refine fx [3] 1 [] ?_
 refine xi ?_
 exact pf (z38, z39) h60
/-! impl_OutText: function 16 -/
def impl_OutText.f (k : Nat) (a0 : (List SOut)) : Option (ByteArray × Int) := (impl_isList_impl_Out.f k a0).bind fun r1 => if r1 = true then ((impl_areAll_impl_Out_1.f k a0).bind fun r4 => if r4 = true then ((impl_outText.f k a0).bind fun r7 => some (r7, 0)) else (some ((⟨#[]⟩ : ByteArray), 1))) else (some ((⟨#[]⟩ : ByteArray), 2))
theorem impl_OutText.fn {k : Nat} {a0 : (List SOut)} {r : (ByteArray × Int)} (H : impl_OutText.f k a0 = some r) : Fn Tryd.prog 16 [o1 (.sl 2 (List.map eSOut a0))] [] (tp [none, none] [cS r.1, cI r.2]) [] := by
 refine Fn.bd [2, 3] Tryd.func16 ?_
 refine rn [0] 0 [] [] ?_
 refine sq ?_
 refine bl ?_
 obtain ⟨r1, h2, H⟩ := bs H
 refine rn [0, 4] 0 [] [hC 1 (impl_isList_impl_Out.fn h2)] ?_
 refine cm H (fun h3 H => ?_) fun h3 H => ?_
 ·obtain ⟨r4, h5, H⟩ := bs H
  refine rn [0, 8] 0 [] [hC 1 (impl_areAll_impl_Out_1.fn h5)] ?_
  refine cm H (fun h6 H => ?_) fun h6 H => ?_
  ·refine sk ?_
   obtain ⟨r7, h8, H⟩ := bs H
   refine rn [2, 3] 0 [] [hC 1 (impl_outText.fn h8)] ?_
   refine Tri.ret ?_
   obtain rfl := si H;exact eR
  refine rn [2, 3] 0 [] [] ?_
  refine Tri.ret ?_
  obtain rfl := si H;exact eR
 refine rn [2, 3] 0 [] [] ?_
 refine Tri.ret ?_
 obtain rfl := si H;exact eR
/-! laws_eqOut: function 35 -/
def laws_eqOut.f (k : Nat) (a0 : SOut) (a1 : SOut) : Option Bool := if a0.f0 = a1.f0 then (if a0.f1 = a1.f1 then (some true) else (some false)) else (some false)
theorem laws_eqOut.fn {k : Nat} {a0 : SOut} {a1 : SOut} {r : Bool} (H : laws_eqOut.f k a0 a1 = some r) : Fn Tryd.prog 35 [ag (eSOut a0), ag (eSOut a1)] [] (oB r) [] := by
 refine Fn.bd [4] Tryd.func35 ?_
 refine rn [2, 3] 2 [] [] ?_
 refine sq ?_
 refine rn [2, 3, 9] 2 [] [] ?_
 refine cn H (fun h1 H => ?_) fun h1 H => ?_
 ·refine sk ?_
  refine sq ?_
  refine rn [14] 0 [] [] ?_
  refine cn H (fun h2 H => ?_) fun h2 H => ?_
  ·refine sk ?_
   refine rn [4] 0 [] [] ?_
   refine Tri.ret ?_
   obtain rfl := si H;exact eR
  refine rn [4] 0 [] [] ?_
  refine Tri.ret ?_
  obtain rfl := si H;exact eR
 refine rn [4] 0 [] [] ?_
 refine Tri.ret ?_
 obtain rfl := si H;exact eR
/-! laws_eqOutS: function 17 -/
def laws_eqOutS.l1 : Nat → (List SOut) → (List SOut) → Int → Option (Bool ⊕ Unit)
  | 0, _, _, _ => none
  | k + 1, a0, a1, z10 => if z10 < (a0.length : Int) then ((at? a0 z10).bind fun x12 => (at? a1 z10).bind fun x14 => (laws_eqOut.f k x12 x14).bind fun r16 => if r16 = true then (laws_eqOutS.l1 k a0 a1 (w64 (z10 + 1))) else (some (.inl false))) else (some (.inr ()))
def laws_eqOutS.e2 (k : Nat) (a0 : (List SOut)) (a1 : (List SOut)) : Option (Bool ⊕ Unit) := laws_eqOutS.l1 k a0 a1 0
def laws_eqOutS.f (k : Nat) (a0 : (List SOut)) (a1 : (List SOut)) : Option Bool := if (a0.length : Int) = (a1.length : Int) then ((laws_eqOutS.e2 k a0 a1).bind fun v => match v with | .inl r => some r | .inr _ => some true) else (some false)
theorem laws_eqOutS.fn {k : Nat} {a0 : (List SOut)} {a1 : (List SOut)} {r : Bool} (H : laws_eqOutS.f k a0 a1 = some r) : Fn Tryd.prog 17 [o1 (.sl 2 (List.map eSOut a0)), o1 (.sl 2 (List.map eSOut a1))] [] (oB r) [] := by
 refine Fn.bd [4] Tryd.func17 ?_
 refine rn [0, 1] 0 [] [] ?_
 refine sq ?_
 refine rn [0, 1, 10] 0 [] [hL 1 eSOut a0, hL 3 eSOut a1] ?_
 refine cn H (fun h1 H => ?_) fun h1 H => ?_
 ·refine sk ?_
  refine jr H (fun _ => ⟨27, [], [], 0, []⟩) (fun _ H => ?_) fun v21 h20 H => ?_
  ·refine rn [4] 0 [] [] ?_
   refine Tri.ret ?_
   obtain rfl := si H;exact eR
  refine rn [0, 1, 5] 0 [] [] ?_
  refine bl ?_
  refine lo Int k (fun k x => laws_eqOutS.l1 k a0 a1 x) (fun x => ⟨27, [(0, o1 (.sl 2 (List.map eSOut a0))), (1, o1 (.sl 2 (List.map eSOut a1))), (5, oI x)], [], 0, []⟩) 0 h20 fun k z10 h20 IH19 => ?_
  rw [laws_eqOutS.l1.eq_2] at h20
  refine sq ?_
  refine rn [0, 1, 5, 14] 0 [] [hL 2 eSOut a0] ?_
  refine ci h20 (fun h11 h20 => ?_) fun h11 h20 => ?_
  ·refine sk ?_
   refine sq ?_
   refine bl ?_
   obtain ⟨x12, h13, h20⟩ := bs h20
   obtain ⟨x14, h15, h20⟩ := bs h20
   obtain ⟨r16, h17, h20⟩ := bs h20
   refine dn hmix 8 [[], [], [0, 1], [0, 1, 2], [], [], [4, 5], [4, 5, 6], [0, 1, 2, 3, 4, 5, 6, 7], [0, 1, 2, 3, 4, 5, 6, 7, 8]] [0, 1, 5, 26] 0 [] [hE 2 eSOut h13, hE 6 eSOut h15, hC 8 (laws_eqOut.fn h17)] ?_
   refine cm h20 (fun h18 h20 => ?_) fun h18 h20 => ?_
   ·refine sk ?_
    refine rl [0, 1, 5] 0 [] [] ?_
    exact lb IH19 (w64 (z10 + 1)) h20
   refine rn [4] 0 [] [] ?_
   refine Tri.ret ?_
   obtain rfl := si h20;obtain rfl := si H;exact eR
  refine fx [] 0 [] ?_
  refine xi ?_
  exact pe () h20
 refine rn [4] 0 [] [] ?_
 refine Tri.ret ?_
 obtain rfl := si H;exact eR
/-! laws_FnExactOutText: function 5 -/
def laws_FnExactOutText.e1 (k : Nat) (r6 : (ByteArray × Int)) (r10 : (ByteArray × Int)) : Option Bool := if r10.1 = r6.1 then (some (!(decide (r10.2 = r6.2)))) else (some true)
def laws_FnExactOutText.f (k : Nat) (a0 : (List SOut)) : Option Bool := (laws_szOutS.f k a0 1048576).bind fun r1 => if r1 < 0 then (some true) else ((laws_toOutS.f k a0).bind fun r4 => (spec_OutText.f k r4).bind fun r6 => (laws_toOutS.f k a0).bind fun r8 => (impl_OutText.f k r8).bind fun r10 => (laws_FnExactOutText.e1 k r6 r10).bind fun y13 => if y13 = true then (some false) else ((laws_toOutS.f k a0).bind fun r17 => (laws_eqOutS.f k r8 r17).bind fun r19 => if r19 = true then (some true) else (some false)))
theorem laws_FnExactOutText.fn {k : Nat} {a0 : (List SOut)} {r : Bool} (H : laws_FnExactOutText.f k a0 = some r) : Fn Tryd.prog 5 [o1 (.sl 2 (List.map eSOut a0))] [] (oB r) [] := by
 refine Fn.bd [2] Tryd.func5 ?_
 refine rn [0] 0 [] [] ?_
 refine rn [0, 3] 0 [] [] ?_
 obtain ⟨r1, h2, H⟩ := bs H
 refine rn [0, 3] 0 [] [hC 2 (laws_szOutS.fn h2)] ?_
 refine sq ?_
 refine rn [0, 13] 0 [] [] ?_
 refine ci H (fun h3 H => ?_) fun h3 H => ?_
 ·refine rn [2] 0 [] [] ?_
  refine Tri.ret ?_
  obtain rfl := si H;exact eR
 refine sk ?_
 obtain ⟨r4, h5, H⟩ := bs H
 obtain ⟨r6, h7, H⟩ := bs H
 refine rn [0, 4, 5] 0 [] [hC 1 (laws_toOutS.fn h5) (show (List.all [.own 52 (List.map eSOut r4)] PC.flatB) = true by simp [PC.flatB, PC.scalar, cI, cK, cB, cS, eSOut]), hC 2 (spec_OutText.fn h7)] ?_
 obtain ⟨r8, h9, H⟩ := bs H
 refine rx [0, 4, 5, 6] 0 [] [hC 1 (laws_toOutS.fn h9) (show (List.all [.own 52 (List.map eSOut r8)] PC.flatB) = true by simp [PC.flatB, PC.scalar, cI, cK, cB, cS, eSOut])] ⟨40, [(0, o1 (.sl 2 (List.map eSOut a0))), (4, oS r6.1), (5, oI r6.2), (6, o1 (.own 52 (List.map eSOut r8)))], [], 0, []⟩ ?_
 obtain ⟨r10, h11, H⟩ := bs H
 refine rn [0, 4, 5, 6, 7, 8] 0 [] [hC 1 (impl_OutText.fn h11)] ?_
 refine sq ?_
 refine jo H (fun y13 => ⟨40, [(0, o1 (.sl 2 (List.map eSOut a0))), (6, o1 (.own 52 (List.map eSOut r8))), (34, oB y13)], [], 0, []⟩) (fun y13 H => ?_) fun v15 h14 H => ?_
 ·refine cb H (fun h16 H => ?_) fun h16 H => ?_
  ·refine rn [2] 0 [] [] ?_
   refine Tri.ret ?_
   obtain rfl := si H;exact eR
  refine sk ?_
  refine sq ?_
  obtain ⟨r17, h18, H⟩ := bs H
  obtain ⟨r19, h20, H⟩ := bs H
  refine rn [39] 0 [] [hC 2 (laws_toOutS.fn h18) (show (List.all [.own 52 (List.map eSOut r17)] PC.flatB) = true by simp [PC.flatB, PC.scalar, cI, cK, cB, cS, eSOut]), hC 3 (laws_eqOutS.fn h20)] ?_
  refine cm H (fun h21 H => ?_) fun h21 H => ?_
  ·refine sk ?_
   refine rn [2] 0 [] [] ?_
   refine Tri.ret ?_
   obtain rfl := si H;exact eR
  refine rn [2] 0 [] [] ?_
  refine Tri.ret ?_
  obtain rfl := si H;exact eR
 rcases ite_some h14 with ⟨h12, h14⟩ | ⟨h12, h14⟩
 ·refine rl [0, 6, 34] 0 [] [hB 2 (nF (decide_eq_true h12))] ?_
  exact pf (!(decide (r10.2 = r6.2))) h14
 refine rl [0, 6, 34] 0 [] [hB 2 (nT (decide_eq_false h12))] ?_
 exact pf true h14
end Go.Proofs.YtjgddjmgcffjfaaDoor.E
