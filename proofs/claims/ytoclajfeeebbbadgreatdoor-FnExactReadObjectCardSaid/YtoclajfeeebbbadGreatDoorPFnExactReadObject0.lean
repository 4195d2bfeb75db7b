/- Functions of the program and their contracts: printed by ep3.py, a program of this session. -/
import Derived.Test.YtoclajfeeebbbadGreatDoorGFnExactReadObject
import Derived.Test.YtoclajfeeebbbadGreatDoorProg
set_option maxRecDepth 100000
set_option linter.unusedVariables false
set_option linter.unusedSectionVars false
set_option linter.unusedSimpArgs false
namespace Go.Proofs.YtoclajfeeebbbadGreatDoor.E
open Go.RowKit
variable [Lent]
structure SNeed where
  f0 : ByteArray
  f1 : Int
def eSNeed (x : SNeed) : List PC := [cS x.f0, cI x.f1]
structure SIns where
  f0 : Int
  f1 : Int
  f2 : Int
  f3 : ByteArray
  f4 : ByteArray
def eSIns (x : SIns) : List PC := [cI x.f0, cI x.f1, cI x.f2, cS x.f3, cS x.f4]
structure SCode where
  f0 : ByteArray
  f1 : Int
  f2 : Int
  f3 : Int
  f4 : (List SIns)
def eSCode (x : SCode) : List PC := [cS x.f0, cI x.f1, cI x.f2, cI x.f3, .sl 5 (List.map eSIns x.f4)]
structure SObj where
  f0 : ByteArray
  f1 : Int
  f2 : (List SNeed)
  f3 : (List SNeed)
  f4 : (List SCode)
def eSObj (x : SObj) : List PC := [cS x.f0, cI x.f1, .sl 2 (List.map eSNeed x.f2), .sl 2 (List.map eSNeed x.f3), .sl 5 (List.map eSCode x.f4)]
structure S909f20 where
  f0 : (List Int)
  f1 : Int
  f2 : Bool
def eS909f20 (x : S909f20) : List PC := [.sl 1 (List.map (eK .u8) x.f0), cI x.f1, cB x.f2]
structure S3ddd55 where
  f0 : ByteArray
  f1 : Int
  f2 : Bool
def eS3ddd55 (x : S3ddd55) : List PC := [cS x.f0, cI x.f1, cB x.f2]
theorem hmix : Tryz.prog.follows .mixedOrders = true := by kernel_rfl
/-! laws_toByteS: function 5 -/
def laws_toByteS.l1 : Nat → (List Int) → (List Int) → Int → Option (List Int)
  | 0, _, _, _ => none
  | k + 1, a0, z7, z8 => if z8 < (a0.length : Int) then ((at? a0 z8).bind fun x10 => (at? z7 z8).bind fun x12 => laws_toByteS.l1 k a0 (z7.set (Int.toNat z8) x10) (w64 (z8 + 1))) else (some z7)
def laws_toByteS.e2 (k : Nat) (a0 : (List Int)) : Option (List Int) := laws_toByteS.l1 k a0 (List.replicate (Int.toNat (a0.length : Int)) (0 : Int) : List Int) 0
def laws_toByteS.f (k : Nat) (a0 : (List Int)) : Option (List Int) := if (a0.length : Int) * 1 ≤ 140737488355328 then ((laws_toByteS.e2 k a0).bind fun y15 => some y15) else none
theorem laws_toByteS.fn {k : Nat} {a0 : (List Int)} {r : (List Int)} (H : laws_toByteS.f k a0 = some r) : Fn Tryz.prog 5 [o1 (.sl 1 (List.map (eK .u8) a0))] [] (o1 (.own 5 (List.map (eK .u8) r))) [] := by
 refine Fn.bd [2] Tryz.func5 ?_
 refine rn [0] 0 [] [] ?_
 obtain ⟨h1, H⟩ := nd H
 refine rn [0, 3] 0 [] [hL 1 (eK .u8) a0, q4 2 (.nz []) (rfl : (a0.length : Int) = (a0.length : Int)) (show (0 : Int) ≤ (a0.length : Int) from Int.natCast_nonneg _) (mkN (b := 1) (by decide) (show (0 : Int) ≤ (a0.length : Int) from Int.natCast_nonneg _) h1) h1, q1 2 (.ov [.own 5 (List.map (eK .u8) (List.replicate (Int.toNat (a0.length : Int)) (0 : Int) : List Int))]) (ovrep (e := 5) (n := Int.toNat (a0.length : Int)) (z := (0 : Int)) (f := (eK .u8)))] ?_
 refine jo H (fun y15 => ⟨22, [(3, o1 (.own 5 (List.map (eK .u8) y15)))], [], 0, []⟩) (fun y15 H => ?_) fun v17 h16 H => ?_
 ·refine rn [2] 0 [] [] ?_
  refine Tri.ret ?_
  obtain rfl := si H;exact eR
 refine rn [0, 3, 4] 0 [] [] ?_
 refine bl ?_
 refine lo ((List Int) × Int) k (fun k x => laws_toByteS.l1 k a0 x.1 x.2) (fun x => ⟨22, [(0, o1 (.sl 1 (List.map (eK .u8) a0))), (3, o1 (.own 5 (List.map (eK .u8) x.1))), (4, oI x.2)], [], 0, []⟩) ((List.replicate (Int.toNat (a0.length : Int)) (0 : Int) : List Int), 0) h16 fun k x h16 IH14 => ?_
 obtain ⟨z7, z8⟩ := x
 rw [laws_toByteS.l1.eq_2] at h16
 refine sq ?_
 refine rn [0, 3, 4, 11] 0 [] [hL 2 (eK .u8) a0] ?_
 refine ci h16 (fun h9 h16 => ?_) fun h9 h16 => ?_
 ·refine sk ?_
  refine sq ?_
  refine bl ?_
  obtain ⟨x10, h11, h16⟩ := bs h16
  obtain ⟨x12, h13, h16⟩ := bs h16
  refine rl [0, 3, 4] 0 [] [hE 4 (eK .u8) h11, hE 6 (eK .u8) h13, hW 7 (.t 3 0) 5 (eK .u8) h13 x10] ?_
  refine rl [0, 3, 4] 0 [] [] ?_
  exact lb IH14 (z7.set (Int.toNat z8) x10, w64 (z8 + 1)) h16
 refine fx [3] 0 [] ?_
 refine xi ?_
 exact pf z7 h16
/-! spec_l03Reader__one_2: function 26 -/
def spec_l03Reader__one_2.e1 (k : Nat) (b0 : S909f20) : Option Bool := if b0.f2 = true then (some true) else (some (decide ((b0.f0.length : Int) ≤ b0.f1)))
def spec_l03Reader__one_2.f (k : Nat) (b0 : S909f20) : Option (Int × Int × Bool) := (spec_l03Reader__one_2.e1 k b0).bind fun y2 => if y2 = true then (some (0, b0.f1, true)) else ((at? b0.f0 (w64 ((w64 (b0.f1 + 1)) - 1))).bind fun x6 => some (w64 (x6), w64 (b0.f1 + 1), b0.f2))
theorem spec_l03Reader__one_2.fn {k : Nat} {b0 : S909f20} {r : (Int × Int × Bool)} (H : spec_l03Reader__one_2.f k b0 = some r) : FnG Tryz.prog 26 [o1 (.ref 0 0)] [] [eS909f20 b0] (oI r.1) [] [[.sl 1 (List.map (eK .u8) b0.f0), cI r.2.1, cB r.2.2]] := by
 refine FnG.body (ts := [2]) Tryz.func26 rfl rfl (by decide) (by decide) (Nat.le_of_ble_eq_true rfl) rfl (Nat.le_of_ble_eq_true rfl) ?_
 refine rn [0] 1 [] [] ?_
 refine sq ?_
 refine jo H (fun y2 => ⟨41, [(0, o1 (.ref 0 0)), (18, oB y2)], [eS909f20 b0], 1, []⟩) (fun y2 H => ?_) fun v4 h3 H => ?_
 ·refine cb H (fun h5 H => ?_) fun h5 H => ?_
  ·refine rn [] 1 [] [] ?_
   refine rn [2] 1 [] [] ?_
   refine Tri.ret ?_
   obtain rfl := si H;exact endsG (.inr rfl) (by kernel_rfl)
  refine sk ?_
  refine rn [0] 1 [] [] ?_
  obtain ⟨x6, h7, H⟩ := bs H
  refine dn hmix 9 [[], [0], [0, 1], [0, 1, 2], [], [4], [4, 5], [4, 5, 6], [4, 5, 6, 7], [0, 1, 2, 3, 4, 5, 6, 7, 8], [0, 1, 2, 3, 4, 5, 6, 7, 8, 9], [0, 1, 2, 3, 4, 5, 6, 7, 8, 9, 10], [0, 1, 2, 3, 4, 5, 6, 7, 8, 9, 10, 11]] [2] 1 [] [hE 9 (eK .u8) h7] ?_
  refine Tri.ret ?_
  obtain rfl := si H;exact endsG (.inr rfl) (by kernel_rfl)
 rcases iteb_some h3 with ⟨h1, h3⟩ | ⟨h1, h3⟩
 ·refine dl hmix 14 [[], [0], [0, 1], [0, 1, 2], [0, 1, 2, 3], [0, 1, 2, 3, 4], [0, 1, 2, 3, 4, 5], [0, 1, 2, 3, 4, 5, 6], [0, 1, 2, 3, 4, 5, 6, 7], [0, 1, 2, 3, 4], [0, 1, 2, 3, 4, 9], [0, 1, 2, 3, 4, 9, 10], [0, 1, 2, 3, 4, 9, 10, 11], [0, 1, 2, 3, 4, 9, 10, 11, 12], [0, 1, 2, 3, 4, 5, 6, 7, 8, 9, 10, 11, 12, 13], [0, 1, 2, 3, 4, 5, 6, 7, 8, 9, 10, 11, 12, 13, 14]] [0, 18] 1 [] [hB 3 h1] ?_
  exact pf true h3
 refine dl hmix 14 [[], [0], [0, 1], [0, 1, 2], [0, 1, 2, 3], [0, 1, 2, 3, 4], [0, 1, 2, 3, 4, 5], [0, 1, 2, 3, 4, 5, 6], [0, 1, 2, 3, 4, 5, 6, 7], [0, 1, 2, 3, 4], [0, 1, 2, 3, 4, 9], [0, 1, 2, 3, 4, 9, 10], [0, 1, 2, 3, 4, 9, 10, 11], [0, 1, 2, 3, 4, 9, 10, 11, 12], [0, 1, 2, 3, 4, 5, 6, 7, 8, 9, 10, 11, 12, 13], [0, 1, 2, 3, 4, 5, 6, 7, 8, 9, 10, 11, 12, 13, 14]] [0, 18] 1 [] [hB 3 h1, hL 13 (eK .u8) b0.f0] ?_
 exact pf (decide ((b0.f0.length : Int) ≤ b0.f1)) h3
/-! spec_l03Reader__text_2: function 24 -/
def spec_l03Reader__text_2.e1 (k : Nat) (b0 : S909f20) (r1 : (Int × Int × Bool)) : Option Bool := if r1.2.2 = true then (some true) else (some (decide ((b0.f0.length : Int) < (w64 (r1.2.1 + r1.1)))))
def spec_l03Reader__text_2.f (k : Nat) (b0 : S909f20) : Option (ByteArray × Int × Bool) := (spec_l03Reader__one_2.f k b0).bind fun r1 => (spec_l03Reader__text_2.e1 k b0 r1).bind fun y4 => if y4 = true then (some ((⟨#[]⟩ : ByteArray), r1.2.1, true)) else (if (0 : Int) ≤ (w64 ((w64 (r1.2.1 + r1.1)) - r1.1)) then (if (w64 ((w64 (r1.2.1 + r1.1)) - r1.1)) ≤ w64 (r1.2.1 + r1.1) then (if (w64 (r1.2.1 + r1.1)) ≤ (b0.f0.length : Int) then (some (strOfNums (List.take (Int.toNat ((w64 (r1.2.1 + r1.1)) - (w64 ((w64 (r1.2.1 + r1.1)) - r1.1)))) (List.drop (Int.toNat (w64 ((w64 (r1.2.1 + r1.1)) - r1.1))) b0.f0)), w64 (r1.2.1 + r1.1), r1.2.2)) else none) else none) else none)
theorem spec_l03Reader__text_2.fn {k : Nat} {b0 : S909f20} {r : (ByteArray × Int × Bool)} (H : spec_l03Reader__text_2.f k b0 = some r) : FnG Tryz.prog 24 [o1 (.ref 0 0)] [] [eS909f20 b0] (oS r.1) [] [[.sl 1 (List.map (eK .u8) b0.f0), cI r.2.1, cB r.2.2]] := by
 refine FnG.body (ts := [2]) Tryz.func24 rfl rfl (by decide) (by decide) (Nat.le_of_ble_eq_true rfl) rfl (Nat.le_of_ble_eq_true rfl) ?_
 refine rn [0] 1 [] [] ?_
 obtain ⟨r1, h2, H⟩ := bs H
 refine rn [0, 3] 1 [] [hG 1 [] [0] none (spec_l03Reader__one_2.fn h2)] ?_
 refine sq ?_
 refine jo H (fun y4 => ⟨51, [(0, o1 (.ref 0 0)), (3, oI r1.1), (23, oB y4)], [[.sl 1 (List.map (eK .u8) b0.f0), cI r1.2.1, cB r1.2.2]], 1, []⟩) (fun y4 H => ?_) fun v6 h5 H => ?_
 ·refine cb H (fun h7 H => ?_) fun h7 H => ?_
  ·refine rn [] 1 [] [] ?_
   refine rn [2] 1 [] [] ?_
   refine Tri.ret ?_
   obtain rfl := si H;exact endsG (.inr rfl) (by kernel_rfl)
  refine sk ?_
  refine rn [0, 3] 1 [] [] ?_
  obtain ⟨h8, H⟩ := nd H
  obtain ⟨h9, H⟩ := nd H
  obtain ⟨h10, H⟩ := nd H
  refine dn hmix 14 [[], [0], [0, 1], [0, 1, 2], [], [4], [4, 5], [4, 5, 6], [], [4, 5, 6, 7, 8], [], [10], [10, 11], [10, 11, 12], [0, 1, 2, 3, 4, 5, 6, 7, 8, 9, 10, 11, 12, 13], [0, 1, 2, 3, 4, 5, 6, 7, 8, 9, 10, 11, 12, 13, 14], [0, 1, 2, 3, 4, 5, 6, 7, 8, 9, 10, 11, 12, 13, 14, 15]] [2] 1 [] [p3 h8 h9 (lenle (f := (eK .u8)) (l := b0.f0) h10), q1 14 (.ov [.sl 1 (List.map (eK .u8) (List.take (Int.toNat ((w64 (r1.2.1 + r1.1)) - (w64 ((w64 (r1.2.1 + r1.1)) - r1.1)))) (List.drop (Int.toNat (w64 ((w64 (r1.2.1 + r1.1)) - r1.1))) b0.f0)))]) (ovcut (s := 1) (l := b0.f0) (f := (eK .u8)) (a := Int.toNat (w64 ((w64 (r1.2.1 + r1.1)) - r1.1))) (b := Int.toNat ((w64 (r1.2.1 + r1.1)) - (w64 ((w64 (r1.2.1 + r1.1)) - r1.1))))), q1 15 (.nums (List.take (Int.toNat ((w64 (r1.2.1 + r1.1)) - (w64 ((w64 (r1.2.1 + r1.1)) - r1.1)))) (List.drop (Int.toNat (w64 ((w64 (r1.2.1 + r1.1)) - r1.1))) b0.f0))) (rfl : List.map (eK .u8) (List.take (Int.toNat ((w64 (r1.2.1 + r1.1)) - (w64 ((w64 (r1.2.1 + r1.1)) - r1.1)))) (List.drop (Int.toNat (w64 ((w64 (r1.2.1 + r1.1)) - r1.1))) b0.f0)) = List.map (fun n => [PC.sc (.int .u8 n)]) (List.take (Int.toNat ((w64 (r1.2.1 + r1.1)) - (w64 ((w64 (r1.2.1 + r1.1)) - r1.1)))) (List.drop (Int.toNat (w64 ((w64 (r1.2.1 + r1.1)) - r1.1))) b0.f0)))] ?_
  refine Tri.ret ?_
  obtain rfl := si H;exact endsG (.inr rfl) (by kernel_rfl)
 rcases iteb_some h5 with ⟨h3, h5⟩ | ⟨h3, h5⟩
 ·refine dl hmix 16 [[], [0], [0, 1], [0, 1, 2], [0, 1, 2, 3], [0, 1, 2, 3, 4], [0, 1, 2, 3, 4, 5], [0, 1, 2, 3, 4, 5, 6], [0, 1, 2, 3, 4, 5, 6, 7], [0, 1, 2, 3, 4], [0, 1, 2, 3, 4, 5, 6, 7, 8, 9], [0, 1, 2, 3, 4], [0, 1, 2, 3, 4, 11], [0, 1, 2, 3, 4, 11, 12], [0, 1, 2, 3, 4, 11, 12, 13], [0, 1, 2, 3, 4, 11, 12, 13, 14], [0, 1, 2, 3, 4, 5, 6, 7, 8, 9, 10, 11, 12, 13, 14, 15], [0, 1, 2, 3, 4, 5, 6, 7, 8, 9, 10, 11, 12, 13, 14, 15, 16]] [0, 3, 23] 1 [] [hB 3 h3] ?_
  exact pf true h5
 refine dl hmix 16 [[], [0], [0, 1], [0, 1, 2], [0, 1, 2, 3], [0, 1, 2, 3, 4], [0, 1, 2, 3, 4, 5], [0, 1, 2, 3, 4, 5, 6], [0, 1, 2, 3, 4, 5, 6, 7], [0, 1, 2, 3, 4], [0, 1, 2, 3, 4, 5, 6, 7, 8, 9], [0, 1, 2, 3, 4], [0, 1, 2, 3, 4, 11], [0, 1, 2, 3, 4, 11, 12], [0, 1, 2, 3, 4, 11, 12, 13], [0, 1, 2, 3, 4, 11, 12, 13, 14], [0, 1, 2, 3, 4, 5, 6, 7, 8, 9, 10, 11, 12, 13, 14, 15], [0, 1, 2, 3, 4, 5, 6, 7, 8, 9, 10, 11, 12, 13, 14, 15, 16]] [0, 3, 23] 1 [] [hB 3 h3, hL 15 (eK .u8) b0.f0] ?_
 exact pf (decide ((b0.f0.length : Int) < (w64 (r1.2.1 + r1.1)))) h5
/-! spec_l03Reader__eight_2: function 25 -/
def spec_l03Reader__eight_2.l1 : Nat → S909f20 → Int → Int → Int → Bool → Option (Int × Int × Bool)
  | 0, _, _, _, _, _ => none
  | k + 1, b0, z4, z5, z6, z7 => if z5 < 8 then ((spec_l03Reader__one_2.f k (⟨b0.f0, z6, z7⟩ : S909f20)).bind fun r9 => spec_l03Reader__eight_2.l1 k b0 (ior .i64 (ishl .i64 z4 8) r9.1) (w64 (z5 + 1)) r9.2.1 r9.2.2) else (some (z4, z6, z7))
def spec_l03Reader__eight_2.e2 (k : Nat) (b0 : S909f20) : Option (Int × Int × Bool) := spec_l03Reader__eight_2.l1 k b0 0 0 b0.f1 b0.f2
def spec_l03Reader__eight_2.f (k : Nat) (b0 : S909f20) : Option (Int × Int × Bool) := (spec_l03Reader__eight_2.e2 k b0).bind fun v => match v with | (y12, y13, y14) => some (y12, y13, y14)
theorem spec_l03Reader__eight_2.fn {k : Nat} {b0 : S909f20} {r : (Int × Int × Bool)} (H : spec_l03Reader__eight_2.f k b0 = some r) : FnG Tryz.prog 25 [o1 (.ref 0 0)] [] [eS909f20 b0] (oI r.1) [] [[.sl 1 (List.map (eK .u8) b0.f0), cI r.2.1, cB r.2.2]] := by
 refine FnG.body (ts := [2]) Tryz.func25 rfl rfl (by decide) (by decide) (Nat.le_of_ble_eq_true rfl) rfl (Nat.le_of_ble_eq_true rfl) ?_
 refine rn [0] 1 [] [] ?_
 refine rn [0, 3] 1 [] [] ?_
 refine jo H (fun w => ⟨15, [(3, oI w.1)], [[.sl 1 (List.map (eK .u8) b0.f0), cI w.2.1, cB w.2.2]], 1, []⟩) (fun w H => ?_) fun v16 h15 H => ?_
 ·obtain ⟨y12, y13, y14⟩ := w
  refine rn [2] 1 [] [] ?_
  refine Tri.ret ?_
  obtain rfl := si H;exact endsG (.inr rfl) (by kernel_rfl)
 refine rn [0, 3, 4] 1 [] [] ?_
 refine bl ?_
 refine lo (Int × Int × Int × Bool) k (fun k x => spec_l03Reader__eight_2.l1 k b0 x.1 x.2.1 x.2.2.1 x.2.2.2) (fun x => ⟨15, [(0, o1 (.ref 0 0)), (3, oI x.1), (4, oI x.2.1)], [[.sl 1 (List.map (eK .u8) b0.f0), cI x.2.2.1, cB x.2.2.2]], 1, []⟩) (0, 0, b0.f1, b0.f2) h15 fun k x h15 IH11 => ?_
 obtain ⟨z4, z5, z6, z7⟩ := x
 rw [spec_l03Reader__eight_2.l1.eq_2] at h15
 refine sq ?_
 refine rn [0, 3, 4, 6] 1 [] [] ?_
 refine ci h15 (fun h8 h15 => ?_) fun h8 h15 => ?_
 ·refine sk ?_
  refine sq ?_
  refine bl ?_
  obtain ⟨r9, h10, h15⟩ := bs h15
  refine rl [0, 3, 4] 1 [] [p1 (show (0 : Int) ≤ 8 by decide), hG 3 [] [0] none (spec_l03Reader__one_2.fn h10)] ?_
  refine rl [0, 3, 4] 1 [] [] ?_
  exact lb IH11 (ior .i64 (ishl .i64 z4 8) r9.1, w64 (z5 + 1), r9.2.1, r9.2.2) h15
 refine fx [3] 1 [] ?_
 refine xi ?_
 exact pf (z4, z6, z7) h15
/-! spec_l00Letter: function 83 -/
def spec_l00Letter.e1 (k : Nat) (a0 : Int) : Option Bool := if (97 : Int) ≤ a0 then (if a0 ≤ 122 then (some true) else (if (65 : Int) ≤ a0 then (if a0 ≤ 90 then (some true) else (some (decide (a0 = 95)))) else (some (decide (a0 = 95))))) else (if (65 : Int) ≤ a0 then (if a0 ≤ 90 then (some true) else (some (decide (a0 = 95)))) else (some (decide (a0 = 95))))
def spec_l00Letter.f (k : Nat) (a0 : Int) : Option Bool := (spec_l00Letter.e1 k a0).bind fun y7 => some y7
theorem spec_l00Letter.fn {k : Nat} {a0 : Int} {r : Bool} (H : spec_l00Letter.f k a0 = some r) : Fn Tryz.prog 83 [o1 (cK .u8 a0)] [] (oB r) [] := by
 refine Fn.bd [2] Tryz.func83 ?_
 refine rn [0] 0 [] [] ?_
 refine jo H (fun y7 => ⟨21, [(2, oB y7)], [], 0, []⟩) (fun y7 H => ?_) fun v9 h8 H => ?_
 ·refine Tri.ret ?_
  obtain rfl := si H;exact eR
 rcases ite_some h8 with ⟨h1, h8⟩ | ⟨h1, h8⟩
 ·rcases ite_some h8 with ⟨h2, h8⟩ | ⟨h2, h8⟩
  ·refine rl [2] 0 [] [hB 1 (decide_eq_true h1), hB 4 (decide_eq_true h2)] ?_
   exact pf true h8
  rcases ite_some h8 with ⟨h3, h8⟩ | ⟨h3, h8⟩
  ·rcases ite_some h8 with ⟨h4, h8⟩ | ⟨h4, h8⟩
   ·refine rl [2] 0 [] [hB 1 (decide_eq_true h1), hB 4 (decide_eq_false h2), hB 8 (decide_eq_true h3), hB 11 (decide_eq_true h4)] ?_
    exact pf true h8
   refine rl [2] 0 [] [hB 1 (decide_eq_true h1), hB 4 (decide_eq_false h2), hB 8 (decide_eq_true h3), hB 11 (decide_eq_false h4)] ?_
   exact pf (decide (a0 = 95)) h8
  refine rl [2] 0 [] [hB 1 (decide_eq_true h1), hB 4 (decide_eq_false h2), hB 8 (decide_eq_false h3)] ?_
  exact pf (decide (a0 = 95)) h8
 rcases ite_some h8 with ⟨h5, h8⟩ | ⟨h5, h8⟩
 ·rcases ite_some h8 with ⟨h6, h8⟩ | ⟨h6, h8⟩
  ·refine rl [2] 0 [] [hB 1 (decide_eq_false h1), hB 8 (decide_eq_true h5), hB 11 (decide_eq_true h6)] ?_
   exact pf true h8
  refine rl [2] 0 [] [hB 1 (decide_eq_false h1), hB 8 (decide_eq_true h5), hB 11 (decide_eq_false h6)] ?_
  exact pf (decide (a0 = 95)) h8
 refine rl [2] 0 [] [hB 1 (decide_eq_false h1), hB 8 (decide_eq_false h5)] ?_
 exact pf (decide (a0 = 95)) h8
/-! spec_l00Digit: function 84 -/
def spec_l00Digit.e1 (k : Nat) (a0 : Int) : Option Bool := if (48 : Int) ≤ a0 then (some (decide (a0 ≤ 57))) else (some false)
def spec_l00Digit.f (k : Nat) (a0 : Int) : Option Bool := (spec_l00Digit.e1 k a0).bind fun y2 => some y2
theorem spec_l00Digit.fn {k : Nat} {a0 : Int} {r : Bool} (H : spec_l00Digit.f k a0 = some r) : Fn Tryz.prog 84 [o1 (cK .u8 a0)] [] (oB r) [] := by
 refine Fn.bd [2] Tryz.func84 ?_
 refine rn [0] 0 [] [] ?_
 refine jo H (fun y2 => ⟨9, [(2, oB y2)], [], 0, []⟩) (fun y2 H => ?_) fun v4 h3 H => ?_
 ·refine Tri.ret ?_
  obtain rfl := si H;exact eR
 rcases ite_some h3 with ⟨h1, h3⟩ | ⟨h1, h3⟩
 ·refine rl [2] 0 [] [hB 1 (decide_eq_true h1)] ?_
  exact pf (decide (a0 ≤ 57)) h3
 refine rl [2] 0 [] [hB 1 (decide_eq_false h1)] ?_
 exact pf false h3
/-! spec_l00Word: function 67 -/
def spec_l00Word.e1 (k : Nat) (a0 : ByteArray) : Option Bool := if (a0.size : Int) < 1 then (some true) else (if (40 : Int) < (a0.size : Int) then (some true) else (if (0 : Int) ≤ 0 then (if 0 < (a0.size : Int) then ((spec_l00Letter.f k (byteAt a0 0)).bind fun r5 => some (!r5)) else none) else none))
def spec_l00Word.e2 (k : Nat) (a0 : ByteArray) (z23 : Int) : Option Bool := if (0 : Int) ≤ z23 then ((spec_l00Letter.f k (byteAt a0 z23)).bind fun r26 => if r26 = true then (some false) else ((spec_l00Digit.f k (byteAt a0 z23)).bind fun r29 => some (!r29))) else none
def spec_l00Word.l3 : Nat → ByteArray → Int → Option (Bool ⊕ Unit)
  | 0, _, _ => none
  | k + 1, a0, z23 => if z23 < (a0.size : Int) then ((spec_l00Word.e2 k a0 z23).bind fun y31 => if y31 = true then (some (.inl false)) else (spec_l00Word.l3 k a0 (w64 (z23 + 1)))) else (some (.inr ()))
def spec_l00Word.e4 (k : Nat) (a0 : ByteArray) : Option (Bool ⊕ Unit) := spec_l00Word.l3 k a0 1
def spec_l00Word.f (k : Nat) (a0 : ByteArray) : Option Bool := (spec_l00Word.e1 k a0).bind fun y7 => if y7 = true then (some false) else ((spec_l00Word.e4 k a0).bind fun v => match v with | .inl r => some r | .inr _ => some true)
theorem spec_l00Word.fn {k : Nat} {a0 : ByteArray} {r : Bool} (H : spec_l00Word.f k a0 = some r) : Fn Tryz.prog 67 [oS a0] [] (oB r) [] := by
 refine Fn.bd [2] Tryz.func67 ?_
 refine rn [0] 0 [] [] ?_
 refine sq ?_
 refine jo H (fun y7 => ⟨36, [(0, oS a0), (17, oB y7)], [], 0, []⟩) (fun y7 H => ?_) fun v9 h8 H => ?_
 ·refine cb H (fun h10 H => ?_) fun h10 H => ?_
  ·refine rn [2] 0 [] [] ?_
   refine Tri.ret ?_
   obtain rfl := si H;exact eR
  refine sk ?_
  refine jr H (fun _ => ⟨36, [], [], 0, []⟩) (fun _ H => ?_) fun v37 h36 H => ?_
  ·refine rn [2] 0 [] [] ?_
   refine Tri.ret ?_
   obtain rfl := si H;exact eR
  refine rn [0, 3] 0 [] [] ?_
  refine bl ?_
  refine lo Int k (fun k x => spec_l00Word.l3 k a0 x) (fun x => ⟨36, [(0, oS a0), (3, oI x)], [], 0, []⟩) 1 h36 fun k z23 h36 IH35 => ?_
  rw [spec_l00Word.l3.eq_2] at h36
  refine sq ?_
  refine rn [0, 3, 21] 0 [] [] ?_
  refine ci h36 (fun h24 h36 => ?_) fun h24 h36 => ?_
  ·refine sk ?_
   refine sq ?_
   refine bl ?_
   refine jo h36 (fun y31 => ⟨36, [(0, oS a0), (3, oI z23), (35, oB y31)], [], 0, []⟩) (fun y31 h36 => ?_) fun v33 h32 h36 => ?_
   ·refine cb h36 (fun h34 h36 => ?_) fun h34 h36 => ?_
    ·refine rn [2] 0 [] [] ?_
     refine Tri.ret ?_
     obtain rfl := si h36;obtain rfl := si H;exact eR
    refine sk ?_
    refine rl [0, 3] 0 [] [] ?_
    exact lb IH35 (w64 (z23 + 1)) h36
   obtain ⟨h25, h32⟩ := nd h32
   obtain ⟨r26, h27, h32⟩ := bs h32
   rcases iteb_some h32 with ⟨h28, h32⟩ | ⟨h28, h32⟩
   ·refine rl [0, 3, 35] 0 [] [p2 h25 h24, hC 3 (spec_l00Letter.fn h27), hB 3 h28] ?_
    exact pf false h32
   obtain ⟨r29, h30, h32⟩ := bs h32
   refine rl [0, 3, 35] 0 [] [p2 h25 h24, hC 3 (spec_l00Letter.fn h27), hB 3 h28, p2 h25 h24, hC 9 (spec_l00Digit.fn h30)] ?_
   exact pf (!r29) h32
  refine fx [] 0 [] ?_
  refine xi ?_
  exact pe () h36
 rcases ite_some h8 with ⟨h1, h8⟩ | ⟨h1, h8⟩
 ·refine rl [0, 17] 0 [] [hB 2 (decide_eq_true h1)] ?_
  exact pf true h8
 rcases ite_some h8 with ⟨h2, h8⟩ | ⟨h2, h8⟩
 ·refine rl [0, 17] 0 [] [hB 2 (decide_eq_false h1), hB 6 (decide_eq_true h2)] ?_
  exact pf true h8
 obtain ⟨h3, h8⟩ := nd h8
 obtain ⟨h4, h8⟩ := nd h8
 obtain ⟨r5, h6, h8⟩ := bs h8
 refine rl [0, 17] 0 [] [hB 2 (decide_eq_false h1), hB 6 (decide_eq_false h2), p2 h3 h4, hC 11 (spec_l00Letter.fn h6)] ?_
 exact pf (!r5) h8
/-! spec_NameOK: function 54 -/
def spec_NameOK.f (k : Nat) (a0 : ByteArray) : Option Bool := (spec_l00Word.f k a0).bind fun r1 => some r1
theorem spec_NameOK.fn {k : Nat} {a0 : ByteArray} {r : Bool} (H : spec_NameOK.f k a0 = some r) : Fn Tryz.prog 54 [oS a0] [] (oB r) [] := by
 refine Fn.bd [2] Tryz.func54 ?_
 refine rn [0] 0 [] [] ?_
 obtain ⟨r1, h2, H⟩ := bs H
 refine rn [2] 0 [] [hC 1 (spec_l00Word.fn h2)] ?_
 refine Tri.ret ?_
 obtain rfl := si H;exact eR
/-! spec_l01Keys: function 68 -/
def spec_l01Keys.f (k : Nat) : Option (List ByteArray) := some ([(⟨#[77, 79, 68, 85, 76, 69]⟩ : ByteArray), (⟨#[73, 77, 80, 79, 82, 84]⟩ : ByteArray), (⟨#[67, 79, 78, 83, 84]⟩ : ByteArray), (⟨#[86, 65, 82]⟩ : ByteArray), (⟨#[80, 82, 79, 67, 69, 68, 85, 82, 69]⟩ : ByteArray), (⟨#[66, 69, 71, 73, 78]⟩ : ByteArray), (⟨#[69, 78, 68]⟩ : ByteArray), (⟨#[73, 70]⟩ : ByteArray), (⟨#[84, 72, 69, 78]⟩ : ByteArray), (⟨#[69, 76, 83, 73, 70]⟩ : ByteArray), (⟨#[69, 76, 83, 69]⟩ : ByteArray), (⟨#[87, 72, 73, 76, 69]⟩ : ByteArray), (⟨#[68, 79]⟩ : ByteArray), (⟨#[82, 69, 84, 85, 82, 78]⟩ : ByteArray), (⟨#[79, 82]⟩ : ByteArray), (⟨#[68, 73, 86]⟩ : ByteArray), (⟨#[77, 79, 68]⟩ : ByteArray), (⟨#[84, 82, 85, 69]⟩ : ByteArray), (⟨#[70, 65, 76, 83, 69]⟩ : ByteArray), (⟨#[65, 82, 82, 65, 89]⟩ : ByteArray), (⟨#[79, 70]⟩ : ByteArray), (⟨#[73, 78, 84, 69, 71, 69, 82]⟩ : ByteArray), (⟨#[66, 79, 79, 76, 69, 65, 78]⟩ : ByteArray), (⟨#[67, 72, 65, 82]⟩ : ByteArray), (⟨#[87, 82, 73, 84, 69]⟩ : ByteArray), (⟨#[82, 69, 65, 68]⟩ : ByteArray), (⟨#[79, 82, 68]⟩ : ByteArray), (⟨#[67, 72, 82]⟩ : ByteArray), (⟨#[76, 69, 78]⟩ : ByteArray)] : List ByteArray)
theorem spec_l01Keys.fn {k : Nat} {r : (List ByteArray)} (H : spec_l01Keys.f k  = some r) : Fn Tryz.prog 68 [] [] (o1 (.own 9 (List.map eS r))) [] := by
 refine Fn.bd [0] Tryz.func68 ?_
 refine rn [] 0 [] [] ?_
 refine rn [0] 0 [] [] ?_
 refine Tri.ret ?_
 obtain rfl := si H;exact eR
/-! spec_l01Place: function 42 -/
def spec_l01Place.l1 : Nat → (List ByteArray) → ByteArray → Int → Option (Int ⊕ Unit)
  | 0, _, _, _ => none
  | k + 1, a0, a1, z5 => if z5 < (a0.length : Int) then ((at? a0 z5).bind fun x7 => if x7 = a1 then (some (.inl z5)) else (spec_l01Place.l1 k a0 a1 (w64 (z5 + 1)))) else (some (.inr ()))
def spec_l01Place.e2 (k : Nat) (a0 : (List ByteArray)) (a1 : ByteArray) : Option (Int ⊕ Unit) := spec_l01Place.l1 k a0 a1 0
def spec_l01Place.f (k : Nat) (a0 : (List ByteArray)) (a1 : ByteArray) : Option Int := (spec_l01Place.e2 k a0 a1).bind fun v => match v with | .inl r => some r | .inr _ => some (-1)
theorem spec_l01Place.fn {k : Nat} {a0 : (List ByteArray)} {a1 : ByteArray} {r : Int} (H : spec_l01Place.f k a0 a1 = some r) : Fn Tryz.prog 42 [o1 (.sl 1 (List.map eS a0)), oS a1] [] (oI r) [] := by
 refine Fn.bd [4] Tryz.func42 ?_
 refine rn [0, 1] 0 [] [] ?_
 refine jr H (fun _ => ⟨19, [], [], 0, []⟩) (fun _ H => ?_) fun v12 h11 H => ?_
 ·refine rn [4] 0 [] [] ?_
  refine Tri.ret ?_
  obtain rfl := si H;exact eR
 refine rn [0, 1, 5] 0 [] [] ?_
 refine bl ?_
 refine lo Int k (fun k x => spec_l01Place.l1 k a0 a1 x) (fun x => ⟨19, [(0, o1 (.sl 1 (List.map eS a0))), (1, oS a1), (5, oI x)], [], 0, []⟩) 0 h11 fun k z5 h11 IH10 => ?_
 rw [spec_l01Place.l1.eq_2] at h11
 refine sq ?_
 refine rn [0, 1, 5, 9] 0 [] [hL 2 eS a0] ?_
 refine ci h11 (fun h6 h11 => ?_) fun h6 h11 => ?_
 ·refine sk ?_
  refine sq ?_
  refine bl ?_
  obtain ⟨x7, h8, h11⟩ := bs h11
  refine rn [0, 1, 5, 17] 0 [] [hE 2 eS h8] ?_
  refine ci h11 (fun h9 h11 => ?_) fun h9 h11 => ?_
  ·refine rn [4] 0 [] [] ?_
   refine Tri.ret ?_
   obtain rfl := si h11;obtain rfl := si H;exact eR
  refine sk ?_
  refine rl [0, 1, 5] 0 [] [] ?_
  exact lb IH10 (w64 (z5 + 1)) h11
 refine fx [] 0 [] ?_
 refine xi ?_
 exact pe () h11
/-! spec_IsKey: function 55 -/
def spec_IsKey.f (k : Nat) (a0 : ByteArray) : Option Bool := (spec_l01Keys.f k).bind fun r1 => (spec_l01Place.f k r1 a0).bind fun r3 => some (decide ((0 : Int) ≤ r3))
theorem spec_IsKey.fn {k : Nat} {a0 : ByteArray} {r : Bool} (H : spec_IsKey.f k a0 = some r) : Fn Tryz.prog 55 [oS a0] [] (oB r) [] := by
 refine Fn.bd [2] Tryz.func55 ?_
 refine rn [0] 0 [] [] ?_
 obtain ⟨r1, h2, H⟩ := bs H
 obtain ⟨r3, h4, H⟩ := bs H
 refine rn [2] 0 [] [hC 0 (spec_l01Keys.fn h2) (show (List.all [.own 9 (List.map eS r1)] PC.flatB) = true by simp [PC.flatB, PC.scalar, cI, cK, cB, cS, eS]), hC 2 (spec_l01Place.fn h4)] ?_
 refine Tri.ret ?_
 obtain rfl := si H;exact eR
/-! spec_l02Name: function 40 -/
def spec_l02Name.e1 (k : Nat) (a0 : ByteArray) : Option Bool := (spec_NameOK.f k a0).bind fun r1 => if r1 = true then ((spec_IsKey.f k a0).bind fun r4 => some (!r4)) else (some false)
def spec_l02Name.f (k : Nat) (a0 : ByteArray) : Option Bool := (spec_l02Name.e1 k a0).bind fun y6 => some y6
theorem spec_l02Name.fn {k : Nat} {a0 : ByteArray} {r : Bool} (H : spec_l02Name.f k a0 = some r) : Fn Tryz.prog 40 [oS a0] [] (oB r) [] := by
 refine Fn.bd [2] Tryz.func40 ?_
 refine rn [0] 0 [] [] ?_
 refine jo H (fun y6 => ⟨10, [(2, oB y6)], [], 0, []⟩) (fun y6 H => ?_) fun v8 h7 H => ?_
 ·refine Tri.ret ?_
  obtain rfl := si H;exact eR
 obtain ⟨r1, h2, h7⟩ := bs h7
 rcases iteb_some h7 with ⟨h3, h7⟩ | ⟨h3, h7⟩
 ·obtain ⟨r4, h5, h7⟩ := bs h7
  refine rl [2] 0 [] [hC 1 (spec_NameOK.fn h2), hB 1 h3, hC 4 (spec_IsKey.fn h5)] ?_
  exact pf (!r4) h7
 refine rl [2] 0 [] [hC 1 (spec_NameOK.fn h2), hB 1 h3] ?_
 exact pf false h7
/-! spec_l01In: function 41 -/
def spec_l01In.e1 (k : Nat) (a0 : Int) (a1 : Int) (a2 : Int) : Option Bool := if a1 ≤ a0 then (some (decide (a0 ≤ a2))) else (some false)
def spec_l01In.f (k : Nat) (a0 : Int) (a1 : Int) (a2 : Int) : Option Bool := (spec_l01In.e1 k a0 a1 a2).bind fun y2 => some y2
theorem spec_l01In.fn {k : Nat} {a0 : Int} {a1 : Int} {a2 : Int} {r : Bool} (H : spec_l01In.f k a0 a1 a2 = some r) : Fn Tryz.prog 41 [oI a0, oI a1, oI a2] [] (oB r) [] := by
 refine Fn.bd [6] Tryz.func41 ?_
 refine rn [0, 1, 2] 0 [] [] ?_
 refine jo H (fun y2 => ⟨15, [(6, oB y2)], [], 0, []⟩) (fun y2 H => ?_) fun v4 h3 H => ?_
 ·refine Tri.ret ?_
  obtain rfl := si H;exact eR
 rcases ite_some h3 with ⟨h1, h3⟩ | ⟨h1, h3⟩
 ·refine rl [6] 0 [] [hB 2 (decide_eq_true h1)] ?_
  exact pf (decide (a0 ≤ a2)) h3
 refine rl [6] 0 [] [hB 2 (decide_eq_false h1)] ?_
 exact pf false h3
/-! spec_l04Signs: function 69 -/
def spec_l04Signs.f (k : Nat) : Option (List ByteArray) := some ([(⟨#[43]⟩ : ByteArray), (⟨#[45]⟩ : ByteArray), (⟨#[42]⟩ : ByteArray), (⟨#[68, 73, 86]⟩ : ByteArray), (⟨#[77, 79, 68]⟩ : ByteArray), (⟨#[61]⟩ : ByteArray), (⟨#[35]⟩ : ByteArray), (⟨#[60]⟩ : ByteArray), (⟨#[60, 61]⟩ : ByteArray), (⟨#[62]⟩ : ByteArray), (⟨#[62, 61]⟩ : ByteArray)] : List ByteArray)
theorem spec_l04Signs.fn {k : Nat} {r : (List ByteArray)} (H : spec_l04Signs.f k  = some r) : Fn Tryz.prog 69 [] [] (o1 (.own 9 (List.map eS r))) [] := by
 refine Fn.bd [0] Tryz.func69 ?_
 refine rn [] 0 [] [] ?_
 refine rn [0] 0 [] [] ?_
 refine Tri.ret ?_
 obtain rfl := si H;exact eR
/-! spec_l04Ins: function 56 -/
def spec_l04Ins.e1 (k : Nat) (a0 : SIns) : Option Bool := if a0.f0 = 3 then (some true) else (some (decide (a0.f0 = 13)))
def spec_l04Ins.e2 (k : Nat) (a0 : SIns) (y2 : Bool) : Option Bool := if a0.f3 = (⟨#[]⟩ : ByteArray) then (if y2 = true then (if a0.f4 = (⟨#[]⟩ : ByteArray) then (some true) else ((spec_l02Name.f k a0.f3).bind fun r8 => if r8 = true then ((spec_l02Name.f k a0.f4).bind fun r11 => if r11 = true then (if a0.f0 = 13 then (some false) else (some (!(decide (a0.f2 = 0))))) else (some true)) else (some true))) else (if a0.f4 = (⟨#[]⟩ : ByteArray) then (if a0.f0 = 13 then (some false) else (some (!(decide (a0.f2 = 0))))) else (some true))) else (if y2 = true then ((spec_l02Name.f k a0.f3).bind fun r18 => if r18 = true then ((spec_l02Name.f k a0.f4).bind fun r21 => if r21 = true then (if a0.f0 = 13 then (some false) else (some (!(decide (a0.f2 = 0))))) else (some true)) else (some true)) else (some true))
def spec_l04Ins.e3 (k : Nat) (a0 : SIns) : Option Bool := if a0.f0 = 11 then (some (decide (a0.f0 = 11))) else (some (decide (a0.f0 = 12)))
def spec_l04Ins.e4 (k : Nat) (a0 : SIns) : Option Bool := (spec_l01In.f k a0.f1 0 20).bind fun r49 => if r49 = true then ((spec_l01In.f k a0.f2 0 1).bind fun r52 => some r52) else (some false)
def spec_l04Ins.e5 (k : Nat) (a0 : SIns) : Option Bool := if a0.f0 = 15 then (some (decide (a0.f0 = 15))) else (some (decide (a0.f0 = 16)))
def spec_l04Ins.e6 (k : Nat) (a0 : SIns) : Option Bool := (spec_l01In.f k a0.f1 1 3).bind fun r63 => if r63 = true then (if a0.f0 = 15 then (some true) else (some (!(decide (a0.f1 = 2))))) else (some false)
def spec_l04Ins.e7 (k : Nat) (a0 : SIns) : Option Bool := if a0.f1 = 0 then ((spec_l01In.f k a0.f0 3 10).bind fun r74 => some r74) else (some false)
def spec_l04Ins.f (k : Nat) (a0 : SIns) (a1 : SCode) : Option Bool := (spec_l04Ins.e1 k a0).bind fun y2 => (spec_l04Ins.e2 k a0 y2).bind fun y25 => if y25 = true then (some false) else (if a0.f0 = 1 then (some true) else (if a0.f0 = 2 then ((spec_l01In.f k a0.f1 0 (w64 (a1.f2 - 1))).bind fun r31 => some r31) else (if a0.f0 = 6 then ((spec_l01In.f k a0.f1 1 100).bind fun r34 => some r34) else (if a0.f0 = 7 then ((spec_l04Signs.f k).bind fun r37 => (spec_l01In.f k a0.f1 0 (w64 ((r37.length : Int) - 1))).bind fun r39 => some r39) else ((spec_l04Ins.e3 k a0).bind fun y42 => if y42 = true then ((spec_l01In.f k a0.f1 0 (w64 ((a1.f4.length : Int) - 1))).bind fun r46 => some r46) else (if a0.f0 = 13 then ((spec_l04Ins.e4 k a0).bind fun y54 => some y54) else (if a0.f0 = 14 then (some (decide (a0.f1 = a1.f3))) else ((spec_l04Ins.e5 k a0).bind fun y59 => if y59 = true then ((spec_l04Ins.e6 k a0).bind fun y67 => some y67) else (if a0.f0 = 17 then ((spec_l01In.f k a0.f1 1 5).bind fun r71 => some r71) else ((spec_l04Ins.e7 k a0).bind fun y76 => some y76))))))))))
theorem spec_l04Ins.fn {k : Nat} {a0 : SIns} {a1 : SCode} {r : Bool} (H : spec_l04Ins.f k a0 a1 = some r) : Fn Tryz.prog 56 [ag (eSIns a0), ag (eSCode a1)] [] (oB r) [] := by
 refine Fn.bd [4] Tryz.func56 ?_
 refine rn [2, 3] 2 [] [] ?_
 refine jo H (fun y2 => ⟨130, [(2, o1 (.ref 0 0)), (3, o1 (.ref 1 0)), (5, oB y2)], [eSIns a0, eSCode a1], 0, []⟩) (fun y2 H => ?_) fun v4 h3 H => ?_
 ·refine sq ?_
  refine jo H (fun y25 => ⟨130, [(2, o1 (.ref 0 0)), (3, o1 (.ref 1 0)), (48, oB y25)], [eSIns a0, eSCode a1], 0, []⟩) (fun y25 H => ?_) fun v27 h26 H => ?_
  ·refine cb H (fun h28 H => ?_) fun h28 H => ?_
   ·refine rn [4] 0 [] [] ?_
    refine Tri.ret ?_
    obtain rfl := si H;exact eR
   refine sk ?_
   refine sq ?_
   refine rn [2, 3, 50] 2 [] [] ?_
   refine bl ?_
   refine rn [2, 3, 50, 51] 2 [] [] ?_
   refine ci H (fun h29 H => ?_) fun h29 H => ?_
   ·refine rn [4] 0 [] [] ?_
    refine Tri.ret ?_
    obtain rfl := si H;exact eR
   refine rn [2, 3, 50, 53] 2 [] [] ?_
   refine ci H (fun h30 H => ?_) fun h30 H => ?_
   ·obtain ⟨r31, h32, H⟩ := bs H
    refine rn [4] 0 [] [hC 5 (spec_l01In.fn h32)] ?_
    refine Tri.ret ?_
    obtain rfl := si H;exact eR
   refine rn [2, 3, 50, 61] 2 [] [] ?_
   refine ci H (fun h33 H => ?_) fun h33 H => ?_
   ·obtain ⟨r34, h35, H⟩ := bs H
    refine rn [4] 0 [] [hC 2 (spec_l01In.fn h35)] ?_
    refine Tri.ret ?_
    obtain rfl := si H;exact eR
   refine rn [2, 3, 50, 66] 2 [] [] ?_
   refine ci H (fun h36 H => ?_) fun h36 H => ?_
   ·obtain ⟨r37, h38, H⟩ := bs H
    obtain ⟨r39, h40, H⟩ := bs H
    refine dx hmix 5 [[], [0], [], [2], [2, 3], [0, 1, 2, 3, 4], [0, 1, 2, 3, 4, 5]] [4] 0 [] [hC 2 (spec_l04Signs.fn h38) (show (List.all [.own 9 (List.map eS r37)] PC.flatB) = true by simp [PC.flatB, PC.scalar, cI, cK, cB, cS, eS]), hL 3 eS r37, hC 5 (spec_l01In.fn h40)] ⟨130, [(4, oB r39)], [], 0, []⟩ ?_
    refine Tri.ret ?_
    obtain rfl := si H;exact eR
   refine jo H (fun y42 => ⟨130, [(2, o1 (.ref 0 0)), (3, o1 (.ref 1 0)), (50, oI a0.f0), (74, oB y42)], [eSIns a0, eSCode a1], 0, []⟩) (fun y42 H => ?_) fun v44 h43 H => ?_
   ·refine cb H (fun h45 H => ?_) fun h45 H => ?_
    ·obtain ⟨r46, h47, H⟩ := bs H
     refine rn [4] 0 [] [hL 4 eSIns a1.f4, hC 6 (spec_l01In.fn h47)] ?_
     refine Tri.ret ?_
     obtain rfl := si H;exact eR
    refine rn [2, 3, 50, 84] 2 [] [] ?_
    refine ci H (fun h48 H => ?_) fun h48 H => ?_
    ·refine jo H (fun y54 => ⟨130, [(4, oB y54)], [], 0, []⟩) (fun y54 H => ?_) fun v56 h55 H => ?_
     ·refine Tri.ret ?_
      obtain rfl := si H;exact eR
     obtain ⟨r49, h50, h55⟩ := bs h55
     rcases iteb_some h55 with ⟨h51, h55⟩ | ⟨h51, h55⟩
     ·obtain ⟨r52, h53, h55⟩ := bs h55
      refine rl [4] 0 [] [hC 2 (spec_l01In.fn h50), hB 2 h51, hC 6 (spec_l01In.fn h53)] ?_
      exact pf r52 h55
     refine rl [4] 0 [] [hC 2 (spec_l01In.fn h50), hB 2 h51] ?_
     exact pf false h55
    refine rn [2, 3, 50, 94] 2 [] [] ?_
    refine ci H (fun h57 H => ?_) fun h57 H => ?_
    ·refine rn [4] 0 [] [] ?_
     refine Tri.ret ?_
     obtain rfl := si H;exact eR
    refine jo H (fun y59 => ⟨130, [(2, o1 (.ref 0 0)), (50, oI a0.f0), (101, oB y59)], [eSIns a0], 0, []⟩) (fun y59 H => ?_) fun v61 h60 H => ?_
    ·refine cb H (fun h62 H => ?_) fun h62 H => ?_
     ·refine jo H (fun y67 => ⟨130, [(4, oB y67)], [], 0, []⟩) (fun y67 H => ?_) fun v69 h68 H => ?_
      ·refine Tri.ret ?_
       obtain rfl := si H;exact eR
      obtain ⟨r63, h64, h68⟩ := bs h68
      rcases iteb_some h68 with ⟨h65, h68⟩ | ⟨h65, h68⟩
      ·rcases ite_some h68 with ⟨h66, h68⟩ | ⟨h66, h68⟩
       ·refine rl [4] 0 [] [hC 2 (spec_l01In.fn h64), hB 2 h65, hB 6 (decide_eq_true h66)] ?_
        exact pf true h68
       refine rl [4] 0 [] [hC 2 (spec_l01In.fn h64), hB 2 h65, hB 6 (decide_eq_false h66)] ?_
       exact pf (!(decide (a0.f1 = 2))) h68
      refine rl [4] 0 [] [hC 2 (spec_l01In.fn h64), hB 2 h65] ?_
      exact pf false h68
     refine rn [2, 117] 1 [] [] ?_
     refine ci H (fun h70 H => ?_) fun h70 H => ?_
     ·obtain ⟨r71, h72, H⟩ := bs H
      refine rn [4] 0 [] [hC 2 (spec_l01In.fn h72)] ?_
      refine Tri.ret ?_
      obtain rfl := si H;exact eR
     refine sk ?_
     refine jo H (fun y76 => ⟨130, [(4, oB y76)], [], 0, []⟩) (fun y76 H => ?_) fun v78 h77 H => ?_
     ·refine Tri.ret ?_
      obtain rfl := si H;exact eR
     rcases ite_some h77 with ⟨h73, h77⟩ | ⟨h73, h77⟩
     ·obtain ⟨r74, h75, h77⟩ := bs h77
      refine rl [4] 0 [] [hB 2 (decide_eq_true h73), hC 6 (spec_l01In.fn h75)] ?_
      exact pf r74 h77
     refine rl [4] 0 [] [hB 2 (decide_eq_false h73)] ?_
     exact pf false h77
    refine rn [2, 50, 101] 1 [] [] ?_
    refine ci h60 (fun h58 h60 => ?_) fun h58 h60 => ?_
    ·refine sk ?_
     exact pf (decide (a0.f0 = 15)) h60
    refine rl [2, 50, 101] 1 [] [] ?_
    exact pf (decide (a0.f0 = 16)) h60
   refine rx [2, 3, 50, 74] 2 [] [] ⟨130, [(2, o1 (.ref 0 0)), (3, o1 (.ref 1 0)), (50, oI a0.f0), (74, oB (decide (a0.f0 = 11)))], [eSIns a0, eSCode a1], 0, []⟩ ?_
   refine ci h43 (fun h41 h43 => ?_) fun h41 h43 => ?_
   ·refine sk ?_
    exact pf (decide (a0.f0 = 11)) h43
   refine rl [2, 3, 50, 74] 2 [] [] ?_
   exact pf (decide (a0.f0 = 12)) h43
  rcases ite_some h26 with ⟨h5, h26⟩ | ⟨h5, h26⟩
  ·rcases iteb_some h26 with ⟨h6, h26⟩ | ⟨h6, h26⟩
   ·rcases ite_some h26 with ⟨h7, h26⟩ | ⟨h7, h26⟩
    ·refine rl [2, 3, 48] 2 [] [hB 0 h6, hB 3 (nF (decide_eq_true h5)), hB 7 (nF (decide_eq_true h7))] ?_
     exact pf true h26
    obtain ⟨r8, h9, h26⟩ := bs h26
    rcases iteb_some h26 with ⟨h10, h26⟩ | ⟨h10, h26⟩
    ·obtain ⟨r11, h12, h26⟩ := bs h26
     rcases iteb_some h26 with ⟨h13, h26⟩ | ⟨h13, h26⟩
     ·rcases ite_some h26 with ⟨h14, h26⟩ | ⟨h14, h26⟩
      ·refine rl [2, 3, 48] 2 [] [hB 0 h6, hB 3 (nF (decide_eq_true h5)), hB 7 (nT (decide_eq_false h7)), hB 11 h6, hC 15 (spec_l02Name.fn h9), hB 15 h10, hC 20 (spec_l02Name.fn h12), hB 20 h13, hB 28 (nF (decide_eq_true h14))] ?_
       exact pf false h26
      refine rl [2, 3, 48] 2 [] [hB 0 h6, hB 3 (nF (decide_eq_true h5)), hB 7 (nT (decide_eq_false h7)), hB 11 h6, hC 15 (spec_l02Name.fn h9), hB 15 h10, hC 20 (spec_l02Name.fn h12), hB 20 h13, hB 28 (nT (decide_eq_false h14))] ?_
      exact pf (!(decide (a0.f2 = 0))) h26
     refine rl [2, 3, 48] 2 [] [hB 0 h6, hB 3 (nF (decide_eq_true h5)), hB 7 (nT (decide_eq_false h7)), hB 11 h6, hC 15 (spec_l02Name.fn h9), hB 15 h10, hC 20 (spec_l02Name.fn h12), hB 20 h13] ?_
     exact pf true h26
    refine rl [2, 3, 48] 2 [] [hB 0 h6, hB 3 (nF (decide_eq_true h5)), hB 7 (nT (decide_eq_false h7)), hB 11 h6, hC 15 (spec_l02Name.fn h9), hB 15 h10] ?_
    exact pf true h26
   rcases ite_some h26 with ⟨h15, h26⟩ | ⟨h15, h26⟩
   ·rcases ite_some h26 with ⟨h16, h26⟩ | ⟨h16, h26⟩
    ·refine rl [2, 3, 48] 2 [] [hB 0 h6, hB 3 (nF (decide_eq_true h5)), hB 7 (nF (decide_eq_true h15)), hB 11 h6, hB 28 (nF (decide_eq_true h16))] ?_
     exact pf false h26
    refine rl [2, 3, 48] 2 [] [hB 0 h6, hB 3 (nF (decide_eq_true h5)), hB 7 (nF (decide_eq_true h15)), hB 11 h6, hB 28 (nT (decide_eq_false h16))] ?_
    exact pf (!(decide (a0.f2 = 0))) h26
   refine rl [2, 3, 48] 2 [] [hB 0 h6, hB 3 (nF (decide_eq_true h5)), hB 7 (nT (decide_eq_false h15))] ?_
   exact pf true h26
  rcases iteb_some h26 with ⟨h17, h26⟩ | ⟨h17, h26⟩
  ·obtain ⟨r18, h19, h26⟩ := bs h26
   rcases iteb_some h26 with ⟨h20, h26⟩ | ⟨h20, h26⟩
   ·obtain ⟨r21, h22, h26⟩ := bs h26
    rcases iteb_some h26 with ⟨h23, h26⟩ | ⟨h23, h26⟩
    ·rcases ite_some h26 with ⟨h24, h26⟩ | ⟨h24, h26⟩
     ·refine rl [2, 3, 48] 2 [] [hB 0 h17, hB 3 (nT (decide_eq_false h5)), hB 11 h17, hC 15 (spec_l02Name.fn h19), hB 15 h20, hC 20 (spec_l02Name.fn h22), hB 20 h23, hB 28 (nF (decide_eq_true h24))] ?_
      exact pf false h26
     refine rl [2, 3, 48] 2 [] [hB 0 h17, hB 3 (nT (decide_eq_false h5)), hB 11 h17, hC 15 (spec_l02Name.fn h19), hB 15 h20, hC 20 (spec_l02Name.fn h22), hB 20 h23, hB 28 (nT (decide_eq_false h24))] ?_
     exact pf (!(decide (a0.f2 = 0))) h26
    refine rl [2, 3, 48] 2 [] [hB 0 h17, hB 3 (nT (decide_eq_false h5)), hB 11 h17, hC 15 (spec_l02Name.fn h19), hB 15 h20, hC 20 (spec_l02Name.fn h22), hB 20 h23] ?_
    exact pf true h26
   refine rl [2, 3, 48] 2 [] [hB 0 h17, hB 3 (nT (decide_eq_false h5)), hB 11 h17, hC 15 (spec_l02Name.fn h19), hB 15 h20] ?_
   exact pf true h26
  refine rl [2, 3, 48] 2 [] [hB 0 h17, hB 3 (nT (decide_eq_false h5))] ?_
  exact pf true h26
 rcases ite_some h3 with ⟨h1, h3⟩ | ⟨h1, h3⟩
 ·refine rl [2, 3, 5] 2 [] [hB 2 (decide_eq_true h1)] ?_
  exact pf true h3
 refine rl [2, 3, 5] 2 [] [hB 2 (decide_eq_false h1)] ?_
 exact pf (decide (a0.f0 = 13)) h3
/-! spec_l04Effect: function 57 -/
def spec_l04Effect.e1 (k : Nat) (a0 : SIns) : Option Bool := if a0.f0 = 1 then (some (decide (a0.f0 = 1))) else (if a0.f0 = 2 then (some (decide (a0.f0 = 2))) else (some (decide (a0.f0 = 3))))
def spec_l04Effect.e2 (k : Nat) (a0 : SIns) : Option Bool := if a0.f0 = 4 then (some (decide (a0.f0 = 4))) else (if a0.f0 = 8 then (some (decide (a0.f0 = 8))) else (if a0.f0 = 9 then (some (decide (a0.f0 = 9))) else (some (decide (a0.f0 = 10)))))
def spec_l04Effect.e3 (k : Nat) (a0 : SIns) : Option Bool := if a0.f0 = 6 then (some (decide (a0.f0 = 6))) else (some (decide (a0.f0 = 7)))
def spec_l04Effect.e4 (k : Nat) (a0 : SIns) : Option Bool := if a0.f0 = 12 then (some (decide (a0.f0 = 12))) else (if a0.f0 = 15 then (some (decide (a0.f0 = 15))) else (some (decide (a0.f0 = 16))))
def spec_l04Effect.f (k : Nat) (a0 : SIns) : Option (Int × Int) := (spec_l04Effect.e1 k a0).bind fun y3 => if y3 = true then (some (0, 1)) else ((spec_l04Effect.e2 k a0).bind fun y10 => if y10 = true then (some (1, 1)) else (if a0.f0 = 5 then (some (2, 0)) else ((spec_l04Effect.e3 k a0).bind fun y16 => if y16 = true then (some (2, 1)) else ((spec_l04Effect.e4 k a0).bind fun y22 => if y22 = true then (some (1, 0)) else (if a0.f0 = 13 then (some (a0.f1, a0.f2)) else (if a0.f0 = 14 then (some (a0.f1, 0)) else (some (0, 0))))))))
theorem spec_l04Effect.fn {k : Nat} {a0 : SIns} {r : (Int × Int)} (H : spec_l04Effect.f k a0 = some r) : Fn Tryz.prog 57 [ag (eSIns a0)] [] (tp [none, none] [cI r.1, cI r.2]) [] := by
 refine Fn.bd [2, 3] Tryz.func57 ?_
 refine rn [1] 1 [] [] ?_
 refine sq ?_
 refine rn [1, 5] 1 [] [] ?_
 refine bl ?_
 refine jo H (fun y3 => ⟨34, [(1, o1 (.ref 0 0)), (5, oI a0.f0), (6, oB y3)], [eSIns a0], 0, []⟩) (fun y3 H => ?_) fun v5 h4 H => ?_
 ·refine cb H (fun h6 H => ?_) fun h6 H => ?_
  ·refine rn [2, 3] 0 [] [] ?_
   refine Tri.ret ?_
   obtain rfl := si H;exact eR
  refine jo H (fun y10 => ⟨34, [(1, o1 (.ref 0 0)), (5, oI a0.f0), (10, oB y10)], [eSIns a0], 0, []⟩) (fun y10 H => ?_) fun v12 h11 H => ?_
  ·refine cb H (fun h13 H => ?_) fun h13 H => ?_
   ·refine rn [2, 3] 0 [] [] ?_
    refine Tri.ret ?_
    obtain rfl := si H;exact eR
   refine rn [1, 5, 15] 1 [] [] ?_
   refine ci H (fun h14 H => ?_) fun h14 H => ?_
   ·refine rn [2, 3] 0 [] [] ?_
    refine Tri.ret ?_
    obtain rfl := si H;exact eR
   refine jo H (fun y16 => ⟨34, [(1, o1 (.ref 0 0)), (5, oI a0.f0), (17, oB y16)], [eSIns a0], 0, []⟩) (fun y16 H => ?_) fun v18 h17 H => ?_
   ·refine cb H (fun h19 H => ?_) fun h19 H => ?_
    ·refine rn [2, 3] 0 [] [] ?_
     refine Tri.ret ?_
     obtain rfl := si H;exact eR
    refine jo H (fun y22 => ⟨34, [(1, o1 (.ref 0 0)), (5, oI a0.f0), (20, oB y22)], [eSIns a0], 0, []⟩) (fun y22 H => ?_) fun v24 h23 H => ?_
    ·refine cb H (fun h25 H => ?_) fun h25 H => ?_
     ·refine rn [2, 3] 0 [] [] ?_
      refine Tri.ret ?_
      obtain rfl := si H;exact eR
     refine rn [1, 5, 24] 1 [] [] ?_
     refine ci H (fun h26 H => ?_) fun h26 H => ?_
     ·refine dn hmix 5 [[], [0], [], [2], [0, 1], [0, 1, 2, 3, 4]] [2, 3] 0 [] [] ?_
      refine Tri.ret ?_
      obtain rfl := si H;exact eR
     refine rn [1, 30] 1 [] [] ?_
     refine ci H (fun h27 H => ?_) fun h27 H => ?_
     ·refine rn [2, 3] 0 [] [] ?_
      refine Tri.ret ?_
      obtain rfl := si H;exact eR
     refine sk ?_
     refine rn [2, 3] 0 [] [] ?_
     refine Tri.ret ?_
     obtain rfl := si H;exact eR
    refine rn [1, 5, 20] 1 [] [] ?_
    refine ci h23 (fun h20 h23 => ?_) fun h20 h23 => ?_
    ·refine sk ?_
     exact pf (decide (a0.f0 = 12)) h23
    refine rn [1, 5, 20] 1 [] [] ?_
    refine ci h23 (fun h21 h23 => ?_) fun h21 h23 => ?_
    ·refine sk ?_
     exact pf (decide (a0.f0 = 15)) h23
    refine rl [1, 5, 20] 1 [] [] ?_
    exact pf (decide (a0.f0 = 16)) h23
   refine rn [1, 5, 17] 1 [] [] ?_
   refine ci h17 (fun h15 h17 => ?_) fun h15 h17 => ?_
   ·refine sk ?_
    exact pf (decide (a0.f0 = 6)) h17
   refine rl [1, 5, 17] 1 [] [] ?_
   exact pf (decide (a0.f0 = 7)) h17
  refine rn [1, 5, 10] 1 [] [] ?_
  refine ci h11 (fun h7 h11 => ?_) fun h7 h11 => ?_
  ·refine sk ?_
   exact pf (decide (a0.f0 = 4)) h11
  refine rn [1, 5, 10] 1 [] [] ?_
  refine ci h11 (fun h8 h11 => ?_) fun h8 h11 => ?_
  ·refine sk ?_
   exact pf (decide (a0.f0 = 8)) h11
  refine rn [1, 5, 10] 1 [] [] ?_
  refine ci h11 (fun h9 h11 => ?_) fun h9 h11 => ?_
  ·refine sk ?_
   exact pf (decide (a0.f0 = 9)) h11
  refine rl [1, 5, 10] 1 [] [] ?_
  exact pf (decide (a0.f0 = 10)) h11
 refine rn [1, 5, 6] 1 [] [] ?_
 refine ci h4 (fun h1 h4 => ?_) fun h1 h4 => ?_
 ·refine sk ?_
  exact pf (decide (a0.f0 = 1)) h4
 refine rn [1, 5, 6] 1 [] [] ?_
 refine ci h4 (fun h2 h4 => ?_) fun h2 h4 => ?_
 ·refine sk ?_
  exact pf (decide (a0.f0 = 2)) h4
 refine rl [1, 5, 6] 1 [] [] ?_
 exact pf (decide (a0.f0 = 3)) h4
/-! spec_l04Verify: function 43 -/
def spec_l04Verify.e1 (k : Nat) (a0 : SCode) : Option Bool := if (a0.f4.length : Int) = 0 then (some true) else (if (2000 : Int) < (a0.f4.length : Int) then (some true) else ((spec_l01In.f k a0.f1 0 20).bind fun r3 => if r3 = true then ((spec_l01In.f k a0.f2 a0.f1 2000).bind fun r6 => if r6 = true then ((spec_l01In.f k a0.f3 0 1).bind fun r9 => if r9 = true then (if a0.f0 = (⟨#[]⟩ : ByteArray) then (if a0.f2 = 0 then (some (!(decide (a0.f3 = 0)))) else (some true)) else ((spec_l02Name.f k a0.f0).bind fun r14 => if r14 = true then (some false) else (some true))) else (some true)) else (some true)) else (some true)))
def spec_l04Verify.l2 : Nat → SCode → Int → Option ((Int × Int) ⊕ Unit)
  | 0, _, _ => none
  | k + 1, a0, z27 => if z27 < (a0.f4.length : Int) then ((at? a0.f4 z27).bind fun x29 => (spec_l04Ins.f k x29 a0).bind fun r31 => if r31 = true then (spec_l04Verify.l2 k a0 (w64 (z27 + 1))) else (some (.inl (3, z27)))) else (some (.inr ()))
def spec_l04Verify.e3 (k : Nat) (a0 : SCode) : Option ((Int × Int) ⊕ Unit) := spec_l04Verify.l2 k a0 0
def spec_l04Verify.l4 : Nat → SCode → (List Int) → Int → Option (List Int)
  | 0, _, _, _ => none
  | k + 1, a0, z39, z40 => if z40 < (a0.f4.length : Int) then (if (z39 ++ ([-1] : List Int)).length * 8 ≤ 140737488355328 then (spec_l04Verify.l4 k a0 (z39 ++ ([-1] : List Int)) (w64 (z40 + 1))) else none) else (some z39)
def spec_l04Verify.e5 (k : Nat) (a0 : SCode) : Option (List Int) := spec_l04Verify.l4 k a0 ([] : List Int) 0
def spec_l04Verify.e6 (k : Nat) (x265 : SIns) : Option Bool := if x265.f0 = 11 then (some true) else (some (decide (x265.f0 = 12)))
def spec_l04Verify.e7 (k : Nat) (x265 : SIns) : Option (List Int) := (spec_l04Verify.e6 k x265).bind fun y272 => if y272 = true then (if (([] : List Int) ++ ([x265.f1] : List Int)).length * 8 ≤ 140737488355328 then (some (([] : List Int) ++ ([x265.f1] : List Int))) else none) else (some ([] : List Int))
def spec_l04Verify.e8 (k : Nat) (x265 : SIns) : Option Bool := if x265.f0 = 11 then (some false) else (if x265.f0 = 14 then (some false) else (some (!(decide (x265.f0 = 17)))))
def spec_l04Verify.e9 (k : Nat) (z260 : Int) (x265 : SIns) (y277 : (List Int)) : Option (List Int) := (spec_l04Verify.e8 k x265).bind fun y282 => if y282 = true then (if (y277 ++ ([w64 (z260 + 1)] : List Int)).length * 8 ≤ 140737488355328 then (some (y277 ++ ([w64 (z260 + 1)] : List Int))) else none) else (some y277)
def spec_l04Verify.e10 (k : Nat) (x262 : Int) (x265 : SIns) (r267 : (Int × Int)) : Option Bool := if x265.f0 = 14 then (some (!(decide ((w64 ((w64 (x262 - r267.1)) + r267.2)) = 0)))) else (some false)
def spec_l04Verify.e11 (k : Nat) (a0 : SCode) (z260 : Int) (x262 : Int) (r267 : (Int × Int)) (y287 : (List Int)) (z307 : (List Int)) (z308 : Bool) (z309 : Int) : Option ((Int × Int) ⊕ ((List Int) × Bool)) := (at? y287 z309).bind fun x311 => if x311 = (a0.f4.length : Int) then (some (.inl (10, z260))) else ((at? z307 x311).bind fun x314 => if x314 < 0 then (some (.inr (z307.set (Int.toNat x311) (w64 ((w64 (x262 - r267.1)) + r267.2)), true))) else (if x314 = (w64 ((w64 (x262 - r267.1)) + r267.2)) then (some (.inr (z307, z308))) else (some (.inl (8, z260)))))
def spec_l04Verify.l12 : Nat → SCode → Int → Int → (Int × Int) → (List Int) → (List Int) → Bool → Int → Option ((Int × Int) ⊕ ((List Int) × Bool))
  | 0, _, _, _, _, _, _, _, _ => none
  | k + 1, a0, z260, x262, r267, y287, z307, z308, z309 => if z309 < (y287.length : Int) then ((spec_l04Verify.e11 k a0 z260 x262 r267 y287 z307 z308 z309).bind fun v => match v with | .inl r => some (.inl r) | .inr (y318, y319) => spec_l04Verify.l12 k a0 z260 x262 r267 y287 y318 y319 (w64 (z309 + 1))) else (some (.inr (z307, z308)))
def spec_l04Verify.e13 (k : Nat) (a0 : SCode) (z258 : (List Int)) (z259 : Bool) (z260 : Int) : Option ((Int × Int) ⊕ ((List Int) × Bool)) := (at? z258 z260).bind fun x262 => if x262 < 0 then (some (.inr (z258, z259))) else ((at? a0.f4 z260).bind fun x265 => (spec_l04Effect.f k x265).bind fun r267 => if x262 < r267.1 then (some (.inl (11, z260))) else (if (60 : Int) < (w64 ((w64 (x262 - r267.1)) + r267.2)) then (some (.inl (14, z260))) else ((spec_l04Verify.e7 k x265).bind fun y277 => (spec_l04Verify.e9 k z260 x265 y277).bind fun y287 => (spec_l04Verify.e10 k x262 x265 r267).bind fun y291 => if y291 = true then (some (.inl (8, z260))) else (spec_l04Verify.l12 k a0 z260 x262 r267 y287 z258 z259 0))))
def spec_l04Verify.l14 : Nat → SCode → (List Int) → Bool → Int → Option ((Int × Int) ⊕ ((List Int) × Bool))
  | 0, _, _, _, _ => none
  | k + 1, a0, z258, z259, z260 => if z260 < (a0.f4.length : Int) then ((spec_l04Verify.e13 k a0 z258 z259 z260).bind fun v => match v with | .inl r => some (.inl r) | .inr (y323, y324) => spec_l04Verify.l14 k a0 y323 y324 (w64 (z260 + 1))) else (some (.inr (z258, z259)))
def spec_l04Verify.e15 (k : Nat) (a0 : SCode) (z189 : (List Int)) : Option ((Int × Int) ⊕ ((List Int) × Bool)) := spec_l04Verify.l14 k a0 z189 false 0
def spec_l04Verify.l16 : Nat → SCode → (List Int) → Bool → Option ((Int × Int) ⊕ Unit)
  | 0, _, _, _ => none
  | k + 1, a0, z189, z190 => if z190 = true then ((spec_l04Verify.e15 k a0 z189).bind fun v => match v with | .inl r => some (.inl r) | .inr (y328, y329) => spec_l04Verify.l16 k a0 y328 y329) else (some (.inr ()))
def spec_l04Verify.e17 (k : Nat) (a0 : SCode) (y44 : (List Int)) : Option ((Int × Int) ⊕ Unit) := spec_l04Verify.l16 k a0 (y44.set (Int.toNat 0) 0) true
def spec_l04Verify.f (k : Nat) (a0 : SCode) : Option (Int × Int) := (spec_l04Verify.e1 k a0).bind fun y17 => if y17 = true then (some (1, 0)) else ((spec_l04Verify.e3 k a0).bind fun v => match v with | .inl r => some r | .inr _ => (spec_l04Verify.e5 k a0).bind fun y44 => (at? y44 0).bind fun x47 => (spec_l04Verify.e17 k a0 y44).bind fun v => match v with | .inl r => some r | .inr _ => some (0, 0))
theorem spec_l04Verify.fn {k : Nat} {a0 : SCode} {r : (Int × Int)} (H : spec_l04Verify.f k a0 = some r) : Fn Tryz.prog 43 [ag (eSCode a0)] [] (tp [none, none] [cI r.1, cI r.2]) [] := by
 refine Fn.bd [2, 3] Tryz.func43 ?_
 refine rn [1] 1 [] [] ?_
 refine sq ?_
 refine jo H (fun y17 => ⟨224, [(1, o1 (.ref 0 0)), (70, oB y17)], [eSCode a0], 0, []⟩) (fun y17 H => ?_) fun v19 h18 H => ?_
 ·refine cb H (fun h20 H => ?_) fun h20 H => ?_
  ·refine rn [2, 3] 0 [] [] ?_
   refine Tri.ret ?_
   obtain rfl := si H;exact eR
  refine sk ?_
  refine jr H (fun _ => ⟨224, [(1, o1 (.ref 0 0))], [eSCode a0], 0, []⟩) (fun _ H => ?_) fun v36 h35 H => ?_
  ·refine rn [1, 5] 1 [] [] ?_
   refine jo H (fun y44 => ⟨224, [(1, o1 (.ref 0 0)), (5, o1 (.own 3 (List.map eI y44)))], [eSCode a0], 0, []⟩) (fun y44 H => ?_) fun v46 h45 H => ?_
   ·obtain ⟨x47, h48, H⟩ := bs H
    refine rn [1, 5] 1 [] [hE 1 eI h48, hW 2 (.t 5 0) 3 eI h48 0] ?_
    refine jr H (fun _ => ⟨224, [], [], 0, []⟩) (fun _ H => ?_) fun v334 h333 H => ?_
    ·refine rn [2, 3] 0 [] [] ?_
     refine Tri.ret ?_
     obtain rfl := si H;exact eR
    refine rn [1, 5, 7] 1 [] [] ?_
    refine bl ?_
    refine lo ((List Int) × Bool) k (fun k x => spec_l04Verify.l16 k a0 x.1 x.2) (fun x => ⟨224, [(1, o1 (.ref 0 0)), (5, o1 (.own 3 (List.map eI x.1))), (7, oB x.2)], [eSCode a0], 0, []⟩) (y44.set (Int.toNat 0) 0, true) h333 fun k x h333 IH332 => ?_
    obtain ⟨z189, z190⟩ := x
    rw [spec_l04Verify.l16.eq_2] at h333
    refine sq ?_
    refine rn [1, 5, 100] 1 [] [] ?_
    refine cb h333 (fun h191 h333 => ?_) fun h191 h333 => ?_
    ·refine sk ?_
     refine bl ?_
     refine rn [1, 5, 7] 1 [] [] ?_
     refine rn [1, 5, 7, 8] 1 [] [] ?_
     refine jrT h333 (fun w => ⟨224, [(1, o1 (.ref 0 0)), (5, o1 (.own 3 (List.map eI w.1))), (7, oB w.2)], [eSCode a0], 0, []⟩) (fun w h333 => ?_) fun v331 h330 h333 => ?_
     ·obtain ⟨y328, y329⟩ := w
      exact lb IH332 (y328, y329) h333
     refine bl ?_
     refine lo ((List Int) × Bool × Int) k (fun k x => spec_l04Verify.l14 k a0 x.1 x.2.1 x.2.2) (fun x => ⟨224, [(1, o1 (.ref 0 0)), (5, o1 (.own 3 (List.map eI x.1))), (7, oB x.2.1), (8, oI x.2.2)], [eSCode a0], 0, []⟩) (z189, false, 0) h330 fun k x h330 IH327 => ?_
     obtain ⟨z258, z259, z260⟩ := x
     rw [spec_l04Verify.l14.eq_2] at h330
     refine sq ?_
     refine rn [1, 5, 7, 8, 105] 1 [] [hL 3 eSIns a0.f4] ?_
     refine ci h330 (fun h261 h330 => ?_) fun h261 h330 => ?_
     ·refine sk ?_
      refine jr h330 (fun w => ⟨224, [(1, o1 (.ref 0 0)), (5, o1 (.own 3 (List.map eI w.1))), (7, oB w.2), (8, oI z260)], [eSCode a0], 0, []⟩) (fun w h330 => ?_) fun v326 h325 h330 => ?_
      ·obtain ⟨y323, y324⟩ := w
       refine rl [1, 5, 7, 8] 1 [] [] ?_
       exact lb IH327 (y323, y324, w64 (z260 + 1)) h330
      refine bl ?_
      refine sq ?_
      obtain ⟨x262, h263, h325⟩ := bs h325
      refine rn [1, 5, 7, 8, 112] 1 [] [hE 2 eI h263, hF 3 eI h263] ?_
      refine ci h325 (fun h264 h325 => ?_) fun h264 h325 => ?_
      ·refine fx [1, 5, 7, 8] 1 [] ?_
       refine xi ?_
       exact pe (z258, z259) h325
      refine sk ?_
      obtain ⟨x265, h266, h325⟩ := bs h325
      refine rn [1, 5, 7, 8, 9] 2 [] [hE 3 eSIns h266] ?_
      obtain ⟨r267, h268, h325⟩ := bs h325
      refine rn [1, 5, 7, 8, 9, 10, 11] 2 [] [hC 1 (spec_l04Effect.fn h268)] ?_
      refine sq ?_
      refine rn [1, 5, 7, 8, 9, 10, 11, 128] 2 [] [hE 2 eI h263, hF 3 eI h263] ?_
      refine ci h325 (fun h269 h325 => ?_) fun h269 h325 => ?_
      ·refine rx [2, 3] 0 [] [] ⟨224, [(2, oI 11), (3, oI z260)], [], 0, []⟩ ?_
       refine Tri.ret ?_
       obtain rfl := si h325;obtain rfl := si h330;obtain rfl := si h333;obtain rfl := si H;exact eR
      refine sk ?_
      refine rx [1, 5, 7, 8, 9, 12] 2 [] [hE 2 eI h263, hF 3 eI h263] ⟨224, [(1, o1 (.ref 0 0)), (5, o1 (.own 3 (List.map eI z258))), (7, oB z259), (8, oI z260), (9, o1 (.ref 1 0)), (12, oI (w64 ((w64 (x262 - r267.1)) + r267.2)))], [eSCode a0, eSIns x265], 0, []⟩ ?_
      refine sq ?_
      refine rn [1, 5, 7, 8, 9, 12, 139] 2 [] [] ?_
      refine ci h325 (fun h270 h325 => ?_) fun h270 h325 => ?_
      ·refine rn [2, 3] 0 [] [] ?_
       refine Tri.ret ?_
       obtain rfl := si h325;obtain rfl := si h330;obtain rfl := si h333;obtain rfl := si H;exact eR
      refine sk ?_
      refine rn [1, 5, 7, 8, 9, 12, 13] 2 [] [] ?_
      refine jo h325 (fun y277 => ⟨224, [(1, o1 (.ref 0 0)), (5, o1 (.own 3 (List.map eI z258))), (7, oB z259), (8, oI z260), (9, o1 (.ref 1 0)), (12, oI (w64 ((w64 (x262 - r267.1)) + r267.2))), (13, o1 (.own 3 (List.map eI y277)))], [eSCode a0, eSIns x265], 0, []⟩) (fun y277 h325 => ?_) fun v279 h278 h325 => ?_
      ·refine jo h325 (fun y287 => ⟨224, [(1, o1 (.ref 0 0)), (5, o1 (.own 3 (List.map eI z258))), (7, oB z259), (8, oI z260), (9, o1 (.ref 1 0)), (12, oI (w64 ((w64 (x262 - r267.1)) + r267.2))), (13, o1 (.own 3 (List.map eI y287)))], [eSCode a0, eSIns x265], 0, []⟩) (fun y287 h325 => ?_) fun v289 h288 h325 => ?_
       ·refine sq ?_
        refine jo h325 (fun y291 => ⟨224, [(1, o1 (.ref 0 0)), (5, o1 (.own 3 (List.map eI z258))), (7, oB z259), (8, oI z260), (12, oI (w64 ((w64 (x262 - r267.1)) + r267.2))), (13, o1 (.own 3 (List.map eI y287))), (179, oB y291)], [eSCode a0], 0, []⟩) (fun y291 h325 => ?_) fun v293 h292 h325 => ?_
        ·refine cb h325 (fun h294 h325 => ?_) fun h294 h325 => ?_
         ·refine rn [2, 3] 0 [] [] ?_
          refine Tri.ret ?_
          obtain rfl := si h325;obtain rfl := si h330;obtain rfl := si h333;obtain rfl := si H;exact eR
         refine sk ?_
         refine rn [1, 5, 7, 8, 12, 13, 14] 1 [] [] ?_
         refine bl ?_
         refine lo ((List Int) × Bool × Int) k (fun k x => spec_l04Verify.l12 k a0 z260 x262 r267 y287 x.1 x.2.1 x.2.2) (fun x => ⟨224, [(1, o1 (.ref 0 0)), (5, o1 (.own 3 (List.map eI x.1))), (7, oB x.2.1), (8, oI z260), (12, oI (w64 ((w64 (x262 - r267.1)) + r267.2))), (13, o1 (.own 3 (List.map eI y287))), (14, oI x.2.2)], [eSCode a0], 0, []⟩) (z258, z259, 0) h325 fun k x h325 IH322 => ?_
         obtain ⟨z307, z308, z309⟩ := x
         rw [spec_l04Verify.l12.eq_2] at h325
         refine sq ?_
         refine rn [1, 5, 7, 8, 12, 13, 14, 184] 1 [] [hL 2 eI y287] ?_
         refine ci h325 (fun h310 h325 => ?_) fun h310 h325 => ?_
         ·refine sk ?_
          refine jr h325 (fun w => ⟨224, [(1, o1 (.ref 0 0)), (5, o1 (.own 3 (List.map eI w.1))), (7, oB w.2), (8, oI z260), (12, oI (w64 ((w64 (x262 - r267.1)) + r267.2))), (13, o1 (.own 3 (List.map eI y287))), (14, oI z309)], [eSCode a0], 0, []⟩) (fun w h325 => ?_) fun v321 h320 h325 => ?_
          ·obtain ⟨y318, y319⟩ := w
           refine rl [1, 5, 7, 8, 12, 13, 14] 1 [] [] ?_
           exact lb IH322 (y318, y319, w64 (z309 + 1)) h325
          refine bl ?_
          refine bl ?_
          obtain ⟨x311, h312, h320⟩ := bs h320
          refine dn hmix 7 [[], [], [0, 1], [0, 1, 2], [], [4], [4, 5], [0, 1, 2, 3, 4, 5, 6], [0, 1, 2, 3, 4, 5, 6, 7]] [1, 5, 7, 8, 12, 13, 14, 187] 1 [] [hE 2 eI h312, hF 3 eI h312, hL 6 eSIns a0.f4] ?_
          refine ci h320 (fun h313 h320 => ?_) fun h313 h320 => ?_
          ·refine rn [2, 3] 0 [] [] ?_
           refine Tri.ret ?_
           obtain rfl := si h320;obtain rfl := si h325;obtain rfl := si h330;obtain rfl := si h333;obtain rfl := si H;exact eR
          obtain ⟨x314, h315, h320⟩ := bs h320
          refine rn [1, 5, 7, 8, 12, 13, 14, 197] 1 [] [hE 3 eI h312, hF 4 eI h312, hE 5 eI h315, hF 6 eI h315] ?_
          refine ci h320 (fun h316 h320 => ?_) fun h316 h320 => ?_
          ·refine rn [1, 5, 8, 12, 13, 14] 1 [] [hE 3 eI h312, hF 4 eI h312, hE 6 eI h315, hW 7 (.t 5 0) 3 eI h315 (w64 ((w64 (x262 - r267.1)) + r267.2))] ?_
           refine rl [1, 5, 7, 8, 12, 13, 14] 1 [] [] ?_
           exact pe (z307.set (Int.toNat x311) (w64 ((w64 (x262 - r267.1)) + r267.2)), true) h320
          refine rn [1, 5, 7, 8, 12, 13, 14, 213] 1 [] [hE 3 eI h312, hF 4 eI h312, hE 5 eI h315, hF 6 eI h315] ?_
          refine cn h320 (fun h317 h320 => ?_) fun h317 h320 => ?_
          ·refine fx [1, 5, 7, 8, 12, 13, 14] 1 [] ?_
           refine sk ?_
           exact pe (z307, z308) h320
          refine rn [2, 3] 0 [] [] ?_
          refine Tri.ret ?_
          obtain rfl := si h320;obtain rfl := si h325;obtain rfl := si h330;obtain rfl := si h333;obtain rfl := si H;exact eR
         refine fx [1, 5, 7, 8] 1 [] ?_
         refine xi ?_
         exact pe (z307, z308) h325
        rcases ite_some h292 with ⟨h290, h292⟩ | ⟨h290, h292⟩
        ·refine rl [1, 5, 7, 8, 12, 13, 179] 1 [] [hB 2 (decide_eq_true h290)] ?_
         exact pf (!(decide ((w64 ((w64 (x262 - r267.1)) + r267.2)) = 0))) h292
        refine rl [1, 5, 7, 8, 12, 13, 179] 1 [] [hB 2 (decide_eq_false h290)] ?_
        exact pf false h292
       refine jo h288 (fun y282 => ⟨224, [(1, o1 (.ref 0 0)), (5, o1 (.own 3 (List.map eI z258))), (7, oB z259), (8, oI z260), (9, o1 (.ref 1 0)), (12, oI (w64 ((w64 (x262 - r267.1)) + r267.2))), (13, o1 (.own 3 (List.map eI y277))), (167, oB y282)], [eSCode a0, eSIns x265], 0, []⟩) (fun y282 h288 => ?_) fun v284 h283 h288 => ?_
       ·refine cb h288 (fun h285 h288 => ?_) fun h285 h288 => ?_
        ·obtain ⟨h286, h288⟩ := nd h288
         refine rl [1, 5, 7, 8, 9, 12, 13] 2 [] [hA 4 3 eI h286] ?_
         exact pf (y277 ++ ([w64 (z260 + 1)] : List Int)) h288
        refine fx [1, 5, 7, 8, 9, 12, 13] 2 [] ?_
        refine sk ?_
        exact pf y277 h288
       rcases ite_some h283 with ⟨h280, h283⟩ | ⟨h280, h283⟩
       ·refine rl [1, 5, 7, 8, 9, 12, 13, 167] 2 [] [hB 2 (nF (decide_eq_true h280))] ?_
        exact pf false h283
       rcases ite_some h283 with ⟨h281, h283⟩ | ⟨h281, h283⟩
       ·refine rl [1, 5, 7, 8, 9, 12, 13, 167] 2 [] [hB 2 (nT (decide_eq_false h280)), hB 6 (nF (decide_eq_true h281))] ?_
        exact pf false h283
       refine rl [1, 5, 7, 8, 9, 12, 13, 167] 2 [] [hB 2 (nT (decide_eq_false h280)), hB 6 (nT (decide_eq_false h281))] ?_
       exact pf (!(decide (x265.f0 = 17))) h283
      refine jo h278 (fun y272 => ⟨224, [(1, o1 (.ref 0 0)), (5, o1 (.own 3 (List.map eI z258))), (7, oB z259), (8, oI z260), (9, o1 (.ref 1 0)), (12, oI (w64 ((w64 (x262 - r267.1)) + r267.2))), (13, o1 (.own 3 (List.map eI ([] : List Int)))), (149, oB y272)], [eSCode a0, eSIns x265], 0, []⟩) (fun y272 h278 => ?_) fun v274 h273 h278 => ?_
      ·refine cb h278 (fun h275 h278 => ?_) fun h275 h278 => ?_
       ·obtain ⟨h276, h278⟩ := nd h278
        refine rl [1, 5, 7, 8, 9, 12, 13] 2 [] [hA 4 3 eI h276] ?_
        exact pf (([] : List Int) ++ ([x265.f1] : List Int)) h278
       refine fx [1, 5, 7, 8, 9, 12, 13] 2 [] ?_
       refine sk ?_
       exact pf ([] : List Int) h278
      rcases ite_some h273 with ⟨h271, h273⟩ | ⟨h271, h273⟩
      ·refine rl [1, 5, 7, 8, 9, 12, 13, 149] 2 [] [hB 2 (decide_eq_true h271)] ?_
       exact pf true h273
      refine rl [1, 5, 7, 8, 9, 12, 13, 149] 2 [] [hB 2 (decide_eq_false h271)] ?_
      exact pf (decide (x265.f0 = 12)) h273
     refine fx [1, 5, 7] 1 [] ?_
     refine xi ?_
     exact pe (z258, z259) h330
    refine fx [] 0 [] ?_
    refine xi ?_
    exact pe () h333
   refine rn [1, 5, 6] 1 [] [] ?_
   refine bl ?_
   refine lo ((List Int) × Int) k (fun k x => spec_l04Verify.l4 k a0 x.1 x.2) (fun x => ⟨224, [(1, o1 (.ref 0 0)), (5, o1 (.own 3 (List.map eI x.1))), (6, oI x.2)], [eSCode a0], 0, []⟩) (([] : List Int), 0) h45 fun k x h45 IH43 => ?_
   obtain ⟨z39, z40⟩ := x
   rw [spec_l04Verify.l4.eq_2] at h45
   refine sq ?_
   refine rn [1, 5, 6, 92] 1 [] [hL 3 eSIns a0.f4] ?_
   refine ci h45 (fun h41 h45 => ?_) fun h41 h45 => ?_
   ·refine sk ?_
    refine sq ?_
    refine bl ?_
    obtain ⟨h42, h45⟩ := nd h45
    refine rl [1, 5, 6] 1 [] [hA 2 3 eI h42] ?_
    refine rl [1, 5, 6] 1 [] [] ?_
    exact lb IH43 (z39 ++ ([-1] : List Int), w64 (z40 + 1)) h45
   refine fx [1, 5] 1 [] ?_
   refine xi ?_
   exact pf z39 h45
  refine rn [1, 4] 1 [] [] ?_
  refine bl ?_
  refine lo Int k (fun k x => spec_l04Verify.l2 k a0 x) (fun x => ⟨224, [(1, o1 (.ref 0 0)), (4, oI x)], [eSCode a0], 0, []⟩) 0 h35 fun k z27 h35 IH34 => ?_
  rw [spec_l04Verify.l2.eq_2] at h35
  refine sq ?_
  refine rn [1, 4, 75] 1 [] [hL 3 eSIns a0.f4] ?_
  refine ci h35 (fun h28 h35 => ?_) fun h28 h35 => ?_
  ·refine sk ?_
   refine sq ?_
   refine bl ?_
   obtain ⟨x29, h30, h35⟩ := bs h35
   obtain ⟨r31, h32, h35⟩ := bs h35
   refine dn hmix 6 [[], [0], [], [0, 1, 2], [0, 1, 2, 3], [], [0, 1, 2, 3, 4, 5], [0, 1, 2, 3, 4, 5, 6]] [1, 4, 85] 1 [] [hE 3 eSIns h30, hC 6 (spec_l04Ins.fn h32)] ?_
   refine cm h35 (fun h33 h35 => ?_) fun h33 h35 => ?_
   ·refine sk ?_
    refine rl [1, 4] 1 [] [] ?_
    exact lb IH34 (w64 (z27 + 1)) h35
   refine rn [2, 3] 0 [] [] ?_
   refine Tri.ret ?_
   obtain rfl := si h35;obtain rfl := si H;exact eR
  refine fx [1] 1 [] ?_
  refine xi ?_
  exact pe () h35
 rcases ite_some h18 with ⟨h1, h18⟩ | ⟨h1, h18⟩
 ·refine rl [1, 70] 1 [] [hL 2 eSIns a0.f4, hB 3 (decide_eq_true h1)] ?_
  exact pf true h18
 rcases ite_some h18 with ⟨h2, h18⟩ | ⟨h2, h18⟩
 ·refine rl [1, 70] 1 [] [hL 2 eSIns a0.f4, hB 3 (decide_eq_false h1), hL 7 eSIns a0.f4, hB 8 (decide_eq_true h2)] ?_
  exact pf true h18
 obtain ⟨r3, h4, h18⟩ := bs h18
 rcases iteb_some h18 with ⟨h5, h18⟩ | ⟨h5, h18⟩
 ·obtain ⟨r6, h7, h18⟩ := bs h18
  rcases iteb_some h18 with ⟨h8, h18⟩ | ⟨h8, h18⟩
  ·obtain ⟨r9, h10, h18⟩ := bs h18
   rcases iteb_some h18 with ⟨h11, h18⟩ | ⟨h11, h18⟩
   ·rcases ite_some h18 with ⟨h12, h18⟩ | ⟨h12, h18⟩
    ·rcases ite_some h18 with ⟨h13, h18⟩ | ⟨h13, h18⟩
     ·refine rl [1, 70] 1 [] [hL 2 eSIns a0.f4, hB 3 (decide_eq_false h1), hL 7 eSIns a0.f4, hB 8 (decide_eq_false h2), hC 13 (spec_l01In.fn h4), hB 13 h5, hC 21 (spec_l01In.fn h7), hB 21 h8, hC 27 (spec_l01In.fn h10), hB 27 h11, hB 33 (nF (decide_eq_true h12)), hB 44 (decide_eq_true h12), hB 48 (nF (decide_eq_true h13))] ?_
      exact pf (!(decide (a0.f3 = 0))) h18
     refine rl [1, 70] 1 [] [hL 2 eSIns a0.f4, hB 3 (decide_eq_false h1), hL 7 eSIns a0.f4, hB 8 (decide_eq_false h2), hC 13 (spec_l01In.fn h4), hB 13 h5, hC 21 (spec_l01In.fn h7), hB 21 h8, hC 27 (spec_l01In.fn h10), hB 27 h11, hB 33 (nF (decide_eq_true h12)), hB 44 (decide_eq_true h12), hB 48 (nT (decide_eq_false h13))] ?_
     exact pf true h18
    obtain ⟨r14, h15, h18⟩ := bs h18
    rcases iteb_some h18 with ⟨h16, h18⟩ | ⟨h16, h18⟩
    ·refine rl [1, 70] 1 [] [hL 2 eSIns a0.f4, hB 3 (decide_eq_false h1), hL 7 eSIns a0.f4, hB 8 (decide_eq_false h2), hC 13 (spec_l01In.fn h4), hB 13 h5, hC 21 (spec_l01In.fn h7), hB 21 h8, hC 27 (spec_l01In.fn h10), hB 27 h11, hB 33 (nT (decide_eq_false h12)), hC 37 (spec_l02Name.fn h15), hB 37 h16, hB 44 (decide_eq_false h12)] ?_
     exact pf false h18
    refine rl [1, 70] 1 [] [hL 2 eSIns a0.f4, hB 3 (decide_eq_false h1), hL 7 eSIns a0.f4, hB 8 (decide_eq_false h2), hC 13 (spec_l01In.fn h4), hB 13 h5, hC 21 (spec_l01In.fn h7), hB 21 h8, hC 27 (spec_l01In.fn h10), hB 27 h11, hB 33 (nT (decide_eq_false h12)), hC 37 (spec_l02Name.fn h15), hB 37 h16] ?_
    exact pf true h18
   refine rl [1, 70] 1 [] [hL 2 eSIns a0.f4, hB 3 (decide_eq_false h1), hL 7 eSIns a0.f4, hB 8 (decide_eq_false h2), hC 13 (spec_l01In.fn h4), hB 13 h5, hC 21 (spec_l01In.fn h7), hB 21 h8, hC 27 (spec_l01In.fn h10), hB 27 h11] ?_
   exact pf true h18
  refine rl [1, 70] 1 [] [hL 2 eSIns a0.f4, hB 3 (decide_eq_false h1), hL 7 eSIns a0.f4, hB 8 (decide_eq_false h2), hC 13 (spec_l01In.fn h4), hB 13 h5, hC 21 (spec_l01In.fn h7), hB 21 h8] ?_
  exact pf true h18
 refine rl [1, 70] 1 [] [hL 2 eSIns a0.f4, hB 3 (decide_eq_false h1), hL 7 eSIns a0.f4, hB 8 (decide_eq_false h2), hC 13 (spec_l01In.fn h4), hB 13 h5] ?_
 exact pf true h18
/-! spec_ObjectOK: function 27 -/
def spec_ObjectOK.e1 (k : Nat) (a0 : SObj) : Option Bool := (spec_l02Name.f k a0.f0).bind fun r1 => if r1 = true then ((spec_l01In.f k a0.f1 0 4294967295).bind fun r4 => if r4 = true then (if (20 : Int) < (a0.f2.length : Int) then (some true) else (if (100 : Int) < (a0.f3.length : Int) then (some true) else (if (a0.f4.length : Int) = 0 then (some true) else (some (decide ((60 : Int) < (a0.f4.length : Int))))))) else (some true)) else (some true)
def spec_ObjectOK.e2 (k : Nat) (a0 : SObj) (z26 : Int) : Option Bool := (at? a0.f2 z26).bind fun x28 => (spec_l02Name.f k x28.f0).bind fun r30 => if r30 = true then ((spec_l01In.f k x28.f1 0 4294967295).bind fun r33 => some (!r33)) else (some true)
def spec_ObjectOK.l3 : Nat → SObj → Int → Option (Bool ⊕ Unit)
  | 0, _, _ => none
  | k + 1, a0, z26 => if z26 < (a0.f2.length : Int) then ((spec_ObjectOK.e2 k a0 z26).bind fun y35 => if y35 = true then (some (.inl false)) else (spec_ObjectOK.l3 k a0 (w64 (z26 + 1)))) else (some (.inr ()))
def spec_ObjectOK.e4 (k : Nat) (a0 : SObj) : Option (Bool ⊕ Unit) := spec_ObjectOK.l3 k a0 0
def spec_ObjectOK.e5 (k : Nat) (z58 : (List ByteArray)) (x61 : SNeed) : Option Bool := (spec_l02Name.f k x61.f0).bind fun r63 => if r63 = true then ((spec_l01In.f k x61.f1 0 100).bind fun r66 => if r66 = true then ((spec_l01Place.f k z58 x61.f0).bind fun r69 => some (decide ((0 : Int) ≤ r69))) else (some true)) else (some true)
def spec_ObjectOK.l6 : Nat → SObj → (List ByteArray) → Int → Option (Bool ⊕ (List ByteArray))
  | 0, _, _, _ => none
  | k + 1, a0, z58, z59 => if z59 < (a0.f3.length : Int) then ((at? a0.f3 z59).bind fun x61 => (spec_ObjectOK.e5 k z58 x61).bind fun y71 => if y71 = true then (some (.inl false)) else (if (z58 ++ ([x61.f0] : List ByteArray)).length * 16 ≤ 140737488355328 then (spec_ObjectOK.l6 k a0 (z58 ++ ([x61.f0] : List ByteArray)) (w64 (z59 + 1))) else none)) else (some (.inr z58))
def spec_ObjectOK.e7 (k : Nat) (a0 : SObj) : Option (Bool ⊕ (List ByteArray)) := spec_ObjectOK.l6 k a0 ([] : List ByteArray) 0
def spec_ObjectOK.e8 (k : Nat) (a0 : SObj) (z98 : (List ByteArray)) (z99 : Int) (x101 : SCode) (r103 : (Int × Int)) : Option Bool := if r103.1 = 0 then (if x101.f0 = (⟨#[]⟩ : ByteArray) then (if z99 = (w64 ((a0.f4.length : Int) - 1)) then ((spec_l01Place.f k z98 x101.f0).bind fun r108 => some (decide ((0 : Int) ≤ r108))) else (some true)) else (if z99 = (w64 ((a0.f4.length : Int) - 1)) then (some true) else ((spec_l01Place.f k z98 x101.f0).bind fun r111 => some (decide ((0 : Int) ≤ r111))))) else (some true)
def spec_ObjectOK.l9 : Nat → SObj → (List ByteArray) → Int → Option (Bool ⊕ Unit)
  | 0, _, _, _ => none
  | k + 1, a0, z98, z99 => if z99 < (a0.f4.length : Int) then ((at? a0.f4 z99).bind fun x101 => (spec_l04Verify.f k x101).bind fun r103 => (spec_ObjectOK.e8 k a0 z98 z99 x101 r103).bind fun y113 => if y113 = true then (some (.inl false)) else (if (z98 ++ ([x101.f0] : List ByteArray)).length * 16 ≤ 140737488355328 then (spec_ObjectOK.l9 k a0 (z98 ++ ([x101.f0] : List ByteArray)) (w64 (z99 + 1))) else none)) else (some (.inr ()))
def spec_ObjectOK.e10 (k : Nat) (a0 : SObj) (y77 : (List ByteArray)) : Option (Bool ⊕ Unit) := spec_ObjectOK.l9 k a0 y77 0
def spec_ObjectOK.f (k : Nat) (a0 : SObj) : Option Bool := (spec_ObjectOK.e1 k a0).bind fun y10 => if y10 = true then (some false) else ((spec_ObjectOK.e4 k a0).bind fun v => match v with | .inl r => some r | .inr _ => (spec_ObjectOK.e7 k a0).bind fun v => match v with | .inl r => some r | .inr y77 => (spec_ObjectOK.e10 k a0 y77).bind fun v => match v with | .inl r => some r | .inr _ => some true)
theorem spec_ObjectOK.fn {k : Nat} {a0 : SObj} {r : Bool} (H : spec_ObjectOK.f k a0 = some r) : Fn Tryz.prog 27 [ag (eSObj a0)] [] (oB r) [] := by
 refine Fn.bd [2] Tryz.func27 ?_
 refine rn [1] 1 [] [] ?_
 refine sq ?_
 refine jo H (fun y10 => ⟨148, [(1, o1 (.ref 0 0)), (44, oB y10)], [eSObj a0], 0, []⟩) (fun y10 H => ?_) fun v12 h11 H => ?_
 ·refine cb H (fun h13 H => ?_) fun h13 H => ?_
  ·refine rn [2] 0 [] [] ?_
   refine Tri.ret ?_
   obtain rfl := si H;exact eR
  refine sk ?_
  refine jr H (fun _ => ⟨148, [(1, o1 (.ref 0 0))], [eSObj a0], 0, []⟩) (fun _ H => ?_) fun v41 h40 H => ?_
  ·refine rn [1, 4] 1 [] [] ?_
   refine jr H (fun y77 => ⟨148, [(1, o1 (.ref 0 0)), (4, o1 (.own 9 (List.map eS y77)))], [eSObj a0], 0, []⟩) (fun y77 H => ?_) fun v79 h78 H => ?_
   ·refine jr H (fun _ => ⟨148, [], [], 0, []⟩) (fun _ H => ?_) fun v120 h119 H => ?_
    ·refine rn [2] 0 [] [] ?_
     refine Tri.ret ?_
     obtain rfl := si H;exact eR
    refine rn [1, 4, 7] 1 [] [] ?_
    refine bl ?_
    refine lo ((List ByteArray) × Int) k (fun k x => spec_ObjectOK.l9 k a0 x.1 x.2) (fun x => ⟨148, [(1, o1 (.ref 0 0)), (4, o1 (.own 9 (List.map eS x.1))), (7, oI x.2)], [eSObj a0], 0, []⟩) (y77, 0) h119 fun k x h119 IH118 => ?_
    obtain ⟨z98, z99⟩ := x
    rw [spec_ObjectOK.l9.eq_2] at h119
    refine sq ?_
    refine rn [1, 4, 7, 109] 1 [] [hL 3 eSCode a0.f4] ?_
    refine ci h119 (fun h100 h119 => ?_) fun h100 h119 => ?_
    ·refine sk ?_
     refine sq ?_
     refine bl ?_
     obtain ⟨x101, h102, h119⟩ := bs h119
     refine rn [1, 4, 7, 8] 2 [] [hE 3 eSCode h102] ?_
     refine sq ?_
     obtain ⟨r103, h104, h119⟩ := bs h119
     refine rn [1, 4, 7, 8, 9] 2 [] [hC 1 (spec_l04Verify.fn h104)] ?_
     refine jo h119 (fun y113 => ⟨148, [(1, o1 (.ref 0 0)), (4, o1 (.own 9 (List.map eS z98))), (7, oI z99), (8, o1 (.ref 1 0)), (142, oB y113)], [eSObj a0, eSCode x101], 0, []⟩) (fun y113 h119 => ?_) fun v115 h114 h119 => ?_
     ·refine cb h119 (fun h116 h119 => ?_) fun h116 h119 => ?_
      ·refine rn [2] 0 [] [] ?_
       refine Tri.ret ?_
       obtain rfl := si h119;obtain rfl := si H;exact eR
      refine sk ?_
      obtain ⟨h117, h119⟩ := nd h119
      refine rl [1, 4, 7] 1 [] [hA 4 9 eS h117] ?_
      refine rl [1, 4, 7] 1 [] [] ?_
      exact lb IH118 (z98 ++ ([x101.f0] : List ByteArray), w64 (z99 + 1)) h119
     rcases ite_some h114 with ⟨h105, h114⟩ | ⟨h105, h114⟩
     ·rcases ite_some h114 with ⟨h106, h114⟩ | ⟨h106, h114⟩
      ·rcases ite_some h114 with ⟨h107, h114⟩ | ⟨h107, h114⟩
       ·obtain ⟨r108, h109, h114⟩ := bs h114
        refine rl [1, 4, 7, 8, 142] 2 [] [hB 1 (nF (decide_eq_true h105)), hB 5 (decide_eq_true h106), hL 9 eSCode a0.f4, hB 11 (decide_eq_true h107), hC 18 (spec_l01Place.fn h109)] ?_
        exact pf (decide ((0 : Int) ≤ r108)) h114
       refine rl [1, 4, 7, 8, 142] 2 [] [hB 1 (nF (decide_eq_true h105)), hB 5 (decide_eq_true h106), hL 9 eSCode a0.f4, hB 11 (decide_eq_false h107)] ?_
       exact pf true h114
      rcases ite_some h114 with ⟨h110, h114⟩ | ⟨h110, h114⟩
      ·refine rl [1, 4, 7, 8, 142] 2 [] [hB 1 (nF (decide_eq_true h105)), hB 5 (decide_eq_false h106), hL 9 eSCode a0.f4, hB 11 (decide_eq_true h110)] ?_
       exact pf true h114
      obtain ⟨r111, h112, h114⟩ := bs h114
      refine rl [1, 4, 7, 8, 142] 2 [] [hB 1 (nF (decide_eq_true h105)), hB 5 (decide_eq_false h106), hL 9 eSCode a0.f4, hB 11 (decide_eq_false h110), hC 18 (spec_l01Place.fn h112)] ?_
      exact pf (decide ((0 : Int) ≤ r111)) h114
     refine rl [1, 4, 7, 8, 142] 2 [] [hB 1 (nT (decide_eq_false h105))] ?_
     exact pf true h114
    refine fx [] 0 [] ?_
    refine xi ?_
    exact pe () h119
   refine rn [1, 4, 5] 1 [] [] ?_
   refine bl ?_
   refine lo ((List ByteArray) × Int) k (fun k x => spec_ObjectOK.l6 k a0 x.1 x.2) (fun x => ⟨148, [(1, o1 (.ref 0 0)), (4, o1 (.own 9 (List.map eS x.1))), (5, oI x.2)], [eSObj a0], 0, []⟩) (([] : List ByteArray), 0) h78 fun k x h78 IH76 => ?_
   obtain ⟨z58, z59⟩ := x
   rw [spec_ObjectOK.l6.eq_2] at h78
   refine sq ?_
   refine rn [1, 4, 5, 75] 1 [] [hL 3 eSNeed a0.f3] ?_
   refine ci h78 (fun h60 h78 => ?_) fun h60 h78 => ?_
   ·refine sk ?_
    refine sq ?_
    refine bl ?_
    obtain ⟨x61, h62, h78⟩ := bs h78
    refine rn [1, 4, 5, 6] 2 [] [hE 3 eSNeed h62] ?_
    refine sq ?_
    refine jo h78 (fun y71 => ⟨148, [(1, o1 (.ref 0 0)), (4, o1 (.own 9 (List.map eS z58))), (5, oI z59), (6, o1 (.ref 1 0)), (99, oB y71)], [eSObj a0, eSNeed x61], 0, []⟩) (fun y71 h78 => ?_) fun v73 h72 h78 => ?_
    ·refine cb h78 (fun h74 h78 => ?_) fun h74 h78 => ?_
     ·refine rn [2] 0 [] [] ?_
      refine Tri.ret ?_
      obtain rfl := si h78;obtain rfl := si H;exact eR
     refine sk ?_
     obtain ⟨h75, h78⟩ := nd h78
     refine rl [1, 4, 5] 1 [] [hA 4 9 eS h75] ?_
     refine rl [1, 4, 5] 1 [] [] ?_
     exact lb IH76 (z58 ++ ([x61.f0] : List ByteArray), w64 (z59 + 1)) h78
    obtain ⟨r63, h64, h72⟩ := bs h72
    rcases iteb_some h72 with ⟨h65, h72⟩ | ⟨h65, h72⟩
    ·obtain ⟨r66, h67, h72⟩ := bs h72
     rcases iteb_some h72 with ⟨h68, h72⟩ | ⟨h68, h72⟩
     ·obtain ⟨r69, h70, h72⟩ := bs h72
      refine rl [1, 4, 5, 6, 99] 2 [] [hC 2 (spec_l02Name.fn h64), hB 2 h65, hC 7 (spec_l01In.fn h67), hB 7 h68, hC 14 (spec_l01Place.fn h70)] ?_
      exact pf (decide ((0 : Int) ≤ r69)) h72
     refine rl [1, 4, 5, 6, 99] 2 [] [hC 2 (spec_l02Name.fn h64), hB 2 h65, hC 7 (spec_l01In.fn h67), hB 7 h68] ?_
     exact pf true h72
    refine rl [1, 4, 5, 6, 99] 2 [] [hC 2 (spec_l02Name.fn h64), hB 2 h65] ?_
    exact pf true h72
   refine fx [1, 4] 1 [] ?_
   refine xi ?_
   exact pe z58 h78
  refine rn [1, 3] 1 [] [] ?_
  refine bl ?_
  refine lo Int k (fun k x => spec_ObjectOK.l3 k a0 x) (fun x => ⟨148, [(1, o1 (.ref 0 0)), (3, oI x)], [eSObj a0], 0, []⟩) 0 h40 fun k z26 h40 IH39 => ?_
  rw [spec_ObjectOK.l3.eq_2] at h40
  refine sq ?_
  refine rn [1, 3, 49] 1 [] [hL 3 eSNeed a0.f2] ?_
  refine ci h40 (fun h27 h40 => ?_) fun h27 h40 => ?_
  ·refine sk ?_
   refine sq ?_
   refine bl ?_
   refine jo h40 (fun y35 => ⟨148, [(1, o1 (.ref 0 0)), (3, oI z26), (69, oB y35)], [eSObj a0], 0, []⟩) (fun y35 h40 => ?_) fun v37 h36 h40 => ?_
   ·refine cb h40 (fun h38 h40 => ?_) fun h38 h40 => ?_
    ·refine rn [2] 0 [] [] ?_
     refine Tri.ret ?_
     obtain rfl := si h40;obtain rfl := si H;exact eR
    refine sk ?_
    refine rl [1, 3] 1 [] [] ?_
    exact lb IH39 (w64 (z26 + 1)) h40
   obtain ⟨x28, h29, h36⟩ := bs h36
   obtain ⟨r30, h31, h36⟩ := bs h36
   rcases iteb_some h36 with ⟨h32, h36⟩ | ⟨h32, h36⟩
   ·obtain ⟨r33, h34, h36⟩ := bs h36
    refine rl [1, 3, 69] 1 [] [hE 3 eSNeed h29, hC 6 (spec_l02Name.fn h31), hB 6 h32, hE 12 eSNeed h29, hC 15 (spec_l01In.fn h34)] ?_
    exact pf (!r33) h36
   refine rl [1, 3, 69] 1 [] [hE 3 eSNeed h29, hC 6 (spec_l02Name.fn h31), hB 6 h32] ?_
   exact pf true h36
  refine fx [1] 1 [] ?_
  refine xi ?_
  exact pe () h40
 obtain ⟨r1, h2, h11⟩ := bs h11
 rcases iteb_some h11 with ⟨h3, h11⟩ | ⟨h3, h11⟩
 ·obtain ⟨r4, h5, h11⟩ := bs h11
  rcases iteb_some h11 with ⟨h6, h11⟩ | ⟨h6, h11⟩
  ·rcases ite_some h11 with ⟨h7, h11⟩ | ⟨h7, h11⟩
   ·refine rl [1, 44] 1 [] [hC 2 (spec_l02Name.fn h2), hB 2 h3, hC 7 (spec_l01In.fn h5), hB 7 h6, hL 13 eSNeed a0.f2, hB 14 (decide_eq_true h7)] ?_
    exact pf true h11
   rcases ite_some h11 with ⟨h8, h11⟩ | ⟨h8, h11⟩
   ·refine rl [1, 44] 1 [] [hC 2 (spec_l02Name.fn h2), hB 2 h3, hC 7 (spec_l01In.fn h5), hB 7 h6, hL 13 eSNeed a0.f2, hB 14 (decide_eq_false h7), hL 19 eSNeed a0.f3, hB 20 (decide_eq_true h8)] ?_
    exact pf true h11
   rcases ite_some h11 with ⟨h9, h11⟩ | ⟨h9, h11⟩
   ·refine rl [1, 44] 1 [] [hC 2 (spec_l02Name.fn h2), hB 2 h3, hC 7 (spec_l01In.fn h5), hB 7 h6, hL 13 eSNeed a0.f2, hB 14 (decide_eq_false h7), hL 19 eSNeed a0.f3, hB 20 (decide_eq_false h8), hL 25 eSCode a0.f4, hB 26 (decide_eq_true h9)] ?_
    exact pf true h11
   refine rl [1, 44] 1 [] [hC 2 (spec_l02Name.fn h2), hB 2 h3, hC 7 (spec_l01In.fn h5), hB 7 h6, hL 13 eSNeed a0.f2, hB 14 (decide_eq_false h7), hL 19 eSNeed a0.f3, hB 20 (decide_eq_false h8), hL 25 eSCode a0.f4, hB 26 (decide_eq_false h9), hL 31 eSCode a0.f4] ?_
   exact pf (decide ((60 : Int) < (a0.f4.length : Int))) h11
  refine rl [1, 44] 1 [] [hC 2 (spec_l02Name.fn h2), hB 2 h3, hC 7 (spec_l01In.fn h5), hB 7 h6] ?_
  exact pf true h11
 refine rl [1, 44] 1 [] [hC 2 (spec_l02Name.fn h2), hB 2 h3] ?_
 exact pf true h11
/-! spec_l04Read: function 12 -/
def spec_l04Read.e1 (k : Nat) (a0 : (List Int)) : Option Bool := if (a0.length : Int) < 3 then (some true) else (if (0 : Int) ≤ 3 then (if (3 : Int) ≤ (a0.length : Int) then (some (!(decide ((strOfNums (List.take (Int.toNat ((3 : Int) - 0)) (List.drop (Int.toNat 0) a0))) = (⟨#[79, 79, 49]⟩ : ByteArray))))) else none) else none)
def spec_l04Read.e2 (k : Nat) (z37 : Int) (z39 : Bool) : Option Bool := if (0 : Int) < z37 then (some (!z39)) else (some false)
def spec_l04Read.l3 : Nat → (List Int) → Int → Int → Bool → (List SNeed) → Option (Int × Bool × (List SNeed))
  | 0, _, _, _, _, _ => none
  | k + 1, a0, z37, z38, z39, z40 => (spec_l04Read.e2 k z37 z39).bind fun y42 => if y42 = true then ((spec_l03Reader__text_2.f k (⟨a0, z38, z39⟩ : S909f20)).bind fun r46 => (spec_l03Reader__eight_2.f k (⟨a0, r46.2.1, r46.2.2⟩ : S909f20)).bind fun r48 => if (z40 ++ ([(⟨r46.1, r48.1⟩ : SNeed)] : List SNeed)).length * 24 ≤ 140737488355328 then (spec_l04Read.l3 k a0 (w64 (z37 - 1)) r48.2.1 r48.2.2 (z40 ++ ([(⟨r46.1, r48.1⟩ : SNeed)] : List SNeed))) else none) else (some (z38, z39, z40))
def spec_l04Read.e4 (k : Nat) (a0 : (List Int)) (r10 : (Int × Int × Bool)) : Option (Int × Bool × (List SNeed)) := (spec_l03Reader__one_2.f k (⟨a0, r10.2.1, r10.2.2⟩ : S909f20)).bind fun r12 => spec_l04Read.l3 k a0 r12.1 r12.2.1 r12.2.2 ([] : List SNeed)
def spec_l04Read.e5 (k : Nat) (z82 : Int) (z84 : Bool) : Option Bool := if (0 : Int) < z82 then (some (!z84)) else (some false)
def spec_l04Read.l6 : Nat → (List Int) → Int → Int → Bool → (List SNeed) → Option (Int × Bool × (List SNeed))
  | 0, _, _, _, _, _ => none
  | k + 1, a0, z82, z83, z84, z85 => (spec_l04Read.e5 k z82 z84).bind fun y87 => if y87 = true then ((spec_l03Reader__text_2.f k (⟨a0, z83, z84⟩ : S909f20)).bind fun r91 => (spec_l03Reader__one_2.f k (⟨a0, r91.2.1, r91.2.2⟩ : S909f20)).bind fun r93 => if (z85 ++ ([(⟨r91.1, r93.1⟩ : SNeed)] : List SNeed)).length * 24 ≤ 140737488355328 then (spec_l04Read.l6 k a0 (w64 (z82 - 1)) r93.2.1 r93.2.2 (z85 ++ ([(⟨r91.1, r93.1⟩ : SNeed)] : List SNeed))) else none) else (some (z83, z84, z85))
def spec_l04Read.e7 (k : Nat) (a0 : (List Int)) (y52 : Int) (y53 : Bool) : Option (Int × Bool × (List SNeed)) := (spec_l03Reader__one_2.f k (⟨a0, y52, y53⟩ : S909f20)).bind fun r57 => spec_l04Read.l6 k a0 r57.1 r57.2.1 r57.2.2 ([] : List SNeed)
def spec_l04Read.e8 (k : Nat) (z351 : Int) (z353 : Bool) : Option Bool := if (0 : Int) < z351 then (some (!z353)) else (some false)
def spec_l04Read.e9 (k : Nat) (z433 : Int) (z435 : Bool) : Option Bool := if (0 : Int) < z433 then (some (!z435)) else (some false)
def spec_l04Read.e10 (k : Nat) (r442 : (Int × Int × Bool)) : Option Bool := if r442.1 = 3 then (some true) else (some (decide (r442.1 = 13)))
def spec_l04Read.e11 (k : Nat) (a0 : (List Int)) (r442 : (Int × Int × Bool)) (r444 : (Int × Int × Bool)) : Option (Int × Bool × Int × ByteArray × ByteArray) := (spec_l04Read.e10 k r442).bind fun y447 => if y447 = true then ((spec_l03Reader__one_2.f k (⟨a0, r444.2.1, r444.2.2⟩ : S909f20)).bind fun r451 => (spec_l03Reader__text_2.f k (⟨a0, r451.2.1, r451.2.2⟩ : S909f20)).bind fun r453 => (spec_l03Reader__text_2.f k (⟨a0, r453.2.1, r453.2.2⟩ : S909f20)).bind fun r455 => some (r455.2.1, r455.2.2, r451.1, r453.1, r455.1)) else (some (r444.2.1, r444.2.2, 0, (⟨#[]⟩ : ByteArray), (⟨#[]⟩ : ByteArray)))
def spec_l04Read.l12 : Nat → (List Int) → Int → Int → Bool → (List SIns) → Option (Int × Bool × (List SIns))
  | 0, _, _, _, _, _ => none
  | k + 1, a0, z433, z434, z435, z436 => (spec_l04Read.e9 k z433 z435).bind fun y438 => if y438 = true then ((spec_l03Reader__one_2.f k (⟨a0, z434, z435⟩ : S909f20)).bind fun r442 => (spec_l03Reader__eight_2.f k (⟨a0, r442.2.1, r442.2.2⟩ : S909f20)).bind fun r444 => (spec_l04Read.e11 k a0 r442 r444).bind fun v => match v with | (y457, y458, y459, y460, y461) => if (z436 ++ ([(⟨r442.1, r444.1, y459, y460, y461⟩ : SIns)] : List SIns)).length * 56 ≤ 140737488355328 then (spec_l04Read.l12 k a0 (w64 (z433 - 1)) y457 y458 (z436 ++ ([(⟨r442.1, r444.1, y459, y460, y461⟩ : SIns)] : List SIns))) else none) else (some (z434, z435, z436))
def spec_l04Read.e13 (k : Nat) (a0 : (List Int)) (r370 : (Int × Int × Bool)) (r372 : (Int × Int × Bool)) : Option (Int × Bool × (List SIns)) := spec_l04Read.l12 k a0 (w64 ((w64 (r370.1 * 256)) + r372.1)) r372.2.1 r372.2.2 ([] : List SIns)
def spec_l04Read.e14 (k : Nat) (a0 : (List Int)) (z352 : Int) (z353 : Bool) (z354 : (List SCode)) : Option (Int × Bool × (List SCode)) := (spec_l03Reader__text_2.f k (⟨a0, z352, z353⟩ : S909f20)).bind fun r360 => (spec_l03Reader__one_2.f k (⟨a0, r360.2.1, r360.2.2⟩ : S909f20)).bind fun r362 => (spec_l03Reader__one_2.f k (⟨a0, r362.2.1, r362.2.2⟩ : S909f20)).bind fun r364 => (spec_l03Reader__one_2.f k (⟨a0, r364.2.1, r364.2.2⟩ : S909f20)).bind fun r366 => (spec_l03Reader__one_2.f k (⟨a0, r366.2.1, r366.2.2⟩ : S909f20)).bind fun r368 => (spec_l03Reader__one_2.f k (⟨a0, r368.2.1, r368.2.2⟩ : S909f20)).bind fun r370 => (spec_l03Reader__one_2.f k (⟨a0, r370.2.1, r370.2.2⟩ : S909f20)).bind fun r372 => (spec_l04Read.e13 k a0 r370 r372).bind fun v => match v with | (y466, y467, y468) => if (z354 ++ ([(⟨r360.1, r362.1, w64 ((w64 (r364.1 * 256)) + r366.1), r368.1, y468⟩ : SCode)] : List SCode)).length * 64 ≤ 140737488355328 then (some (y466, y467, z354 ++ ([(⟨r360.1, r362.1, w64 ((w64 (r364.1 * 256)) + r366.1), r368.1, y468⟩ : SCode)] : List SCode))) else none
def spec_l04Read.l15 : Nat → (List Int) → Int → Int → Bool → (List SCode) → Option (Int × Bool × (List SCode))
  | 0, _, _, _, _, _ => none
  | k + 1, a0, z351, z352, z353, z354 => (spec_l04Read.e8 k z351 z353).bind fun y356 => if y356 = true then ((spec_l04Read.e14 k a0 z352 z353 z354).bind fun v => match v with | (y472, y473, y474) => spec_l04Read.l15 k a0 (w64 (z351 - 1)) y472 y473 y474) else (some (z352, z353, z354))
def spec_l04Read.e16 (k : Nat) (a0 : (List Int)) (y97 : Int) (y98 : Bool) : Option (Int × Bool × (List SCode)) := (spec_l03Reader__one_2.f k (⟨a0, y97, y98⟩ : S909f20)).bind fun r102 => spec_l04Read.l15 k a0 r102.1 r102.2.1 r102.2.2 ([] : List SCode)
def spec_l04Read.e17 (k : Nat) (a0 : (List Int)) (r8 : (ByteArray × Int × Bool)) (r10 : (Int × Int × Bool)) (y54 : (List SNeed)) (y99 : (List SNeed)) (y478 : Int) (y479 : Bool) (y480 : (List SCode)) : Option Bool := if y479 = true then (some false) else (if y478 = (a0.length : Int) then ((spec_ObjectOK.f k (⟨r8.1, r10.1, y54, y99, y480⟩ : SObj)).bind fun r485 => some r485) else (some false))
def spec_l04Read.f (k : Nat) (a0 : (List Int)) : Option (SObj × Bool × ByteArray × Int × (List SNeed) × (List SNeed) × (List SCode)) := (spec_l04Read.e1 k a0).bind fun y4 => if y4 = true then (some ((⟨(⟨#[]⟩ : ByteArray), 0, ([] : List SNeed), ([] : List SNeed), ([] : List SCode)⟩ : SObj), false, (⟨#[]⟩ : ByteArray), 0, ([] : List SNeed), ([] : List SNeed), ([] : List SCode))) else ((spec_l03Reader__text_2.f k (⟨a0, 3, false⟩ : S909f20)).bind fun r8 => (spec_l03Reader__eight_2.f k (⟨a0, r8.2.1, r8.2.2⟩ : S909f20)).bind fun r10 => (spec_l04Read.e4 k a0 r10).bind fun v => match v with | (y52, y53, y54) => (spec_l04Read.e7 k a0 y52 y53).bind fun v => match v with | (y97, y98, y99) => (spec_l04Read.e16 k a0 y97 y98).bind fun v => match v with | (y478, y479, y480) => (spec_l04Read.e17 k a0 r8 r10 y54 y99 y478 y479 y480).bind fun y487 => some ((⟨r8.1, r10.1, y54, y99, y480⟩ : SObj), y487, r8.1, r10.1, y54, y99, y480))
theorem spec_l04Read.fn {k : Nat} {a0 : (List Int)} {r : (SObj × Bool × ByteArray × Int × (List SNeed) × (List SNeed) × (List SCode))} (H : spec_l04Read.f k a0 = some r) : FnG Tryz.prog 12 [o1 (.sl 1 (List.map (eK .u8) a0))] [] [] (tp [some 5, none] [cS r.1.f0, cI r.1.f1, .sl 2 (List.map eSNeed r.1.f2), .sl 2 (List.map eSNeed r.1.f3), .sl 5 (List.map eSCode r.1.f4), cB r.2.1]) [] [[cS r.2.2.1, cI r.2.2.2.1, .sl 2 (List.map eSNeed r.2.2.2.2.1), .sl 2 (List.map eSNeed r.2.2.2.2.2.1), .sl 5 (List.map eSCode r.2.2.2.2.2.2)]] := by
 refine FnG.bodyR (rv := [(2, some 27), (3, none)]) Tryz.func12 rfl rfl (by decide) (by decide) (Nat.le_of_ble_eq_true rfl) rfl (Nat.le_of_ble_eq_true rfl) ?_
 refine rn [0, 2] 1 [] [] ?_
 refine rn [0, 2, 4] 2 [] [] ?_
 refine sq ?_
 refine jo H (fun y4 => ⟨181, [(0, o1 (.sl 1 (List.map (eK .u8) a0))), (2, o1 (.ref 0 0)), (4, o1 (.ref 1 0)), (23, oB y4)], [[cS (⟨#[]⟩ : ByteArray), cI 0, .nl, .nl, .nl], [.sl 1 (List.map (eK .u8) a0), cI 0, cB false]], 0, []⟩) (fun y4 H => ?_) fun v6 h5 H => ?_
 ·refine cb H (fun h7 H => ?_) fun h7 H => ?_
  ·refine rn [2, 3] 1 [] [] ?_
   refine fx [2, 3] 1 [.sl (.b 0 2) 2, .sl (.b 0 3) 2, .sl (.b 0 4) 5] ?_
   refine Tri.ret ?_
   obtain rfl := si H;exact endsR (.inr rfl) (by kernel_rfl)
  refine sk ?_
  refine rn [0, 2, 4] 2 [] [] ?_
  obtain ⟨r8, h9, H⟩ := bs H
  obtain ⟨r10, h11, H⟩ := bs H
  refine rn [0, 2, 4, 5] 3 [] [hG 1 [] [1] none (spec_l03Reader__text_2.fn h9), hG 3 [] [1] none (spec_l03Reader__eight_2.fn h11)] ?_
  refine jo H (fun w => ⟨181, [(0, o1 (.sl 1 (List.map (eK .u8) a0))), (2, o1 (.ref 0 0)), (4, o1 (.ref 1 0)), (5, o1 (.ref 2 0))], [[cS (⟨#[]⟩ : ByteArray), cI 0, .nl, .nl, .nl], [.sl 1 (List.map (eK .u8) a0), cI w.1, cB w.2.1], [cS r8.1, cI r10.1, .own 51 (List.map eSNeed w.2.2), .nl, .nl]], 0, []⟩) (fun w H => ?_) fun v56 h55 H => ?_
  ·obtain ⟨y52, y53, y54⟩ := w
   refine jo H (fun w => ⟨181, [(0, o1 (.sl 1 (List.map (eK .u8) a0))), (2, o1 (.ref 0 0)), (4, o1 (.ref 1 0)), (5, o1 (.ref 2 0))], [[cS (⟨#[]⟩ : ByteArray), cI 0, .nl, .nl, .nl], [.sl 1 (List.map (eK .u8) a0), cI w.1, cB w.2.1], [cS r8.1, cI r10.1, .own 51 (List.map eSNeed y54), .own 53 (List.map eSNeed w.2.2), .nl]], 0, []⟩) (fun w H => ?_) fun v101 h100 H => ?_
   ·obtain ⟨y97, y98, y99⟩ := w
    refine jo H (fun w => ⟨181, [(0, o1 (.sl 1 (List.map (eK .u8) a0))), (2, o1 (.ref 0 0)), (4, o1 (.ref 1 0)), (5, o1 (.ref 2 0))], [[cS (⟨#[]⟩ : ByteArray), cI 0, .nl, .nl, .nl], [.sl 1 (List.map (eK .u8) a0), cI w.1, cB w.2.1], [cS r8.1, cI r10.1, .own 51 (List.map eSNeed y54), .own 53 (List.map eSNeed y99), .own 56 (List.map eSCode w.2.2)]], 0, []⟩) (fun w H => ?_) fun v482 h481 H => ?_
    ·obtain ⟨y478, y479, y480⟩ := w
     refine jo H (fun y487 => ⟨181, [(2, o1 (.ref 0 0)), (3, oB y487)], [[cS r8.1, cI r10.1, .sl 2 (List.map eSNeed y54), .sl 2 (List.map eSNeed y99), .sl 5 (List.map eSCode y480)]], 0, []⟩) (fun y487 H => ?_) fun v489 h488 H => ?_
     ·refine Tri.ret ?_
      obtain rfl := si H;exact endsR (.inr rfl) (by kernel_rfl)
     refine fx [0, 2, 4, 5] 3 [.frz (.b 2 2)] ?_
     refine fx [0, 2, 4, 5] 3 [.frz (.b 2 3)] ?_
     refine fx [0, 2, 4, 5] 3 [.frz (.b 2 4)] ?_
     rcases iteb_some h488 with ⟨h483, h488⟩ | ⟨h483, h488⟩
     ·refine deL hmix [[], [], [1], [1, 2], [1, 2, 3], [1, 2, 3, 4], [1, 2, 3, 4, 5], [1, 2, 3, 4, 5, 6], [1, 2, 3, 4, 5, 6, 7], [1, 2, 3, 4, 5, 6, 7, 8], [1, 2, 3, 4, 5, 6, 7, 8, 9], [1, 2, 3, 4, 5, 6], [1, 2, 3, 4, 5, 6, 11], [1, 2, 3, 4, 5, 6, 7, 8, 9, 10, 11, 12], [1, 2, 3, 4, 5, 6, 7, 8, 9, 10, 11, 12, 13], [1, 2, 3, 4, 5, 6, 7, 8, 9, 10, 11, 12, 13, 14], [1, 2, 3, 4, 5, 6, 7, 8, 9, 10, 11, 12, 13, 14, 15], [1, 2, 3, 4, 5, 6, 7, 8, 9, 10, 11, 12, 13, 14, 15, 16], [1, 2, 3, 4, 5, 6, 7, 8, 9, 10, 11, 12, 13, 14, 15, 16, 17], [0, 1, 2, 3, 4, 5, 6, 7, 8, 9, 10, 11, 12, 13, 14, 15, 16, 17], [0, 1, 2, 3, 4, 5, 6, 7, 8, 9, 10, 11, 12, 13, 14, 15, 16, 17, 18, 19]] [19] [⟨181, [(0, o1 (.sl 1 (List.map (eK .u8) a0))), (2, o1 (.ref 0 0)), (4, o1 (.ref 1 0)), (5, o1 (.ref 2 0))], [[cS r8.1, cI r10.1, .sl 2 (List.map eSNeed y54), .sl 2 (List.map eSNeed y99), .sl 5 (List.map eSCode y480)], [.sl 1 (List.map (eK .u8) a0), cI y478, cB y479], [cS r8.1, cI r10.1, .sl 2 (List.map eSNeed y54), .sl 2 (List.map eSNeed y99), .sl 5 (List.map eSCode y480)]], 0, []⟩] [(162, ag [cS r8.1, cI r10.1, .sl 2 (List.map eSNeed y54), .sl 2 (List.map eSNeed y99), .sl 5 (List.map eSCode y480)]), (163, o1 (.ref 1 0)), (164, o1 (.ref 1 0)), (165, o1 (.ref 1 2)), (166, oB true), (167, oB false), (168, oB false), (169, tp [] []), (170, tp [] []), (171, tp [] []), (172, tp [] []), (173, tp [] []), (174, tp [] []), (175, tp [] []), (176, oB false), (177, oB false), (178, tp [] []), (179, tp [] []), (180, oB false), (161, ⟨.any, []⟩)] [2, 3] 1 [] (fun A D B => ([hz B 1, ht D 0, ht D 1, ht D 2, ht D 3, hB 4 h483, ht D 4, ht D 5, ht D 6, ht D 7, ht D 8, ht D 9, ht D 10, ht D 11, ht D 12, ht D 13, ht D 14, ht D 15, ht D 16, ht D 17, ht D 18, ht D 18, hm A D B 0 19 [161, 162, 163, 164, 165, 166, 167, 168, 169, 170, 171, 172, 173, 174, 175, 176, 177, 178, 179, 0, 2, 4, 5]], [])) ?_
      exact pf false h488
     rcases ite_some h488 with ⟨h484, h488⟩ | ⟨h484, h488⟩
     ·obtain ⟨r485, h486, h488⟩ := bs h488
      refine deL hmix [[], [], [1], [1, 2], [1, 2, 3], [1, 2, 3, 4], [1, 2, 3, 4, 5], [1, 2, 3, 4, 5, 6], [1, 2, 3, 4, 5, 6, 7], [1, 2, 3, 4, 5, 6, 7, 8], [1, 2, 3, 4, 5, 6, 7, 8, 9], [1, 2, 3, 4, 5, 6], [1, 2, 3, 4, 5, 6, 11], [1, 2, 3, 4, 5, 6, 7, 8, 9, 10, 11, 12], [1, 2, 3, 4, 5, 6, 7, 8, 9, 10, 11, 12, 13], [1, 2, 3, 4, 5, 6, 7, 8, 9, 10, 11, 12, 13, 14], [1, 2, 3, 4, 5, 6, 7, 8, 9, 10, 11, 12, 13, 14, 15], [1, 2, 3, 4, 5, 6, 7, 8, 9, 10, 11, 12, 13, 14, 15, 16], [1, 2, 3, 4, 5, 6, 7, 8, 9, 10, 11, 12, 13, 14, 15, 16, 17], [0, 1, 2, 3, 4, 5, 6, 7, 8, 9, 10, 11, 12, 13, 14, 15, 16, 17], [0, 1, 2, 3, 4, 5, 6, 7, 8, 9, 10, 11, 12, 13, 14, 15, 16, 17, 18, 19]] [19] [⟨181, [(0, o1 (.sl 1 (List.map (eK .u8) a0))), (2, o1 (.ref 0 0)), (4, o1 (.ref 1 0)), (5, o1 (.ref 2 0))], [[cS r8.1, cI r10.1, .sl 2 (List.map eSNeed y54), .sl 2 (List.map eSNeed y99), .sl 5 (List.map eSCode y480)], [.sl 1 (List.map (eK .u8) a0), cI y478, cB y479], [cS r8.1, cI r10.1, .sl 2 (List.map eSNeed y54), .sl 2 (List.map eSNeed y99), .sl 5 (List.map eSCode y480)]], 0, []⟩] [(162, ag [cS r8.1, cI r10.1, .sl 2 (List.map eSNeed y54), .sl 2 (List.map eSNeed y99), .sl 5 (List.map eSCode y480)]), (163, o1 (.ref 1 0)), (164, o1 (.ref 1 0)), (165, o1 (.ref 1 2)), (166, oB false), (167, oB true), (168, oB true), (169, o1 (.ref 1 0)), (170, o1 (.ref 1 0)), (171, o1 (.ref 1 1)), (172, oI y478), (173, o1 (.sl 1 (List.map (eK .u8) a0))), (174, oI (a0.length : Int)), (175, oB true), (176, oB true), (177, oB true), (178, ag [cS r8.1, cI r10.1, .sl 2 (List.map eSNeed y54), .sl 2 (List.map eSNeed y99), .sl 5 (List.map eSCode y480)]), (179, oB r485), (180, oB r485), (161, ⟨.any, []⟩)] [2, 3] 1 [] (fun A D B => ([hz B 1, ht D 0, ht D 1, ht D 2, ht D 3, hB 4 h483, ht D 4, ht D 5, ht D 6, ht D 7, ht D 8, ht D 9, ht D 10, ht D 11, hL 12 (eK .u8) a0, ht D 12, hB 13 (decide_eq_true h484), ht D 13, ht D 14, ht D 15, ht D 16, hC 17 (spec_ObjectOK.fn h486), ht D 17, ht D 18, ht D 18, hm A D B 0 19 [161, 162, 163, 164, 165, 166, 167, 168, 169, 170, 171, 172, 173, 174, 175, 176, 177, 178, 179, 0, 2, 4, 5]], [])) ?_
      exact pf r485 h488
     refine deL hmix [[], [], [1], [1, 2], [1, 2, 3], [1, 2, 3, 4], [1, 2, 3, 4, 5], [1, 2, 3, 4, 5, 6], [1, 2, 3, 4, 5, 6, 7], [1, 2, 3, 4, 5, 6, 7, 8], [1, 2, 3, 4, 5, 6, 7, 8, 9], [1, 2, 3, 4, 5, 6], [1, 2, 3, 4, 5, 6, 11], [1, 2, 3, 4, 5, 6, 7, 8, 9, 10, 11, 12], [1, 2, 3, 4, 5, 6, 7, 8, 9, 10, 11, 12, 13], [1, 2, 3, 4, 5, 6, 7, 8, 9, 10, 11, 12, 13, 14], [1, 2, 3, 4, 5, 6, 7, 8, 9, 10, 11, 12, 13, 14, 15], [1, 2, 3, 4, 5, 6, 7, 8, 9, 10, 11, 12, 13, 14, 15, 16], [1, 2, 3, 4, 5, 6, 7, 8, 9, 10, 11, 12, 13, 14, 15, 16, 17], [0, 1, 2, 3, 4, 5, 6, 7, 8, 9, 10, 11, 12, 13, 14, 15, 16, 17], [0, 1, 2, 3, 4, 5, 6, 7, 8, 9, 10, 11, 12, 13, 14, 15, 16, 17, 18, 19]] [19] [⟨181, [(0, o1 (.sl 1 (List.map (eK .u8) a0))), (2, o1 (.ref 0 0)), (4, o1 (.ref 1 0)), (5, o1 (.ref 2 0))], [[cS r8.1, cI r10.1, .sl 2 (List.map eSNeed y54), .sl 2 (List.map eSNeed y99), .sl 5 (List.map eSCode y480)], [.sl 1 (List.map (eK .u8) a0), cI y478, cB y479], [cS r8.1, cI r10.1, .sl 2 (List.map eSNeed y54), .sl 2 (List.map eSNeed y99), .sl 5 (List.map eSCode y480)]], 0, []⟩] [(162, ag [cS r8.1, cI r10.1, .sl 2 (List.map eSNeed y54), .sl 2 (List.map eSNeed y99), .sl 5 (List.map eSCode y480)]), (163, o1 (.ref 1 0)), (164, o1 (.ref 1 0)), (165, o1 (.ref 1 2)), (166, oB false), (167, oB true), (168, oB true), (169, o1 (.ref 1 0)), (170, o1 (.ref 1 0)), (171, o1 (.ref 1 1)), (172, oI y478), (173, o1 (.sl 1 (List.map (eK .u8) a0))), (174, oI (a0.length : Int)), (175, oB false), (176, oB false), (177, oB false), (178, tp [] []), (179, tp [] []), (180, oB false), (161, ⟨.any, []⟩)] [2, 3] 1 [] (fun A D B => ([hz B 1, ht D 0, ht D 1, ht D 2, ht D 3, hB 4 h483, ht D 4, ht D 5, ht D 6, ht D 7, ht D 8, ht D 9, ht D 10, ht D 11, hL 12 (eK .u8) a0, ht D 12, hB 13 (decide_eq_false h484), ht D 13, ht D 14, ht D 15, ht D 16, ht D 17, ht D 18, ht D 18, hm A D B 0 19 [161, 162, 163, 164, 165, 166, 167, 168, 169, 170, 171, 172, 173, 174, 175, 176, 177, 178, 179, 0, 2, 4, 5]], [])) ?_
     exact pf false h488
    obtain ⟨r102, h103, h481⟩ := bs h481
    refine rn [0, 2, 4, 5, 8] 3 [] [hG 1 [] [1] none (spec_l03Reader__one_2.fn h103)] ?_
    refine bl ?_
    refine fx [0, 2, 4, 5, 8] 3 [.own (.b 2 4) 56] ?_
    refine lo (Int × Int × Bool × (List SCode)) k (fun k x => spec_l04Read.l15 k a0 x.1 x.2.1 x.2.2.1 x.2.2.2) (fun x => ⟨181, [(0, o1 (.sl 1 (List.map (eK .u8) a0))), (2, o1 (.ref 0 0)), (4, o1 (.ref 1 0)), (5, o1 (.ref 2 0)), (8, oI x.1)], [[cS (⟨#[]⟩ : ByteArray), cI 0, .nl, .nl, .nl], [.sl 1 (List.map (eK .u8) a0), cI x.2.1, cB x.2.2.1], [cS r8.1, cI r10.1, .own 51 (List.map eSNeed y54), .own 53 (List.map eSNeed y99), .own 56 (List.map eSCode x.2.2.2)]], 0, []⟩) (r102.1, r102.2.1, r102.2.2, ([] : List SCode)) h481 fun k x h481 IH477 => ?_
    obtain ⟨z351, z352, z353, z354⟩ := x
    rw [spec_l04Read.l15.eq_2] at h481
    refine sq ?_
    refine jo h481 (fun y356 => ⟨181, [(0, o1 (.sl 1 (List.map (eK .u8) a0))), (2, o1 (.ref 0 0)), (4, o1 (.ref 1 0)), (5, o1 (.ref 2 0)), (8, oI z351), (89, oB y356)], [[cS (⟨#[]⟩ : ByteArray), cI 0, .nl, .nl, .nl], [.sl 1 (List.map (eK .u8) a0), cI z352, cB z353], [cS r8.1, cI r10.1, .own 51 (List.map eSNeed y54), .own 53 (List.map eSNeed y99), .own 56 (List.map eSCode z354)]], 0, []⟩) (fun y356 h481 => ?_) fun v358 h357 h481 => ?_
    ·refine cb h481 (fun h359 h481 => ?_) fun h359 h481 => ?_
     ·refine sk ?_
      refine jo h481 (fun w => ⟨181, [(0, o1 (.sl 1 (List.map (eK .u8) a0))), (2, o1 (.ref 0 0)), (4, o1 (.ref 1 0)), (5, o1 (.ref 2 0)), (8, oI z351)], [[cS (⟨#[]⟩ : ByteArray), cI 0, .nl, .nl, .nl], [.sl 1 (List.map (eK .u8) a0), cI w.1, cB w.2.1], [cS r8.1, cI r10.1, .own 51 (List.map eSNeed y54), .own 53 (List.map eSNeed y99), .own 56 (List.map eSCode w.2.2)]], 0, []⟩) (fun w h481 => ?_) fun v476 h475 h481 => ?_
      ·obtain ⟨y472, y473, y474⟩ := w
       refine rl [0, 2, 4, 5, 8] 3 [] [] ?_
       exact lb IH477 (w64 (z351 - 1), y472, y473, y474) h481
      refine bl ?_
      obtain ⟨r360, h361, h475⟩ := bs h475
      obtain ⟨r362, h363, h475⟩ := bs h475
      refine rn [0, 2, 4, 5, 8, 9] 4 [] [hG 1 [] [1] none (spec_l03Reader__text_2.fn h361), hG 3 [] [1] none (spec_l03Reader__one_2.fn h363)] ?_
      obtain ⟨r364, h365, h475⟩ := bs h475
      refine rn [0, 2, 4, 5, 8, 9] 4 [] [hG 1 [] [1] none (spec_l03Reader__one_2.fn h365)] ?_
      obtain ⟨r366, h367, h475⟩ := bs h475
      refine deN hmix [[], [0], [], [2], [0, 1, 2, 3], [0, 1, 2, 3, 4], [0, 1, 2, 3, 4, 5]] [3] [⟨181, [(0, o1 (.sl 1 (List.map (eK .u8) a0))), (2, o1 (.ref 0 0)), (4, o1 (.ref 1 0)), (5, o1 (.ref 2 0)), (8, oI z351), (9, o1 (.ref 3 0))], [[cS (⟨#[]⟩ : ByteArray), cI 0, .nl, .nl, .nl], [.sl 1 (List.map (eK .u8) a0), cI r366.2.1, cB r366.2.2], [cS r8.1, cI r10.1, .own 51 (List.map eSNeed y54), .own 53 (List.map eSNeed y99), .own 56 (List.map eSCode z354)], [cS r360.1, cI r362.1, cI (w64 (r364.1 * 256)), cI 0, .nl]], 0, []⟩] [(101, o1 (.ref 3 2)), (102, oI (w64 (r364.1 * 256))), (103, o1 (.ref 1 0)), (104, oI r366.1)] [0, 2, 4, 5, 8, 9] 4 [] (fun A D B => ([hz B 1, ht D 0, ht D 0, ht D 1, ht D 1, ht D 2, hG 3 [] [1] none (spec_l03Reader__one_2.fn h367), hm A D B 0 3 [104, 103, 0, 2, 4, 5, 8, 9]], [])) ?_
      obtain ⟨r368, h369, h475⟩ := bs h475
      refine rn [0, 2, 4, 5, 8, 9] 4 [] [hG 1 [] [1] none (spec_l03Reader__one_2.fn h369)] ?_
      obtain ⟨r370, h371, h475⟩ := bs h475
      refine rn [0, 2, 4, 5, 8, 9, 10] 4 [] [hG 1 [] [1] none (spec_l03Reader__one_2.fn h371)] ?_
      obtain ⟨r372, h373, h475⟩ := bs h475
      refine rx [0, 2, 4, 5, 8, 9, 10] 4 [] [hG 2 [] [1] none (spec_l03Reader__one_2.fn h373)] ⟨181, [(0, o1 (.sl 1 (List.map (eK .u8) a0))), (2, o1 (.ref 0 0)), (4, o1 (.ref 1 0)), (5, o1 (.ref 2 0)), (8, oI z351), (9, o1 (.ref 3 0)), (10, oI (w64 ((w64 (r370.1 * 256)) + r372.1)))], [[cS (⟨#[]⟩ : ByteArray), cI 0, .nl, .nl, .nl], [.sl 1 (List.map (eK .u8) a0), cI r372.2.1, cB r372.2.2], [cS r8.1, cI r10.1, .own 51 (List.map eSNeed y54), .own 53 (List.map eSNeed y99), .own 56 (List.map eSCode z354)], [cS r360.1, cI r362.1, cI (w64 ((w64 (r364.1 * 256)) + r366.1)), cI r368.1, .nl]], 0, []⟩ ?_
      refine jo h475 (fun w => ⟨181, [(0, o1 (.sl 1 (List.map (eK .u8) a0))), (2, o1 (.ref 0 0)), (4, o1 (.ref 1 0)), (5, o1 (.ref 2 0)), (8, oI z351), (9, o1 (.ref 3 0))], [[cS (⟨#[]⟩ : ByteArray), cI 0, .nl, .nl, .nl], [.sl 1 (List.map (eK .u8) a0), cI w.1, cB w.2.1], [cS r8.1, cI r10.1, .own 51 (List.map eSNeed y54), .own 53 (List.map eSNeed y99), .own 56 (List.map eSCode z354)], [cS r360.1, cI r362.1, cI (w64 ((w64 (r364.1 * 256)) + r366.1)), cI r368.1, .own 58 (List.map eSIns w.2.2)]], 0, []⟩) (fun w h475 => ?_) fun v470 h469 h475 => ?_
      ·obtain ⟨y466, y467, y468⟩ := w
       obtain ⟨h471, h475⟩ := nd h475
       refine rl [0, 2, 4, 5, 8] 3 [] [q0 3 (.frz (.b 3 4)), hA 4 56 eSCode h471] ?_
       exact pf (y466, y467, z354 ++ ([(⟨r360.1, r362.1, w64 ((w64 (r364.1 * 256)) + r366.1), r368.1, y468⟩ : SCode)] : List SCode)) h475
      refine bl ?_
      refine fx [0, 2, 4, 5, 8, 9, 10] 4 [.own (.b 3 4) 58] ?_
      refine lo (Int × Int × Bool × (List SIns)) k (fun k x => spec_l04Read.l12 k a0 x.1 x.2.1 x.2.2.1 x.2.2.2) (fun x => ⟨181, [(0, o1 (.sl 1 (List.map (eK .u8) a0))), (2, o1 (.ref 0 0)), (4, o1 (.ref 1 0)), (5, o1 (.ref 2 0)), (8, oI z351), (9, o1 (.ref 3 0)), (10, oI x.1)], [[cS (⟨#[]⟩ : ByteArray), cI 0, .nl, .nl, .nl], [.sl 1 (List.map (eK .u8) a0), cI x.2.1, cB x.2.2.1], [cS r8.1, cI r10.1, .own 51 (List.map eSNeed y54), .own 53 (List.map eSNeed y99), .own 56 (List.map eSCode z354)], [cS r360.1, cI r362.1, cI (w64 ((w64 (r364.1 * 256)) + r366.1)), cI r368.1, .own 58 (List.map eSIns x.2.2.2)]], 0, []⟩) (w64 ((w64 (r370.1 * 256)) + r372.1), r372.2.1, r372.2.2, ([] : List SIns)) h469 fun k x h469 IH465 => ?_
      obtain ⟨z433, z434, z435, z436⟩ := x
      rw [spec_l04Read.l12.eq_2] at h469
      refine sq ?_
      refine jo h469 (fun y438 => ⟨181, [(0, o1 (.sl 1 (List.map (eK .u8) a0))), (2, o1 (.ref 0 0)), (4, o1 (.ref 1 0)), (5, o1 (.ref 2 0)), (8, oI z351), (9, o1 (.ref 3 0)), (10, oI z433), (125, oB y438)], [[cS (⟨#[]⟩ : ByteArray), cI 0, .nl, .nl, .nl], [.sl 1 (List.map (eK .u8) a0), cI z434, cB z435], [cS r8.1, cI r10.1, .own 51 (List.map eSNeed y54), .own 53 (List.map eSNeed y99), .own 56 (List.map eSCode z354)], [cS r360.1, cI r362.1, cI (w64 ((w64 (r364.1 * 256)) + r366.1)), cI r368.1, .own 58 (List.map eSIns z436)]], 0, []⟩) (fun y438 h469 => ?_) fun v440 h439 h469 => ?_
      ·refine cb h469 (fun h441 h469 => ?_) fun h441 h469 => ?_
       ·refine sk ?_
        refine sq ?_
        refine bl ?_
        obtain ⟨r442, h443, h469⟩ := bs h469
        obtain ⟨r444, h445, h469⟩ := bs h469
        refine rn [0, 2, 4, 5, 8, 9, 10, 11] 5 [] [hG 1 [] [1] none (spec_l03Reader__one_2.fn h443), hG 3 [] [1] none (spec_l03Reader__eight_2.fn h445)] ?_
        refine jo h469 (fun w => ⟨181, [(0, o1 (.sl 1 (List.map (eK .u8) a0))), (2, o1 (.ref 0 0)), (4, o1 (.ref 1 0)), (5, o1 (.ref 2 0)), (8, oI z351), (9, o1 (.ref 3 0)), (10, oI z433), (11, o1 (.ref 4 0))], [[cS (⟨#[]⟩ : ByteArray), cI 0, .nl, .nl, .nl], [.sl 1 (List.map (eK .u8) a0), cI w.1, cB w.2.1], [cS r8.1, cI r10.1, .own 51 (List.map eSNeed y54), .own 53 (List.map eSNeed y99), .own 56 (List.map eSCode z354)], [cS r360.1, cI r362.1, cI (w64 ((w64 (r364.1 * 256)) + r366.1)), cI r368.1, .own 58 (List.map eSIns z436)], [cI r442.1, cI r444.1, cI w.2.2.1, cS w.2.2.2.1, cS w.2.2.2.2]], 0, []⟩) (fun w h469 => ?_) fun v463 h462 h469 => ?_
        ·obtain ⟨y457, y458, y459, y460, y461⟩ := w
         obtain ⟨h464, h469⟩ := nd h469
         refine rl [0, 2, 4, 5, 8, 9, 10] 4 [] [hA 4 58 eSIns h464] ?_
         refine rl [0, 2, 4, 5, 8, 9, 10] 4 [] [] ?_
         exact lb IH465 (w64 (z433 - 1), y457, y458, z436 ++ ([(⟨r442.1, r444.1, y459, y460, y461⟩ : SIns)] : List SIns)) h469
        refine jo h462 (fun y447 => ⟨181, [(0, o1 (.sl 1 (List.map (eK .u8) a0))), (2, o1 (.ref 0 0)), (4, o1 (.ref 1 0)), (5, o1 (.ref 2 0)), (8, oI z351), (9, o1 (.ref 3 0)), (10, oI z433), (11, o1 (.ref 4 0)), (140, oB y447)], [[cS (⟨#[]⟩ : ByteArray), cI 0, .nl, .nl, .nl], [.sl 1 (List.map (eK .u8) a0), cI r444.2.1, cB r444.2.2], [cS r8.1, cI r10.1, .own 51 (List.map eSNeed y54), .own 53 (List.map eSNeed y99), .own 56 (List.map eSCode z354)], [cS r360.1, cI r362.1, cI (w64 ((w64 (r364.1 * 256)) + r366.1)), cI r368.1, .own 58 (List.map eSIns z436)], [cI r442.1, cI r444.1, cI 0, cS (⟨#[]⟩ : ByteArray), cS (⟨#[]⟩ : ByteArray)]], 0, []⟩) (fun y447 h462 => ?_) fun v449 h448 h462 => ?_
        ·refine cb h462 (fun h450 h462 => ?_) fun h450 h462 => ?_
         ·obtain ⟨r451, h452, h462⟩ := bs h462
          refine rn [0, 2, 4, 5, 8, 9, 10, 11] 5 [] [hG 1 [] [1] none (spec_l03Reader__one_2.fn h452)] ?_
          obtain ⟨r453, h454, h462⟩ := bs h462
          refine rn [0, 2, 4, 5, 8, 9, 10, 11] 5 [] [hG 1 [] [1] none (spec_l03Reader__text_2.fn h454)] ?_
          obtain ⟨r455, h456, h462⟩ := bs h462
          refine rl [0, 2, 4, 5, 8, 9, 10, 11] 5 [] [hG 1 [] [1] none (spec_l03Reader__text_2.fn h456)] ?_
          exact pf (r455.2.1, r455.2.2, r451.1, r453.1, r455.1) h462
         refine fx [0, 2, 4, 5, 8, 9, 10, 11] 5 [] ?_
         refine sk ?_
         exact pf (r444.2.1, r444.2.2, 0, (⟨#[]⟩ : ByteArray), (⟨#[]⟩ : ByteArray)) h462
        rcases ite_some h448 with ⟨h446, h448⟩ | ⟨h446, h448⟩
        ·refine rl [0, 2, 4, 5, 8, 9, 10, 11, 140] 5 [] [hB 2 (decide_eq_true h446)] ?_
         exact pf true h448
        refine rl [0, 2, 4, 5, 8, 9, 10, 11, 140] 5 [] [hB 2 (decide_eq_false h446)] ?_
        exact pf (decide (r442.1 = 13)) h448
       refine fx [0, 2, 4, 5, 8, 9] 4 [] ?_
       refine xi ?_
       exact pf (z434, z435, z436) h469
      rcases ite_some h439 with ⟨h437, h439⟩ | ⟨h437, h439⟩
      ·refine rl [0, 2, 4, 5, 8, 9, 10, 125] 4 [] [hB 1 (decide_eq_true h437)] ?_
       exact pf (!z435) h439
      refine rl [0, 2, 4, 5, 8, 9, 10, 125] 4 [] [hB 1 (decide_eq_false h437)] ?_
      exact pf false h439
     refine fx [0, 2, 4, 5] 3 [] ?_
     refine xi ?_
     exact pf (z352, z353, z354) h481
    rcases ite_some h357 with ⟨h355, h357⟩ | ⟨h355, h357⟩
    ·refine rl [0, 2, 4, 5, 8, 89] 3 [] [hB 1 (decide_eq_true h355)] ?_
     exact pf (!z353) h357
    refine rl [0, 2, 4, 5, 8, 89] 3 [] [hB 1 (decide_eq_false h355)] ?_
    exact pf false h357
   obtain ⟨r57, h58, h100⟩ := bs h100
   refine rn [0, 2, 4, 5, 7] 3 [] [hG 1 [] [1] none (spec_l03Reader__one_2.fn h58)] ?_
   refine bl ?_
   refine fx [0, 2, 4, 5, 7] 3 [.own (.b 2 3) 53] ?_
   refine lo (Int × Int × Bool × (List SNeed)) k (fun k x => spec_l04Read.l6 k a0 x.1 x.2.1 x.2.2.1 x.2.2.2) (fun x => ⟨181, [(0, o1 (.sl 1 (List.map (eK .u8) a0))), (2, o1 (.ref 0 0)), (4, o1 (.ref 1 0)), (5, o1 (.ref 2 0)), (7, oI x.1)], [[cS (⟨#[]⟩ : ByteArray), cI 0, .nl, .nl, .nl], [.sl 1 (List.map (eK .u8) a0), cI x.2.1, cB x.2.2.1], [cS r8.1, cI r10.1, .own 51 (List.map eSNeed y54), .own 53 (List.map eSNeed x.2.2.2), .nl]], 0, []⟩) (r57.1, r57.2.1, r57.2.2, ([] : List SNeed)) h100 fun k x h100 IH96 => ?_
   obtain ⟨z82, z83, z84, z85⟩ := x
   rw [spec_l04Read.l6.eq_2] at h100
   refine sq ?_
   refine jo h100 (fun y87 => ⟨181, [(0, o1 (.sl 1 (List.map (eK .u8) a0))), (2, o1 (.ref 0 0)), (4, o1 (.ref 1 0)), (5, o1 (.ref 2 0)), (7, oI z82), (66, oB y87)], [[cS (⟨#[]⟩ : ByteArray), cI 0, .nl, .nl, .nl], [.sl 1 (List.map (eK .u8) a0), cI z83, cB z84], [cS r8.1, cI r10.1, .own 51 (List.map eSNeed y54), .own 53 (List.map eSNeed z85), .nl]], 0, []⟩) (fun y87 h100 => ?_) fun v89 h88 h100 => ?_
   ·refine cb h100 (fun h90 h100 => ?_) fun h90 h100 => ?_
    ·refine sk ?_
     refine sq ?_
     refine bl ?_
     obtain ⟨r91, h92, h100⟩ := bs h100
     obtain ⟨r93, h94, h100⟩ := bs h100
     obtain ⟨h95, h100⟩ := nd h100
     refine deL hmix [[], [0], [], [2], [], [2, 3, 4], [2, 3, 4, 5], [2, 3, 4, 5, 6], [0, 1, 2, 3, 4, 5, 6, 7], [0, 1, 2, 3, 4, 5, 6, 7, 8], [0, 1, 2, 3, 4, 5, 6, 7, 8, 9]] [3, 5] [⟨181, [(0, o1 (.sl 1 (List.map (eK .u8) a0))), (2, o1 (.ref 0 0)), (4, o1 (.ref 1 0)), (5, o1 (.ref 2 0)), (7, oI z82), (66, oB y87)], [[cS (⟨#[]⟩ : ByteArray), cI 0, .nl, .nl, .nl], [.sl 1 (List.map (eK .u8) a0), cI r91.2.1, cB r91.2.2], [cS r8.1, cI r10.1, .own 51 (List.map eSNeed y54), .own 53 (List.map eSNeed z85), .nl]], 0, []⟩, ⟨181, [(0, o1 (.sl 1 (List.map (eK .u8) a0))), (2, o1 (.ref 0 0)), (4, o1 (.ref 1 0)), (5, o1 (.ref 2 0)), (7, oI z82), (66, oB y87)], [[cS (⟨#[]⟩ : ByteArray), cI 0, .nl, .nl, .nl], [.sl 1 (List.map (eK .u8) a0), cI r93.2.1, cB r93.2.2], [cS r8.1, cI r10.1, .own 51 (List.map eSNeed y54), .own 53 (List.map eSNeed z85), .nl]], 0, []⟩] [(69, o1 (.ref 2 3)), (70, o1 (.al (.b 2 3))), (71, o1 (.ref 1 0)), (72, oS r91.1), (73, o1 (.ref 1 0)), (74, oI r93.1), (75, ag [cS r91.1, cI r93.1]), (76, o1 (.own 53 (List.map eSNeed ([(⟨r91.1, r93.1⟩ : SNeed)] : List SNeed))))] [0, 2, 4, 5, 7] 3 [] (fun A D B => ([hz B 1, hz B 2, ht D 0, ht D 0, ht D 0, ht D 1, ht D 1, ht D 1, ht D 2, hG 3 [] [1] none (spec_l03Reader__text_2.fn h92), hm A D B 0 3 [72, 71, 0, 2, 4, 5, 7, 66], hx B 0 2, ht D 4, ht D 4, hG 5 [] [1] none (spec_l03Reader__one_2.fn h94), hm A D B 1 5 [74, 71, 72, 73, 0, 2, 4, 5, 7, 66], hx B 1 2, ht D 6, ht D 7], [hA 8 53 eSNeed h95])) ?_
     refine rl [0, 2, 4, 5, 7] 3 [] [] ?_
     exact lb IH96 (w64 (z82 - 1), r93.2.1, r93.2.2, z85 ++ ([(⟨r91.1, r93.1⟩ : SNeed)] : List SNeed)) h100
    refine fx [0, 2, 4, 5] 3 [] ?_
    refine xi ?_
    exact pf (z83, z84, z85) h100
   rcases ite_some h88 with ⟨h86, h88⟩ | ⟨h86, h88⟩
   ·refine rl [0, 2, 4, 5, 7, 66] 3 [] [hB 1 (decide_eq_true h86)] ?_
    exact pf (!z84) h88
   refine rl [0, 2, 4, 5, 7, 66] 3 [] [hB 1 (decide_eq_false h86)] ?_
   exact pf false h88
  obtain ⟨r12, h13, h55⟩ := bs h55
  refine rn [0, 2, 4, 5, 6] 3 [] [hG 1 [] [1] none (spec_l03Reader__one_2.fn h13)] ?_
  refine bl ?_
  refine fx [0, 2, 4, 5, 6] 3 [.own (.b 2 2) 51] ?_
  refine lo (Int × Int × Bool × (List SNeed)) k (fun k x => spec_l04Read.l3 k a0 x.1 x.2.1 x.2.2.1 x.2.2.2) (fun x => ⟨181, [(0, o1 (.sl 1 (List.map (eK .u8) a0))), (2, o1 (.ref 0 0)), (4, o1 (.ref 1 0)), (5, o1 (.ref 2 0)), (6, oI x.1)], [[cS (⟨#[]⟩ : ByteArray), cI 0, .nl, .nl, .nl], [.sl 1 (List.map (eK .u8) a0), cI x.2.1, cB x.2.2.1], [cS r8.1, cI r10.1, .own 51 (List.map eSNeed x.2.2.2), .nl, .nl]], 0, []⟩) (r12.1, r12.2.1, r12.2.2, ([] : List SNeed)) h55 fun k x h55 IH51 => ?_
  obtain ⟨z37, z38, z39, z40⟩ := x
  rw [spec_l04Read.l3.eq_2] at h55
  refine sq ?_
  refine jo h55 (fun y42 => ⟨181, [(0, o1 (.sl 1 (List.map (eK .u8) a0))), (2, o1 (.ref 0 0)), (4, o1 (.ref 1 0)), (5, o1 (.ref 2 0)), (6, oI z37), (43, oB y42)], [[cS (⟨#[]⟩ : ByteArray), cI 0, .nl, .nl, .nl], [.sl 1 (List.map (eK .u8) a0), cI z38, cB z39], [cS r8.1, cI r10.1, .own 51 (List.map eSNeed z40), .nl, .nl]], 0, []⟩) (fun y42 h55 => ?_) fun v44 h43 h55 => ?_
  ·refine cb h55 (fun h45 h55 => ?_) fun h45 h55 => ?_
   ·refine sk ?_
    refine sq ?_
    refine bl ?_
    obtain ⟨r46, h47, h55⟩ := bs h55
    obtain ⟨r48, h49, h55⟩ := bs h55
    obtain ⟨h50, h55⟩ := nd h55
    refine deL hmix [[], [0], [], [2], [], [2, 3, 4], [2, 3, 4, 5], [2, 3, 4, 5, 6], [0, 1, 2, 3, 4, 5, 6, 7], [0, 1, 2, 3, 4, 5, 6, 7, 8], [0, 1, 2, 3, 4, 5, 6, 7, 8, 9]] [3, 5] [⟨181, [(0, o1 (.sl 1 (List.map (eK .u8) a0))), (2, o1 (.ref 0 0)), (4, o1 (.ref 1 0)), (5, o1 (.ref 2 0)), (6, oI z37), (43, oB y42)], [[cS (⟨#[]⟩ : ByteArray), cI 0, .nl, .nl, .nl], [.sl 1 (List.map (eK .u8) a0), cI r46.2.1, cB r46.2.2], [cS r8.1, cI r10.1, .own 51 (List.map eSNeed z40), .nl, .nl]], 0, []⟩, ⟨181, [(0, o1 (.sl 1 (List.map (eK .u8) a0))), (2, o1 (.ref 0 0)), (4, o1 (.ref 1 0)), (5, o1 (.ref 2 0)), (6, oI z37), (43, oB y42)], [[cS (⟨#[]⟩ : ByteArray), cI 0, .nl, .nl, .nl], [.sl 1 (List.map (eK .u8) a0), cI r48.2.1, cB r48.2.2], [cS r8.1, cI r10.1, .own 51 (List.map eSNeed z40), .nl, .nl]], 0, []⟩] [(46, o1 (.ref 2 2)), (47, o1 (.al (.b 2 2))), (48, o1 (.ref 1 0)), (49, oS r46.1), (50, o1 (.ref 1 0)), (51, oI r48.1), (52, ag [cS r46.1, cI r48.1]), (53, o1 (.own 51 (List.map eSNeed ([(⟨r46.1, r48.1⟩ : SNeed)] : List SNeed))))] [0, 2, 4, 5, 6] 3 [] (fun A D B => ([hz B 1, hz B 2, ht D 0, ht D 0, ht D 0, ht D 1, ht D 1, ht D 1, ht D 2, hG 3 [] [1] none (spec_l03Reader__text_2.fn h47), hm A D B 0 3 [49, 48, 0, 2, 4, 5, 6, 43], hx B 0 2, ht D 4, ht D 4, hG 5 [] [1] none (spec_l03Reader__eight_2.fn h49), hm A D B 1 5 [51, 48, 49, 50, 0, 2, 4, 5, 6, 43], hx B 1 2, ht D 6, ht D 7], [hA 8 51 eSNeed h50])) ?_
    refine rl [0, 2, 4, 5, 6] 3 [] [] ?_
    exact lb IH51 (w64 (z37 - 1), r48.2.1, r48.2.2, z40 ++ ([(⟨r46.1, r48.1⟩ : SNeed)] : List SNeed)) h55
   refine fx [0, 2, 4, 5] 3 [] ?_
   refine xi ?_
   exact pf (z38, z39, z40) h55
  rcases ite_some h43 with ⟨h41, h43⟩ | ⟨h41, h43⟩
  ·refine rl [0, 2, 4, 5, 6, 43] 3 [] [hB 1 (decide_eq_true h41)] ?_
   exact pf (!z39) h43
  refine rl [0, 2, 4, 5, 6, 43] 3 [] [hB 1 (decide_eq_false h41)] ?_
  exact pf false h43
 rcases ite_some h5 with ⟨h1, h5⟩ | ⟨h1, h5⟩
 ·refine rl [0, 2, 4, 23] 2 [] [hL 1 (eK .u8) a0, hB 2 (decide_eq_true h1)] ?_
  exact pf true h5
 obtain ⟨h2, h5⟩ := nd h5
 obtain ⟨h3, h5⟩ := nd h5
 refine rl [0, 2, 4, 23] 2 [] [hL 1 (eK .u8) a0, hB 2 (decide_eq_false h1), p3 (show (0 : Int) ≤ 0 by decide) h2 (lenle (f := (eK .u8)) (l := a0) h3), q1 5 (.ov [.sl 1 (List.map (eK .u8) (List.take (Int.toNat ((3 : Int) - 0)) (List.drop (Int.toNat 0) a0)))]) (ovcut (s := 1) (l := a0) (f := (eK .u8)) (a := Int.toNat 0) (b := Int.toNat ((3 : Int) - 0))), q1 6 (.nums (List.take (Int.toNat ((3 : Int) - 0)) (List.drop (Int.toNat 0) a0))) (rfl : List.map (eK .u8) (List.take (Int.toNat ((3 : Int) - 0)) (List.drop (Int.toNat 0) a0)) = List.map (fun n => [PC.sc (.int .u8 n)]) (List.take (Int.toNat ((3 : Int) - 0)) (List.drop (Int.toNat 0) a0)))] ?_
 exact pf (!(decide ((strOfNums (List.take (Int.toNat ((3 : Int) - 0)) (List.drop (Int.toNat 0) a0))) = (⟨#[79, 79, 49]⟩ : ByteArray)))) h5
/-! spec_ReadObject: function 4 -/
def spec_ReadObject.f (k : Nat) (a0 : (List Int)) : Option (SObj × Int × ByteArray × Int × (List SNeed) × (List SNeed) × (List SCode)) := if (65536 : Int) < (a0.length : Int) then (some ((⟨(⟨#[]⟩ : ByteArray), 0, ([] : List SNeed), ([] : List SNeed), ([] : List SCode)⟩ : SObj), 2, (⟨#[]⟩ : ByteArray), 0, ([] : List SNeed), ([] : List SNeed), ([] : List SCode))) else ((spec_l04Read.f k a0).bind fun r2 => if r2.2.1 = true then (some (r2.1, 0, r2.1.f0, r2.1.f1, r2.1.f2, r2.1.f3, r2.1.f4)) else (some ((⟨(⟨#[]⟩ : ByteArray), 0, ([] : List SNeed), ([] : List SNeed), ([] : List SCode)⟩ : SObj), 3, (⟨#[]⟩ : ByteArray), 0, ([] : List SNeed), ([] : List SNeed), ([] : List SCode))))
theorem spec_ReadObject.fn {k : Nat} {a0 : (List Int)} {r : (SObj × Int × ByteArray × Int × (List SNeed) × (List SNeed) × (List SCode))} (H : spec_ReadObject.f k a0 = some r) : FnG Tryz.prog 4 [o1 (.sl 1 (List.map (eK .u8) a0))] [] [] (tp [some 5, none] [cS r.1.f0, cI r.1.f1, .sl 2 (List.map eSNeed r.1.f2), .sl 2 (List.map eSNeed r.1.f3), .sl 5 (List.map eSCode r.1.f4), cI r.2.1]) [] [[cS r.2.2.1, cI r.2.2.2.1, .sl 2 (List.map eSNeed r.2.2.2.2.1), .sl 2 (List.map eSNeed r.2.2.2.2.2.1), .sl 5 (List.map eSCode r.2.2.2.2.2.2)]] := by
 refine FnG.bodyR (rv := [(2, some 27), (3, none)]) Tryz.func4 rfl rfl (by decide) (by decide) (Nat.le_of_ble_eq_true rfl) rfl (Nat.le_of_ble_eq_true rfl) ?_
 refine rn [0, 2] 1 [] [] ?_
 refine sq ?_
 refine rn [0, 2, 8] 1 [] [hL 1 (eK .u8) a0] ?_
 refine ci H (fun h1 H => ?_) fun h1 H => ?_
 ·refine rn [2, 3] 1 [] [] ?_
  refine fx [2, 3] 1 [.sl (.b 0 2) 2, .sl (.b 0 3) 2, .sl (.b 0 4) 5] ?_
  refine Tri.ret ?_
  obtain rfl := si H;exact endsR (.inr rfl) (by kernel_rfl)
 refine sk ?_
 obtain ⟨r2, h3, H⟩ := bs H
 refine rn [2, 4, 5] 3 [] [hG 1 [] [] none (spec_l04Read.fn h3)] ?_
 refine sq ?_
 refine rn [2, 4, 16] 3 [] [] ?_
 refine cm H (fun h4 H => ?_) fun h4 H => ?_
 ·refine sk ?_
  refine rn [2, 3] 1 [] [] ?_
  refine Tri.ret ?_
  obtain rfl := si H;exact endsR (.inr rfl) (by kernel_rfl)
 refine rn [2, 3] 1 [] [] ?_
 refine fx [2, 3] 1 [.sl (.b 0 2) 2, .sl (.b 0 3) 2, .sl (.b 0 4) 5] ?_
 refine Tri.ret ?_
 obtain rfl := si H;exact endsR (.inr rfl) (by kernel_rfl)
/-! impl_isShort___byte: function 13 -/
def impl_isShort___byte.f (k : Nat) (a0 : (List Int)) : Option Bool := some (decide ((a0.length : Int) ≤ 65536))
theorem impl_isShort___byte.fn {k : Nat} {a0 : (List Int)} {r : Bool} (H : impl_isShort___byte.f k a0 = some r) : Fn Tryz.prog 13 [o1 (.sl 1 (List.map (eK .u8) a0))] [] (oB r) [] := by
 refine Fn.bd [2] Tryz.func13 ?_
 refine rn [0] 0 [] [] ?_
 refine rn [2] 0 [] [hL 1 (eK .u8) a0] ?_
 refine Tri.ret ?_
 obtain rfl := si H;exact eR
/-! impl_reader__take_2: function 44 -/
def impl_reader__take_2.e1 (k : Nat) (a1 : Int) (b0 : S3ddd55) : Option Bool := if b0.f2 = true then (some true) else (some (decide ((w64 ((b0.f0.size : Int) - b0.f1)) < a1)))
def impl_reader__take_2.f (k : Nat) (a1 : Int) (b0 : S3ddd55) : Option (ByteArray × Int × Bool) := (impl_reader__take_2.e1 k a1 b0).bind fun y2 => if y2 = true then (some ((⟨#[]⟩ : ByteArray), b0.f1, true)) else (if (0 : Int) ≤ (w64 ((w64 (b0.f1 + a1)) - a1)) then (if (w64 ((w64 (b0.f1 + a1)) - a1)) ≤ w64 (b0.f1 + a1) then (if (w64 (b0.f1 + a1)) ≤ (b0.f0.size : Int) then (some (b0.f0.extract (Int.toNat (w64 ((w64 (b0.f1 + a1)) - a1))) (Int.toNat (w64 (b0.f1 + a1))), w64 (b0.f1 + a1), b0.f2)) else none) else none) else none)
theorem impl_reader__take_2.fn {k : Nat} {a1 : Int} {b0 : S3ddd55} {r : (ByteArray × Int × Bool)} (H : impl_reader__take_2.f k a1 b0 = some r) : FnG Tryz.prog 44 [o1 (.ref 0 0), oI a1] [] [eS3ddd55 b0] (oS r.1) [] [[cS b0.f0, cI r.2.1, cB r.2.2]] := by
 refine FnG.body (ts := [4]) Tryz.func44 rfl rfl (by decide) (by decide) (Nat.le_of_ble_eq_true rfl) rfl (Nat.le_of_ble_eq_true rfl) ?_
 refine rn [0, 1] 1 [] [] ?_
 refine sq ?_
 refine jo H (fun y2 => ⟨49, [(0, o1 (.ref 0 0)), (1, oI a1), (22, oB y2)], [eS3ddd55 b0], 1, []⟩) (fun y2 H => ?_) fun v4 h3 H => ?_
 ·refine cb H (fun h5 H => ?_) fun h5 H => ?_
  ·refine rn [] 1 [] [] ?_
   refine rn [4] 1 [] [] ?_
   refine Tri.ret ?_
   obtain rfl := si H;exact endsG (.inr rfl) (by kernel_rfl)
  refine sk ?_
  refine rn [0, 1] 1 [] [] ?_
  obtain ⟨h6, H⟩ := nd H
  obtain ⟨h7, H⟩ := nd H
  obtain ⟨h8, H⟩ := nd H
  refine dn hmix 14 [[], [0], [0, 1], [0, 1, 2], [], [4], [4, 5], [4, 5, 6], [], [4, 5, 6, 7, 8], [], [10], [10, 11], [10, 11, 12], [0, 1, 2, 3, 4, 5, 6, 7, 8, 9, 10, 11, 12, 13], [0, 1, 2, 3, 4, 5, 6, 7, 8, 9, 10, 11, 12, 13, 14]] [4] 1 [] [p3 h6 h7 h8] ?_
  refine Tri.ret ?_
  obtain rfl := si H;exact endsG (.inr rfl) (by kernel_rfl)
 rcases iteb_some h3 with ⟨h1, h3⟩ | ⟨h1, h3⟩
 ·refine dl hmix 16 [[], [0], [0, 1], [0, 1, 2], [0, 1, 2, 3], [0, 1, 2, 3, 4], [0, 1, 2, 3, 4], [0, 1, 2, 3, 4, 6], [0, 1, 2, 3, 4, 6, 7], [0, 1, 2, 3, 4, 6, 7, 8], [0, 1, 2, 3, 4, 6, 7, 8, 9], [0, 1, 2, 3, 4], [0, 1, 2, 3, 4, 11], [0, 1, 2, 3, 4, 11, 12], [0, 1, 2, 3, 4, 11, 12, 13], [0, 1, 2, 3, 4, 6, 7, 8, 9, 10, 11, 12, 13, 14], [0, 1, 2, 3, 4, 5, 6, 7, 8, 9, 10, 11, 12, 13, 14, 15], [0, 1, 2, 3, 4, 5, 6, 7, 8, 9, 10, 11, 12, 13, 14, 15, 16]] [0, 1, 22] 1 [] [hB 3 h1] ?_
  exact pf true h3
 refine dl hmix 16 [[], [0], [0, 1], [0, 1, 2], [0, 1, 2, 3], [0, 1, 2, 3, 4], [0, 1, 2, 3, 4], [0, 1, 2, 3, 4, 6], [0, 1, 2, 3, 4, 6, 7], [0, 1, 2, 3, 4, 6, 7, 8], [0, 1, 2, 3, 4, 6, 7, 8, 9], [0, 1, 2, 3, 4], [0, 1, 2, 3, 4, 11], [0, 1, 2, 3, 4, 11, 12], [0, 1, 2, 3, 4, 11, 12, 13], [0, 1, 2, 3, 4, 6, 7, 8, 9, 10, 11, 12, 13, 14], [0, 1, 2, 3, 4, 5, 6, 7, 8, 9, 10, 11, 12, 13, 14, 15], [0, 1, 2, 3, 4, 5, 6, 7, 8, 9, 10, 11, 12, 13, 14, 15, 16]] [0, 1, 22] 1 [] [hB 3 h1] ?_
 exact pf (decide ((w64 ((b0.f0.size : Int) - b0.f1)) < a1)) h3
/-! impl_reader__head_2: function 28 -/
def impl_reader__head_2.f (k : Nat) (a1 : ByteArray) (b0 : S3ddd55) : Option (Int × Bool) := (impl_reader__take_2.f k (a1.size : Int) b0).bind fun r1 => if r1.1 = a1 then (some (r1.2.1, r1.2.2)) else (some (r1.2.1, true))
theorem impl_reader__head_2.fn {k : Nat} {a1 : ByteArray} {b0 : S3ddd55} {r : (Int × Bool)} (H : impl_reader__head_2.f k a1 b0 = some r) : FnG Tryz.prog 28 [o1 (.ref 0 0), oS a1] [] [eS3ddd55 b0] (tp [] []) [] [[cS b0.f0, cI r.1, cB r.2]] := by
 refine FnG.body (ts := []) Tryz.func28 rfl rfl (by decide) (by decide) (Nat.le_of_ble_eq_true rfl) rfl (Nat.le_of_ble_eq_true rfl) ?_
 obtain ⟨r1, h2, H⟩ := bs H
 rcases ite_some H with ⟨h3, H⟩ | ⟨h3, H⟩
 ·refine rl [] 1 [] [hG 4 [] [0] none (impl_reader__take_2.fn h2), hB 6 (nF (decide_eq_true h3))] ?_
  obtain rfl := si H;exact endsG (.inl rfl) (by kernel_rfl)
 refine rl [] 1 [] [hG 4 [] [0] none (impl_reader__take_2.fn h2), hB 6 (nT (decide_eq_false h3))] ?_
 obtain rfl := si H;exact endsG (.inl rfl) (by kernel_rfl)
/-! impl_reader__number_2: function 30 -/
def impl_reader__number_2.l1 : Nat → (ByteArray × Int × Bool) → Int → Int → Option (Int × Int × Bool)
  | 0, _, _, _ => none
  | k + 1, r1, z6, z7 => if z7 < ((bytesOf r1.1).length : Int) then ((at? (bytesOf r1.1) z7).bind fun x9 => impl_reader__number_2.l1 k r1 (ior .i64 (ishl .i64 z6 8) (w64 (x9))) (w64 (z7 + 1))) else (some (z6, r1.2.1, r1.2.2))
def impl_reader__number_2.e2 (k : Nat) (a1 : Int) (b0 : S3ddd55) : Option (Int × Int × Bool) := (impl_reader__take_2.f k a1 b0).bind fun r1 => impl_reader__number_2.l1 k r1 0 0
def impl_reader__number_2.f (k : Nat) (a1 : Int) (b0 : S3ddd55) : Option (Int × Int × Bool) := (impl_reader__number_2.e2 k a1 b0).bind fun v => match v with | (y12, y13, y14) => some (y12, y13, y14)
theorem impl_reader__number_2.fn {k : Nat} {a1 : Int} {b0 : S3ddd55} {r : (Int × Int × Bool)} (H : impl_reader__number_2.f k a1 b0 = some r) : FnG Tryz.prog 30 [o1 (.ref 0 0), oI a1] [] [eS3ddd55 b0] (oI r.1) [] [[cS b0.f0, cI r.2.1, cB r.2.2]] := by
 refine FnG.body (ts := [4]) Tryz.func30 rfl rfl (by decide) (by decide) (Nat.le_of_ble_eq_true rfl) rfl (Nat.le_of_ble_eq_true rfl) ?_
 refine rn [0, 1] 1 [] [] ?_
 refine rn [0, 1, 5] 1 [] [] ?_
 refine jo H (fun w => ⟨24, [(5, oI w.1)], [[cS b0.f0, cI w.2.1, cB w.2.2]], 1, []⟩) (fun w H => ?_) fun v16 h15 H => ?_
 ·obtain ⟨y12, y13, y14⟩ := w
  refine rn [4] 1 [] [] ?_
  refine Tri.ret ?_
  obtain rfl := si H;exact endsG (.inr rfl) (by kernel_rfl)
 obtain ⟨r1, h2, h15⟩ := bs h15
 refine rn [5, 11, 12, 13] 1 [] [hG 2 [] [0] none (impl_reader__take_2.fn h2), hL 4 (eK .u8) (bytesOf r1.1)] ?_
 refine bl ?_
 refine lo (Int × Int) k (fun k x => impl_reader__number_2.l1 k r1 x.1 x.2) (fun x => ⟨24, [(5, oI x.1), (11, o1 (.sl 1 (List.map (eK .u8) (bytesOf r1.1)))), (12, oI ((bytesOf r1.1).length : Int)), (13, oI x.2)], [[cS b0.f0, cI r1.2.1, cB r1.2.2]], 1, []⟩) (0, 0) h15 fun k x h15 IH11 => ?_
 obtain ⟨z6, z7⟩ := x
 rw [impl_reader__number_2.l1.eq_2] at h15
 refine rn [5, 11, 12, 13, 14] 1 [] [] ?_
 refine sq ?_
 refine ci h15 (fun h8 h15 => ?_) fun h8 h15 => ?_
 ·refine sk ?_
  refine sq ?_
  refine bl ?_
  obtain ⟨x9, h10, h15⟩ := bs h15
  refine rn [5, 7, 11, 12, 13] 1 [] [hE 0 (eK .u8) h10] ?_
  refine rl [5, 11, 12, 13] 1 [] [p1 (show (0 : Int) ≤ 8 by decide)] ?_
  refine rl [5, 11, 12, 13] 1 [] [] ?_
  exact lb IH11 (ior .i64 (ishl .i64 z6 8) (w64 (x9)), w64 (z7 + 1)) h15
 refine fx [5] 1 [] ?_
 refine xi ?_
 exact pf (z6, r1.2.1, r1.2.2) h15
/-! impl_reader__text_2: function 29 -/
def impl_reader__text_2.f (k : Nat) (b0 : S3ddd55) : Option (ByteArray × Int × Bool) := (impl_reader__number_2.f k 1 b0).bind fun r1 => (impl_reader__take_2.f k r1.1 (⟨b0.f0, r1.2.1, r1.2.2⟩ : S3ddd55)).bind fun r3 => some (r3.1, r3.2.1, r3.2.2)
theorem impl_reader__text_2.fn {k : Nat} {b0 : S3ddd55} {r : (ByteArray × Int × Bool)} (H : impl_reader__text_2.f k b0 = some r) : FnG Tryz.prog 29 [o1 (.ref 0 0)] [] [eS3ddd55 b0] (oS r.1) [] [[cS b0.f0, cI r.2.1, cB r.2.2]] := by
 refine FnG.body (ts := [2]) Tryz.func29 rfl rfl (by decide) (by decide) (Nat.le_of_ble_eq_true rfl) rfl (Nat.le_of_ble_eq_true rfl) ?_
 refine rn [0] 1 [] [] ?_
 obtain ⟨r1, h2, H⟩ := bs H
 obtain ⟨r3, h4, H⟩ := bs H
 refine rn [2] 1 [] [hG 2 [] [0] none (impl_reader__number_2.fn h2), hG 3 [] [0] none (impl_reader__take_2.fn h4)] ?_
 refine Tri.ret ?_
 obtain rfl := si H;exact endsG (.inr rfl) (by kernel_rfl)
/-! impl_hasPlace: function 45 -/
def impl_hasPlace.e1 (k : Nat) (a0 : Int) : Option Bool := if a0 = 3 then (some true) else (some (decide (a0 = 13)))
def impl_hasPlace.f (k : Nat) (a0 : Int) : Option Bool := (impl_hasPlace.e1 k a0).bind fun y2 => some y2
theorem impl_hasPlace.fn {k : Nat} {a0 : Int} {r : Bool} (H : impl_hasPlace.f k a0 = some r) : Fn Tryz.prog 45 [oI a0] [] (oB r) [] := by
 refine Fn.bd [2] Tryz.func45 ?_
 refine rn [0] 0 [] [] ?_
 refine jo H (fun y2 => ⟨9, [(2, oB y2)], [], 0, []⟩) (fun y2 H => ?_) fun v4 h3 H => ?_
 ·refine Tri.ret ?_
  obtain rfl := si H;exact eR
 rcases ite_some h3 with ⟨h1, h3⟩ | ⟨h1, h3⟩
 ·refine rl [2] 0 [] [hB 1 (decide_eq_true h1)] ?_
  exact pf true h3
 refine rl [2] 0 [] [hB 1 (decide_eq_false h1)] ?_
 exact pf (decide (a0 = 13)) h3
/-! impl_reader__code_2: function 31 -/
def impl_reader__code_2.e1 (k : Nat) (b0 : S3ddd55) (r66 : (Int × Int × Bool)) (r68 : (Int × Int × Bool)) : Option (Int × Bool × Int × ByteArray × ByteArray) := (impl_hasPlace.f k r66.1).bind fun r70 => if r70 = true then ((impl_reader__number_2.f k 1 (⟨b0.f0, r68.2.1, r68.2.2⟩ : S3ddd55)).bind fun r73 => (impl_reader__text_2.f k (⟨b0.f0, r73.2.1, r73.2.2⟩ : S3ddd55)).bind fun r75 => (impl_reader__text_2.f k (⟨b0.f0, r75.2.1, r75.2.2⟩ : S3ddd55)).bind fun r77 => some (r77.2.1, r77.2.2, r73.1, r75.1, r77.1)) else (some (r68.2.1, r68.2.2, 0, (⟨#[]⟩ : ByteArray), (⟨#[]⟩ : ByteArray)))
def impl_reader__code_2.l2 : Nat → S3ddd55 → (Int × Int × Bool) → Int → Int → Bool → (List SIns) → Option (Int × Bool × (List SIns))
  | 0, _, _, _, _, _, _ => none
  | k + 1, b0, r9, z60, z61, z62, z63 => if z60 < r9.1 then (if z62 = true then (some (z61, z62, z63)) else ((impl_reader__number_2.f k 1 (⟨b0.f0, z61, z62⟩ : S3ddd55)).bind fun r66 => (impl_reader__number_2.f k 8 (⟨b0.f0, r66.2.1, r66.2.2⟩ : S3ddd55)).bind fun r68 => (impl_reader__code_2.e1 k b0 r66 r68).bind fun v => match v with | (y79, y80, y81, y82, y83) => if (z63 ++ ([(⟨r66.1, r68.1, y81, y82, y83⟩ : SIns)] : List SIns)).length * 56 ≤ 140737488355328 then (impl_reader__code_2.l2 k b0 r9 (w64 (z60 + 1)) y79 y80 (z63 ++ ([(⟨r66.1, r68.1, y81, y82, y83⟩ : SIns)] : List SIns))) else none)) else (some (z61, z62, z63))
def impl_reader__code_2.e3 (k : Nat) (b0 : S3ddd55) (r7 : (Int × Int × Bool)) : Option (Int × Bool × (List SIns)) := (impl_reader__number_2.f k 2 (⟨b0.f0, r7.2.1, r7.2.2⟩ : S3ddd55)).bind fun r9 => impl_reader__code_2.l2 k b0 r9 0 r9.2.1 r9.2.2 ([] : List SIns)
def impl_reader__code_2.f (k : Nat) (b0 : S3ddd55) : Option (SCode × Int × Bool × ByteArray × Int × Int × Int × (List SIns)) := (impl_reader__text_2.f k b0).bind fun r1 => (impl_reader__number_2.f k 1 (⟨b0.f0, r1.2.1, r1.2.2⟩ : S3ddd55)).bind fun r3 => (impl_reader__number_2.f k 2 (⟨b0.f0, r3.2.1, r3.2.2⟩ : S3ddd55)).bind fun r5 => (impl_reader__number_2.f k 1 (⟨b0.f0, r5.2.1, r5.2.2⟩ : S3ddd55)).bind fun r7 => (impl_reader__code_2.e3 k b0 r7).bind fun v => match v with | (y88, y89, y90) => some ((⟨r1.1, r3.1, r5.1, r7.1, y90⟩ : SCode), y88, y89, r1.1, r3.1, r5.1, r7.1, y90)
theorem impl_reader__code_2.fn {k : Nat} {b0 : S3ddd55} {r : (SCode × Int × Bool × ByteArray × Int × Int × Int × (List SIns))} (H : impl_reader__code_2.f k b0 = some r) : FnG Tryz.prog 31 [o1 (.ref 0 0)] [] [eS3ddd55 b0] (ag (eSCode r.1)) [] [[cS b0.f0, cI r.2.1, cB r.2.2.1], [cS r.2.2.2.1, cI r.2.2.2.2.1, cI r.2.2.2.2.2.1, cI r.2.2.2.2.2.2.1, .sl 5 (List.map eSIns r.2.2.2.2.2.2.2)]] := by
 refine FnG.bodyR (rv := [(2, some 56)]) Tryz.func31 rfl rfl (by decide) (by decide) (Nat.le_of_ble_eq_true rfl) rfl (Nat.le_of_ble_eq_true rfl) ?_
 refine rn [0, 2] 2 [] [] ?_
 obtain ⟨r1, h2, H⟩ := bs H
 obtain ⟨r3, h4, H⟩ := bs H
 obtain ⟨r5, h6, H⟩ := bs H
 obtain ⟨r7, h8, H⟩ := bs H
 refine rn [0, 2, 3] 3 [] [hG 1 [] [0] none (impl_reader__text_2.fn h2), hG 3 [] [0] none (impl_reader__number_2.fn h4), hG 5 [] [0] none (impl_reader__number_2.fn h6), hG 7 [] [0] none (impl_reader__number_2.fn h8)] ?_
 refine jo H (fun w => ⟨47, [(2, o1 (.ref 1 0)), (3, o1 (.ref 2 0))], [[cS b0.f0, cI w.1, cB w.2.1], [cS (⟨#[]⟩ : ByteArray), cI 0, cI 0, cI 0, .nl], [cS r1.1, cI r3.1, cI r5.1, cI r7.1, .own 58 (List.map eSIns w.2.2)]], 1, []⟩) (fun w H => ?_) fun v92 h91 H => ?_
 ·obtain ⟨y88, y89, y90⟩ := w
  refine rn [2] 2 [] [q0 1 (.frz (.b 2 4))] ?_
  refine Tri.ret ?_
  obtain rfl := si H;exact endsR (.inr rfl) (by kernel_rfl)
 obtain ⟨r9, h10, h91⟩ := bs h91
 refine rn [0, 2, 3, 15, 16] 3 [] [hG 1 [] [0] none (impl_reader__number_2.fn h10)] ?_
 refine bl ?_
 refine fx [0, 2, 3, 15, 16] 3 [.own (.b 2 4) 58] ?_
 refine lo (Int × Int × Bool × (List SIns)) k (fun k x => impl_reader__code_2.l2 k b0 r9 x.1 x.2.1 x.2.2.1 x.2.2.2) (fun x => ⟨47, [(0, o1 (.ref 0 0)), (2, o1 (.ref 1 0)), (3, o1 (.ref 2 0)), (15, oI r9.1), (16, oI x.1)], [[cS b0.f0, cI x.2.1, cB x.2.2.1], [cS (⟨#[]⟩ : ByteArray), cI 0, cI 0, cI 0, .nl], [cS r1.1, cI r3.1, cI r5.1, cI r7.1, .own 58 (List.map eSIns x.2.2.2)]], 1, []⟩) (0, r9.2.1, r9.2.2, ([] : List SIns)) h91 fun k x h91 IH87 => ?_
 obtain ⟨z60, z61, z62, z63⟩ := x
 rw [impl_reader__code_2.l2.eq_2] at h91
 refine rn [0, 2, 3, 15, 16, 17] 3 [] [] ?_
 refine sq ?_
 refine ci h91 (fun h64 h91 => ?_) fun h64 h91 => ?_
 ·refine sk ?_
  refine sq ?_
  refine bl ?_
  refine sq ?_
  refine rn [0, 2, 3, 15, 16, 21] 3 [] [] ?_
  refine cb h91 (fun h65 h91 => ?_) fun h65 h91 => ?_
  ·refine fx [2, 3] 3 [] ?_
   refine xi ?_
   exact pf (z61, z62, z63) h91
  refine sk ?_
  obtain ⟨r66, h67, h91⟩ := bs h91
  obtain ⟨r68, h69, h91⟩ := bs h91
  refine rn [0, 2, 3, 4, 15, 16] 4 [] [hG 1 [] [0] none (impl_reader__number_2.fn h67), hG 3 [] [0] none (impl_reader__number_2.fn h69)] ?_
  refine jo h91 (fun w => ⟨47, [(0, o1 (.ref 0 0)), (2, o1 (.ref 1 0)), (3, o1 (.ref 2 0)), (4, o1 (.ref 3 0)), (15, oI r9.1), (16, oI z60)], [[cS b0.f0, cI w.1, cB w.2.1], [cS (⟨#[]⟩ : ByteArray), cI 0, cI 0, cI 0, .nl], [cS r1.1, cI r3.1, cI r5.1, cI r7.1, .own 58 (List.map eSIns z63)], [cI r66.1, cI r68.1, cI w.2.2.1, cS w.2.2.2.1, cS w.2.2.2.2]], 1, []⟩) (fun w h91 => ?_) fun v85 h84 h91 => ?_
  ·obtain ⟨y79, y80, y81, y82, y83⟩ := w
   obtain ⟨h86, h91⟩ := nd h91
   refine rl [0, 2, 3, 15, 16] 3 [] [hA 4 58 eSIns h86] ?_
   refine rl [0, 2, 3, 15, 16] 3 [] [] ?_
   exact lb IH87 (w64 (z60 + 1), y79, y80, z63 ++ ([(⟨r66.1, r68.1, y81, y82, y83⟩ : SIns)] : List SIns)) h91
  obtain ⟨r70, h71, h84⟩ := bs h84
  refine rn [0, 2, 3, 4, 15, 16, 29] 4 [] [hC 2 (impl_hasPlace.fn h71)] ?_
  refine cb h84 (fun h72 h84 => ?_) fun h72 h84 => ?_
  ·obtain ⟨r73, h74, h84⟩ := bs h84
   obtain ⟨r75, h76, h84⟩ := bs h84
   obtain ⟨r77, h78, h84⟩ := bs h84
   refine rl [0, 2, 3, 4, 15, 16] 4 [] [hG 1 [] [0] none (impl_reader__number_2.fn h74), hG 3 [] [0] none (impl_reader__text_2.fn h76), hG 5 [] [0] none (impl_reader__text_2.fn h78)] ?_
   exact pf (r77.2.1, r77.2.2, r73.1, r75.1, r77.1) h84
  refine fx [0, 2, 3, 4, 15, 16] 4 [] ?_
  refine sk ?_
  exact pf (r68.2.1, r68.2.2, 0, (⟨#[]⟩ : ByteArray), (⟨#[]⟩ : ByteArray)) h84
 refine fx [2, 3] 3 [] ?_
 refine xi ?_
 exact pf (z61, z62, z63) h91
/-! impl_reader__ends_1: function 32 -/
def impl_reader__ends_1.e1 (k : Nat) (a0_1 : S3ddd55) : Option Bool := if a0_1.f2 = true then (some false) else (some (decide (a0_1.f1 = (a0_1.f0.size : Int))))
def impl_reader__ends_1.f (k : Nat) (a0_1 : S3ddd55) : Option Bool := (impl_reader__ends_1.e1 k a0_1).bind fun y2 => some y2
theorem impl_reader__ends_1.fn {k : Nat} {a0_1 : S3ddd55} {r : Bool} (H : impl_reader__ends_1.f k a0_1 = some r) : Fn Tryz.prog 32 [o1 (.cel (eS3ddd55 a0_1) 0)] [] (oB r) [] := by
 refine Fn.bd [2] Tryz.func32 ?_
 refine rn [0] 0 [] [] ?_
 refine jo H (fun y2 => ⟨20, [(2, oB y2)], [], 0, []⟩) (fun y2 H => ?_) fun v4 h3 H => ?_
 ·refine Tri.ret ?_
  obtain rfl := si H;exact eR
 rcases iteb_some h3 with ⟨h1, h3⟩ | ⟨h1, h3⟩
 ·refine dl hmix 15 [[], [0], [0, 1], [0, 1, 2], [0, 1, 2, 3], [0, 1, 2, 3, 4], [0, 1, 2, 3, 4, 5], [0, 1, 2, 3, 4, 5, 6], [0, 1, 2, 3, 4, 5, 6, 7], [0, 1, 2, 3, 4, 5, 6, 7, 8], [0, 1, 2, 3, 4, 5], [0, 1, 2, 3, 4, 5, 10], [0, 1, 2, 3, 4, 5, 10, 11], [0, 1, 2, 3, 4, 5, 10, 11, 12], [0, 1, 2, 3, 4, 5, 10, 11, 12, 13], [0, 1, 2, 3, 4, 5, 6, 7, 8, 9, 10, 11, 12, 13, 14], [0, 1, 2, 3, 4, 5, 6, 7, 8, 9, 10, 11, 12, 13, 14, 15], [0, 1, 2, 3, 4, 5, 6, 7, 8, 9, 10, 11, 12, 13, 14, 15, 16]] [2] 0 [] [hB 3 h1] ?_
  exact pf false h3
 refine dl hmix 15 [[], [0], [0, 1], [0, 1, 2], [0, 1, 2, 3], [0, 1, 2, 3, 4], [0, 1, 2, 3, 4, 5], [0, 1, 2, 3, 4, 5, 6], [0, 1, 2, 3, 4, 5, 6, 7], [0, 1, 2, 3, 4, 5, 6, 7, 8], [0, 1, 2, 3, 4, 5], [0, 1, 2, 3, 4, 5, 10], [0, 1, 2, 3, 4, 5, 10, 11], [0, 1, 2, 3, 4, 5, 10, 11, 12], [0, 1, 2, 3, 4, 5, 10, 11, 12, 13], [0, 1, 2, 3, 4, 5, 6, 7, 8, 9, 10, 11, 12, 13, 14], [0, 1, 2, 3, 4, 5, 6, 7, 8, 9, 10, 11, 12, 13, 14, 15], [0, 1, 2, 3, 4, 5, 6, 7, 8, 9, 10, 11, 12, 13, 14, 15, 16]] [2] 0 [] [hB 3 h1] ?_
 exact pf (decide (a0_1.f1 = (a0_1.f0.size : Int))) h3
/-! impl_within: function 48 -/
def impl_within.e1 (k : Nat) (a0 : Int) (a1 : Int) (a2 : Int) : Option Bool := if a1 ≤ a0 then (some (decide (a0 ≤ a2))) else (some false)
def impl_within.f (k : Nat) (a0 : Int) (a1 : Int) (a2 : Int) : Option Bool := (impl_within.e1 k a0 a1 a2).bind fun y2 => some y2
theorem impl_within.fn {k : Nat} {a0 : Int} {a1 : Int} {a2 : Int} {r : Bool} (H : impl_within.f k a0 a1 a2 = some r) : Fn Tryz.prog 48 [oI a0, oI a1, oI a2] [] (oB r) [] := by
 refine Fn.bd [6] Tryz.func48 ?_
 refine rn [0, 1, 2] 0 [] [] ?_
 refine jo H (fun y2 => ⟨15, [(6, oB y2)], [], 0, []⟩) (fun y2 H => ?_) fun v4 h3 H => ?_
 ·refine Tri.ret ?_
  obtain rfl := si H;exact eR
 rcases ite_some h3 with ⟨h1, h3⟩ | ⟨h1, h3⟩
 ·refine rl [6] 0 [] [hB 2 (decide_eq_true h1)] ?_
  exact pf (decide (a0 ≤ a2)) h3
 refine rl [6] 0 [] [hB 2 (decide_eq_false h1)] ?_
 exact pf false h3
/-! impl_isLetter: function 70 -/
def impl_isLetter.e1 (k : Nat) (a0 : Int) : Option Bool := if (97 : Int) ≤ a0 then (if a0 ≤ 122 then (some true) else (if (65 : Int) ≤ a0 then (if a0 ≤ 90 then (some true) else (some (decide (a0 = 95)))) else (some (decide (a0 = 95))))) else (if (65 : Int) ≤ a0 then (if a0 ≤ 90 then (some true) else (some (decide (a0 = 95)))) else (some (decide (a0 = 95))))
def impl_isLetter.f (k : Nat) (a0 : Int) : Option Bool := (impl_isLetter.e1 k a0).bind fun y7 => some y7
theorem impl_isLetter.fn {k : Nat} {a0 : Int} {r : Bool} (H : impl_isLetter.f k a0 = some r) : Fn Tryz.prog 70 [o1 (cK .u8 a0)] [] (oB r) [] := by
 refine Fn.bd [2] Tryz.func70 ?_
 refine rn [0] 0 [] [] ?_
 refine jo H (fun y7 => ⟨21, [(2, oB y7)], [], 0, []⟩) (fun y7 H => ?_) fun v9 h8 H => ?_
 ·refine Tri.ret ?_
  obtain rfl := si H;exact eR
 rcases ite_some h8 with ⟨h1, h8⟩ | ⟨h1, h8⟩
 ·rcases ite_some h8 with ⟨h2, h8⟩ | ⟨h2, h8⟩
  ·refine rl [2] 0 [] [hB 1 (decide_eq_true h1), hB 4 (decide_eq_true h2)] ?_
   exact pf true h8
  rcases ite_some h8 with ⟨h3, h8⟩ | ⟨h3, h8⟩
  ·rcases ite_some h8 with ⟨h4, h8⟩ | ⟨h4, h8⟩
   ·refine rl [2] 0 [] [hB 1 (decide_eq_true h1), hB 4 (decide_eq_false h2), hB 8 (decide_eq_true h3), hB 11 (decide_eq_true h4)] ?_
    exact pf true h8
   refine rl [2] 0 [] [hB 1 (decide_eq_true h1), hB 4 (decide_eq_false h2), hB 8 (decide_eq_true h3), hB 11 (decide_eq_false h4)] ?_
   exact pf (decide (a0 = 95)) h8
  refine rl [2] 0 [] [hB 1 (decide_eq_true h1), hB 4 (decide_eq_false h2), hB 8 (decide_eq_false h3)] ?_
  exact pf (decide (a0 = 95)) h8
 rcases ite_some h8 with ⟨h5, h8⟩ | ⟨h5, h8⟩
 ·rcases ite_some h8 with ⟨h6, h8⟩ | ⟨h6, h8⟩
  ·refine rl [2] 0 [] [hB 1 (decide_eq_false h1), hB 8 (decide_eq_true h5), hB 11 (decide_eq_true h6)] ?_
   exact pf true h8
  refine rl [2] 0 [] [hB 1 (decide_eq_false h1), hB 8 (decide_eq_true h5), hB 11 (decide_eq_false h6)] ?_
  exact pf (decide (a0 = 95)) h8
 refine rl [2] 0 [] [hB 1 (decide_eq_false h1), hB 8 (decide_eq_false h5)] ?_
 exact pf (decide (a0 = 95)) h8
/-! impl_isDigit: function 87 -/
def impl_isDigit.e1 (k : Nat) (a0 : Int) : Option Bool := if (48 : Int) ≤ a0 then (some (decide (a0 ≤ 57))) else (some false)
def impl_isDigit.f (k : Nat) (a0 : Int) : Option Bool := (impl_isDigit.e1 k a0).bind fun y2 => some y2
theorem impl_isDigit.fn {k : Nat} {a0 : Int} {r : Bool} (H : impl_isDigit.f k a0 = some r) : Fn Tryz.prog 87 [o1 (cK .u8 a0)] [] (oB r) [] := by
 refine Fn.bd [2] Tryz.func87 ?_
 refine rn [0] 0 [] [] ?_
 refine jo H (fun y2 => ⟨9, [(2, oB y2)], [], 0, []⟩) (fun y2 H => ?_) fun v4 h3 H => ?_
 ·refine Tri.ret ?_
  obtain rfl := si H;exact eR
 rcases ite_some h3 with ⟨h1, h3⟩ | ⟨h1, h3⟩
 ·refine rl [2] 0 [] [hB 1 (decide_eq_true h1)] ?_
  exact pf (decide (a0 ≤ 57)) h3
 refine rl [2] 0 [] [hB 1 (decide_eq_false h1)] ?_
 exact pf false h3
/-! impl_isWordByte: function 72 -/
def impl_isWordByte.e1 (k : Nat) (a0 : Int) : Option Bool := (impl_isLetter.f k a0).bind fun r1 => if r1 = true then (some true) else ((impl_isDigit.f k a0).bind fun r4 => some r4)
def impl_isWordByte.f (k : Nat) (a0 : Int) : Option Bool := (impl_isWordByte.e1 k a0).bind fun y6 => some y6
theorem impl_isWordByte.fn {k : Nat} {a0 : Int} {r : Bool} (H : impl_isWordByte.f k a0 = some r) : Fn Tryz.prog 72 [o1 (cK .u8 a0)] [] (oB r) [] := by
 refine Fn.bd [2] Tryz.func72 ?_
 refine rn [0] 0 [] [] ?_
 refine jo H (fun y6 => ⟨9, [(2, oB y6)], [], 0, []⟩) (fun y6 H => ?_) fun v8 h7 H => ?_
 ·refine Tri.ret ?_
  obtain rfl := si H;exact eR
 obtain ⟨r1, h2, h7⟩ := bs h7
 rcases iteb_some h7 with ⟨h3, h7⟩ | ⟨h3, h7⟩
 ·refine rl [2] 0 [] [hC 1 (impl_isLetter.fn h2), hB 1 h3] ?_
  exact pf true h7
 obtain ⟨r4, h5, h7⟩ := bs h7
 refine rl [2] 0 [] [hC 1 (impl_isLetter.fn h2), hB 1 h3, hC 4 (impl_isDigit.fn h5)] ?_
 exact pf r4 h7
/-! impl_areAll_byte__1_1: function 86 -/
def impl_areAll_byte__1_1.f (k : Nat) (a0 : Int) : Option Bool := (impl_isWordByte.f k a0).bind fun r1 => some (!r1)
theorem impl_areAll_byte__1_1.fn {k : Nat} {a0 : Int} {r : Bool} (H : impl_areAll_byte__1_1.f k a0 = some r) : Fn Tryz.prog 86 [o1 (cK .u8 a0), o1 (.cel ([.sc (.func (.func 72) #[] #[])]) 0)] [] (oB r) [] := by
 refine Fn.bd [3] Tryz.func86 ?_
 refine rn [0, 1] 0 [] [] ?_
 obtain ⟨r1, h2, H⟩ := bs H
 refine rn [3] 0 [] [hC 2 (impl_isWordByte.fn h2)] ?_
 refine Tri.ret ?_
 obtain rfl := si H;exact eR
/-! slices_IndexFunc___byte_byte_1: function 97 -/
def slices_IndexFunc___byte_byte_1.l1 : Nat → (List Int) → Int → Option (Int ⊕ Unit)
  | 0, _, _ => none
  | k + 1, a0, z7 => if z7 < (a0.length : Int) then ((at? a0 z7).bind fun x9 => (impl_areAll_byte__1_1.f k x9).bind fun r11 => if r11 = true then (some (.inl z7)) else (slices_IndexFunc___byte_byte_1.l1 k a0 (w64 (z7 + 1)))) else (some (.inr ()))
def slices_IndexFunc___byte_byte_1.e2 (k : Nat) (a0 : (List Int)) : Option (Int ⊕ Unit) := slices_IndexFunc___byte_byte_1.l1 k a0 0
def slices_IndexFunc___byte_byte_1.f (k : Nat) (a0 : (List Int)) : Option Int := (slices_IndexFunc___byte_byte_1.e2 k a0).bind fun v => match v with | .inl r => some r | .inr _ => some (-1)
theorem slices_IndexFunc___byte_byte_1.fn {k : Nat} {a0 : (List Int)} {r : Int} (H : slices_IndexFunc___byte_byte_1.f k a0 = some r) : Fn Tryz.prog 97 [o1 (.sl 1 (List.map (eK .u8) a0)), o1 (.fn 86 [.cel ([.sc (.func (.func 72) #[] #[])]) 0])] [] (oI r) [] := by
 refine Fn.bd [4] Tryz.func97 ?_
 refine rn [0, 1] 0 [] [] ?_
 refine jr H (fun _ => ⟨19, [], [], 0, []⟩) (fun _ H => ?_) fun v16 h15 H => ?_
 ·refine rn [4] 0 [] [] ?_
  refine Tri.ret ?_
  obtain rfl := si H;exact eR
 refine rn [0, 1, 7, 8] 0 [] [hL 1 (eK .u8) a0] ?_
 refine bl ?_
 refine lo Int k (fun k x => slices_IndexFunc___byte_byte_1.l1 k a0 x) (fun x => ⟨19, [(0, o1 (.sl 1 (List.map (eK .u8) a0))), (1, o1 (.fn 86 [.cel ([.sc (.func (.func 72) #[] #[])]) 0])), (7, oI (a0.length : Int)), (8, oI x)], [], 0, []⟩) 0 h15 fun k z7 h15 IH14 => ?_
 rw [slices_IndexFunc___byte_byte_1.l1.eq_2] at h15
 refine rn [0, 1, 7, 8, 9] 0 [] [] ?_
 refine sq ?_
 refine ci h15 (fun h8 h15 => ?_) fun h8 h15 => ?_
 ·refine sk ?_
  refine sq ?_
  refine bl ?_
  refine rn [0, 1, 5, 7, 8] 0 [] [] ?_
  obtain ⟨x9, h10, h15⟩ := bs h15
  obtain ⟨r11, h12, h15⟩ := bs h15
  refine rn [0, 1, 5, 7, 8, 16] 0 [] [hE 3 (eK .u8) h10, hC 5 (impl_areAll_byte__1_1.fn h12)] ?_
  refine cb h15 (fun h13 h15 => ?_) fun h13 h15 => ?_
  ·refine rn [4] 0 [] [] ?_
   refine Tri.ret ?_
   obtain rfl := si h15;obtain rfl := si H;exact eR
  refine sk ?_
  refine rl [0, 1, 7, 8] 0 [] [] ?_
  exact lb IH14 (w64 (z7 + 1)) h15
 refine fx [] 0 [] ?_
 refine xi ?_
 exact pe () h15
/-! slices_ContainsFunc___byte_byte_1: function 85 -/
def slices_ContainsFunc___byte_byte_1.f (k : Nat) (a0 : (List Int)) : Option Bool := (slices_IndexFunc___byte_byte_1.f k a0).bind fun r1 => some (decide ((0 : Int) ≤ r1))
theorem slices_ContainsFunc___byte_byte_1.fn {k : Nat} {a0 : (List Int)} {r : Bool} (H : slices_ContainsFunc___byte_byte_1.f k a0 = some r) : Fn Tryz.prog 85 [o1 (.sl 1 (List.map (eK .u8) a0)), o1 (.fn 86 [.cel ([.sc (.func (.func 72) #[] #[])]) 0])] [] (oB r) [] := by
 refine Fn.bd [4] Tryz.func85 ?_
 refine rn [0, 1] 0 [] [] ?_
 obtain ⟨r1, h2, H⟩ := bs H
 refine rn [4] 0 [] [hC 2 (slices_IndexFunc___byte_byte_1.fn h2)] ?_
 refine Tri.ret ?_
 obtain rfl := si H;exact eR
/-! impl_areAll_byte_1: function 71 -/
def impl_areAll_byte_1.f (k : Nat) (a0 : (List Int)) : Option Bool := (slices_ContainsFunc___byte_byte_1.f k a0).bind fun r1 => some (!r1)
theorem impl_areAll_byte_1.fn {k : Nat} {a0 : (List Int)} {r : Bool} (H : impl_areAll_byte_1.f k a0 = some r) : Fn Tryz.prog 71 [o1 (.sl 1 (List.map (eK .u8) a0)), o1 (.sc (.func (.func 72) #[] #[]))] [] (oB r) [] := by
 refine Fn.bd [4] Tryz.func71 ?_
 refine rn [0, 3] 1 [] [] ?_
 obtain ⟨r1, h2, H⟩ := bs H
 refine rn [4] 0 [] [hC 2 (slices_ContainsFunc___byte_byte_1.fn h2)] ?_
 refine Tri.ret ?_
 obtain rfl := si H;exact eR
/-! impl_NameOK: function 58 -/
def impl_NameOK.e1 (k : Nat) (a0 : ByteArray) : Option Bool := (impl_within.f k (a0.size : Int) 1 40).bind fun r1 => if r1 = true then (if (0 : Int) ≤ 0 then (if 0 < (a0.size : Int) then ((impl_isLetter.f k (byteAt a0 0)).bind fun r6 => if r6 = true then ((impl_areAll_byte_1.f k (bytesOf a0)).bind fun r9 => some r9) else (some false)) else none) else none) else (some false)
def impl_NameOK.f (k : Nat) (a0 : ByteArray) : Option Bool := (impl_NameOK.e1 k a0).bind fun y11 => some y11
theorem impl_NameOK.fn {k : Nat} {a0 : ByteArray} {r : Bool} (H : impl_NameOK.f k a0 = some r) : Fn Tryz.prog 58 [oS a0] [] (oB r) [] := by
 refine Fn.bd [2] Tryz.func58 ?_
 refine rn [0] 0 [] [] ?_
 refine jo H (fun y11 => ⟨16, [(2, oB y11)], [], 0, []⟩) (fun y11 H => ?_) fun v13 h12 H => ?_
 ·refine Tri.ret ?_
  obtain rfl := si H;exact eR
 obtain ⟨r1, h2, h12⟩ := bs h12
 rcases iteb_some h12 with ⟨h3, h12⟩ | ⟨h3, h12⟩
 ·obtain ⟨h4, h12⟩ := nd h12
  obtain ⟨h5, h12⟩ := nd h12
  obtain ⟨r6, h7, h12⟩ := bs h12
  rcases iteb_some h12 with ⟨h8, h12⟩ | ⟨h8, h12⟩
  ·obtain ⟨r9, h10, h12⟩ := bs h12
   refine rl [2] 0 [] [hC 2 (impl_within.fn h2), hB 2 h3, p2 h4 h5, hC 6 (impl_isLetter.fn h7), hB 6 h8, hC 11 (impl_areAll_byte_1.fn h10)] ?_
   exact pf r9 h12
  refine rl [2] 0 [] [hC 2 (impl_within.fn h2), hB 2 h3, p2 h4 h5, hC 6 (impl_isLetter.fn h7), hB 6 h8] ?_
  exact pf false h12
 refine rl [2] 0 [] [hC 2 (impl_within.fn h2), hB 2 h3] ?_
 exact pf false h12
/-! impl_keys: function 74 -/
def impl_keys.f (k : Nat) : Option (List ByteArray) := (strings_Fields.f k (⟨#[77, 79, 68, 85, 76, 69, 32, 73, 77, 80, 79, 82, 84, 32, 67, 79, 78, 83, 84, 32, 86, 65, 82, 32, 80, 82, 79, 67, 69, 68, 85, 82, 69, 32, 66, 69, 71, 73, 78, 32, 69, 78, 68, 32, 73, 70, 32, 84, 72, 69, 78, 32, 69, 76, 83, 73, 70, 32, 69, 76, 83, 69, 32, 87, 72, 73, 76, 69, 32, 68, 79, 32, 82, 69, 84, 85, 82, 78, 32, 79, 82, 32, 68, 73, 86, 32, 77, 79, 68, 32, 84, 82, 85, 69, 32, 70, 65, 76, 83, 69, 32, 65, 82, 82, 65, 89, 32, 79, 70, 32, 73, 78, 84, 69, 71, 69, 82, 32, 66, 79, 79, 76, 69, 65, 78, 32, 67, 72, 65, 82, 32, 87, 82, 73, 84, 69, 32, 82, 69, 65, 68, 32, 79, 82, 68, 32, 67, 72, 82, 32, 76, 69, 78]⟩ : ByteArray)).bind fun r1 => some r1
theorem impl_keys.fn {k : Nat} {r : (List ByteArray)} (H : impl_keys.f k  = some r) : Fn Tryz.prog 74 [] [] (o1 (.own 9 (List.map eS r))) [] := by
 refine Fn.bd [0] Tryz.func74 ?_
 refine rn [] 0 [] [] ?_
 obtain ⟨r1, h2, H⟩ := bs H
 refine rn [0] 0 [] [hC 0 (strings_Fields.fn k (⟨#[77, 79, 68, 85, 76, 69, 32, 73, 77, 80, 79, 82, 84, 32, 67, 79, 78, 83, 84, 32, 86, 65, 82, 32, 80, 82, 79, 67, 69, 68, 85, 82, 69, 32, 66, 69, 71, 73, 78, 32, 69, 78, 68, 32, 73, 70, 32, 84, 72, 69, 78, 32, 69, 76, 83, 73, 70, 32, 69, 76, 83, 69, 32, 87, 72, 73, 76, 69, 32, 68, 79, 32, 82, 69, 84, 85, 82, 78, 32, 79, 82, 32, 68, 73, 86, 32, 77, 79, 68, 32, 84, 82, 85, 69, 32, 70, 65, 76, 83, 69, 32, 65, 82, 82, 65, 89, 32, 79, 70, 32, 73, 78, 84, 69, 71, 69, 82, 32, 66, 79, 79, 76, 69, 65, 78, 32, 67, 72, 65, 82, 32, 87, 82, 73, 84, 69, 32, 82, 69, 65, 68, 32, 79, 82, 68, 32, 67, 72, 82, 32, 76, 69, 78]⟩ : ByteArray) r1 h2) (show (List.all [.own 9 (List.map eS r1)] PC.flatB) = true by simp [PC.flatB, PC.scalar, cI, cK, cB, cS, eS])] ?_
 refine Tri.ret ?_
 obtain rfl := si H;exact eR
/-! slices_Index___string_string: function 88 -/
def slices_Index___string_string.l1 : Nat → (List ByteArray) → ByteArray → Int → Option (Int ⊕ Unit)
  | 0, _, _, _ => none
  | k + 1, a0, a1, z5 => if z5 < (a0.length : Int) then ((at? a0 z5).bind fun x7 => if a1 = x7 then (some (.inl z5)) else (slices_Index___string_string.l1 k a0 a1 (w64 (z5 + 1)))) else (some (.inr ()))
def slices_Index___string_string.e2 (k : Nat) (a0 : (List ByteArray)) (a1 : ByteArray) : Option (Int ⊕ Unit) := slices_Index___string_string.l1 k a0 a1 0
def slices_Index___string_string.f (k : Nat) (a0 : (List ByteArray)) (a1 : ByteArray) : Option Int := (slices_Index___string_string.e2 k a0 a1).bind fun v => match v with | .inl r => some r | .inr _ => some (-1)
theorem slices_Index___string_string.fn {k : Nat} {a0 : (List ByteArray)} {a1 : ByteArray} {r : Int} (H : slices_Index___string_string.f k a0 a1 = some r) : Fn Tryz.prog 88 [o1 (.sl 1 (List.map eS a0)), oS a1] [] (oI r) [] := by
 refine Fn.bd [4] Tryz.func88 ?_
 refine rn [0, 1] 0 [] [] ?_
 refine jr H (fun _ => ⟨19, [], [], 0, []⟩) (fun _ H => ?_) fun v12 h11 H => ?_
 ·refine rn [4] 0 [] [] ?_
  refine Tri.ret ?_
  obtain rfl := si H;exact eR
 refine rn [0, 1, 7, 8] 0 [] [hL 1 eS a0] ?_
 refine bl ?_
 refine lo Int k (fun k x => slices_Index___string_string.l1 k a0 a1 x) (fun x => ⟨19, [(0, o1 (.sl 1 (List.map eS a0))), (1, oS a1), (7, oI (a0.length : Int)), (8, oI x)], [], 0, []⟩) 0 h11 fun k z5 h11 IH10 => ?_
 rw [slices_Index___string_string.l1.eq_2] at h11
 refine rn [0, 1, 7, 8, 9] 0 [] [] ?_
 refine sq ?_
 refine ci h11 (fun h6 h11 => ?_) fun h6 h11 => ?_
 ·refine sk ?_
  refine sq ?_
  refine bl ?_
  refine rn [0, 1, 5, 7, 8] 0 [] [] ?_
  obtain ⟨x7, h8, h11⟩ := bs h11
  refine rn [0, 1, 5, 7, 8, 16] 0 [] [hE 3 eS h8] ?_
  refine ci h11 (fun h9 h11 => ?_) fun h9 h11 => ?_
  ·refine rn [4] 0 [] [] ?_
   refine Tri.ret ?_
   obtain rfl := si h11;obtain rfl := si H;exact eR
  refine sk ?_
  refine rl [0, 1, 7, 8] 0 [] [] ?_
  exact lb IH10 (w64 (z5 + 1)) h11
 refine fx [] 0 [] ?_
 refine xi ?_
 exact pe () h11
/-! slices_Contains___string_string: function 73 -/
def slices_Contains___string_string.f (k : Nat) (a0 : (List ByteArray)) (a1 : ByteArray) : Option Bool := (slices_Index___string_string.f k a0 a1).bind fun r1 => some (decide ((0 : Int) ≤ r1))
theorem slices_Contains___string_string.fn {k : Nat} {a0 : (List ByteArray)} {a1 : ByteArray} {r : Bool} (H : slices_Contains___string_string.f k a0 a1 = some r) : Fn Tryz.prog 73 [o1 (.sl 1 (List.map eS a0)), oS a1] [] (oB r) [] := by
 refine Fn.bd [4] Tryz.func73 ?_
 refine rn [0, 1] 0 [] [] ?_
 obtain ⟨r1, h2, H⟩ := bs H
 refine rn [4] 0 [] [hC 2 (slices_Index___string_string.fn h2)] ?_
 refine Tri.ret ?_
 obtain rfl := si H;exact eR
/-! impl_IsKey: function 59 -/
def impl_IsKey.f (k : Nat) (a0 : ByteArray) : Option Bool := (impl_keys.f k).bind fun r1 => (slices_Contains___string_string.f k r1 a0).bind fun r3 => some r3
theorem impl_IsKey.fn {k : Nat} {a0 : ByteArray} {r : Bool} (H : impl_IsKey.f k a0 = some r) : Fn Tryz.prog 59 [oS a0] [] (oB r) [] := by
 refine Fn.bd [2] Tryz.func59 ?_
 refine rn [0] 0 [] [] ?_
 obtain ⟨r1, h2, H⟩ := bs H
 obtain ⟨r3, h4, H⟩ := bs H
 refine rn [2] 0 [] [hC 0 (impl_keys.fn h2) (show (List.all [.own 9 (List.map eS r1)] PC.flatB) = true by simp [PC.flatB, PC.scalar, cI, cK, cB, cS, eS]), hC 2 (slices_Contains___string_string.fn h4)] ?_
 refine Tri.ret ?_
 obtain rfl := si H;exact eR
/-! impl_isName: function 46 -/
def impl_isName.e1 (k : Nat) (a0 : ByteArray) : Option Bool := (impl_NameOK.f k a0).bind fun r1 => if r1 = true then ((impl_IsKey.f k a0).bind fun r4 => some (!r4)) else (some false)
def impl_isName.f (k : Nat) (a0 : ByteArray) : Option Bool := (impl_isName.e1 k a0).bind fun y6 => some y6
theorem impl_isName.fn {k : Nat} {a0 : ByteArray} {r : Bool} (H : impl_isName.f k a0 = some r) : Fn Tryz.prog 46 [oS a0] [] (oB r) [] := by
 refine Fn.bd [2] Tryz.func46 ?_
 refine rn [0] 0 [] [] ?_
 refine jo H (fun y6 => ⟨10, [(2, oB y6)], [], 0, []⟩) (fun y6 H => ?_) fun v8 h7 H => ?_
 ·refine Tri.ret ?_
  obtain rfl := si H;exact eR
 obtain ⟨r1, h2, h7⟩ := bs h7
 rcases iteb_some h7 with ⟨h3, h7⟩ | ⟨h3, h7⟩
 ·obtain ⟨r4, h5, h7⟩ := bs h7
  refine rl [2] 0 [] [hC 1 (impl_NameOK.fn h2), hB 1 h3, hC 4 (impl_IsKey.fn h5)] ?_
  exact pf (!r4) h7
 refine rl [2] 0 [] [hC 1 (impl_NameOK.fn h2), hB 1 h3] ?_
 exact pf false h7
/-! impl_isPrint: function 47 -/
def impl_isPrint.f (k : Nat) (a0 : Int) : Option Bool := (impl_within.f k a0 0 4294967295).bind fun r1 => some r1
theorem impl_isPrint.fn {k : Nat} {a0 : Int} {r : Bool} (H : impl_isPrint.f k a0 = some r) : Fn Tryz.prog 47 [oI a0] [] (oB r) [] := by
 refine Fn.bd [2] Tryz.func47 ?_
 refine rn [0] 0 [] [] ?_
 obtain ⟨r1, h2, H⟩ := bs H
 refine rn [2] 0 [] [hC 1 (impl_within.fn h2)] ?_
 refine Tri.ret ?_
 obtain rfl := si H;exact eR
/-! impl_works: function 90 -/
def impl_works.f (k : Nat) : Option (List ByteArray) := (strings_Fields.f k (⟨#[43, 32, 45, 32, 42, 32, 68, 73, 86, 32, 77, 79, 68, 32, 61, 32, 35, 32, 60, 32, 60, 61, 32, 62, 32, 62, 61]⟩ : ByteArray)).bind fun r1 => some r1
theorem impl_works.fn {k : Nat} {r : (List ByteArray)} (H : impl_works.f k  = some r) : Fn Tryz.prog 90 [] [] (o1 (.own 9 (List.map eS r))) [] := by
 refine Fn.bd [0] Tryz.func90 ?_
 refine rn [] 0 [] [] ?_
 obtain ⟨r1, h2, H⟩ := bs H
 refine rn [0] 0 [] [hC 0 (strings_Fields.fn k (⟨#[43, 32, 45, 32, 42, 32, 68, 73, 86, 32, 77, 79, 68, 32, 61, 32, 35, 32, 60, 32, 60, 61, 32, 62, 32, 62, 61]⟩ : ByteArray) r1 h2) (show (List.all [.own 9 (List.map eS r1)] PC.flatB) = true by simp [PC.flatB, PC.scalar, cI, cK, cB, cS, eS])] ?_
 refine Tri.ret ?_
 obtain rfl := si H;exact eR
/-! impl_isType: function 91 -/
def impl_isType.f (k : Nat) (a0 : Int) : Option Bool := (impl_within.f k a0 1 3).bind fun r1 => some r1
theorem impl_isType.fn {k : Nat} {a0 : Int} {r : Bool} (H : impl_isType.f k a0 = some r) : Fn Tryz.prog 91 [oI a0] [] (oB r) [] := by
 refine Fn.bd [2] Tryz.func91 ?_
 refine rn [0] 0 [] [] ?_
 obtain ⟨r1, h2, H⟩ := bs H
 refine rn [2] 0 [] [hC 1 (impl_within.fn h2)] ?_
 refine Tri.ret ?_
 obtain rfl := si H;exact eR
/-! impl_Code__isIns: function 77 -/
def impl_Code__isIns.e1 (k : Nat) (a1 : SIns) : Option Bool := (impl_isName.f k a1.f3).bind fun r4 => if r4 = true then ((impl_isName.f k a1.f4).bind fun r7 => some (!r7)) else (some true)
def impl_Code__isIns.e2 (k : Nat) (a1 : SIns) : Option Bool := if a1.f3 = (⟨#[]⟩ : ByteArray) then (some (!(decide (a1.f4 = (⟨#[]⟩ : ByteArray))))) else (some true)
def impl_Code__isIns.e3 (k : Nat) (a1 : SIns) : Option (Bool ⊕ Unit) := (impl_hasPlace.f k a1.f0).bind fun r1 => if r1 = true then ((impl_Code__isIns.e1 k a1).bind fun y9 => if y9 = true then (some (.inl false)) else (some (.inr ()))) else ((impl_Code__isIns.e2 k a1).bind fun y14 => if y14 = true then (some (.inl false)) else (some (.inr ())))
def impl_Code__isIns.e4 (k : Nat) (a1 : SIns) : Option Bool := if a1.f0 = 13 then (some false) else (some (!(decide (a1.f2 = 0))))
def impl_Code__isIns.e5 (k : Nat) (a1 : SIns) : Option Bool := if a1.f0 = 11 then (some (decide (a1.f0 = 11))) else (some (decide (a1.f0 = 12)))
def impl_Code__isIns.e6 (k : Nat) (a1 : SIns) : Option Bool := (impl_within.f k a1.f1 0 20).bind fun r45 => if r45 = true then ((impl_within.f k a1.f2 0 1).bind fun r48 => some r48) else (some false)
def impl_Code__isIns.e7 (k : Nat) (a1 : SIns) : Option Bool := if a1.f1 = 1 then (some true) else (some (decide (a1.f1 = 3)))
def impl_Code__isIns.e8 (k : Nat) (a1 : SIns) : Option Bool := (impl_within.f k a1.f0 1 17).bind fun r65 => if r65 = true then (some (decide (a1.f1 = 0))) else (some false)
def impl_Code__isIns.f (k : Nat) (a0 : SCode) (a1 : SIns) : Option Bool := (impl_Code__isIns.e3 k a1).bind fun v => match v with | .inl r => some r | .inr _ => (impl_Code__isIns.e4 k a1).bind fun y21 => if y21 = true then (some false) else (if a1.f0 = 1 then (some true) else (if a1.f0 = 2 then ((impl_within.f k a1.f1 0 (w64 (a0.f2 - 1))).bind fun r27 => some r27) else (if a1.f0 = 6 then ((impl_within.f k a1.f1 1 100).bind fun r30 => some r30) else (if a1.f0 = 7 then ((impl_works.f k).bind fun r33 => (impl_within.f k a1.f1 0 (w64 ((r33.length : Int) - 1))).bind fun r35 => some r35) else ((impl_Code__isIns.e5 k a1).bind fun y38 => if y38 = true then ((impl_within.f k a1.f1 0 (w64 ((a0.f4.length : Int) - 1))).bind fun r42 => some r42) else (if a1.f0 = 13 then ((impl_Code__isIns.e6 k a1).bind fun y50 => some y50) else (if a1.f0 = 14 then (some (decide (a1.f1 = a0.f3))) else (if a1.f0 = 15 then ((impl_isType.f k a1.f1).bind fun r55 => some r55) else (if a1.f0 = 16 then ((impl_Code__isIns.e7 k a1).bind fun y59 => some y59) else (if a1.f0 = 17 then ((impl_within.f k a1.f1 1 5).bind fun r63 => some r63) else ((impl_Code__isIns.e8 k a1).bind fun y68 => some y68)))))))))))
theorem impl_Code__isIns.fn {k : Nat} {a0 : SCode} {a1 : SIns} {r : Bool} (H : impl_Code__isIns.f k a0 a1 = some r) : Fn Tryz.prog 77 [ag (eSCode a0), ag (eSIns a1)] [] (oB r) [] := by
 refine Fn.bd [4] Tryz.func77 ?_
 refine rn [2, 3] 2 [] [] ?_
 refine jr H (fun _ => ⟨114, [(2, o1 (.ref 0 0)), (3, o1 (.ref 1 0))], [eSCode a0, eSIns a1], 0, []⟩) (fun _ H => ?_) fun v19 h18 H => ?_
 ·refine sq ?_
  refine jo H (fun y21 => ⟨114, [(2, o1 (.ref 0 0)), (3, o1 (.ref 1 0)), (33, oB y21)], [eSCode a0, eSIns a1], 0, []⟩) (fun y21 H => ?_) fun v23 h22 H => ?_
  ·refine cb H (fun h24 H => ?_) fun h24 H => ?_
   ·refine rn [4] 0 [] [] ?_
    refine Tri.ret ?_
    obtain rfl := si H;exact eR
   refine sk ?_
   refine sq ?_
   refine rn [2, 3, 35] 2 [] [] ?_
   refine bl ?_
   refine rn [2, 3, 35, 36] 2 [] [] ?_
   refine ci H (fun h25 H => ?_) fun h25 H => ?_
   ·refine rn [4] 0 [] [] ?_
    refine Tri.ret ?_
    obtain rfl := si H;exact eR
   refine rn [2, 3, 35, 38] 2 [] [] ?_
   refine ci H (fun h26 H => ?_) fun h26 H => ?_
   ·obtain ⟨r27, h28, H⟩ := bs H
    refine rn [4] 0 [] [hC 5 (impl_within.fn h28)] ?_
    refine Tri.ret ?_
    obtain rfl := si H;exact eR
   refine rn [2, 3, 35, 46] 2 [] [] ?_
   refine ci H (fun h29 H => ?_) fun h29 H => ?_
   ·obtain ⟨r30, h31, H⟩ := bs H
    refine rn [4] 0 [] [hC 2 (impl_within.fn h31)] ?_
    refine Tri.ret ?_
    obtain rfl := si H;exact eR
   refine rn [2, 3, 35, 51] 2 [] [] ?_
   refine ci H (fun h32 H => ?_) fun h32 H => ?_
   ·obtain ⟨r33, h34, H⟩ := bs H
    obtain ⟨r35, h36, H⟩ := bs H
    refine dx hmix 5 [[], [0], [], [2], [2, 3], [0, 1, 2, 3, 4], [0, 1, 2, 3, 4, 5]] [4] 0 [] [hC 2 (impl_works.fn h34) (show (List.all [.own 9 (List.map eS r33)] PC.flatB) = true by simp [PC.flatB, PC.scalar, cI, cK, cB, cS, eS]), hL 3 eS r33, hC 5 (impl_within.fn h36)] ⟨114, [(4, oB r35)], [], 0, []⟩ ?_
    refine Tri.ret ?_
    obtain rfl := si H;exact eR
   refine jo H (fun y38 => ⟨114, [(2, o1 (.ref 0 0)), (3, o1 (.ref 1 0)), (35, oI a1.f0), (59, oB y38)], [eSCode a0, eSIns a1], 0, []⟩) (fun y38 H => ?_) fun v40 h39 H => ?_
   ·refine cb H (fun h41 H => ?_) fun h41 H => ?_
    ·obtain ⟨r42, h43, H⟩ := bs H
     refine rn [4] 0 [] [hL 4 eSIns a0.f4, hC 6 (impl_within.fn h43)] ?_
     refine Tri.ret ?_
     obtain rfl := si H;exact eR
    refine rn [2, 3, 35, 69] 2 [] [] ?_
    refine ci H (fun h44 H => ?_) fun h44 H => ?_
    ·refine jo H (fun y50 => ⟨114, [(4, oB y50)], [], 0, []⟩) (fun y50 H => ?_) fun v52 h51 H => ?_
     ·refine Tri.ret ?_
      obtain rfl := si H;exact eR
     obtain ⟨r45, h46, h51⟩ := bs h51
     rcases iteb_some h51 with ⟨h47, h51⟩ | ⟨h47, h51⟩
     ·obtain ⟨r48, h49, h51⟩ := bs h51
      refine rl [4] 0 [] [hC 2 (impl_within.fn h46), hB 2 h47, hC 6 (impl_within.fn h49)] ?_
      exact pf r48 h51
     refine rl [4] 0 [] [hC 2 (impl_within.fn h46), hB 2 h47] ?_
     exact pf false h51
    refine rn [2, 3, 35, 79] 2 [] [] ?_
    refine ci H (fun h53 H => ?_) fun h53 H => ?_
    ·refine rn [4] 0 [] [] ?_
     refine Tri.ret ?_
     obtain rfl := si H;exact eR
    refine rn [3, 35, 86] 2 [] [] ?_
    refine ci H (fun h54 H => ?_) fun h54 H => ?_
    ·obtain ⟨r55, h56, H⟩ := bs H
     refine rn [4] 0 [] [hC 2 (impl_isType.fn h56)] ?_
     refine Tri.ret ?_
     obtain rfl := si H;exact eR
    refine rn [3, 35, 91] 2 [] [] ?_
    refine ci H (fun h57 H => ?_) fun h57 H => ?_
    ·refine jo H (fun y59 => ⟨114, [(4, oB y59)], [], 0, []⟩) (fun y59 H => ?_) fun v61 h60 H => ?_
     ·refine Tri.ret ?_
      obtain rfl := si H;exact eR
     rcases ite_some h60 with ⟨h58, h60⟩ | ⟨h58, h60⟩
     ·refine rl [4] 0 [] [hB 2 (decide_eq_true h58)] ?_
      exact pf true h60
     refine rl [4] 0 [] [hB 2 (decide_eq_false h58)] ?_
     exact pf (decide (a1.f1 = 3)) h60
    refine rn [3, 101] 2 [] [] ?_
    refine ci H (fun h62 H => ?_) fun h62 H => ?_
    ·obtain ⟨r63, h64, H⟩ := bs H
     refine rx [4] 0 [] [hC 2 (impl_within.fn h64)] ⟨114, [(4, oB r63)], [], 0, []⟩ ?_
     refine Tri.ret ?_
     obtain rfl := si H;exact eR
    refine sk ?_
    refine jo H (fun y68 => ⟨114, [(4, oB y68)], [], 0, []⟩) (fun y68 H => ?_) fun v70 h69 H => ?_
    ·refine Tri.ret ?_
     obtain rfl := si H;exact eR
    obtain ⟨r65, h66, h69⟩ := bs h69
    rcases iteb_some h69 with ⟨h67, h69⟩ | ⟨h67, h69⟩
    ·refine rl [4] 0 [] [hC 2 (impl_within.fn h66), hB 2 h67] ?_
     exact pf (decide (a1.f1 = 0)) h69
    refine rl [4] 0 [] [hC 2 (impl_within.fn h66), hB 2 h67] ?_
    exact pf false h69
   refine rx [2, 3, 35, 59] 2 [] [] ⟨114, [(2, o1 (.ref 0 0)), (3, o1 (.ref 1 0)), (35, oI a1.f0), (59, oB (decide (a1.f0 = 11)))], [eSCode a0, eSIns a1], 0, []⟩ ?_
   refine ci h39 (fun h37 h39 => ?_) fun h37 h39 => ?_
   ·refine sk ?_
    exact pf (decide (a1.f0 = 11)) h39
   refine rl [2, 3, 35, 59] 2 [] [] ?_
   exact pf (decide (a1.f0 = 12)) h39
  rcases ite_some h22 with ⟨h20, h22⟩ | ⟨h20, h22⟩
  ·refine rl [2, 3, 33] 2 [] [hB 2 (nF (decide_eq_true h20))] ?_
   exact pf false h22
  refine rl [2, 3, 33] 2 [] [hB 2 (nT (decide_eq_false h20))] ?_
  exact pf (!(decide (a1.f2 = 0))) h22
 obtain ⟨r1, h2, h18⟩ := bs h18
 refine rn [2, 3, 7] 2 [] [hC 2 (impl_hasPlace.fn h2)] ?_
 refine cb h18 (fun h3 h18 => ?_) fun h3 h18 => ?_
 ·refine jo h18 (fun y9 => ⟨114, [(2, o1 (.ref 0 0)), (3, o1 (.ref 1 0)), (17, oB y9)], [eSCode a0, eSIns a1], 0, []⟩) (fun y9 h18 => ?_) fun v11 h10 h18 => ?_
  ·refine cb h18 (fun h12 h18 => ?_) fun h12 h18 => ?_
   ·refine rn [4] 0 [] [] ?_
    refine Tri.ret ?_
    obtain rfl := si h18;obtain rfl := si H;exact eR
   refine fx [2, 3] 2 [] ?_
   refine sk ?_
   exact pe () h18
  obtain ⟨r4, h5, h10⟩ := bs h10
  rcases iteb_some h10 with ⟨h6, h10⟩ | ⟨h6, h10⟩
  ·obtain ⟨r7, h8, h10⟩ := bs h10
   refine rl [2, 3, 17] 2 [] [hC 2 (impl_isName.fn h5), hB 2 h6, hC 7 (impl_isName.fn h8)] ?_
   exact pf (!r7) h10
  refine rl [2, 3, 17] 2 [] [hC 2 (impl_isName.fn h5), hB 2 h6] ?_
  exact pf true h10
 refine jo h18 (fun y14 => ⟨114, [(2, o1 (.ref 0 0)), (3, o1 (.ref 1 0)), (25, oB y14)], [eSCode a0, eSIns a1], 0, []⟩) (fun y14 h18 => ?_) fun v16 h15 h18 => ?_
 ·refine cb h18 (fun h17 h18 => ?_) fun h17 h18 => ?_
  ·refine rn [4] 0 [] [] ?_
   refine Tri.ret ?_
   obtain rfl := si h18;obtain rfl := si H;exact eR
  refine fx [2, 3] 2 [] ?_
  refine sk ?_
  exact pe () h18
 rcases ite_some h15 with ⟨h13, h15⟩ | ⟨h13, h15⟩
 ·refine rl [2, 3, 25] 2 [] [hB 2 (nF (decide_eq_true h13))] ?_
  exact pf (!(decide (a1.f4 = (⟨#[]⟩ : ByteArray)))) h15
 refine rl [2, 3, 25] 2 [] [hB 2 (nT (decide_eq_false h13))] ?_
 exact pf true h15
/-! impl_Code__verify_1_1: function 76 -/
def impl_Code__verify_1_1.f (k : Nat) (a0 : SIns) (a1_1 : SCode) : Option Bool := (impl_Code__isIns.f k a1_1 a0).bind fun r1 => some (!r1)
theorem impl_Code__verify_1_1.fn {k : Nat} {a0 : SIns} {a1_1 : SCode} {r : Bool} (H : impl_Code__verify_1_1.f k a0 a1_1 = some r) : Fn Tryz.prog 76 [ag (eSIns a0), o1 (.cel (eSCode a1_1) 0)] [] (oB r) [] := by
 refine Fn.bd [3] Tryz.func76 ?_
 refine rn [1, 2] 1 [] [] ?_
 obtain ⟨r1, h2, H⟩ := bs H
 refine rn [3] 0 [] [hC 2 (impl_Code__isIns.fn h2)] ?_
 refine Tri.ret ?_
 obtain rfl := si H;exact eR
/-! slices_IndexFunc___impl_Ins_impl_Ins_1: function 75 -/
def slices_IndexFunc___impl_Ins_impl_Ins_1.l1 : Nat → (List SIns) → SCode → Int → Option (Int ⊕ Unit)
  | 0, _, _, _ => none
  | k + 1, a0, a1_1, z7 => if z7 < (a0.length : Int) then ((at? a0 z7).bind fun x9 => (impl_Code__verify_1_1.f k x9 a1_1).bind fun r11 => if r11 = true then (some (.inl z7)) else (slices_IndexFunc___impl_Ins_impl_Ins_1.l1 k a0 a1_1 (w64 (z7 + 1)))) else (some (.inr ()))
def slices_IndexFunc___impl_Ins_impl_Ins_1.e2 (k : Nat) (a0 : (List SIns)) (a1_1 : SCode) : Option (Int ⊕ Unit) := slices_IndexFunc___impl_Ins_impl_Ins_1.l1 k a0 a1_1 0
def slices_IndexFunc___impl_Ins_impl_Ins_1.f (k : Nat) (a0 : (List SIns)) (a1_1 : SCode) : Option Int := (slices_IndexFunc___impl_Ins_impl_Ins_1.e2 k a0 a1_1).bind fun v => match v with | .inl r => some r | .inr _ => some (-1)
theorem slices_IndexFunc___impl_Ins_impl_Ins_1.fn {k : Nat} {a0 : (List SIns)} {a1_1 : SCode} {r : Int} (H : slices_IndexFunc___impl_Ins_impl_Ins_1.f k a0 a1_1 = some r) : Fn Tryz.prog 75 [o1 (.sl 5 (List.map eSIns a0)), o1 (.fn 76 [.cel (eSCode a1_1) 0])] [] (oI r) [] := by
 refine Fn.bd [4] Tryz.func75 ?_
 refine rn [0, 1] 0 [] [] ?_
 refine jr H (fun _ => ⟨19, [], [], 0, []⟩) (fun _ H => ?_) fun v16 h15 H => ?_
 ·refine rn [4] 0 [] [] ?_
  refine Tri.ret ?_
  obtain rfl := si H;exact eR
 refine rn [0, 1, 7, 8] 0 [] [hL 1 eSIns a0] ?_
 refine bl ?_
 refine lo Int k (fun k x => slices_IndexFunc___impl_Ins_impl_Ins_1.l1 k a0 a1_1 x) (fun x => ⟨19, [(0, o1 (.sl 5 (List.map eSIns a0))), (1, o1 (.fn 76 [.cel (eSCode a1_1) 0])), (7, oI (a0.length : Int)), (8, oI x)], [], 0, []⟩) 0 h15 fun k z7 h15 IH14 => ?_
 rw [slices_IndexFunc___impl_Ins_impl_Ins_1.l1.eq_2] at h15
 refine rn [0, 1, 7, 8, 9] 0 [] [] ?_
 refine sq ?_
 refine ci h15 (fun h8 h15 => ?_) fun h8 h15 => ?_
 ·refine sk ?_
  refine sq ?_
  refine bl ?_
  refine rn [0, 1, 5, 7, 8] 0 [] [] ?_
  obtain ⟨x9, h10, h15⟩ := bs h15
  obtain ⟨r11, h12, h15⟩ := bs h15
  refine rn [0, 1, 5, 7, 8, 16] 0 [] [hE 3 eSIns h10, hC 5 (impl_Code__verify_1_1.fn h12)] ?_
  refine cb h15 (fun h13 h15 => ?_) fun h13 h15 => ?_
  ·refine rn [4] 0 [] [] ?_
   refine Tri.ret ?_
   obtain rfl := si h15;obtain rfl := si H;exact eR
  refine sk ?_
  refine rl [0, 1, 7, 8] 0 [] [] ?_
  exact lb IH14 (w64 (z7 + 1)) h15
 refine fx [] 0 [] ?_
 refine xi ?_
 exact pe () h15
/-! slices_Repeat___int_int: function 92 -/
def slices_Repeat___int_int.e1 (k : Nat) (r2 : (Int × Int)) : Option Bool := if (0 : Int) < r2.1 then (some true) else (some (decide ((9223372036854775807 : Int) < r2.2)))
def slices_Repeat___int_int.l2 : Nat → (List Int) → Int → Option (List Int)
  | 0, _, _ => none
  | k + 1, z14, z15 => if z15 < (z14.length : Int) then (if (0 : Int) ≤ z15 then (if z15 ≤ (z14.length : Int) then (slices_Repeat___int_int.l2 k  (cpRow z14 (List.take (Int.toNat (z15 - 0)) (List.drop (Int.toNat 0) z14)) (Int.toNat z15) (Nat.min (List.take (Int.toNat (z15 - 0)) (List.drop (Int.toNat 0) (List.map eI z14))).length (Int.toNat (((List.map eI z14).length : Int) - z15)))) (w64 (z15 + ((Nat.min (List.take (Int.toNat (z15 - 0)) (List.drop (Int.toNat 0) (List.map eI z14))).length (Int.toNat (((List.map eI z14).length : Int) - z15)) : Nat) : Int)))) else none) else none) else (some z14)
def slices_Repeat___int_int.e3 (k : Nat) (a0 : (List Int)) (r2 : (Int × Int)) : Option (List Int) := slices_Repeat___int_int.l2 k  (cpRow (List.replicate (Int.toNat (w64 (r2.2))) (0 : Int) : List Int) a0 0 (Nat.min (List.map eI a0).length ((List.map eI (List.replicate (Int.toNat (w64 (r2.2))) (0 : Int) : List Int)).length))) ((Nat.min (List.map eI a0).length ((List.map eI (List.replicate (Int.toNat (w64 (r2.2))) (0 : Int) : List Int)).length) : Nat) : Int)
def slices_Repeat___int_int.f (k : Nat) (a0 : (List Int)) (a1 : Int) : Option (List Int) := if a1 < 0 then (none) else ((math_bits_Mul.f k (IntKind.u64.wrap ((a0.length : Int))) (IntKind.u64.wrap (a1))).bind fun r2 => (slices_Repeat___int_int.e1 k r2).bind fun y5 => if y5 = true then (none) else (if (0 : Int) ≤ (w64 (r2.2)) then (if (w64 (r2.2)) * 8 ≤ 140737488355328 then ((slices_Repeat___int_int.e3 k a0 r2).bind fun y20 => some y20) else none) else none))
theorem slices_Repeat___int_int.fn {k : Nat} {a0 : (List Int)} {a1 : Int} {r : (List Int)} (H : slices_Repeat___int_int.f k a0 a1 = some r) : Fn Tryz.prog 92 [o1 (.sl 1 (List.map eI a0)), oI a1] [] (o1 (.own 3 (List.map eI r))) [] := by
 refine Fn.bd [4] Tryz.func92 ?_
 refine rn [0, 1] 0 [] [] ?_
 refine sq ?_
 refine rn [0, 1, 10] 0 [] [] ?_
 refine ci H (fun h1 H => ?_) fun h1 H => ?_
 ·cases H
 refine sk ?_
 obtain ⟨r2, h3, H⟩ := bs H
 refine rn [0, 5, 6] 0 [] [hL 1 eI a0, hC 5 (math_bits_Mul.fn k (IntKind.u64.wrap ((a0.length : Int))) (IntKind.u64.wrap (a1)) r2 h3)] ?_
 refine sq ?_
 refine jo H (fun y5 => ⟨48, [(0, o1 (.sl 1 (List.map eI a0))), (6, o1 (cK .u64 r2.2)), (26, oB y5)], [], 0, []⟩) (fun y5 H => ?_) fun v7 h6 H => ?_
 ·refine cb H (fun h8 H => ?_) fun h8 H => ?_
  ·cases H
  refine sk ?_
  obtain ⟨h9, H⟩ := nd H
  obtain ⟨h10, H⟩ := nd H
  refine rn [0, 7] 0 [] [q4 2 (.nz []) (rfl : (w64 (r2.2)) = (w64 (r2.2))) h9 (mkN (b := 8) (by decide) h9 h10) h10, q1 2 (.ov [.own 3 (List.map eI (List.replicate (Int.toNat (w64 (r2.2))) (0 : Int) : List Int))]) (ovrep (e := 3) (n := Int.toNat (w64 (r2.2))) (z := (0 : Int)) (f := eI))] ?_
  refine rn [7, 8] 0 [] [p1 (Nat.le_of_eq (Nat.zero_add (List.map eI (List.replicate (Int.toNat (w64 (r2.2))) (0 : Int) : List Int)).length)), q1 2 (.ovp (.t 7 0) (.own 3 (List.map eI (cpRow (List.replicate (Int.toNat (w64 (r2.2))) (0 : Int) : List Int) a0 0 (Nat.min (List.map eI a0).length ((List.map eI (List.replicate (Int.toNat (w64 (r2.2))) (0 : Int) : List Int)).length)))))) (show PC.own 3 (cpRow (List.map eI (List.replicate (Int.toNat (w64 (r2.2))) (0 : Int) : List Int)) (List.map eI a0) 0 (Nat.min (List.map eI a0).length ((List.map eI (List.replicate (Int.toNat (w64 (r2.2))) (0 : Int) : List Int)).length))) = PC.own 3 (List.map eI (cpRow (List.replicate (Int.toNat (w64 (r2.2))) (0 : Int) : List Int) a0 0 (Nat.min (List.map eI a0).length ((List.map eI (List.replicate (Int.toNat (w64 (r2.2))) (0 : Int) : List Int)).length)))) by simp only [← cpRow_map, List.map_take, List.map_drop])] ?_
  refine jo H (fun y20 => ⟨48, [(7, o1 (.own 3 (List.map eI y20)))], [], 0, []⟩) (fun y20 H => ?_) fun v22 h21 H => ?_
  ·refine rn [4] 0 [] [] ?_
   refine Tri.ret ?_
   obtain rfl := si H;exact eR
  refine bl ?_
  refine lo ((List Int) × Int) k (fun k x => slices_Repeat___int_int.l2 k  x.1 x.2) (fun x => ⟨48, [(7, o1 (.own 3 (List.map eI x.1))), (8, oI x.2)], [], 0, []⟩) (cpRow (List.replicate (Int.toNat (w64 (r2.2))) (0 : Int) : List Int) a0 0 (Nat.min (List.map eI a0).length ((List.map eI (List.replicate (Int.toNat (w64 (r2.2))) (0 : Int) : List Int)).length)), ((Nat.min (List.map eI a0).length ((List.map eI (List.replicate (Int.toNat (w64 (r2.2))) (0 : Int) : List Int)).length) : Nat) : Int)) h21 fun k x h21 IH19 => ?_
  obtain ⟨z14, z15⟩ := x
  rw [slices_Repeat___int_int.l2.eq_2] at h21
  refine sq ?_
  refine rn [7, 8, 37] 0 [] [hL 2 eI z14] ?_
  refine ci h21 (fun h16 h21 => ?_) fun h16 h21 => ?_
  ·refine sk ?_
   refine bl ?_
   obtain ⟨h17, h21⟩ := nd h21
   obtain ⟨h18, h21⟩ := nd h21
   refine deL hmix [[], [], [], [1, 2], [], [], [4, 5], [1, 2, 3, 4, 5, 6], [0, 1, 2, 3, 4, 5, 6, 7], [0, 1, 2, 3, 4, 5, 6, 7, 8]] [7] [⟨48, [(7, o1 (.own 3 (cpRow (List.map eI z14) (List.take (Int.toNat (z15 - 0)) (List.drop (Int.toNat 0) (List.map eI z14))) (Int.toNat z15) (Nat.min (List.take (Int.toNat (z15 - 0)) (List.drop (Int.toNat 0) (List.map eI z14))).length (Int.toNat (((List.map eI z14).length : Int) - z15)))))), (8, oI z15), (37, oB (decide (z15 < (z14.length : Int))))], [], 0, []⟩] [(38, oI z15), (39, o1 (.al (.t 7 0))), (40, oI z15), (41, o1 (.vw (.t 7 0) (Int.toNat z15) (Int.toNat (((List.map eI z14).length : Int) - z15)) 1)), (42, o1 (.al (.t 7 0))), (43, oI z15), (44, o1 (.vw (.t 7 0) (Int.toNat 0) (Int.toNat (z15 - 0)) 1)), (45, oI ((Nat.min (List.take (Int.toNat (z15 - 0)) (List.drop (Int.toNat 0) (List.map eI z14))).length (Int.toNat (((List.map eI z14).length : Int) - z15)) : Nat) : Int))] [7, 8] 0 [] (fun A D B => ([hz B 1, ht D 0, ht D 0, ht D 1, ht D 2, p3 h17 (lenle (f := eI) (l := z14) h18) (Int.le_refl ((List.map eI z14).length : Int)), ht D 3, ht D 4, ht D 5, p3 (show (0 : Int) ≤ 0 by decide) h17 (lenle (f := eI) (l := z14) h18), ht D 6, p1 (vwle (f := eI) (l := z14) (show (0 : Int) ≤ 0 by decide) h17 (lenle (f := eI) (l := z14) h18)), p1 (vwle (f := eI) (l := z14) h17 (lenle (f := eI) (l := z14) h18) (Int.le_refl ((List.map eI z14).length : Int))), hm A D B 0 7 [45, 39, 40, 41, 42, 43, 44, 7, 8, 37]], [q1 8 (.ovp (.t 7 0) (.own 3 (List.map eI (cpRow z14 (List.take (Int.toNat (z15 - 0)) (List.drop (Int.toNat 0) z14)) (Int.toNat z15) (Nat.min (List.take (Int.toNat (z15 - 0)) (List.drop (Int.toNat 0) (List.map eI z14))).length (Int.toNat (((List.map eI z14).length : Int) - z15))))))) (show PC.own 3 (cpRow (List.map eI z14) (List.take (Int.toNat (z15 - 0)) (List.drop (Int.toNat 0) (List.map eI z14))) (Int.toNat z15) (Nat.min (List.take (Int.toNat (z15 - 0)) (List.drop (Int.toNat 0) (List.map eI z14))).length (Int.toNat (((List.map eI z14).length : Int) - z15)))) = PC.own 3 (List.map eI (cpRow z14 (List.take (Int.toNat (z15 - 0)) (List.drop (Int.toNat 0) z14)) (Int.toNat z15) (Nat.min (List.take (Int.toNat (z15 - 0)) (List.drop (Int.toNat 0) (List.map eI z14))).length (Int.toNat (((List.map eI z14).length : Int) - z15))))) by simp only [← cpRow_map, List.map_take, List.map_drop])])) ?_
   exact lb IH19 (cpRow z14 (List.take (Int.toNat (z15 - 0)) (List.drop (Int.toNat 0) z14)) (Int.toNat z15) (Nat.min (List.take (Int.toNat (z15 - 0)) (List.drop (Int.toNat 0) (List.map eI z14))).length (Int.toNat (((List.map eI z14).length : Int) - z15))), w64 (z15 + ((Nat.min (List.take (Int.toNat (z15 - 0)) (List.drop (Int.toNat 0) (List.map eI z14))).length (Int.toNat (((List.map eI z14).length : Int) - z15)) : Nat) : Int))) h21
  refine fx [7] 0 [] ?_
  refine xi ?_
  exact pf z14 h21
 rcases ite_some h6 with ⟨h4, h6⟩ | ⟨h4, h6⟩
 ·refine rl [0, 6, 26] 0 [] [hB 1 (decide_eq_true h4)] ?_
  exact pf true h6
 refine rl [0, 6, 26] 0 [] [hB 1 (decide_eq_false h4)] ?_
 exact pf (decide ((9223372036854775807 : Int) < r2.2)) h6
/-! impl_Ins__stacks: function 101 -/
def impl_Ins__stacks.e1 (k : Nat) (a0 : SIns) : Option Bool := if a0.f0 = 1 then (some (decide (a0.f0 = 1))) else (if a0.f0 = 2 then (some (decide (a0.f0 = 2))) else (some (decide (a0.f0 = 3))))
def impl_Ins__stacks.e2 (k : Nat) (a0 : SIns) : Option Bool := if a0.f0 = 4 then (some (decide (a0.f0 = 4))) else (if a0.f0 = 8 then (some (decide (a0.f0 = 8))) else (if a0.f0 = 9 then (some (decide (a0.f0 = 9))) else (some (decide (a0.f0 = 10)))))
def impl_Ins__stacks.e3 (k : Nat) (a0 : SIns) : Option Bool := if a0.f0 = 6 then (some (decide (a0.f0 = 6))) else (some (decide (a0.f0 = 7)))
def impl_Ins__stacks.e4 (k : Nat) (a0 : SIns) : Option Bool := if a0.f0 = 12 then (some (decide (a0.f0 = 12))) else (if a0.f0 = 15 then (some (decide (a0.f0 = 15))) else (some (decide (a0.f0 = 16))))
def impl_Ins__stacks.f (k : Nat) (a0 : SIns) : Option (Int × Int) := (impl_Ins__stacks.e1 k a0).bind fun y3 => if y3 = true then (some (0, 1)) else ((impl_Ins__stacks.e2 k a0).bind fun y10 => if y10 = true then (some (1, 1)) else (if a0.f0 = 5 then (some (2, 0)) else ((impl_Ins__stacks.e3 k a0).bind fun y16 => if y16 = true then (some (2, 1)) else ((impl_Ins__stacks.e4 k a0).bind fun y22 => if y22 = true then (some (1, 0)) else (if a0.f0 = 13 then (some (a0.f1, a0.f2)) else (if a0.f0 = 14 then (some (a0.f1, 0)) else (some (0, 0))))))))
theorem impl_Ins__stacks.fn {k : Nat} {a0 : SIns} {r : (Int × Int)} (H : impl_Ins__stacks.f k a0 = some r) : Fn Tryz.prog 101 [ag (eSIns a0)] [] (tp [none, none] [cI r.1, cI r.2]) [] := by
 refine Fn.bd [2, 3] Tryz.func101 ?_
 refine rn [1] 1 [] [] ?_
 refine sq ?_
 refine rn [1, 5] 1 [] [] ?_
 refine bl ?_
 refine jo H (fun y3 => ⟨34, [(1, o1 (.ref 0 0)), (5, oI a0.f0), (6, oB y3)], [eSIns a0], 0, []⟩) (fun y3 H => ?_) fun v5 h4 H => ?_
 ·refine cb H (fun h6 H => ?_) fun h6 H => ?_
  ·refine rn [2, 3] 0 [] [] ?_
   refine Tri.ret ?_
   obtain rfl := si H;exact eR
  refine jo H (fun y10 => ⟨34, [(1, o1 (.ref 0 0)), (5, oI a0.f0), (10, oB y10)], [eSIns a0], 0, []⟩) (fun y10 H => ?_) fun v12 h11 H => ?_
  ·refine cb H (fun h13 H => ?_) fun h13 H => ?_
   ·refine rn [2, 3] 0 [] [] ?_
    refine Tri.ret ?_
    obtain rfl := si H;exact eR
   refine rn [1, 5, 15] 1 [] [] ?_
   refine ci H (fun h14 H => ?_) fun h14 H => ?_
   ·refine rn [2, 3] 0 [] [] ?_
    refine Tri.ret ?_
    obtain rfl := si H;exact eR
   refine jo H (fun y16 => ⟨34, [(1, o1 (.ref 0 0)), (5, oI a0.f0), (17, oB y16)], [eSIns a0], 0, []⟩) (fun y16 H => ?_) fun v18 h17 H => ?_
   ·refine cb H (fun h19 H => ?_) fun h19 H => ?_
    ·refine rn [2, 3] 0 [] [] ?_
     refine Tri.ret ?_
     obtain rfl := si H;exact eR
    refine jo H (fun y22 => ⟨34, [(1, o1 (.ref 0 0)), (5, oI a0.f0), (20, oB y22)], [eSIns a0], 0, []⟩) (fun y22 H => ?_) fun v24 h23 H => ?_
    ·refine cb H (fun h25 H => ?_) fun h25 H => ?_
     ·refine rn [2, 3] 0 [] [] ?_
      refine Tri.ret ?_
      obtain rfl := si H;exact eR
     refine rn [1, 5, 24] 1 [] [] ?_
     refine ci H (fun h26 H => ?_) fun h26 H => ?_
     ·refine dn hmix 5 [[], [0], [], [2], [0, 1], [0, 1, 2, 3, 4]] [2, 3] 0 [] [] ?_
      refine Tri.ret ?_
      obtain rfl := si H;exact eR
     refine rn [1, 30] 1 [] [] ?_
     refine ci H (fun h27 H => ?_) fun h27 H => ?_
     ·refine rn [2, 3] 0 [] [] ?_
      refine Tri.ret ?_
      obtain rfl := si H;exact eR
     refine sk ?_
     refine rn [2, 3] 0 [] [] ?_
     refine Tri.ret ?_
     obtain rfl := si H;exact eR
    refine rn [1, 5, 20] 1 [] [] ?_
    refine ci h23 (fun h20 h23 => ?_) fun h20 h23 => ?_
    ·refine sk ?_
     exact pf (decide (a0.f0 = 12)) h23
    refine rn [1, 5, 20] 1 [] [] ?_
    refine ci h23 (fun h21 h23 => ?_) fun h21 h23 => ?_
    ·refine sk ?_
     exact pf (decide (a0.f0 = 15)) h23
    refine rl [1, 5, 20] 1 [] [] ?_
    exact pf (decide (a0.f0 = 16)) h23
   refine rn [1, 5, 17] 1 [] [] ?_
   refine ci h17 (fun h15 h17 => ?_) fun h15 h17 => ?_
   ·refine sk ?_
    exact pf (decide (a0.f0 = 6)) h17
   refine rl [1, 5, 17] 1 [] [] ?_
   exact pf (decide (a0.f0 = 7)) h17
  refine rn [1, 5, 10] 1 [] [] ?_
  refine ci h11 (fun h7 h11 => ?_) fun h7 h11 => ?_
  ·refine sk ?_
   exact pf (decide (a0.f0 = 4)) h11
  refine rn [1, 5, 10] 1 [] [] ?_
  refine ci h11 (fun h8 h11 => ?_) fun h8 h11 => ?_
  ·refine sk ?_
   exact pf (decide (a0.f0 = 8)) h11
  refine rn [1, 5, 10] 1 [] [] ?_
  refine ci h11 (fun h9 h11 => ?_) fun h9 h11 => ?_
  ·refine sk ?_
   exact pf (decide (a0.f0 = 9)) h11
  refine rl [1, 5, 10] 1 [] [] ?_
  exact pf (decide (a0.f0 = 10)) h11
 refine rn [1, 5, 6] 1 [] [] ?_
 refine ci h4 (fun h1 h4 => ?_) fun h1 h4 => ?_
 ·refine sk ?_
  exact pf (decide (a0.f0 = 1)) h4
 refine rn [1, 5, 6] 1 [] [] ?_
 refine ci h4 (fun h2 h4 => ?_) fun h2 h4 => ?_
 ·refine sk ?_
  exact pf (decide (a0.f0 = 2)) h4
 refine rl [1, 5, 6] 1 [] [] ?_
 exact pf (decide (a0.f0 = 3)) h4
/-! impl_Ins__follows: function 102 -/
def impl_Ins__follows.e1 (k : Nat) (a0 : SIns) : Option Bool := if a0.f0 = 14 then (some (decide (a0.f0 = 14))) else (some (decide (a0.f0 = 17)))
def impl_Ins__follows.f (k : Nat) (a0 : SIns) (a1 : Int) : Option (List Int) := if a0.f0 = 11 then (some ([a0.f1] : List Int)) else (if a0.f0 = 12 then (some ([a0.f1, w64 (a1 + 1)] : List Int)) else ((impl_Ins__follows.e1 k a0).bind fun y4 => if y4 = true then (some ([] : List Int)) else (some ([w64 (a1 + 1)] : List Int))))
theorem impl_Ins__follows.fn {k : Nat} {a0 : SIns} {a1 : Int} {r : (List Int)} (H : impl_Ins__follows.f k a0 a1 = some r) : Fn Tryz.prog 102 [ag (eSIns a0), oI a1] [] (o1 (.own 3 (List.map eI r))) [] := by
 refine Fn.bd [4] Tryz.func102 ?_
 refine rn [1, 2] 1 [] [] ?_
 refine sq ?_
 refine rn [1, 2, 6] 1 [] [] ?_
 refine bl ?_
 refine rn [1, 2, 6, 7] 1 [] [] ?_
 refine ci H (fun h1 H => ?_) fun h1 H => ?_
 ·refine rn [4] 0 [] [] ?_
  refine Tri.ret ?_
  obtain rfl := si H;exact eR
 refine rn [1, 2, 6, 12] 1 [] [] ?_
 refine ci H (fun h2 H => ?_) fun h2 H => ?_
 ·refine rn [4] 0 [] [] ?_
  refine Tri.ret ?_
  obtain rfl := si H;exact eR
 refine jo H (fun y4 => ⟨25, [(1, oI a1), (19, oB y4)], [], 0, []⟩) (fun y4 H => ?_) fun v6 h5 H => ?_
 ·refine cb H (fun h7 H => ?_) fun h7 H => ?_
  ·refine rn [4] 0 [] [] ?_
   refine fx [4] 0 [.own (.t 4 0) 3] ?_
   refine Tri.ret ?_
   obtain rfl := si H;exact eR
  refine sk ?_
  refine rn [4] 0 [] [] ?_
  refine Tri.ret ?_
  obtain rfl := si H;exact eR
 refine rn [1, 6, 19] 0 [] [] ?_
 refine ci h5 (fun h3 h5 => ?_) fun h3 h5 => ?_
 ·refine fx [1, 19] 0 [] ?_
  refine sk ?_
  exact pf (decide (a0.f0 = 14)) h5
 refine rl [1, 19] 0 [] [] ?_
 exact pf (decide (a0.f0 = 17)) h5
/-! impl_Code__reach_1: function 93 -/
def impl_Code__reach_1.e1 (k : Nat) (x1 : SIns) (r3 : (Int × Int)) (x5 : Int) : Option Bool := if x1.f0 = 14 then (some (decide ((0 : Int) < (w64 ((w64 (x5 - r3.1)) + r3.2))))) else (some false)
def impl_Code__reach_1.e2 (k : Nat) (a0 : SCode) (r3 : (Int × Int)) (x5 : Int) (r14 : (List Int)) (z28 : (List Int)) (z29 : Bool) (z30 : Int) : Option ((Bool × Int × (List Int)) ⊕ ((List Int) × Bool)) := (at? r14 z30).bind fun x32 => if x32 = (a0.f4.length : Int) then (some (.inl (false, 10, z28))) else ((at? z28 x32).bind fun x35 => if x35 = (-1) then (some (.inr (z28.set (Int.toNat x32) (w64 ((w64 (x5 - r3.1)) + r3.2)), true))) else (if x35 = (w64 ((w64 (x5 - r3.1)) + r3.2)) then (some (.inr (z28, z29))) else (some (.inl (false, 8, z28)))))
def impl_Code__reach_1.l3 : Nat → SCode → (Int × Int) → Int → (List Int) → (List Int) → Bool → Int → Option ((Bool × Int × (List Int)) ⊕ ((List Int) × Bool))
  | 0, _, _, _, _, _, _, _ => none
  | k + 1, a0, r3, x5, r14, z28, z29, z30 => if z30 < (r14.length : Int) then ((impl_Code__reach_1.e2 k a0 r3 x5 r14 z28 z29 z30).bind fun v => match v with | .inl r => some (.inl r) | .inr (y39, y40) => impl_Code__reach_1.l3 k a0 r3 x5 r14 y39 y40 (w64 (z30 + 1))) else (some (.inr (z28, z29)))
def impl_Code__reach_1.e4 (k : Nat) (a0 : SCode) (a1_1 : (List Int)) (a2 : Int) (x1 : SIns) (r3 : (Int × Int)) (x5 : Int) : Option ((Bool × Int × (List Int)) ⊕ ((List Int) × Bool)) := (impl_Ins__follows.f k x1 a2).bind fun r14 => impl_Code__reach_1.l3 k a0 r3 x5 r14 a1_1 false 0
def impl_Code__reach_1.f (k : Nat) (a0 : SCode) (a1_1 : (List Int)) (a2 : Int) : Option (Bool × Int × (List Int)) := (at? a0.f4 a2).bind fun x1 => (impl_Ins__stacks.f k x1).bind fun r3 => (at? a1_1 a2).bind fun x5 => if (w64 (x5 - r3.1)) < 0 then (some (false, 11, a1_1)) else (if (60 : Int) < (w64 ((w64 (x5 - r3.1)) + r3.2)) then (some (false, 14, a1_1)) else ((impl_Code__reach_1.e1 k x1 r3 x5).bind fun y10 => if y10 = true then (some (false, 8, a1_1)) else ((impl_Code__reach_1.e4 k a0 a1_1 a2 x1 r3 x5).bind fun v => match v with | .inl r => some r | .inr (y44, y45) => some (y45, 0, y44))))
theorem impl_Code__reach_1.fn {k : Nat} {a0 : SCode} {a1_1 : (List Int)} {a2 : Int} {r : (Bool × Int × (List Int))} (H : impl_Code__reach_1.f k a0 a1_1 a2 = some r) : FnG Tryz.prog 93 [ag (eSCode a0), o1 (.own 3 (List.map eI a1_1)), oI a2] [1] [] (tp [none, none] [cB r.1, cI r.2.1]) [.own 3 (List.map eI r.2.2)] [] := by
 refine FnG.body (ts := [6, 7]) Tryz.func93 rfl rfl (by decide) (by decide) (Nat.le_of_ble_eq_true rfl) rfl (Nat.le_of_ble_eq_true rfl) ?_
 refine rn [1, 2, 3] 1 [] [] ?_
 obtain ⟨x1, h2, H⟩ := bs H
 refine rn [1, 2, 3, 8] 2 [] [hE 3 eSIns h2] ?_
 obtain ⟨r3, h4, H⟩ := bs H
 refine rn [1, 2, 3, 8, 9, 10] 2 [] [hC 1 (impl_Ins__stacks.fn h4)] ?_
 obtain ⟨x5, h6, H⟩ := bs H
 refine rn [1, 2, 3, 8, 10, 11] 2 [] [hE 2 eI h6, hF 3 eI h6] ?_
 refine sq ?_
 refine rn [1, 2, 3, 8, 10, 11, 32] 2 [] [] ?_
 refine ci H (fun h7 H => ?_) fun h7 H => ?_
 ·refine rx [1, 6, 7] 0 [] [] ⟨80, [(1, o1 (.own 3 (List.map eI a1_1))), (6, oB false), (7, oI 11)], [], 0, [1]⟩ ?_
  refine Tri.ret ?_
  obtain rfl := si H;exact endsG (.inr rfl) (by kernel_rfl)
 refine sk ?_
 refine rx [1, 2, 3, 8, 11] 2 [] [] ⟨80, [(1, o1 (.own 3 (List.map eI a1_1))), (2, oI a2), (3, o1 (.ref 0 0)), (8, o1 (.ref 1 0)), (11, oI (w64 ((w64 (x5 - r3.1)) + r3.2)))], [eSCode a0, eSIns x1], 0, [1]⟩ ?_
 refine sq ?_
 refine bl ?_
 refine rn [1, 2, 3, 8, 11, 36] 2 [] [] ?_
 refine ci H (fun h8 H => ?_) fun h8 H => ?_
 ·refine rn [1, 6, 7] 0 [] [] ?_
  refine Tri.ret ?_
  obtain rfl := si H;exact endsG (.inr rfl) (by kernel_rfl)
 refine jo H (fun y10 => ⟨80, [(1, o1 (.own 3 (List.map eI a1_1))), (2, oI a2), (3, o1 (.ref 0 0)), (8, o1 (.ref 1 0)), (11, oI (w64 ((w64 (x5 - r3.1)) + r3.2))), (39, oB y10)], [eSCode a0, eSIns x1], 0, [1]⟩) (fun y10 H => ?_) fun v12 h11 H => ?_
 ·refine cb H (fun h13 H => ?_) fun h13 H => ?_
  ·refine rn [1, 6, 7] 0 [] [] ?_
   refine Tri.ret ?_
   obtain rfl := si H;exact endsG (.inr rfl) (by kernel_rfl)
  refine sk ?_
  refine rn [1, 2, 3, 8, 11, 12] 2 [] [] ?_
  refine jr H (fun w => ⟨80, [(1, o1 (.own 3 (List.map eI w.1))), (12, oB w.2)], [], 0, [1]⟩) (fun w H => ?_) fun v47 h46 H => ?_
  ·obtain ⟨y44, y45⟩ := w
   refine rn [1, 6, 7] 0 [] [] ?_
   refine Tri.ret ?_
   obtain rfl := si H;exact endsG (.inr rfl) (by kernel_rfl)
  obtain ⟨r14, h15, h46⟩ := bs h46
  refine rn [1, 3, 11, 12, 49, 50, 51] 1 [] [hC 2 (impl_Ins__follows.fn h15) (show (List.all [.own 3 (List.map eI r14)] PC.flatB) = true by simp [PC.flatB, PC.scalar, cI, cK, cB, cS, eI]), hL 3 eI r14] ?_
  refine bl ?_
  refine lo ((List Int) × Bool × Int) k (fun k x => impl_Code__reach_1.l3 k a0 r3 x5 r14 x.1 x.2.1 x.2.2) (fun x => ⟨80, [(1, o1 (.own 3 (List.map eI x.1))), (3, o1 (.ref 0 0)), (11, oI (w64 ((w64 (x5 - r3.1)) + r3.2))), (12, oB x.2.1), (49, o1 (.own 3 (List.map eI r14))), (50, oI (r14.length : Int)), (51, oI x.2.2)], [eSCode a0], 0, [1]⟩) (a1_1, false, 0) h46 fun k x h46 IH43 => ?_
  obtain ⟨z28, z29, z30⟩ := x
  rw [impl_Code__reach_1.l3.eq_2] at h46
  refine rn [1, 3, 11, 12, 49, 50, 51, 52] 1 [] [] ?_
  refine sq ?_
  refine ci h46 (fun h31 h46 => ?_) fun h31 h46 => ?_
  ·refine sk ?_
   refine jr h46 (fun w => ⟨80, [(1, o1 (.own 3 (List.map eI w.1))), (3, o1 (.ref 0 0)), (11, oI (w64 ((w64 (x5 - r3.1)) + r3.2))), (12, oB w.2), (49, o1 (.own 3 (List.map eI r14))), (50, oI (r14.length : Int)), (51, oI z30)], [eSCode a0], 0, [1]⟩) (fun w h46 => ?_) fun v42 h41 h46 => ?_
   ·obtain ⟨y39, y40⟩ := w
    refine rl [1, 3, 11, 12, 49, 50, 51] 1 [] [] ?_
    exact lb IH43 (y39, y40, w64 (z30 + 1)) h46
   refine bl ?_
   obtain ⟨x32, h33, h41⟩ := bs h41
   refine rn [1, 3, 11, 12, 14, 49, 50, 51] 1 [] [hE 0 eI h33, hF 1 eI h33] ?_
   refine bl ?_
   refine rn [1, 3, 11, 12, 14, 49, 50, 51, 55] 1 [] [hL 3 eSIns a0.f4] ?_
   refine ci h41 (fun h34 h41 => ?_) fun h34 h41 => ?_
   ·refine rn [1, 6, 7] 0 [] [] ?_
    refine Tri.ret ?_
    obtain rfl := si h41;obtain rfl := si h46;obtain rfl := si H;exact endsG (.inr rfl) (by kernel_rfl)
   obtain ⟨x35, h36, h41⟩ := bs h41
   refine rn [1, 3, 11, 12, 14, 49, 50, 51, 61] 1 [] [hE 2 eI h36, hF 3 eI h36] ?_
   refine ci h41 (fun h37 h41 => ?_) fun h37 h41 => ?_
   ·refine rn [1, 3, 11, 49, 50, 51] 1 [] [hE 3 eI h36, hW 4 (.t 1 0) 3 eI h36 (w64 ((w64 (x5 - r3.1)) + r3.2))] ?_
    refine rl [1, 3, 11, 12, 49, 50, 51] 1 [] [] ?_
    exact pe (z28.set (Int.toNat x32) (w64 ((w64 (x5 - r3.1)) + r3.2)), true) h41
   refine rn [1, 3, 11, 12, 49, 50, 51, 71] 1 [] [hE 2 eI h36, hF 3 eI h36] ?_
   refine cn h41 (fun h38 h41 => ?_) fun h38 h41 => ?_
   ·refine fx [1, 3, 11, 12, 49, 50, 51] 1 [] ?_
    refine sk ?_
    exact pe (z28, z29) h41
   refine rx [1, 6, 7] 0 [] [] ⟨80, [(1, o1 (.own 3 (List.map eI z28))), (6, oB false), (7, oI 8)], [], 0, [1]⟩ ?_
   refine Tri.ret ?_
   obtain rfl := si h41;obtain rfl := si h46;obtain rfl := si H;exact endsG (.inr rfl) (by kernel_rfl)
  refine fx [1, 12] 0 [] ?_
  refine xi ?_
  exact pe (z28, z29) h46
 rcases ite_some h11 with ⟨h9, h11⟩ | ⟨h9, h11⟩
 ·refine rl [1, 2, 3, 8, 11, 39] 2 [] [hB 2 (decide_eq_true h9)] ?_
  exact pf (decide ((0 : Int) < (w64 ((w64 (x5 - r3.1)) + r3.2)))) h11
 refine rl [1, 2, 3, 8, 11, 39] 2 [] [hB 2 (decide_eq_false h9)] ?_
 exact pf false h11
/-! impl_Code__flow: function 78 -/
def impl_Code__flow.e1 (k : Nat) (a0 : SCode) (z50 : (List Int)) (z51 : Bool) (z52 : Int) : Option ((Int × Int) ⊕ ((List Int) × Bool)) := (at? z50 z52).bind fun x54 => if x54 = (-1) then (some (.inr (z50, z51))) else ((impl_Code__reach_1.f k a0 z50 z52).bind fun r57 => if r57.2.1 = 0 then (if z51 = true then (some (.inr (r57.2.2, true))) else (some (.inr (r57.2.2, r57.1)))) else (some (.inl (r57.2.1, z52))))
def impl_Code__flow.l2 : Nat → SCode → (List Int) → Bool → Int → Option ((Int × Int) ⊕ ((List Int) × Bool))
  | 0, _, _, _, _ => none
  | k + 1, a0, z50, z51, z52 => if z52 < (a0.f4.length : Int) then ((impl_Code__flow.e1 k a0 z50 z51 z52).bind fun v => match v with | .inl r => some (.inl r) | .inr (y61, y62) => impl_Code__flow.l2 k a0 y61 y62 (w64 (z52 + 1))) else (some (.inr (z50, z51)))
def impl_Code__flow.e3 (k : Nat) (a0 : SCode) (z36 : (List Int)) : Option ((Int × Int) ⊕ ((List Int) × Bool)) := impl_Code__flow.l2 k a0 z36 false 0
def impl_Code__flow.l4 : Nat → SCode → (List Int) → Bool → Option ((Int × Int) ⊕ Unit)
  | 0, _, _, _ => none
  | k + 1, a0, z36, z37 => if z37 = true then ((impl_Code__flow.e3 k a0 z36).bind fun v => match v with | .inl r => some (.inl r) | .inr (y66, y67) => impl_Code__flow.l4 k a0 y66 y67) else (some (.inr ()))
def impl_Code__flow.e5 (k : Nat) (a0 : SCode) (r1 : (List Int)) : Option ((Int × Int) ⊕ Unit) := impl_Code__flow.l4 k a0 (r1.set (Int.toNat 0) 0) true
def impl_Code__flow.f (k : Nat) (a0 : SCode) : Option (Int × Int) := (slices_Repeat___int_int.f k ([-1] : List Int) (a0.f4.length : Int)).bind fun r1 => (at? r1 0).bind fun x3 => (impl_Code__flow.e5 k a0 r1).bind fun v => match v with | .inl r => some r | .inr _ => some (0, 0)
theorem impl_Code__flow.fn {k : Nat} {a0 : SCode} {r : (Int × Int)} (H : impl_Code__flow.f k a0 = some r) : Fn Tryz.prog 78 [ag (eSCode a0)] [] (tp [none, none] [cI r.1, cI r.2]) [] := by
 refine Fn.bd [2, 3] Tryz.func78 ?_
 refine rn [1] 1 [] [] ?_
 obtain ⟨r1, h2, H⟩ := bs H
 refine rn [1, 4] 1 [] [hL 3 eSIns a0.f4, hC 4 (slices_Repeat___int_int.fn h2) (show (List.all [.own 3 (List.map eI r1)] PC.flatB) = true by simp [PC.flatB, PC.scalar, cI, cK, cB, cS, eI])] ?_
 obtain ⟨x3, h4, H⟩ := bs H
 refine rn [1, 4] 1 [] [hE 1 eI h4, hW 2 (.t 4 0) 3 eI h4 0] ?_
 refine jr H (fun _ => ⟨44, [], [], 0, []⟩) (fun _ H => ?_) fun v72 h71 H => ?_
 ·refine rn [2, 3] 0 [] [] ?_
  refine Tri.ret ?_
  obtain rfl := si H;exact eR
 refine rn [1, 4, 5] 1 [] [] ?_
 refine bl ?_
 refine lo ((List Int) × Bool) k (fun k x => impl_Code__flow.l4 k a0 x.1 x.2) (fun x => ⟨44, [(1, o1 (.ref 0 0)), (4, o1 (.own 3 (List.map eI x.1))), (5, oB x.2)], [eSCode a0], 0, []⟩) (r1.set (Int.toNat 0) 0, true) h71 fun k x h71 IH70 => ?_
 obtain ⟨z36, z37⟩ := x
 rw [impl_Code__flow.l4.eq_2] at h71
 refine sq ?_
 refine rn [1, 4, 16] 1 [] [] ?_
 refine cb h71 (fun h38 h71 => ?_) fun h38 h71 => ?_
 ·refine sk ?_
  refine bl ?_
  refine rn [1, 4, 5] 1 [] [] ?_
  refine rn [1, 4, 5, 19, 20] 1 [] [hL 2 eSIns a0.f4] ?_
  refine jrT h71 (fun w => ⟨44, [(1, o1 (.ref 0 0)), (4, o1 (.own 3 (List.map eI w.1))), (5, oB w.2)], [eSCode a0], 0, []⟩) (fun w h71 => ?_) fun v69 h68 h71 => ?_
  ·obtain ⟨y66, y67⟩ := w
   exact lb IH70 (y66, y67) h71
  refine bl ?_
  refine lo ((List Int) × Bool × Int) k (fun k x => impl_Code__flow.l2 k a0 x.1 x.2.1 x.2.2) (fun x => ⟨44, [(1, o1 (.ref 0 0)), (4, o1 (.own 3 (List.map eI x.1))), (5, oB x.2.1), (19, oI (a0.f4.length : Int)), (20, oI x.2.2)], [eSCode a0], 0, []⟩) (z36, false, 0) h68 fun k x h68 IH65 => ?_
  obtain ⟨z50, z51, z52⟩ := x
  rw [impl_Code__flow.l2.eq_2] at h68
  refine rn [1, 4, 5, 19, 20, 21] 1 [] [] ?_
  refine sq ?_
  refine ci h68 (fun h53 h68 => ?_) fun h53 h68 => ?_
  ·refine sk ?_
   refine jr h68 (fun w => ⟨44, [(1, o1 (.ref 0 0)), (4, o1 (.own 3 (List.map eI w.1))), (5, oB w.2), (19, oI (a0.f4.length : Int)), (20, oI z52)], [eSCode a0], 0, []⟩) (fun w h68 => ?_) fun v64 h63 h68 => ?_
   ·obtain ⟨y61, y62⟩ := w
    refine rl [1, 4, 5, 19, 20] 1 [] [] ?_
    exact lb IH65 (y61, y62, w64 (z52 + 1)) h68
   refine bl ?_
   refine rn [1, 4, 5, 6, 19, 20] 1 [] [] ?_
   refine sq ?_
   obtain ⟨x54, h55, h63⟩ := bs h63
   refine rn [1, 4, 5, 6, 19, 20, 27] 1 [] [hE 2 eI h55, hF 3 eI h55] ?_
   refine ci h63 (fun h56 h63 => ?_) fun h56 h63 => ?_
   ·refine fx [1, 4, 5, 19, 20] 1 [] ?_
    refine xi ?_
    exact pe (z50, z51) h63
   refine sk ?_
   obtain ⟨r57, h58, h63⟩ := bs h63
   refine rn [1, 4, 5, 6, 7, 8, 19, 20] 1 [] [hG 3 [] [] (some (1, (.t 4 0))) (impl_Code__reach_1.fn h58)] ?_
   refine sq ?_
   refine rn [1, 4, 5, 6, 7, 8, 19, 20, 36] 1 [] [] ?_
   refine cn h63 (fun h59 h63 => ?_) fun h59 h63 => ?_
   ·refine sk ?_
    rcases iteb_some h63 with ⟨h60, h63⟩ | ⟨h60, h63⟩
    ·refine rl [1, 4, 5, 19, 20] 1 [] [hB 0 h60] ?_
     exact pe (r57.2.2, true) h63
    refine rl [1, 4, 5, 19, 20] 1 [] [hB 0 h60] ?_
    exact pe (r57.2.2, r57.1) h63
   refine rx [2, 3] 0 [] [] ⟨44, [(2, oI r57.2.1), (3, oI z52)], [], 0, []⟩ ?_
   refine Tri.ret ?_
   obtain rfl := si h63;obtain rfl := si h68;obtain rfl := si h71;obtain rfl := si H;exact eR
  refine fx [1, 4, 5] 1 [] ?_
  refine xi ?_
  exact pe (z50, z51) h68
 refine fx [] 0 [] ?_
 refine xi ?_
 exact pe () h71
/-! impl_Code__verify: function 60 -/
def impl_Code__verify.e1 (k : Nat) (a0 : SCode) : Option Bool := if a0.f0 = (⟨#[]⟩ : ByteArray) then (if a0.f2 = 0 then (some (decide (a0.f3 = 0))) else (some false)) else (some false)
def impl_Code__verify.e2 (k : Nat) (a0 : SCode) (y3 : Bool) : Option Bool := (impl_within.f k (a0.f4.length : Int) 1 2000).bind fun r6 => if r6 = true then ((impl_within.f k a0.f1 0 20).bind fun r9 => if r9 = true then ((impl_within.f k a0.f2 a0.f1 2000).bind fun r12 => if r12 = true then ((impl_within.f k a0.f3 0 1).bind fun r15 => if r15 = true then ((impl_isName.f k a0.f0).bind fun r18 => if r18 = true then (some false) else (some (!y3))) else (some true)) else (some true)) else (some true)) else (some true)
def impl_Code__verify.f (k : Nat) (a0 : SCode) : Option (Int × Int) := (impl_Code__verify.e1 k a0).bind fun y3 => (impl_Code__verify.e2 k a0 y3).bind fun y21 => if y21 = true then (some (1, 0)) else ((slices_IndexFunc___impl_Ins_impl_Ins_1.f k a0.f4 a0).bind fun r25 => if (0 : Int) ≤ r25 then (some (3, r25)) else ((impl_Code__flow.f k a0).bind fun r28 => some (r28.1, r28.2)))
theorem impl_Code__verify.fn {k : Nat} {a0 : SCode} {r : (Int × Int)} (H : impl_Code__verify.f k a0 = some r) : Fn Tryz.prog 60 [ag (eSCode a0)] [] (tp [none, none] [cI r.1, cI r.2]) [] := by
 refine Fn.bd [2, 3] Tryz.func60 ?_
 refine rn [1] 1 [] [] ?_
 refine jo H (fun y3 => ⟨65, [(1, o1 (.ref 0 0)), (4, oB y3)], [eSCode a0], 0, []⟩) (fun y3 H => ?_) fun v5 h4 H => ?_
 ·refine sq ?_
  refine jo H (fun y21 => ⟨65, [(1, o1 (.ref 0 0)), (53, oB y21)], [eSCode a0], 0, []⟩) (fun y21 H => ?_) fun v23 h22 H => ?_
  ·refine cb H (fun h24 H => ?_) fun h24 H => ?_
   ·refine rn [2, 3] 0 [] [] ?_
    refine Tri.ret ?_
    obtain rfl := si H;exact eR
   refine sk ?_
   refine sq ?_
   obtain ⟨r25, h26, H⟩ := bs H
   refine rn [1, 5] 1 [] [hC 3 (slices_IndexFunc___impl_Ins_impl_Ins_1.fn h26)] ?_
   refine rn [1, 5, 59] 1 [] [] ?_
   refine ci H (fun h27 H => ?_) fun h27 H => ?_
   ·refine rn [2, 3] 0 [] [] ?_
    refine Tri.ret ?_
    obtain rfl := si H;exact eR
   refine sk ?_
   obtain ⟨r28, h29, H⟩ := bs H
   refine rn [2, 3] 0 [] [hC 1 (impl_Code__flow.fn h29)] ?_
   refine Tri.ret ?_
   obtain rfl := si H;exact eR
  obtain ⟨r6, h7, h22⟩ := bs h22
  rcases iteb_some h22 with ⟨h8, h22⟩ | ⟨h8, h22⟩
  ·obtain ⟨r9, h10, h22⟩ := bs h22
   rcases iteb_some h22 with ⟨h11, h22⟩ | ⟨h11, h22⟩
   ·obtain ⟨r12, h13, h22⟩ := bs h22
    rcases iteb_some h22 with ⟨h14, h22⟩ | ⟨h14, h22⟩
    ·obtain ⟨r15, h16, h22⟩ := bs h22
     rcases iteb_some h22 with ⟨h17, h22⟩ | ⟨h17, h22⟩
     ·obtain ⟨r18, h19, h22⟩ := bs h22
      rcases iteb_some h22 with ⟨h20, h22⟩ | ⟨h20, h22⟩
      ·refine rl [1, 53] 1 [] [hL 2 eSIns a0.f4, hC 3 (impl_within.fn h7), hB 3 h8, hC 8 (impl_within.fn h10), hB 8 h11, hC 16 (impl_within.fn h13), hB 16 h14, hC 22 (impl_within.fn h16), hB 22 h17, hC 28 (impl_isName.fn h19), hB 28 h20] ?_
       exact pf false h22
      refine rl [1, 53] 1 [] [hL 2 eSIns a0.f4, hC 3 (impl_within.fn h7), hB 3 h8, hC 8 (impl_within.fn h10), hB 8 h11, hC 16 (impl_within.fn h13), hB 16 h14, hC 22 (impl_within.fn h16), hB 22 h17, hC 28 (impl_isName.fn h19), hB 28 h20] ?_
      exact pf (!y3) h22
     refine rl [1, 53] 1 [] [hL 2 eSIns a0.f4, hC 3 (impl_within.fn h7), hB 3 h8, hC 8 (impl_within.fn h10), hB 8 h11, hC 16 (impl_within.fn h13), hB 16 h14, hC 22 (impl_within.fn h16), hB 22 h17] ?_
     exact pf true h22
    refine rl [1, 53] 1 [] [hL 2 eSIns a0.f4, hC 3 (impl_within.fn h7), hB 3 h8, hC 8 (impl_within.fn h10), hB 8 h11, hC 16 (impl_within.fn h13), hB 16 h14] ?_
    exact pf true h22
   refine rl [1, 53] 1 [] [hL 2 eSIns a0.f4, hC 3 (impl_within.fn h7), hB 3 h8, hC 8 (impl_within.fn h10), hB 8 h11] ?_
   exact pf true h22
  refine rl [1, 53] 1 [] [hL 2 eSIns a0.f4, hC 3 (impl_within.fn h7), hB 3 h8] ?_
  exact pf true h22
 rcases ite_some h4 with ⟨h1, h4⟩ | ⟨h1, h4⟩
 ·rcases ite_some h4 with ⟨h2, h4⟩ | ⟨h2, h4⟩
  ·refine rl [1, 4] 1 [] [hB 2 (decide_eq_true h1), hB 6 (decide_eq_true h2)] ?_
   exact pf (decide (a0.f3 = 0)) h4
  refine rl [1, 4] 1 [] [hB 2 (decide_eq_true h1), hB 6 (decide_eq_false h2)] ?_
  exact pf false h4
 refine rl [1, 4] 1 [] [hB 2 (decide_eq_false h1)] ?_
 exact pf false h4
/-! impl_Code__verifies: function 49 -/
def impl_Code__verifies.f (k : Nat) (a0 : SCode) : Option Bool := (impl_Code__verify.f k a0).bind fun r1 => some (decide (r1.1 = 0))
theorem impl_Code__verifies.fn {k : Nat} {a0 : SCode} {r : Bool} (H : impl_Code__verifies.f k a0 = some r) : Fn Tryz.prog 49 [ag (eSCode a0)] [] (oB r) [] := by
 refine Fn.bd [2] Tryz.func49 ?_
 refine rn [1] 1 [] [] ?_
 obtain ⟨r1, h2, H⟩ := bs H
 refine rn [3] 0 [] [hC 1 (impl_Code__verify.fn h2)] ?_
 refine rn [2] 0 [] [] ?_
 refine Tri.ret ?_
 obtain rfl := si H;exact eR
/-! impl_ObjectOK_1: function 52 -/
def impl_ObjectOK_1.e1 (k : Nat) (a0 : SNeed) : Option Bool := (impl_isName.f k a0.f0).bind fun r1 => if r1 = true then ((impl_isPrint.f k a0.f1).bind fun r4 => some r4) else (some false)
def impl_ObjectOK_1.f (k : Nat) (a0 : SNeed) : Option Bool := (impl_ObjectOK_1.e1 k a0).bind fun y6 => some y6
theorem impl_ObjectOK_1.fn {k : Nat} {a0 : SNeed} {r : Bool} (H : impl_ObjectOK_1.f k a0 = some r) : Fn Tryz.prog 52 [ag (eSNeed a0)] [] (oB r) [] := by
 refine Fn.bd [2] Tryz.func52 ?_
 refine rn [1] 1 [] [] ?_
 refine jo H (fun y6 => ⟨11, [(2, oB y6)], [], 0, []⟩) (fun y6 H => ?_) fun v8 h7 H => ?_
 ·refine Tri.ret ?_
  obtain rfl := si H;exact eR
 obtain ⟨r1, h2, h7⟩ := bs h7
 rcases iteb_some h7 with ⟨h3, h7⟩ | ⟨h3, h7⟩
 ·obtain ⟨r4, h5, h7⟩ := bs h7
  refine rl [2] 0 [] [hC 2 (impl_isName.fn h2), hB 2 h3, hC 6 (impl_isPrint.fn h5)] ?_
  exact pf r4 h7
 refine rl [2] 0 [] [hC 2 (impl_isName.fn h2), hB 2 h3] ?_
 exact pf false h7
/-! impl_areAll_impl_Need__1_1: function 65 -/
def impl_areAll_impl_Need__1_1.f (k : Nat) (a0 : SNeed) : Option Bool := (impl_ObjectOK_1.f k a0).bind fun r1 => some (!r1)
theorem impl_areAll_impl_Need__1_1.fn {k : Nat} {a0 : SNeed} {r : Bool} (H : impl_areAll_impl_Need__1_1.f k a0 = some r) : Fn Tryz.prog 65 [ag (eSNeed a0), o1 (.cel ([.sc (.func (.func 52) #[] #[])]) 0)] [] (oB r) [] := by
 refine Fn.bd [3] Tryz.func65 ?_
 refine rn [1, 2] 1 [] [] ?_
 obtain ⟨r1, h2, H⟩ := bs H
 refine rn [3] 0 [] [hC 2 (impl_ObjectOK_1.fn h2)] ?_
 refine Tri.ret ?_
 obtain rfl := si H;exact eR
/-! slices_IndexFunc___impl_Need_impl_Need_1: function 82 -/
def slices_IndexFunc___impl_Need_impl_Need_1.l1 : Nat → (List SNeed) → Int → Option (Int ⊕ Unit)
  | 0, _, _ => none
  | k + 1, a0, z7 => if z7 < (a0.length : Int) then ((at? a0 z7).bind fun x9 => (impl_areAll_impl_Need__1_1.f k x9).bind fun r11 => if r11 = true then (some (.inl z7)) else (slices_IndexFunc___impl_Need_impl_Need_1.l1 k a0 (w64 (z7 + 1)))) else (some (.inr ()))
def slices_IndexFunc___impl_Need_impl_Need_1.e2 (k : Nat) (a0 : (List SNeed)) : Option (Int ⊕ Unit) := slices_IndexFunc___impl_Need_impl_Need_1.l1 k a0 0
def slices_IndexFunc___impl_Need_impl_Need_1.f (k : Nat) (a0 : (List SNeed)) : Option Int := (slices_IndexFunc___impl_Need_impl_Need_1.e2 k a0).bind fun v => match v with | .inl r => some r | .inr _ => some (-1)
theorem slices_IndexFunc___impl_Need_impl_Need_1.fn {k : Nat} {a0 : (List SNeed)} {r : Int} (H : slices_IndexFunc___impl_Need_impl_Need_1.f k a0 = some r) : Fn Tryz.prog 82 [o1 (.sl 2 (List.map eSNeed a0)), o1 (.fn 65 [.cel ([.sc (.func (.func 52) #[] #[])]) 0])] [] (oI r) [] := by
 refine Fn.bd [4] Tryz.func82 ?_
 refine rn [0, 1] 0 [] [] ?_
 refine jr H (fun _ => ⟨19, [], [], 0, []⟩) (fun _ H => ?_) fun v16 h15 H => ?_
 ·refine rn [4] 0 [] [] ?_
  refine Tri.ret ?_
  obtain rfl := si H;exact eR
 refine rn [0, 1, 7, 8] 0 [] [hL 1 eSNeed a0] ?_
 refine bl ?_
 refine lo Int k (fun k x => slices_IndexFunc___impl_Need_impl_Need_1.l1 k a0 x) (fun x => ⟨19, [(0, o1 (.sl 2 (List.map eSNeed a0))), (1, o1 (.fn 65 [.cel ([.sc (.func (.func 52) #[] #[])]) 0])), (7, oI (a0.length : Int)), (8, oI x)], [], 0, []⟩) 0 h15 fun k z7 h15 IH14 => ?_
 rw [slices_IndexFunc___impl_Need_impl_Need_1.l1.eq_2] at h15
 refine rn [0, 1, 7, 8, 9] 0 [] [] ?_
 refine sq ?_
 refine ci h15 (fun h8 h15 => ?_) fun h8 h15 => ?_
 ·refine sk ?_
  refine sq ?_
  refine bl ?_
  refine rn [0, 1, 5, 7, 8] 0 [] [] ?_
  obtain ⟨x9, h10, h15⟩ := bs h15
  obtain ⟨r11, h12, h15⟩ := bs h15
  refine rn [0, 1, 5, 7, 8, 16] 0 [] [hE 3 eSNeed h10, hC 5 (impl_areAll_impl_Need__1_1.fn h12)] ?_
  refine cb h15 (fun h13 h15 => ?_) fun h13 h15 => ?_
  ·refine rn [4] 0 [] [] ?_
   refine Tri.ret ?_
   obtain rfl := si h15;obtain rfl := si H;exact eR
  refine sk ?_
  refine rl [0, 1, 7, 8] 0 [] [] ?_
  exact lb IH14 (w64 (z7 + 1)) h15
 refine fx [] 0 [] ?_
 refine xi ?_
 exact pe () h15
/-! slices_ContainsFunc___impl_Need_impl_Need_1: function 64 -/
def slices_ContainsFunc___impl_Need_impl_Need_1.f (k : Nat) (a0 : (List SNeed)) : Option Bool := (slices_IndexFunc___impl_Need_impl_Need_1.f k a0).bind fun r1 => some (decide ((0 : Int) ≤ r1))
theorem slices_ContainsFunc___impl_Need_impl_Need_1.fn {k : Nat} {a0 : (List SNeed)} {r : Bool} (H : slices_ContainsFunc___impl_Need_impl_Need_1.f k a0 = some r) : Fn Tryz.prog 64 [o1 (.sl 2 (List.map eSNeed a0)), o1 (.fn 65 [.cel ([.sc (.func (.func 52) #[] #[])]) 0])] [] (oB r) [] := by
 refine Fn.bd [4] Tryz.func64 ?_
 refine rn [0, 1] 0 [] [] ?_
 obtain ⟨r1, h2, H⟩ := bs H
 refine rn [4] 0 [] [hC 2 (slices_IndexFunc___impl_Need_impl_Need_1.fn h2)] ?_
 refine Tri.ret ?_
 obtain rfl := si H;exact eR
/-! impl_areAll_impl_Need_1: function 51 -/
def impl_areAll_impl_Need_1.f (k : Nat) (a0 : (List SNeed)) : Option Bool := (slices_ContainsFunc___impl_Need_impl_Need_1.f k a0).bind fun r1 => some (!r1)
theorem impl_areAll_impl_Need_1.fn {k : Nat} {a0 : (List SNeed)} {r : Bool} (H : impl_areAll_impl_Need_1.f k a0 = some r) : Fn Tryz.prog 51 [o1 (.sl 2 (List.map eSNeed a0)), o1 (.sc (.func (.func 52) #[] #[]))] [] (oB r) [] := by
 refine Fn.bd [4] Tryz.func51 ?_
 refine rn [0, 3] 1 [] [] ?_
 obtain ⟨r1, h2, H⟩ := bs H
 refine rn [4] 0 [] [hC 2 (slices_ContainsFunc___impl_Need_impl_Need_1.fn h2)] ?_
 refine Tri.ret ?_
 obtain rfl := si H;exact eR
/-! impl_ObjectOK: function 33 -/
def impl_ObjectOK.e1 (k : Nat) (a0 : SObj) : Option Bool := (impl_isName.f k a0.f0).bind fun r1 => if r1 = true then ((impl_isPrint.f k a0.f1).bind fun r4 => if r4 = true then (if (20 : Int) < (a0.f2.length : Int) then (some true) else (if (100 : Int) < (a0.f3.length : Int) then (some true) else ((impl_within.f k (a0.f4.length : Int) 1 60).bind fun r9 => some (!r9)))) else (some true)) else (some true)
def impl_ObjectOK.e2 (k : Nat) (x44 : SNeed) : Option Bool := (impl_isName.f k x44.f0).bind fun r46 => if r46 = true then ((impl_within.f k x44.f1 0 100).bind fun r49 => some (!r49)) else (some true)
def impl_ObjectOK.l3 : Nat → SObj → (List ByteArray) → Int → Option (Bool ⊕ (List ByteArray))
  | 0, _, _, _ => none
  | k + 1, a0, z41, z42 => if z42 < (a0.f3.length : Int) then ((at? a0.f3 z42).bind fun x44 => (impl_ObjectOK.e2 k x44).bind fun y51 => if y51 = true then (some (.inl false)) else (if (z41 ++ ([x44.f0] : List ByteArray)).length * 16 ≤ 140737488355328 then (impl_ObjectOK.l3 k a0 (z41 ++ ([x44.f0] : List ByteArray)) (w64 (z42 + 1))) else none)) else (some (.inr z41))
def impl_ObjectOK.e4 (k : Nat) (a0 : SObj) : Option (Bool ⊕ (List ByteArray)) := impl_ObjectOK.l3 k a0 ([] : List ByteArray) 0
def impl_ObjectOK.e5 (k : Nat) (a0 : SObj) (z72 : Int) (x74 : SCode) : Option Bool := (impl_Code__verifies.f k x74).bind fun r76 => if r76 = true then (some (!((decide (x74.f0 = (⟨#[]⟩ : ByteArray))) == (decide (z72 = (w64 ((a0.f4.length : Int) - 1))))))) else (some true)
def impl_ObjectOK.l6 : Nat → SObj → (List ByteArray) → Int → Option (Bool ⊕ (List ByteArray))
  | 0, _, _, _ => none
  | k + 1, a0, z71, z72 => if z72 < (a0.f4.length : Int) then ((at? a0.f4 z72).bind fun x74 => (impl_ObjectOK.e5 k a0 z72 x74).bind fun y79 => if y79 = true then (some (.inl false)) else (if (z71 ++ ([x74.f0] : List ByteArray)).length * 16 ≤ 140737488355328 then (impl_ObjectOK.l6 k a0 (z71 ++ ([x74.f0] : List ByteArray)) (w64 (z72 + 1))) else none)) else (some (.inr z71))
def impl_ObjectOK.e7 (k : Nat) (a0 : SObj) (y57 : (List ByteArray)) : Option (Bool ⊕ (List ByteArray)) := impl_ObjectOK.l6 k a0 y57 0
def impl_ObjectOK.e8 (k : Nat) (a0 : SObj) (y85 : (List ByteArray)) : Option Bool := (impl_areDifferent.f k y85).bind fun r88 => if r88 = true then ((impl_areAll_impl_Need_1.f k a0.f2).bind fun r91 => some r91) else (some false)
def impl_ObjectOK.f (k : Nat) (a0 : SObj) : Option Bool := (impl_ObjectOK.e1 k a0).bind fun y11 => if y11 = true then (some false) else ((impl_ObjectOK.e4 k a0).bind fun v => match v with | .inl r => some r | .inr y57 => (impl_ObjectOK.e7 k a0 y57).bind fun v => match v with | .inl r => some r | .inr y85 => (impl_ObjectOK.e8 k a0 y85).bind fun y93 => some y93)
theorem impl_ObjectOK.fn {k : Nat} {a0 : SObj} {r : Bool} (H : impl_ObjectOK.f k a0 = some r) : Fn Tryz.prog 33 [ag (eSObj a0)] [] (oB r) [] := by
 refine Fn.bd [2] Tryz.func33 ?_
 refine rn [1] 1 [] [] ?_
 refine sq ?_
 refine jo H (fun y11 => ⟨96, [(1, o1 (.ref 0 0)), (36, oB y11)], [eSObj a0], 0, []⟩) (fun y11 H => ?_) fun v13 h12 H => ?_
 ·refine cb H (fun h14 H => ?_) fun h14 H => ?_
  ·refine rn [2] 0 [] [] ?_
   refine Tri.ret ?_
   obtain rfl := si H;exact eR
  refine sk ?_
  refine rn [1, 3] 1 [] [] ?_
  refine jr H (fun y57 => ⟨96, [(1, o1 (.ref 0 0)), (3, o1 (.own 9 (List.map eS y57)))], [eSObj a0], 0, []⟩) (fun y57 H => ?_) fun v59 h58 H => ?_
  ·refine jr H (fun y85 => ⟨96, [(1, o1 (.ref 0 0)), (3, o1 (.own 9 (List.map eS y85)))], [eSObj a0], 0, []⟩) (fun y85 H => ?_) fun v87 h86 H => ?_
   ·refine jo H (fun y93 => ⟨96, [(2, oB y93)], [], 0, []⟩) (fun y93 H => ?_) fun v95 h94 H => ?_
    ·refine Tri.ret ?_
     obtain rfl := si H;exact eR
    obtain ⟨r88, h89, h94⟩ := bs h94
    rcases iteb_some h94 with ⟨h90, h94⟩ | ⟨h90, h94⟩
    ·obtain ⟨r91, h92, h94⟩ := bs h94
     refine rl [2] 0 [] [hC 1 (impl_areDifferent.fn k y85 r88 h89), hB 1 h90, hC 5 (impl_areAll_impl_Need_1.fn h92)] ?_
     exact pf r91 h94
    refine rl [2] 0 [] [hC 1 (impl_areDifferent.fn k y85 r88 h89), hB 1 h90] ?_
    exact pf false h94
   refine rn [1, 3, 61, 62, 63] 1 [] [hL 2 eSCode a0.f4] ?_
   refine bl ?_
   refine lo ((List ByteArray) × Int) k (fun k x => impl_ObjectOK.l6 k a0 x.1 x.2) (fun x => ⟨96, [(1, o1 (.ref 0 0)), (3, o1 (.own 9 (List.map eS x.1))), (61, o1 (.sl 5 (List.map eSCode a0.f4))), (62, oI (a0.f4.length : Int)), (63, oI x.2)], [eSObj a0], 0, []⟩) (y57, 0) h86 fun k x h86 IH84 => ?_
   obtain ⟨z71, z72⟩ := x
   rw [impl_ObjectOK.l6.eq_2] at h86
   refine rn [1, 3, 61, 62, 63, 64] 1 [] [] ?_
   refine sq ?_
   refine ci h86 (fun h73 h86 => ?_) fun h73 h86 => ?_
   ·refine sk ?_
    refine sq ?_
    refine bl ?_
    obtain ⟨x74, h75, h86⟩ := bs h86
    refine rn [1, 3, 6, 7, 61, 62, 63] 2 [] [hE 1 eSCode h75] ?_
    refine sq ?_
    refine jo h86 (fun y79 => ⟨96, [(1, o1 (.ref 0 0)), (3, o1 (.own 9 (List.map eS z71))), (7, o1 (.ref 1 0)), (61, o1 (.sl 5 (List.map eSCode a0.f4))), (62, oI (a0.f4.length : Int)), (63, oI z72), (82, oB y79)], [eSObj a0, eSCode x74], 0, []⟩) (fun y79 h86 => ?_) fun v81 h80 h86 => ?_
    ·refine cb h86 (fun h82 h86 => ?_) fun h82 h86 => ?_
     ·refine rn [2] 0 [] [] ?_
      refine Tri.ret ?_
      obtain rfl := si h86;obtain rfl := si H;exact eR
     refine sk ?_
     obtain ⟨h83, h86⟩ := nd h86
     refine rl [1, 3, 61, 62, 63] 1 [] [hA 4 9 eS h83] ?_
     refine rl [1, 3, 61, 62, 63] 1 [] [] ?_
     exact lb IH84 (z71 ++ ([x74.f0] : List ByteArray), w64 (z72 + 1)) h86
    obtain ⟨r76, h77, h80⟩ := bs h80
    rcases iteb_some h80 with ⟨h78, h80⟩ | ⟨h78, h80⟩
    ·refine rl [1, 3, 7, 61, 62, 63, 82] 2 [] [hC 1 (impl_Code__verifies.fn h77), hB 1 h78, hL 10 eSCode a0.f4] ?_
     exact pf (!((decide (x74.f0 = (⟨#[]⟩ : ByteArray))) == (decide (z72 = (w64 ((a0.f4.length : Int) - 1)))))) h80
    refine rl [1, 3, 7, 61, 62, 63, 82] 2 [] [hC 1 (impl_Code__verifies.fn h77), hB 1 h78] ?_
    exact pf true h80
   refine fx [1, 3] 1 [] ?_
   refine xi ?_
   exact pe z71 h86
  refine rn [1, 3, 38, 39, 40] 1 [] [hL 2 eSNeed a0.f3] ?_
  refine bl ?_
  refine fx [1, 3, 38, 39, 40] 1 [.own (.t 3 0) 9] ?_
  refine lo ((List ByteArray) × Int) k (fun k x => impl_ObjectOK.l3 k a0 x.1 x.2) (fun x => ⟨96, [(1, o1 (.ref 0 0)), (3, o1 (.own 9 (List.map eS x.1))), (38, o1 (.sl 2 (List.map eSNeed a0.f3))), (39, oI (a0.f3.length : Int)), (40, oI x.2)], [eSObj a0], 0, []⟩) (([] : List ByteArray), 0) h58 fun k x h58 IH56 => ?_
  obtain ⟨z41, z42⟩ := x
  rw [impl_ObjectOK.l3.eq_2] at h58
  refine rn [1, 3, 38, 39, 40, 41] 1 [] [] ?_
  refine sq ?_
  refine ci h58 (fun h43 h58 => ?_) fun h43 h58 => ?_
  ·refine sk ?_
   refine sq ?_
   refine bl ?_
   obtain ⟨x44, h45, h58⟩ := bs h58
   refine rn [1, 3, 5, 38, 39, 40] 2 [] [hE 0 eSNeed h45] ?_
   refine sq ?_
   refine jo h58 (fun y51 => ⟨96, [(1, o1 (.ref 0 0)), (3, o1 (.own 9 (List.map eS z41))), (5, o1 (.ref 1 0)), (38, o1 (.sl 2 (List.map eSNeed a0.f3))), (39, oI (a0.f3.length : Int)), (40, oI z42), (53, oB y51)], [eSObj a0, eSNeed x44], 0, []⟩) (fun y51 h58 => ?_) fun v53 h52 h58 => ?_
   ·refine cb h58 (fun h54 h58 => ?_) fun h54 h58 => ?_
    ·refine rn [2] 0 [] [] ?_
     refine Tri.ret ?_
     obtain rfl := si h58;obtain rfl := si H;exact eR
    refine sk ?_
    obtain ⟨h55, h58⟩ := nd h58
    refine rl [1, 3, 38, 39, 40] 1 [] [hA 4 9 eS h55] ?_
    refine rl [1, 3, 38, 39, 40] 1 [] [] ?_
    exact lb IH56 (z41 ++ ([x44.f0] : List ByteArray), w64 (z42 + 1)) h58
   obtain ⟨r46, h47, h52⟩ := bs h52
   rcases iteb_some h52 with ⟨h48, h52⟩ | ⟨h48, h52⟩
   ·obtain ⟨r49, h50, h52⟩ := bs h52
    refine rl [1, 3, 5, 38, 39, 40, 53] 2 [] [hC 2 (impl_isName.fn h47), hB 2 h48, hC 7 (impl_within.fn h50)] ?_
    exact pf (!r49) h52
   refine rl [1, 3, 5, 38, 39, 40, 53] 2 [] [hC 2 (impl_isName.fn h47), hB 2 h48] ?_
   exact pf true h52
  refine fx [1, 3] 1 [] ?_
  refine xi ?_
  exact pe z41 h58
 obtain ⟨r1, h2, h12⟩ := bs h12
 rcases iteb_some h12 with ⟨h3, h12⟩ | ⟨h3, h12⟩
 ·obtain ⟨r4, h5, h12⟩ := bs h12
  rcases iteb_some h12 with ⟨h6, h12⟩ | ⟨h6, h12⟩
  ·rcases ite_some h12 with ⟨h7, h12⟩ | ⟨h7, h12⟩
   ·refine rl [1, 36] 1 [] [hC 2 (impl_isName.fn h2), hB 2 h3, hC 7 (impl_isPrint.fn h5), hB 7 h6, hL 13 eSNeed a0.f2, hB 14 (decide_eq_true h7)] ?_
    exact pf true h12
   rcases ite_some h12 with ⟨h8, h12⟩ | ⟨h8, h12⟩
   ·refine rl [1, 36] 1 [] [hC 2 (impl_isName.fn h2), hB 2 h3, hC 7 (impl_isPrint.fn h5), hB 7 h6, hL 13 eSNeed a0.f2, hB 14 (decide_eq_false h7), hL 19 eSNeed a0.f3, hB 20 (decide_eq_true h8)] ?_
    exact pf true h12
   obtain ⟨r9, h10, h12⟩ := bs h12
   refine rl [1, 36] 1 [] [hC 2 (impl_isName.fn h2), hB 2 h3, hC 7 (impl_isPrint.fn h5), hB 7 h6, hL 13 eSNeed a0.f2, hB 14 (decide_eq_false h7), hL 19 eSNeed a0.f3, hB 20 (decide_eq_false h8), hL 25 eSCode a0.f4, hC 26 (impl_within.fn h10)] ?_
   exact pf (!r9) h12
  refine rl [1, 36] 1 [] [hC 2 (impl_isName.fn h2), hB 2 h3, hC 7 (impl_isPrint.fn h5), hB 7 h6] ?_
  exact pf true h12
 refine rl [1, 36] 1 [] [hC 2 (impl_isName.fn h2), hB 2 h3] ?_
 exact pf true h12
/-! impl_readObject: function 14 -/
def impl_readObject.l1 : Nat → ByteArray → (Int × Int × Bool) → Int → Int → Bool → (List SNeed) → Option (Int × Bool × (List SNeed))
  | 0, _, _, _, _, _, _ => none
  | k + 1, a0, r7, z24, z25, z26, z27 => if z24 < r7.1 then ((impl_reader__text_2.f k (⟨a0, z25, z26⟩ : S3ddd55)).bind fun r29 => (impl_reader__number_2.f k 8 (⟨a0, r29.2.1, r29.2.2⟩ : S3ddd55)).bind fun r31 => if (z27 ++ ([(⟨r29.1, r31.1⟩ : SNeed)] : List SNeed)).length * 24 ≤ 140737488355328 then (impl_readObject.l1 k a0 r7 (w64 (z24 + 1)) r31.2.1 r31.2.2 (z27 ++ ([(⟨r29.1, r31.1⟩ : SNeed)] : List SNeed))) else none) else (some (z25, z26, z27))
def impl_readObject.e2 (k : Nat) (a0 : ByteArray) (r5 : (Int × Int × Bool)) : Option (Int × Bool × (List SNeed)) := (impl_reader__number_2.f k 1 (⟨a0, r5.2.1, r5.2.2⟩ : S3ddd55)).bind fun r7 => impl_readObject.l1 k a0 r7 0 r7.2.1 r7.2.2 ([] : List SNeed)
def impl_readObject.l3 : Nat → ByteArray → (Int × Int × Bool) → Int → Int → Bool → (List SNeed) → Option (Int × Bool × (List SNeed))
  | 0, _, _, _, _, _, _ => none
  | k + 1, a0, r40, z57, z58, z59, z60 => if z57 < r40.1 then ((impl_reader__text_2.f k (⟨a0, z58, z59⟩ : S3ddd55)).bind fun r62 => (impl_reader__number_2.f k 1 (⟨a0, r62.2.1, r62.2.2⟩ : S3ddd55)).bind fun r64 => if (z60 ++ ([(⟨r62.1, r64.1⟩ : SNeed)] : List SNeed)).length * 24 ≤ 140737488355328 then (impl_readObject.l3 k a0 r40 (w64 (z57 + 1)) r64.2.1 r64.2.2 (z60 ++ ([(⟨r62.1, r64.1⟩ : SNeed)] : List SNeed))) else none) else (some (z58, z59, z60))
def impl_readObject.e4 (k : Nat) (a0 : ByteArray) (y35 : Int) (y36 : Bool) : Option (Int × Bool × (List SNeed)) := (impl_reader__number_2.f k 1 (⟨a0, y35, y36⟩ : S3ddd55)).bind fun r40 => impl_readObject.l3 k a0 r40 0 r40.2.1 r40.2.2 ([] : List SNeed)
def impl_readObject.l5 : Nat → ByteArray → (Int × Int × Bool) → Int → Int → Bool → (List SCode) → Option (Int × Bool × (List SCode))
  | 0, _, _, _, _, _, _ => none
  | k + 1, a0, r73, z86, z87, z88, z89 => if z86 < r73.1 then ((impl_reader__code_2.f k (⟨a0, z87, z88⟩ : S3ddd55)).bind fun r91 => if (z89 ++ ([r91.1] : List SCode)).length * 64 ≤ 140737488355328 then (impl_readObject.l5 k a0 r73 (w64 (z86 + 1)) r91.2.1 r91.2.2.1 (z89 ++ ([r91.1] : List SCode))) else none) else (some (z87, z88, z89))
def impl_readObject.e6 (k : Nat) (a0 : ByteArray) (y68 : Int) (y69 : Bool) : Option (Int × Bool × (List SCode)) := (impl_reader__number_2.f k 1 (⟨a0, y68, y69⟩ : S3ddd55)).bind fun r73 => impl_readObject.l5 k a0 r73 0 r73.2.1 r73.2.2 ([] : List SCode)
def impl_readObject.e7 (k : Nat) (a0 : ByteArray) (r3 : (ByteArray × Int × Bool)) (r5 : (Int × Int × Bool)) (y37 : (List SNeed)) (y70 : (List SNeed)) (y95 : Int) (y96 : Bool) (y97 : (List SCode)) : Option Bool := (impl_reader__ends_1.f k (⟨a0, y95, y96⟩ : S3ddd55)).bind fun r100 => if r100 = true then ((impl_ObjectOK.f k (⟨r3.1, r5.1, y37, y70, y97⟩ : SObj)).bind fun r103 => some r103) else (some false)
def impl_readObject.f (k : Nat) (a0 : ByteArray) : Option (SObj × Bool × ByteArray × Int × (List SNeed) × (List SNeed) × (List SCode)) := (impl_reader__head_2.f k (⟨#[79, 79, 49]⟩ : ByteArray) (⟨a0, 0, false⟩ : S3ddd55)).bind fun r1 => (impl_reader__text_2.f k (⟨a0, r1.1, r1.2⟩ : S3ddd55)).bind fun r3 => (impl_reader__number_2.f k 8 (⟨a0, r3.2.1, r3.2.2⟩ : S3ddd55)).bind fun r5 => (impl_readObject.e2 k a0 r5).bind fun v => match v with | (y35, y36, y37) => (impl_readObject.e4 k a0 y35 y36).bind fun v => match v with | (y68, y69, y70) => (impl_readObject.e6 k a0 y68 y69).bind fun v => match v with | (y95, y96, y97) => (impl_readObject.e7 k a0 r3 r5 y37 y70 y95 y96 y97).bind fun y105 => some ((⟨r3.1, r5.1, y37, y70, y97⟩ : SObj), y105, r3.1, r5.1, y37, y70, y97)
theorem impl_readObject.fn {k : Nat} {a0 : ByteArray} {r : (SObj × Bool × ByteArray × Int × (List SNeed) × (List SNeed) × (List SCode))} (H : impl_readObject.f k a0 = some r) : FnG Tryz.prog 14 [oS a0] [] [] (tp [some 5, none] [cS r.1.f0, cI r.1.f1, .sl 2 (List.map eSNeed r.1.f2), .sl 2 (List.map eSNeed r.1.f3), .sl 5 (List.map eSCode r.1.f4), cB r.2.1]) [] [[cS r.2.2.1, cI r.2.2.2.1, .sl 2 (List.map eSNeed r.2.2.2.2.1), .sl 2 (List.map eSNeed r.2.2.2.2.2.1), .sl 5 (List.map eSCode r.2.2.2.2.2.2)]] := by
 refine FnG.bodyR (rv := [(2, some 27), (3, none)]) Tryz.func14 rfl rfl (by decide) (by decide) (Nat.le_of_ble_eq_true rfl) rfl (Nat.le_of_ble_eq_true rfl) ?_
 refine rn [0, 2] 1 [] [] ?_
 refine rn [2, 4] 2 [] [] ?_
 obtain ⟨r1, h2, H⟩ := bs H
 refine rn [2, 4] 2 [] [hG 1 [] [1] none (impl_reader__head_2.fn h2)] ?_
 obtain ⟨r3, h4, H⟩ := bs H
 obtain ⟨r5, h6, H⟩ := bs H
 refine rn [2, 4, 5] 3 [] [hG 1 [] [1] none (impl_reader__text_2.fn h4), hG 3 [] [1] none (impl_reader__number_2.fn h6)] ?_
 refine jo H (fun w => ⟨65, [(2, o1 (.ref 0 0)), (4, o1 (.ref 1 0)), (5, o1 (.ref 2 0))], [[cS (⟨#[]⟩ : ByteArray), cI 0, .nl, .nl, .nl], [cS a0, cI w.1, cB w.2.1], [cS r3.1, cI r5.1, .own 51 (List.map eSNeed w.2.2), .nl, .nl]], 0, []⟩) (fun w H => ?_) fun v39 h38 H => ?_
 ·obtain ⟨y35, y36, y37⟩ := w
  refine jo H (fun w => ⟨65, [(2, o1 (.ref 0 0)), (4, o1 (.ref 1 0)), (5, o1 (.ref 2 0))], [[cS (⟨#[]⟩ : ByteArray), cI 0, .nl, .nl, .nl], [cS a0, cI w.1, cB w.2.1], [cS r3.1, cI r5.1, .own 51 (List.map eSNeed y37), .own 53 (List.map eSNeed w.2.2), .nl]], 0, []⟩) (fun w H => ?_) fun v72 h71 H => ?_
  ·obtain ⟨y68, y69, y70⟩ := w
   refine jo H (fun w => ⟨65, [(2, o1 (.ref 0 0)), (4, o1 (.ref 1 0)), (5, o1 (.ref 2 0))], [[cS (⟨#[]⟩ : ByteArray), cI 0, .nl, .nl, .nl], [cS a0, cI w.1, cB w.2.1], [cS r3.1, cI r5.1, .own 51 (List.map eSNeed y37), .own 53 (List.map eSNeed y70), .own 56 (List.map eSCode w.2.2)]], 0, []⟩) (fun w H => ?_) fun v99 h98 H => ?_
   ·obtain ⟨y95, y96, y97⟩ := w
    refine jo H (fun y105 => ⟨65, [(2, o1 (.ref 0 0)), (3, oB y105)], [[cS r3.1, cI r5.1, .sl 2 (List.map eSNeed y37), .sl 2 (List.map eSNeed y70), .sl 5 (List.map eSCode y97)]], 0, []⟩) (fun y105 H => ?_) fun v107 h106 H => ?_
    ·refine Tri.ret ?_
     obtain rfl := si H;exact endsR (.inr rfl) (by kernel_rfl)
    refine fx [2, 4, 5] 3 [.frz (.b 2 2)] ?_
    refine fx [2, 4, 5] 3 [.frz (.b 2 3)] ?_
    refine fx [2, 4, 5] 3 [.frz (.b 2 4)] ?_
    obtain ⟨r100, h101, h106⟩ := bs h106
    rcases iteb_some h106 with ⟨h102, h106⟩ | ⟨h102, h106⟩
    ·obtain ⟨r103, h104, h106⟩ := bs h106
     refine deL hmix [[], [], [1], [1, 2], [1, 2, 3], [1, 2, 3, 4], [1, 2, 3, 4, 5], [0, 1, 2, 3, 4, 5], [0, 1, 2, 3, 4, 5, 6, 7]] [7] [⟨65, [(2, o1 (.ref 0 0)), (4, o1 (.ref 1 0)), (5, o1 (.ref 2 0))], [[cS r3.1, cI r5.1, .sl 2 (List.map eSNeed y37), .sl 2 (List.map eSNeed y70), .sl 5 (List.map eSCode y97)], [cS a0, cI y95, cB y96], [cS r3.1, cI r5.1, .sl 2 (List.map eSNeed y37), .sl 2 (List.map eSNeed y70), .sl 5 (List.map eSCode y97)]], 0, []⟩] [(58, ag [cS r3.1, cI r5.1, .sl 2 (List.map eSNeed y37), .sl 2 (List.map eSNeed y70), .sl 5 (List.map eSCode y97)]), (59, o1 (.ref 1 0)), (60, oB true), (61, oB true), (62, ag [cS r3.1, cI r5.1, .sl 2 (List.map eSNeed y37), .sl 2 (List.map eSNeed y70), .sl 5 (List.map eSCode y97)]), (63, oB r103), (64, oB r103), (57, ⟨.any, []⟩)] [2, 3] 1 [] (fun A D B => ([hz B 1, ht D 0, ht D 1, hC 2 (impl_reader__ends_1.fn h101), hB 2 h102, ht D 2, ht D 3, ht D 4, hC 5 (impl_ObjectOK.fn h104), ht D 5, ht D 6, ht D 6, hm A D B 0 7 [57, 58, 59, 60, 61, 62, 63, 2, 4, 5]], [])) ?_
     exact pf r103 h106
    refine deL hmix [[], [], [1], [1, 2], [1, 2, 3], [1, 2, 3, 4], [1, 2, 3, 4, 5], [0, 1, 2, 3, 4, 5], [0, 1, 2, 3, 4, 5, 6, 7]] [7] [⟨65, [(2, o1 (.ref 0 0)), (4, o1 (.ref 1 0)), (5, o1 (.ref 2 0))], [[cS r3.1, cI r5.1, .sl 2 (List.map eSNeed y37), .sl 2 (List.map eSNeed y70), .sl 5 (List.map eSCode y97)], [cS a0, cI y95, cB y96], [cS r3.1, cI r5.1, .sl 2 (List.map eSNeed y37), .sl 2 (List.map eSNeed y70), .sl 5 (List.map eSCode y97)]], 0, []⟩] [(58, ag [cS r3.1, cI r5.1, .sl 2 (List.map eSNeed y37), .sl 2 (List.map eSNeed y70), .sl 5 (List.map eSCode y97)]), (59, o1 (.ref 1 0)), (60, oB false), (61, oB false), (62, tp [] []), (63, tp [] []), (64, oB false), (57, ⟨.any, []⟩)] [2, 3] 1 [] (fun A D B => ([hz B 1, ht D 0, ht D 1, hC 2 (impl_reader__ends_1.fn h101), hB 2 h102, ht D 2, ht D 3, ht D 4, ht D 5, ht D 6, ht D 6, hm A D B 0 7 [57, 58, 59, 60, 61, 62, 63, 2, 4, 5]], [])) ?_
    exact pf false h106
   obtain ⟨r73, h74, h98⟩ := bs h98
   refine rn [2, 4, 5, 47, 48] 3 [] [hG 1 [] [1] none (impl_reader__number_2.fn h74)] ?_
   refine bl ?_
   refine fx [2, 4, 5, 47, 48] 3 [.own (.b 2 4) 56] ?_
   refine lo (Int × Int × Bool × (List SCode)) k (fun k x => impl_readObject.l5 k a0 r73 x.1 x.2.1 x.2.2.1 x.2.2.2) (fun x => ⟨65, [(2, o1 (.ref 0 0)), (4, o1 (.ref 1 0)), (5, o1 (.ref 2 0)), (47, oI r73.1), (48, oI x.1)], [[cS (⟨#[]⟩ : ByteArray), cI 0, .nl, .nl, .nl], [cS a0, cI x.2.1, cB x.2.2.1], [cS r3.1, cI r5.1, .own 51 (List.map eSNeed y37), .own 53 (List.map eSNeed y70), .own 56 (List.map eSCode x.2.2.2)]], 0, []⟩) (0, r73.2.1, r73.2.2, ([] : List SCode)) h98 fun k x h98 IH94 => ?_
   obtain ⟨z86, z87, z88, z89⟩ := x
   rw [impl_readObject.l5.eq_2] at h98
   refine rn [2, 4, 5, 47, 48, 49] 3 [] [] ?_
   refine sq ?_
   refine ci h98 (fun h90 h98 => ?_) fun h90 h98 => ?_
   ·refine sk ?_
    refine sq ?_
    refine bl ?_
    obtain ⟨r91, h92, h98⟩ := bs h98
    obtain ⟨h93, h98⟩ := nd h98
    refine deL hmix [[], [0], [], [2], [2, 3], [0, 1, 2, 3, 4], [0, 1, 2, 3, 4, 5], [0, 1, 2, 3, 4, 5, 6]] [3] [⟨65, [(2, o1 (.ref 0 0)), (4, o1 (.ref 1 0)), (5, o1 (.ref 2 0)), (47, oI r73.1), (48, oI z86), (49, oB (decide (z86 < r73.1)))], [[cS (⟨#[]⟩ : ByteArray), cI 0, .nl, .nl, .nl], [cS a0, cI r91.2.1, cB r91.2.2.1], [cS r3.1, cI r5.1, .own 51 (List.map eSNeed y37), .own 53 (List.map eSNeed y70), .own 56 (List.map eSCode z89)], [cS r91.2.2.2.1, cI r91.2.2.2.2.1, cI r91.2.2.2.2.2.1, cI r91.2.2.2.2.2.2.1, .sl 5 (List.map eSIns r91.2.2.2.2.2.2.2)]], 0, []⟩] [(50, o1 (.ref 2 4)), (51, o1 (.al (.b 2 4))), (52, o1 (.ref 1 0)), (53, ag (eSCode r91.1)), (54, o1 (.own 56 (List.map eSCode ([r91.1] : List SCode))))] [2, 4, 5, 47, 48] 3 [] (fun A D B => ([hz B 1, ht D 0, ht D 0, ht D 1, ht D 1, ht D 2, hG 3 [] [1] none (impl_reader__code_2.fn h92), hm A D B 0 3 [53, 52, 2, 4, 5, 47, 48, 49], hx B 0 2, ht D 4], [hA 5 56 eSCode h93])) ?_
    refine rl [2, 4, 5, 47, 48] 3 [] [] ?_
    exact lb IH94 (w64 (z86 + 1), r91.2.1, r91.2.2.1, z89 ++ ([r91.1] : List SCode)) h98
   refine fx [2, 4, 5] 3 [] ?_
   refine xi ?_
   exact pf (z87, z88, z89) h98
  obtain ⟨r40, h41, h71⟩ := bs h71
  refine rn [2, 4, 5, 32, 33] 3 [] [hG 1 [] [1] none (impl_reader__number_2.fn h41)] ?_
  refine bl ?_
  refine fx [2, 4, 5, 32, 33] 3 [.own (.b 2 3) 53] ?_
  refine lo (Int × Int × Bool × (List SNeed)) k (fun k x => impl_readObject.l3 k a0 r40 x.1 x.2.1 x.2.2.1 x.2.2.2) (fun x => ⟨65, [(2, o1 (.ref 0 0)), (4, o1 (.ref 1 0)), (5, o1 (.ref 2 0)), (32, oI r40.1), (33, oI x.1)], [[cS (⟨#[]⟩ : ByteArray), cI 0, .nl, .nl, .nl], [cS a0, cI x.2.1, cB x.2.2.1], [cS r3.1, cI r5.1, .own 51 (List.map eSNeed y37), .own 53 (List.map eSNeed x.2.2.2), .nl]], 0, []⟩) (0, r40.2.1, r40.2.2, ([] : List SNeed)) h71 fun k x h71 IH67 => ?_
  obtain ⟨z57, z58, z59, z60⟩ := x
  rw [impl_readObject.l3.eq_2] at h71
  refine rn [2, 4, 5, 32, 33, 34] 3 [] [] ?_
  refine sq ?_
  refine ci h71 (fun h61 h71 => ?_) fun h61 h71 => ?_
  ·refine sk ?_
   refine sq ?_
   refine bl ?_
   obtain ⟨r62, h63, h71⟩ := bs h71
   obtain ⟨r64, h65, h71⟩ := bs h71
   obtain ⟨h66, h71⟩ := nd h71
   refine deL hmix [[], [0], [], [2], [], [2, 3, 4], [2, 3, 4, 5], [2, 3, 4, 5, 6], [0, 1, 2, 3, 4, 5, 6, 7], [0, 1, 2, 3, 4, 5, 6, 7, 8], [0, 1, 2, 3, 4, 5, 6, 7, 8, 9]] [3, 5] [⟨65, [(2, o1 (.ref 0 0)), (4, o1 (.ref 1 0)), (5, o1 (.ref 2 0)), (32, oI r40.1), (33, oI z57), (34, oB (decide (z57 < r40.1)))], [[cS (⟨#[]⟩ : ByteArray), cI 0, .nl, .nl, .nl], [cS a0, cI r62.2.1, cB r62.2.2], [cS r3.1, cI r5.1, .own 51 (List.map eSNeed y37), .own 53 (List.map eSNeed z60), .nl]], 0, []⟩, ⟨65, [(2, o1 (.ref 0 0)), (4, o1 (.ref 1 0)), (5, o1 (.ref 2 0)), (32, oI r40.1), (33, oI z57), (34, oB (decide (z57 < r40.1)))], [[cS (⟨#[]⟩ : ByteArray), cI 0, .nl, .nl, .nl], [cS a0, cI r64.2.1, cB r64.2.2], [cS r3.1, cI r5.1, .own 51 (List.map eSNeed y37), .own 53 (List.map eSNeed z60), .nl]], 0, []⟩] [(35, o1 (.ref 2 3)), (36, o1 (.al (.b 2 3))), (37, o1 (.ref 1 0)), (38, oS r62.1), (39, o1 (.ref 1 0)), (40, oI r64.1), (41, ag [cS r62.1, cI r64.1]), (42, o1 (.own 53 (List.map eSNeed ([(⟨r62.1, r64.1⟩ : SNeed)] : List SNeed))))] [2, 4, 5, 32, 33] 3 [] (fun A D B => ([hz B 1, hz B 2, ht D 0, ht D 0, ht D 0, ht D 1, ht D 1, ht D 1, ht D 2, hG 3 [] [1] none (impl_reader__text_2.fn h63), hm A D B 0 3 [38, 37, 2, 4, 5, 32, 33, 34], hx B 0 2, ht D 4, ht D 4, hG 5 [] [1] none (impl_reader__number_2.fn h65), hm A D B 1 5 [40, 37, 38, 39, 2, 4, 5, 32, 33, 34], hx B 1 2, ht D 6, ht D 7], [hA 8 53 eSNeed h66])) ?_
   refine rl [2, 4, 5, 32, 33] 3 [] [] ?_
   exact lb IH67 (w64 (z57 + 1), r64.2.1, r64.2.2, z60 ++ ([(⟨r62.1, r64.1⟩ : SNeed)] : List SNeed)) h71
  refine fx [2, 4, 5] 3 [] ?_
  refine xi ?_
  exact pf (z58, z59, z60) h71
 obtain ⟨r7, h8, h38⟩ := bs h38
 refine rn [2, 4, 5, 17, 18] 3 [] [hG 1 [] [1] none (impl_reader__number_2.fn h8)] ?_
 refine bl ?_
 refine fx [2, 4, 5, 17, 18] 3 [.own (.b 2 2) 51] ?_
 refine lo (Int × Int × Bool × (List SNeed)) k (fun k x => impl_readObject.l1 k a0 r7 x.1 x.2.1 x.2.2.1 x.2.2.2) (fun x => ⟨65, [(2, o1 (.ref 0 0)), (4, o1 (.ref 1 0)), (5, o1 (.ref 2 0)), (17, oI r7.1), (18, oI x.1)], [[cS (⟨#[]⟩ : ByteArray), cI 0, .nl, .nl, .nl], [cS a0, cI x.2.1, cB x.2.2.1], [cS r3.1, cI r5.1, .own 51 (List.map eSNeed x.2.2.2), .nl, .nl]], 0, []⟩) (0, r7.2.1, r7.2.2, ([] : List SNeed)) h38 fun k x h38 IH34 => ?_
 obtain ⟨z24, z25, z26, z27⟩ := x
 rw [impl_readObject.l1.eq_2] at h38
 refine rn [2, 4, 5, 17, 18, 19] 3 [] [] ?_
 refine sq ?_
 refine ci h38 (fun h28 h38 => ?_) fun h28 h38 => ?_
 ·refine sk ?_
  refine sq ?_
  refine bl ?_
  obtain ⟨r29, h30, h38⟩ := bs h38
  obtain ⟨r31, h32, h38⟩ := bs h38
  obtain ⟨h33, h38⟩ := nd h38
  refine deL hmix [[], [0], [], [2], [], [2, 3, 4], [2, 3, 4, 5], [2, 3, 4, 5, 6], [0, 1, 2, 3, 4, 5, 6, 7], [0, 1, 2, 3, 4, 5, 6, 7, 8], [0, 1, 2, 3, 4, 5, 6, 7, 8, 9]] [3, 5] [⟨65, [(2, o1 (.ref 0 0)), (4, o1 (.ref 1 0)), (5, o1 (.ref 2 0)), (17, oI r7.1), (18, oI z24), (19, oB (decide (z24 < r7.1)))], [[cS (⟨#[]⟩ : ByteArray), cI 0, .nl, .nl, .nl], [cS a0, cI r29.2.1, cB r29.2.2], [cS r3.1, cI r5.1, .own 51 (List.map eSNeed z27), .nl, .nl]], 0, []⟩, ⟨65, [(2, o1 (.ref 0 0)), (4, o1 (.ref 1 0)), (5, o1 (.ref 2 0)), (17, oI r7.1), (18, oI z24), (19, oB (decide (z24 < r7.1)))], [[cS (⟨#[]⟩ : ByteArray), cI 0, .nl, .nl, .nl], [cS a0, cI r31.2.1, cB r31.2.2], [cS r3.1, cI r5.1, .own 51 (List.map eSNeed z27), .nl, .nl]], 0, []⟩] [(20, o1 (.ref 2 2)), (21, o1 (.al (.b 2 2))), (22, o1 (.ref 1 0)), (23, oS r29.1), (24, o1 (.ref 1 0)), (25, oI r31.1), (26, ag [cS r29.1, cI r31.1]), (27, o1 (.own 51 (List.map eSNeed ([(⟨r29.1, r31.1⟩ : SNeed)] : List SNeed))))] [2, 4, 5, 17, 18] 3 [] (fun A D B => ([hz B 1, hz B 2, ht D 0, ht D 0, ht D 0, ht D 1, ht D 1, ht D 1, ht D 2, hG 3 [] [1] none (impl_reader__text_2.fn h30), hm A D B 0 3 [23, 22, 2, 4, 5, 17, 18, 19], hx B 0 2, ht D 4, ht D 4, hG 5 [] [1] none (impl_reader__number_2.fn h32), hm A D B 1 5 [25, 22, 23, 24, 2, 4, 5, 17, 18, 19], hx B 1 2, ht D 6, ht D 7], [hA 8 51 eSNeed h33])) ?_
  refine rl [2, 4, 5, 17, 18] 3 [] [] ?_
  exact lb IH34 (w64 (z24 + 1), r31.2.1, r31.2.2, z27 ++ ([(⟨r29.1, r31.1⟩ : SNeed)] : List SNeed)) h38
 refine fx [2, 4, 5] 3 [] ?_
 refine xi ?_
 exact pf (z25, z26, z27) h38
/-! impl_ReadObject: function 6 -/
def impl_ReadObject.f (k : Nat) (a0 : (List Int)) : Option (SObj × Int × ByteArray × Int × (List SNeed) × (List SNeed) × (List SCode)) := (impl_isShort___byte.f k a0).bind fun r1 => if r1 = true then ((impl_readObject.f k (strOfNums a0)).bind fun r4 => if r4.2.1 = true then (some (r4.1, 0, r4.1.f0, r4.1.f1, r4.1.f2, r4.1.f3, r4.1.f4)) else (some ((⟨(⟨#[]⟩ : ByteArray), 0, ([] : List SNeed), ([] : List SNeed), ([] : List SCode)⟩ : SObj), 3, (⟨#[]⟩ : ByteArray), 0, ([] : List SNeed), ([] : List SNeed), ([] : List SCode)))) else (some ((⟨(⟨#[]⟩ : ByteArray), 0, ([] : List SNeed), ([] : List SNeed), ([] : List SCode)⟩ : SObj), 2, (⟨#[]⟩ : ByteArray), 0, ([] : List SNeed), ([] : List SNeed), ([] : List SCode)))
theorem impl_ReadObject.fn {k : Nat} {a0 : (List Int)} {r : (SObj × Int × ByteArray × Int × (List SNeed) × (List SNeed) × (List SCode))} (H : impl_ReadObject.f k a0 = some r) : FnG Tryz.prog 6 [o1 (.sl 1 (List.map (eK .u8) a0))] [] [] (tp [some 5, none] [cS r.1.f0, cI r.1.f1, .sl 2 (List.map eSNeed r.1.f2), .sl 2 (List.map eSNeed r.1.f3), .sl 5 (List.map eSCode r.1.f4), cI r.2.1]) [] [[cS r.2.2.1, cI r.2.2.2.1, .sl 2 (List.map eSNeed r.2.2.2.2.1), .sl 2 (List.map eSNeed r.2.2.2.2.2.1), .sl 5 (List.map eSCode r.2.2.2.2.2.2)]] := by
 refine FnG.bodyR (rv := [(2, some 27), (3, none)]) Tryz.func6 rfl rfl (by decide) (by decide) (Nat.le_of_ble_eq_true rfl) rfl (Nat.le_of_ble_eq_true rfl) ?_
 refine rn [0, 2] 1 [] [] ?_
 refine sq ?_
 obtain ⟨r1, h2, H⟩ := bs H
 refine rn [0, 2, 8] 1 [] [hC 1 (impl_isShort___byte.fn h2)] ?_
 refine cm H (fun h3 H => ?_) fun h3 H => ?_
 ·refine sk ?_
  obtain ⟨r4, h5, H⟩ := bs H
  refine rn [2, 4, 5] 3 [] [q1 1 (.nums a0) (rfl : List.map (eK .u8) a0 = List.map (fun n => [PC.sc (.int .u8 n)]) a0), hG 2 [] [] none (impl_readObject.fn h5)] ?_
  refine sq ?_
  refine rn [2, 4, 17] 3 [] [] ?_
  refine cm H (fun h6 H => ?_) fun h6 H => ?_
  ·refine sk ?_
   refine rn [2, 3] 1 [] [] ?_
   refine Tri.ret ?_
   obtain rfl := si H;exact endsR (.inr rfl) (by kernel_rfl)
  refine rn [2, 3] 1 [] [] ?_
  refine fx [2, 3] 1 [.sl (.b 0 2) 2, .sl (.b 0 3) 2, .sl (.b 0 4) 5] ?_
  refine Tri.ret ?_
  obtain rfl := si H;exact endsR (.inr rfl) (by kernel_rfl)
 refine rn [2, 3] 1 [] [] ?_
 refine fx [2, 3] 1 [.sl (.b 0 2) 2, .sl (.b 0 3) 2, .sl (.b 0 4) 5] ?_
 refine Tri.ret ?_
 obtain rfl := si H;exact endsR (.inr rfl) (by kernel_rfl)
/-! impl_ReadObject_1: function 6 -/
/-! laws_eqNeed: function 34 -/
def laws_eqNeed.f (k : Nat) (a0 : SNeed) (a1 : SNeed) : Option Bool := if a0.f0 = a1.f0 then (if a0.f1 = a1.f1 then (some true) else (some false)) else (some false)
theorem laws_eqNeed.fn {k : Nat} {a0 : SNeed} {a1 : SNeed} {r : Bool} (H : laws_eqNeed.f k a0 a1 = some r) : Fn Tryz.prog 34 [ag (eSNeed a0), ag (eSNeed a1)] [] (oB r) [] := by
 refine Fn.bd [4] Tryz.func34 ?_
 refine rn [2, 3] 2 [] [] ?_
 refine sq ?_
 refine rn [2, 3, 9] 2 [] [] ?_
 refine cn H (fun h1 H => ?_) fun h1 H => ?_
 ·refine sk ?_
  refine sq ?_
  refine rn [14] 0 [] [] ?_
  refine cn H (fun h2 H => ?_) fun h2 H => ?_
  ·refine sk ?_
   refine rn [4] 0 [] [] ?_
   refine Tri.ret ?_
   obtain rfl := si H;exact eR
  refine rn [4] 0 [] [] ?_
  refine Tri.ret ?_
  obtain rfl := si H;exact eR
 refine rn [4] 0 [] [] ?_
 refine Tri.ret ?_
 obtain rfl := si H;exact eR
/-! laws_eqNeedS: function 15 -/
def laws_eqNeedS.l1 : Nat → (List SNeed) → (List SNeed) → Int → Option (Bool ⊕ Unit)
  | 0, _, _, _ => none
  | k + 1, a0, a1, z10 => if z10 < (a0.length : Int) then ((at? a0 z10).bind fun x12 => (at? a1 z10).bind fun x14 => (laws_eqNeed.f k x12 x14).bind fun r16 => if r16 = true then (laws_eqNeedS.l1 k a0 a1 (w64 (z10 + 1))) else (some (.inl false))) else (some (.inr ()))
def laws_eqNeedS.e2 (k : Nat) (a0 : (List SNeed)) (a1 : (List SNeed)) : Option (Bool ⊕ Unit) := laws_eqNeedS.l1 k a0 a1 0
def laws_eqNeedS.f (k : Nat) (a0 : (List SNeed)) (a1 : (List SNeed)) : Option Bool := if (a0.length : Int) = (a1.length : Int) then ((laws_eqNeedS.e2 k a0 a1).bind fun v => match v with | .inl r => some r | .inr _ => some true) else (some false)
theorem laws_eqNeedS.fn {k : Nat} {a0 : (List SNeed)} {a1 : (List SNeed)} {r : Bool} (H : laws_eqNeedS.f k a0 a1 = some r) : Fn Tryz.prog 15 [o1 (.sl 2 (List.map eSNeed a0)), o1 (.sl 2 (List.map eSNeed a1))] [] (oB r) [] := by
 refine Fn.bd [4] Tryz.func15 ?_
 refine rn [0, 1] 0 [] [] ?_
 refine sq ?_
 refine rn [0, 1, 10] 0 [] [hL 1 eSNeed a0, hL 3 eSNeed a1] ?_
 refine cn H (fun h1 H => ?_) fun h1 H => ?_
 ·refine sk ?_
  refine jr H (fun _ => ⟨27, [], [], 0, []⟩) (fun _ H => ?_) fun v21 h20 H => ?_
  ·refine rn [4] 0 [] [] ?_
   refine Tri.ret ?_
   obtain rfl := si H;exact eR
  refine rn [0, 1, 5] 0 [] [] ?_
  refine bl ?_
  refine lo Int k (fun k x => laws_eqNeedS.l1 k a0 a1 x) (fun x => ⟨27, [(0, o1 (.sl 2 (List.map eSNeed a0))), (1, o1 (.sl 2 (List.map eSNeed a1))), (5, oI x)], [], 0, []⟩) 0 h20 fun k z10 h20 IH19 => ?_
  rw [laws_eqNeedS.l1.eq_2] at h20
  refine sq ?_
  refine rn [0, 1, 5, 14] 0 [] [hL 2 eSNeed a0] ?_
  refine ci h20 (fun h11 h20 => ?_) fun h11 h20 => ?_
  ·refine sk ?_
   refine sq ?_
   refine bl ?_
   obtain ⟨x12, h13, h20⟩ := bs h20
   obtain ⟨x14, h15, h20⟩ := bs h20
   obtain ⟨r16, h17, h20⟩ := bs h20
   refine dn hmix 8 [[], [], [0, 1], [0, 1, 2], [], [], [4, 5], [4, 5, 6], [0, 1, 2, 3, 4, 5, 6, 7], [0, 1, 2, 3, 4, 5, 6, 7, 8]] [0, 1, 5, 26] 0 [] [hE 2 eSNeed h13, hE 6 eSNeed h15, hC 8 (laws_eqNeed.fn h17)] ?_
   refine cm h20 (fun h18 h20 => ?_) fun h18 h20 => ?_
   ·refine sk ?_
    refine rl [0, 1, 5] 0 [] [] ?_
    exact lb IH19 (w64 (z10 + 1)) h20
   refine rn [4] 0 [] [] ?_
   refine Tri.ret ?_
   obtain rfl := si h20;obtain rfl := si H;exact eR
  refine fx [] 0 [] ?_
  refine xi ?_
  exact pe () h20
 refine rn [4] 0 [] [] ?_
 refine Tri.ret ?_
 obtain rfl := si H;exact eR
/-! laws_eqGlobal: function 35 -/
def laws_eqGlobal.f (k : Nat) (a0 : SNeed) (a1 : SNeed) : Option Bool := if a0.f0 = a1.f0 then (if a0.f1 = a1.f1 then (some true) else (some false)) else (some false)
theorem laws_eqGlobal.fn {k : Nat} {a0 : SNeed} {a1 : SNeed} {r : Bool} (H : laws_eqGlobal.f k a0 a1 = some r) : Fn Tryz.prog 35 [ag (eSNeed a0), ag (eSNeed a1)] [] (oB r) [] := by
 refine Fn.bd [4] Tryz.func35 ?_
 refine rn [2, 3] 2 [] [] ?_
 refine sq ?_
 refine rn [2, 3, 9] 2 [] [] ?_
 refine cn H (fun h1 H => ?_) fun h1 H => ?_
 ·refine sk ?_
  refine sq ?_
  refine rn [14] 0 [] [] ?_
  refine cn H (fun h2 H => ?_) fun h2 H => ?_
  ·refine sk ?_
   refine rn [4] 0 [] [] ?_
   refine Tri.ret ?_
   obtain rfl := si H;exact eR
  refine rn [4] 0 [] [] ?_
  refine Tri.ret ?_
  obtain rfl := si H;exact eR
 refine rn [4] 0 [] [] ?_
 refine Tri.ret ?_
 obtain rfl := si H;exact eR
/-! laws_eqGlobalS: function 16 -/
def laws_eqGlobalS.l1 : Nat → (List SNeed) → (List SNeed) → Int → Option (Bool ⊕ Unit)
  | 0, _, _, _ => none
  | k + 1, a0, a1, z10 => if z10 < (a0.length : Int) then ((at? a0 z10).bind fun x12 => (at? a1 z10).bind fun x14 => (laws_eqGlobal.f k x12 x14).bind fun r16 => if r16 = true then (laws_eqGlobalS.l1 k a0 a1 (w64 (z10 + 1))) else (some (.inl false))) else (some (.inr ()))
def laws_eqGlobalS.e2 (k : Nat) (a0 : (List SNeed)) (a1 : (List SNeed)) : Option (Bool ⊕ Unit) := laws_eqGlobalS.l1 k a0 a1 0
def laws_eqGlobalS.f (k : Nat) (a0 : (List SNeed)) (a1 : (List SNeed)) : Option Bool := if (a0.length : Int) = (a1.length : Int) then ((laws_eqGlobalS.e2 k a0 a1).bind fun v => match v with | .inl r => some r | .inr _ => some true) else (some false)
theorem laws_eqGlobalS.fn {k : Nat} {a0 : (List SNeed)} {a1 : (List SNeed)} {r : Bool} (H : laws_eqGlobalS.f k a0 a1 = some r) : Fn Tryz.prog 16 [o1 (.sl 2 (List.map eSNeed a0)), o1 (.sl 2 (List.map eSNeed a1))] [] (oB r) [] := by
 refine Fn.bd [4] Tryz.func16 ?_
 refine rn [0, 1] 0 [] [] ?_
 refine sq ?_
 refine rn [0, 1, 10] 0 [] [hL 1 eSNeed a0, hL 3 eSNeed a1] ?_
 refine cn H (fun h1 H => ?_) fun h1 H => ?_
 ·refine sk ?_
  refine jr H (fun _ => ⟨27, [], [], 0, []⟩) (fun _ H => ?_) fun v21 h20 H => ?_
  ·refine rn [4] 0 [] [] ?_
   refine Tri.ret ?_
   obtain rfl := si H;exact eR
  refine rn [0, 1, 5] 0 [] [] ?_
  refine bl ?_
  refine lo Int k (fun k x => laws_eqGlobalS.l1 k a0 a1 x) (fun x => ⟨27, [(0, o1 (.sl 2 (List.map eSNeed a0))), (1, o1 (.sl 2 (List.map eSNeed a1))), (5, oI x)], [], 0, []⟩) 0 h20 fun k z10 h20 IH19 => ?_
  rw [laws_eqGlobalS.l1.eq_2] at h20
  refine sq ?_
  refine rn [0, 1, 5, 14] 0 [] [hL 2 eSNeed a0] ?_
  refine ci h20 (fun h11 h20 => ?_) fun h11 h20 => ?_
  ·refine sk ?_
   refine sq ?_
   refine bl ?_
   obtain ⟨x12, h13, h20⟩ := bs h20
   obtain ⟨x14, h15, h20⟩ := bs h20
   obtain ⟨r16, h17, h20⟩ := bs h20
   refine dn hmix 8 [[], [], [0, 1], [0, 1, 2], [], [], [4, 5], [4, 5, 6], [0, 1, 2, 3, 4, 5, 6, 7], [0, 1, 2, 3, 4, 5, 6, 7, 8]] [0, 1, 5, 26] 0 [] [hE 2 eSNeed h13, hE 6 eSNeed h15, hC 8 (laws_eqGlobal.fn h17)] ?_
   refine cm h20 (fun h18 h20 => ?_) fun h18 h20 => ?_
   ·refine sk ?_
    refine rl [0, 1, 5] 0 [] [] ?_
    exact lb IH19 (w64 (z10 + 1)) h20
   refine rn [4] 0 [] [] ?_
   refine Tri.ret ?_
   obtain rfl := si h20;obtain rfl := si H;exact eR
  refine fx [] 0 [] ?_
  refine xi ?_
  exact pe () h20
 refine rn [4] 0 [] [] ?_
 refine Tri.ret ?_
 obtain rfl := si H;exact eR
/-! laws_eqIns: function 66 -/
def laws_eqIns.f (k : Nat) (a0 : SIns) (a1 : SIns) : Option Bool := if a0.f0 = a1.f0 then (if a0.f1 = a1.f1 then (if a0.f2 = a1.f2 then (if a0.f3 = a1.f3 then (if a0.f4 = a1.f4 then (some true) else (some false)) else (some false)) else (some false)) else (some false)) else (some false)
theorem laws_eqIns.fn {k : Nat} {a0 : SIns} {a1 : SIns} {r : Bool} (H : laws_eqIns.f k a0 a1 = some r) : Fn Tryz.prog 66 [ag (eSIns a0), ag (eSIns a1)] [] (oB r) [] := by
 refine Fn.bd [4] Tryz.func66 ?_
 refine rn [2, 3] 2 [] [] ?_
 refine sq ?_
 refine rn [2, 3, 9] 2 [] [] ?_
 refine cn H (fun h1 H => ?_) fun h1 H => ?_
 ·refine sk ?_
  refine sq ?_
  refine rn [2, 3, 14] 2 [] [] ?_
  refine cn H (fun h2 H => ?_) fun h2 H => ?_
  ·refine sk ?_
   refine sq ?_
   refine rn [2, 3, 19] 2 [] [] ?_
   refine cn H (fun h3 H => ?_) fun h3 H => ?_
   ·refine sk ?_
    refine sq ?_
    refine rn [2, 3, 24] 2 [] [] ?_
    refine cn H (fun h4 H => ?_) fun h4 H => ?_
    ·refine sk ?_
     refine sq ?_
     refine rx [29] 0 [] [] ⟨30, [(29, oB (!(decide (a0.f4 = a1.f4))))], [], 0, []⟩ ?_
     refine cn H (fun h5 H => ?_) fun h5 H => ?_
     ·refine sk ?_
      refine rn [4] 0 [] [] ?_
      refine Tri.ret ?_
      obtain rfl := si H;exact eR
     refine rn [4] 0 [] [] ?_
     refine Tri.ret ?_
     obtain rfl := si H;exact eR
    refine rx [4] 0 [] [] ⟨30, [(4, oB false)], [], 0, []⟩ ?_
    refine Tri.ret ?_
    obtain rfl := si H;exact eR
   refine rn [4] 0 [] [] ?_
   refine Tri.ret ?_
   obtain rfl := si H;exact eR
  refine rn [4] 0 [] [] ?_
  refine Tri.ret ?_
  obtain rfl := si H;exact eR
 refine rn [4] 0 [] [] ?_
 refine Tri.ret ?_
 obtain rfl := si H;exact eR
end Go.Proofs.YtoclajfeeebbbadGreatDoor.E
