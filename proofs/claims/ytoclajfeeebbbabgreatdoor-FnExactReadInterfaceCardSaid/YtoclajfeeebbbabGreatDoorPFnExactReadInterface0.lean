/- Functions of the program and their contracts: printed by ep3.py, a program of this session. -/
import Derived.Test.YtoclajfeeebbbabGreatDoorGFnExactReadInterface
import Derived.Test.YtoclajfeeebbbabGreatDoorProg
set_option maxRecDepth 100000
set_option linter.unusedVariables false
set_option linter.unusedSectionVars false
set_option linter.unusedSimpArgs false
namespace Go.Proofs.YtoclajfeeebbbabGreatDoor.E
open Go.RowKit
variable [Lent]
structure SParam where
  f0 : Int
  f1 : Bool
def eSParam (x : SParam) : List PC := [cI x.f0, cB x.f1]
structure SItem where
  f0 : Int
  f1 : Int
  f2 : Int
  f3 : Int
  f4 : ByteArray
  f5 : (List SParam)
def eSItem (x : SItem) : List PC := [cI x.f0, cI x.f1, cI x.f2, cI x.f3, cS x.f4, .sl 2 (List.map eSParam x.f5)]
structure SFace where
  f0 : ByteArray
  f1 : (List SItem)
def eSFace (x : SFace) : List PC := [cS x.f0, .sl 6 (List.map eSItem x.f1)]
structure S909f20 where
  f0 : (List Int)
  f1 : Int
  f2 : Bool
def eS909f20 (x : S909f20) : List PC := [.sl 1 (List.map (eK .u8) x.f0), cI x.f1, cB x.f2]
structure S3ddd55 where
  f0 : ByteArray
  f1 : Int
  f2 : Bool
def eS3ddd55 (x : S3ddd55) : List PC := [cS x.f0, cI x.f1, cB x.f2]
theorem hmix : Tryz.prog.follows .mixedOrders = true := by kernel_rfl
/-! laws_toByteS: function 5 -/
def laws_toByteS.l1 : Nat → (List Int) → (List Int) → Int → Option (List Int)
  | 0, _, _, _ => none
  | k + 1, a0, z7, z8 => if z8 < (a0.length : Int) then ((at? a0 z8).bind fun x10 => (at? z7 z8).bind fun x12 => laws_toByteS.l1 k a0 (z7.set (Int.toNat z8) x10) (w64 (z8 + 1))) else (some z7)
def laws_toByteS.e2 (k : Nat) (a0 : (List Int)) : Option (List Int) := laws_toByteS.l1 k a0 (List.replicate (Int.toNat (a0.length : Int)) (0 : Int) : List Int) 0
def laws_toByteS.f (k : Nat) (a0 : (List Int)) : Option (List Int) := if (a0.length : Int) * 1 ≤ 140737488355328 then ((laws_toByteS.e2 k a0).bind fun y15 => some y15) else none
theorem laws_toByteS.fn {k : Nat} {a0 : (List Int)} {r : (List Int)} (H : laws_toByteS.f k a0 = some r) : Fn Tryz.prog 5 [o1 (.sl 1 (List.map (eK .u8) a0))] [] (o1 (.own 5 (List.map (eK .u8) r))) [] := by
 refine Fn.bd [2] Tryz.func5 ?_
 refine rn [0] 0 [] [] ?_
 obtain ⟨h1, H⟩ := nd H
 refine rn [0, 3] 0 [] [hL 1 (eK .u8) a0, q4 2 (.nz []) (rfl : (a0.length : Int) = (a0.length : Int)) (show (0 : Int) ≤ (a0.length : Int) from Int.natCast_nonneg _) (mkN (b := 1) (by decide) (show (0 : Int) ≤ (a0.length : Int) from Int.natCast_nonneg _) h1) h1, q1 2 (.ov [.own 5 (List.map (eK .u8) (List.replicate (Int.toNat (a0.length : Int)) (0 : Int) : List Int))]) (ovrep (e := 5) (n := Int.toNat (a0.length : Int)) (z := (0 : Int)) (f := (eK .u8)))] ?_
 refine jo H (fun y15 => ⟨22, [(3, o1 (.own 5 (List.map (eK .u8) y15)))], [], 0, []⟩) (fun y15 H => ?_) fun v17 h16 H => ?_
 ·refine rn [2] 0 [] [] ?_
  refine Tri.ret ?_
  obtain rfl := si H;exact eR
 refine rn [0, 3, 4] 0 [] [] ?_
 refine bl ?_
 refine lo ((List Int) × Int) k (fun k x => laws_toByteS.l1 k a0 x.1 x.2) (fun x => ⟨22, [(0, o1 (.sl 1 (List.map (eK .u8) a0))), (3, o1 (.own 5 (List.map (eK .u8) x.1))), (4, oI x.2)], [], 0, []⟩) ((List.replicate (Int.toNat (a0.length : Int)) (0 : Int) : List Int), 0) h16 fun k x h16 IH14 => ?_
 obtain ⟨z7, z8⟩ := x
 rw [laws_toByteS.l1.eq_2] at h16
 refine sq ?_
 refine rn [0, 3, 4, 11] 0 [] [hL 2 (eK .u8) a0] ?_
 refine ci h16 (fun h9 h16 => ?_) fun h9 h16 => ?_
 ·refine sk ?_
  refine sq ?_
  refine bl ?_
  obtain ⟨x10, h11, h16⟩ := bs h16
  obtain ⟨x12, h13, h16⟩ := bs h16
  refine rl [0, 3, 4] 0 [] [hE 4 (eK .u8) h11, hE 6 (eK .u8) h13, hW 7 (.t 3 0) 5 (eK .u8) h13 x10] ?_
  refine rl [0, 3, 4] 0 [] [] ?_
  exact lb IH14 (z7.set (Int.toNat z8) x10, w64 (z8 + 1)) h16
 refine fx [3] 0 [] ?_
 refine xi ?_
 exact pf z7 h16
/-! spec_l03Reader__one_2: function 13 -/
def spec_l03Reader__one_2.e1 (k : Nat) (b0 : S909f20) : Option Bool := if b0.f2 = true then (some true) else (some (decide ((b0.f0.length : Int) ≤ b0.f1)))
def spec_l03Reader__one_2.f (k : Nat) (b0 : S909f20) : Option (Int × Int × Bool) := (spec_l03Reader__one_2.e1 k b0).bind fun y2 => if y2 = true then (some (0, b0.f1, true)) else ((at? b0.f0 (w64 ((w64 (b0.f1 + 1)) - 1))).bind fun x6 => some (w64 (x6), w64 (b0.f1 + 1), b0.f2))
theorem spec_l03Reader__one_2.fn {k : Nat} {b0 : S909f20} {r : (Int × Int × Bool)} (H : spec_l03Reader__one_2.f k b0 = some r) : FnG Tryz.prog 13 [o1 (.ref 0 0)] [] [eS909f20 b0] (oI r.1) [] [[.sl 1 (List.map (eK .u8) b0.f0), cI r.2.1, cB r.2.2]] := by
 refine FnG.body (ts := [2]) Tryz.func13 rfl rfl (by decide) (by decide) (Nat.le_of_ble_eq_true rfl) rfl (Nat.le_of_ble_eq_true rfl) ?_
 refine rn [0] 1 [] [] ?_
 refine sq ?_
 refine jo H (fun y2 => ⟨41, [(0, o1 (.ref 0 0)), (18, oB y2)], [eS909f20 b0], 1, []⟩) (fun y2 H => ?_) fun v4 h3 H => ?_
 ·refine cb H (fun h5 H => ?_) fun h5 H => ?_
  ·refine rn [] 1 [] [] ?_
   refine rn [2] 1 [] [] ?_
   refine Tri.ret ?_
   obtain rfl := si H;exact endsG (.inr rfl) (by kernel_rfl)
  refine sk ?_
  refine rn [0] 1 [] [] ?_
  obtain ⟨x6, h7, H⟩ := bs H
  refine dn hmix 9 [[], [0], [0, 1], [0, 1, 2], [], [4], [4, 5], [4, 5, 6], [4, 5, 6, 7], [0, 1, 2, 3, 4, 5, 6, 7, 8], [0, 1, 2, 3, 4, 5, 6, 7, 8, 9], [0, 1, 2, 3, 4, 5, 6, 7, 8, 9, 10], [0, 1, 2, 3, 4, 5, 6, 7, 8, 9, 10, 11]] [2] 1 [] [hE 9 (eK .u8) h7] ?_
  refine Tri.ret ?_
  obtain rfl := si H;exact endsG (.inr rfl) (by kernel_rfl)
 rcases iteb_some h3 with ⟨h1, h3⟩ | ⟨h1, h3⟩
 ·refine dl hmix 14 [[], [0], [0, 1], [0, 1, 2], [0, 1, 2, 3], [0, 1, 2, 3, 4], [0, 1, 2, 3, 4, 5], [0, 1, 2, 3, 4, 5, 6], [0, 1, 2, 3, 4, 5, 6, 7], [0, 1, 2, 3, 4], [0, 1, 2, 3, 4, 9], [0, 1, 2, 3, 4, 9, 10], [0, 1, 2, 3, 4, 9, 10, 11], [0, 1, 2, 3, 4, 9, 10, 11, 12], [0, 1, 2, 3, 4, 5, 6, 7, 8, 9, 10, 11, 12, 13], [0, 1, 2, 3, 4, 5, 6, 7, 8, 9, 10, 11, 12, 13, 14]] [0, 18] 1 [] [hB 3 h1] ?_
  exact pf true h3
 refine dl hmix 14 [[], [0], [0, 1], [0, 1, 2], [0, 1, 2, 3], [0, 1, 2, 3, 4], [0, 1, 2, 3, 4, 5], [0, 1, 2, 3, 4, 5, 6], [0, 1, 2, 3, 4, 5, 6, 7], [0, 1, 2, 3, 4], [0, 1, 2, 3, 4, 9], [0, 1, 2, 3, 4, 9, 10], [0, 1, 2, 3, 4, 9, 10, 11], [0, 1, 2, 3, 4, 9, 10, 11, 12], [0, 1, 2, 3, 4, 5, 6, 7, 8, 9, 10, 11, 12, 13], [0, 1, 2, 3, 4, 5, 6, 7, 8, 9, 10, 11, 12, 13, 14]] [0, 18] 1 [] [hB 3 h1, hL 13 (eK .u8) b0.f0] ?_
 exact pf (decide ((b0.f0.length : Int) ≤ b0.f1)) h3
/-! spec_l03Reader__text_2: function 12 -/
def spec_l03Reader__text_2.e1 (k : Nat) (b0 : S909f20) (r1 : (Int × Int × Bool)) : Option Bool := if r1.2.2 = true then (some true) else (some (decide ((b0.f0.length : Int) < (w64 (r1.2.1 + r1.1)))))
def spec_l03Reader__text_2.f (k : Nat) (b0 : S909f20) : Option (ByteArray × Int × Bool) := (spec_l03Reader__one_2.f k b0).bind fun r1 => (spec_l03Reader__text_2.e1 k b0 r1).bind fun y4 => if y4 = true then (some ((⟨#[]⟩ : ByteArray), r1.2.1, true)) else (if (0 : Int) ≤ (w64 ((w64 (r1.2.1 + r1.1)) - r1.1)) then (if (w64 ((w64 (r1.2.1 + r1.1)) - r1.1)) ≤ w64 (r1.2.1 + r1.1) then (if (w64 (r1.2.1 + r1.1)) ≤ (b0.f0.length : Int) then (some (strOfNums (List.take (Int.toNat ((w64 (r1.2.1 + r1.1)) - (w64 ((w64 (r1.2.1 + r1.1)) - r1.1)))) (List.drop (Int.toNat (w64 ((w64 (r1.2.1 + r1.1)) - r1.1))) b0.f0)), w64 (r1.2.1 + r1.1), r1.2.2)) else none) else none) else none)
theorem spec_l03Reader__text_2.fn {k : Nat} {b0 : S909f20} {r : (ByteArray × Int × Bool)} (H : spec_l03Reader__text_2.f k b0 = some r) : FnG Tryz.prog 12 [o1 (.ref 0 0)] [] [eS909f20 b0] (oS r.1) [] [[.sl 1 (List.map (eK .u8) b0.f0), cI r.2.1, cB r.2.2]] := by
 refine FnG.body (ts := [2]) Tryz.func12 rfl rfl (by decide) (by decide) (Nat.le_of_ble_eq_true rfl) rfl (Nat.le_of_ble_eq_true rfl) ?_
 refine rn [0] 1 [] [] ?_
 obtain ⟨r1, h2, H⟩ := bs H
 refine rn [0, 3] 1 [] [hG 1 [] [0] none (spec_l03Reader__one_2.fn h2)] ?_
 refine sq ?_
 refine jo H (fun y4 => ⟨51, [(0, o1 (.ref 0 0)), (3, oI r1.1), (23, oB y4)], [[.sl 1 (List.map (eK .u8) b0.f0), cI r1.2.1, cB r1.2.2]], 1, []⟩) (fun y4 H => ?_) fun v6 h5 H => ?_
 ·refine cb H (fun h7 H => ?_) fun h7 H => ?_
  ·refine rn [] 1 [] [] ?_
   refine rn [2] 1 [] [] ?_
   refine Tri.ret ?_
   obtain rfl := si H;exact endsG (.inr rfl) (by kernel_rfl)
  refine sk ?_
  refine rn [0, 3] 1 [] [] ?_
  obtain ⟨h8, H⟩ := nd H
  obtain ⟨h9, H⟩ := nd H
  obtain ⟨h10, H⟩ := nd H
  refine dn hmix 14 [[], [0], [0, 1], [0, 1, 2], [], [4], [4, 5], [4, 5, 6], [], [4, 5, 6, 7, 8], [], [10], [10, 11], [10, 11, 12], [0, 1, 2, 3, 4, 5, 6, 7, 8, 9, 10, 11, 12, 13], [0, 1, 2, 3, 4, 5, 6, 7, 8, 9, 10, 11, 12, 13, 14], [0, 1, 2, 3, 4, 5, 6, 7, 8, 9, 10, 11, 12, 13, 14, 15]] [2] 1 [] [p3 h8 h9 (lenle (f := (eK .u8)) (l := b0.f0) h10), q1 14 (.ov [.sl 1 (List.map (eK .u8) (List.take (Int.toNat ((w64 (r1.2.1 + r1.1)) - (w64 ((w64 (r1.2.1 + r1.1)) - r1.1)))) (List.drop (Int.toNat (w64 ((w64 (r1.2.1 + r1.1)) - r1.1))) b0.f0)))]) (ovcut (s := 1) (l := b0.f0) (f := (eK .u8)) (a := Int.toNat (w64 ((w64 (r1.2.1 + r1.1)) - r1.1))) (b := Int.toNat ((w64 (r1.2.1 + r1.1)) - (w64 ((w64 (r1.2.1 + r1.1)) - r1.1))))), q1 15 (.nums (List.take (Int.toNat ((w64 (r1.2.1 + r1.1)) - (w64 ((w64 (r1.2.1 + r1.1)) - r1.1)))) (List.drop (Int.toNat (w64 ((w64 (r1.2.1 + r1.1)) - r1.1))) b0.f0))) (rfl : List.map (eK .u8) (List.take (Int.toNat ((w64 (r1.2.1 + r1.1)) - (w64 ((w64 (r1.2.1 + r1.1)) - r1.1)))) (List.drop (Int.toNat (w64 ((w64 (r1.2.1 + r1.1)) - r1.1))) b0.f0)) = List.map (fun n => [PC.sc (.int .u8 n)]) (List.take (Int.toNat ((w64 (r1.2.1 + r1.1)) - (w64 ((w64 (r1.2.1 + r1.1)) - r1.1)))) (List.drop (Int.toNat (w64 ((w64 (r1.2.1 + r1.1)) - r1.1))) b0.f0)))] ?_
  refine Tri.ret ?_
  obtain rfl := si H;exact endsG (.inr rfl) (by kernel_rfl)
 rcases iteb_some h5 with ⟨h3, h5⟩ | ⟨h3, h5⟩
 ·refine dl hmix 16 [[], [0], [0, 1], [0, 1, 2], [0, 1, 2, 3], [0, 1, 2, 3, 4], [0, 1, 2, 3, 4, 5], [0, 1, 2, 3, 4, 5, 6], [0, 1, 2, 3, 4, 5, 6, 7], [0, 1, 2, 3, 4], [0, 1, 2, 3, 4, 5, 6, 7, 8, 9], [0, 1, 2, 3, 4], [0, 1, 2, 3, 4, 11], [0, 1, 2, 3, 4, 11, 12], [0, 1, 2, 3, 4, 11, 12, 13], [0, 1, 2, 3, 4, 11, 12, 13, 14], [0, 1, 2, 3, 4, 5, 6, 7, 8, 9, 10, 11, 12, 13, 14, 15], [0, 1, 2, 3, 4, 5, 6, 7, 8, 9, 10, 11, 12, 13, 14, 15, 16]] [0, 3, 23] 1 [] [hB 3 h3] ?_
  exact pf true h5
 refine dl hmix 16 [[], [0], [0, 1], [0, 1, 2], [0, 1, 2, 3], [0, 1, 2, 3, 4], [0, 1, 2, 3, 4, 5], [0, 1, 2, 3, 4, 5, 6], [0, 1, 2, 3, 4, 5, 6, 7], [0, 1, 2, 3, 4], [0, 1, 2, 3, 4, 5, 6, 7, 8, 9], [0, 1, 2, 3, 4], [0, 1, 2, 3, 4, 11], [0, 1, 2, 3, 4, 11, 12], [0, 1, 2, 3, 4, 11, 12, 13], [0, 1, 2, 3, 4, 11, 12, 13, 14], [0, 1, 2, 3, 4, 5, 6, 7, 8, 9, 10, 11, 12, 13, 14, 15], [0, 1, 2, 3, 4, 5, 6, 7, 8, 9, 10, 11, 12, 13, 14, 15, 16]] [0, 3, 23] 1 [] [hB 3 h3, hL 15 (eK .u8) b0.f0] ?_
 exact pf (decide ((b0.f0.length : Int) < (w64 (r1.2.1 + r1.1)))) h5
/-! spec_l03Reader__eight_2: function 14 -/
def spec_l03Reader__eight_2.l1 : Nat → S909f20 → Int → Int → Int → Bool → Option (Int × Int × Bool)
  | 0, _, _, _, _, _ => none
  | k + 1, b0, z4, z5, z6, z7 => if z5 < 8 then ((spec_l03Reader__one_2.f k (⟨b0.f0, z6, z7⟩ : S909f20)).bind fun r9 => spec_l03Reader__eight_2.l1 k b0 (ior .i64 (ishl .i64 z4 8) r9.1) (w64 (z5 + 1)) r9.2.1 r9.2.2) else (some (z4, z6, z7))
def spec_l03Reader__eight_2.e2 (k : Nat) (b0 : S909f20) : Option (Int × Int × Bool) := spec_l03Reader__eight_2.l1 k b0 0 0 b0.f1 b0.f2
def spec_l03Reader__eight_2.f (k : Nat) (b0 : S909f20) : Option (Int × Int × Bool) := (spec_l03Reader__eight_2.e2 k b0).bind fun v => match v with | (y12, y13, y14) => some (y12, y13, y14)
theorem spec_l03Reader__eight_2.fn {k : Nat} {b0 : S909f20} {r : (Int × Int × Bool)} (H : spec_l03Reader__eight_2.f k b0 = some r) : FnG Tryz.prog 14 [o1 (.ref 0 0)] [] [eS909f20 b0] (oI r.1) [] [[.sl 1 (List.map (eK .u8) b0.f0), cI r.2.1, cB r.2.2]] := by
 refine FnG.body (ts := [2]) Tryz.func14 rfl rfl (by decide) (by decide) (Nat.le_of_ble_eq_true rfl) rfl (Nat.le_of_ble_eq_true rfl) ?_
 refine rn [0] 1 [] [] ?_
 refine rn [0, 3] 1 [] [] ?_
 refine jo H (fun w => ⟨15, [(3, oI w.1)], [[.sl 1 (List.map (eK .u8) b0.f0), cI w.2.1, cB w.2.2]], 1, []⟩) (fun w H => ?_) fun v16 h15 H => ?_
 ·obtain ⟨y12, y13, y14⟩ := w
  refine rn [2] 1 [] [] ?_
  refine Tri.ret ?_
  obtain rfl := si H;exact endsG (.inr rfl) (by kernel_rfl)
 refine rn [0, 3, 4] 1 [] [] ?_
 refine bl ?_
 refine lo (Int × Int × Int × Bool) k (fun k x => spec_l03Reader__eight_2.l1 k b0 x.1 x.2.1 x.2.2.1 x.2.2.2) (fun x => ⟨15, [(0, o1 (.ref 0 0)), (3, oI x.1), (4, oI x.2.1)], [[.sl 1 (List.map (eK .u8) b0.f0), cI x.2.2.1, cB x.2.2.2]], 1, []⟩) (0, 0, b0.f1, b0.f2) h15 fun k x h15 IH11 => ?_
 obtain ⟨z4, z5, z6, z7⟩ := x
 rw [spec_l03Reader__eight_2.l1.eq_2] at h15
 refine sq ?_
 refine rn [0, 3, 4, 6] 1 [] [] ?_
 refine ci h15 (fun h8 h15 => ?_) fun h8 h15 => ?_
 ·refine sk ?_
  refine sq ?_
  refine bl ?_
  obtain ⟨r9, h10, h15⟩ := bs h15
  refine rl [0, 3, 4] 1 [] [p1 (show (0 : Int) ≤ 8 by decide), hG 3 [] [0] none (spec_l03Reader__one_2.fn h10)] ?_
  refine rl [0, 3, 4] 1 [] [] ?_
  exact lb IH11 (ior .i64 (ishl .i64 z4 8) r9.1, w64 (z5 + 1), r9.2.1, r9.2.2) h15
 refine fx [3] 1 [] ?_
 refine xi ?_
 exact pf (z4, z6, z7) h15
/-! spec_l00Letter: function 63 -/
def spec_l00Letter.e1 (k : Nat) (a0 : Int) : Option Bool := if (97 : Int) ≤ a0 then (if a0 ≤ 122 then (some true) else (if (65 : Int) ≤ a0 then (if a0 ≤ 90 then (some true) else (some (decide (a0 = 95)))) else (some (decide (a0 = 95))))) else (if (65 : Int) ≤ a0 then (if a0 ≤ 90 then (some true) else (some (decide (a0 = 95)))) else (some (decide (a0 = 95))))
def spec_l00Letter.f (k : Nat) (a0 : Int) : Option Bool := (spec_l00Letter.e1 k a0).bind fun y7 => some y7
theorem spec_l00Letter.fn {k : Nat} {a0 : Int} {r : Bool} (H : spec_l00Letter.f k a0 = some r) : Fn Tryz.prog 63 [o1 (cK .u8 a0)] [] (oB r) [] := by
 refine Fn.bd [2] Tryz.func63 ?_
 refine rn [0] 0 [] [] ?_
 refine jo H (fun y7 => ⟨21, [(2, oB y7)], [], 0, []⟩) (fun y7 H => ?_) fun v9 h8 H => ?_
 ·refine Tri.ret ?_
  obtain rfl := si H;exact eR
 rcases ite_some h8 with ⟨h1, h8⟩ | ⟨h1, h8⟩
 ·rcases ite_some h8 with ⟨h2, h8⟩ | ⟨h2, h8⟩
  ·refine rl [2] 0 [] [hB 1 (decide_eq_true h1), hB 4 (decide_eq_true h2)] ?_
   exact pf true h8
  rcases ite_some h8 with ⟨h3, h8⟩ | ⟨h3, h8⟩
  ·rcases ite_some h8 with ⟨h4, h8⟩ | ⟨h4, h8⟩
   ·refine rl [2] 0 [] [hB 1 (decide_eq_true h1), hB 4 (decide_eq_false h2), hB 8 (decide_eq_true h3), hB 11 (decide_eq_true h4)] ?_
    exact pf true h8
   refine rl [2] 0 [] [hB 1 (decide_eq_true h1), hB 4 (decide_eq_false h2), hB 8 (decide_eq_true h3), hB 11 (decide_eq_false h4)] ?_
   exact pf (decide (a0 = 95)) h8
  refine rl [2] 0 [] [hB 1 (decide_eq_true h1), hB 4 (decide_eq_false h2), hB 8 (decide_eq_false h3)] ?_
  exact pf (decide (a0 = 95)) h8
 rcases ite_some h8 with ⟨h5, h8⟩ | ⟨h5, h8⟩
 ·rcases ite_some h8 with ⟨h6, h8⟩ | ⟨h6, h8⟩
  ·refine rl [2] 0 [] [hB 1 (decide_eq_false h1), hB 8 (decide_eq_true h5), hB 11 (decide_eq_true h6)] ?_
   exact pf true h8
  refine rl [2] 0 [] [hB 1 (decide_eq_false h1), hB 8 (decide_eq_true h5), hB 11 (decide_eq_false h6)] ?_
  exact pf (decide (a0 = 95)) h8
 refine rl [2] 0 [] [hB 1 (decide_eq_false h1), hB 8 (decide_eq_false h5)] ?_
 exact pf (decide (a0 = 95)) h8
/-! spec_l00Digit: function 64 -/
def spec_l00Digit.e1 (k : Nat) (a0 : Int) : Option Bool := if (48 : Int) ≤ a0 then (some (decide (a0 ≤ 57))) else (some false)
def spec_l00Digit.f (k : Nat) (a0 : Int) : Option Bool := (spec_l00Digit.e1 k a0).bind fun y2 => some y2
theorem spec_l00Digit.fn {k : Nat} {a0 : Int} {r : Bool} (H : spec_l00Digit.f k a0 = some r) : Fn Tryz.prog 64 [o1 (cK .u8 a0)] [] (oB r) [] := by
 refine Fn.bd [2] Tryz.func64 ?_
 refine rn [0] 0 [] [] ?_
 refine jo H (fun y2 => ⟨9, [(2, oB y2)], [], 0, []⟩) (fun y2 H => ?_) fun v4 h3 H => ?_
 ·refine Tri.ret ?_
  obtain rfl := si H;exact eR
 rcases ite_some h3 with ⟨h1, h3⟩ | ⟨h1, h3⟩
 ·refine rl [2] 0 [] [hB 1 (decide_eq_true h1)] ?_
  exact pf (decide (a0 ≤ 57)) h3
 refine rl [2] 0 [] [hB 1 (decide_eq_false h1)] ?_
 exact pf false h3
/-! spec_l00Word: function 47 -/
def spec_l00Word.e1 (k : Nat) (a0 : ByteArray) : Option Bool := if (a0.size : Int) < 1 then (some true) else (if (40 : Int) < (a0.size : Int) then (some true) else (if (0 : Int) ≤ 0 then (if 0 < (a0.size : Int) then ((spec_l00Letter.f k (byteAt a0 0)).bind fun r5 => some (!r5)) else none) else none))
def spec_l00Word.e2 (k : Nat) (a0 : ByteArray) (z23 : Int) : Option Bool := if (0 : Int) ≤ z23 then ((spec_l00Letter.f k (byteAt a0 z23)).bind fun r26 => if r26 = true then (some false) else ((spec_l00Digit.f k (byteAt a0 z23)).bind fun r29 => some (!r29))) else none
def spec_l00Word.l3 : Nat → ByteArray → Int → Option (Bool ⊕ Unit)
  | 0, _, _ => none
  | k + 1, a0, z23 => if z23 < (a0.size : Int) then ((spec_l00Word.e2 k a0 z23).bind fun y31 => if y31 = true then (some (.inl false)) else (spec_l00Word.l3 k a0 (w64 (z23 + 1)))) else (some (.inr ()))
def spec_l00Word.e4 (k : Nat) (a0 : ByteArray) : Option (Bool ⊕ Unit) := spec_l00Word.l3 k a0 1
def spec_l00Word.f (k : Nat) (a0 : ByteArray) : Option Bool := (spec_l00Word.e1 k a0).bind fun y7 => if y7 = true then (some false) else ((spec_l00Word.e4 k a0).bind fun v => match v with | .inl r => some r | .inr _ => some true)
theorem spec_l00Word.fn {k : Nat} {a0 : ByteArray} {r : Bool} (H : spec_l00Word.f k a0 = some r) : Fn Tryz.prog 47 [oS a0] [] (oB r) [] := by
 refine Fn.bd [2] Tryz.func47 ?_
 refine rn [0] 0 [] [] ?_
 refine sq ?_
 refine jo H (fun y7 => ⟨36, [(0, oS a0), (17, oB y7)], [], 0, []⟩) (fun y7 H => ?_) fun v9 h8 H => ?_
 ·refine cb H (fun h10 H => ?_) fun h10 H => ?_
  ·refine rn [2] 0 [] [] ?_
   refine Tri.ret ?_
   obtain rfl := si H;exact eR
  refine sk ?_
  refine jr H (fun _ => ⟨36, [], [], 0, []⟩) (fun _ H => ?_) fun v37 h36 H => ?_
  ·refine rn [2] 0 [] [] ?_
   refine Tri.ret ?_
   obtain rfl := si H;exact eR
  refine rn [0, 3] 0 [] [] ?_
  refine bl ?_
  refine lo Int k (fun k x => spec_l00Word.l3 k a0 x) (fun x => ⟨36, [(0, oS a0), (3, oI x)], [], 0, []⟩) 1 h36 fun k z23 h36 IH35 => ?_
  rw [spec_l00Word.l3.eq_2] at h36
  refine sq ?_
  refine rn [0, 3, 21] 0 [] [] ?_
  refine ci h36 (fun h24 h36 => ?_) fun h24 h36 => ?_
  ·refine sk ?_
   refine sq ?_
   refine bl ?_
   refine jo h36 (fun y31 => ⟨36, [(0, oS a0), (3, oI z23), (35, oB y31)], [], 0, []⟩) (fun y31 h36 => ?_) fun v33 h32 h36 => ?_
   ·refine cb h36 (fun h34 h36 => ?_) fun h34 h36 => ?_
    ·refine rn [2] 0 [] [] ?_
     refine Tri.ret ?_
     obtain rfl := si h36;obtain rfl := si H;exact eR
    refine sk ?_
    refine rl [0, 3] 0 [] [] ?_
    exact lb IH35 (w64 (z23 + 1)) h36
   obtain ⟨h25, h32⟩ := nd h32
   obtain ⟨r26, h27, h32⟩ := bs h32
   rcases iteb_some h32 with ⟨h28, h32⟩ | ⟨h28, h32⟩
   ·refine rl [0, 3, 35] 0 [] [p2 h25 h24, hC 3 (spec_l00Letter.fn h27), hB 3 h28] ?_
    exact pf false h32
   obtain ⟨r29, h30, h32⟩ := bs h32
   refine rl [0, 3, 35] 0 [] [p2 h25 h24, hC 3 (spec_l00Letter.fn h27), hB 3 h28, p2 h25 h24, hC 9 (spec_l00Digit.fn h30)] ?_
   exact pf (!r29) h32
  refine fx [] 0 [] ?_
  refine xi ?_
  exact pe () h36
 rcases ite_some h8 with ⟨h1, h8⟩ | ⟨h1, h8⟩
 ·refine rl [0, 17] 0 [] [hB 2 (decide_eq_true h1)] ?_
  exact pf true h8
 rcases ite_some h8 with ⟨h2, h8⟩ | ⟨h2, h8⟩
 ·refine rl [0, 17] 0 [] [hB 2 (decide_eq_false h1), hB 6 (decide_eq_true h2)] ?_
  exact pf true h8
 obtain ⟨h3, h8⟩ := nd h8
 obtain ⟨h4, h8⟩ := nd h8
 obtain ⟨r5, h6, h8⟩ := bs h8
 refine rl [0, 17] 0 [] [hB 2 (decide_eq_false h1), hB 6 (decide_eq_false h2), p2 h3 h4, hC 11 (spec_l00Letter.fn h6)] ?_
 exact pf (!r5) h8
/-! spec_NameOK: function 37 -/
def spec_NameOK.f (k : Nat) (a0 : ByteArray) : Option Bool := (spec_l00Word.f k a0).bind fun r1 => some r1
theorem spec_NameOK.fn {k : Nat} {a0 : ByteArray} {r : Bool} (H : spec_NameOK.f k a0 = some r) : Fn Tryz.prog 37 [oS a0] [] (oB r) [] := by
 refine Fn.bd [2] Tryz.func37 ?_
 refine rn [0] 0 [] [] ?_
 obtain ⟨r1, h2, H⟩ := bs H
 refine rn [2] 0 [] [hC 1 (spec_l00Word.fn h2)] ?_
 refine Tri.ret ?_
 obtain rfl := si H;exact eR
/-! spec_l01Keys: function 49 -/
def spec_l01Keys.f (k : Nat) : Option (List ByteArray) := some ([(⟨#[77, 79, 68, 85, 76, 69]⟩ : ByteArray), (⟨#[73, 77, 80, 79, 82, 84]⟩ : ByteArray), (⟨#[67, 79, 78, 83, 84]⟩ : ByteArray), (⟨#[86, 65, 82]⟩ : ByteArray), (⟨#[80, 82, 79, 67, 69, 68, 85, 82, 69]⟩ : ByteArray), (⟨#[66, 69, 71, 73, 78]⟩ : ByteArray), (⟨#[69, 78, 68]⟩ : ByteArray), (⟨#[73, 70]⟩ : ByteArray), (⟨#[84, 72, 69, 78]⟩ : ByteArray), (⟨#[69, 76, 83, 73, 70]⟩ : ByteArray), (⟨#[69, 76, 83, 69]⟩ : ByteArray), (⟨#[87, 72, 73, 76, 69]⟩ : ByteArray), (⟨#[68, 79]⟩ : ByteArray), (⟨#[82, 69, 84, 85, 82, 78]⟩ : ByteArray), (⟨#[79, 82]⟩ : ByteArray), (⟨#[68, 73, 86]⟩ : ByteArray), (⟨#[77, 79, 68]⟩ : ByteArray), (⟨#[84, 82, 85, 69]⟩ : ByteArray), (⟨#[70, 65, 76, 83, 69]⟩ : ByteArray), (⟨#[65, 82, 82, 65, 89]⟩ : ByteArray), (⟨#[79, 70]⟩ : ByteArray), (⟨#[73, 78, 84, 69, 71, 69, 82]⟩ : ByteArray), (⟨#[66, 79, 79, 76, 69, 65, 78]⟩ : ByteArray), (⟨#[67, 72, 65, 82]⟩ : ByteArray), (⟨#[87, 82, 73, 84, 69]⟩ : ByteArray), (⟨#[82, 69, 65, 68]⟩ : ByteArray), (⟨#[79, 82, 68]⟩ : ByteArray), (⟨#[67, 72, 82]⟩ : ByteArray), (⟨#[76, 69, 78]⟩ : ByteArray)] : List ByteArray)
theorem spec_l01Keys.fn {k : Nat} {r : (List ByteArray)} (H : spec_l01Keys.f k  = some r) : Fn Tryz.prog 49 [] [] (o1 (.own 9 (List.map eS r))) [] := by
 refine Fn.bd [0] Tryz.func49 ?_
 refine rn [] 0 [] [] ?_
 refine rn [0] 0 [] [] ?_
 refine Tri.ret ?_
 obtain rfl := si H;exact eR
/-! spec_l01Place: function 48 -/
def spec_l01Place.l1 : Nat → (List ByteArray) → ByteArray → Int → Option (Int ⊕ Unit)
  | 0, _, _, _ => none
  | k + 1, a0, a1, z5 => if z5 < (a0.length : Int) then ((at? a0 z5).bind fun x7 => if x7 = a1 then (some (.inl z5)) else (spec_l01Place.l1 k a0 a1 (w64 (z5 + 1)))) else (some (.inr ()))
def spec_l01Place.e2 (k : Nat) (a0 : (List ByteArray)) (a1 : ByteArray) : Option (Int ⊕ Unit) := spec_l01Place.l1 k a0 a1 0
def spec_l01Place.f (k : Nat) (a0 : (List ByteArray)) (a1 : ByteArray) : Option Int := (spec_l01Place.e2 k a0 a1).bind fun v => match v with | .inl r => some r | .inr _ => some (-1)
theorem spec_l01Place.fn {k : Nat} {a0 : (List ByteArray)} {a1 : ByteArray} {r : Int} (H : spec_l01Place.f k a0 a1 = some r) : Fn Tryz.prog 48 [o1 (.sl 1 (List.map eS a0)), oS a1] [] (oI r) [] := by
 refine Fn.bd [4] Tryz.func48 ?_
 refine rn [0, 1] 0 [] [] ?_
 refine jr H (fun _ => ⟨19, [], [], 0, []⟩) (fun _ H => ?_) fun v12 h11 H => ?_
 ·refine rn [4] 0 [] [] ?_
  refine Tri.ret ?_
  obtain rfl := si H;exact eR
 refine rn [0, 1, 5] 0 [] [] ?_
 refine bl ?_
 refine lo Int k (fun k x => spec_l01Place.l1 k a0 a1 x) (fun x => ⟨19, [(0, o1 (.sl 1 (List.map eS a0))), (1, oS a1), (5, oI x)], [], 0, []⟩) 0 h11 fun k z5 h11 IH10 => ?_
 rw [spec_l01Place.l1.eq_2] at h11
 refine sq ?_
 refine rn [0, 1, 5, 9] 0 [] [hL 2 eS a0] ?_
 refine ci h11 (fun h6 h11 => ?_) fun h6 h11 => ?_
 ·refine sk ?_
  refine sq ?_
  refine bl ?_
  obtain ⟨x7, h8, h11⟩ := bs h11
  refine rn [0, 1, 5, 17] 0 [] [hE 2 eS h8] ?_
  refine ci h11 (fun h9 h11 => ?_) fun h9 h11 => ?_
  ·refine rn [4] 0 [] [] ?_
   refine Tri.ret ?_
   obtain rfl := si h11;obtain rfl := si H;exact eR
  refine sk ?_
  refine rl [0, 1, 5] 0 [] [] ?_
  exact lb IH10 (w64 (z5 + 1)) h11
 refine fx [] 0 [] ?_
 refine xi ?_
 exact pe () h11
/-! spec_IsKey: function 38 -/
def spec_IsKey.f (k : Nat) (a0 : ByteArray) : Option Bool := (spec_l01Keys.f k).bind fun r1 => (spec_l01Place.f k r1 a0).bind fun r3 => some (decide ((0 : Int) ≤ r3))
theorem spec_IsKey.fn {k : Nat} {a0 : ByteArray} {r : Bool} (H : spec_IsKey.f k a0 = some r) : Fn Tryz.prog 38 [oS a0] [] (oB r) [] := by
 refine Fn.bd [2] Tryz.func38 ?_
 refine rn [0] 0 [] [] ?_
 obtain ⟨r1, h2, H⟩ := bs H
 obtain ⟨r3, h4, H⟩ := bs H
 refine rn [2] 0 [] [hC 0 (spec_l01Keys.fn h2) (show (List.all [.own 9 (List.map eS r1)] PC.flatB) = true by simp [PC.flatB, PC.scalar, cI, cK, cB, cS, eS]), hC 2 (spec_l01Place.fn h4)] ?_
 refine Tri.ret ?_
 obtain rfl := si H;exact eR
/-! spec_l02Name: function 22 -/
def spec_l02Name.e1 (k : Nat) (a0 : ByteArray) : Option Bool := (spec_NameOK.f k a0).bind fun r1 => if r1 = true then ((spec_IsKey.f k a0).bind fun r4 => some (!r4)) else (some false)
def spec_l02Name.f (k : Nat) (a0 : ByteArray) : Option Bool := (spec_l02Name.e1 k a0).bind fun y6 => some y6
theorem spec_l02Name.fn {k : Nat} {a0 : ByteArray} {r : Bool} (H : spec_l02Name.f k a0 = some r) : Fn Tryz.prog 22 [oS a0] [] (oB r) [] := by
 refine Fn.bd [2] Tryz.func22 ?_
 refine rn [0] 0 [] [] ?_
 refine jo H (fun y6 => ⟨10, [(2, oB y6)], [], 0, []⟩) (fun y6 H => ?_) fun v8 h7 H => ?_
 ·refine Tri.ret ?_
  obtain rfl := si H;exact eR
 obtain ⟨r1, h2, h7⟩ := bs h7
 rcases iteb_some h7 with ⟨h3, h7⟩ | ⟨h3, h7⟩
 ·obtain ⟨r4, h5, h7⟩ := bs h7
  refine rl [2] 0 [] [hC 1 (spec_NameOK.fn h2), hB 1 h3, hC 4 (spec_IsKey.fn h5)] ?_
  exact pf (!r4) h7
 refine rl [2] 0 [] [hC 1 (spec_NameOK.fn h2), hB 1 h3] ?_
 exact pf false h7
/-! spec_l01In: function 39 -/
def spec_l01In.e1 (k : Nat) (a0 : Int) (a1 : Int) (a2 : Int) : Option Bool := if a1 ≤ a0 then (some (decide (a0 ≤ a2))) else (some false)
def spec_l01In.f (k : Nat) (a0 : Int) (a1 : Int) (a2 : Int) : Option Bool := (spec_l01In.e1 k a0 a1 a2).bind fun y2 => some y2
theorem spec_l01In.fn {k : Nat} {a0 : Int} {a1 : Int} {a2 : Int} {r : Bool} (H : spec_l01In.f k a0 a1 a2 = some r) : Fn Tryz.prog 39 [oI a0, oI a1, oI a2] [] (oB r) [] := by
 refine Fn.bd [6] Tryz.func39 ?_
 refine rn [0, 1, 2] 0 [] [] ?_
 refine jo H (fun y2 => ⟨15, [(6, oB y2)], [], 0, []⟩) (fun y2 H => ?_) fun v4 h3 H => ?_
 ·refine Tri.ret ?_
  obtain rfl := si H;exact eR
 rcases ite_some h3 with ⟨h1, h3⟩ | ⟨h1, h3⟩
 ·refine rl [6] 0 [] [hB 2 (decide_eq_true h1)] ?_
  exact pf (decide (a0 ≤ a2)) h3
 refine rl [6] 0 [] [hB 2 (decide_eq_false h1)] ?_
 exact pf false h3
/-! spec_CharOK: function 40 -/
def spec_CharOK.e1 (k : Nat) (a0 : Int) : Option Bool := (spec_l01In.f k a0 0 55295).bind fun r1 => if r1 = true then (some true) else ((spec_l01In.f k a0 57344 1114111).bind fun r4 => some r4)
def spec_CharOK.f (k : Nat) (a0 : Int) : Option Bool := (spec_CharOK.e1 k a0).bind fun y6 => some y6
theorem spec_CharOK.fn {k : Nat} {a0 : Int} {r : Bool} (H : spec_CharOK.f k a0 = some r) : Fn Tryz.prog 40 [oI a0] [] (oB r) [] := by
 refine Fn.bd [2] Tryz.func40 ?_
 refine rn [0] 0 [] [] ?_
 refine jo H (fun y6 => ⟨9, [(2, oB y6)], [], 0, []⟩) (fun y6 H => ?_) fun v8 h7 H => ?_
 ·refine Tri.ret ?_
  obtain rfl := si H;exact eR
 obtain ⟨r1, h2, h7⟩ := bs h7
 rcases iteb_some h7 with ⟨h3, h7⟩ | ⟨h3, h7⟩
 ·refine rl [2] 0 [] [hC 1 (spec_l01In.fn h2), hB 1 h3] ?_
  exact pf true h7
 obtain ⟨r4, h5, h7⟩ := bs h7
 refine rl [2] 0 [] [hC 1 (spec_l01In.fn h2), hB 1 h3, hC 4 (spec_l01In.fn h5)] ?_
 exact pf r4 h7
/-! spec_l03Item: function 23 -/
def spec_l03Item.e1 (k : Nat) (a0 : SItem) : Option Bool := (spec_l02Name.f k a0.f4).bind fun r1 => if r1 = true then (if a0.f0 = 3 then (if a0.f0 = 2 then (if a0.f0 = 1 then (some (decide ((20 : Int) < (a0.f5.length : Int)))) else (if a0.f3 = 0 then (some (decide ((20 : Int) < (a0.f5.length : Int)))) else (some true))) else (if a0.f2 = 0 then (if a0.f0 = 1 then (some (decide ((20 : Int) < (a0.f5.length : Int)))) else (if a0.f3 = 0 then (some (decide ((20 : Int) < (a0.f5.length : Int)))) else (some true))) else (some true))) else (if (0 : Int) < (a0.f5.length : Int) then (some true) else (if a0.f0 = 2 then (if a0.f0 = 1 then (some (decide ((20 : Int) < (a0.f5.length : Int)))) else (if a0.f3 = 0 then (some (decide ((20 : Int) < (a0.f5.length : Int)))) else (some true))) else (if a0.f2 = 0 then (if a0.f0 = 1 then (some (decide ((20 : Int) < (a0.f5.length : Int)))) else (if a0.f3 = 0 then (some (decide ((20 : Int) < (a0.f5.length : Int)))) else (some true))) else (some true))))) else (some true)
def spec_l03Item.e2 (k : Nat) (a0 : SItem) : Option Bool := (spec_l01In.f k a0.f1 1 3).bind fun r23 => if r23 = true then (if a0.f1 = 2 then ((spec_l01In.f k a0.f3 0 1).bind fun r27 => if r27 = true then (if a0.f1 = 3 then ((spec_CharOK.f k a0.f3).bind fun r31 => some r31) else (some true)) else (some false)) else (if a0.f1 = 3 then ((spec_CharOK.f k a0.f3).bind fun r34 => some r34) else (some true))) else (some false)
def spec_l03Item.e3 (k : Nat) (a0 : SItem) : Option Bool := (spec_l01In.f k a0.f1 1 3).bind fun r40 => if r40 = true then ((spec_l01In.f k a0.f2 0 100).bind fun r43 => some r43) else (some false)
def spec_l03Item.l4 : Nat → SItem → Int → Option (Bool ⊕ Unit)
  | 0, _, _ => none
  | k + 1, a0, z55 => if z55 < (a0.f5.length : Int) then ((at? a0.f5 z55).bind fun x57 => (spec_l01In.f k x57.f0 1 3).bind fun r59 => if r59 = true then (spec_l03Item.l4 k a0 (w64 (z55 + 1))) else (some (.inl false))) else (some (.inr ()))
def spec_l03Item.e5 (k : Nat) (a0 : SItem) : Option (Bool ⊕ Unit) := spec_l03Item.l4 k a0 0
def spec_l03Item.e6 (k : Nat) (a0 : SItem) : Option (Bool ⊕ Unit) := if a0.f0 = 1 then ((spec_l03Item.e2 k a0).bind fun y36 => some (.inl y36)) else (if a0.f0 = 2 then ((spec_l03Item.e3 k a0).bind fun y45 => some (.inl y45)) else (if a0.f0 = 3 then ((spec_l03Item.e5 k a0).bind fun v => match v with | .inl r => some (.inl r) | .inr _ => (spec_l01In.f k a0.f1 0 3).bind fun r65 => some (.inl r65)) else (some (.inr ()))))
def spec_l03Item.f (k : Nat) (a0 : SItem) : Option Bool := (spec_l03Item.e1 k a0).bind fun y18 => if y18 = true then (some false) else ((spec_l03Item.e6 k a0).bind fun v => match v with | .inl r => some r | .inr _ => some false)
theorem spec_l03Item.fn {k : Nat} {a0 : SItem} {r : Bool} (H : spec_l03Item.f k a0 = some r) : Fn Tryz.prog 23 [ag (eSItem a0)] [] (oB r) [] := by
 refine Fn.bd [2] Tryz.func23 ?_
 refine rn [1] 1 [] [] ?_
 refine sq ?_
 refine jo H (fun y18 => ⟨102, [(1, o1 (.ref 0 0)), (44, oB y18)], [eSItem a0], 0, []⟩) (fun y18 H => ?_) fun v20 h19 H => ?_
 ·refine cb H (fun h21 H => ?_) fun h21 H => ?_
  ·refine rn [2] 0 [] [] ?_
   refine Tri.ret ?_
   obtain rfl := si H;exact eR
  refine sk ?_
  refine jr H (fun _ => ⟨102, [], [], 0, []⟩) (fun _ H => ?_) fun v68 h67 H => ?_
  ·refine rn [2] 0 [] [] ?_
   refine Tri.ret ?_
   obtain rfl := si H;exact eR
  refine rn [1, 46] 1 [] [] ?_
  refine bl ?_
  refine rn [1, 46, 47] 1 [] [] ?_
  refine ci h67 (fun h22 h67 => ?_) fun h22 h67 => ?_
  ·refine jo h67 (fun y36 => ⟨102, [(2, oB y36)], [], 0, []⟩) (fun y36 h67 => ?_) fun v38 h37 h67 => ?_
   ·refine Tri.ret ?_
    obtain rfl := si h67;obtain rfl := si H;exact eR
   obtain ⟨r23, h24, h37⟩ := bs h37
   rcases iteb_some h37 with ⟨h25, h37⟩ | ⟨h25, h37⟩
   ·rcases ite_some h37 with ⟨h26, h37⟩ | ⟨h26, h37⟩
    ·obtain ⟨r27, h28, h37⟩ := bs h37
     rcases iteb_some h37 with ⟨h29, h37⟩ | ⟨h29, h37⟩
     ·rcases ite_some h37 with ⟨h30, h37⟩ | ⟨h30, h37⟩
      ·obtain ⟨r31, h32, h37⟩ := bs h37
       refine rl [2] 0 [] [hC 2 (spec_l01In.fn h24), hB 2 h25, hB 6 (nF (decide_eq_true h26)), hC 10 (spec_l01In.fn h28), hB 10 h29, hB 16 (nF (decide_eq_true h30)), hC 20 (spec_CharOK.fn h32)] ?_
       exact pf r31 h37
      refine rl [2] 0 [] [hC 2 (spec_l01In.fn h24), hB 2 h25, hB 6 (nF (decide_eq_true h26)), hC 10 (spec_l01In.fn h28), hB 10 h29, hB 16 (nT (decide_eq_false h30))] ?_
      exact pf true h37
     refine rl [2] 0 [] [hC 2 (spec_l01In.fn h24), hB 2 h25, hB 6 (nF (decide_eq_true h26)), hC 10 (spec_l01In.fn h28), hB 10 h29] ?_
     exact pf false h37
    rcases ite_some h37 with ⟨h33, h37⟩ | ⟨h33, h37⟩
    ·obtain ⟨r34, h35, h37⟩ := bs h37
     refine rl [2] 0 [] [hC 2 (spec_l01In.fn h24), hB 2 h25, hB 6 (nT (decide_eq_false h26)), hB 16 (nF (decide_eq_true h33)), hC 20 (spec_CharOK.fn h35)] ?_
     exact pf r34 h37
    refine rl [2] 0 [] [hC 2 (spec_l01In.fn h24), hB 2 h25, hB 6 (nT (decide_eq_false h26)), hB 16 (nT (decide_eq_false h33))] ?_
    exact pf true h37
   refine rl [2] 0 [] [hC 2 (spec_l01In.fn h24), hB 2 h25] ?_
   exact pf false h37
  refine rn [1, 46, 72] 1 [] [] ?_
  refine ci h67 (fun h39 h67 => ?_) fun h39 h67 => ?_
  ·refine jo h67 (fun y45 => ⟨102, [(2, oB y45)], [], 0, []⟩) (fun y45 h67 => ?_) fun v47 h46 h67 => ?_
   ·refine Tri.ret ?_
    obtain rfl := si h67;obtain rfl := si H;exact eR
   obtain ⟨r40, h41, h46⟩ := bs h46
   rcases iteb_some h46 with ⟨h42, h46⟩ | ⟨h42, h46⟩
   ·obtain ⟨r43, h44, h46⟩ := bs h46
    refine rl [2] 0 [] [hC 2 (spec_l01In.fn h41), hB 2 h42, hC 6 (spec_l01In.fn h44)] ?_
    exact pf r43 h46
   refine rl [2] 0 [] [hC 2 (spec_l01In.fn h41), hB 2 h42] ?_
   exact pf false h46
  refine rn [1, 82] 1 [] [] ?_
  refine ci h67 (fun h48 h67 => ?_) fun h48 h67 => ?_
  ·refine jr h67 (fun _ => ⟨102, [(1, o1 (.ref 0 0))], [eSItem a0], 0, []⟩) (fun _ h67 => ?_) fun v64 h63 h67 => ?_
   ·obtain ⟨r65, h66, h67⟩ := bs h67
    refine rn [2] 0 [] [hC 2 (spec_l01In.fn h66)] ?_
    refine Tri.ret ?_
    obtain rfl := si h67;obtain rfl := si H;exact eR
   refine rn [1, 3] 1 [] [] ?_
   refine bl ?_
   refine lo Int k (fun k x => spec_l03Item.l4 k a0 x) (fun x => ⟨102, [(1, o1 (.ref 0 0)), (3, oI x)], [eSItem a0], 0, []⟩) 0 h63 fun k z55 h63 IH62 => ?_
   rw [spec_l03Item.l4.eq_2] at h63
   refine sq ?_
   refine rn [1, 3, 88] 1 [] [hL 3 eSParam a0.f5] ?_
   refine ci h63 (fun h56 h63 => ?_) fun h56 h63 => ?_
   ·refine sk ?_
    refine sq ?_
    refine bl ?_
    obtain ⟨x57, h58, h63⟩ := bs h63
    obtain ⟨r59, h60, h63⟩ := bs h63
    refine rn [1, 3, 98] 1 [] [hE 3 eSParam h58, hC 6 (spec_l01In.fn h60)] ?_
    refine cm h63 (fun h61 h63 => ?_) fun h61 h63 => ?_
    ·refine sk ?_
     refine rl [1, 3] 1 [] [] ?_
     exact lb IH62 (w64 (z55 + 1)) h63
    refine rn [2] 0 [] [] ?_
    refine Tri.ret ?_
    obtain rfl := si h63;obtain rfl := si h67;obtain rfl := si H;exact eR
   refine fx [1] 1 [] ?_
   refine xi ?_
   exact pe () h63
  refine fx [] 0 [] ?_
  refine sk ?_
  exact pe () h67
 obtain ⟨r1, h2, h19⟩ := bs h19
 rcases iteb_some h19 with ⟨h3, h19⟩ | ⟨h3, h19⟩
 ·rcases ite_some h19 with ⟨h4, h19⟩ | ⟨h4, h19⟩
  ·rcases ite_some h19 with ⟨h5, h19⟩ | ⟨h5, h19⟩
   ·rcases ite_some h19 with ⟨h6, h19⟩ | ⟨h6, h19⟩
    ·refine rl [1, 44] 1 [] [hC 2 (spec_l02Name.fn h2), hB 2 h3, hB 7 (nF (decide_eq_true h4)), hB 18 (nF (decide_eq_true h5)), hB 28 (nF (decide_eq_true h6)), hL 38 eSParam a0.f5] ?_
     exact pf (decide ((20 : Int) < (a0.f5.length : Int))) h19
    rcases ite_some h19 with ⟨h7, h19⟩ | ⟨h7, h19⟩
    ·refine rl [1, 44] 1 [] [hC 2 (spec_l02Name.fn h2), hB 2 h3, hB 7 (nF (decide_eq_true h4)), hB 18 (nF (decide_eq_true h5)), hB 28 (nT (decide_eq_false h6)), hB 32 (nF (decide_eq_true h7)), hL 38 eSParam a0.f5] ?_
     exact pf (decide ((20 : Int) < (a0.f5.length : Int))) h19
    refine rl [1, 44] 1 [] [hC 2 (spec_l02Name.fn h2), hB 2 h3, hB 7 (nF (decide_eq_true h4)), hB 18 (nF (decide_eq_true h5)), hB 28 (nT (decide_eq_false h6)), hB 32 (nT (decide_eq_false h7))] ?_
    exact pf true h19
   rcases ite_some h19 with ⟨h8, h19⟩ | ⟨h8, h19⟩
   ·rcases ite_some h19 with ⟨h9, h19⟩ | ⟨h9, h19⟩
    ·refine rl [1, 44] 1 [] [hC 2 (spec_l02Name.fn h2), hB 2 h3, hB 7 (nF (decide_eq_true h4)), hB 18 (nT (decide_eq_false h5)), hB 22 (nF (decide_eq_true h8)), hB 28 (nF (decide_eq_true h9)), hL 38 eSParam a0.f5] ?_
     exact pf (decide ((20 : Int) < (a0.f5.length : Int))) h19
    rcases ite_some h19 with ⟨h10, h19⟩ | ⟨h10, h19⟩
    ·refine rl [1, 44] 1 [] [hC 2 (spec_l02Name.fn h2), hB 2 h3, hB 7 (nF (decide_eq_true h4)), hB 18 (nT (decide_eq_false h5)), hB 22 (nF (decide_eq_true h8)), hB 28 (nT (decide_eq_false h9)), hB 32 (nF (decide_eq_true h10)), hL 38 eSParam a0.f5] ?_
     exact pf (decide ((20 : Int) < (a0.f5.length : Int))) h19
    refine rl [1, 44] 1 [] [hC 2 (spec_l02Name.fn h2), hB 2 h3, hB 7 (nF (decide_eq_true h4)), hB 18 (nT (decide_eq_false h5)), hB 22 (nF (decide_eq_true h8)), hB 28 (nT (decide_eq_false h9)), hB 32 (nT (decide_eq_false h10))] ?_
    exact pf true h19
   refine rl [1, 44] 1 [] [hC 2 (spec_l02Name.fn h2), hB 2 h3, hB 7 (nF (decide_eq_true h4)), hB 18 (nT (decide_eq_false h5)), hB 22 (nT (decide_eq_false h8))] ?_
   exact pf true h19
  rcases ite_some h19 with ⟨h11, h19⟩ | ⟨h11, h19⟩
  ·refine rl [1, 44] 1 [] [hC 2 (spec_l02Name.fn h2), hB 2 h3, hB 7 (nT (decide_eq_false h4)), hL 11 eSParam a0.f5, hB 12 (decide_eq_true h11)] ?_
   exact pf true h19
  rcases ite_some h19 with ⟨h12, h19⟩ | ⟨h12, h19⟩
  ·rcases ite_some h19 with ⟨h13, h19⟩ | ⟨h13, h19⟩
   ·refine rl [1, 44] 1 [] [hC 2 (spec_l02Name.fn h2), hB 2 h3, hB 7 (nT (decide_eq_false h4)), hL 11 eSParam a0.f5, hB 12 (decide_eq_false h11), hB 18 (nF (decide_eq_true h12)), hB 28 (nF (decide_eq_true h13)), hL 38 eSParam a0.f5] ?_
    exact pf (decide ((20 : Int) < (a0.f5.length : Int))) h19
   rcases ite_some h19 with ⟨h14, h19⟩ | ⟨h14, h19⟩
   ·refine rl [1, 44] 1 [] [hC 2 (spec_l02Name.fn h2), hB 2 h3, hB 7 (nT (decide_eq_false h4)), hL 11 eSParam a0.f5, hB 12 (decide_eq_false h11), hB 18 (nF (decide_eq_true h12)), hB 28 (nT (decide_eq_false h13)), hB 32 (nF (decide_eq_true h14)), hL 38 eSParam a0.f5] ?_
    exact pf (decide ((20 : Int) < (a0.f5.length : Int))) h19
   refine rl [1, 44] 1 [] [hC 2 (spec_l02Name.fn h2), hB 2 h3, hB 7 (nT (decide_eq_false h4)), hL 11 eSParam a0.f5, hB 12 (decide_eq_false h11), hB 18 (nF (decide_eq_true h12)), hB 28 (nT (decide_eq_false h13)), hB 32 (nT (decide_eq_false h14))] ?_
   exact pf true h19
  rcases ite_some h19 with ⟨h15, h19⟩ | ⟨h15, h19⟩
  ·rcases ite_some h19 with ⟨h16, h19⟩ | ⟨h16, h19⟩
   ·refine rl [1, 44] 1 [] [hC 2 (spec_l02Name.fn h2), hB 2 h3, hB 7 (nT (decide_eq_false h4)), hL 11 eSParam a0.f5, hB 12 (decide_eq_false h11), hB 18 (nT (decide_eq_false h12)), hB 22 (nF (decide_eq_true h15)), hB 28 (nF (decide_eq_true h16)), hL 38 eSParam a0.f5] ?_
    exact pf (decide ((20 : Int) < (a0.f5.length : Int))) h19
   rcases ite_some h19 with ⟨h17, h19⟩ | ⟨h17, h19⟩
   ·refine rl [1, 44] 1 [] [hC 2 (spec_l02Name.fn h2), hB 2 h3, hB 7 (nT (decide_eq_false h4)), hL 11 eSParam a0.f5, hB 12 (decide_eq_false h11), hB 18 (nT (decide_eq_false h12)), hB 22 (nF (decide_eq_true h15)), hB 28 (nT (decide_eq_false h16)), hB 32 (nF (decide_eq_true h17)), hL 38 eSParam a0.f5] ?_
    exact pf (decide ((20 : Int) < (a0.f5.length : Int))) h19
   refine rl [1, 44] 1 [] [hC 2 (spec_l02Name.fn h2), hB 2 h3, hB 7 (nT (decide_eq_false h4)), hL 11 eSParam a0.f5, hB 12 (decide_eq_false h11), hB 18 (nT (decide_eq_false h12)), hB 22 (nF (decide_eq_true h15)), hB 28 (nT (decide_eq_false h16)), hB 32 (nT (decide_eq_false h17))] ?_
   exact pf true h19
  refine rl [1, 44] 1 [] [hC 2 (spec_l02Name.fn h2), hB 2 h3, hB 7 (nT (decide_eq_false h4)), hL 11 eSParam a0.f5, hB 12 (decide_eq_false h11), hB 18 (nT (decide_eq_false h12)), hB 22 (nT (decide_eq_false h15))] ?_
  exact pf true h19
 refine rl [1, 44] 1 [] [hC 2 (spec_l02Name.fn h2), hB 2 h3] ?_
 exact pf true h19
/-! spec_l03Find: function 24 -/
def spec_l03Find.l1 : Nat → (List SItem) → ByteArray → Int → Option (Int ⊕ Unit)
  | 0, _, _, _ => none
  | k + 1, a0, a1, z5 => if z5 < (a0.length : Int) then ((at? a0 z5).bind fun x7 => if x7.f4 = a1 then (some (.inl z5)) else (spec_l03Find.l1 k a0 a1 (w64 (z5 + 1)))) else (some (.inr ()))
def spec_l03Find.e2 (k : Nat) (a0 : (List SItem)) (a1 : ByteArray) : Option (Int ⊕ Unit) := spec_l03Find.l1 k a0 a1 0
def spec_l03Find.f (k : Nat) (a0 : (List SItem)) (a1 : ByteArray) : Option Int := (spec_l03Find.e2 k a0 a1).bind fun v => match v with | .inl r => some r | .inr _ => some (-1)
theorem spec_l03Find.fn {k : Nat} {a0 : (List SItem)} {a1 : ByteArray} {r : Int} (H : spec_l03Find.f k a0 a1 = some r) : Fn Tryz.prog 24 [o1 (.sl 6 (List.map eSItem a0)), oS a1] [] (oI r) [] := by
 refine Fn.bd [4] Tryz.func24 ?_
 refine rn [0, 1] 0 [] [] ?_
 refine jr H (fun _ => ⟨20, [], [], 0, []⟩) (fun _ H => ?_) fun v12 h11 H => ?_
 ·refine rn [4] 0 [] [] ?_
  refine Tri.ret ?_
  obtain rfl := si H;exact eR
 refine rn [0, 1, 5] 0 [] [] ?_
 refine bl ?_
 refine lo Int k (fun k x => spec_l03Find.l1 k a0 a1 x) (fun x => ⟨20, [(0, o1 (.sl 6 (List.map eSItem a0))), (1, oS a1), (5, oI x)], [], 0, []⟩) 0 h11 fun k z5 h11 IH10 => ?_
 rw [spec_l03Find.l1.eq_2] at h11
 refine sq ?_
 refine rn [0, 1, 5, 9] 0 [] [hL 2 eSItem a0] ?_
 refine ci h11 (fun h6 h11 => ?_) fun h6 h11 => ?_
 ·refine sk ?_
  refine sq ?_
  refine bl ?_
  obtain ⟨x7, h8, h11⟩ := bs h11
  refine rn [0, 1, 5, 18] 0 [] [hE 2 eSItem h8] ?_
  refine ci h11 (fun h9 h11 => ?_) fun h9 h11 => ?_
  ·refine rn [4] 0 [] [] ?_
   refine Tri.ret ?_
   obtain rfl := si h11;obtain rfl := si H;exact eR
  refine sk ?_
  refine rl [0, 1, 5] 0 [] [] ?_
  exact lb IH10 (w64 (z5 + 1)) h11
 refine fx [] 0 [] ?_
 refine xi ?_
 exact pe () h11
/-! spec_InterfaceOK: function 15 -/
def spec_InterfaceOK.e1 (k : Nat) (a0 : SFace) : Option Bool := (spec_l02Name.f k a0.f0).bind fun r1 => if r1 = true then (some (decide ((60 : Int) < (a0.f1.length : Int)))) else (some true)
def spec_InterfaceOK.e2 (k : Nat) (a0 : SFace) (z22 : Int) : Option Bool := (at? a0.f1 z22).bind fun x24 => (spec_l03Item.f k x24).bind fun r26 => if r26 = true then (if (0 : Int) ≤ z22 then (if z22 ≤ (a0.f1.length : Int) then ((spec_l03Find.f k (List.take (Int.toNat (z22 - 0)) (List.drop (Int.toNat 0) a0.f1)) x24.f4).bind fun r31 => some (decide ((0 : Int) ≤ r31))) else none) else none) else (some true)
def spec_InterfaceOK.l3 : Nat → SFace → Int → Option (Bool ⊕ Unit)
  | 0, _, _ => none
  | k + 1, a0, z22 => if z22 < (a0.f1.length : Int) then ((spec_InterfaceOK.e2 k a0 z22).bind fun y33 => if y33 = true then (some (.inl false)) else (spec_InterfaceOK.l3 k a0 (w64 (z22 + 1)))) else (some (.inr ()))
def spec_InterfaceOK.e4 (k : Nat) (a0 : SFace) : Option (Bool ⊕ Unit) := spec_InterfaceOK.l3 k a0 0
def spec_InterfaceOK.f (k : Nat) (a0 : SFace) : Option Bool := (spec_InterfaceOK.e1 k a0).bind fun y4 => if y4 = true then (some false) else ((spec_InterfaceOK.e4 k a0).bind fun v => match v with | .inl r => some r | .inr _ => some true)
theorem spec_InterfaceOK.fn {k : Nat} {a0 : SFace} {r : Bool} (H : spec_InterfaceOK.f k a0 = some r) : Fn Tryz.prog 15 [ag (eSFace a0)] [] (oB r) [] := by
 refine Fn.bd [2] Tryz.func15 ?_
 refine rn [1] 1 [] [] ?_
 refine sq ?_
 refine jo H (fun y4 => ⟨42, [(1, o1 (.ref 0 0)), (13, oB y4)], [eSFace a0], 0, []⟩) (fun y4 H => ?_) fun v6 h5 H => ?_
 ·refine cb H (fun h7 H => ?_) fun h7 H => ?_
  ·refine rn [2] 0 [] [] ?_
   refine Tri.ret ?_
   obtain rfl := si H;exact eR
  refine sk ?_
  refine jr H (fun _ => ⟨42, [], [], 0, []⟩) (fun _ H => ?_) fun v39 h38 H => ?_
  ·refine rn [2] 0 [] [] ?_
   refine Tri.ret ?_
   obtain rfl := si H;exact eR
  refine rn [1, 3] 1 [] [] ?_
  refine bl ?_
  refine lo Int k (fun k x => spec_InterfaceOK.l3 k a0 x) (fun x => ⟨42, [(1, o1 (.ref 0 0)), (3, oI x)], [eSFace a0], 0, []⟩) 0 h38 fun k z22 h38 IH37 => ?_
  rw [spec_InterfaceOK.l3.eq_2] at h38
  refine sq ?_
  refine rn [1, 3, 18] 1 [] [hL 3 eSItem a0.f1] ?_
  refine ci h38 (fun h23 h38 => ?_) fun h23 h38 => ?_
  ·refine sk ?_
   refine sq ?_
   refine bl ?_
   refine jo h38 (fun y33 => ⟨42, [(1, o1 (.ref 0 0)), (3, oI z22), (41, oB y33)], [eSFace a0], 0, []⟩) (fun y33 h38 => ?_) fun v35 h34 h38 => ?_
   ·refine cb h38 (fun h36 h38 => ?_) fun h36 h38 => ?_
    ·refine rn [2] 0 [] [] ?_
     refine Tri.ret ?_
     obtain rfl := si h38;obtain rfl := si H;exact eR
    refine sk ?_
    refine rl [1, 3] 1 [] [] ?_
    exact lb IH37 (w64 (z22 + 1)) h38
   obtain ⟨x24, h25, h34⟩ := bs h34
   obtain ⟨r26, h27, h34⟩ := bs h34
   rcases iteb_some h34 with ⟨h28, h34⟩ | ⟨h28, h34⟩
   ·obtain ⟨h29, h34⟩ := nd h34
    obtain ⟨h30, h34⟩ := nd h34
    obtain ⟨r31, h32, h34⟩ := bs h34
    refine dl hmix 18 [[], [0], [], [0, 1, 2], [0, 1, 2, 3], [0, 1, 2, 3, 4], [0, 1, 2, 3, 4, 5], [0, 1, 2, 3, 4, 5, 6], [0, 1, 2, 3, 4, 5, 6, 7], [0, 1, 2, 3, 4, 5, 6, 7, 8], [0, 1, 2, 3, 4, 5, 6, 7], [0, 1, 2, 3, 4, 5, 6, 7, 8, 9, 10], [0, 1, 2, 3, 4, 5, 6, 7], [0, 1, 2, 3, 4, 5, 6, 7, 12], [0, 1, 2, 3, 4, 5, 6, 7], [0, 1, 2, 3, 4, 5, 6, 7, 12, 13, 14], [0, 1, 2, 3, 4, 5, 6, 7, 12, 13, 14, 15], [0, 1, 2, 3, 4, 5, 6, 7, 12, 13, 14, 15, 16], [0, 1, 2, 3, 4, 5, 6, 7, 8, 9, 10, 11, 12, 13, 14, 15, 16, 17], [0, 1, 2, 3, 4, 5, 6, 7, 8, 9, 10, 11, 12, 13, 14, 15, 16, 17, 18], [0, 1, 2, 3, 4, 5, 6, 7, 8, 9, 10, 11, 12, 13, 14, 15, 16, 17, 18, 19]] [1, 3, 41] 1 [] [hE 3 eSItem h25, hC 5 (spec_l03Item.fn h27), hB 5 h28, p3 (show (0 : Int) ≤ 0 by decide) h29 (lenle (f := eSItem) (l := a0.f1) h30), q1 11 (.ov [.sl 6 (List.map eSItem (List.take (Int.toNat (z22 - 0)) (List.drop (Int.toNat 0) a0.f1)))]) (ovcut (s := 6) (l := a0.f1) (f := eSItem) (a := Int.toNat 0) (b := Int.toNat (z22 - 0))), hE 15 eSItem h25, hC 18 (spec_l03Find.fn h32)] ?_
    exact pf (decide ((0 : Int) ≤ r31)) h34
   refine dl hmix 18 [[], [0], [], [0, 1, 2], [0, 1, 2, 3], [0, 1, 2, 3, 4], [0, 1, 2, 3, 4, 5], [0, 1, 2, 3, 4, 5, 6], [0, 1, 2, 3, 4, 5, 6, 7], [0, 1, 2, 3, 4, 5, 6, 7, 8], [0, 1, 2, 3, 4, 5, 6, 7], [0, 1, 2, 3, 4, 5, 6, 7, 8, 9, 10], [0, 1, 2, 3, 4, 5, 6, 7], [0, 1, 2, 3, 4, 5, 6, 7, 12], [0, 1, 2, 3, 4, 5, 6, 7], [0, 1, 2, 3, 4, 5, 6, 7, 12, 13, 14], [0, 1, 2, 3, 4, 5, 6, 7, 12, 13, 14, 15], [0, 1, 2, 3, 4, 5, 6, 7, 12, 13, 14, 15, 16], [0, 1, 2, 3, 4, 5, 6, 7, 8, 9, 10, 11, 12, 13, 14, 15, 16, 17], [0, 1, 2, 3, 4, 5, 6, 7, 8, 9, 10, 11, 12, 13, 14, 15, 16, 17, 18], [0, 1, 2, 3, 4, 5, 6, 7, 8, 9, 10, 11, 12, 13, 14, 15, 16, 17, 18, 19]] [1, 3, 41] 1 [] [hE 3 eSItem h25, hC 5 (spec_l03Item.fn h27), hB 5 h28] ?_
   exact pf true h34
  refine fx [] 0 [] ?_
  refine xi ?_
  exact pe () h38
 obtain ⟨r1, h2, h5⟩ := bs h5
 rcases iteb_some h5 with ⟨h3, h5⟩ | ⟨h3, h5⟩
 ·refine rl [1, 13] 1 [] [hC 2 (spec_l02Name.fn h2), hB 2 h3, hL 7 eSItem a0.f1] ?_
  exact pf (decide ((60 : Int) < (a0.f1.length : Int))) h5
 refine rl [1, 13] 1 [] [hC 2 (spec_l02Name.fn h2), hB 2 h3] ?_
 exact pf true h5
/-! spec_l03Text: function 25 -/
def spec_l03Text.f (k : Nat) (a0 : ByteArray) : Option (List Int) := if (([IntKind.u8.wrap ((a0.size : Int))] : List Int) ++ (bytesOf a0)).length * 1 ≤ 140737488355328 then (some (([IntKind.u8.wrap ((a0.size : Int))] : List Int) ++ (bytesOf a0))) else none
theorem spec_l03Text.fn {k : Nat} {a0 : ByteArray} {r : (List Int)} (H : spec_l03Text.f k a0 = some r) : Fn Tryz.prog 25 [oS a0] [] (o1 (.own 5 (List.map (eK .u8) r))) [] := by
 refine Fn.bd [2] Tryz.func25 ?_
 refine rn [0] 0 [] [] ?_
 obtain ⟨h1, H⟩ := nd H
 refine rn [2] 0 [] [hT 5 5 h1] ?_
 refine Tri.ret ?_
 obtain rfl := si H;exact eR
/-! spec_l03Eight: function 26 -/
def spec_l03Eight.l1 : Nat → Int → (List Int) → Int → Option (List Int)
  | 0, _, _, _ => none
  | k + 1, a0, z4, z5 => if (0 : Int) ≤ z5 then (if (0 : Int) ≤ (IntKind.u64.wrap (w64 (8 * z5))) then (if (z4 ++ ([IntKind.u8.wrap (ishr .i64 a0 (IntKind.u64.wrap (w64 (8 * z5))))] : List Int)).length * 1 ≤ 140737488355328 then (spec_l03Eight.l1 k a0 (z4 ++ ([IntKind.u8.wrap (ishr .i64 a0 (IntKind.u64.wrap (w64 (8 * z5))))] : List Int)) (w64 (z5 - 1))) else none) else none) else (some z4)
def spec_l03Eight.e2 (k : Nat) (a0 : Int) : Option (List Int) := spec_l03Eight.l1 k a0 ([] : List Int) 7
def spec_l03Eight.f (k : Nat) (a0 : Int) : Option (List Int) := (spec_l03Eight.e2 k a0).bind fun y10 => some y10
theorem spec_l03Eight.fn {k : Nat} {a0 : Int} {r : (List Int)} (H : spec_l03Eight.f k a0 = some r) : Fn Tryz.prog 26 [oI a0] [] (o1 (.own 5 (List.map (eK .u8) r))) [] := by
 refine Fn.bd [2] Tryz.func26 ?_
 refine rn [0] 0 [] [] ?_
 refine rn [0, 3] 0 [] [] ?_
 refine jo H (fun y10 => ⟨20, [(3, o1 (.own 5 (List.map (eK .u8) y10)))], [], 0, []⟩) (fun y10 H => ?_) fun v12 h11 H => ?_
 ·refine rn [2] 0 [] [] ?_
  refine Tri.ret ?_
  obtain rfl := si H;exact eR
 refine rn [0, 3, 4] 0 [] [] ?_
 refine bl ?_
 refine lo ((List Int) × Int) k (fun k x => spec_l03Eight.l1 k a0 x.1 x.2) (fun x => ⟨20, [(0, oI a0), (3, o1 (.own 5 (List.map (eK .u8) x.1))), (4, oI x.2)], [], 0, []⟩) (([] : List Int), 7) h11 fun k x h11 IH9 => ?_
 obtain ⟨z4, z5⟩ := x
 rw [spec_l03Eight.l1.eq_2] at h11
 refine sq ?_
 refine rn [0, 3, 4, 7] 0 [] [] ?_
 refine ci h11 (fun h6 h11 => ?_) fun h6 h11 => ?_
 ·refine sk ?_
  refine sq ?_
  refine bl ?_
  obtain ⟨h7, h11⟩ := nd h11
  obtain ⟨h8, h11⟩ := nd h11
  refine rl [0, 3, 4] 0 [] [p1 h7, hA 8 5 (eK .u8) h8] ?_
  refine rl [0, 3, 4] 0 [] [] ?_
  exact lb IH9 (z4 ++ ([IntKind.u8.wrap (ishr .i64 a0 (IntKind.u64.wrap (w64 (8 * z5))))] : List Int), w64 (z5 - 1)) h11
 refine fx [3] 0 [] ?_
 refine xi ?_
 exact pf z4 h11
/-! spec_l02Bit: function 27 -/
def spec_l02Bit.f (k : Nat) (a0 : Bool) : Option Int := if a0 = true then (some 1) else (some 0)
theorem spec_l02Bit.fn {k : Nat} {a0 : Bool} {r : Int} (H : spec_l02Bit.f k a0 = some r) : Fn Tryz.prog 27 [oB a0] [] (oI r) [] := by
 refine Fn.bd [2] Tryz.func27 ?_
 refine rn [0] 0 [] [] ?_
 refine sq ?_
 refine rn [3] 0 [] [] ?_
 refine cb H (fun h1 H => ?_) fun h1 H => ?_
 ·refine rn [2] 0 [] [] ?_
  refine Tri.ret ?_
  obtain rfl := si H;exact eR
 refine sk ?_
 refine rn [2] 0 [] [] ?_
 refine Tri.ret ?_
 obtain rfl := si H;exact eR
/-! spec_l03Bytes: function 16 -/
def spec_l03Bytes.l1 : Nat → SItem → (List Int) → Int → Option (List Int)
  | 0, _, _, _ => none
  | k + 1, x37, z53, z54 => if z54 < (x37.f5.length : Int) then ((at? x37.f5 z54).bind fun x56 => (spec_l02Bit.f k x56.f1).bind fun r58 => if (z53 ++ ([IntKind.u8.wrap (w64 (x56.f0 + (w64 (8 * r58))))] : List Int)).length * 1 ≤ 140737488355328 then (spec_l03Bytes.l1 k x37 (z53 ++ ([IntKind.u8.wrap (w64 (x56.f0 + (w64 (8 * r58))))] : List Int)) (w64 (z54 + 1))) else none) else (some z53)
def spec_l03Bytes.e2 (k : Nat) (a0 : SFace) (z34 : (List Int)) (z35 : Int) : Option (List Int) := (at? a0.f1 z35).bind fun x37 => if (z34 ++ ([IntKind.u8.wrap (x37.f0), IntKind.u8.wrap (x37.f1), IntKind.u8.wrap (x37.f2)] : List Int)).length * 1 ≤ 140737488355328 then ((spec_l03Eight.f k x37.f3).bind fun r40 => if ((z34 ++ ([IntKind.u8.wrap (x37.f0), IntKind.u8.wrap (x37.f1), IntKind.u8.wrap (x37.f2)] : List Int)) ++ r40).length * 1 ≤ 140737488355328 then ((spec_l03Text.f k x37.f4).bind fun r43 => if (((z34 ++ ([IntKind.u8.wrap (x37.f0), IntKind.u8.wrap (x37.f1), IntKind.u8.wrap (x37.f2)] : List Int)) ++ r40) ++ r43).length * 1 ≤ 140737488355328 then (if ((((z34 ++ ([IntKind.u8.wrap (x37.f0), IntKind.u8.wrap (x37.f1), IntKind.u8.wrap (x37.f2)] : List Int)) ++ r40) ++ r43) ++ ([IntKind.u8.wrap ((x37.f5.length : Int))] : List Int)).length * 1 ≤ 140737488355328 then (spec_l03Bytes.l1 k x37 ((((z34 ++ ([IntKind.u8.wrap (x37.f0), IntKind.u8.wrap (x37.f1), IntKind.u8.wrap (x37.f2)] : List Int)) ++ r40) ++ r43) ++ ([IntKind.u8.wrap ((x37.f5.length : Int))] : List Int)) 0) else none) else none) else none) else none
def spec_l03Bytes.l3 : Nat → SFace → (List Int) → Int → Option (List Int)
  | 0, _, _, _ => none
  | k + 1, a0, z34, z35 => if z35 < (a0.f1.length : Int) then ((spec_l03Bytes.e2 k a0 z34 z35).bind fun y62 => spec_l03Bytes.l3 k a0 y62 (w64 (z35 + 1))) else (some z34)
def spec_l03Bytes.e4 (k : Nat) (a0 : SFace) (r1 : (List Int)) : Option (List Int) := spec_l03Bytes.l3 k a0 ((([79, 73, 49] : List Int) ++ r1) ++ ([IntKind.u8.wrap ((a0.f1.length : Int))] : List Int)) 0
def spec_l03Bytes.f (k : Nat) (a0 : SFace) : Option (List Int) := (spec_l03Text.f k a0.f0).bind fun r1 => if (([79, 73, 49] : List Int) ++ r1).length * 1 ≤ 140737488355328 then (if ((([79, 73, 49] : List Int) ++ r1) ++ ([IntKind.u8.wrap ((a0.f1.length : Int))] : List Int)).length * 1 ≤ 140737488355328 then ((spec_l03Bytes.e4 k a0 r1).bind fun y66 => some y66) else none) else none
theorem spec_l03Bytes.fn {k : Nat} {a0 : SFace} {r : (List Int)} (H : spec_l03Bytes.f k a0 = some r) : Fn Tryz.prog 16 [ag (eSFace a0)] [] (o1 (.own 5 (List.map (eK .u8) r))) [] := by
 refine Fn.bd [2] Tryz.func16 ?_
 refine rn [1] 1 [] [] ?_
 obtain ⟨r1, h2, H⟩ := bs H
 obtain ⟨h3, H⟩ := nd H
 refine rn [1, 3] 1 [] [p1 (by simp : List.map (eK .u8) ([79, 73, 49] : List Int) ≠ []), hC 4 (spec_l03Text.fn h2) (show (List.all [.own 5 (List.map (eK .u8) r1)] PC.flatB) = true by simp [PC.flatB, PC.scalar, cI, cK, cB, cS, eK]), hA 5 5 (eK .u8) h3] ?_
 obtain ⟨h4, H⟩ := nd H
 refine rn [1, 3] 1 [] [hL 3 eSItem a0.f1, hA 6 5 (eK .u8) h4] ?_
 refine jo H (fun y66 => ⟨87, [(3, o1 (.own 5 (List.map (eK .u8) y66)))], [], 0, []⟩) (fun y66 H => ?_) fun v68 h67 H => ?_
 ·refine rn [2] 0 [] [] ?_
  refine Tri.ret ?_
  obtain rfl := si H;exact eR
 refine rn [1, 3, 4] 1 [] [] ?_
 refine bl ?_
 refine lo ((List Int) × Int) k (fun k x => spec_l03Bytes.l3 k a0 x.1 x.2) (fun x => ⟨87, [(1, o1 (.ref 0 0)), (3, o1 (.own 5 (List.map (eK .u8) x.1))), (4, oI x.2)], [eSFace a0], 0, []⟩) ((([79, 73, 49] : List Int) ++ r1) ++ ([IntKind.u8.wrap ((a0.f1.length : Int))] : List Int), 0) h67 fun k x h67 IH65 => ?_
 obtain ⟨z34, z35⟩ := x
 rw [spec_l03Bytes.l3.eq_2] at h67
 refine sq ?_
 refine rn [1, 3, 4, 24] 1 [] [hL 3 eSItem a0.f1] ?_
 refine ci h67 (fun h36 h67 => ?_) fun h36 h67 => ?_
 ·refine sk ?_
  refine jo h67 (fun y62 => ⟨87, [(1, o1 (.ref 0 0)), (3, o1 (.own 5 (List.map (eK .u8) y62))), (4, oI z35)], [eSFace a0], 0, []⟩) (fun y62 h67 => ?_) fun v64 h63 h67 => ?_
  ·refine rl [1, 3, 4] 1 [] [] ?_
   exact lb IH65 (y62, w64 (z35 + 1)) h67
  refine bl ?_
  obtain ⟨x37, h38, h63⟩ := bs h63
  refine rn [1, 3, 4, 5] 2 [] [hE 3 eSItem h38] ?_
  obtain ⟨h39, h63⟩ := nd h63
  obtain ⟨r40, h41, h63⟩ := bs h63
  obtain ⟨h42, h63⟩ := nd h63
  refine deN hmix [[], [], [1], [1, 2], [], [4], [4, 5], [], [7], [7, 8], [1, 2, 3, 4, 5, 6, 7, 8, 9], [0, 1, 2, 3, 4, 5, 6, 7, 8, 9, 10], [], [12], [0, 1, 2, 3, 4, 5, 6, 7, 8, 9, 10, 11, 12, 13], [0, 1, 2, 3, 4, 5, 6, 7, 8, 9, 10, 11, 12, 13, 14], [0, 1, 2, 3, 4, 5, 6, 7, 8, 9, 10, 11, 12, 13, 14, 15]] [11] [⟨87, [(1, o1 (.ref 0 0)), (3, o1 .dead), (4, oI z35), (5, o1 (.ref 1 0))], [eSFace a0, eSItem x37], 0, []⟩] [(32, o1 (.al (.t 3 0))), (33, o1 (.ref 1 0)), (34, oI x37.f0), (35, o1 (cK .u8 (IntKind.u8.wrap (x37.f0)))), (36, o1 (.ref 1 1)), (37, oI x37.f1), (38, o1 (cK .u8 (IntKind.u8.wrap (x37.f1)))), (39, o1 (.ref 1 2)), (40, oI x37.f2), (41, o1 (cK .u8 (IntKind.u8.wrap (x37.f2)))), (42, o1 (.own 5 (List.map (eK .u8) ([IntKind.u8.wrap (x37.f0), IntKind.u8.wrap (x37.f1), IntKind.u8.wrap (x37.f2)] : List Int)))), (43, o1 (.own 5 (List.map (eK .u8) z34 ++ List.map (eK .u8) ([IntKind.u8.wrap (x37.f0), IntKind.u8.wrap (x37.f1), IntKind.u8.wrap (x37.f2)] : List Int)))), (44, o1 (.ref 1 3)), (45, oI x37.f3)] [1, 3, 4, 5] 2 [] (fun A D B => ([hz B 1, ht D 0, ht D 1, ht D 2, ht D 3, ht D 4, ht D 5, ht D 6, ht D 7, ht D 8, ht D 9, ht D 10, p2 (app1 (f := (eK .u8)) (by decide) h39) (app2 (f := (eK .u8)) h39), hm A D B 0 11 [43, 32, 33, 34, 35, 36, 37, 38, 39, 40, 41, 42, 1, 3, 4, 5], ht D 12, ht D 12, ht D 13, ht D 13], [hC 14 (spec_l03Eight.fn h41) (show (List.all [.own 5 (List.map (eK .u8) r40)] PC.flatB) = true by simp [PC.flatB, PC.scalar, cI, cK, cB, cS, eK]), q1 14 (.ovp (.t 43 0) (.own 5 (List.map (eK .u8) (z34 ++ ([IntKind.u8.wrap (x37.f0), IntKind.u8.wrap (x37.f1), IntKind.u8.wrap (x37.f2)] : List Int))))) (show PC.own 5 (List.map (eK .u8) z34 ++ List.map (eK .u8) ([IntKind.u8.wrap (x37.f0), IntKind.u8.wrap (x37.f1), IntKind.u8.wrap (x37.f2)] : List Int)) = PC.own 5 (List.map (eK .u8) (z34 ++ ([IntKind.u8.wrap (x37.f0), IntKind.u8.wrap (x37.f1), IntKind.u8.wrap (x37.f2)] : List Int))) by simp only [List.map_append]), hA 15 5 (eK .u8) h42])) ?_
  obtain ⟨r43, h44, h63⟩ := bs h63
  obtain ⟨h45, h63⟩ := nd h63
  refine rn [1, 3, 4, 5] 2 [] [hC 3 (spec_l03Text.fn h44) (show (List.all [.own 5 (List.map (eK .u8) r43)] PC.flatB) = true by simp [PC.flatB, PC.scalar, cI, cK, cB, cS, eK]), hA 4 5 (eK .u8) h45] ?_
  obtain ⟨h46, h63⟩ := nd h63
  refine rn [1, 3, 4, 5] 2 [] [hL 3 eSParam x37.f5, hA 6 5 (eK .u8) h46] ?_
  refine rx [1, 3, 4, 5, 6] 2 [] [] ⟨87, [(1, o1 (.ref 0 0)), (3, o1 (.own 5 (List.map (eK .u8) ((((z34 ++ ([IntKind.u8.wrap (x37.f0), IntKind.u8.wrap (x37.f1), IntKind.u8.wrap (x37.f2)] : List Int)) ++ r40) ++ r43) ++ ([IntKind.u8.wrap ((x37.f5.length : Int))] : List Int))))), (4, oI z35), (5, o1 (.ref 1 0)), (6, oI 0)], [eSFace a0, eSItem x37], 0, []⟩ ?_
  refine bl ?_
  refine lo ((List Int) × Int) k (fun k x => spec_l03Bytes.l1 k x37 x.1 x.2) (fun x => ⟨87, [(1, o1 (.ref 0 0)), (3, o1 (.own 5 (List.map (eK .u8) x.1))), (4, oI z35), (5, o1 (.ref 1 0)), (6, oI x.2)], [eSFace a0, eSItem x37], 0, []⟩) ((((z34 ++ ([IntKind.u8.wrap (x37.f0), IntKind.u8.wrap (x37.f1), IntKind.u8.wrap (x37.f2)] : List Int)) ++ r40) ++ r43) ++ ([IntKind.u8.wrap ((x37.f5.length : Int))] : List Int), 0) h63 fun k x h63 IH61 => ?_
  obtain ⟨z53, z54⟩ := x
  rw [spec_l03Bytes.l1.eq_2] at h63
  refine sq ?_
  refine rn [1, 3, 4, 5, 6, 64] 2 [] [hL 3 eSParam x37.f5] ?_
  refine ci h63 (fun h55 h63 => ?_) fun h55 h63 => ?_
  ·refine sk ?_
   refine sq ?_
   refine bl ?_
   obtain ⟨x56, h57, h63⟩ := bs h63
   obtain ⟨r58, h59, h63⟩ := bs h63
   obtain ⟨h60, h63⟩ := nd h63
   refine dl hmix 18 [[], [], [1], [], [1, 2, 3], [1, 2, 3, 4], [1, 2, 3, 4, 5], [], [7], [], [7, 8, 9], [7, 8, 9, 10], [7, 8, 9, 10, 11], [7, 8, 9, 10, 11, 12], [7, 8, 9, 10, 11, 12, 13], [1, 2, 3, 4, 5, 6, 7, 8, 9, 10, 11, 12, 13, 14], [1, 2, 3, 4, 5, 6, 7, 8, 9, 10, 11, 12, 13, 14, 15], [1, 2, 3, 4, 5, 6, 7, 8, 9, 10, 11, 12, 13, 14, 15, 16], [0, 1, 2, 3, 4, 5, 6, 7, 8, 9, 10, 11, 12, 13, 14, 15, 16, 17], [0, 1, 2, 3, 4, 5, 6, 7, 8, 9, 10, 11, 12, 13, 14, 15, 16, 17, 18]] [1, 3, 4, 5, 6] 2 [] [hE 4 eSParam h57, hE 10 eSParam h57, hC 13 (spec_l02Bit.fn h59), hA 18 5 (eK .u8) h60] ?_
   refine rl [1, 3, 4, 5, 6] 2 [] [] ?_
   exact lb IH61 (z53 ++ ([IntKind.u8.wrap (w64 (x56.f0 + (w64 (8 * r58))))] : List Int), w64 (z54 + 1)) h63
  refine fx [1, 3, 4] 1 [] ?_
  refine xi ?_
  exact pf z53 h63
 refine fx [3] 0 [] ?_
 refine xi ?_
 exact pf z34 h67
/-! spec_ReadInterface: function 4 -/
def spec_ReadInterface.e1 (k : Nat) (a0 : (List Int)) : Option Bool := if (a0.length : Int) < 3 then (some true) else (if (0 : Int) ≤ 3 then (if (3 : Int) ≤ (a0.length : Int) then (some (!(decide ((strOfNums (List.take (Int.toNat ((3 : Int) - 0)) (List.drop (Int.toNat 0) a0))) = (⟨#[79, 73, 49]⟩ : ByteArray))))) else none) else none)
def spec_ReadInterface.e2 (k : Nat) (z136 : Int) (z138 : Bool) : Option Bool := if (0 : Int) < z136 then (some (!z138)) else (some false)
def spec_ReadInterface.e3 (k : Nat) (z176 : Int) (z178 : Bool) : Option Bool := if (0 : Int) < z176 then (some (!z178)) else (some false)
def spec_ReadInterface.l4 : Nat → (List Int) → Int → Int → Bool → (List SParam) → Option (Int × Bool × (List SParam))
  | 0, _, _, _, _, _ => none
  | k + 1, a0, z176, z177, z178, z179 => (spec_ReadInterface.e3 k z176 z178).bind fun y181 => if y181 = true then ((spec_l03Reader__one_2.f k (⟨a0, z177, z178⟩ : S909f20)).bind fun r185 => if (z179 ++ ([(⟨(Int.tmod r185.1 8), (decide ((8 : Int) ≤ r185.1))⟩ : SParam)] : List SParam)).length * 16 ≤ 140737488355328 then (spec_ReadInterface.l4 k a0 (w64 (z176 - 1)) r185.2.1 r185.2.2 (z179 ++ ([(⟨(Int.tmod r185.1 8), (decide ((8 : Int) ≤ r185.1))⟩ : SParam)] : List SParam))) else none) else (some (z177, z178, z179))
def spec_ReadInterface.e5 (k : Nat) (a0 : (List Int)) (r153 : (ByteArray × Int × Bool)) : Option (Int × Bool × (List SParam)) := (spec_l03Reader__one_2.f k (⟨a0, r153.2.1, r153.2.2⟩ : S909f20)).bind fun r155 => spec_ReadInterface.l4 k a0 r155.1 r155.2.1 r155.2.2 ([] : List SParam)
def spec_ReadInterface.e6 (k : Nat) (a0 : (List Int)) (z137 : Int) (z138 : Bool) (z139 : (List SItem)) : Option (Int × Bool × (List SItem)) := (spec_l03Reader__one_2.f k (⟨a0, z137, z138⟩ : S909f20)).bind fun r145 => (spec_l03Reader__one_2.f k (⟨a0, r145.2.1, r145.2.2⟩ : S909f20)).bind fun r147 => (spec_l03Reader__one_2.f k (⟨a0, r147.2.1, r147.2.2⟩ : S909f20)).bind fun r149 => (spec_l03Reader__eight_2.f k (⟨a0, r149.2.1, r149.2.2⟩ : S909f20)).bind fun r151 => (spec_l03Reader__text_2.f k (⟨a0, r151.2.1, r151.2.2⟩ : S909f20)).bind fun r153 => (spec_ReadInterface.e5 k a0 r153).bind fun v => match v with | (y189, y190, y191) => if (z139 ++ ([(⟨r145.1, r147.1, r149.1, r151.1, r153.1, y191⟩ : SItem)] : List SItem)).length * 72 ≤ 140737488355328 then (some (y189, y190, z139 ++ ([(⟨r145.1, r147.1, r149.1, r151.1, r153.1, y191⟩ : SItem)] : List SItem))) else none
def spec_ReadInterface.l7 : Nat → (List Int) → Int → Int → Bool → (List SItem) → Option (Int × Bool × (List SItem))
  | 0, _, _, _, _, _ => none
  | k + 1, a0, z136, z137, z138, z139 => (spec_ReadInterface.e2 k z136 z138).bind fun y141 => if y141 = true then ((spec_ReadInterface.e6 k a0 z137 z138 z139).bind fun v => match v with | (y195, y196, y197) => spec_ReadInterface.l7 k a0 (w64 (z136 - 1)) y195 y196 y197) else (some (z137, z138, z139))
def spec_ReadInterface.e8 (k : Nat) (a0 : (List Int)) (r9 : (ByteArray × Int × Bool)) : Option (Int × Bool × (List SItem)) := (spec_l03Reader__one_2.f k (⟨a0, r9.2.1, r9.2.2⟩ : S909f20)).bind fun r11 => spec_ReadInterface.l7 k a0 r11.1 r11.2.1 r11.2.2 ([] : List SItem)
def spec_ReadInterface.e9 (k : Nat) (a0 : (List Int)) (r9 : (ByteArray × Int × Bool)) (y201 : Int) (y202 : Bool) (y203 : (List SItem)) : Option Bool := if y202 = true then (some true) else (if y201 = (a0.length : Int) then ((spec_InterfaceOK.f k (⟨r9.1, y203⟩ : SFace)).bind fun r208 => if r208 = true then ((spec_l03Bytes.f k (⟨r9.1, y203⟩ : SFace)).bind fun r211 => some (!(decide ((strOfNums r211) = (strOfNums a0))))) else (some true)) else (some true))
def spec_ReadInterface.f (k : Nat) (a0 : (List Int)) : Option (SFace × Int × ByteArray × (List SItem)) := if (65536 : Int) < (a0.length : Int) then (some ((⟨(⟨#[]⟩ : ByteArray), ([] : List SItem)⟩ : SFace), 2, (⟨#[]⟩ : ByteArray), ([] : List SItem))) else ((spec_ReadInterface.e1 k a0).bind fun y5 => if y5 = true then (some ((⟨(⟨#[]⟩ : ByteArray), ([] : List SItem)⟩ : SFace), 3, (⟨#[]⟩ : ByteArray), ([] : List SItem))) else ((spec_l03Reader__text_2.f k (⟨a0, 3, false⟩ : S909f20)).bind fun r9 => (spec_ReadInterface.e8 k a0 r9).bind fun v => match v with | (y201, y202, y203) => (spec_ReadInterface.e9 k a0 r9 y201 y202 y203).bind fun y213 => if y213 = true then (some ((⟨(⟨#[]⟩ : ByteArray), ([] : List SItem)⟩ : SFace), 3, (⟨#[]⟩ : ByteArray), ([] : List SItem))) else (some ((⟨r9.1, y203⟩ : SFace), 0, r9.1, y203))))
theorem spec_ReadInterface.fn {k : Nat} {a0 : (List Int)} {r : (SFace × Int × ByteArray × (List SItem))} (H : spec_ReadInterface.f k a0 = some r) : FnG Tryz.prog 4 [o1 (.sl 1 (List.map (eK .u8) a0))] [] [] (tp [some 2, none] [cS r.1.f0, .sl 6 (List.map eSItem r.1.f1), cI r.2.1]) [] [[cS r.2.2.1, .sl 6 (List.map eSItem r.2.2.2)]] := by
 refine FnG.bodyR (rv := [(2, some 25), (3, none)]) Tryz.func4 rfl rfl (by decide) (by decide) (Nat.le_of_ble_eq_true rfl) rfl (Nat.le_of_ble_eq_true rfl) ?_
 refine rn [0, 2] 1 [] [] ?_
 refine sq ?_
 refine rn [0, 2, 12] 1 [] [hL 1 (eK .u8) a0] ?_
 refine ci H (fun h1 H => ?_) fun h1 H => ?_
 ·refine rn [2, 3] 1 [] [] ?_
  refine fx [2, 3] 1 [.sl (.b 0 1) 6] ?_
  refine Tri.ret ?_
  obtain rfl := si H;exact endsR (.inr rfl) (by kernel_rfl)
 refine sk ?_
 refine rn [0, 2, 4] 2 [] [] ?_
 refine sq ?_
 refine jo H (fun y5 => ⟨116, [(0, o1 (.sl 1 (List.map (eK .u8) a0))), (2, o1 (.ref 0 0)), (4, o1 (.ref 1 0)), (25, oB y5)], [[cS (⟨#[]⟩ : ByteArray), .nl], [.sl 1 (List.map (eK .u8) a0), cI 0, cB false]], 0, []⟩) (fun y5 H => ?_) fun v7 h6 H => ?_
 ·refine cb H (fun h8 H => ?_) fun h8 H => ?_
  ·refine rn [2, 3] 1 [] [] ?_
   refine fx [2, 3] 1 [.sl (.b 0 1) 6] ?_
   refine Tri.ret ?_
   obtain rfl := si H;exact endsR (.inr rfl) (by kernel_rfl)
  refine sk ?_
  refine rn [0, 2, 4] 2 [] [] ?_
  obtain ⟨r9, h10, H⟩ := bs H
  refine rn [0, 2, 4, 5] 3 [] [hG 1 [] [1] none (spec_l03Reader__text_2.fn h10)] ?_
  refine jo H (fun w => ⟨116, [(0, o1 (.sl 1 (List.map (eK .u8) a0))), (2, o1 (.ref 0 0)), (4, o1 (.ref 1 0)), (5, o1 (.ref 2 0))], [[cS (⟨#[]⟩ : ByteArray), .nl], [.sl 1 (List.map (eK .u8) a0), cI w.1, cB w.2.1], [cS r9.1, .own 41 (List.map eSItem w.2.2)]], 0, []⟩) (fun w H => ?_) fun v205 h204 H => ?_
  ·obtain ⟨y201, y202, y203⟩ := w
   refine sq ?_
   refine jo H (fun y213 => ⟨116, [(2, o1 (.ref 0 0)), (5, o1 (.ref 2 0)), (113, oB y213)], [[cS (⟨#[]⟩ : ByteArray), .nl], [.sl 1 (List.map (eK .u8) a0), cI y201, cB y202], [cS r9.1, .own 41 (List.map eSItem y203)]], 0, []⟩) (fun y213 H => ?_) fun v215 h214 H => ?_
   ·refine cb H (fun h216 H => ?_) fun h216 H => ?_
    ·refine rn [2, 3] 1 [] [] ?_
     refine fx [2, 3] 1 [.sl (.b 0 1) 6] ?_
     refine Tri.ret ?_
     obtain rfl := si H;exact endsR (.inr rfl) (by kernel_rfl)
    refine sk ?_
    refine rn [2, 3] 1 [] [q0 1 (.frz (.b 2 1))] ?_
    refine Tri.ret ?_
    obtain rfl := si H;exact endsR (.inr rfl) (by kernel_rfl)
   rcases iteb_some h214 with ⟨h206, h214⟩ | ⟨h206, h214⟩
   ·refine dl hmix 24 [[], [0], [0, 1], [0, 1, 2], [0, 1, 2, 3], [0, 1, 2, 3, 4], [0, 1, 2, 3, 4, 5], [0, 1, 2, 3, 4, 5, 6], [0, 1, 2, 3, 4, 5, 6, 7], [0, 1, 2, 3, 4], [0, 1, 2, 3, 4, 9], [0, 1, 2, 3, 4, 5, 6, 7, 8, 9, 10], [0, 1, 2, 3, 4, 5, 6, 7, 8, 9, 10, 11], [0, 1, 2, 3, 4, 5, 6, 7, 8, 9, 10, 11, 12], [0, 1, 2, 3, 4, 5, 6, 7, 8, 9, 10, 11, 12, 13], [0, 1, 2, 3, 4, 5, 6, 7, 8, 9, 10, 11, 12, 13, 14], [0, 1, 2, 3, 4, 5, 6, 7, 8, 9, 10, 11, 12, 13, 14, 15], [0, 1, 2, 3, 4, 5, 6, 7, 8, 9, 10, 11, 12, 13, 14, 15, 16], [0, 1, 2, 3, 4, 5, 6, 7, 8, 9, 10, 11, 12, 13, 14, 15, 16, 17], [0, 1, 2, 3, 4, 5, 6, 7, 8, 9, 10, 11, 12, 13, 14, 15, 16, 17, 18], [0, 1, 2, 3, 4, 5, 6, 7, 8, 9, 10, 11, 12, 13, 14, 15, 16, 17, 18, 19], [0, 1, 2, 3, 4, 5, 6, 7, 8, 9, 10, 11, 12, 13, 14, 15, 16, 17, 18, 19, 20], [0, 1, 2, 3, 4, 5, 6, 7, 8, 9, 10, 11, 12, 13, 14, 15, 16, 17, 18], [0, 1, 2, 3, 4, 5, 6, 7, 8, 9, 10, 11, 12, 13, 14, 15, 16, 17, 18, 22], [0, 1, 2, 3, 4, 5, 6, 7, 8, 9, 10, 11, 12, 13, 14, 15, 16, 17, 18, 19, 20, 21, 22, 23], [0, 1, 2, 3, 4, 5, 6, 7, 8, 9, 10, 11, 12, 13, 14, 15, 16, 17, 18, 19, 20, 21, 22, 23, 24]] [2, 5, 113] 3 [] [hB 3 h206] ?_
    exact pf true h214
   rcases ite_some h214 with ⟨h207, h214⟩ | ⟨h207, h214⟩
   ·obtain ⟨r208, h209, h214⟩ := bs h214
    rcases iteb_some h214 with ⟨h210, h214⟩ | ⟨h210, h214⟩
    ·obtain ⟨r211, h212, h214⟩ := bs h214
     refine dl hmix 24 [[], [0], [0, 1], [0, 1, 2], [0, 1, 2, 3], [0, 1, 2, 3, 4], [0, 1, 2, 3, 4, 5], [0, 1, 2, 3, 4, 5, 6], [0, 1, 2, 3, 4, 5, 6, 7], [0, 1, 2, 3, 4], [0, 1, 2, 3, 4, 9], [0, 1, 2, 3, 4, 5, 6, 7, 8, 9, 10], [0, 1, 2, 3, 4, 5, 6, 7, 8, 9, 10, 11], [0, 1, 2, 3, 4, 5, 6, 7, 8, 9, 10, 11, 12], [0, 1, 2, 3, 4, 5, 6, 7, 8, 9, 10, 11, 12, 13], [0, 1, 2, 3, 4, 5, 6, 7, 8, 9, 10, 11, 12, 13, 14], [0, 1, 2, 3, 4, 5, 6, 7, 8, 9, 10, 11, 12, 13, 14, 15], [0, 1, 2, 3, 4, 5, 6, 7, 8, 9, 10, 11, 12, 13, 14, 15, 16], [0, 1, 2, 3, 4, 5, 6, 7, 8, 9, 10, 11, 12, 13, 14, 15, 16, 17], [0, 1, 2, 3, 4, 5, 6, 7, 8, 9, 10, 11, 12, 13, 14, 15, 16, 17, 18], [0, 1, 2, 3, 4, 5, 6, 7, 8, 9, 10, 11, 12, 13, 14, 15, 16, 17, 18, 19], [0, 1, 2, 3, 4, 5, 6, 7, 8, 9, 10, 11, 12, 13, 14, 15, 16, 17, 18, 19, 20], [0, 1, 2, 3, 4, 5, 6, 7, 8, 9, 10, 11, 12, 13, 14, 15, 16, 17, 18], [0, 1, 2, 3, 4, 5, 6, 7, 8, 9, 10, 11, 12, 13, 14, 15, 16, 17, 18, 22], [0, 1, 2, 3, 4, 5, 6, 7, 8, 9, 10, 11, 12, 13, 14, 15, 16, 17, 18, 19, 20, 21, 22, 23], [0, 1, 2, 3, 4, 5, 6, 7, 8, 9, 10, 11, 12, 13, 14, 15, 16, 17, 18, 19, 20, 21, 22, 23, 24]] [2, 5, 113] 3 [] [hB 3 h206, hL 10 (eK .u8) a0, hB 11 (nF (decide_eq_true h207)), hC 15 (spec_InterfaceOK.fn h209), hB 15 h210, hC 20 (spec_l03Bytes.fn h212) (show (List.all [.own 5 (List.map (eK .u8) r211)] PC.flatB) = true by simp [PC.flatB, PC.scalar, cI, cK, cB, cS, eK]), q1 21 (.nums r211) (rfl : List.map (eK .u8) r211 = List.map (fun n => [PC.sc (.int .u8 n)]) r211), q1 23 (.nums a0) (rfl : List.map (eK .u8) a0 = List.map (fun n => [PC.sc (.int .u8 n)]) a0)] ?_
     exact pf (!(decide ((strOfNums r211) = (strOfNums a0)))) h214
    refine dl hmix 24 [[], [0], [0, 1], [0, 1, 2], [0, 1, 2, 3], [0, 1, 2, 3, 4], [0, 1, 2, 3, 4, 5], [0, 1, 2, 3, 4, 5, 6], [0, 1, 2, 3, 4, 5, 6, 7], [0, 1, 2, 3, 4], [0, 1, 2, 3, 4, 9], [0, 1, 2, 3, 4, 5, 6, 7, 8, 9, 10], [0, 1, 2, 3, 4, 5, 6, 7, 8, 9, 10, 11], [0, 1, 2, 3, 4, 5, 6, 7, 8, 9, 10, 11, 12], [0, 1, 2, 3, 4, 5, 6, 7, 8, 9, 10, 11, 12, 13], [0, 1, 2, 3, 4, 5, 6, 7, 8, 9, 10, 11, 12, 13, 14], [0, 1, 2, 3, 4, 5, 6, 7, 8, 9, 10, 11, 12, 13, 14, 15], [0, 1, 2, 3, 4, 5, 6, 7, 8, 9, 10, 11, 12, 13, 14, 15, 16], [0, 1, 2, 3, 4, 5, 6, 7, 8, 9, 10, 11, 12, 13, 14, 15, 16, 17], [0, 1, 2, 3, 4, 5, 6, 7, 8, 9, 10, 11, 12, 13, 14, 15, 16, 17, 18], [0, 1, 2, 3, 4, 5, 6, 7, 8, 9, 10, 11, 12, 13, 14, 15, 16, 17, 18, 19], [0, 1, 2, 3, 4, 5, 6, 7, 8, 9, 10, 11, 12, 13, 14, 15, 16, 17, 18, 19, 20], [0, 1, 2, 3, 4, 5, 6, 7, 8, 9, 10, 11, 12, 13, 14, 15, 16, 17, 18], [0, 1, 2, 3, 4, 5, 6, 7, 8, 9, 10, 11, 12, 13, 14, 15, 16, 17, 18, 22], [0, 1, 2, 3, 4, 5, 6, 7, 8, 9, 10, 11, 12, 13, 14, 15, 16, 17, 18, 19, 20, 21, 22, 23], [0, 1, 2, 3, 4, 5, 6, 7, 8, 9, 10, 11, 12, 13, 14, 15, 16, 17, 18, 19, 20, 21, 22, 23, 24]] [2, 5, 113] 3 [] [hB 3 h206, hL 10 (eK .u8) a0, hB 11 (nF (decide_eq_true h207)), hC 15 (spec_InterfaceOK.fn h209), hB 15 h210] ?_
    exact pf true h214
   refine dl hmix 24 [[], [0], [0, 1], [0, 1, 2], [0, 1, 2, 3], [0, 1, 2, 3, 4], [0, 1, 2, 3, 4, 5], [0, 1, 2, 3, 4, 5, 6], [0, 1, 2, 3, 4, 5, 6, 7], [0, 1, 2, 3, 4], [0, 1, 2, 3, 4, 9], [0, 1, 2, 3, 4, 5, 6, 7, 8, 9, 10], [0, 1, 2, 3, 4, 5, 6, 7, 8, 9, 10, 11], [0, 1, 2, 3, 4, 5, 6, 7, 8, 9, 10, 11, 12], [0, 1, 2, 3, 4, 5, 6, 7, 8, 9, 10, 11, 12, 13], [0, 1, 2, 3, 4, 5, 6, 7, 8, 9, 10, 11, 12, 13, 14], [0, 1, 2, 3, 4, 5, 6, 7, 8, 9, 10, 11, 12, 13, 14, 15], [0, 1, 2, 3, 4, 5, 6, 7, 8, 9, 10, 11, 12, 13, 14, 15, 16], [0, 1, 2, 3, 4, 5, 6, 7, 8, 9, 10, 11, 12, 13, 14, 15, 16, 17], [0, 1, 2, 3, 4, 5, 6, 7, 8, 9, 10, 11, 12, 13, 14, 15, 16, 17, 18], [0, 1, 2, 3, 4, 5, 6, 7, 8, 9, 10, 11, 12, 13, 14, 15, 16, 17, 18, 19], [0, 1, 2, 3, 4, 5, 6, 7, 8, 9, 10, 11, 12, 13, 14, 15, 16, 17, 18, 19, 20], [0, 1, 2, 3, 4, 5, 6, 7, 8, 9, 10, 11, 12, 13, 14, 15, 16, 17, 18], [0, 1, 2, 3, 4, 5, 6, 7, 8, 9, 10, 11, 12, 13, 14, 15, 16, 17, 18, 22], [0, 1, 2, 3, 4, 5, 6, 7, 8, 9, 10, 11, 12, 13, 14, 15, 16, 17, 18, 19, 20, 21, 22, 23], [0, 1, 2, 3, 4, 5, 6, 7, 8, 9, 10, 11, 12, 13, 14, 15, 16, 17, 18, 19, 20, 21, 22, 23, 24]] [2, 5, 113] 3 [] [hB 3 h206, hL 10 (eK .u8) a0, hB 11 (nT (decide_eq_false h207))] ?_
   exact pf true h214
  obtain ⟨r11, h12, h204⟩ := bs h204
  refine rn [0, 2, 4, 5, 6] 3 [] [hG 1 [] [1] none (spec_l03Reader__one_2.fn h12)] ?_
  refine bl ?_
  refine fx [0, 2, 4, 5, 6] 3 [.own (.b 2 1) 41] ?_
  refine lo (Int × Int × Bool × (List SItem)) k (fun k x => spec_ReadInterface.l7 k a0 x.1 x.2.1 x.2.2.1 x.2.2.2) (fun x => ⟨116, [(0, o1 (.sl 1 (List.map (eK .u8) a0))), (2, o1 (.ref 0 0)), (4, o1 (.ref 1 0)), (5, o1 (.ref 2 0)), (6, oI x.1)], [[cS (⟨#[]⟩ : ByteArray), .nl], [.sl 1 (List.map (eK .u8) a0), cI x.2.1, cB x.2.2.1], [cS r9.1, .own 41 (List.map eSItem x.2.2.2)]], 0, []⟩) (r11.1, r11.2.1, r11.2.2, ([] : List SItem)) h204 fun k x h204 IH200 => ?_
  obtain ⟨z136, z137, z138, z139⟩ := x
  rw [spec_ReadInterface.l7.eq_2] at h204
  refine sq ?_
  refine jo h204 (fun y141 => ⟨116, [(0, o1 (.sl 1 (List.map (eK .u8) a0))), (2, o1 (.ref 0 0)), (4, o1 (.ref 1 0)), (5, o1 (.ref 2 0)), (6, oI z136), (43, oB y141)], [[cS (⟨#[]⟩ : ByteArray), .nl], [.sl 1 (List.map (eK .u8) a0), cI z137, cB z138], [cS r9.1, .own 41 (List.map eSItem z139)]], 0, []⟩) (fun y141 h204 => ?_) fun v143 h142 h204 => ?_
  ·refine cb h204 (fun h144 h204 => ?_) fun h144 h204 => ?_
   ·refine sk ?_
    refine jo h204 (fun w => ⟨116, [(0, o1 (.sl 1 (List.map (eK .u8) a0))), (2, o1 (.ref 0 0)), (4, o1 (.ref 1 0)), (5, o1 (.ref 2 0)), (6, oI z136)], [[cS (⟨#[]⟩ : ByteArray), .nl], [.sl 1 (List.map (eK .u8) a0), cI w.1, cB w.2.1], [cS r9.1, .own 41 (List.map eSItem w.2.2)]], 0, []⟩) (fun w h204 => ?_) fun v199 h198 h204 => ?_
    ·obtain ⟨y195, y196, y197⟩ := w
     refine rl [0, 2, 4, 5, 6] 3 [] [] ?_
     exact lb IH200 (w64 (z136 - 1), y195, y196, y197) h204
    refine bl ?_
    obtain ⟨r145, h146, h198⟩ := bs h198
    obtain ⟨r147, h148, h198⟩ := bs h198
    obtain ⟨r149, h150, h198⟩ := bs h198
    obtain ⟨r151, h152, h198⟩ := bs h198
    obtain ⟨r153, h154, h198⟩ := bs h198
    refine rn [0, 2, 4, 5, 6, 7] 4 [] [hG 1 [] [1] none (spec_l03Reader__one_2.fn h146), hG 3 [] [1] none (spec_l03Reader__one_2.fn h148), hG 5 [] [1] none (spec_l03Reader__one_2.fn h150), hG 7 [] [1] none (spec_l03Reader__eight_2.fn h152), hG 9 [] [1] none (spec_l03Reader__text_2.fn h154)] ?_
    refine jo h198 (fun w => ⟨116, [(0, o1 (.sl 1 (List.map (eK .u8) a0))), (2, o1 (.ref 0 0)), (4, o1 (.ref 1 0)), (5, o1 (.ref 2 0)), (6, oI z136), (7, o1 (.ref 3 0))], [[cS (⟨#[]⟩ : ByteArray), .nl], [.sl 1 (List.map (eK .u8) a0), cI w.1, cB w.2.1], [cS r9.1, .own 41 (List.map eSItem z139)], [cI r145.1, cI r147.1, cI r149.1, cI r151.1, cS r153.1, .own 43 (List.map eSParam w.2.2)]], 0, []⟩) (fun w h198 => ?_) fun v193 h192 h198 => ?_
    ·obtain ⟨y189, y190, y191⟩ := w
     obtain ⟨h194, h198⟩ := nd h198
     refine rl [0, 2, 4, 5, 6] 3 [] [q0 3 (.frz (.b 3 5)), hA 4 41 eSItem h194] ?_
     exact pf (y189, y190, z139 ++ ([(⟨r145.1, r147.1, r149.1, r151.1, r153.1, y191⟩ : SItem)] : List SItem)) h198
    obtain ⟨r155, h156, h192⟩ := bs h192
    refine rn [0, 2, 4, 5, 6, 7, 8] 4 [] [hG 1 [] [1] none (spec_l03Reader__one_2.fn h156)] ?_
    refine bl ?_
    refine fx [0, 2, 4, 5, 6, 7, 8] 4 [.own (.b 3 5) 43] ?_
    refine lo (Int × Int × Bool × (List SParam)) k (fun k x => spec_ReadInterface.l4 k a0 x.1 x.2.1 x.2.2.1 x.2.2.2) (fun x => ⟨116, [(0, o1 (.sl 1 (List.map (eK .u8) a0))), (2, o1 (.ref 0 0)), (4, o1 (.ref 1 0)), (5, o1 (.ref 2 0)), (6, oI z136), (7, o1 (.ref 3 0)), (8, oI x.1)], [[cS (⟨#[]⟩ : ByteArray), .nl], [.sl 1 (List.map (eK .u8) a0), cI x.2.1, cB x.2.2.1], [cS r9.1, .own 41 (List.map eSItem z139)], [cI r145.1, cI r147.1, cI r149.1, cI r151.1, cS r153.1, .own 43 (List.map eSParam x.2.2.2)]], 0, []⟩) (r155.1, r155.2.1, r155.2.2, ([] : List SParam)) h192 fun k x h192 IH188 => ?_
    obtain ⟨z176, z177, z178, z179⟩ := x
    rw [spec_ReadInterface.l4.eq_2] at h192
    refine sq ?_
    refine jo h192 (fun y181 => ⟨116, [(0, o1 (.sl 1 (List.map (eK .u8) a0))), (2, o1 (.ref 0 0)), (4, o1 (.ref 1 0)), (5, o1 (.ref 2 0)), (6, oI z136), (7, o1 (.ref 3 0)), (8, oI z176), (67, oB y181)], [[cS (⟨#[]⟩ : ByteArray), .nl], [.sl 1 (List.map (eK .u8) a0), cI z177, cB z178], [cS r9.1, .own 41 (List.map eSItem z139)], [cI r145.1, cI r147.1, cI r149.1, cI r151.1, cS r153.1, .own 43 (List.map eSParam z179)]], 0, []⟩) (fun y181 h192 => ?_) fun v183 h182 h192 => ?_
    ·refine cb h192 (fun h184 h192 => ?_) fun h184 h192 => ?_
     ·refine sk ?_
      refine sq ?_
      refine bl ?_
      obtain ⟨r185, h186, h192⟩ := bs h192
      refine rn [0, 2, 4, 5, 6, 7, 8, 9] 4 [] [hG 1 [] [1] none (spec_l03Reader__one_2.fn h186)] ?_
      obtain ⟨h187, h192⟩ := nd h192
      refine rl [0, 2, 4, 5, 6, 7, 8] 4 [] [p1 (show (8 : Int) ≠ 0 by decide), hA 8 43 eSParam h187] ?_
      refine rl [0, 2, 4, 5, 6, 7, 8] 4 [] [] ?_
      exact lb IH188 (w64 (z176 - 1), r185.2.1, r185.2.2, z179 ++ ([(⟨(Int.tmod r185.1 8), (decide ((8 : Int) ≤ r185.1))⟩ : SParam)] : List SParam)) h192
     refine fx [0, 2, 4, 5, 6, 7] 4 [] ?_
     refine xi ?_
     exact pf (z177, z178, z179) h192
    rcases ite_some h182 with ⟨h180, h182⟩ | ⟨h180, h182⟩
    ·refine rl [0, 2, 4, 5, 6, 7, 8, 67] 4 [] [hB 1 (decide_eq_true h180)] ?_
     exact pf (!z178) h182
    refine rl [0, 2, 4, 5, 6, 7, 8, 67] 4 [] [hB 1 (decide_eq_false h180)] ?_
    exact pf false h182
   refine fx [0, 2, 4, 5] 3 [] ?_
   refine xi ?_
   exact pf (z137, z138, z139) h204
  rcases ite_some h142 with ⟨h140, h142⟩ | ⟨h140, h142⟩
  ·refine rl [0, 2, 4, 5, 6, 43] 3 [] [hB 1 (decide_eq_true h140)] ?_
   exact pf (!z138) h142
  refine rl [0, 2, 4, 5, 6, 43] 3 [] [hB 1 (decide_eq_false h140)] ?_
  exact pf false h142
 rcases ite_some h6 with ⟨h2, h6⟩ | ⟨h2, h6⟩
 ·refine rl [0, 2, 4, 25] 2 [] [hL 1 (eK .u8) a0, hB 2 (decide_eq_true h2)] ?_
  exact pf true h6
 obtain ⟨h3, h6⟩ := nd h6
 obtain ⟨h4, h6⟩ := nd h6
 refine rl [0, 2, 4, 25] 2 [] [hL 1 (eK .u8) a0, hB 2 (decide_eq_false h2), p3 (show (0 : Int) ≤ 0 by decide) h3 (lenle (f := (eK .u8)) (l := a0) h4), q1 5 (.ov [.sl 1 (List.map (eK .u8) (List.take (Int.toNat ((3 : Int) - 0)) (List.drop (Int.toNat 0) a0)))]) (ovcut (s := 1) (l := a0) (f := (eK .u8)) (a := Int.toNat 0) (b := Int.toNat ((3 : Int) - 0))), q1 6 (.nums (List.take (Int.toNat ((3 : Int) - 0)) (List.drop (Int.toNat 0) a0))) (rfl : List.map (eK .u8) (List.take (Int.toNat ((3 : Int) - 0)) (List.drop (Int.toNat 0) a0)) = List.map (fun n => [PC.sc (.int .u8 n)]) (List.take (Int.toNat ((3 : Int) - 0)) (List.drop (Int.toNat 0) a0)))] ?_
 exact pf (!(decide ((strOfNums (List.take (Int.toNat ((3 : Int) - 0)) (List.drop (Int.toNat 0) a0))) = (⟨#[79, 73, 49]⟩ : ByteArray)))) h6
/-! impl_isShort___byte: function 17 -/
def impl_isShort___byte.f (k : Nat) (a0 : (List Int)) : Option Bool := some (decide ((a0.length : Int) ≤ 65536))
theorem impl_isShort___byte.fn {k : Nat} {a0 : (List Int)} {r : Bool} (H : impl_isShort___byte.f k a0 = some r) : Fn Tryz.prog 17 [o1 (.sl 1 (List.map (eK .u8) a0))] [] (oB r) [] := by
 refine Fn.bd [2] Tryz.func17 ?_
 refine rn [0] 0 [] [] ?_
 refine rn [2] 0 [] [hL 1 (eK .u8) a0] ?_
 refine Tri.ret ?_
 obtain rfl := si H;exact eR
/-! impl_reader__take_2: function 41 -/
def impl_reader__take_2.e1 (k : Nat) (a1 : Int) (b0 : S3ddd55) : Option Bool := if b0.f2 = true then (some true) else (some (decide ((w64 ((b0.f0.size : Int) - b0.f1)) < a1)))
def impl_reader__take_2.f (k : Nat) (a1 : Int) (b0 : S3ddd55) : Option (ByteArray × Int × Bool) := (impl_reader__take_2.e1 k a1 b0).bind fun y2 => if y2 = true then (some ((⟨#[]⟩ : ByteArray), b0.f1, true)) else (if (0 : Int) ≤ (w64 ((w64 (b0.f1 + a1)) - a1)) then (if (w64 ((w64 (b0.f1 + a1)) - a1)) ≤ w64 (b0.f1 + a1) then (if (w64 (b0.f1 + a1)) ≤ (b0.f0.size : Int) then (some (b0.f0.extract (Int.toNat (w64 ((w64 (b0.f1 + a1)) - a1))) (Int.toNat (w64 (b0.f1 + a1))), w64 (b0.f1 + a1), b0.f2)) else none) else none) else none)
theorem impl_reader__take_2.fn {k : Nat} {a1 : Int} {b0 : S3ddd55} {r : (ByteArray × Int × Bool)} (H : impl_reader__take_2.f k a1 b0 = some r) : FnG Tryz.prog 41 [o1 (.ref 0 0), oI a1] [] [eS3ddd55 b0] (oS r.1) [] [[cS b0.f0, cI r.2.1, cB r.2.2]] := by
 refine FnG.body (ts := [4]) Tryz.func41 rfl rfl (by decide) (by decide) (Nat.le_of_ble_eq_true rfl) rfl (Nat.le_of_ble_eq_true rfl) ?_
 refine rn [0, 1] 1 [] [] ?_
 refine sq ?_
 refine jo H (fun y2 => ⟨49, [(0, o1 (.ref 0 0)), (1, oI a1), (22, oB y2)], [eS3ddd55 b0], 1, []⟩) (fun y2 H => ?_) fun v4 h3 H => ?_
 ·refine cb H (fun h5 H => ?_) fun h5 H => ?_
  ·refine rn [] 1 [] [] ?_
   refine rn [4] 1 [] [] ?_
   refine Tri.ret ?_
   obtain rfl := si H;exact endsG (.inr rfl) (by kernel_rfl)
  refine sk ?_
  refine rn [0, 1] 1 [] [] ?_
  obtain ⟨h6, H⟩ := nd H
  obtain ⟨h7, H⟩ := nd H
  obtain ⟨h8, H⟩ := nd H
  refine dn hmix 14 [[], [0], [0, 1], [0, 1, 2], [], [4], [4, 5], [4, 5, 6], [], [4, 5, 6, 7, 8], [], [10], [10, 11], [10, 11, 12], [0, 1, 2, 3, 4, 5, 6, 7, 8, 9, 10, 11, 12, 13], [0, 1, 2, 3, 4, 5, 6, 7, 8, 9, 10, 11, 12, 13, 14]] [4] 1 [] [p3 h6 h7 h8] ?_
  refine Tri.ret ?_
  obtain rfl := si H;exact endsG (.inr rfl) (by kernel_rfl)
 rcases iteb_some h3 with ⟨h1, h3⟩ | ⟨h1, h3⟩
 ·refine dl hmix 16 [[], [0], [0, 1], [0, 1, 2], [0, 1, 2, 3], [0, 1, 2, 3, 4], [0, 1, 2, 3, 4], [0, 1, 2, 3, 4, 6], [0, 1, 2, 3, 4, 6, 7], [0, 1, 2, 3, 4, 6, 7, 8], [0, 1, 2, 3, 4, 6, 7, 8, 9], [0, 1, 2, 3, 4], [0, 1, 2, 3, 4, 11], [0, 1, 2, 3, 4, 11, 12], [0, 1, 2, 3, 4, 11, 12, 13], [0, 1, 2, 3, 4, 6, 7, 8, 9, 10, 11, 12, 13, 14], [0, 1, 2, 3, 4, 5, 6, 7, 8, 9, 10, 11, 12, 13, 14, 15], [0, 1, 2, 3, 4, 5, 6, 7, 8, 9, 10, 11, 12, 13, 14, 15, 16]] [0, 1, 22] 1 [] [hB 3 h1] ?_
  exact pf true h3
 refine dl hmix 16 [[], [0], [0, 1], [0, 1, 2], [0, 1, 2, 3], [0, 1, 2, 3, 4], [0, 1, 2, 3, 4], [0, 1, 2, 3, 4, 6], [0, 1, 2, 3, 4, 6, 7], [0, 1, 2, 3, 4, 6, 7, 8], [0, 1, 2, 3, 4, 6, 7, 8, 9], [0, 1, 2, 3, 4], [0, 1, 2, 3, 4, 11], [0, 1, 2, 3, 4, 11, 12], [0, 1, 2, 3, 4, 11, 12, 13], [0, 1, 2, 3, 4, 6, 7, 8, 9, 10, 11, 12, 13, 14], [0, 1, 2, 3, 4, 5, 6, 7, 8, 9, 10, 11, 12, 13, 14, 15], [0, 1, 2, 3, 4, 5, 6, 7, 8, 9, 10, 11, 12, 13, 14, 15, 16]] [0, 1, 22] 1 [] [hB 3 h1] ?_
 exact pf (decide ((w64 ((b0.f0.size : Int) - b0.f1)) < a1)) h3
/-! impl_reader__head_2: function 28 -/
def impl_reader__head_2.f (k : Nat) (a1 : ByteArray) (b0 : S3ddd55) : Option (Int × Bool) := (impl_reader__take_2.f k (a1.size : Int) b0).bind fun r1 => if r1.1 = a1 then (some (r1.2.1, r1.2.2)) else (some (r1.2.1, true))
theorem impl_reader__head_2.fn {k : Nat} {a1 : ByteArray} {b0 : S3ddd55} {r : (Int × Bool)} (H : impl_reader__head_2.f k a1 b0 = some r) : FnG Tryz.prog 28 [o1 (.ref 0 0), oS a1] [] [eS3ddd55 b0] (tp [] []) [] [[cS b0.f0, cI r.1, cB r.2]] := by
 refine FnG.body (ts := []) Tryz.func28 rfl rfl (by decide) (by decide) (Nat.le_of_ble_eq_true rfl) rfl (Nat.le_of_ble_eq_true rfl) ?_
 obtain ⟨r1, h2, H⟩ := bs H
 rcases ite_some H with ⟨h3, H⟩ | ⟨h3, H⟩
 ·refine rl [] 1 [] [hG 4 [] [0] none (impl_reader__take_2.fn h2), hB 6 (nF (decide_eq_true h3))] ?_
  obtain rfl := si H;exact endsG (.inl rfl) (by kernel_rfl)
 refine rl [] 1 [] [hG 4 [] [0] none (impl_reader__take_2.fn h2), hB 6 (nT (decide_eq_false h3))] ?_
 obtain rfl := si H;exact endsG (.inl rfl) (by kernel_rfl)
/-! impl_reader__number_2: function 30 -/
def impl_reader__number_2.l1 : Nat → (ByteArray × Int × Bool) → Int → Int → Option (Int × Int × Bool)
  | 0, _, _, _ => none
  | k + 1, r1, z6, z7 => if z7 < ((bytesOf r1.1).length : Int) then ((at? (bytesOf r1.1) z7).bind fun x9 => impl_reader__number_2.l1 k r1 (ior .i64 (ishl .i64 z6 8) (w64 (x9))) (w64 (z7 + 1))) else (some (z6, r1.2.1, r1.2.2))
def impl_reader__number_2.e2 (k : Nat) (a1 : Int) (b0 : S3ddd55) : Option (Int × Int × Bool) := (impl_reader__take_2.f k a1 b0).bind fun r1 => impl_reader__number_2.l1 k r1 0 0
def impl_reader__number_2.f (k : Nat) (a1 : Int) (b0 : S3ddd55) : Option (Int × Int × Bool) := (impl_reader__number_2.e2 k a1 b0).bind fun v => match v with | (y12, y13, y14) => some (y12, y13, y14)
theorem impl_reader__number_2.fn {k : Nat} {a1 : Int} {b0 : S3ddd55} {r : (Int × Int × Bool)} (H : impl_reader__number_2.f k a1 b0 = some r) : FnG Tryz.prog 30 [o1 (.ref 0 0), oI a1] [] [eS3ddd55 b0] (oI r.1) [] [[cS b0.f0, cI r.2.1, cB r.2.2]] := by
 refine FnG.body (ts := [4]) Tryz.func30 rfl rfl (by decide) (by decide) (Nat.le_of_ble_eq_true rfl) rfl (Nat.le_of_ble_eq_true rfl) ?_
 refine rn [0, 1] 1 [] [] ?_
 refine rn [0, 1, 5] 1 [] [] ?_
 refine jo H (fun w => ⟨24, [(5, oI w.1)], [[cS b0.f0, cI w.2.1, cB w.2.2]], 1, []⟩) (fun w H => ?_) fun v16 h15 H => ?_
 ·obtain ⟨y12, y13, y14⟩ := w
  refine rn [4] 1 [] [] ?_
  refine Tri.ret ?_
  obtain rfl := si H;exact endsG (.inr rfl) (by kernel_rfl)
 obtain ⟨r1, h2, h15⟩ := bs h15
 refine rn [5, 11, 12, 13] 1 [] [hG 2 [] [0] none (impl_reader__take_2.fn h2), hL 4 (eK .u8) (bytesOf r1.1)] ?_
 refine bl ?_
 refine lo (Int × Int) k (fun k x => impl_reader__number_2.l1 k r1 x.1 x.2) (fun x => ⟨24, [(5, oI x.1), (11, o1 (.sl 1 (List.map (eK .u8) (bytesOf r1.1)))), (12, oI ((bytesOf r1.1).length : Int)), (13, oI x.2)], [[cS b0.f0, cI r1.2.1, cB r1.2.2]], 1, []⟩) (0, 0) h15 fun k x h15 IH11 => ?_
 obtain ⟨z6, z7⟩ := x
 rw [impl_reader__number_2.l1.eq_2] at h15
 refine rn [5, 11, 12, 13, 14] 1 [] [] ?_
 refine sq ?_
 refine ci h15 (fun h8 h15 => ?_) fun h8 h15 => ?_
 ·refine sk ?_
  refine sq ?_
  refine bl ?_
  obtain ⟨x9, h10, h15⟩ := bs h15
  refine rn [5, 7, 11, 12, 13] 1 [] [hE 0 (eK .u8) h10] ?_
  refine rl [5, 11, 12, 13] 1 [] [p1 (show (0 : Int) ≤ 8 by decide)] ?_
  refine rl [5, 11, 12, 13] 1 [] [] ?_
  exact lb IH11 (ior .i64 (ishl .i64 z6 8) (w64 (x9)), w64 (z7 + 1)) h15
 refine fx [5] 1 [] ?_
 refine xi ?_
 exact pf (z6, r1.2.1, r1.2.2) h15
/-! impl_reader__text_2: function 29 -/
def impl_reader__text_2.f (k : Nat) (b0 : S3ddd55) : Option (ByteArray × Int × Bool) := (impl_reader__number_2.f k 1 b0).bind fun r1 => (impl_reader__take_2.f k r1.1 (⟨b0.f0, r1.2.1, r1.2.2⟩ : S3ddd55)).bind fun r3 => some (r3.1, r3.2.1, r3.2.2)
theorem impl_reader__text_2.fn {k : Nat} {b0 : S3ddd55} {r : (ByteArray × Int × Bool)} (H : impl_reader__text_2.f k b0 = some r) : FnG Tryz.prog 29 [o1 (.ref 0 0)] [] [eS3ddd55 b0] (oS r.1) [] [[cS b0.f0, cI r.2.1, cB r.2.2]] := by
 refine FnG.body (ts := [2]) Tryz.func29 rfl rfl (by decide) (by decide) (Nat.le_of_ble_eq_true rfl) rfl (Nat.le_of_ble_eq_true rfl) ?_
 refine rn [0] 1 [] [] ?_
 obtain ⟨r1, h2, H⟩ := bs H
 obtain ⟨r3, h4, H⟩ := bs H
 refine rn [2] 1 [] [hG 2 [] [0] none (impl_reader__number_2.fn h2), hG 3 [] [0] none (impl_reader__take_2.fn h4)] ?_
 refine Tri.ret ?_
 obtain rfl := si H;exact endsG (.inr rfl) (by kernel_rfl)
/-! impl_reader__ends_1: function 31 -/
def impl_reader__ends_1.e1 (k : Nat) (a0_1 : S3ddd55) : Option Bool := if a0_1.f2 = true then (some false) else (some (decide (a0_1.f1 = (a0_1.f0.size : Int))))
def impl_reader__ends_1.f (k : Nat) (a0_1 : S3ddd55) : Option Bool := (impl_reader__ends_1.e1 k a0_1).bind fun y2 => some y2
theorem impl_reader__ends_1.fn {k : Nat} {a0_1 : S3ddd55} {r : Bool} (H : impl_reader__ends_1.f k a0_1 = some r) : Fn Tryz.prog 31 [o1 (.cel (eS3ddd55 a0_1) 0)] [] (oB r) [] := by
 refine Fn.bd [2] Tryz.func31 ?_
 refine rn [0] 0 [] [] ?_
 refine jo H (fun y2 => ⟨20, [(2, oB y2)], [], 0, []⟩) (fun y2 H => ?_) fun v4 h3 H => ?_
 ·refine Tri.ret ?_
  obtain rfl := si H;exact eR
 rcases iteb_some h3 with ⟨h1, h3⟩ | ⟨h1, h3⟩
 ·refine dl hmix 15 [[], [0], [0, 1], [0, 1, 2], [0, 1, 2, 3], [0, 1, 2, 3, 4], [0, 1, 2, 3, 4, 5], [0, 1, 2, 3, 4, 5, 6], [0, 1, 2, 3, 4, 5, 6, 7], [0, 1, 2, 3, 4, 5, 6, 7, 8], [0, 1, 2, 3, 4, 5], [0, 1, 2, 3, 4, 5, 10], [0, 1, 2, 3, 4, 5, 10, 11], [0, 1, 2, 3, 4, 5, 10, 11, 12], [0, 1, 2, 3, 4, 5, 10, 11, 12, 13], [0, 1, 2, 3, 4, 5, 6, 7, 8, 9, 10, 11, 12, 13, 14], [0, 1, 2, 3, 4, 5, 6, 7, 8, 9, 10, 11, 12, 13, 14, 15], [0, 1, 2, 3, 4, 5, 6, 7, 8, 9, 10, 11, 12, 13, 14, 15, 16]] [2] 0 [] [hB 3 h1] ?_
  exact pf false h3
 refine dl hmix 15 [[], [0], [0, 1], [0, 1, 2], [0, 1, 2, 3], [0, 1, 2, 3, 4], [0, 1, 2, 3, 4, 5], [0, 1, 2, 3, 4, 5, 6], [0, 1, 2, 3, 4, 5, 6, 7], [0, 1, 2, 3, 4, 5, 6, 7, 8], [0, 1, 2, 3, 4, 5], [0, 1, 2, 3, 4, 5, 10], [0, 1, 2, 3, 4, 5, 10, 11], [0, 1, 2, 3, 4, 5, 10, 11, 12], [0, 1, 2, 3, 4, 5, 10, 11, 12, 13], [0, 1, 2, 3, 4, 5, 6, 7, 8, 9, 10, 11, 12, 13, 14], [0, 1, 2, 3, 4, 5, 6, 7, 8, 9, 10, 11, 12, 13, 14, 15], [0, 1, 2, 3, 4, 5, 6, 7, 8, 9, 10, 11, 12, 13, 14, 15, 16]] [2] 0 [] [hB 3 h1] ?_
 exact pf (decide (a0_1.f1 = (a0_1.f0.size : Int))) h3
/-! impl_within: function 56 -/
def impl_within.e1 (k : Nat) (a0 : Int) (a1 : Int) (a2 : Int) : Option Bool := if a1 ≤ a0 then (some (decide (a0 ≤ a2))) else (some false)
def impl_within.f (k : Nat) (a0 : Int) (a1 : Int) (a2 : Int) : Option Bool := (impl_within.e1 k a0 a1 a2).bind fun y2 => some y2
theorem impl_within.fn {k : Nat} {a0 : Int} {a1 : Int} {a2 : Int} {r : Bool} (H : impl_within.f k a0 a1 a2 = some r) : Fn Tryz.prog 56 [oI a0, oI a1, oI a2] [] (oB r) [] := by
 refine Fn.bd [6] Tryz.func56 ?_
 refine rn [0, 1, 2] 0 [] [] ?_
 refine jo H (fun y2 => ⟨15, [(6, oB y2)], [], 0, []⟩) (fun y2 H => ?_) fun v4 h3 H => ?_
 ·refine Tri.ret ?_
  obtain rfl := si H;exact eR
 rcases ite_some h3 with ⟨h1, h3⟩ | ⟨h1, h3⟩
 ·refine rl [6] 0 [] [hB 2 (decide_eq_true h1)] ?_
  exact pf (decide (a0 ≤ a2)) h3
 refine rl [6] 0 [] [hB 2 (decide_eq_false h1)] ?_
 exact pf false h3
/-! impl_isLetter: function 65 -/
def impl_isLetter.e1 (k : Nat) (a0 : Int) : Option Bool := if (97 : Int) ≤ a0 then (if a0 ≤ 122 then (some true) else (if (65 : Int) ≤ a0 then (if a0 ≤ 90 then (some true) else (some (decide (a0 = 95)))) else (some (decide (a0 = 95))))) else (if (65 : Int) ≤ a0 then (if a0 ≤ 90 then (some true) else (some (decide (a0 = 95)))) else (some (decide (a0 = 95))))
def impl_isLetter.f (k : Nat) (a0 : Int) : Option Bool := (impl_isLetter.e1 k a0).bind fun y7 => some y7
theorem impl_isLetter.fn {k : Nat} {a0 : Int} {r : Bool} (H : impl_isLetter.f k a0 = some r) : Fn Tryz.prog 65 [o1 (cK .u8 a0)] [] (oB r) [] := by
 refine Fn.bd [2] Tryz.func65 ?_
 refine rn [0] 0 [] [] ?_
 refine jo H (fun y7 => ⟨21, [(2, oB y7)], [], 0, []⟩) (fun y7 H => ?_) fun v9 h8 H => ?_
 ·refine Tri.ret ?_
  obtain rfl := si H;exact eR
 rcases ite_some h8 with ⟨h1, h8⟩ | ⟨h1, h8⟩
 ·rcases ite_some h8 with ⟨h2, h8⟩ | ⟨h2, h8⟩
  ·refine rl [2] 0 [] [hB 1 (decide_eq_true h1), hB 4 (decide_eq_true h2)] ?_
   exact pf true h8
  rcases ite_some h8 with ⟨h3, h8⟩ | ⟨h3, h8⟩
  ·rcases ite_some h8 with ⟨h4, h8⟩ | ⟨h4, h8⟩
   ·refine rl [2] 0 [] [hB 1 (decide_eq_true h1), hB 4 (decide_eq_false h2), hB 8 (decide_eq_true h3), hB 11 (decide_eq_true h4)] ?_
    exact pf true h8
   refine rl [2] 0 [] [hB 1 (decide_eq_true h1), hB 4 (decide_eq_false h2), hB 8 (decide_eq_true h3), hB 11 (decide_eq_false h4)] ?_
   exact pf (decide (a0 = 95)) h8
  refine rl [2] 0 [] [hB 1 (decide_eq_true h1), hB 4 (decide_eq_false h2), hB 8 (decide_eq_false h3)] ?_
  exact pf (decide (a0 = 95)) h8
 rcases ite_some h8 with ⟨h5, h8⟩ | ⟨h5, h8⟩
 ·rcases ite_some h8 with ⟨h6, h8⟩ | ⟨h6, h8⟩
  ·refine rl [2] 0 [] [hB 1 (decide_eq_false h1), hB 8 (decide_eq_true h5), hB 11 (decide_eq_true h6)] ?_
   exact pf true h8
  refine rl [2] 0 [] [hB 1 (decide_eq_false h1), hB 8 (decide_eq_true h5), hB 11 (decide_eq_false h6)] ?_
  exact pf (decide (a0 = 95)) h8
 refine rl [2] 0 [] [hB 1 (decide_eq_false h1), hB 8 (decide_eq_false h5)] ?_
 exact pf (decide (a0 = 95)) h8
/-! impl_isDigit: function 79 -/
def impl_isDigit.e1 (k : Nat) (a0 : Int) : Option Bool := if (48 : Int) ≤ a0 then (some (decide (a0 ≤ 57))) else (some false)
def impl_isDigit.f (k : Nat) (a0 : Int) : Option Bool := (impl_isDigit.e1 k a0).bind fun y2 => some y2
theorem impl_isDigit.fn {k : Nat} {a0 : Int} {r : Bool} (H : impl_isDigit.f k a0 = some r) : Fn Tryz.prog 79 [o1 (cK .u8 a0)] [] (oB r) [] := by
 refine Fn.bd [2] Tryz.func79 ?_
 refine rn [0] 0 [] [] ?_
 refine jo H (fun y2 => ⟨9, [(2, oB y2)], [], 0, []⟩) (fun y2 H => ?_) fun v4 h3 H => ?_
 ·refine Tri.ret ?_
  obtain rfl := si H;exact eR
 rcases ite_some h3 with ⟨h1, h3⟩ | ⟨h1, h3⟩
 ·refine rl [2] 0 [] [hB 1 (decide_eq_true h1)] ?_
  exact pf (decide (a0 ≤ 57)) h3
 refine rl [2] 0 [] [hB 1 (decide_eq_false h1)] ?_
 exact pf false h3
/-! impl_isWordByte: function 67 -/
def impl_isWordByte.e1 (k : Nat) (a0 : Int) : Option Bool := (impl_isLetter.f k a0).bind fun r1 => if r1 = true then (some true) else ((impl_isDigit.f k a0).bind fun r4 => some r4)
def impl_isWordByte.f (k : Nat) (a0 : Int) : Option Bool := (impl_isWordByte.e1 k a0).bind fun y6 => some y6
theorem impl_isWordByte.fn {k : Nat} {a0 : Int} {r : Bool} (H : impl_isWordByte.f k a0 = some r) : Fn Tryz.prog 67 [o1 (cK .u8 a0)] [] (oB r) [] := by
 refine Fn.bd [2] Tryz.func67 ?_
 refine rn [0] 0 [] [] ?_
 refine jo H (fun y6 => ⟨9, [(2, oB y6)], [], 0, []⟩) (fun y6 H => ?_) fun v8 h7 H => ?_
 ·refine Tri.ret ?_
  obtain rfl := si H;exact eR
 obtain ⟨r1, h2, h7⟩ := bs h7
 rcases iteb_some h7 with ⟨h3, h7⟩ | ⟨h3, h7⟩
 ·refine rl [2] 0 [] [hC 1 (impl_isLetter.fn h2), hB 1 h3] ?_
  exact pf true h7
 obtain ⟨r4, h5, h7⟩ := bs h7
 refine rl [2] 0 [] [hC 1 (impl_isLetter.fn h2), hB 1 h3, hC 4 (impl_isDigit.fn h5)] ?_
 exact pf r4 h7
/-! impl_areAll_byte__1_1: function 78 -/
def impl_areAll_byte__1_1.f (k : Nat) (a0 : Int) : Option Bool := (impl_isWordByte.f k a0).bind fun r1 => some (!r1)
theorem impl_areAll_byte__1_1.fn {k : Nat} {a0 : Int} {r : Bool} (H : impl_areAll_byte__1_1.f k a0 = some r) : Fn Tryz.prog 78 [o1 (cK .u8 a0), o1 (.cel ([.sc (.func (.func 67) #[] #[])]) 0)] [] (oB r) [] := by
 refine Fn.bd [3] Tryz.func78 ?_
 refine rn [0, 1] 0 [] [] ?_
 obtain ⟨r1, h2, H⟩ := bs H
 refine rn [3] 0 [] [hC 2 (impl_isWordByte.fn h2)] ?_
 refine Tri.ret ?_
 obtain rfl := si H;exact eR
/-! slices_IndexFunc___byte_byte_1: function 86 -/
def slices_IndexFunc___byte_byte_1.l1 : Nat → (List Int) → Int → Option (Int ⊕ Unit)
  | 0, _, _ => none
  | k + 1, a0, z7 => if z7 < (a0.length : Int) then ((at? a0 z7).bind fun x9 => (impl_areAll_byte__1_1.f k x9).bind fun r11 => if r11 = true then (some (.inl z7)) else (slices_IndexFunc___byte_byte_1.l1 k a0 (w64 (z7 + 1)))) else (some (.inr ()))
def slices_IndexFunc___byte_byte_1.e2 (k : Nat) (a0 : (List Int)) : Option (Int ⊕ Unit) := slices_IndexFunc___byte_byte_1.l1 k a0 0
def slices_IndexFunc___byte_byte_1.f (k : Nat) (a0 : (List Int)) : Option Int := (slices_IndexFunc___byte_byte_1.e2 k a0).bind fun v => match v with | .inl r => some r | .inr _ => some (-1)
theorem slices_IndexFunc___byte_byte_1.fn {k : Nat} {a0 : (List Int)} {r : Int} (H : slices_IndexFunc___byte_byte_1.f k a0 = some r) : Fn Tryz.prog 86 [o1 (.sl 1 (List.map (eK .u8) a0)), o1 (.fn 78 [.cel ([.sc (.func (.func 67) #[] #[])]) 0])] [] (oI r) [] := by
 refine Fn.bd [4] Tryz.func86 ?_
 refine rn [0, 1] 0 [] [] ?_
 refine jr H (fun _ => ⟨19, [], [], 0, []⟩) (fun _ H => ?_) fun v16 h15 H => ?_
 ·refine rn [4] 0 [] [] ?_
  refine Tri.ret ?_
  obtain rfl := si H;exact eR
 refine rn [0, 1, 7, 8] 0 [] [hL 1 (eK .u8) a0] ?_
 refine bl ?_
 refine lo Int k (fun k x => slices_IndexFunc___byte_byte_1.l1 k a0 x) (fun x => ⟨19, [(0, o1 (.sl 1 (List.map (eK .u8) a0))), (1, o1 (.fn 78 [.cel ([.sc (.func (.func 67) #[] #[])]) 0])), (7, oI (a0.length : Int)), (8, oI x)], [], 0, []⟩) 0 h15 fun k z7 h15 IH14 => ?_
 rw [slices_IndexFunc___byte_byte_1.l1.eq_2] at h15
 refine rn [0, 1, 7, 8, 9] 0 [] [] ?_
 refine sq ?_
 refine ci h15 (fun h8 h15 => ?_) fun h8 h15 => ?_
 ·refine sk ?_
  refine sq ?_
  refine bl ?_
  refine rn [0, 1, 5, 7, 8] 0 [] [] ?_
  obtain ⟨x9, h10, h15⟩ := bs h15
  obtain ⟨r11, h12, h15⟩ := bs h15
  refine rn [0, 1, 5, 7, 8, 16] 0 [] [hE 3 (eK .u8) h10, hC 5 (impl_areAll_byte__1_1.fn h12)] ?_
  refine cb h15 (fun h13 h15 => ?_) fun h13 h15 => ?_
  ·refine rn [4] 0 [] [] ?_
   refine Tri.ret ?_
   obtain rfl := si h15;obtain rfl := si H;exact eR
  refine sk ?_
  refine rl [0, 1, 7, 8] 0 [] [] ?_
  exact lb IH14 (w64 (z7 + 1)) h15
 refine fx [] 0 [] ?_
 refine xi ?_
 exact pe () h15
/-! slices_ContainsFunc___byte_byte_1: function 77 -/
def slices_ContainsFunc___byte_byte_1.f (k : Nat) (a0 : (List Int)) : Option Bool := (slices_IndexFunc___byte_byte_1.f k a0).bind fun r1 => some (decide ((0 : Int) ≤ r1))
theorem slices_ContainsFunc___byte_byte_1.fn {k : Nat} {a0 : (List Int)} {r : Bool} (H : slices_ContainsFunc___byte_byte_1.f k a0 = some r) : Fn Tryz.prog 77 [o1 (.sl 1 (List.map (eK .u8) a0)), o1 (.fn 78 [.cel ([.sc (.func (.func 67) #[] #[])]) 0])] [] (oB r) [] := by
 refine Fn.bd [4] Tryz.func77 ?_
 refine rn [0, 1] 0 [] [] ?_
 obtain ⟨r1, h2, H⟩ := bs H
 refine rn [4] 0 [] [hC 2 (slices_IndexFunc___byte_byte_1.fn h2)] ?_
 refine Tri.ret ?_
 obtain rfl := si H;exact eR
/-! impl_areAll_byte_1: function 66 -/
def impl_areAll_byte_1.f (k : Nat) (a0 : (List Int)) : Option Bool := (slices_ContainsFunc___byte_byte_1.f k a0).bind fun r1 => some (!r1)
theorem impl_areAll_byte_1.fn {k : Nat} {a0 : (List Int)} {r : Bool} (H : impl_areAll_byte_1.f k a0 = some r) : Fn Tryz.prog 66 [o1 (.sl 1 (List.map (eK .u8) a0)), o1 (.sc (.func (.func 67) #[] #[]))] [] (oB r) [] := by
 refine Fn.bd [4] Tryz.func66 ?_
 refine rn [0, 3] 1 [] [] ?_
 obtain ⟨r1, h2, H⟩ := bs H
 refine rn [4] 0 [] [hC 2 (slices_ContainsFunc___byte_byte_1.fn h2)] ?_
 refine Tri.ret ?_
 obtain rfl := si H;exact eR
/-! impl_NameOK: function 50 -/
def impl_NameOK.e1 (k : Nat) (a0 : ByteArray) : Option Bool := (impl_within.f k (a0.size : Int) 1 40).bind fun r1 => if r1 = true then (if (0 : Int) ≤ 0 then (if 0 < (a0.size : Int) then ((impl_isLetter.f k (byteAt a0 0)).bind fun r6 => if r6 = true then ((impl_areAll_byte_1.f k (bytesOf a0)).bind fun r9 => some r9) else (some false)) else none) else none) else (some false)
def impl_NameOK.f (k : Nat) (a0 : ByteArray) : Option Bool := (impl_NameOK.e1 k a0).bind fun y11 => some y11
theorem impl_NameOK.fn {k : Nat} {a0 : ByteArray} {r : Bool} (H : impl_NameOK.f k a0 = some r) : Fn Tryz.prog 50 [oS a0] [] (oB r) [] := by
 refine Fn.bd [2] Tryz.func50 ?_
 refine rn [0] 0 [] [] ?_
 refine jo H (fun y11 => ⟨16, [(2, oB y11)], [], 0, []⟩) (fun y11 H => ?_) fun v13 h12 H => ?_
 ·refine Tri.ret ?_
  obtain rfl := si H;exact eR
 obtain ⟨r1, h2, h12⟩ := bs h12
 rcases iteb_some h12 with ⟨h3, h12⟩ | ⟨h3, h12⟩
 ·obtain ⟨h4, h12⟩ := nd h12
  obtain ⟨h5, h12⟩ := nd h12
  obtain ⟨r6, h7, h12⟩ := bs h12
  rcases iteb_some h12 with ⟨h8, h12⟩ | ⟨h8, h12⟩
  ·obtain ⟨r9, h10, h12⟩ := bs h12
   refine rl [2] 0 [] [hC 2 (impl_within.fn h2), hB 2 h3, p2 h4 h5, hC 6 (impl_isLetter.fn h7), hB 6 h8, hC 11 (impl_areAll_byte_1.fn h10)] ?_
   exact pf r9 h12
  refine rl [2] 0 [] [hC 2 (impl_within.fn h2), hB 2 h3, p2 h4 h5, hC 6 (impl_isLetter.fn h7), hB 6 h8] ?_
  exact pf false h12
 refine rl [2] 0 [] [hC 2 (impl_within.fn h2), hB 2 h3] ?_
 exact pf false h12
/-! impl_keys: function 69 -/
def impl_keys.f (k : Nat) : Option (List ByteArray) := (strings_Fields.f k (⟨#[77, 79, 68, 85, 76, 69, 32, 73, 77, 80, 79, 82, 84, 32, 67, 79, 78, 83, 84, 32, 86, 65, 82, 32, 80, 82, 79, 67, 69, 68, 85, 82, 69, 32, 66, 69, 71, 73, 78, 32, 69, 78, 68, 32, 73, 70, 32, 84, 72, 69, 78, 32, 69, 76, 83, 73, 70, 32, 69, 76, 83, 69, 32, 87, 72, 73, 76, 69, 32, 68, 79, 32, 82, 69, 84, 85, 82, 78, 32, 79, 82, 32, 68, 73, 86, 32, 77, 79, 68, 32, 84, 82, 85, 69, 32, 70, 65, 76, 83, 69, 32, 65, 82, 82, 65, 89, 32, 79, 70, 32, 73, 78, 84, 69, 71, 69, 82, 32, 66, 79, 79, 76, 69, 65, 78, 32, 67, 72, 65, 82, 32, 87, 82, 73, 84, 69, 32, 82, 69, 65, 68, 32, 79, 82, 68, 32, 67, 72, 82, 32, 76, 69, 78]⟩ : ByteArray)).bind fun r1 => some r1
theorem impl_keys.fn {k : Nat} {r : (List ByteArray)} (H : impl_keys.f k  = some r) : Fn Tryz.prog 69 [] [] (o1 (.own 9 (List.map eS r))) [] := by
 refine Fn.bd [0] Tryz.func69 ?_
 refine rn [] 0 [] [] ?_
 obtain ⟨r1, h2, H⟩ := bs H
 refine rn [0] 0 [] [hC 0 (strings_Fields.fn k (⟨#[77, 79, 68, 85, 76, 69, 32, 73, 77, 80, 79, 82, 84, 32, 67, 79, 78, 83, 84, 32, 86, 65, 82, 32, 80, 82, 79, 67, 69, 68, 85, 82, 69, 32, 66, 69, 71, 73, 78, 32, 69, 78, 68, 32, 73, 70, 32, 84, 72, 69, 78, 32, 69, 76, 83, 73, 70, 32, 69, 76, 83, 69, 32, 87, 72, 73, 76, 69, 32, 68, 79, 32, 82, 69, 84, 85, 82, 78, 32, 79, 82, 32, 68, 73, 86, 32, 77, 79, 68, 32, 84, 82, 85, 69, 32, 70, 65, 76, 83, 69, 32, 65, 82, 82, 65, 89, 32, 79, 70, 32, 73, 78, 84, 69, 71, 69, 82, 32, 66, 79, 79, 76, 69, 65, 78, 32, 67, 72, 65, 82, 32, 87, 82, 73, 84, 69, 32, 82, 69, 65, 68, 32, 79, 82, 68, 32, 67, 72, 82, 32, 76, 69, 78]⟩ : ByteArray) r1 h2) (show (List.all [.own 9 (List.map eS r1)] PC.flatB) = true by simp [PC.flatB, PC.scalar, cI, cK, cB, cS, eS])] ?_
 refine Tri.ret ?_
 obtain rfl := si H;exact eR
/-! slices_Index___string_string: function 80 -/
def slices_Index___string_string.l1 : Nat → (List ByteArray) → ByteArray → Int → Option (Int ⊕ Unit)
  | 0, _, _, _ => none
  | k + 1, a0, a1, z5 => if z5 < (a0.length : Int) then ((at? a0 z5).bind fun x7 => if a1 = x7 then (some (.inl z5)) else (slices_Index___string_string.l1 k a0 a1 (w64 (z5 + 1)))) else (some (.inr ()))
def slices_Index___string_string.e2 (k : Nat) (a0 : (List ByteArray)) (a1 : ByteArray) : Option (Int ⊕ Unit) := slices_Index___string_string.l1 k a0 a1 0
def slices_Index___string_string.f (k : Nat) (a0 : (List ByteArray)) (a1 : ByteArray) : Option Int := (slices_Index___string_string.e2 k a0 a1).bind fun v => match v with | .inl r => some r | .inr _ => some (-1)
theorem slices_Index___string_string.fn {k : Nat} {a0 : (List ByteArray)} {a1 : ByteArray} {r : Int} (H : slices_Index___string_string.f k a0 a1 = some r) : Fn Tryz.prog 80 [o1 (.sl 1 (List.map eS a0)), oS a1] [] (oI r) [] := by
 refine Fn.bd [4] Tryz.func80 ?_
 refine rn [0, 1] 0 [] [] ?_
 refine jr H (fun _ => ⟨19, [], [], 0, []⟩) (fun _ H => ?_) fun v12 h11 H => ?_
 ·refine rn [4] 0 [] [] ?_
  refine Tri.ret ?_
  obtain rfl := si H;exact eR
 refine rn [0, 1, 7, 8] 0 [] [hL 1 eS a0] ?_
 refine bl ?_
 refine lo Int k (fun k x => slices_Index___string_string.l1 k a0 a1 x) (fun x => ⟨19, [(0, o1 (.sl 1 (List.map eS a0))), (1, oS a1), (7, oI (a0.length : Int)), (8, oI x)], [], 0, []⟩) 0 h11 fun k z5 h11 IH10 => ?_
 rw [slices_Index___string_string.l1.eq_2] at h11
 refine rn [0, 1, 7, 8, 9] 0 [] [] ?_
 refine sq ?_
 refine ci h11 (fun h6 h11 => ?_) fun h6 h11 => ?_
 ·refine sk ?_
  refine sq ?_
  refine bl ?_
  refine rn [0, 1, 5, 7, 8] 0 [] [] ?_
  obtain ⟨x7, h8, h11⟩ := bs h11
  refine rn [0, 1, 5, 7, 8, 16] 0 [] [hE 3 eS h8] ?_
  refine ci h11 (fun h9 h11 => ?_) fun h9 h11 => ?_
  ·refine rn [4] 0 [] [] ?_
   refine Tri.ret ?_
   obtain rfl := si h11;obtain rfl := si H;exact eR
  refine sk ?_
  refine rl [0, 1, 7, 8] 0 [] [] ?_
  exact lb IH10 (w64 (z5 + 1)) h11
 refine fx [] 0 [] ?_
 refine xi ?_
 exact pe () h11
/-! slices_Contains___string_string: function 68 -/
def slices_Contains___string_string.f (k : Nat) (a0 : (List ByteArray)) (a1 : ByteArray) : Option Bool := (slices_Index___string_string.f k a0 a1).bind fun r1 => some (decide ((0 : Int) ≤ r1))
theorem slices_Contains___string_string.fn {k : Nat} {a0 : (List ByteArray)} {a1 : ByteArray} {r : Bool} (H : slices_Contains___string_string.f k a0 a1 = some r) : Fn Tryz.prog 68 [o1 (.sl 1 (List.map eS a0)), oS a1] [] (oB r) [] := by
 refine Fn.bd [4] Tryz.func68 ?_
 refine rn [0, 1] 0 [] [] ?_
 obtain ⟨r1, h2, H⟩ := bs H
 refine rn [4] 0 [] [hC 2 (slices_Index___string_string.fn h2)] ?_
 refine Tri.ret ?_
 obtain rfl := si H;exact eR
/-! impl_IsKey: function 51 -/
def impl_IsKey.f (k : Nat) (a0 : ByteArray) : Option Bool := (impl_keys.f k).bind fun r1 => (slices_Contains___string_string.f k r1 a0).bind fun r3 => some r3
theorem impl_IsKey.fn {k : Nat} {a0 : ByteArray} {r : Bool} (H : impl_IsKey.f k a0 = some r) : Fn Tryz.prog 51 [oS a0] [] (oB r) [] := by
 refine Fn.bd [2] Tryz.func51 ?_
 refine rn [0] 0 [] [] ?_
 obtain ⟨r1, h2, H⟩ := bs H
 obtain ⟨r3, h4, H⟩ := bs H
 refine rn [2] 0 [] [hC 0 (impl_keys.fn h2) (show (List.all [.own 9 (List.map eS r1)] PC.flatB) = true by simp [PC.flatB, PC.scalar, cI, cK, cB, cS, eS]), hC 2 (slices_Contains___string_string.fn h4)] ?_
 refine Tri.ret ?_
 obtain rfl := si H;exact eR
/-! impl_isName: function 42 -/
def impl_isName.e1 (k : Nat) (a0 : ByteArray) : Option Bool := (impl_NameOK.f k a0).bind fun r1 => if r1 = true then ((impl_IsKey.f k a0).bind fun r4 => some (!r4)) else (some false)
def impl_isName.f (k : Nat) (a0 : ByteArray) : Option Bool := (impl_isName.e1 k a0).bind fun y6 => some y6
theorem impl_isName.fn {k : Nat} {a0 : ByteArray} {r : Bool} (H : impl_isName.f k a0 = some r) : Fn Tryz.prog 42 [oS a0] [] (oB r) [] := by
 refine Fn.bd [2] Tryz.func42 ?_
 refine rn [0] 0 [] [] ?_
 refine jo H (fun y6 => ⟨10, [(2, oB y6)], [], 0, []⟩) (fun y6 H => ?_) fun v8 h7 H => ?_
 ·refine Tri.ret ?_
  obtain rfl := si H;exact eR
 obtain ⟨r1, h2, h7⟩ := bs h7
 rcases iteb_some h7 with ⟨h3, h7⟩ | ⟨h3, h7⟩
 ·obtain ⟨r4, h5, h7⟩ := bs h7
  refine rl [2] 0 [] [hC 1 (impl_NameOK.fn h2), hB 1 h3, hC 4 (impl_IsKey.fn h5)] ?_
  exact pf (!r4) h7
 refine rl [2] 0 [] [hC 1 (impl_NameOK.fn h2), hB 1 h3] ?_
 exact pf false h7
/-! impl_isType: function 54 -/
def impl_isType.f (k : Nat) (a0 : Int) : Option Bool := (impl_within.f k a0 1 3).bind fun r1 => some r1
theorem impl_isType.fn {k : Nat} {a0 : Int} {r : Bool} (H : impl_isType.f k a0 = some r) : Fn Tryz.prog 54 [oI a0] [] (oB r) [] := by
 refine Fn.bd [2] Tryz.func54 ?_
 refine rn [0] 0 [] [] ?_
 obtain ⟨r1, h2, H⟩ := bs H
 refine rn [2] 0 [] [hC 1 (impl_within.fn h2)] ?_
 refine Tri.ret ?_
 obtain rfl := si H;exact eR
/-! impl_CharOK: function 71 -/
def impl_CharOK.e1 (k : Nat) (a0 : Int) : Option Bool := (impl_within.f k a0 0 1114111).bind fun r1 => if r1 = true then ((impl_within.f k a0 55296 57343).bind fun r4 => some (!r4)) else (some false)
def impl_CharOK.f (k : Nat) (a0 : Int) : Option Bool := (impl_CharOK.e1 k a0).bind fun y6 => some y6
theorem impl_CharOK.fn {k : Nat} {a0 : Int} {r : Bool} (H : impl_CharOK.f k a0 = some r) : Fn Tryz.prog 71 [oI a0] [] (oB r) [] := by
 refine Fn.bd [2] Tryz.func71 ?_
 refine rn [0] 0 [] [] ?_
 refine jo H (fun y6 => ⟨10, [(2, oB y6)], [], 0, []⟩) (fun y6 H => ?_) fun v8 h7 H => ?_
 ·refine Tri.ret ?_
  obtain rfl := si H;exact eR
 obtain ⟨r1, h2, h7⟩ := bs h7
 rcases iteb_some h7 with ⟨h3, h7⟩ | ⟨h3, h7⟩
 ·obtain ⟨r4, h5, h7⟩ := bs h7
  refine rl [2] 0 [] [hC 1 (impl_within.fn h2), hB 1 h3, hC 4 (impl_within.fn h5)] ?_
  exact pf (!r4) h7
 refine rl [2] 0 [] [hC 1 (impl_within.fn h2), hB 1 h3] ?_
 exact pf false h7
/-! impl_isValueOf: function 55 -/
def impl_isValueOf.e1 (k : Nat) (a0 : Int) (a1 : Int) : Option Bool := if a0 = 1 then (some true) else (if a0 = 2 then ((impl_within.f k a1 0 1).bind fun r3 => if r3 = true then (some true) else (if a0 = 3 then ((impl_CharOK.f k a1).bind fun r7 => some r7) else (some false))) else (if a0 = 3 then ((impl_CharOK.f k a1).bind fun r10 => some r10) else (some false)))
def impl_isValueOf.f (k : Nat) (a0 : Int) (a1 : Int) : Option Bool := (impl_isValueOf.e1 k a0 a1).bind fun y12 => some y12
theorem impl_isValueOf.fn {k : Nat} {a0 : Int} {a1 : Int} {r : Bool} (H : impl_isValueOf.f k a0 a1 = some r) : Fn Tryz.prog 55 [oI a0, oI a1] [] (oB r) [] := by
 refine Fn.bd [4] Tryz.func55 ?_
 refine rn [0, 1] 0 [] [] ?_
 refine jo H (fun y12 => ⟨23, [(4, oB y12)], [], 0, []⟩) (fun y12 H => ?_) fun v14 h13 H => ?_
 ·refine Tri.ret ?_
  obtain rfl := si H;exact eR
 rcases ite_some h13 with ⟨h1, h13⟩ | ⟨h1, h13⟩
 ·refine rl [4] 0 [] [hB 1 (decide_eq_true h1)] ?_
  exact pf true h13
 rcases ite_some h13 with ⟨h2, h13⟩ | ⟨h2, h13⟩
 ·obtain ⟨r3, h4, h13⟩ := bs h13
  rcases iteb_some h13 with ⟨h5, h13⟩ | ⟨h5, h13⟩
  ·refine rl [4] 0 [] [hB 1 (decide_eq_false h1), hB 4 (decide_eq_true h2), hC 7 (impl_within.fn h4), hB 7 h5] ?_
   exact pf true h13
  rcases ite_some h13 with ⟨h6, h13⟩ | ⟨h6, h13⟩
  ·obtain ⟨r7, h8, h13⟩ := bs h13
   refine rl [4] 0 [] [hB 1 (decide_eq_false h1), hB 4 (decide_eq_true h2), hC 7 (impl_within.fn h4), hB 7 h5, hB 12 (decide_eq_true h6), hC 15 (impl_CharOK.fn h8)] ?_
   exact pf r7 h13
  refine rl [4] 0 [] [hB 1 (decide_eq_false h1), hB 4 (decide_eq_true h2), hC 7 (impl_within.fn h4), hB 7 h5, hB 12 (decide_eq_false h6)] ?_
  exact pf false h13
 rcases ite_some h13 with ⟨h9, h13⟩ | ⟨h9, h13⟩
 ·obtain ⟨r10, h11, h13⟩ := bs h13
  refine rl [4] 0 [] [hB 1 (decide_eq_false h1), hB 4 (decide_eq_false h2), hB 12 (decide_eq_true h9), hC 15 (impl_CharOK.fn h11)] ?_
  exact pf r10 h13
 refine rl [4] 0 [] [hB 1 (decide_eq_false h1), hB 4 (decide_eq_false h2), hB 12 (decide_eq_false h9)] ?_
 exact pf false h13
/-! impl_isItem_1: function 58 -/
def impl_isItem_1.f (k : Nat) (a0 : SParam) : Option Bool := (impl_isType.f k a0.f0).bind fun r1 => some r1
theorem impl_isItem_1.fn {k : Nat} {a0 : SParam} {r : Bool} (H : impl_isItem_1.f k a0 = some r) : Fn Tryz.prog 58 [ag (eSParam a0)] [] (oB r) [] := by
 refine Fn.bd [2] Tryz.func58 ?_
 refine rn [1] 1 [] [] ?_
 obtain ⟨r1, h2, H⟩ := bs H
 refine rn [2] 0 [] [hC 2 (impl_isType.fn h2)] ?_
 refine Tri.ret ?_
 obtain rfl := si H;exact eR
/-! impl_areAll_impl_Param__1_1: function 73 -/
def impl_areAll_impl_Param__1_1.f (k : Nat) (a0 : SParam) : Option Bool := (impl_isItem_1.f k a0).bind fun r1 => some (!r1)
theorem impl_areAll_impl_Param__1_1.fn {k : Nat} {a0 : SParam} {r : Bool} (H : impl_areAll_impl_Param__1_1.f k a0 = some r) : Fn Tryz.prog 73 [ag (eSParam a0), o1 (.cel ([.sc (.func (.func 58) #[] #[])]) 0)] [] (oB r) [] := by
 refine Fn.bd [3] Tryz.func73 ?_
 refine rn [1, 2] 1 [] [] ?_
 obtain ⟨r1, h2, H⟩ := bs H
 refine rn [3] 0 [] [hC 2 (impl_isItem_1.fn h2)] ?_
 refine Tri.ret ?_
 obtain rfl := si H;exact eR
/-! slices_IndexFunc___impl_Param_impl_Param_1: function 82 -/
def slices_IndexFunc___impl_Param_impl_Param_1.l1 : Nat → (List SParam) → Int → Option (Int ⊕ Unit)
  | 0, _, _ => none
  | k + 1, a0, z7 => if z7 < (a0.length : Int) then ((at? a0 z7).bind fun x9 => (impl_areAll_impl_Param__1_1.f k x9).bind fun r11 => if r11 = true then (some (.inl z7)) else (slices_IndexFunc___impl_Param_impl_Param_1.l1 k a0 (w64 (z7 + 1)))) else (some (.inr ()))
def slices_IndexFunc___impl_Param_impl_Param_1.e2 (k : Nat) (a0 : (List SParam)) : Option (Int ⊕ Unit) := slices_IndexFunc___impl_Param_impl_Param_1.l1 k a0 0
def slices_IndexFunc___impl_Param_impl_Param_1.f (k : Nat) (a0 : (List SParam)) : Option Int := (slices_IndexFunc___impl_Param_impl_Param_1.e2 k a0).bind fun v => match v with | .inl r => some r | .inr _ => some (-1)
theorem slices_IndexFunc___impl_Param_impl_Param_1.fn {k : Nat} {a0 : (List SParam)} {r : Int} (H : slices_IndexFunc___impl_Param_impl_Param_1.f k a0 = some r) : Fn Tryz.prog 82 [o1 (.sl 2 (List.map eSParam a0)), o1 (.fn 73 [.cel ([.sc (.func (.func 58) #[] #[])]) 0])] [] (oI r) [] := by
 refine Fn.bd [4] Tryz.func82 ?_
 refine rn [0, 1] 0 [] [] ?_
 refine jr H (fun _ => ⟨19, [], [], 0, []⟩) (fun _ H => ?_) fun v16 h15 H => ?_
 ·refine rn [4] 0 [] [] ?_
  refine Tri.ret ?_
  obtain rfl := si H;exact eR
 refine rn [0, 1, 7, 8] 0 [] [hL 1 eSParam a0] ?_
 refine bl ?_
 refine lo Int k (fun k x => slices_IndexFunc___impl_Param_impl_Param_1.l1 k a0 x) (fun x => ⟨19, [(0, o1 (.sl 2 (List.map eSParam a0))), (1, o1 (.fn 73 [.cel ([.sc (.func (.func 58) #[] #[])]) 0])), (7, oI (a0.length : Int)), (8, oI x)], [], 0, []⟩) 0 h15 fun k z7 h15 IH14 => ?_
 rw [slices_IndexFunc___impl_Param_impl_Param_1.l1.eq_2] at h15
 refine rn [0, 1, 7, 8, 9] 0 [] [] ?_
 refine sq ?_
 refine ci h15 (fun h8 h15 => ?_) fun h8 h15 => ?_
 ·refine sk ?_
  refine sq ?_
  refine bl ?_
  refine rn [0, 1, 5, 7, 8] 0 [] [] ?_
  obtain ⟨x9, h10, h15⟩ := bs h15
  obtain ⟨r11, h12, h15⟩ := bs h15
  refine rn [0, 1, 5, 7, 8, 16] 0 [] [hE 3 eSParam h10, hC 5 (impl_areAll_impl_Param__1_1.fn h12)] ?_
  refine cb h15 (fun h13 h15 => ?_) fun h13 h15 => ?_
  ·refine rn [4] 0 [] [] ?_
   refine Tri.ret ?_
   obtain rfl := si h15;obtain rfl := si H;exact eR
  refine sk ?_
  refine rl [0, 1, 7, 8] 0 [] [] ?_
  exact lb IH14 (w64 (z7 + 1)) h15
 refine fx [] 0 [] ?_
 refine xi ?_
 exact pe () h15
/-! slices_ContainsFunc___impl_Param_impl_Param_1: function 72 -/
def slices_ContainsFunc___impl_Param_impl_Param_1.f (k : Nat) (a0 : (List SParam)) : Option Bool := (slices_IndexFunc___impl_Param_impl_Param_1.f k a0).bind fun r1 => some (decide ((0 : Int) ≤ r1))
theorem slices_ContainsFunc___impl_Param_impl_Param_1.fn {k : Nat} {a0 : (List SParam)} {r : Bool} (H : slices_ContainsFunc___impl_Param_impl_Param_1.f k a0 = some r) : Fn Tryz.prog 72 [o1 (.sl 2 (List.map eSParam a0)), o1 (.fn 73 [.cel ([.sc (.func (.func 58) #[] #[])]) 0])] [] (oB r) [] := by
 refine Fn.bd [4] Tryz.func72 ?_
 refine rn [0, 1] 0 [] [] ?_
 obtain ⟨r1, h2, H⟩ := bs H
 refine rn [4] 0 [] [hC 2 (slices_IndexFunc___impl_Param_impl_Param_1.fn h2)] ?_
 refine Tri.ret ?_
 obtain rfl := si H;exact eR
/-! impl_areAll_impl_Param_1: function 57 -/
def impl_areAll_impl_Param_1.f (k : Nat) (a0 : (List SParam)) : Option Bool := (slices_ContainsFunc___impl_Param_impl_Param_1.f k a0).bind fun r1 => some (!r1)
theorem impl_areAll_impl_Param_1.fn {k : Nat} {a0 : (List SParam)} {r : Bool} (H : impl_areAll_impl_Param_1.f k a0 = some r) : Fn Tryz.prog 57 [o1 (.sl 2 (List.map eSParam a0)), o1 (.sc (.func (.func 58) #[] #[]))] [] (oB r) [] := by
 refine Fn.bd [4] Tryz.func57 ?_
 refine rn [0, 3] 1 [] [] ?_
 obtain ⟨r1, h2, H⟩ := bs H
 refine rn [4] 0 [] [hC 2 (slices_ContainsFunc___impl_Param_impl_Param_1.fn h2)] ?_
 refine Tri.ret ?_
 obtain rfl := si H;exact eR
/-! impl_isItem: function 44 -/
def impl_isItem.e1 (k : Nat) (a0 : SItem) : Option Bool := (impl_isName.f k a0.f4).bind fun r1 => if r1 = true then (if a0.f0 = 1 then (if a0.f0 = 2 then (if a0.f0 = 3 then (some false) else (some (decide ((0 : Int) < (a0.f5.length : Int))))) else (if a0.f2 = 0 then (if a0.f0 = 3 then (some false) else (some (decide ((0 : Int) < (a0.f5.length : Int))))) else (some true))) else (if a0.f3 = 0 then (if a0.f0 = 2 then (if a0.f0 = 3 then (some false) else (some (decide ((0 : Int) < (a0.f5.length : Int))))) else (if a0.f2 = 0 then (if a0.f0 = 3 then (some false) else (some (decide ((0 : Int) < (a0.f5.length : Int))))) else (some true))) else (some true))) else (some true)
def impl_isItem.e2 (k : Nat) (a0 : SItem) : Option Bool := (impl_isType.f k a0.f1).bind fun r19 => if r19 = true then ((impl_isValueOf.f k a0.f1 a0.f3).bind fun r22 => some r22) else (some false)
def impl_isItem.e3 (k : Nat) (a0 : SItem) : Option Bool := (impl_isType.f k a0.f1).bind fun r28 => if r28 = true then ((impl_within.f k a0.f2 0 100).bind fun r31 => some r31) else (some false)
def impl_isItem.e4 (k : Nat) (a0 : SItem) : Option Bool := (impl_within.f k a0.f1 0 3).bind fun r37 => if r37 = true then (if (a0.f5.length : Int) ≤ 20 then ((impl_areAll_impl_Param_1.f k a0.f5).bind fun r41 => some r41) else (some false)) else (some false)
def impl_isItem.f (k : Nat) (a0 : SItem) : Option Bool := (impl_isItem.e1 k a0).bind fun y14 => if y14 = true then (some false) else (if a0.f0 = 1 then ((impl_isItem.e2 k a0).bind fun y24 => some y24) else (if a0.f0 = 2 then ((impl_isItem.e3 k a0).bind fun y33 => some y33) else (if a0.f0 = 3 then ((impl_isItem.e4 k a0).bind fun y43 => some y43) else (some false))))
theorem impl_isItem.fn {k : Nat} {a0 : SItem} {r : Bool} (H : impl_isItem.f k a0 = some r) : Fn Tryz.prog 44 [ag (eSItem a0)] [] (oB r) [] := by
 refine Fn.bd [2] Tryz.func44 ?_
 refine rn [1] 1 [] [] ?_
 refine sq ?_
 refine jo H (fun y14 => ⟨78, [(1, o1 (.ref 0 0)), (37, oB y14)], [eSItem a0], 0, []⟩) (fun y14 H => ?_) fun v16 h15 H => ?_
 ·refine cb H (fun h17 H => ?_) fun h17 H => ?_
  ·refine rn [2] 0 [] [] ?_
   refine Tri.ret ?_
   obtain rfl := si H;exact eR
  refine sk ?_
  refine sq ?_
  refine rn [1, 39] 1 [] [] ?_
  refine bl ?_
  refine rn [1, 39, 40] 1 [] [] ?_
  refine ci H (fun h18 H => ?_) fun h18 H => ?_
  ·refine jo H (fun y24 => ⟨78, [(2, oB y24)], [], 0, []⟩) (fun y24 H => ?_) fun v26 h25 H => ?_
   ·refine Tri.ret ?_
    obtain rfl := si H;exact eR
   obtain ⟨r19, h20, h25⟩ := bs h25
   rcases iteb_some h25 with ⟨h21, h25⟩ | ⟨h21, h25⟩
   ·obtain ⟨r22, h23, h25⟩ := bs h25
    refine rl [2] 0 [] [hC 2 (impl_isType.fn h20), hB 2 h21, hC 8 (impl_isValueOf.fn h23)] ?_
    exact pf r22 h25
   refine rl [2] 0 [] [hC 2 (impl_isType.fn h20), hB 2 h21] ?_
   exact pf false h25
  refine rn [1, 39, 52] 1 [] [] ?_
  refine ci H (fun h27 H => ?_) fun h27 H => ?_
  ·refine jo H (fun y33 => ⟨78, [(2, oB y33)], [], 0, []⟩) (fun y33 H => ?_) fun v35 h34 H => ?_
   ·refine Tri.ret ?_
    obtain rfl := si H;exact eR
   obtain ⟨r28, h29, h34⟩ := bs h34
   rcases iteb_some h34 with ⟨h30, h34⟩ | ⟨h30, h34⟩
   ·obtain ⟨r31, h32, h34⟩ := bs h34
    refine rl [2] 0 [] [hC 2 (impl_isType.fn h29), hB 2 h30, hC 6 (impl_within.fn h32)] ?_
    exact pf r31 h34
   refine rl [2] 0 [] [hC 2 (impl_isType.fn h29), hB 2 h30] ?_
   exact pf false h34
  refine rn [1, 62] 1 [] [] ?_
  refine ci H (fun h36 H => ?_) fun h36 H => ?_
  ·refine jo H (fun y43 => ⟨78, [(2, oB y43)], [], 0, []⟩) (fun y43 H => ?_) fun v45 h44 H => ?_
   ·refine Tri.ret ?_
    obtain rfl := si H;exact eR
   obtain ⟨r37, h38, h44⟩ := bs h44
   rcases iteb_some h44 with ⟨h39, h44⟩ | ⟨h39, h44⟩
   ·rcases ite_some h44 with ⟨h40, h44⟩ | ⟨h40, h44⟩
    ·obtain ⟨r41, h42, h44⟩ := bs h44
     refine rl [2] 0 [] [hC 2 (impl_within.fn h38), hB 2 h39, hL 6 eSParam a0.f5, hB 7 (decide_eq_true h40), hC 12 (impl_areAll_impl_Param_1.fn h42)] ?_
     exact pf r41 h44
    refine rl [2] 0 [] [hC 2 (impl_within.fn h38), hB 2 h39, hL 6 eSParam a0.f5, hB 7 (decide_eq_false h40)] ?_
    exact pf false h44
   refine rl [2] 0 [] [hC 2 (impl_within.fn h38), hB 2 h39] ?_
   exact pf false h44
  refine sk ?_
  refine rn [2] 0 [] [] ?_
  refine Tri.ret ?_
  obtain rfl := si H;exact eR
 obtain ⟨r1, h2, h15⟩ := bs h15
 rcases iteb_some h15 with ⟨h3, h15⟩ | ⟨h3, h15⟩
 ·rcases ite_some h15 with ⟨h4, h15⟩ | ⟨h4, h15⟩
  ·rcases ite_some h15 with ⟨h5, h15⟩ | ⟨h5, h15⟩
   ·rcases ite_some h15 with ⟨h6, h15⟩ | ⟨h6, h15⟩
    ·refine rl [1, 37] 1 [] [hC 2 (impl_isName.fn h2), hB 2 h3, hB 7 (nF (decide_eq_true h4)), hB 17 (nF (decide_eq_true h5)), hB 27 (nF (decide_eq_true h6))] ?_
     exact pf false h15
    refine rl [1, 37] 1 [] [hC 2 (impl_isName.fn h2), hB 2 h3, hB 7 (nF (decide_eq_true h4)), hB 17 (nF (decide_eq_true h5)), hB 27 (nT (decide_eq_false h6)), hL 31 eSParam a0.f5] ?_
    exact pf (decide ((0 : Int) < (a0.f5.length : Int))) h15
   rcases ite_some h15 with ⟨h7, h15⟩ | ⟨h7, h15⟩
   ·rcases ite_some h15 with ⟨h8, h15⟩ | ⟨h8, h15⟩
    ·refine rl [1, 37] 1 [] [hC 2 (impl_isName.fn h2), hB 2 h3, hB 7 (nF (decide_eq_true h4)), hB 17 (nT (decide_eq_false h5)), hB 21 (nF (decide_eq_true h7)), hB 27 (nF (decide_eq_true h8))] ?_
     exact pf false h15
    refine rl [1, 37] 1 [] [hC 2 (impl_isName.fn h2), hB 2 h3, hB 7 (nF (decide_eq_true h4)), hB 17 (nT (decide_eq_false h5)), hB 21 (nF (decide_eq_true h7)), hB 27 (nT (decide_eq_false h8)), hL 31 eSParam a0.f5] ?_
    exact pf (decide ((0 : Int) < (a0.f5.length : Int))) h15
   refine rl [1, 37] 1 [] [hC 2 (impl_isName.fn h2), hB 2 h3, hB 7 (nF (decide_eq_true h4)), hB 17 (nT (decide_eq_false h5)), hB 21 (nT (decide_eq_false h7))] ?_
   exact pf true h15
  rcases ite_some h15 with ⟨h9, h15⟩ | ⟨h9, h15⟩
  ·rcases ite_some h15 with ⟨h10, h15⟩ | ⟨h10, h15⟩
   ·rcases ite_some h15 with ⟨h11, h15⟩ | ⟨h11, h15⟩
    ·refine rl [1, 37] 1 [] [hC 2 (impl_isName.fn h2), hB 2 h3, hB 7 (nT (decide_eq_false h4)), hB 11 (nF (decide_eq_true h9)), hB 17 (nF (decide_eq_true h10)), hB 27 (nF (decide_eq_true h11))] ?_
     exact pf false h15
    refine rl [1, 37] 1 [] [hC 2 (impl_isName.fn h2), hB 2 h3, hB 7 (nT (decide_eq_false h4)), hB 11 (nF (decide_eq_true h9)), hB 17 (nF (decide_eq_true h10)), hB 27 (nT (decide_eq_false h11)), hL 31 eSParam a0.f5] ?_
    exact pf (decide ((0 : Int) < (a0.f5.length : Int))) h15
   rcases ite_some h15 with ⟨h12, h15⟩ | ⟨h12, h15⟩
   ·rcases ite_some h15 with ⟨h13, h15⟩ | ⟨h13, h15⟩
    ·refine rl [1, 37] 1 [] [hC 2 (impl_isName.fn h2), hB 2 h3, hB 7 (nT (decide_eq_false h4)), hB 11 (nF (decide_eq_true h9)), hB 17 (nT (decide_eq_false h10)), hB 21 (nF (decide_eq_true h12)), hB 27 (nF (decide_eq_true h13))] ?_
     exact pf false h15
    refine rl [1, 37] 1 [] [hC 2 (impl_isName.fn h2), hB 2 h3, hB 7 (nT (decide_eq_false h4)), hB 11 (nF (decide_eq_true h9)), hB 17 (nT (decide_eq_false h10)), hB 21 (nF (decide_eq_true h12)), hB 27 (nT (decide_eq_false h13)), hL 31 eSParam a0.f5] ?_
    exact pf (decide ((0 : Int) < (a0.f5.length : Int))) h15
   refine rl [1, 37] 1 [] [hC 2 (impl_isName.fn h2), hB 2 h3, hB 7 (nT (decide_eq_false h4)), hB 11 (nF (decide_eq_true h9)), hB 17 (nT (decide_eq_false h10)), hB 21 (nT (decide_eq_false h12))] ?_
   exact pf true h15
  refine rl [1, 37] 1 [] [hC 2 (impl_isName.fn h2), hB 2 h3, hB 7 (nT (decide_eq_false h4)), hB 11 (nT (decide_eq_false h9))] ?_
  exact pf true h15
 refine rl [1, 37] 1 [] [hC 2 (impl_isName.fn h2), hB 2 h3] ?_
 exact pf true h15
/-! impl_areAll_impl_Item__1_1: function 53 -/
def impl_areAll_impl_Item__1_1.f (k : Nat) (a0 : SItem) : Option Bool := (impl_isItem.f k a0).bind fun r1 => some (!r1)
theorem impl_areAll_impl_Item__1_1.fn {k : Nat} {a0 : SItem} {r : Bool} (H : impl_areAll_impl_Item__1_1.f k a0 = some r) : Fn Tryz.prog 53 [ag (eSItem a0), o1 (.cel ([.sc (.func (.func 44) #[] #[])]) 0)] [] (oB r) [] := by
 refine Fn.bd [3] Tryz.func53 ?_
 refine rn [1, 2] 1 [] [] ?_
 obtain ⟨r1, h2, H⟩ := bs H
 refine rn [3] 0 [] [hC 2 (impl_isItem.fn h2)] ?_
 refine Tri.ret ?_
 obtain rfl := si H;exact eR
/-! slices_IndexFunc___impl_Item_impl_Item_1: function 70 -/
def slices_IndexFunc___impl_Item_impl_Item_1.l1 : Nat → (List SItem) → Int → Option (Int ⊕ Unit)
  | 0, _, _ => none
  | k + 1, a0, z7 => if z7 < (a0.length : Int) then ((at? a0 z7).bind fun x9 => (impl_areAll_impl_Item__1_1.f k x9).bind fun r11 => if r11 = true then (some (.inl z7)) else (slices_IndexFunc___impl_Item_impl_Item_1.l1 k a0 (w64 (z7 + 1)))) else (some (.inr ()))
def slices_IndexFunc___impl_Item_impl_Item_1.e2 (k : Nat) (a0 : (List SItem)) : Option (Int ⊕ Unit) := slices_IndexFunc___impl_Item_impl_Item_1.l1 k a0 0
def slices_IndexFunc___impl_Item_impl_Item_1.f (k : Nat) (a0 : (List SItem)) : Option Int := (slices_IndexFunc___impl_Item_impl_Item_1.e2 k a0).bind fun v => match v with | .inl r => some r | .inr _ => some (-1)
theorem slices_IndexFunc___impl_Item_impl_Item_1.fn {k : Nat} {a0 : (List SItem)} {r : Int} (H : slices_IndexFunc___impl_Item_impl_Item_1.f k a0 = some r) : Fn Tryz.prog 70 [o1 (.sl 6 (List.map eSItem a0)), o1 (.fn 53 [.cel ([.sc (.func (.func 44) #[] #[])]) 0])] [] (oI r) [] := by
 refine Fn.bd [4] Tryz.func70 ?_
 refine rn [0, 1] 0 [] [] ?_
 refine jr H (fun _ => ⟨19, [], [], 0, []⟩) (fun _ H => ?_) fun v16 h15 H => ?_
 ·refine rn [4] 0 [] [] ?_
  refine Tri.ret ?_
  obtain rfl := si H;exact eR
 refine rn [0, 1, 7, 8] 0 [] [hL 1 eSItem a0] ?_
 refine bl ?_
 refine lo Int k (fun k x => slices_IndexFunc___impl_Item_impl_Item_1.l1 k a0 x) (fun x => ⟨19, [(0, o1 (.sl 6 (List.map eSItem a0))), (1, o1 (.fn 53 [.cel ([.sc (.func (.func 44) #[] #[])]) 0])), (7, oI (a0.length : Int)), (8, oI x)], [], 0, []⟩) 0 h15 fun k z7 h15 IH14 => ?_
 rw [slices_IndexFunc___impl_Item_impl_Item_1.l1.eq_2] at h15
 refine rn [0, 1, 7, 8, 9] 0 [] [] ?_
 refine sq ?_
 refine ci h15 (fun h8 h15 => ?_) fun h8 h15 => ?_
 ·refine sk ?_
  refine sq ?_
  refine bl ?_
  refine rn [0, 1, 5, 7, 8] 0 [] [] ?_
  obtain ⟨x9, h10, h15⟩ := bs h15
  obtain ⟨r11, h12, h15⟩ := bs h15
  refine rn [0, 1, 5, 7, 8, 16] 0 [] [hE 3 eSItem h10, hC 5 (impl_areAll_impl_Item__1_1.fn h12)] ?_
  refine cb h15 (fun h13 h15 => ?_) fun h13 h15 => ?_
  ·refine rn [4] 0 [] [] ?_
   refine Tri.ret ?_
   obtain rfl := si h15;obtain rfl := si H;exact eR
  refine sk ?_
  refine rl [0, 1, 7, 8] 0 [] [] ?_
  exact lb IH14 (w64 (z7 + 1)) h15
 refine fx [] 0 [] ?_
 refine xi ?_
 exact pe () h15
/-! slices_ContainsFunc___impl_Item_impl_Item_1: function 52 -/
def slices_ContainsFunc___impl_Item_impl_Item_1.f (k : Nat) (a0 : (List SItem)) : Option Bool := (slices_IndexFunc___impl_Item_impl_Item_1.f k a0).bind fun r1 => some (decide ((0 : Int) ≤ r1))
theorem slices_ContainsFunc___impl_Item_impl_Item_1.fn {k : Nat} {a0 : (List SItem)} {r : Bool} (H : slices_ContainsFunc___impl_Item_impl_Item_1.f k a0 = some r) : Fn Tryz.prog 52 [o1 (.sl 6 (List.map eSItem a0)), o1 (.fn 53 [.cel ([.sc (.func (.func 44) #[] #[])]) 0])] [] (oB r) [] := by
 refine Fn.bd [4] Tryz.func52 ?_
 refine rn [0, 1] 0 [] [] ?_
 obtain ⟨r1, h2, H⟩ := bs H
 refine rn [4] 0 [] [hC 2 (slices_IndexFunc___impl_Item_impl_Item_1.fn h2)] ?_
 refine Tri.ret ?_
 obtain rfl := si H;exact eR
/-! impl_areAll_impl_Item_1: function 43 -/
def impl_areAll_impl_Item_1.f (k : Nat) (a0 : (List SItem)) : Option Bool := (slices_ContainsFunc___impl_Item_impl_Item_1.f k a0).bind fun r1 => some (!r1)
theorem impl_areAll_impl_Item_1.fn {k : Nat} {a0 : (List SItem)} {r : Bool} (H : impl_areAll_impl_Item_1.f k a0 = some r) : Fn Tryz.prog 43 [o1 (.sl 6 (List.map eSItem a0)), o1 (.sc (.func (.func 44) #[] #[]))] [] (oB r) [] := by
 refine Fn.bd [4] Tryz.func43 ?_
 refine rn [0, 3] 1 [] [] ?_
 obtain ⟨r1, h2, H⟩ := bs H
 refine rn [4] 0 [] [hC 2 (slices_ContainsFunc___impl_Item_impl_Item_1.fn h2)] ?_
 refine Tri.ret ?_
 obtain rfl := si H;exact eR
/-! impl_InterfaceOK: function 32 -/
def impl_InterfaceOK.l1 : Nat → SFace → (List ByteArray) → Int → Option (List ByteArray)
  | 0, _, _, _ => none
  | k + 1, a0, z9, z10 => if z10 < (a0.f1.length : Int) then ((at? a0.f1 z10).bind fun x12 => if (z9 ++ ([x12.f4] : List ByteArray)).length * 16 ≤ 140737488355328 then (impl_InterfaceOK.l1 k a0 (z9 ++ ([x12.f4] : List ByteArray)) (w64 (z10 + 1))) else none) else (some z9)
def impl_InterfaceOK.e2 (k : Nat) (a0 : SFace) : Option (List ByteArray) := impl_InterfaceOK.l1 k a0 ([] : List ByteArray) 0
def impl_InterfaceOK.e3 (k : Nat) (a0 : SFace) (y16 : (List ByteArray)) : Option Bool := (impl_isName.f k a0.f0).bind fun r19 => if r19 = true then (if (a0.f1.length : Int) ≤ 60 then ((impl_areAll_impl_Item_1.f k a0.f1).bind fun r23 => if r23 = true then ((impl_areDifferent.f k y16).bind fun r26 => some r26) else (some false)) else (some false)) else (some false)
def impl_InterfaceOK.f (k : Nat) (a0 : SFace) : Option Bool := (impl_InterfaceOK.e2 k a0).bind fun y16 => (impl_InterfaceOK.e3 k a0 y16).bind fun y28 => some y28
theorem impl_InterfaceOK.fn {k : Nat} {a0 : SFace} {r : Bool} (H : impl_InterfaceOK.f k a0 = some r) : Fn Tryz.prog 32 [ag (eSFace a0)] [] (oB r) [] := by
 refine Fn.bd [2] Tryz.func32 ?_
 refine rn [1] 1 [] [] ?_
 refine rn [1, 3] 1 [] [] ?_
 refine jo H (fun y16 => ⟨37, [(1, o1 (.ref 0 0)), (3, o1 (.own 9 (List.map eS y16)))], [eSFace a0], 0, []⟩) (fun y16 H => ?_) fun v18 h17 H => ?_
 ·refine jo H (fun y28 => ⟨37, [(2, oB y28)], [], 0, []⟩) (fun y28 H => ?_) fun v30 h29 H => ?_
  ·refine Tri.ret ?_
   obtain rfl := si H;exact eR
  obtain ⟨r19, h20, h29⟩ := bs h29
  rcases iteb_some h29 with ⟨h21, h29⟩ | ⟨h21, h29⟩
  ·rcases ite_some h29 with ⟨h22, h29⟩ | ⟨h22, h29⟩
   ·obtain ⟨r23, h24, h29⟩ := bs h29
    rcases iteb_some h29 with ⟨h25, h29⟩ | ⟨h25, h29⟩
    ·obtain ⟨r26, h27, h29⟩ := bs h29
     refine rl [2] 0 [] [hC 2 (impl_isName.fn h20), hB 2 h21, hL 6 eSItem a0.f1, hB 7 (decide_eq_true h22), hC 12 (impl_areAll_impl_Item_1.fn h24), hB 12 h25, hC 16 (impl_areDifferent.fn k y16 r26 h27)] ?_
     exact pf r26 h29
    refine rl [2] 0 [] [hC 2 (impl_isName.fn h20), hB 2 h21, hL 6 eSItem a0.f1, hB 7 (decide_eq_true h22), hC 12 (impl_areAll_impl_Item_1.fn h24), hB 12 h25] ?_
    exact pf false h29
   refine rl [2] 0 [] [hC 2 (impl_isName.fn h20), hB 2 h21, hL 6 eSItem a0.f1, hB 7 (decide_eq_false h22)] ?_
   exact pf false h29
  refine rl [2] 0 [] [hC 2 (impl_isName.fn h20), hB 2 h21] ?_
  exact pf false h29
 refine rn [1, 3, 7, 8, 9] 1 [] [hL 2 eSItem a0.f1] ?_
 refine bl ?_
 refine fx [1, 3, 7, 8, 9] 1 [.own (.t 3 0) 9] ?_
 refine lo ((List ByteArray) × Int) k (fun k x => impl_InterfaceOK.l1 k a0 x.1 x.2) (fun x => ⟨37, [(1, o1 (.ref 0 0)), (3, o1 (.own 9 (List.map eS x.1))), (7, o1 (.sl 6 (List.map eSItem a0.f1))), (8, oI (a0.f1.length : Int)), (9, oI x.2)], [eSFace a0], 0, []⟩) (([] : List ByteArray), 0) h17 fun k x h17 IH15 => ?_
 obtain ⟨z9, z10⟩ := x
 rw [impl_InterfaceOK.l1.eq_2] at h17
 refine rn [1, 3, 7, 8, 9, 10] 1 [] [] ?_
 refine sq ?_
 refine ci h17 (fun h11 h17 => ?_) fun h11 h17 => ?_
 ·refine sk ?_
  refine sq ?_
  refine bl ?_
  obtain ⟨x12, h13, h17⟩ := bs h17
  refine rn [1, 3, 5, 7, 8, 9] 2 [] [hE 0 eSItem h13] ?_
  obtain ⟨h14, h17⟩ := nd h17
  refine rl [1, 3, 7, 8, 9] 1 [] [hA 4 9 eS h14] ?_
  refine rl [1, 3, 7, 8, 9] 1 [] [] ?_
  exact lb IH15 (z9 ++ ([x12.f4] : List ByteArray), w64 (z10 + 1)) h17
 refine fx [1, 3] 1 [] ?_
 refine xi ?_
 exact pf z9 h17
/-! impl_readInterface: function 18 -/
def impl_readInterface.l1 : Nat → ByteArray → (Int × Int × Bool) → Int → Int → Bool → (List SParam) → Option (Int × Bool × (List SParam))
  | 0, _, _, _, _, _, _ => none
  | k + 1, a0, r113, z126, z127, z128, z129 => if z126 < r113.1 then ((impl_reader__number_2.f k 1 (⟨a0, z127, z128⟩ : S3ddd55)).bind fun r131 => if (z129 ++ ([(⟨iandn .i64 r131.1 8, (!(decide ((iand .i64 r131.1 8) = 0)))⟩ : SParam)] : List SParam)).length * 16 ≤ 140737488355328 then (impl_readInterface.l1 k a0 r113 (w64 (z126 + 1)) r131.2.1 r131.2.2 (z129 ++ ([(⟨iandn .i64 r131.1 8, (!(decide ((iand .i64 r131.1 8) = 0)))⟩ : SParam)] : List SParam))) else none) else (some (z127, z128, z129))
def impl_readInterface.e2 (k : Nat) (a0 : ByteArray) (r111 : (ByteArray × Int × Bool)) : Option (Int × Bool × (List SParam)) := (impl_reader__number_2.f k 1 (⟨a0, r111.2.1, r111.2.2⟩ : S3ddd55)).bind fun r113 => impl_readInterface.l1 k a0 r113 0 r113.2.1 r113.2.2 ([] : List SParam)
def impl_readInterface.e3 (k : Nat) (a0 : ByteArray) (z99 : Int) (z100 : Bool) (z101 : (List SItem)) : Option (Int × Bool × (List SItem)) := (impl_reader__number_2.f k 1 (⟨a0, z99, z100⟩ : S3ddd55)).bind fun r103 => (impl_reader__number_2.f k 1 (⟨a0, r103.2.1, r103.2.2⟩ : S3ddd55)).bind fun r105 => (impl_reader__number_2.f k 1 (⟨a0, r105.2.1, r105.2.2⟩ : S3ddd55)).bind fun r107 => (impl_reader__number_2.f k 8 (⟨a0, r107.2.1, r107.2.2⟩ : S3ddd55)).bind fun r109 => (impl_reader__text_2.f k (⟨a0, r109.2.1, r109.2.2⟩ : S3ddd55)).bind fun r111 => (impl_readInterface.e2 k a0 r111).bind fun v => match v with | (y135, y136, y137) => if (z101 ++ ([(⟨r103.1, r105.1, r107.1, r109.1, r111.1, y137⟩ : SItem)] : List SItem)).length * 72 ≤ 140737488355328 then (some (y135, y136, z101 ++ ([(⟨r103.1, r105.1, r107.1, r109.1, r111.1, y137⟩ : SItem)] : List SItem))) else none
def impl_readInterface.l4 : Nat → ByteArray → (Int × Int × Bool) → Int → Int → Bool → (List SItem) → Option (Int × Bool × (List SItem))
  | 0, _, _, _, _, _, _ => none
  | k + 1, a0, r5, z98, z99, z100, z101 => if z98 < r5.1 then ((impl_readInterface.e3 k a0 z99 z100 z101).bind fun v => match v with | (y141, y142, y143) => impl_readInterface.l4 k a0 r5 (w64 (z98 + 1)) y141 y142 y143) else (some (z99, z100, z101))
def impl_readInterface.e5 (k : Nat) (a0 : ByteArray) (r3 : (ByteArray × Int × Bool)) : Option (Int × Bool × (List SItem)) := (impl_reader__number_2.f k 1 (⟨a0, r3.2.1, r3.2.2⟩ : S3ddd55)).bind fun r5 => impl_readInterface.l4 k a0 r5 0 r5.2.1 r5.2.2 ([] : List SItem)
def impl_readInterface.e6 (k : Nat) (a0 : ByteArray) (r3 : (ByteArray × Int × Bool)) (y147 : Int) (y148 : Bool) (y149 : (List SItem)) : Option Bool := (impl_reader__ends_1.f k (⟨a0, y147, y148⟩ : S3ddd55)).bind fun r152 => if r152 = true then ((impl_InterfaceOK.f k (⟨r3.1, y149⟩ : SFace)).bind fun r155 => some r155) else (some false)
def impl_readInterface.f (k : Nat) (a0 : ByteArray) : Option (SFace × Bool × ByteArray × (List SItem)) := (impl_reader__head_2.f k (⟨#[79, 73, 49]⟩ : ByteArray) (⟨a0, 0, false⟩ : S3ddd55)).bind fun r1 => (impl_reader__text_2.f k (⟨a0, r1.1, r1.2⟩ : S3ddd55)).bind fun r3 => (impl_readInterface.e5 k a0 r3).bind fun v => match v with | (y147, y148, y149) => (impl_readInterface.e6 k a0 r3 y147 y148 y149).bind fun y157 => some ((⟨r3.1, y149⟩ : SFace), y157, r3.1, y149)
theorem impl_readInterface.fn {k : Nat} {a0 : ByteArray} {r : (SFace × Bool × ByteArray × (List SItem))} (H : impl_readInterface.f k a0 = some r) : FnG Tryz.prog 18 [oS a0] [] [] (tp [some 2, none] [cS r.1.f0, .sl 6 (List.map eSItem r.1.f1), cB r.2.1]) [] [[cS r.2.2.1, .sl 6 (List.map eSItem r.2.2.2)]] := by
 refine FnG.bodyR (rv := [(2, some 25), (3, none)]) Tryz.func18 rfl rfl (by decide) (by decide) (Nat.le_of_ble_eq_true rfl) rfl (Nat.le_of_ble_eq_true rfl) ?_
 refine rn [0, 2] 1 [] [] ?_
 refine rn [2, 4] 2 [] [] ?_
 obtain ⟨r1, h2, H⟩ := bs H
 refine rn [2, 4] 2 [] [hG 1 [] [1] none (impl_reader__head_2.fn h2)] ?_
 obtain ⟨r3, h4, H⟩ := bs H
 refine rn [2, 4, 5] 3 [] [hG 1 [] [1] none (impl_reader__text_2.fn h4)] ?_
 refine jo H (fun w => ⟨63, [(2, o1 (.ref 0 0)), (4, o1 (.ref 1 0)), (5, o1 (.ref 2 0))], [[cS (⟨#[]⟩ : ByteArray), .nl], [cS a0, cI w.1, cB w.2.1], [cS r3.1, .own 41 (List.map eSItem w.2.2)]], 0, []⟩) (fun w H => ?_) fun v151 h150 H => ?_
 ·obtain ⟨y147, y148, y149⟩ := w
  refine jo H (fun y157 => ⟨63, [(2, o1 (.ref 0 0)), (3, oB y157)], [[cS r3.1, .sl 6 (List.map eSItem y149)]], 0, []⟩) (fun y157 H => ?_) fun v159 h158 H => ?_
  ·refine Tri.ret ?_
   obtain rfl := si H;exact endsR (.inr rfl) (by kernel_rfl)
  refine fx [2, 4, 5] 3 [.frz (.b 2 1)] ?_
  obtain ⟨r152, h153, h158⟩ := bs h158
  rcases iteb_some h158 with ⟨h154, h158⟩ | ⟨h154, h158⟩
  ·obtain ⟨r155, h156, h158⟩ := bs h158
   refine deL hmix [[], [], [1], [1, 2], [1, 2, 3], [1, 2, 3, 4], [1, 2, 3, 4, 5], [0, 1, 2, 3, 4, 5], [0, 1, 2, 3, 4, 5, 6, 7]] [7] [⟨63, [(2, o1 (.ref 0 0)), (4, o1 (.ref 1 0)), (5, o1 (.ref 2 0))], [[cS r3.1, .sl 6 (List.map eSItem y149)], [cS a0, cI y147, cB y148], [cS r3.1, .sl 6 (List.map eSItem y149)]], 0, []⟩] [(56, ag [cS r3.1, .sl 6 (List.map eSItem y149)]), (57, o1 (.ref 1 0)), (58, oB true), (59, oB true), (60, ag [cS r3.1, .sl 6 (List.map eSItem y149)]), (61, oB r155), (62, oB r155), (55, ⟨.any, []⟩)] [2, 3] 1 [] (fun A D B => ([hz B 1, ht D 0, ht D 1, hC 2 (impl_reader__ends_1.fn h153), hB 2 h154, ht D 2, ht D 3, ht D 4, hC 5 (impl_InterfaceOK.fn h156), ht D 5, ht D 6, ht D 6, hm A D B 0 7 [55, 56, 57, 58, 59, 60, 61, 2, 4, 5]], [])) ?_
   exact pf r155 h158
  refine deL hmix [[], [], [1], [1, 2], [1, 2, 3], [1, 2, 3, 4], [1, 2, 3, 4, 5], [0, 1, 2, 3, 4, 5], [0, 1, 2, 3, 4, 5, 6, 7]] [7] [⟨63, [(2, o1 (.ref 0 0)), (4, o1 (.ref 1 0)), (5, o1 (.ref 2 0))], [[cS r3.1, .sl 6 (List.map eSItem y149)], [cS a0, cI y147, cB y148], [cS r3.1, .sl 6 (List.map eSItem y149)]], 0, []⟩] [(56, ag [cS r3.1, .sl 6 (List.map eSItem y149)]), (57, o1 (.ref 1 0)), (58, oB false), (59, oB false), (60, tp [] []), (61, tp [] []), (62, oB false), (55, ⟨.any, []⟩)] [2, 3] 1 [] (fun A D B => ([hz B 1, ht D 0, ht D 1, hC 2 (impl_reader__ends_1.fn h153), hB 2 h154, ht D 2, ht D 3, ht D 4, ht D 5, ht D 6, ht D 6, hm A D B 0 7 [55, 56, 57, 58, 59, 60, 61, 2, 4, 5]], [])) ?_
  exact pf false h158
 obtain ⟨r5, h6, h150⟩ := bs h150
 refine rn [2, 4, 5, 17, 18] 3 [] [hG 1 [] [1] none (impl_reader__number_2.fn h6)] ?_
 refine bl ?_
 refine fx [2, 4, 5, 17, 18] 3 [.own (.b 2 1) 41] ?_
 refine lo (Int × Int × Bool × (List SItem)) k (fun k x => impl_readInterface.l4 k a0 r5 x.1 x.2.1 x.2.2.1 x.2.2.2) (fun x => ⟨63, [(2, o1 (.ref 0 0)), (4, o1 (.ref 1 0)), (5, o1 (.ref 2 0)), (17, oI r5.1), (18, oI x.1)], [[cS (⟨#[]⟩ : ByteArray), .nl], [cS a0, cI x.2.1, cB x.2.2.1], [cS r3.1, .own 41 (List.map eSItem x.2.2.2)]], 0, []⟩) (0, r5.2.1, r5.2.2, ([] : List SItem)) h150 fun k x h150 IH146 => ?_
 obtain ⟨z98, z99, z100, z101⟩ := x
 rw [impl_readInterface.l4.eq_2] at h150
 refine rn [2, 4, 5, 17, 18, 19] 3 [] [] ?_
 refine sq ?_
 refine ci h150 (fun h102 h150 => ?_) fun h102 h150 => ?_
 ·refine sk ?_
  refine jo h150 (fun w => ⟨63, [(2, o1 (.ref 0 0)), (4, o1 (.ref 1 0)), (5, o1 (.ref 2 0)), (17, oI r5.1), (18, oI z98)], [[cS (⟨#[]⟩ : ByteArray), .nl], [cS a0, cI w.1, cB w.2.1], [cS r3.1, .own 41 (List.map eSItem w.2.2)]], 0, []⟩) (fun w h150 => ?_) fun v145 h144 h150 => ?_
  ·obtain ⟨y141, y142, y143⟩ := w
   refine rl [2, 4, 5, 17, 18] 3 [] [] ?_
   exact lb IH146 (w64 (z98 + 1), y141, y142, y143) h150
  refine bl ?_
  obtain ⟨r103, h104, h144⟩ := bs h144
  obtain ⟨r105, h106, h144⟩ := bs h144
  obtain ⟨r107, h108, h144⟩ := bs h144
  obtain ⟨r109, h110, h144⟩ := bs h144
  obtain ⟨r111, h112, h144⟩ := bs h144
  refine rn [2, 4, 5, 6, 17, 18] 4 [] [hG 1 [] [1] none (impl_reader__number_2.fn h104), hG 3 [] [1] none (impl_reader__number_2.fn h106), hG 5 [] [1] none (impl_reader__number_2.fn h108), hG 7 [] [1] none (impl_reader__number_2.fn h110), hG 9 [] [1] none (impl_reader__text_2.fn h112)] ?_
  refine jo h144 (fun w => ⟨63, [(2, o1 (.ref 0 0)), (4, o1 (.ref 1 0)), (5, o1 (.ref 2 0)), (6, o1 (.ref 3 0)), (17, oI r5.1), (18, oI z98)], [[cS (⟨#[]⟩ : ByteArray), .nl], [cS a0, cI w.1, cB w.2.1], [cS r3.1, .own 41 (List.map eSItem z101)], [cI r103.1, cI r105.1, cI r107.1, cI r109.1, cS r111.1, .own 43 (List.map eSParam w.2.2)]], 0, []⟩) (fun w h144 => ?_) fun v139 h138 h144 => ?_
  ·obtain ⟨y135, y136, y137⟩ := w
   obtain ⟨h140, h144⟩ := nd h144
   refine rl [2, 4, 5, 17, 18] 3 [] [q0 3 (.frz (.b 3 5)), hA 4 41 eSItem h140] ?_
   exact pf (y135, y136, z101 ++ ([(⟨r103.1, r105.1, r107.1, r109.1, r111.1, y137⟩ : SItem)] : List SItem)) h144
  obtain ⟨r113, h114, h138⟩ := bs h138
  refine rn [2, 4, 5, 6, 17, 18, 32, 33] 4 [] [hG 1 [] [1] none (impl_reader__number_2.fn h114)] ?_
  refine bl ?_
  refine fx [2, 4, 5, 6, 17, 18, 32, 33] 4 [.own (.b 3 5) 43] ?_
  refine lo (Int × Int × Bool × (List SParam)) k (fun k x => impl_readInterface.l1 k a0 r113 x.1 x.2.1 x.2.2.1 x.2.2.2) (fun x => ⟨63, [(2, o1 (.ref 0 0)), (4, o1 (.ref 1 0)), (5, o1 (.ref 2 0)), (6, o1 (.ref 3 0)), (17, oI r5.1), (18, oI z98), (32, oI r113.1), (33, oI x.1)], [[cS (⟨#[]⟩ : ByteArray), .nl], [cS a0, cI x.2.1, cB x.2.2.1], [cS r3.1, .own 41 (List.map eSItem z101)], [cI r103.1, cI r105.1, cI r107.1, cI r109.1, cS r111.1, .own 43 (List.map eSParam x.2.2.2)]], 0, []⟩) (0, r113.2.1, r113.2.2, ([] : List SParam)) h138 fun k x h138 IH134 => ?_
  obtain ⟨z126, z127, z128, z129⟩ := x
  rw [impl_readInterface.l1.eq_2] at h138
  refine rn [2, 4, 5, 6, 17, 18, 32, 33, 34] 4 [] [] ?_
  refine sq ?_
  refine ci h138 (fun h130 h138 => ?_) fun h130 h138 => ?_
  ·refine sk ?_
   refine sq ?_
   refine bl ?_
   obtain ⟨r131, h132, h138⟩ := bs h138
   refine rn [2, 4, 5, 6, 7, 17, 18, 32, 33] 4 [] [hG 1 [] [1] none (impl_reader__number_2.fn h132)] ?_
   obtain ⟨h133, h138⟩ := nd h138
   refine rl [2, 4, 5, 6, 17, 18, 32, 33] 4 [] [hA 9 43 eSParam h133] ?_
   refine rl [2, 4, 5, 6, 17, 18, 32, 33] 4 [] [] ?_
   exact lb IH134 (w64 (z126 + 1), r131.2.1, r131.2.2, z129 ++ ([(⟨iandn .i64 r131.1 8, (!(decide ((iand .i64 r131.1 8) = 0)))⟩ : SParam)] : List SParam)) h138
  refine fx [2, 4, 5, 6, 17, 18] 4 [] ?_
  refine xi ?_
  exact pf (z127, z128, z129) h138
 refine fx [2, 4, 5] 3 [] ?_
 refine xi ?_
 exact pf (z99, z100, z101) h150
/-! impl_ReadInterface: function 6 -/
def impl_ReadInterface.f (k : Nat) (a0 : (List Int)) : Option (SFace × Int × ByteArray × (List SItem)) := (impl_isShort___byte.f k a0).bind fun r1 => if r1 = true then ((impl_readInterface.f k (strOfNums a0)).bind fun r4 => if r4.2.1 = true then (some (r4.1, 0, r4.1.f0, r4.1.f1)) else (some ((⟨(⟨#[]⟩ : ByteArray), ([] : List SItem)⟩ : SFace), 3, (⟨#[]⟩ : ByteArray), ([] : List SItem)))) else (some ((⟨(⟨#[]⟩ : ByteArray), ([] : List SItem)⟩ : SFace), 2, (⟨#[]⟩ : ByteArray), ([] : List SItem)))
theorem impl_ReadInterface.fn {k : Nat} {a0 : (List Int)} {r : (SFace × Int × ByteArray × (List SItem))} (H : impl_ReadInterface.f k a0 = some r) : FnG Tryz.prog 6 [o1 (.sl 1 (List.map (eK .u8) a0))] [] [] (tp [some 2, none] [cS r.1.f0, .sl 6 (List.map eSItem r.1.f1), cI r.2.1]) [] [[cS r.2.2.1, .sl 6 (List.map eSItem r.2.2.2)]] := by
 refine FnG.bodyR (rv := [(2, some 25), (3, none)]) Tryz.func6 rfl rfl (by decide) (by decide) (Nat.le_of_ble_eq_true rfl) rfl (Nat.le_of_ble_eq_true rfl) ?_
 refine rn [0, 2] 1 [] [] ?_
 refine sq ?_
 obtain ⟨r1, h2, H⟩ := bs H
 refine rn [0, 2, 8] 1 [] [hC 1 (impl_isShort___byte.fn h2)] ?_
 refine cm H (fun h3 H => ?_) fun h3 H => ?_
 ·refine sk ?_
  obtain ⟨r4, h5, H⟩ := bs H
  refine rn [2, 4, 5] 3 [] [q1 1 (.nums a0) (rfl : List.map (eK .u8) a0 = List.map (fun n => [PC.sc (.int .u8 n)]) a0), hG 2 [] [] none (impl_readInterface.fn h5)] ?_
  refine sq ?_
  refine rn [2, 4, 17] 3 [] [] ?_
  refine cm H (fun h6 H => ?_) fun h6 H => ?_
  ·refine sk ?_
   refine rn [2, 3] 1 [] [] ?_
   refine Tri.ret ?_
   obtain rfl := si H;exact endsR (.inr rfl) (by kernel_rfl)
  refine rn [2, 3] 1 [] [] ?_
  refine fx [2, 3] 1 [.sl (.b 0 1) 6] ?_
  refine Tri.ret ?_
  obtain rfl := si H;exact endsR (.inr rfl) (by kernel_rfl)
 refine rn [2, 3] 1 [] [] ?_
 refine fx [2, 3] 1 [.sl (.b 0 1) 6] ?_
 refine Tri.ret ?_
 obtain rfl := si H;exact endsR (.inr rfl) (by kernel_rfl)
/-! impl_ReadInterface_1: function 6 -/
def impl_ReadInterface_1.f (k : Nat) (a0_1 : (List Int)) : Option (SFace × Int × (List Int) × ByteArray × (List SItem)) := (impl_isShort___byte.f k a0_1).bind fun r1 => if r1 = true then ((impl_readInterface.f k (strOfNums a0_1)).bind fun r4 => if r4.2.1 = true then (some (r4.1, 0, a0_1, r4.1.f0, r4.1.f1)) else (some ((⟨(⟨#[]⟩ : ByteArray), ([] : List SItem)⟩ : SFace), 3, a0_1, (⟨#[]⟩ : ByteArray), ([] : List SItem)))) else (some ((⟨(⟨#[]⟩ : ByteArray), ([] : List SItem)⟩ : SFace), 2, a0_1, (⟨#[]⟩ : ByteArray), ([] : List SItem)))
theorem impl_ReadInterface_1.fn {k : Nat} {a0_1 : (List Int)} {r : (SFace × Int × (List Int) × ByteArray × (List SItem))} (H : impl_ReadInterface_1.f k a0_1 = some r) : FnG Tryz.prog 6 [o1 (.own 5 (List.map (eK .u8) a0_1))] [0] [] (tp [some 2, none] [cS r.1.f0, .sl 6 (List.map eSItem r.1.f1), cI r.2.1]) [.own 5 (List.map (eK .u8) r.2.2.1)] [[cS r.2.2.2.1, .sl 6 (List.map eSItem r.2.2.2.2)]] := by
 refine FnG.bodyR (rv := [(2, some 25), (3, none)]) Tryz.func6 rfl rfl (by decide) (by decide) (Nat.le_of_ble_eq_true rfl) rfl (Nat.le_of_ble_eq_true rfl) ?_
 refine rn [0, 2] 1 [] [] ?_
 refine sq ?_
 obtain ⟨r1, h2, H⟩ := bs H
 refine rn [0, 2, 8] 1 [] [hC 1 (impl_isShort___byte.fn h2)] ?_
 refine cm H (fun h3 H => ?_) fun h3 H => ?_
 ·refine sk ?_
  obtain ⟨r4, h5, H⟩ := bs H
  refine rn [0, 2, 4, 5] 3 [] [q1 1 (.nums a0_1) (rfl : List.map (eK .u8) a0_1 = List.map (fun n => [PC.sc (.int .u8 n)]) a0_1), hG 2 [] [] none (impl_readInterface.fn h5)] ?_
  refine sq ?_
  refine rn [0, 2, 4, 17] 3 [] [] ?_
  refine cm H (fun h6 H => ?_) fun h6 H => ?_
  ·refine sk ?_
   refine rn [0, 2, 3] 1 [] [] ?_
   refine Tri.ret ?_
   obtain rfl := si H;exact endsR (.inr rfl) (by kernel_rfl)
  refine rn [0, 2, 3] 1 [] [] ?_
  refine fx [0, 2, 3] 1 [.sl (.b 0 1) 6] ?_
  refine Tri.ret ?_
  obtain rfl := si H;exact endsR (.inr rfl) (by kernel_rfl)
 refine rn [0, 2, 3] 1 [] [] ?_
 refine fx [0, 2, 3] 1 [.sl (.b 0 1) 6] ?_
 refine Tri.ret ?_
 obtain rfl := si H;exact endsR (.inr rfl) (by kernel_rfl)
/-! laws_eqParam: function 62 -/
def laws_eqParam.e1 (k : Nat) (a0 : SParam) (a1 : SParam) : Option (Bool ⊕ Unit) := if a0.f1 = true then (if a1.f1 = true then (some (.inr ())) else (some (.inl false))) else (if a1.f1 = true then (some (.inl false)) else (some (.inr ())))
def laws_eqParam.f (k : Nat) (a0 : SParam) (a1 : SParam) : Option Bool := if a0.f0 = a1.f0 then ((laws_eqParam.e1 k a0 a1).bind fun v => match v with | .inl r => some r | .inr _ => some true) else (some false)
theorem laws_eqParam.fn {k : Nat} {a0 : SParam} {a1 : SParam} {r : Bool} (H : laws_eqParam.f k a0 a1 = some r) : Fn Tryz.prog 62 [ag (eSParam a0), ag (eSParam a1)] [] (oB r) [] := by
 refine Fn.bd [4] Tryz.func62 ?_
 refine rn [2, 3] 2 [] [] ?_
 refine sq ?_
 refine rn [2, 3, 9] 2 [] [] ?_
 refine cn H (fun h1 H => ?_) fun h1 H => ?_
 ·refine sk ?_
  refine jr H (fun _ => ⟨15, [], [], 0, []⟩) (fun _ H => ?_) fun v6 h5 H => ?_
  ·refine rn [4] 0 [] [] ?_
   refine Tri.ret ?_
   obtain rfl := si H;exact eR
  refine rn [14] 0 [] [] ?_
  rcases iteb_some h5 with ⟨h2, h5⟩ | ⟨h2, h5⟩
  ·rcases iteb_some h5 with ⟨h3, h5⟩ | ⟨h3, h5⟩
   ·refine cv (nF (beqv h2 h3)) ?_
    refine fx [] 0 [] ?_
    refine sk ?_
    exact pe () h5
   refine cu (nT (beqv h2 h3)) ?_
   refine rn [4] 0 [] [] ?_
   refine Tri.ret ?_
   obtain rfl := si h5;obtain rfl := si H;exact eR
  rcases iteb_some h5 with ⟨h4, h5⟩ | ⟨h4, h5⟩
  ·refine cu (nT (beqv h2 h4)) ?_
   refine rn [4] 0 [] [] ?_
   refine Tri.ret ?_
   obtain rfl := si h5;obtain rfl := si H;exact eR
  refine cv (nF (beqv h2 h4)) ?_
  refine fx [] 0 [] ?_
  refine sk ?_
  exact pe () h5
 refine rn [4] 0 [] [] ?_
 refine Tri.ret ?_
 obtain rfl := si H;exact eR
/-! laws_eqParamS: function 46 -/
def laws_eqParamS.l1 : Nat → (List SParam) → (List SParam) → Int → Option (Bool ⊕ Unit)
  | 0, _, _, _ => none
  | k + 1, a0, a1, z10 => if z10 < (a0.length : Int) then ((at? a0 z10).bind fun x12 => (at? a1 z10).bind fun x14 => (laws_eqParam.f k x12 x14).bind fun r16 => if r16 = true then (laws_eqParamS.l1 k a0 a1 (w64 (z10 + 1))) else (some (.inl false))) else (some (.inr ()))
def laws_eqParamS.e2 (k : Nat) (a0 : (List SParam)) (a1 : (List SParam)) : Option (Bool ⊕ Unit) := laws_eqParamS.l1 k a0 a1 0
def laws_eqParamS.f (k : Nat) (a0 : (List SParam)) (a1 : (List SParam)) : Option Bool := if (a0.length : Int) = (a1.length : Int) then ((laws_eqParamS.e2 k a0 a1).bind fun v => match v with | .inl r => some r | .inr _ => some true) else (some false)
theorem laws_eqParamS.fn {k : Nat} {a0 : (List SParam)} {a1 : (List SParam)} {r : Bool} (H : laws_eqParamS.f k a0 a1 = some r) : Fn Tryz.prog 46 [o1 (.sl 2 (List.map eSParam a0)), o1 (.sl 2 (List.map eSParam a1))] [] (oB r) [] := by
 refine Fn.bd [4] Tryz.func46 ?_
 refine rn [0, 1] 0 [] [] ?_
 refine sq ?_
 refine rn [0, 1, 10] 0 [] [hL 1 eSParam a0, hL 3 eSParam a1] ?_
 refine cn H (fun h1 H => ?_) fun h1 H => ?_
 ·refine sk ?_
  refine jr H (fun _ => ⟨27, [], [], 0, []⟩) (fun _ H => ?_) fun v21 h20 H => ?_
  ·refine rn [4] 0 [] [] ?_
   refine Tri.ret ?_
   obtain rfl := si H;exact eR
  refine rn [0, 1, 5] 0 [] [] ?_
  refine bl ?_
  refine lo Int k (fun k x => laws_eqParamS.l1 k a0 a1 x) (fun x => ⟨27, [(0, o1 (.sl 2 (List.map eSParam a0))), (1, o1 (.sl 2 (List.map eSParam a1))), (5, oI x)], [], 0, []⟩) 0 h20 fun k z10 h20 IH19 => ?_
  rw [laws_eqParamS.l1.eq_2] at h20
  refine sq ?_
  refine rn [0, 1, 5, 14] 0 [] [hL 2 eSParam a0] ?_
  refine ci h20 (fun h11 h20 => ?_) fun h11 h20 => ?_
  ·refine sk ?_
   refine sq ?_
   refine bl ?_
   obtain ⟨x12, h13, h20⟩ := bs h20
   obtain ⟨x14, h15, h20⟩ := bs h20
   obtain ⟨r16, h17, h20⟩ := bs h20
   refine dn hmix 8 [[], [], [0, 1], [0, 1, 2], [], [], [4, 5], [4, 5, 6], [0, 1, 2, 3, 4, 5, 6, 7], [0, 1, 2, 3, 4, 5, 6, 7, 8]] [0, 1, 5, 26] 0 [] [hE 2 eSParam h13, hE 6 eSParam h15, hC 8 (laws_eqParam.fn h17)] ?_
   refine cm h20 (fun h18 h20 => ?_) fun h18 h20 => ?_
   ·refine sk ?_
    refine rl [0, 1, 5] 0 [] [] ?_
    exact lb IH19 (w64 (z10 + 1)) h20
   refine rn [4] 0 [] [] ?_
   refine Tri.ret ?_
   obtain rfl := si h20;obtain rfl := si H;exact eR
  refine fx [] 0 [] ?_
  refine xi ?_
  exact pe () h20
 refine rn [4] 0 [] [] ?_
 refine Tri.ret ?_
 obtain rfl := si H;exact eR
/-! laws_eqItem: function 33 -/
def laws_eqItem.f (k : Nat) (a0 : SItem) (a1 : SItem) : Option Bool := if a0.f0 = a1.f0 then (if a0.f1 = a1.f1 then (if a0.f2 = a1.f2 then (if a0.f3 = a1.f3 then (if a0.f4 = a1.f4 then ((laws_eqParamS.f k a0.f5 a1.f5).bind fun r6 => if r6 = true then (some true) else (some false)) else (some false)) else (some false)) else (some false)) else (some false)) else (some false)
theorem laws_eqItem.fn {k : Nat} {a0 : SItem} {a1 : SItem} {r : Bool} (H : laws_eqItem.f k a0 a1 = some r) : Fn Tryz.prog 33 [ag (eSItem a0), ag (eSItem a1)] [] (oB r) [] := by
 refine Fn.bd [4] Tryz.func33 ?_
 refine rn [2, 3] 2 [] [] ?_
 refine sq ?_
 refine rn [2, 3, 9] 2 [] [] ?_
 refine cn H (fun h1 H => ?_) fun h1 H => ?_
 ·refine sk ?_
  refine sq ?_
  refine rn [2, 3, 14] 2 [] [] ?_
  refine cn H (fun h2 H => ?_) fun h2 H => ?_
  ·refine sk ?_
   refine sq ?_
   refine rn [2, 3, 19] 2 [] [] ?_
   refine cn H (fun h3 H => ?_) fun h3 H => ?_
   ·refine sk ?_
    refine sq ?_
    refine rn [2, 3, 24] 2 [] [] ?_
    refine cn H (fun h4 H => ?_) fun h4 H => ?_
    ·refine sk ?_
     refine sq ?_
     refine rx [2, 3, 29] 2 [] [] ⟨36, [(2, o1 (.ref 0 0)), (3, o1 (.ref 1 0)), (29, oB (!(decide (a0.f4 = a1.f4))))], [eSItem a0, eSItem a1], 0, []⟩ ?_
     refine cn H (fun h5 H => ?_) fun h5 H => ?_
     ·refine sk ?_
      refine sq ?_
      obtain ⟨r6, h7, H⟩ := bs H
      refine rn [35] 0 [] [hC 4 (laws_eqParamS.fn h7)] ?_
      refine cm H (fun h8 H => ?_) fun h8 H => ?_
      ·refine sk ?_
       refine rn [4] 0 [] [] ?_
       refine Tri.ret ?_
       obtain rfl := si H;exact eR
      refine rn [4] 0 [] [] ?_
      refine Tri.ret ?_
      obtain rfl := si H;exact eR
     refine rn [4] 0 [] [] ?_
     refine Tri.ret ?_
     obtain rfl := si H;exact eR
    refine rx [4] 0 [] [] ⟨36, [(4, oB false)], [], 0, []⟩ ?_
    refine Tri.ret ?_
    obtain rfl := si H;exact eR
   refine rn [4] 0 [] [] ?_
   refine Tri.ret ?_
   obtain rfl := si H;exact eR
  refine rn [4] 0 [] [] ?_
  refine Tri.ret ?_
  obtain rfl := si H;exact eR
 refine rn [4] 0 [] [] ?_
 refine Tri.ret ?_
 obtain rfl := si H;exact eR
/-! laws_eqItemS: function 19 -/
def laws_eqItemS.l1 : Nat → (List SItem) → (List SItem) → Int → Option (Bool ⊕ Unit)
  | 0, _, _, _ => none
  | k + 1, a0, a1, z10 => if z10 < (a0.length : Int) then ((at? a0 z10).bind fun x12 => (at? a1 z10).bind fun x14 => (laws_eqItem.f k x12 x14).bind fun r16 => if r16 = true then (laws_eqItemS.l1 k a0 a1 (w64 (z10 + 1))) else (some (.inl false))) else (some (.inr ()))
def laws_eqItemS.e2 (k : Nat) (a0 : (List SItem)) (a1 : (List SItem)) : Option (Bool ⊕ Unit) := laws_eqItemS.l1 k a0 a1 0
def laws_eqItemS.f (k : Nat) (a0 : (List SItem)) (a1 : (List SItem)) : Option Bool := if (a0.length : Int) = (a1.length : Int) then ((laws_eqItemS.e2 k a0 a1).bind fun v => match v with | .inl r => some r | .inr _ => some true) else (some false)
theorem laws_eqItemS.fn {k : Nat} {a0 : (List SItem)} {a1 : (List SItem)} {r : Bool} (H : laws_eqItemS.f k a0 a1 = some r) : Fn Tryz.prog 19 [o1 (.sl 6 (List.map eSItem a0)), o1 (.sl 6 (List.map eSItem a1))] [] (oB r) [] := by
 refine Fn.bd [4] Tryz.func19 ?_
 refine rn [0, 1] 0 [] [] ?_
 refine sq ?_
 refine rn [0, 1, 10] 0 [] [hL 1 eSItem a0, hL 3 eSItem a1] ?_
 refine cn H (fun h1 H => ?_) fun h1 H => ?_
 ·refine sk ?_
  refine jr H (fun _ => ⟨27, [], [], 0, []⟩) (fun _ H => ?_) fun v21 h20 H => ?_
  ·refine rn [4] 0 [] [] ?_
   refine Tri.ret ?_
   obtain rfl := si H;exact eR
  refine rn [0, 1, 5] 0 [] [] ?_
  refine bl ?_
  refine lo Int k (fun k x => laws_eqItemS.l1 k a0 a1 x) (fun x => ⟨27, [(0, o1 (.sl 6 (List.map eSItem a0))), (1, o1 (.sl 6 (List.map eSItem a1))), (5, oI x)], [], 0, []⟩) 0 h20 fun k z10 h20 IH19 => ?_
  rw [laws_eqItemS.l1.eq_2] at h20
  refine sq ?_
  refine rn [0, 1, 5, 14] 0 [] [hL 2 eSItem a0] ?_
  refine ci h20 (fun h11 h20 => ?_) fun h11 h20 => ?_
  ·refine sk ?_
   refine sq ?_
   refine bl ?_
   obtain ⟨x12, h13, h20⟩ := bs h20
   obtain ⟨x14, h15, h20⟩ := bs h20
   obtain ⟨r16, h17, h20⟩ := bs h20
   refine dn hmix 8 [[], [], [0, 1], [0, 1, 2], [], [], [4, 5], [4, 5, 6], [0, 1, 2, 3, 4, 5, 6, 7], [0, 1, 2, 3, 4, 5, 6, 7, 8]] [0, 1, 5, 26] 0 [] [hE 2 eSItem h13, hE 6 eSItem h15, hC 8 (laws_eqItem.fn h17)] ?_
   refine cm h20 (fun h18 h20 => ?_) fun h18 h20 => ?_
   ·refine sk ?_
    refine rl [0, 1, 5] 0 [] [] ?_
    exact lb IH19 (w64 (z10 + 1)) h20
   refine rn [4] 0 [] [] ?_
   refine Tri.ret ?_
   obtain rfl := si h20;obtain rfl := si H;exact eR
  refine fx [] 0 [] ?_
  refine xi ?_
  exact pe () h20
 refine rn [4] 0 [] [] ?_
 refine Tri.ret ?_
 obtain rfl := si H;exact eR
/-! laws_eqInterface: function 7 -/
def laws_eqInterface.f (k : Nat) (a0 : SFace) (a1 : SFace) : Option Bool := if a0.f0 = a1.f0 then ((laws_eqItemS.f k a0.f1 a1.f1).bind fun r2 => if r2 = true then (some true) else (some false)) else (some false)
theorem laws_eqInterface.fn {k : Nat} {a0 : SFace} {a1 : SFace} {r : Bool} (H : laws_eqInterface.f k a0 a1 = some r) : Fn Tryz.prog 7 [ag (eSFace a0), ag (eSFace a1)] [] (oB r) [] := by
 refine Fn.bd [4] Tryz.func7 ?_
 refine rn [2, 3] 2 [] [] ?_
 refine sq ?_
 refine rn [2, 3, 9] 2 [] [] ?_
 refine cn H (fun h1 H => ?_) fun h1 H => ?_
 ·refine sk ?_
  refine sq ?_
  obtain ⟨r2, h3, H⟩ := bs H
  refine rn [15] 0 [] [hC 4 (laws_eqItemS.fn h3)] ?_
  refine cm H (fun h4 H => ?_) fun h4 H => ?_
  ·refine sk ?_
   refine rn [4] 0 [] [] ?_
   refine Tri.ret ?_
   obtain rfl := si H;exact eR
  refine rn [4] 0 [] [] ?_
  refine Tri.ret ?_
  obtain rfl := si H;exact eR
 refine rn [4] 0 [] [] ?_
 refine Tri.ret ?_
 obtain rfl := si H;exact eR
/-! laws_eqByteS: function 8 -/
def laws_eqByteS.l1 : Nat → (List Int) → (List Int) → Int → Option (Bool ⊕ Unit)
  | 0, _, _, _ => none
  | k + 1, a0, a1, z8 => if z8 < (a0.length : Int) then ((at? a0 z8).bind fun x10 => (at? a1 z8).bind fun x12 => if x10 = x12 then (laws_eqByteS.l1 k a0 a1 (w64 (z8 + 1))) else (some (.inl false))) else (some (.inr ()))
def laws_eqByteS.e2 (k : Nat) (a0 : (List Int)) (a1 : (List Int)) : Option (Bool ⊕ Unit) := laws_eqByteS.l1 k a0 a1 0
def laws_eqByteS.f (k : Nat) (a0 : (List Int)) (a1 : (List Int)) : Option Bool := if (a0.length : Int) = (a1.length : Int) then ((laws_eqByteS.e2 k a0 a1).bind fun v => match v with | .inl r => some r | .inr _ => some true) else (some false)
theorem laws_eqByteS.fn {k : Nat} {a0 : (List Int)} {a1 : (List Int)} {r : Bool} (H : laws_eqByteS.f k a0 a1 = some r) : Fn Tryz.prog 8 [o1 (.sl 1 (List.map (eK .u8) a0)), o1 (.sl 1 (List.map (eK .u8) a1))] [] (oB r) [] := by
 refine Fn.bd [4] Tryz.func8 ?_
 refine rn [0, 1] 0 [] [] ?_
 refine sq ?_
 refine rn [0, 1, 10] 0 [] [hL 1 (eK .u8) a0, hL 3 (eK .u8) a1] ?_
 refine cn H (fun h1 H => ?_) fun h1 H => ?_
 ·refine sk ?_
  refine jr H (fun _ => ⟨26, [], [], 0, []⟩) (fun _ H => ?_) fun v17 h16 H => ?_
  ·refine rn [4] 0 [] [] ?_
   refine Tri.ret ?_
   obtain rfl := si H;exact eR
  refine rn [0, 1, 5] 0 [] [] ?_
  refine bl ?_
  refine lo Int k (fun k x => laws_eqByteS.l1 k a0 a1 x) (fun x => ⟨26, [(0, o1 (.sl 1 (List.map (eK .u8) a0))), (1, o1 (.sl 1 (List.map (eK .u8) a1))), (5, oI x)], [], 0, []⟩) 0 h16 fun k z8 h16 IH15 => ?_
  rw [laws_eqByteS.l1.eq_2] at h16
  refine sq ?_
  refine rn [0, 1, 5, 14] 0 [] [hL 2 (eK .u8) a0] ?_
  refine ci h16 (fun h9 h16 => ?_) fun h9 h16 => ?_
  ·refine sk ?_
   refine sq ?_
   refine bl ?_
   obtain ⟨x10, h11, h16⟩ := bs h16
   obtain ⟨x12, h13, h16⟩ := bs h16
   refine dn hmix 8 [[], [], [0, 1], [0, 1, 2], [], [], [4, 5], [4, 5, 6], [0, 1, 2, 3, 4, 5, 6, 7]] [0, 1, 5, 25] 0 [] [hE 2 (eK .u8) h11, hE 6 (eK .u8) h13] ?_
   refine cn h16 (fun h14 h16 => ?_) fun h14 h16 => ?_
   ·refine sk ?_
    refine rl [0, 1, 5] 0 [] [] ?_
    exact lb IH15 (w64 (z8 + 1)) h16
   refine rn [4] 0 [] [] ?_
   refine Tri.ret ?_
   obtain rfl := si h16;obtain rfl := si H;exact eR
  refine fx [] 0 [] ?_
  refine xi ?_
  exact pe () h16
 refine rn [4] 0 [] [] ?_
 refine Tri.ret ?_
 obtain rfl := si H;exact eR
/-! laws_markByteS_1: function 9 -/
def laws_markByteS_1.l1 : Nat → (List Int) → Int → Int → Option ((List Int) × Int)
  | 0, _, _, _ => none
  | k + 1, z4, z5, z6 => if z6 < (z4.length : Int) then ((at? z4 z6).bind fun x8 => laws_markByteS_1.l1 k  (z4.set (Int.toNat z6) (IntKind.u8.wrap (z5))) (w64 (z5 + 1)) (w64 (z6 + 1))) else (some (z4, z5))
def laws_markByteS_1.e2 (k : Nat) (a0_1 : (List Int)) (a1 : Int) : Option ((List Int) × Int) := laws_markByteS_1.l1 k  a0_1 a1 0
def laws_markByteS_1.f (k : Nat) (a0_1 : (List Int)) (a1 : Int) : Option (Int × (List Int)) := (laws_markByteS_1.e2 k a0_1 a1).bind fun v => match v with | (y11, y12) => some (y12, y11)
theorem laws_markByteS_1.fn {k : Nat} {a0_1 : (List Int)} {a1 : Int} {r : (Int × (List Int))} (H : laws_markByteS_1.f k a0_1 a1 = some r) : FnG Tryz.prog 9 [o1 (.own 5 (List.map (eK .u8) a0_1)), oI a1] [0] [] (oI r.1) [.own 5 (List.map (eK .u8) r.2)] [] := by
 refine FnG.body (ts := [4]) Tryz.func9 rfl rfl (by decide) (by decide) (Nat.le_of_ble_eq_true rfl) rfl (Nat.le_of_ble_eq_true rfl) ?_
 refine rn [0, 1] 0 [] [] ?_
 refine jo H (fun w => ⟨20, [(0, o1 (.own 5 (List.map (eK .u8) w.1))), (1, oI w.2)], [], 0, [0]⟩) (fun w H => ?_) fun v14 h13 H => ?_
 ·obtain ⟨y11, y12⟩ := w
  refine rn [0, 4] 0 [] [] ?_
  refine Tri.ret ?_
  obtain rfl := si H;exact endsG (.inr rfl) (by kernel_rfl)
 refine rn [0, 1, 5] 0 [] [] ?_
 refine bl ?_
 refine lo ((List Int) × Int × Int) k (fun k x => laws_markByteS_1.l1 k  x.1 x.2.1 x.2.2) (fun x => ⟨20, [(0, o1 (.own 5 (List.map (eK .u8) x.1))), (1, oI x.2.1), (5, oI x.2.2)], [], 0, [0]⟩) (a0_1, a1, 0) h13 fun k x h13 IH10 => ?_
 obtain ⟨z4, z5, z6⟩ := x
 rw [laws_markByteS_1.l1.eq_2] at h13
 refine sq ?_
 refine rn [0, 1, 5, 9] 0 [] [hL 2 (eK .u8) z4] ?_
 refine ci h13 (fun h7 h13 => ?_) fun h7 h13 => ?_
 ·refine sk ?_
  refine sq ?_
  refine bl ?_
  obtain ⟨x8, h9, h13⟩ := bs h13
  refine rn [0, 1, 5] 0 [] [hE 4 (eK .u8) h9, hW 5 (.t 0 0) 5 (eK .u8) h9 (IntKind.u8.wrap (z5))] ?_
  refine rl [0, 1, 5] 0 [] [] ?_
  refine rl [0, 1, 5] 0 [] [] ?_
  exact lb IH10 (z4.set (Int.toNat z6) (IntKind.u8.wrap (z5)), w64 (z5 + 1), w64 (z6 + 1)) h13
 refine fx [0, 1] 0 [] ?_
 refine xi ?_
 exact pf (z4, z5) h13
/-! laws_markText: function 34 -/
def laws_markText.l1 : Nat → Int → ByteArray → Option ByteArray
  | 0, _, _ => none
  | k + 1, z4, z5 => if (0 : Int) < z4 then (if (strOfNums ([IntKind.u8.wrap (w64 (48 + (Int.tmod z4 10)))] : List Int)).size + z5.size ≤ 9223372036854775807 then (laws_markText.l1 k  (w64 (Int.tdiv z4 10)) ((strOfNums ([IntKind.u8.wrap (w64 (48 + (Int.tmod z4 10)))] : List Int)) ++ z5)) else none) else (some z5)
def laws_markText.e2 (k : Nat) (a0 : Int) : Option ByteArray := laws_markText.l1 k  a0 (⟨#[]⟩ : ByteArray)
def laws_markText.f (k : Nat) (a0 : Int) : Option ByteArray := if a0 ≤ 0 then (some (⟨#[109, 48]⟩ : ByteArray)) else ((laws_markText.e2 k a0).bind fun y9 => if (⟨#[109]⟩ : ByteArray).size + y9.size ≤ 9223372036854775807 then (some ((⟨#[109]⟩ : ByteArray) ++ y9)) else none)
theorem laws_markText.fn {k : Nat} {a0 : Int} {r : ByteArray} (H : laws_markText.f k a0 = some r) : Fn Tryz.prog 34 [oI a0] [] (oS r) [] := by
 refine Fn.bd [2] Tryz.func34 ?_
 refine rn [0] 0 [] [] ?_
 refine sq ?_
 refine rn [0, 5] 0 [] [] ?_
 refine ci H (fun h1 H => ?_) fun h1 H => ?_
 ·refine rn [2] 0 [] [] ?_
  refine Tri.ret ?_
  obtain rfl := si H;exact eR
 refine sk ?_
 refine rn [0, 3] 0 [] [] ?_
 refine jo H (fun y9 => ⟨20, [(3, oS y9)], [], 0, []⟩) (fun y9 H => ?_) fun v11 h10 H => ?_
 ·obtain ⟨h12, H⟩ := nd H
  refine rn [2] 0 [] [p1 h12] ?_
  refine Tri.ret ?_
  obtain rfl := si H;exact eR
 refine bl ?_
 refine lo (Int × ByteArray) k (fun k x => laws_markText.l1 k  x.1 x.2) (fun x => ⟨20, [(0, oI x.1), (3, oS x.2)], [], 0, []⟩) (a0, (⟨#[]⟩ : ByteArray)) h10 fun k x h10 IH8 => ?_
 obtain ⟨z4, z5⟩ := x
 rw [laws_markText.l1.eq_2] at h10
 refine sq ?_
 refine rn [0, 3, 7] 0 [] [] ?_
 refine ci h10 (fun h6 h10 => ?_) fun h6 h10 => ?_
 ·refine sk ?_
  refine bl ?_
  obtain ⟨h7, h10⟩ := nd h10
  refine rn [0, 3] 0 [] [p1 (show (10 : Int) ≠ 0 by decide), q1 5 (.nums ([IntKind.u8.wrap (w64 (48 + (Int.tmod z4 10)))] : List Int)) (rfl : List.map (eK .u8) ([IntKind.u8.wrap (w64 (48 + (Int.tmod z4 10)))] : List Int) = List.map (fun n => [PC.sc (.int .u8 n)]) ([IntKind.u8.wrap (w64 (48 + (Int.tmod z4 10)))] : List Int)), p1 h7] ?_
  refine rl [0, 3] 0 [] [p1 (show (10 : Int) ≠ 0 by decide)] ?_
  exact lb IH8 (w64 (Int.tdiv z4 10), (strOfNums ([IntKind.u8.wrap (w64 (48 + (Int.tmod z4 10)))] : List Int)) ++ z5) h10
 refine fx [3] 0 [] ?_
 refine xi ?_
 exact pf z5 h10
/-! laws_heldParamS: function 36 -/
def laws_heldParamS.e1 (k : Nat) (z10 : Int) (x13 : SParam) : Option (Int ⊕ Unit) := if x13.f1 = true then (if (Int.tmod (w64 (z10 + 1)) 3) = 0 then (some (.inr ())) else (some (.inl (-1)))) else (if (Int.tmod (w64 (z10 + 1)) 3) = 0 then (some (.inl (-1))) else (some (.inr ())))
def laws_heldParamS.l2 : Nat → (List SParam) → Int → Int → Option (Int ⊕ Int)
  | 0, _, _, _ => none
  | k + 1, a0, z10, z11 => if z11 < (a0.length : Int) then ((at? a0 z11).bind fun x13 => if x13.f0 = z10 then ((laws_heldParamS.e1 k z10 x13).bind fun v => match v with | .inl r => some (.inl r) | .inr _ => laws_heldParamS.l2 k a0 (w64 ((w64 (z10 + 1)) + 1)) (w64 (z11 + 1))) else (some (.inl (-1)))) else (some (.inr z10))
def laws_heldParamS.e3 (k : Nat) (a0 : (List SParam)) (a1 : Int) : Option (Int ⊕ Int) := laws_heldParamS.l2 k a0 a1 0
def laws_heldParamS.f (k : Nat) (a0 : (List SParam)) (a1 : Int) : Option Int := (laws_heldParamS.e3 k a0 a1).bind fun v => match v with | .inl r => some r | .inr y22 => some y22
theorem laws_heldParamS.fn {k : Nat} {a0 : (List SParam)} {a1 : Int} {r : Int} (H : laws_heldParamS.f k a0 a1 = some r) : Fn Tryz.prog 36 [o1 (.sl 2 (List.map eSParam a0)), oI a1] [] (oI r) [] := by
 refine Fn.bd [4] Tryz.func36 ?_
 refine rn [0, 1] 0 [] [] ?_
 refine jr H (fun y22 => ⟨33, [(1, oI y22)], [], 0, []⟩) (fun y22 H => ?_) fun v24 h23 H => ?_
 ·refine rn [4] 0 [] [] ?_
  refine Tri.ret ?_
  obtain rfl := si H;exact eR
 refine rn [0, 1, 5] 0 [] [] ?_
 refine bl ?_
 refine lo (Int × Int) k (fun k x => laws_heldParamS.l2 k a0 x.1 x.2) (fun x => ⟨33, [(0, o1 (.sl 2 (List.map eSParam a0))), (1, oI x.1), (5, oI x.2)], [], 0, []⟩) (a1, 0) h23 fun k x h23 IH21 => ?_
 obtain ⟨z10, z11⟩ := x
 rw [laws_heldParamS.l2.eq_2] at h23
 refine sq ?_
 refine rn [0, 1, 5, 9] 0 [] [hL 2 eSParam a0] ?_
 refine ci h23 (fun h12 h23 => ?_) fun h12 h23 => ?_
 ·refine sk ?_
  refine sq ?_
  refine bl ?_
  refine sq ?_
  obtain ⟨x13, h14, h23⟩ := bs h23
  refine rn [0, 1, 5, 18] 0 [] [hE 2 eSParam h14] ?_
  refine cn h23 (fun h15 h23 => ?_) fun h15 h23 => ?_
  ·refine sk ?_
   refine rn [0, 1, 5] 0 [] [] ?_
   refine jr h23 (fun _ => ⟨33, [(0, o1 (.sl 2 (List.map eSParam a0))), (1, oI (w64 (z10 + 1))), (5, oI z11)], [], 0, []⟩) (fun _ h23 => ?_) fun v20 h19 h23 => ?_
   ·refine rl [0, 1, 5] 0 [] [] ?_
    refine rl [0, 1, 5] 0 [] [] ?_
    exact lb IH21 (w64 ((w64 (z10 + 1)) + 1), w64 (z11 + 1)) h23
   refine rn [0, 1, 5, 29] 0 [] [hE 2 eSParam h14, p1 (show (3 : Int) ≠ 0 by decide)] ?_
   rcases iteb_some h19 with ⟨h16, h19⟩ | ⟨h16, h19⟩
   ·rcases ite_some h19 with ⟨h17, h19⟩ | ⟨h17, h19⟩
    ·refine cv (nF (beqv h16 (decide_eq_true h17))) ?_
     refine fx [0, 1, 5] 0 [] ?_
     refine sk ?_
     exact pe () h19
    refine cu (nT (beqv h16 (decide_eq_false h17))) ?_
    refine rn [4] 0 [] [] ?_
    refine Tri.ret ?_
    obtain rfl := si h19;obtain rfl := si h23;obtain rfl := si H;exact eR
   rcases ite_some h19 with ⟨h18, h19⟩ | ⟨h18, h19⟩
   ·refine cu (nT (beqv h16 (decide_eq_true h18))) ?_
    refine rn [4] 0 [] [] ?_
    refine Tri.ret ?_
    obtain rfl := si h19;obtain rfl := si h23;obtain rfl := si H;exact eR
   refine cv (nF (beqv h16 (decide_eq_false h18))) ?_
   refine fx [0, 1, 5] 0 [] ?_
   refine sk ?_
   exact pe () h19
  refine rn [4] 0 [] [] ?_
  refine Tri.ret ?_
  obtain rfl := si h23;obtain rfl := si H;exact eR
 refine fx [1] 0 [] ?_
 refine xi ?_
 exact pe z10 h23
/-! laws_heldItemS: function 21 -/
def laws_heldItemS.l1 : Nat → (List SItem) → Int → Int → Option (Int ⊕ Int)
  | 0, _, _, _ => none
  | k + 1, a0, z14, z15 => if z15 < (a0.length : Int) then ((at? a0 z15).bind fun x17 => if x17.f0 = z14 then (if x17.f1 = (w64 (z14 + 1)) then (if x17.f2 = (w64 ((w64 (z14 + 1)) + 1)) then (if x17.f3 = (w64 ((w64 ((w64 (z14 + 1)) + 1)) + 1)) then ((laws_markText.f k (w64 ((w64 ((w64 ((w64 (z14 + 1)) + 1)) + 1)) + 1))).bind fun r23 => if x17.f4 = r23 then ((laws_heldParamS.f k x17.f5 (w64 ((w64 ((w64 ((w64 ((w64 (z14 + 1)) + 1)) + 1)) + 1)) + 1))).bind fun r26 => if r26 < 0 then (some (.inl (-1))) else (laws_heldItemS.l1 k a0 r26 (w64 (z15 + 1)))) else (some (.inl (-1)))) else (some (.inl (-1)))) else (some (.inl (-1)))) else (some (.inl (-1)))) else (some (.inl (-1)))) else (some (.inr z14))
def laws_heldItemS.e2 (k : Nat) (a0 : (List SItem)) (a1 : Int) : Option (Int ⊕ Int) := laws_heldItemS.l1 k a0 a1 0
def laws_heldItemS.f (k : Nat) (a0 : (List SItem)) (a1 : Int) : Option Int := (laws_heldItemS.e2 k a0 a1).bind fun v => match v with | .inl r => some r | .inr y30 => some y30
theorem laws_heldItemS.fn {k : Nat} {a0 : (List SItem)} {a1 : Int} {r : Int} (H : laws_heldItemS.f k a0 a1 = some r) : Fn Tryz.prog 21 [o1 (.sl 6 (List.map eSItem a0)), oI a1] [] (oI r) [] := by
 refine Fn.bd [4] Tryz.func21 ?_
 refine rn [0, 1] 0 [] [] ?_
 refine jr H (fun y30 => ⟨68, [(1, oI y30)], [], 0, []⟩) (fun y30 H => ?_) fun v32 h31 H => ?_
 ·refine rn [4] 0 [] [] ?_
  refine Tri.ret ?_
  obtain rfl := si H;exact eR
 refine rn [0, 1, 5] 0 [] [] ?_
 refine bl ?_
 refine lo (Int × Int) k (fun k x => laws_heldItemS.l1 k a0 x.1 x.2) (fun x => ⟨68, [(0, o1 (.sl 6 (List.map eSItem a0))), (1, oI x.1), (5, oI x.2)], [], 0, []⟩) (a1, 0) h31 fun k x h31 IH29 => ?_
 obtain ⟨z14, z15⟩ := x
 rw [laws_heldItemS.l1.eq_2] at h31
 refine sq ?_
 refine rn [0, 1, 5, 9] 0 [] [hL 2 eSItem a0] ?_
 refine ci h31 (fun h16 h31 => ?_) fun h16 h31 => ?_
 ·refine sk ?_
  refine sq ?_
  refine bl ?_
  refine sq ?_
  obtain ⟨x17, h18, h31⟩ := bs h31
  refine rn [0, 1, 5, 18] 0 [] [hE 2 eSItem h18] ?_
  refine cn h31 (fun h19 h31 => ?_) fun h19 h31 => ?_
  ·refine sk ?_
   refine rn [0, 1, 5] 0 [] [] ?_
   refine sq ?_
   refine rn [0, 1, 5, 27] 0 [] [hE 2 eSItem h18] ?_
   refine cn h31 (fun h20 h31 => ?_) fun h20 h31 => ?_
   ·refine sk ?_
    refine rn [0, 1, 5] 0 [] [] ?_
    refine sq ?_
    refine rx [0, 1, 5, 36] 0 [] [hE 2 eSItem h18] ⟨68, [(0, o1 (.sl 6 (List.map eSItem a0))), (1, oI (w64 ((w64 (z14 + 1)) + 1))), (5, oI z15), (36, oB (!(decide (x17.f2 = (w64 ((w64 (z14 + 1)) + 1))))))], [], 0, []⟩ ?_
    refine cn h31 (fun h21 h31 => ?_) fun h21 h31 => ?_
    ·refine sk ?_
     refine rn [0, 1, 5] 0 [] [] ?_
     refine sq ?_
     refine rn [0, 1, 5, 45] 0 [] [hE 2 eSItem h18] ?_
     refine cn h31 (fun h22 h31 => ?_) fun h22 h31 => ?_
     ·refine sk ?_
      refine rn [0, 1, 5] 0 [] [] ?_
      refine sq ?_
      obtain ⟨r23, h24, h31⟩ := bs h31
      refine dn hmix 7 [[], [], [0, 1], [0, 1, 2], [0, 1, 2, 3], [], [5], [0, 1, 2, 3, 4, 5, 6]] [0, 1, 5, 55] 0 [] [hE 2 eSItem h18, hC 6 (laws_markText.fn h24)] ?_
      refine cn h31 (fun h25 h31 => ?_) fun h25 h31 => ?_
      ·refine sk ?_
       refine rn [0, 1, 5] 0 [] [] ?_
       obtain ⟨r26, h27, h31⟩ := bs h31
       refine rx [0, 1, 5] 0 [] [hE 2 eSItem h18, hC 6 (laws_heldParamS.fn h27)] ⟨68, [(0, o1 (.sl 6 (List.map eSItem a0))), (1, oI r26), (5, oI z15)], [], 0, []⟩ ?_
       refine rn [0, 1, 5, 66] 0 [] [] ?_
       refine ci h31 (fun h28 h31 => ?_) fun h28 h31 => ?_
       ·refine rn [4] 0 [] [] ?_
        refine Tri.ret ?_
        obtain rfl := si h31;obtain rfl := si H;exact eR
       refine sk ?_
       refine rl [0, 1, 5] 0 [] [] ?_
       exact lb IH29 (r26, w64 (z15 + 1)) h31
      refine rn [4] 0 [] [] ?_
      refine Tri.ret ?_
      obtain rfl := si h31;obtain rfl := si H;exact eR
     refine rn [4] 0 [] [] ?_
     refine Tri.ret ?_
     obtain rfl := si h31;obtain rfl := si H;exact eR
    refine rn [4] 0 [] [] ?_
    refine Tri.ret ?_
    obtain rfl := si h31;obtain rfl := si H;exact eR
   refine rn [4] 0 [] [] ?_
   refine Tri.ret ?_
   obtain rfl := si h31;obtain rfl := si H;exact eR
  refine rn [4] 0 [] [] ?_
  refine Tri.ret ?_
  obtain rfl := si h31;obtain rfl := si H;exact eR
 refine fx [1] 0 [] ?_
 refine xi ?_
 exact pe z14 h31
/-! laws_heldInterface: function 11 -/
def laws_heldInterface.f (k : Nat) (a0 : SFace) (a1 : Int) : Option Int := (laws_heldItemS.f k a0.f1 a1).bind fun r1 => if r1 < 0 then (some (-1)) else (some r1)
theorem laws_heldInterface.fn {k : Nat} {a0 : SFace} {a1 : Int} {r : Int} (H : laws_heldInterface.f k a0 a1 = some r) : Fn Tryz.prog 11 [ag (eSFace a0), oI a1] [] (oI r) [] := by
 refine Fn.bd [4] Tryz.func11 ?_
 refine rn [1, 2] 1 [] [] ?_
 obtain ⟨r1, h2, H⟩ := bs H
 refine rn [1] 0 [] [hC 3 (laws_heldItemS.fn h2)] ?_
 refine sq ?_
 refine rn [1, 10] 0 [] [] ?_
 refine ci H (fun h3 H => ?_) fun h3 H => ?_
 ·refine rn [4] 0 [] [] ?_
  refine Tri.ret ?_
  obtain rfl := si H;exact eR
 refine sk ?_
 refine rn [4] 0 [] [] ?_
 refine Tri.ret ?_
 obtain rfl := si H;exact eR
/-! laws_markParamS_1: function 35 -/
def laws_markParamS_1.l1 : Nat → (List SParam) → Int → Int → Option ((List SParam) × Int)
  | 0, _, _, _ => none
  | k + 1, z6, z7, z8 => if z8 < (z6.length : Int) then ((at? z6 z8).bind fun x10 => (at? (z6.set (Int.toNat z8) (⟨z7, x10.f1⟩ : SParam)) z8).bind fun x12 => laws_markParamS_1.l1 k  ((z6.set (Int.toNat z8) (⟨z7, x10.f1⟩ : SParam)).set (Int.toNat z8) (⟨x12.f0, (decide ((Int.tmod (w64 (z7 + 1)) 3) = 0))⟩ : SParam)) (w64 ((w64 (z7 + 1)) + 1)) (w64 (z8 + 1))) else (some (z6, z7))
def laws_markParamS_1.e2 (k : Nat) (a0_1 : (List SParam)) (a1 : Int) : Option ((List SParam) × Int) := laws_markParamS_1.l1 k  a0_1 a1 0
def laws_markParamS_1.f (k : Nat) (a0_1 : (List SParam)) (a1 : Int) : Option (Int × (List SParam)) := (laws_markParamS_1.e2 k a0_1 a1).bind fun v => match v with | (y15, y16) => some (y16, y15)
theorem laws_markParamS_1.fn {k : Nat} {a0_1 : (List SParam)} {a1 : Int} {r : (Int × (List SParam))} (H : laws_markParamS_1.f k a0_1 a1 = some r) : FnG Tryz.prog 35 [o1 (.own 43 (List.map eSParam a0_1)), oI a1] [0] [] (oI r.1) [.own 43 (List.map eSParam r.2)] [] := by
 refine FnG.body (ts := [4]) Tryz.func35 rfl rfl (by decide) (by decide) (Nat.le_of_ble_eq_true rfl) rfl (Nat.le_of_ble_eq_true rfl) ?_
 refine rn [0, 1] 0 [] [] ?_
 refine jo H (fun w => ⟨29, [(0, o1 (.own 43 (List.map eSParam w.1))), (1, oI w.2)], [], 0, [0]⟩) (fun w H => ?_) fun v18 h17 H => ?_
 ·obtain ⟨y15, y16⟩ := w
  refine rn [0, 4] 0 [] [] ?_
  refine Tri.ret ?_
  obtain rfl := si H;exact endsG (.inr rfl) (by kernel_rfl)
 refine rn [0, 1, 5] 0 [] [] ?_
 refine bl ?_
 refine lo ((List SParam) × Int × Int) k (fun k x => laws_markParamS_1.l1 k  x.1 x.2.1 x.2.2) (fun x => ⟨29, [(0, o1 (.own 43 (List.map eSParam x.1))), (1, oI x.2.1), (5, oI x.2.2)], [], 0, [0]⟩) (a0_1, a1, 0) h17 fun k x h17 IH14 => ?_
 obtain ⟨z6, z7, z8⟩ := x
 rw [laws_markParamS_1.l1.eq_2] at h17
 refine sq ?_
 refine rn [0, 1, 5, 9] 0 [] [hL 2 eSParam z6] ?_
 refine ci h17 (fun h9 h17 => ?_) fun h9 h17 => ?_
 ·refine sk ?_
  refine sq ?_
  refine bl ?_
  obtain ⟨x10, h11, h17⟩ := bs h17
  refine rn [0, 1, 5] 0 [] [hE 3 eSParam h11, hF 4 eSParam h11, hW 5 (.t 0 0) 43 eSParam h11 (⟨z7, x10.f1⟩ : SParam)] ?_
  refine rn [0, 1, 5] 0 [] [] ?_
  obtain ⟨x12, h13, h17⟩ := bs h17
  refine rn [0, 1, 5] 0 [] [p1 (show (3 : Int) ≠ 0 by decide), hE 5 eSParam h13, hF 6 eSParam h13, hW 7 (.t 0 0) 43 eSParam h13 (⟨x12.f0, (decide ((Int.tmod (w64 (z7 + 1)) 3) = 0))⟩ : SParam)] ?_
  refine rl [0, 1, 5] 0 [] [] ?_
  refine rl [0, 1, 5] 0 [] [] ?_
  exact lb IH14 ((z6.set (Int.toNat z8) (⟨z7, x10.f1⟩ : SParam)).set (Int.toNat z8) (⟨x12.f0, (decide ((Int.tmod (w64 (z7 + 1)) 3) = 0))⟩ : SParam), w64 ((w64 (z7 + 1)) + 1), w64 (z8 + 1)) h17
 refine fx [0, 1] 0 [] ?_
 refine xi ?_
 exact pf (z6, z7) h17
end Go.Proofs.YtoclajfeeebbbabGreatDoor.E
