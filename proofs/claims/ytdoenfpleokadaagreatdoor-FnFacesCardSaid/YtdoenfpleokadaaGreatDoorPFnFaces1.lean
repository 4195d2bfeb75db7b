/- Functions of the program and their contracts: printed by ep3.py, a program of this session. -/
import Derived.Test.YtdoenfpleokadaaGreatDoorPFnFaces0
import Derived.Test.YtdoenfpleokadaaGreatDoorProg
set_option linter.unusedVariables false
set_option linter.unusedSectionVars false
set_option linter.unusedSimpArgs false
namespace Go.Proofs.YtdoenfpleokadaaGreatDoor.E
open Go.RowKit
/-! impl_reader__number_2: function 128 -/
def impl_reader__number_2.l1 : Nat → (ByteArray × Int × Bool) → Int → Int → Option (Int × Int × Bool)
  | 0, _, _, _ => none
  | k + 1, r1, z6, z7 => if z7 < ((bytesOf r1.1).length : Int) then ((at? (bytesOf r1.1) z7).bind fun x9 => impl_reader__number_2.l1 k r1 (ior .i64 (ishl .i64 z6 8) (w64 (x9))) (w64 (z7 + 1))) else (some (z6, r1.2.1, r1.2.2))
def impl_reader__number_2.e2 (k : Nat) (a1 : Int) (b0 : S3ddd55) : Option (Int × Int × Bool) := (impl_reader__take_2.f k a1 b0).bind fun r1 => impl_reader__number_2.l1 k r1 0 0
def impl_reader__number_2.f (k : Nat) (a1 : Int) (b0 : S3ddd55) : Option (Int × Int × Bool) := (impl_reader__number_2.e2 k a1 b0).bind fun v => match v with | (y12, y13, y14) => some (y12, y13, y14)
set_option maxRecDepth 100000 in
theorem impl_reader__number_2.fn (k : Nat) (a1 : Int) (b0 : S3ddd55) (r : (Int × Int × Bool)) (H : impl_reader__number_2.f k a1 b0 = some r) : FnG Tryz.prog 128 [o1 (.ref 0 0), oI a1] [] [eS3ddd55 b0] (oI r.1) [] [[cS b0.f0, cI r.2.1, cB r.2.2]] := by
  unfold impl_reader__number_2.f at H
  refine FnG.body (ts := [4]) Tryz.func128 rfl rfl (by decide) (by decide) (Nat.le_of_ble_eq_true rfl) rfl (Nat.le_of_ble_eq_true rfl) ?_
  refine Tri.rn [0, 1] 1 [] [] [] ⟨24, [(0, o1 (.ref 0 0)), (1, oI a1)], [eS3ddd55 b0], 1, []⟩ (by kernel_rfl) trivial ?_
  refine Tri.rn [0, 1, 5] 1 [] [] [] ⟨24, [(0, o1 (.ref 0 0)), (1, oI a1), (5, oI 0)], [eS3ddd55 b0], 1, []⟩ (by kernel_rfl) trivial ?_
  obtain ⟨v16, h15, H⟩ := bind_some' H
  refine Tri.join (α := (Int × Int × Bool)) (fun w => v16 = w) (fun w => ⟨24, [(5, oI w.1)], [[cS b0.f0, cI w.2.1, cB w.2.2]], 1, []⟩) (fun w hw => ?_) ?_
  · rw [hw] at H; clear hw
    obtain ⟨y12, y13, y14⟩ := w
    try dsimp only at H
    refine Tri.rn [4] 1 [] [] [] ⟨24, [(4, oI y12)], [[cS b0.f0, cI y13, cB y14]], 1, []⟩ (by kernel_rfl) trivial ?_
    refine Tri.ret ?_
    obtain rfl := Option.some.inj H
    exact endsG (.inr rfl) (by kernel_rfl)
  · unfold impl_reader__number_2.e2 at h15
    obtain ⟨r1, h2, h15⟩ := bind_some' h15
    refine Tri.rn [5, 11, 12, 13] 1 [] [(2, .callB (oS r1.1) [] [0] none [] [[cS b0.f0, cI r1.2.1, cB r1.2.2]]), (4, .ov [.sc (.int .i64 ((bytesOf r1.1).length : Int))])] [_, _] ⟨24, [(5, oI 0), (11, o1 (.sl 1 (List.map (eK .u8) (bytesOf r1.1)))), (12, oI ((bytesOf r1.1).length : Int)), (13, oI 0)], [[cS b0.f0, cI r1.2.1, cB r1.2.2]], 1, []⟩ (by kernel_rfl) ⟨(impl_reader__take_2.fn k a1 b0 r1 h2), (ovlen (f := (eK .u8)) (l := bytesOf r1.1)), trivial⟩ ?_
    refine Tri.block ?_
    refine Tri.loop k (TriR.ind (α := (Int × Int)) (fun k x => impl_reader__number_2.l1 k r1 x.1 x.2) (fun x => ⟨24, [(5, oI x.1), (11, o1 (.sl 1 (List.map (eK .u8) (bytesOf r1.1)))), (12, oI ((bytesOf r1.1).length : Int)), (13, oI x.2)], [[cS b0.f0, cI r1.2.1, cB r1.2.2]], 1, []⟩) (fun _ => rfl) (fun k x h15 IH11 => ?_) k (0, 0) h15)
    obtain ⟨z6, z7⟩ := x
    rw [impl_reader__number_2.l1.eq_2] at h15
    refine Tri.rn [5, 11, 12, 13, 14] 1 [] [] [] ⟨24, [(5, oI z6), (11, o1 (.sl 1 (List.map (eK .u8) (bytesOf r1.1)))), (12, oI ((bytesOf r1.1).length : Int)), (13, oI z7), (14, oB (decide (z7 < ((bytesOf r1.1).length : Int))))], [[cS b0.f0, cI r1.2.1, cB r1.2.2]], 1, []⟩ (by kernel_rfl) trivial ?_
    refine Tri.seq ?_
    rcases ite_some h15 with ⟨h8, h15⟩ | ⟨h8, h15⟩
    · refine Tri.cond_true (useb (decide_eq_true h8) (by kernel_rfl)) ?_
      refine Tri.skip ?_
      refine Tri.seq ?_
      refine Tri.block ?_
      obtain ⟨x9, h10, h15⟩ := bind_some' h15
      refine Tri.rn [5, 7, 11, 12, 13] 1 [] [(0, .el ((eK .u8) x9))] [_, _] ⟨24, [(5, oI z6), (7, o1 (cK .u8 x9)), (11, o1 (.sl 1 (List.map (eK .u8) (bytesOf r1.1)))), (12, oI ((bytesOf r1.1).length : Int)), (13, oI z7)], [[cS b0.f0, cI r1.2.1, cB r1.2.2]], 1, []⟩ (by kernel_rfl) ⟨(at?_0 h10), (at?_map (f := (eK .u8)) h10), trivial⟩ ?_
      refine Tri.r1 [5, 11, 12, 13] 1 [] [] [_] ⟨24, [(5, oI (ior .i64 (ishl .i64 z6 8) (w64 (x9)))), (11, o1 (.sl 1 (List.map (eK .u8) (bytesOf r1.1)))), (12, oI ((bytesOf r1.1).length : Int)), (13, oI z7)], [[cS b0.f0, cI r1.2.1, cB r1.2.2]], 1, []⟩ (by kernel_rfl) ⟨(show (0 : Int) ≤ 8 by decide), trivial⟩ ?_
      refine Tri.r1 [5, 11, 12, 13] 1 [] [] [] ⟨24, [(5, oI (ior .i64 (ishl .i64 z6 8) (w64 (x9)))), (11, o1 (.sl 1 (List.map (eK .u8) (bytesOf r1.1)))), (12, oI ((bytesOf r1.1).length : Int)), (13, oI (w64 (z7 + 1)))], [[cS b0.f0, cI r1.2.1, cB r1.2.2]], 1, []⟩ (by kernel_rfl) trivial ?_
      exact IH11 _ (ior .i64 (ishl .i64 z6 8) (w64 (x9)), w64 (z7 + 1)) (Nat.le_refl _) h15
    · refine Tri.cond_false (useb (decide_eq_false h8) (by kernel_rfl)) ?_
      refine Tri.fix [5] 1 [] ⟨24, [(5, oI z6)], [[cS b0.f0, cI r1.2.1, cB r1.2.2]], 1, []⟩ (by kernel_rfl) ?_
      refine Tri.exit ?_
      repeat (with_reducible refine Ex.exit ?_)
      refine Bk.here ?_
      exact ⟨(z6, r1.2.1, r1.2.2), (Option.some.inj h15).symm, rfl⟩
/-! impl_reader__text_2: function 127 -/
def impl_reader__text_2.f (k : Nat) (b0 : S3ddd55) : Option (ByteArray × Int × Bool) := (impl_reader__number_2.f k 1 b0).bind fun r1 => (impl_reader__take_2.f k r1.1 (⟨b0.f0, r1.2.1, r1.2.2⟩ : S3ddd55)).bind fun r3 => some (r3.1, r3.2.1, r3.2.2)
set_option maxRecDepth 100000 in
theorem impl_reader__text_2.fn (k : Nat) (b0 : S3ddd55) (r : (ByteArray × Int × Bool)) (H : impl_reader__text_2.f k b0 = some r) : FnG Tryz.prog 127 [o1 (.ref 0 0)] [] [eS3ddd55 b0] (oS r.1) [] [[cS b0.f0, cI r.2.1, cB r.2.2]] := by
  unfold impl_reader__text_2.f at H
  refine FnG.body (ts := [2]) Tryz.func127 rfl rfl (by decide) (by decide) (Nat.le_of_ble_eq_true rfl) rfl (Nat.le_of_ble_eq_true rfl) ?_
  refine Tri.rn [0] 1 [] [] [] ⟨7, [(0, o1 (.ref 0 0))], [eS3ddd55 b0], 1, []⟩ (by kernel_rfl) trivial ?_
  obtain ⟨r1, h2, H⟩ := bind_some' H
  obtain ⟨r3, h4, H⟩ := bind_some' H
  refine Tri.rn [2] 1 [] [(2, .callB (oI r1.1) [] [0] none [] [[cS b0.f0, cI r1.2.1, cB r1.2.2]]), (3, .callB (oS r3.1) [] [0] none [] [[cS b0.f0, cI r3.2.1, cB r3.2.2]])] [_, _] ⟨7, [(2, oS r3.1)], [[cS b0.f0, cI r3.2.1, cB r3.2.2]], 1, []⟩ (by kernel_rfl) ⟨(impl_reader__number_2.fn k 1 b0 r1 h2), (impl_reader__take_2.fn k r1.1 (⟨b0.f0, r1.2.1, r1.2.2⟩ : S3ddd55) r3 h4), trivial⟩ ?_
  refine Tri.ret ?_
  obtain rfl := Option.some.inj H
  exact endsG (.inr rfl) (by kernel_rfl)
/-! impl_reader__ends_1: function 129 -/
def impl_reader__ends_1.e1 (k : Nat) (a0_1 : S3ddd55) : Option Bool := if a0_1.f2 = true then (some false) else (some (decide (a0_1.f1 = (a0_1.f0.size : Int))))
def impl_reader__ends_1.f (k : Nat) (a0_1 : S3ddd55) : Option Bool := (impl_reader__ends_1.e1 k a0_1).bind fun y2 => some y2
set_option maxRecDepth 100000 in
theorem impl_reader__ends_1.fn (k : Nat) (a0_1 : S3ddd55) (r : Bool) (H : impl_reader__ends_1.f k a0_1 = some r) : Fn Tryz.prog 129 [o1 (.cel (eS3ddd55 a0_1) 0)] [] (oB r) [] := by
  unfold impl_reader__ends_1.f at H
  refine Fn.body (ts := [2]) Tryz.func129 rfl rfl (by decide) (by decide) (Nat.le_of_ble_eq_true rfl) (Nat.le_refl _) ?_
  refine Tri.rn [0] 0 [] [] [] ⟨20, [(0, o1 (.cel (eS3ddd55 a0_1) 0))], [], 0, []⟩ (by kernel_rfl) trivial ?_
  obtain ⟨v4, h3, H⟩ := bind_some' H
  refine Tri.join (α := Bool) (fun w => v4 = w) (fun y2 => ⟨20, [(2, oB y2)], [], 0, []⟩) (fun y2 hw => ?_) ?_
  · rw [hw] at H; clear hw
    try dsimp only at H
    refine Tri.ret ?_
    obtain rfl := Option.some.inj H
    exact ⟨.inr rfl, rfl, rfl, Nat.le_refl _, rfl, by simp⟩
  · unfold impl_reader__ends_1.e1 at h3
    rcases iteb_some h3 with ⟨h1, h3⟩ | ⟨h1, h3⟩
    · refine Tri.d1 hmix 15 [[], [0], [0, 1], [0, 1, 2], [0, 1, 2, 3], [0, 1, 2, 3, 4], [0, 1, 2, 3, 4, 5], [0, 1, 2, 3, 4, 5, 6], [0, 1, 2, 3, 4, 5, 6, 7], [0, 1, 2, 3, 4, 5, 6, 7, 8], [0, 1, 2, 3, 4, 5], [0, 1, 2, 3, 4, 5, 10], [0, 1, 2, 3, 4, 5, 10, 11], [0, 1, 2, 3, 4, 5, 10, 11, 12], [0, 1, 2, 3, 4, 5, 10, 11, 12, 13], [0, 1, 2, 3, 4, 5, 6, 7, 8, 9, 10, 11, 12, 13, 14], [0, 1, 2, 3, 4, 5, 6, 7, 8, 9, 10, 11, 12, 13, 14, 15], [0, 1, 2, 3, 4, 5, 6, 7, 8, 9, 10, 11, 12, 13, 14, 15, 16]] [2] 0 [] [(3, .ov [.sc (.bool true)])] [_] ⟨20, [(2, oB false)], [], 0, []⟩ (by kernel_rfl) ⟨(ovb h1), trivial⟩ ?_
      exact ⟨false, (Option.some.inj h3).symm, rfl⟩
    · refine Tri.d1 hmix 15 [[], [0], [0, 1], [0, 1, 2], [0, 1, 2, 3], [0, 1, 2, 3, 4], [0, 1, 2, 3, 4, 5], [0, 1, 2, 3, 4, 5, 6], [0, 1, 2, 3, 4, 5, 6, 7], [0, 1, 2, 3, 4, 5, 6, 7, 8], [0, 1, 2, 3, 4, 5], [0, 1, 2, 3, 4, 5, 10], [0, 1, 2, 3, 4, 5, 10, 11], [0, 1, 2, 3, 4, 5, 10, 11, 12], [0, 1, 2, 3, 4, 5, 10, 11, 12, 13], [0, 1, 2, 3, 4, 5, 6, 7, 8, 9, 10, 11, 12, 13, 14], [0, 1, 2, 3, 4, 5, 6, 7, 8, 9, 10, 11, 12, 13, 14, 15], [0, 1, 2, 3, 4, 5, 6, 7, 8, 9, 10, 11, 12, 13, 14, 15, 16]] [2] 0 [] [(3, .ov [.sc (.bool false)])] [_] ⟨20, [(2, oB (decide (a0_1.f1 = (a0_1.f0.size : Int))))], [], 0, []⟩ (by kernel_rfl) ⟨(ovb h1), trivial⟩ ?_
      exact ⟨(decide (a0_1.f1 = (a0_1.f0.size : Int))), (Option.some.inj h3).symm, rfl⟩
/-! impl_readInterface: function 66 -/
def impl_readInterface.l1 : Nat → ByteArray → (Int × Int × Bool) → Int → Int → Bool → (List SParam) → Option (Int × Bool × (List SParam))
  | 0, _, _, _, _, _, _ => none
  | k + 1, a0, r113, z126, z127, z128, z129 => if z126 < r113.1 then ((impl_reader__number_2.f k 1 (⟨a0, z127, z128⟩ : S3ddd55)).bind fun r131 => if (z129 ++ ([(⟨iandn .i64 r131.1 8, (!(decide ((iand .i64 r131.1 8) = 0)))⟩ : SParam)] : List SParam)).length * 16 ≤ 140737488355328 then (impl_readInterface.l1 k a0 r113 (w64 (z126 + 1)) r131.2.1 r131.2.2 (z129 ++ ([(⟨iandn .i64 r131.1 8, (!(decide ((iand .i64 r131.1 8) = 0)))⟩ : SParam)] : List SParam))) else none) else (some (z127, z128, z129))
def impl_readInterface.e2 (k : Nat) (a0 : ByteArray) (r111 : (ByteArray × Int × Bool)) : Option (Int × Bool × (List SParam)) := (impl_reader__number_2.f k 1 (⟨a0, r111.2.1, r111.2.2⟩ : S3ddd55)).bind fun r113 => impl_readInterface.l1 k a0 r113 0 r113.2.1 r113.2.2 ([] : List SParam)
def impl_readInterface.e3 (k : Nat) (a0 : ByteArray) (z99 : Int) (z100 : Bool) (z101 : (List SItem)) : Option (Int × Bool × (List SItem)) := (impl_reader__number_2.f k 1 (⟨a0, z99, z100⟩ : S3ddd55)).bind fun r103 => (impl_reader__number_2.f k 1 (⟨a0, r103.2.1, r103.2.2⟩ : S3ddd55)).bind fun r105 => (impl_reader__number_2.f k 1 (⟨a0, r105.2.1, r105.2.2⟩ : S3ddd55)).bind fun r107 => (impl_reader__number_2.f k 8 (⟨a0, r107.2.1, r107.2.2⟩ : S3ddd55)).bind fun r109 => (impl_reader__text_2.f k (⟨a0, r109.2.1, r109.2.2⟩ : S3ddd55)).bind fun r111 => (impl_readInterface.e2 k a0 r111).bind fun v => match v with | (y135, y136, y137) => if (z101 ++ ([(⟨r103.1, r105.1, r107.1, r109.1, r111.1, y137⟩ : SItem)] : List SItem)).length * 72 ≤ 140737488355328 then (some (y135, y136, z101 ++ ([(⟨r103.1, r105.1, r107.1, r109.1, r111.1, y137⟩ : SItem)] : List SItem))) else none
def impl_readInterface.l4 : Nat → ByteArray → (Int × Int × Bool) → Int → Int → Bool → (List SItem) → Option (Int × Bool × (List SItem))
  | 0, _, _, _, _, _, _ => none
  | k + 1, a0, r5, z98, z99, z100, z101 => if z98 < r5.1 then ((impl_readInterface.e3 k a0 z99 z100 z101).bind fun v => match v with | (y141, y142, y143) => impl_readInterface.l4 k a0 r5 (w64 (z98 + 1)) y141 y142 y143) else (some (z99, z100, z101))
def impl_readInterface.e5 (k : Nat) (a0 : ByteArray) (r3 : (ByteArray × Int × Bool)) : Option (Int × Bool × (List SItem)) := (impl_reader__number_2.f k 1 (⟨a0, r3.2.1, r3.2.2⟩ : S3ddd55)).bind fun r5 => impl_readInterface.l4 k a0 r5 0 r5.2.1 r5.2.2 ([] : List SItem)
def impl_readInterface.e6 (k : Nat) (a0 : ByteArray) (r3 : (ByteArray × Int × Bool)) (y147 : Int) (y148 : Bool) (y149 : (List SItem)) : Option Bool := (impl_reader__ends_1.f k (⟨a0, y147, y148⟩ : S3ddd55)).bind fun r152 => if r152 = true then ((impl_InterfaceOK.f k (⟨r3.1, y149⟩ : SFace)).bind fun r155 => some r155) else (some false)
def impl_readInterface.f (k : Nat) (a0 : ByteArray) : Option (SFace × Bool × ByteArray × (List SItem)) := (impl_reader__head_2.f k (⟨#[79, 73, 49]⟩ : ByteArray) (⟨a0, 0, false⟩ : S3ddd55)).bind fun r1 => (impl_reader__text_2.f k (⟨a0, r1.1, r1.2⟩ : S3ddd55)).bind fun r3 => (impl_readInterface.e5 k a0 r3).bind fun v => match v with | (y147, y148, y149) => (impl_readInterface.e6 k a0 r3 y147 y148 y149).bind fun y157 => some ((⟨r3.1, y149⟩ : SFace), y157, r3.1, y149)
set_option maxRecDepth 100000 in
theorem impl_readInterface.fn (k : Nat) (a0 : ByteArray) (r : (SFace × Bool × ByteArray × (List SItem))) (H : impl_readInterface.f k a0 = some r) : Fn Tryz.prog 66 [oS a0] [] (tp [some 2, none] [cS r.1.f0, .sl 6 (List.map eSItem r.1.f1), cB r.2.1]) [] := by
  unfold impl_readInterface.f at H
  refine FnG.fn (FnG.bodyR (rv := [(2, some 30), (3, none)]) Tryz.func66 rfl rfl (by decide) (by decide) (Nat.le_of_ble_eq_true rfl) rfl (Nat.le_of_ble_eq_true rfl) ?_)
  refine Tri.rn [0, 2] 1 [] [] [] ⟨63, [(0, oS a0), (2, o1 (.ref 0 0))], [[cS (⟨#[]⟩ : ByteArray), .nl]], 0, []⟩ (by kernel_rfl) trivial ?_
  refine Tri.rn [2, 4] 2 [] [] [] ⟨63, [(2, o1 (.ref 0 0)), (4, o1 (.ref 1 0))], [[cS (⟨#[]⟩ : ByteArray), .nl], [cS a0, cI 0, cB false]], 0, []⟩ (by kernel_rfl) trivial ?_
  obtain ⟨r1, h2, H⟩ := bind_some' H
  refine Tri.rn [2, 4] 2 [] [(1, .callB (tp [] []) [] [1] none [] [[cS a0, cI r1.1, cB r1.2]])] [_] ⟨63, [(2, o1 (.ref 0 0)), (4, o1 (.ref 1 0))], [[cS (⟨#[]⟩ : ByteArray), .nl], [cS a0, cI r1.1, cB r1.2]], 0, []⟩ (by kernel_rfl) ⟨(impl_reader__head_2.fn k (⟨#[79, 73, 49]⟩ : ByteArray) (⟨a0, 0, false⟩ : S3ddd55) r1 h2), trivial⟩ ?_
  obtain ⟨r3, h4, H⟩ := bind_some' H
  refine Tri.rn [2, 4, 5] 3 [] [(1, .callB (oS r3.1) [] [1] none [] [[cS a0, cI r3.2.1, cB r3.2.2]])] [_] ⟨63, [(2, o1 (.ref 0 0)), (4, o1 (.ref 1 0)), (5, o1 (.ref 2 0))], [[cS (⟨#[]⟩ : ByteArray), .nl], [cS a0, cI r3.2.1, cB r3.2.2], [cS r3.1, .nl]], 0, []⟩ (by kernel_rfl) ⟨(impl_reader__text_2.fn k (⟨a0, r1.1, r1.2⟩ : S3ddd55) r3 h4), trivial⟩ ?_
  obtain ⟨v151, h150, H⟩ := bind_some' H
  refine Tri.join (α := (Int × Bool × (List SItem))) (fun w => v151 = w) (fun w => ⟨63, [(2, o1 (.ref 0 0)), (4, o1 (.ref 1 0)), (5, o1 (.ref 2 0))], [[cS (⟨#[]⟩ : ByteArray), .nl], [cS a0, cI w.1, cB w.2.1], [cS r3.1, .own 98 (List.map eSItem w.2.2)]], 0, []⟩) (fun w hw => ?_) ?_
  · rw [hw] at H; clear hw
    obtain ⟨y147, y148, y149⟩ := w
    try dsimp only at H
    obtain ⟨v159, h158, H⟩ := bind_some' H
    refine Tri.join (α := Bool) (fun w => v159 = w) (fun y157 => ⟨63, [(2, o1 (.ref 0 0)), (3, oB y157)], [[cS r3.1, .sl 6 (List.map eSItem y149)]], 0, []⟩) (fun y157 hw => ?_) ?_
    · rw [hw] at H; clear hw
      try dsimp only at H
      refine Tri.ret ?_
      obtain rfl := Option.some.inj H
      exact endsR (.inr rfl) (by kernel_rfl)
    · unfold impl_readInterface.e6 at h158
      refine Tri.fix [2, 4, 5] 3 [.frz (.b 2 1)] ⟨63, [(2, o1 (.ref 0 0)), (4, o1 (.ref 1 0)), (5, o1 (.ref 2 0))], [[cS (⟨#[]⟩ : ByteArray), .nl], [cS a0, cI y147, cB y148], [cS r3.1, .sl 6 (List.map eSItem y149)]], 0, []⟩ (by kernel_rfl) ?_
      obtain ⟨r152, h153, h158⟩ := bind_some' h158
      rcases iteb_some h158 with ⟨h154, h158⟩ | ⟨h154, h158⟩
      · obtain ⟨r155, h156, h158⟩ := bind_some' h158
        refine Tri.dE hmix [[], [], [1], [1, 2], [1, 2, 3], [1, 2, 3, 4], [1, 2, 3, 4, 5], [0, 1, 2, 3, 4, 5], [0, 1, 2, 3, 4, 5, 6, 7]] [7] [⟨63, [(2, o1 (.ref 0 0)), (4, o1 (.ref 1 0)), (5, o1 (.ref 2 0))], [[cS r3.1, .sl 6 (List.map eSItem y149)], [cS a0, cI y147, cB y148], [cS r3.1, .sl 6 (List.map eSItem y149)]], 0, []⟩] [(56, ag [cS r3.1, .sl 6 (List.map eSItem y149)]), (57, o1 (.ref 1 0)), (58, oB true), (59, oB true), (60, ag [cS r3.1, .sl 6 (List.map eSItem y149)]), (61, oB r155), (62, oB r155), (55, ⟨.any, []⟩)] [2, 3] 1 [] [(2, .call (oB r152) [] false), (2, .ov [.sc (.bool true)]), (5, .call (oB r155) [] false)] [] [_, _, _, _, _, _, _, _, _, _, _, _, _, _, _] ⟨63, [(2, o1 (.ref 0 0)), (3, oB r155)], [[cS r3.1, .sl 6 (List.map eSItem y149)]], 0, []⟩ (by kernel_rfl) ⟨(rfl : ((63, 0, []) : Nat × Nat × List Nat) = ((63, 0, []) : Nat × Nat × List Nat)), (rfl : (ag [cS r3.1, .sl 6 (List.map eSItem y149)] : PV) = (ag [cS r3.1, .sl 6 (List.map eSItem y149)] : PV)), (rfl : (o1 (.ref 1 0) : PV) = (o1 (.ref 1 0) : PV)), (impl_reader__ends_1.fn k (⟨a0, y147, y148⟩ : S3ddd55) r152 h153), (show (List.all [cB r152] PC.flatB) = true from rfl), (ovb h154), (rfl : (oB true : PV) = (oB true : PV)), (rfl : (oB true : PV) = (oB true : PV)), (rfl : (ag [cS r3.1, .sl 6 (List.map eSItem y149)] : PV) = (ag [cS r3.1, .sl 6 (List.map eSItem y149)] : PV)), (impl_InterfaceOK.fn k (⟨r3.1, y149⟩ : SFace) r155 h156), (show (List.all [cB r155] PC.flatB) = true from rfl), (rfl : (oB r155 : PV) = (oB r155 : PV)), (rfl : (oB r155 : PV) = (oB r155 : PV)), (rfl : (oB r155 : PV) = (oB r155 : PV)), (rfl : (([some (⟨.any, []⟩), some (ag [cS r3.1, .sl 6 (List.map eSItem y149)]), some (o1 (.ref 1 0)), some (oB true), some (oB true), some (ag [cS r3.1, .sl 6 (List.map eSItem y149)]), some (oB r155), some (o1 (.ref 0 0)), some (o1 (.ref 1 0)), some (o1 (.ref 2 0))], [[cS r3.1, .sl 6 (List.map eSItem y149)], [cS a0, cI y147, cB y148], [cS r3.1, .sl 6 (List.map eSItem y149)]], 63, 0, []) : List (Option PV) × List (List PC) × Nat × Nat × List Nat) = (([some (⟨.any, []⟩), some (ag [cS r3.1, .sl 6 (List.map eSItem y149)]), some (o1 (.ref 1 0)), some (oB true), some (oB true), some (ag [cS r3.1, .sl 6 (List.map eSItem y149)]), some (oB r155), some (o1 (.ref 0 0)), some (o1 (.ref 1 0)), some (o1 (.ref 2 0))], [[cS r3.1, .sl 6 (List.map eSItem y149)], [cS a0, cI y147, cB y148], [cS r3.1, .sl 6 (List.map eSItem y149)]], 63, 0, []) : List (Option PV) × List (List PC) × Nat × Nat × List Nat)), trivial⟩ ?_
        exact ⟨r155, (Option.some.inj h158).symm, rfl⟩
      · refine Tri.dE hmix [[], [], [1], [1, 2], [1, 2, 3], [1, 2, 3, 4], [1, 2, 3, 4, 5], [0, 1, 2, 3, 4, 5], [0, 1, 2, 3, 4, 5, 6, 7]] [7] [⟨63, [(2, o1 (.ref 0 0)), (4, o1 (.ref 1 0)), (5, o1 (.ref 2 0))], [[cS r3.1, .sl 6 (List.map eSItem y149)], [cS a0, cI y147, cB y148], [cS r3.1, .sl 6 (List.map eSItem y149)]], 0, []⟩] [(56, ag [cS r3.1, .sl 6 (List.map eSItem y149)]), (57, o1 (.ref 1 0)), (58, oB false), (59, oB false), (60, tp [] []), (61, tp [] []), (62, oB false), (55, ⟨.any, []⟩)] [2, 3] 1 [] [(2, .call (oB r152) [] false), (2, .ov [.sc (.bool false)])] [] [_, _, _, _, _, _, _, _, _, _, _, _, _] ⟨63, [(2, o1 (.ref 0 0)), (3, oB false)], [[cS r3.1, .sl 6 (List.map eSItem y149)]], 0, []⟩ (by kernel_rfl) ⟨(rfl : ((63, 0, []) : Nat × Nat × List Nat) = ((63, 0, []) : Nat × Nat × List Nat)), (rfl : (ag [cS r3.1, .sl 6 (List.map eSItem y149)] : PV) = (ag [cS r3.1, .sl 6 (List.map eSItem y149)] : PV)), (rfl : (o1 (.ref 1 0) : PV) = (o1 (.ref 1 0) : PV)), (impl_reader__ends_1.fn k (⟨a0, y147, y148⟩ : S3ddd55) r152 h153), (show (List.all [cB r152] PC.flatB) = true from rfl), (ovb h154), (rfl : (oB false : PV) = (oB false : PV)), (rfl : (oB false : PV) = (oB false : PV)), (rfl : (tp [] [] : PV) = (tp [] [] : PV)), (rfl : (tp [] [] : PV) = (tp [] [] : PV)), (rfl : (oB false : PV) = (oB false : PV)), (rfl : (oB false : PV) = (oB false : PV)), (rfl : (([some (⟨.any, []⟩), some (ag [cS r3.1, .sl 6 (List.map eSItem y149)]), some (o1 (.ref 1 0)), some (oB false), some (oB false), some (tp [] []), some (tp [] []), some (o1 (.ref 0 0)), some (o1 (.ref 1 0)), some (o1 (.ref 2 0))], [[cS r3.1, .sl 6 (List.map eSItem y149)], [cS a0, cI y147, cB y148], [cS r3.1, .sl 6 (List.map eSItem y149)]], 63, 0, []) : List (Option PV) × List (List PC) × Nat × Nat × List Nat) = (([some (⟨.any, []⟩), some (ag [cS r3.1, .sl 6 (List.map eSItem y149)]), some (o1 (.ref 1 0)), some (oB false), some (oB false), some (tp [] []), some (tp [] []), some (o1 (.ref 0 0)), some (o1 (.ref 1 0)), some (o1 (.ref 2 0))], [[cS r3.1, .sl 6 (List.map eSItem y149)], [cS a0, cI y147, cB y148], [cS r3.1, .sl 6 (List.map eSItem y149)]], 63, 0, []) : List (Option PV) × List (List PC) × Nat × Nat × List Nat)), trivial⟩ ?_
        exact ⟨false, (Option.some.inj h158).symm, rfl⟩
  · unfold impl_readInterface.e5 at h150
    obtain ⟨r5, h6, h150⟩ := bind_some' h150
    refine Tri.rn [2, 4, 5, 17, 18] 3 [] [(1, .callB (oI r5.1) [] [1] none [] [[cS a0, cI r5.2.1, cB r5.2.2]])] [_] ⟨63, [(2, o1 (.ref 0 0)), (4, o1 (.ref 1 0)), (5, o1 (.ref 2 0)), (17, oI r5.1), (18, oI 0)], [[cS (⟨#[]⟩ : ByteArray), .nl], [cS a0, cI r5.2.1, cB r5.2.2], [cS r3.1, .nl]], 0, []⟩ (by kernel_rfl) ⟨(impl_reader__number_2.fn k 1 (⟨a0, r3.2.1, r3.2.2⟩ : S3ddd55) r5 h6), trivial⟩ ?_
    refine Tri.block ?_
    refine Tri.fix [2, 4, 5, 17, 18] 3 [.own (.b 2 1) 98] ⟨63, [(2, o1 (.ref 0 0)), (4, o1 (.ref 1 0)), (5, o1 (.ref 2 0)), (17, oI r5.1), (18, oI 0)], [[cS (⟨#[]⟩ : ByteArray), .nl], [cS a0, cI r5.2.1, cB r5.2.2], [cS r3.1, .own 98 (List.map eSItem ([] : List SItem))]], 0, []⟩ (by kernel_rfl) ?_
    refine Tri.loop k (TriR.ind (α := (Int × Int × Bool × (List SItem))) (fun k x => impl_readInterface.l4 k a0 r5 x.1 x.2.1 x.2.2.1 x.2.2.2) (fun x => ⟨63, [(2, o1 (.ref 0 0)), (4, o1 (.ref 1 0)), (5, o1 (.ref 2 0)), (17, oI r5.1), (18, oI x.1)], [[cS (⟨#[]⟩ : ByteArray), .nl], [cS a0, cI x.2.1, cB x.2.2.1], [cS r3.1, .own 98 (List.map eSItem x.2.2.2)]], 0, []⟩) (fun _ => rfl) (fun k x h150 IH146 => ?_) k (0, r5.2.1, r5.2.2, ([] : List SItem)) h150)
    obtain ⟨z98, z99, z100, z101⟩ := x
    rw [impl_readInterface.l4.eq_2] at h150
    refine Tri.rn [2, 4, 5, 17, 18, 19] 3 [] [] [] ⟨63, [(2, o1 (.ref 0 0)), (4, o1 (.ref 1 0)), (5, o1 (.ref 2 0)), (17, oI r5.1), (18, oI z98), (19, oB (decide (z98 < r5.1)))], [[cS (⟨#[]⟩ : ByteArray), .nl], [cS a0, cI z99, cB z100], [cS r3.1, .own 98 (List.map eSItem z101)]], 0, []⟩ (by kernel_rfl) trivial ?_
    refine Tri.seq ?_
    rcases ite_some h150 with ⟨h102, h150⟩ | ⟨h102, h150⟩
    · refine Tri.cond_true (useb (decide_eq_true h102) (by kernel_rfl)) ?_
      refine Tri.skip ?_
      obtain ⟨v145, h144, h150⟩ := bind_some' h150
      refine Tri.join (α := (Int × Bool × (List SItem))) (fun w => v145 = w) (fun w => ⟨63, [(2, o1 (.ref 0 0)), (4, o1 (.ref 1 0)), (5, o1 (.ref 2 0)), (17, oI r5.1), (18, oI z98)], [[cS (⟨#[]⟩ : ByteArray), .nl], [cS a0, cI w.1, cB w.2.1], [cS r3.1, .own 98 (List.map eSItem w.2.2)]], 0, []⟩) (fun w hw => ?_) ?_
      · rw [hw] at h150; clear hw
        obtain ⟨y141, y142, y143⟩ := w
        try dsimp only at h150
        refine Tri.r1 [2, 4, 5, 17, 18] 3 [] [] [] ⟨63, [(2, o1 (.ref 0 0)), (4, o1 (.ref 1 0)), (5, o1 (.ref 2 0)), (17, oI r5.1), (18, oI (w64 (z98 + 1)))], [[cS (⟨#[]⟩ : ByteArray), .nl], [cS a0, cI y141, cB y142], [cS r3.1, .own 98 (List.map eSItem y143)]], 0, []⟩ (by kernel_rfl) trivial ?_
        exact IH146 _ (w64 (z98 + 1), y141, y142, y143) (Nat.le_refl _) h150
      · unfold impl_readInterface.e3 at h144
        refine Tri.block ?_
        obtain ⟨r103, h104, h144⟩ := bind_some' h144
        obtain ⟨r105, h106, h144⟩ := bind_some' h144
        obtain ⟨r107, h108, h144⟩ := bind_some' h144
        obtain ⟨r109, h110, h144⟩ := bind_some' h144
        obtain ⟨r111, h112, h144⟩ := bind_some' h144
        refine Tri.rn [2, 4, 5, 6, 17, 18] 4 [] [(1, .callB (oI r103.1) [] [1] none [] [[cS a0, cI r103.2.1, cB r103.2.2]]), (3, .callB (oI r105.1) [] [1] none [] [[cS a0, cI r105.2.1, cB r105.2.2]]), (5, .callB (oI r107.1) [] [1] none [] [[cS a0, cI r107.2.1, cB r107.2.2]]), (7, .callB (oI r109.1) [] [1] none [] [[cS a0, cI r109.2.1, cB r109.2.2]]), (9, .callB (oS r111.1) [] [1] none [] [[cS a0, cI r111.2.1, cB r111.2.2]])] [_, _, _, _, _] ⟨63, [(2, o1 (.ref 0 0)), (4, o1 (.ref 1 0)), (5, o1 (.ref 2 0)), (6, o1 (.ref 3 0)), (17, oI r5.1), (18, oI z98)], [[cS (⟨#[]⟩ : ByteArray), .nl], [cS a0, cI r111.2.1, cB r111.2.2], [cS r3.1, .own 98 (List.map eSItem z101)], [cI r103.1, cI r105.1, cI r107.1, cI r109.1, cS r111.1, .nl]], 0, []⟩ (by kernel_rfl) ⟨(impl_reader__number_2.fn k 1 (⟨a0, z99, z100⟩ : S3ddd55) r103 h104), (impl_reader__number_2.fn k 1 (⟨a0, r103.2.1, r103.2.2⟩ : S3ddd55) r105 h106), (impl_reader__number_2.fn k 1 (⟨a0, r105.2.1, r105.2.2⟩ : S3ddd55) r107 h108), (impl_reader__number_2.fn k 8 (⟨a0, r107.2.1, r107.2.2⟩ : S3ddd55) r109 h110), (impl_reader__text_2.fn k (⟨a0, r109.2.1, r109.2.2⟩ : S3ddd55) r111 h112), trivial⟩ ?_
        obtain ⟨v139, h138, h144⟩ := bind_some' h144
        refine Tri.join (α := (Int × Bool × (List SParam))) (fun w => v139 = w) (fun w => ⟨63, [(2, o1 (.ref 0 0)), (4, o1 (.ref 1 0)), (5, o1 (.ref 2 0)), (6, o1 (.ref 3 0)), (17, oI r5.1), (18, oI z98)], [[cS (⟨#[]⟩ : ByteArray), .nl], [cS a0, cI w.1, cB w.2.1], [cS r3.1, .own 98 (List.map eSItem z101)], [cI r103.1, cI r105.1, cI r107.1, cI r109.1, cS r111.1, .own 100 (List.map eSParam w.2.2)]], 0, []⟩) (fun w hw => ?_) ?_
        · rw [hw] at h144; clear hw
          obtain ⟨y135, y136, y137⟩ := w
          try dsimp only at h144
          obtain ⟨h140, h144⟩ := need_some h144
          refine Tri.r1 [2, 4, 5, 17, 18] 3 [] [(3, .frz (.b 3 5)), (4, .ov [.own 98 (List.map eSItem (z101 ++ ([(⟨r103.1, r105.1, r107.1, r109.1, r111.1, y137⟩ : SItem)] : List SItem)))])] [_, _, _] ⟨63, [(2, o1 (.ref 0 0)), (4, o1 (.ref 1 0)), (5, o1 (.ref 2 0)), (17, oI r5.1), (18, oI z98)], [[cS (⟨#[]⟩ : ByteArray), .nl], [cS a0, cI y135, cB y136], [cS r3.1, .own 98 (List.map eSItem (z101 ++ ([(⟨r103.1, r105.1, r107.1, r109.1, r111.1, y137⟩ : SItem)] : List SItem)))]], 0, []⟩ (by kernel_rfl) ⟨(app1 (f := eSItem) (by decide) h140), (app2 (f := eSItem) h140), (ovapp (e := 98) (f := eSItem) (l := z101) (m := ([(⟨r103.1, r105.1, r107.1, r109.1, r111.1, y137⟩ : SItem)] : List SItem))), trivial⟩ ?_
          exact ⟨(y135, y136, z101 ++ ([(⟨r103.1, r105.1, r107.1, r109.1, r111.1, y137⟩ : SItem)] : List SItem)), (Option.some.inj h144).symm, rfl⟩
        · unfold impl_readInterface.e2 at h138
          obtain ⟨r113, h114, h138⟩ := bind_some' h138
          refine Tri.rn [2, 4, 5, 6, 17, 18, 32, 33] 4 [] [(1, .callB (oI r113.1) [] [1] none [] [[cS a0, cI r113.2.1, cB r113.2.2]])] [_] ⟨63, [(2, o1 (.ref 0 0)), (4, o1 (.ref 1 0)), (5, o1 (.ref 2 0)), (6, o1 (.ref 3 0)), (17, oI r5.1), (18, oI z98), (32, oI r113.1), (33, oI 0)], [[cS (⟨#[]⟩ : ByteArray), .nl], [cS a0, cI r113.2.1, cB r113.2.2], [cS r3.1, .own 98 (List.map eSItem z101)], [cI r103.1, cI r105.1, cI r107.1, cI r109.1, cS r111.1, .nl]], 0, []⟩ (by kernel_rfl) ⟨(impl_reader__number_2.fn k 1 (⟨a0, r111.2.1, r111.2.2⟩ : S3ddd55) r113 h114), trivial⟩ ?_
          refine Tri.block ?_
          refine Tri.fix [2, 4, 5, 6, 17, 18, 32, 33] 4 [.own (.b 3 5) 100] ⟨63, [(2, o1 (.ref 0 0)), (4, o1 (.ref 1 0)), (5, o1 (.ref 2 0)), (6, o1 (.ref 3 0)), (17, oI r5.1), (18, oI z98), (32, oI r113.1), (33, oI 0)], [[cS (⟨#[]⟩ : ByteArray), .nl], [cS a0, cI r113.2.1, cB r113.2.2], [cS r3.1, .own 98 (List.map eSItem z101)], [cI r103.1, cI r105.1, cI r107.1, cI r109.1, cS r111.1, .own 100 (List.map eSParam ([] : List SParam))]], 0, []⟩ (by kernel_rfl) ?_
          refine Tri.loop k (TriR.ind (α := (Int × Int × Bool × (List SParam))) (fun k x => impl_readInterface.l1 k a0 r113 x.1 x.2.1 x.2.2.1 x.2.2.2) (fun x => ⟨63, [(2, o1 (.ref 0 0)), (4, o1 (.ref 1 0)), (5, o1 (.ref 2 0)), (6, o1 (.ref 3 0)), (17, oI r5.1), (18, oI z98), (32, oI r113.1), (33, oI x.1)], [[cS (⟨#[]⟩ : ByteArray), .nl], [cS a0, cI x.2.1, cB x.2.2.1], [cS r3.1, .own 98 (List.map eSItem z101)], [cI r103.1, cI r105.1, cI r107.1, cI r109.1, cS r111.1, .own 100 (List.map eSParam x.2.2.2)]], 0, []⟩) (fun _ => rfl) (fun k x h138 IH134 => ?_) k (0, r113.2.1, r113.2.2, ([] : List SParam)) h138)
          obtain ⟨z126, z127, z128, z129⟩ := x
          rw [impl_readInterface.l1.eq_2] at h138
          refine Tri.rn [2, 4, 5, 6, 17, 18, 32, 33, 34] 4 [] [] [] ⟨63, [(2, o1 (.ref 0 0)), (4, o1 (.ref 1 0)), (5, o1 (.ref 2 0)), (6, o1 (.ref 3 0)), (17, oI r5.1), (18, oI z98), (32, oI r113.1), (33, oI z126), (34, oB (decide (z126 < r113.1)))], [[cS (⟨#[]⟩ : ByteArray), .nl], [cS a0, cI z127, cB z128], [cS r3.1, .own 98 (List.map eSItem z101)], [cI r103.1, cI r105.1, cI r107.1, cI r109.1, cS r111.1, .own 100 (List.map eSParam z129)]], 0, []⟩ (by kernel_rfl) trivial ?_
          refine Tri.seq ?_
          rcases ite_some h138 with ⟨h130, h138⟩ | ⟨h130, h138⟩
          · refine Tri.cond_true (useb (decide_eq_true h130) (by kernel_rfl)) ?_
            refine Tri.skip ?_
            refine Tri.seq ?_
            refine Tri.block ?_
            obtain ⟨r131, h132, h138⟩ := bind_some' h138
            refine Tri.rn [2, 4, 5, 6, 7, 17, 18, 32, 33] 4 [] [(1, .callB (oI r131.1) [] [1] none [] [[cS a0, cI r131.2.1, cB r131.2.2]])] [_] ⟨63, [(2, o1 (.ref 0 0)), (4, o1 (.ref 1 0)), (5, o1 (.ref 2 0)), (6, o1 (.ref 3 0)), (7, oI r131.1), (17, oI r5.1), (18, oI z98), (32, oI r113.1), (33, oI z126)], [[cS (⟨#[]⟩ : ByteArray), .nl], [cS a0, cI r131.2.1, cB r131.2.2], [cS r3.1, .own 98 (List.map eSItem z101)], [cI r103.1, cI r105.1, cI r107.1, cI r109.1, cS r111.1, .own 100 (List.map eSParam z129)]], 0, []⟩ (by kernel_rfl) ⟨(impl_reader__number_2.fn k 1 (⟨a0, z127, z128⟩ : S3ddd55) r131 h132), trivial⟩ ?_
            obtain ⟨h133, h138⟩ := need_some h138
            refine Tri.r1 [2, 4, 5, 6, 17, 18, 32, 33] 4 [] [(9, .ov [.own 100 (List.map eSParam (z129 ++ ([(⟨iandn .i64 r131.1 8, (!(decide ((iand .i64 r131.1 8) = 0)))⟩ : SParam)] : List SParam)))])] [_, _, _] ⟨63, [(2, o1 (.ref 0 0)), (4, o1 (.ref 1 0)), (5, o1 (.ref 2 0)), (6, o1 (.ref 3 0)), (17, oI r5.1), (18, oI z98), (32, oI r113.1), (33, oI z126)], [[cS (⟨#[]⟩ : ByteArray), .nl], [cS a0, cI r131.2.1, cB r131.2.2], [cS r3.1, .own 98 (List.map eSItem z101)], [cI r103.1, cI r105.1, cI r107.1, cI r109.1, cS r111.1, .own 100 (List.map eSParam (z129 ++ ([(⟨iandn .i64 r131.1 8, (!(decide ((iand .i64 r131.1 8) = 0)))⟩ : SParam)] : List SParam)))]], 0, []⟩ (by kernel_rfl) ⟨(app1 (f := eSParam) (by decide) h133), (app2 (f := eSParam) h133), (ovapp (e := 100) (f := eSParam) (l := z129) (m := ([(⟨iandn .i64 r131.1 8, (!(decide ((iand .i64 r131.1 8) = 0)))⟩ : SParam)] : List SParam))), trivial⟩ ?_
            refine Tri.r1 [2, 4, 5, 6, 17, 18, 32, 33] 4 [] [] [] ⟨63, [(2, o1 (.ref 0 0)), (4, o1 (.ref 1 0)), (5, o1 (.ref 2 0)), (6, o1 (.ref 3 0)), (17, oI r5.1), (18, oI z98), (32, oI r113.1), (33, oI (w64 (z126 + 1)))], [[cS (⟨#[]⟩ : ByteArray), .nl], [cS a0, cI r131.2.1, cB r131.2.2], [cS r3.1, .own 98 (List.map eSItem z101)], [cI r103.1, cI r105.1, cI r107.1, cI r109.1, cS r111.1, .own 100 (List.map eSParam (z129 ++ ([(⟨iandn .i64 r131.1 8, (!(decide ((iand .i64 r131.1 8) = 0)))⟩ : SParam)] : List SParam)))]], 0, []⟩ (by kernel_rfl) trivial ?_
            exact IH134 _ (w64 (z126 + 1), r131.2.1, r131.2.2, z129 ++ ([(⟨iandn .i64 r131.1 8, (!(decide ((iand .i64 r131.1 8) = 0)))⟩ : SParam)] : List SParam)) (Nat.le_refl _) h138
          · refine Tri.cond_false (useb (decide_eq_false h130) (by kernel_rfl)) ?_
            refine Tri.fix [2, 4, 5, 6, 17, 18] 4 [] ⟨63, [(2, o1 (.ref 0 0)), (4, o1 (.ref 1 0)), (5, o1 (.ref 2 0)), (6, o1 (.ref 3 0)), (17, oI r5.1), (18, oI z98)], [[cS (⟨#[]⟩ : ByteArray), .nl], [cS a0, cI z127, cB z128], [cS r3.1, .own 98 (List.map eSItem z101)], [cI r103.1, cI r105.1, cI r107.1, cI r109.1, cS r111.1, .own 100 (List.map eSParam z129)]], 0, []⟩ (by kernel_rfl) ?_
            refine Tri.exit ?_
            repeat (with_reducible refine Ex.exit ?_)
            refine Bk.here ?_
            exact ⟨(z127, z128, z129), (Option.some.inj h138).symm, rfl⟩
    · refine Tri.cond_false (useb (decide_eq_false h102) (by kernel_rfl)) ?_
      refine Tri.fix [2, 4, 5] 3 [] ⟨63, [(2, o1 (.ref 0 0)), (4, o1 (.ref 1 0)), (5, o1 (.ref 2 0))], [[cS (⟨#[]⟩ : ByteArray), .nl], [cS a0, cI z99, cB z100], [cS r3.1, .own 98 (List.map eSItem z101)]], 0, []⟩ (by kernel_rfl) ?_
      refine Tri.exit ?_
      repeat (with_reducible refine Ex.exit ?_)
      refine Bk.here ?_
      exact ⟨(z99, z100, z101), (Option.some.inj h150).symm, rfl⟩
/-! impl_ReadInterface: function 19 -/
def impl_ReadInterface.f (k : Nat) (a0 : (List Int)) : Option (SFace × Int × ByteArray × (List SItem)) := (impl_isShort___byte.f k a0).bind fun r1 => if r1 = true then ((impl_readInterface.f k (strOfNums a0)).bind fun r4 => if r4.2.1 = true then (some (r4.1, 0, r4.1.f0, r4.1.f1)) else (some ((⟨(⟨#[]⟩ : ByteArray), ([] : List SItem)⟩ : SFace), 3, (⟨#[]⟩ : ByteArray), ([] : List SItem)))) else (some ((⟨(⟨#[]⟩ : ByteArray), ([] : List SItem)⟩ : SFace), 2, (⟨#[]⟩ : ByteArray), ([] : List SItem)))
set_option maxRecDepth 100000 in
theorem impl_ReadInterface.fn (k : Nat) (a0 : (List Int)) (r : (SFace × Int × ByteArray × (List SItem))) (H : impl_ReadInterface.f k a0 = some r) : Fn Tryz.prog 19 [o1 (.sl 1 (List.map (eK .u8) a0))] [] (tp [some 2, none] [cS r.1.f0, .sl 6 (List.map eSItem r.1.f1), cI r.2.1]) [] := by
  unfold impl_ReadInterface.f at H
  refine FnG.fn (FnG.bodyR (rv := [(2, some 30), (3, none)]) Tryz.func19 rfl rfl (by decide) (by decide) (Nat.le_of_ble_eq_true rfl) rfl (Nat.le_of_ble_eq_true rfl) ?_)
  refine Tri.rn [0, 2] 1 [] [] [] ⟨20, [(0, o1 (.sl 1 (List.map (eK .u8) a0))), (2, o1 (.ref 0 0))], [[cS (⟨#[]⟩ : ByteArray), .nl]], 0, []⟩ (by kernel_rfl) trivial ?_
  refine Tri.seq ?_
  obtain ⟨r1, h2, H⟩ := bind_some' H
  refine Tri.rn [0, 2, 8] 1 [] [(1, .call (oB r1) [] false)] [_, _] ⟨20, [(0, o1 (.sl 1 (List.map (eK .u8) a0))), (2, o1 (.ref 0 0)), (8, oB (!r1))], [[cS (⟨#[]⟩ : ByteArray), .nl]], 0, []⟩ (by kernel_rfl) ⟨(impl_isShort___byte.fn k a0 r1 h2), (show (List.all [cB r1] PC.flatB) = true from rfl), trivial⟩ ?_
  rcases iteb_some H with ⟨h3, H⟩ | ⟨h3, H⟩
  · refine Tri.cond_false (useb (nF h3) (by kernel_rfl)) ?_
    refine Tri.skip ?_
    obtain ⟨r4, h5, H⟩ := bind_some' H
    refine Tri.rn [2, 4, 5] 2 [] [(1, .nums a0), (2, .call (tp [some 2, none] [cS r4.1.f0, .sl 6 (List.map eSItem r4.1.f1), cB r4.2.1]) [] true)] [_, _] ⟨20, [(2, o1 (.ref 0 0)), (4, o1 (.ref 1 0)), (5, oB r4.2.1)], [[cS (⟨#[]⟩ : ByteArray), .nl], eSFace r4.1], 0, []⟩ (by kernel_rfl) ⟨(rfl : List.map (eK .u8) a0 = List.map (fun n => [PC.sc (.int .u8 n)]) a0), (impl_readInterface.fn k (strOfNums a0) r4 h5), trivial⟩ ?_
    refine Tri.seq ?_
    refine Tri.rn [2, 4, 17] 2 [] [] [] ⟨20, [(2, o1 (.ref 0 0)), (4, o1 (.ref 1 0)), (17, oB (!r4.2.1))], [[cS (⟨#[]⟩ : ByteArray), .nl], eSFace r4.1], 0, []⟩ (by kernel_rfl) trivial ?_
    rcases iteb_some H with ⟨h6, H⟩ | ⟨h6, H⟩
    · refine Tri.cond_false (useb (nF h6) (by kernel_rfl)) ?_
      refine Tri.skip ?_
      refine Tri.rn [2, 3] 1 [] [] [] ⟨20, [(2, o1 (.ref 0 0)), (3, oI 0)], [eSFace r4.1], 0, []⟩ (by kernel_rfl) trivial ?_
      refine Tri.ret ?_
      obtain rfl := Option.some.inj H
      exact endsR (.inr rfl) (by kernel_rfl)
    · refine Tri.cond_true (useb (nT h6) (by kernel_rfl)) ?_
      refine Tri.rn [2, 3] 1 [] [] [] ⟨20, [(2, o1 (.ref 0 0)), (3, oI 3)], [[cS (⟨#[]⟩ : ByteArray), .nl]], 0, []⟩ (by kernel_rfl) trivial ?_
      refine Tri.fix [2, 3] 1 [.sl (.b 0 1) 6] ⟨20, [(2, o1 (.ref 0 0)), (3, oI 3)], [[cS (⟨#[]⟩ : ByteArray), .sl 6 (List.map eSItem ([] : List SItem))]], 0, []⟩ (by kernel_rfl) ?_
      refine Tri.ret ?_
      obtain rfl := Option.some.inj H
      exact endsR (.inr rfl) (by kernel_rfl)
  · refine Tri.cond_true (useb (nT h3) (by kernel_rfl)) ?_
    refine Tri.rn [2, 3] 1 [] [] [] ⟨20, [(2, o1 (.ref 0 0)), (3, oI 2)], [[cS (⟨#[]⟩ : ByteArray), .nl]], 0, []⟩ (by kernel_rfl) trivial ?_
    refine Tri.fix [2, 3] 1 [.sl (.b 0 1) 6] ⟨20, [(2, o1 (.ref 0 0)), (3, oI 2)], [[cS (⟨#[]⟩ : ByteArray), .sl 6 (List.map eSItem ([] : List SItem))]], 0, []⟩ (by kernel_rfl) ?_
    refine Tri.ret ?_
    obtain rfl := Option.some.inj H
    exact endsR (.inr rfl) (by kernel_rfl)
/-! laws_FnFaces: function 11 -/
def laws_FnFaces.e1 (k : Nat) (a0 : (List Int)) (a1 : (List Int)) : Option Bool := if (1048576 : Int) < (a0.length : Int) then (some true) else (some (decide ((1048576 : Int) < (a1.length : Int))))
def laws_FnFaces.e2 (k : Nat) (r8 : ((List Int) × Int)) (r10 : (Int × Int)) (r12 : (Int × Int)) : Option Bool := if r8.2 = 0 then (if r10.2 = 0 then (if r10.1 = r12.1 then (some (decide ((r8.1.length : Int) = 0))) else (some true)) else (some true)) else (some true)
def laws_FnFaces.e3 (k : Nat) (r10 : (Int × Int)) (r30 : (Int × Int)) : Option Bool := if r30.2 = 0 then (some (!(decide (r30.1 = r10.1)))) else (some false)
def laws_FnFaces.f (k : Nat) (a0 : (List Int)) (a1 : (List Int)) : Option Bool := (laws_FnFaces.e1 k a0 a1).bind fun y2 => if y2 = true then (some true) else ((spec_FaceOf.f k).bind fun r6 => (impl_InterfaceBytes.f k r6.1).bind fun r8 => (impl_PrintOf.f k r6.1).bind fun r10 => (spec_PrintOf.f k r6.1).bind fun r12 => (laws_FnFaces.e2 k r8 r10 r12).bind fun y17 => if y17 = true then (some false) else ((laws_at.f k a1 0 (r8.1.length : Int)).bind fun r21 => (at? r8.1 r21).bind fun x23 => (laws_at.f k a0 1 255).bind fun r25 => (impl_ReadInterface.f k (r8.1.set (Int.toNat r21) (IntKind.u8.wrap (x23 + (IntKind.u8.wrap (w64 (1 + r25))))))).bind fun r27 => if r27.2.1 = 0 then ((impl_PrintOf.f k r27.1).bind fun r30 => (laws_FnFaces.e3 k r10 r30).bind fun y33 => some y33) else (some (decide (r27.2.1 = 3)))))
set_option maxRecDepth 100000 in
theorem laws_FnFaces.fn (k : Nat) (a0 : (List Int)) (a1 : (List Int)) (r : Bool) (H : laws_FnFaces.f k a0 a1 = some r) : Fn Tryz.prog 11 [o1 (.sl 1 (List.map (eK .u8) a0)), o1 (.sl 1 (List.map (eK .u8) a1))] [] (oB r) [] := by
  unfold laws_FnFaces.f at H
  refine Fn.body (ts := [4]) Tryz.func11 rfl rfl (by decide) (by decide) (Nat.le_of_ble_eq_true rfl) (Nat.le_refl _) ?_
  refine Tri.rn [0, 1] 0 [] [] [] ⟨90, [(0, o1 (.sl 1 (List.map (eK .u8) a0))), (1, o1 (.sl 1 (List.map (eK .u8) a1)))], [], 0, []⟩ (by kernel_rfl) trivial ?_
  refine Tri.seq ?_
  obtain ⟨v4, h3, H⟩ := bind_some' H
  refine Tri.join (α := Bool) (fun w => v4 = w) (fun y2 => ⟨90, [(0, o1 (.sl 1 (List.map (eK .u8) a0))), (1, o1 (.sl 1 (List.map (eK .u8) a1))), (23, oB y2)], [], 0, []⟩) (fun y2 hw => ?_) ?_
  · rw [hw] at H; clear hw
    try dsimp only at H
    rcases iteb_some H with ⟨h5, H⟩ | ⟨h5, H⟩
    · refine Tri.cond_true (useb h5 (by kernel_rfl)) ?_
      refine Tri.rn [4] 0 [] [] [] ⟨90, [(4, oB true)], [], 0, []⟩ (by kernel_rfl) trivial ?_
      refine Tri.ret ?_
      obtain rfl := Option.some.inj H
      exact ⟨.inr rfl, rfl, rfl, Nat.le_refl _, rfl, by simp⟩
    · refine Tri.cond_false (useb h5 (by kernel_rfl)) ?_
      refine Tri.skip ?_
      obtain ⟨r6, h7, H⟩ := bind_some' H
      refine Tri.rn [0, 1, 5] 1 [] [(0, .call (ag (eSFace r6.1)) [] true)] [_] ⟨90, [(0, o1 (.sl 1 (List.map (eK .u8) a0))), (1, o1 (.sl 1 (List.map (eK .u8) a1))), (5, o1 (.ref 0 0))], [eSFace r6.1], 0, []⟩ (by kernel_rfl) ⟨(spec_FaceOf.fn k r6 h7), trivial⟩ ?_
      obtain ⟨r8, h9, H⟩ := bind_some' H
      refine Tri.rn [0, 1, 5, 6, 7] 1 [] [(1, .call (tp [none, none] [.own 5 (List.map (eK .u8) r8.1), cI r8.2]) [] false)] [_, _] ⟨90, [(0, o1 (.sl 1 (List.map (eK .u8) a0))), (1, o1 (.sl 1 (List.map (eK .u8) a1))), (5, o1 (.ref 0 0)), (6, o1 (.own 5 (List.map (eK .u8) r8.1))), (7, oI r8.2)], [eSFace r6.1], 0, []⟩ (by kernel_rfl) ⟨(impl_InterfaceBytes.fn k r6.1 r8 h9), (show (List.all [.own 5 (List.map (eK .u8) r8.1), cI r8.2] PC.flatB) = true by simp [PC.flatB, PC.scalar, cI, cK, cB, cS, eK]), trivial⟩ ?_
      obtain ⟨r10, h11, H⟩ := bind_some' H
      refine Tri.rn [0, 1, 5, 6, 7, 8, 9] 1 [] [(1, .call (tp [none, none] [cI r10.1, cI r10.2]) [] false)] [_, _] ⟨90, [(0, o1 (.sl 1 (List.map (eK .u8) a0))), (1, o1 (.sl 1 (List.map (eK .u8) a1))), (5, o1 (.ref 0 0)), (6, o1 (.own 5 (List.map (eK .u8) r8.1))), (7, oI r8.2), (8, oI r10.1), (9, oI r10.2)], [eSFace r6.1], 0, []⟩ (by kernel_rfl) ⟨(impl_PrintOf.fn k r6.1 r10 h11), (show (List.all [cI r10.1, cI r10.2] PC.flatB) = true from rfl), trivial⟩ ?_
      obtain ⟨r12, h13, H⟩ := bind_some' H
      refine Tri.rn [0, 1, 6, 7, 8, 9, 10] 0 [] [(1, .call (tp [none, none] [cI r12.1, cI r12.2]) [] false)] [_, _] ⟨90, [(0, o1 (.sl 1 (List.map (eK .u8) a0))), (1, o1 (.sl 1 (List.map (eK .u8) a1))), (6, o1 (.own 5 (List.map (eK .u8) r8.1))), (7, oI r8.2), (8, oI r10.1), (9, oI r10.2), (10, oI r12.1)], [], 0, []⟩ (by kernel_rfl) ⟨(spec_PrintOf.fn k r6.1 r12 h13), (show (List.all [cI r12.1, cI r12.2] PC.flatB) = true from rfl), trivial⟩ ?_
      refine Tri.seq ?_
      obtain ⟨v19, h18, H⟩ := bind_some' H
      refine Tri.join (α := Bool) (fun w => v19 = w) (fun y17 => ⟨90, [(0, o1 (.sl 1 (List.map (eK .u8) a0))), (1, o1 (.sl 1 (List.map (eK .u8) a1))), (6, o1 (.own 5 (List.map (eK .u8) r8.1))), (8, oI r10.1), (55, oB y17)], [], 0, []⟩) (fun y17 hw => ?_) ?_
      · rw [hw] at H; clear hw
        try dsimp only at H
        rcases iteb_some H with ⟨h20, H⟩ | ⟨h20, H⟩
        · refine Tri.cond_true (useb h20 (by kernel_rfl)) ?_
          refine Tri.rn [4] 0 [] [] [] ⟨90, [(4, oB false)], [], 0, []⟩ (by kernel_rfl) trivial ?_
          refine Tri.ret ?_
          obtain rfl := Option.some.inj H
          exact ⟨.inr rfl, rfl, rfl, Nat.le_refl _, rfl, by simp⟩
        · refine Tri.cond_false (useb h20 (by kernel_rfl)) ?_
          refine Tri.skip ?_
          obtain ⟨r21, h22, H⟩ := bind_some' H
          obtain ⟨x23, h24, H⟩ := bind_some' H
          obtain ⟨r25, h26, H⟩ := bind_some' H
          refine Tri.dn hmix 11 [[], [], [], [2], [1, 2, 3], [0, 1, 2, 3, 4], [0, 1, 2, 3, 4, 5], [], [1, 2, 3, 4, 7], [1, 2, 3, 4, 7, 8], [1, 2, 3, 4, 7, 8, 9], [0, 1, 2, 3, 4, 5, 6, 7, 8, 9, 10], [0, 1, 2, 3, 4, 5, 6, 7, 8, 9, 10, 11], [0, 1, 2, 3, 4, 5, 6, 7, 8, 9, 10, 11, 12]] [6, 8] 0 [] [(3, .ov [.sc (.int .i64 (r8.1.length : Int))]), (4, .call (oI r21) [] false), (5, .el ((eK .u8) x23)), (6, .el ((eK .u8) x23)), (8, .call (oI r25) [] false), (12, .el ((eK .u8) x23)), (13, .el ((eK .u8) x23)), (13, .ovp (.t 6 0) (.own 5 (List.map (eK .u8) (r8.1.set (Int.toNat r21) (IntKind.u8.wrap (x23 + (IntKind.u8.wrap (w64 (1 + r25)))))))))] [_, _, _, _, _, _, _, _, _, _, _, _] ⟨90, [(6, o1 (.own 5 (List.map (eK .u8) (r8.1.set (Int.toNat r21) (IntKind.u8.wrap (x23 + (IntKind.u8.wrap (w64 (1 + r25))))))))), (8, oI r10.1)], [], 0, []⟩ (by kernel_rfl) ⟨(ovlen (f := (eK .u8)) (l := r8.1)), (laws_at.fn k a1 0 (r8.1.length : Int) r21 h22), (show (List.all [cI r21] PC.flatB) = true from rfl), (at?_0 h24), (at?_map (f := (eK .u8)) h24), (at?_map (f := (eK .u8)) h24), (laws_at.fn k a0 1 255 r25 h26), (show (List.all [cI r25] PC.flatB) = true from rfl), (at?_0 h24), (at?_map (f := (eK .u8)) h24), (at?_map (f := (eK .u8)) h24), (ovset (e := 5) (f := (eK .u8)) (l := r8.1) (v := IntKind.u8.wrap (x23 + (IntKind.u8.wrap (w64 (1 + r25))))) (i := Int.toNat r21)), trivial⟩ ?_
          obtain ⟨r27, h28, H⟩ := bind_some' H
          refine Tri.rn [8, 12, 13] 1 [] [(1, .frz (.t 6 0)), (1, .call (tp [some 2, none] [cS r27.1.f0, .sl 6 (List.map eSItem r27.1.f1), cI r27.2.1]) [] true)] [_] ⟨90, [(8, oI r10.1), (12, o1 (.ref 0 0)), (13, oI r27.2.1)], [eSFace r27.1], 0, []⟩ (by kernel_rfl) ⟨(impl_ReadInterface.fn k (r8.1.set (Int.toNat r21) (IntKind.u8.wrap (x23 + (IntKind.u8.wrap (w64 (1 + r25)))))) r27 h28), trivial⟩ ?_
          refine Tri.seq ?_
          refine Tri.rn [8, 12, 13, 75] 1 [] [] [] ⟨90, [(8, oI r10.1), (12, o1 (.ref 0 0)), (13, oI r27.2.1), (75, oB (!(decide (r27.2.1 = 0))))], [eSFace r27.1], 0, []⟩ (by kernel_rfl) trivial ?_
          rcases ite_some H with ⟨h29, H⟩ | ⟨h29, H⟩
          · refine Tri.cond_false (useb (nF (decide_eq_true h29)) (by kernel_rfl)) ?_
            refine Tri.skip ?_
            obtain ⟨r30, h31, H⟩ := bind_some' H
            refine Tri.rn [8, 14, 15] 0 [] [(1, .call (tp [none, none] [cI r30.1, cI r30.2]) [] false)] [_, _] ⟨90, [(8, oI r10.1), (14, oI r30.1), (15, oI r30.2)], [], 0, []⟩ (by kernel_rfl) ⟨(impl_PrintOf.fn k r27.1 r30 h31), (show (List.all [cI r30.1, cI r30.2] PC.flatB) = true from rfl), trivial⟩ ?_
            obtain ⟨v35, h34, H⟩ := bind_some' H
            refine Tri.join (α := Bool) (fun w => v35 = w) (fun y33 => ⟨90, [(4, oB y33)], [], 0, []⟩) (fun y33 hw => ?_) ?_
            · rw [hw] at H; clear hw
              try dsimp only at H
              refine Tri.ret ?_
              obtain rfl := Option.some.inj H
              exact ⟨.inr rfl, rfl, rfl, Nat.le_refl _, rfl, by simp⟩
            · unfold laws_FnFaces.e3 at h34
              rcases ite_some h34 with ⟨h32, h34⟩ | ⟨h32, h34⟩
              · refine Tri.r1 [4] 0 [] [(1, .ov [.sc (.bool true)])] [_] ⟨90, [(4, oB (!(decide (r30.1 = r10.1))))], [], 0, []⟩ (by kernel_rfl) ⟨(ovb (decide_eq_true h32)), trivial⟩ ?_
                exact ⟨(!(decide (r30.1 = r10.1))), (Option.some.inj h34).symm, rfl⟩
              · refine Tri.r1 [4] 0 [] [(1, .ov [.sc (.bool false)])] [_] ⟨90, [(4, oB false)], [], 0, []⟩ (by kernel_rfl) ⟨(ovb (decide_eq_false h32)), trivial⟩ ?_
                exact ⟨false, (Option.some.inj h34).symm, rfl⟩
          · refine Tri.cond_true (useb (nT (decide_eq_false h29)) (by kernel_rfl)) ?_
            refine Tri.rn [4] 0 [] [] [] ⟨90, [(4, oB (decide (r27.2.1 = 3)))], [], 0, []⟩ (by kernel_rfl) trivial ?_
            refine Tri.ret ?_
            obtain rfl := Option.some.inj H
            exact ⟨.inr rfl, rfl, rfl, Nat.le_refl _, rfl, by simp⟩
      · unfold laws_FnFaces.e2 at h18
        rcases ite_some h18 with ⟨h14, h18⟩ | ⟨h14, h18⟩
        · rcases ite_some h18 with ⟨h15, h18⟩ | ⟨h15, h18⟩
          · rcases ite_some h18 with ⟨h16, h18⟩ | ⟨h16, h18⟩
            · refine Tri.r1 [0, 1, 6, 8, 55] 0 [] [(1, .ov [.sc (.bool false)]), (4, .ov [.sc (.bool false)]), (9, .ov [.sc (.bool false)]), (13, .ov [.sc (.int .i64 (r8.1.length : Int))])] [_, _, _, _] ⟨90, [(0, o1 (.sl 1 (List.map (eK .u8) a0))), (1, o1 (.sl 1 (List.map (eK .u8) a1))), (6, o1 (.own 5 (List.map (eK .u8) r8.1))), (8, oI r10.1), (55, oB (decide ((r8.1.length : Int) = 0)))], [], 0, []⟩ (by kernel_rfl) ⟨(ovb (nF (decide_eq_true h14))), (ovb (nF (decide_eq_true h15))), (ovb (nF (decide_eq_true h16))), (ovlen (f := (eK .u8)) (l := r8.1)), trivial⟩ ?_
              exact ⟨(decide ((r8.1.length : Int) = 0)), (Option.some.inj h18).symm, rfl⟩
            · refine Tri.r1 [0, 1, 6, 8, 55] 0 [] [(1, .ov [.sc (.bool false)]), (4, .ov [.sc (.bool false)]), (9, .ov [.sc (.bool true)])] [_, _, _] ⟨90, [(0, o1 (.sl 1 (List.map (eK .u8) a0))), (1, o1 (.sl 1 (List.map (eK .u8) a1))), (6, o1 (.own 5 (List.map (eK .u8) r8.1))), (8, oI r10.1), (55, oB true)], [], 0, []⟩ (by kernel_rfl) ⟨(ovb (nF (decide_eq_true h14))), (ovb (nF (decide_eq_true h15))), (ovb (nT (decide_eq_false h16))), trivial⟩ ?_
              exact ⟨true, (Option.some.inj h18).symm, rfl⟩
          · refine Tri.r1 [0, 1, 6, 8, 55] 0 [] [(1, .ov [.sc (.bool false)]), (4, .ov [.sc (.bool true)])] [_, _] ⟨90, [(0, o1 (.sl 1 (List.map (eK .u8) a0))), (1, o1 (.sl 1 (List.map (eK .u8) a1))), (6, o1 (.own 5 (List.map (eK .u8) r8.1))), (8, oI r10.1), (55, oB true)], [], 0, []⟩ (by kernel_rfl) ⟨(ovb (nF (decide_eq_true h14))), (ovb (nT (decide_eq_false h15))), trivial⟩ ?_
            exact ⟨true, (Option.some.inj h18).symm, rfl⟩
        · refine Tri.r1 [0, 1, 6, 8, 55] 0 [] [(1, .ov [.sc (.bool true)])] [_] ⟨90, [(0, o1 (.sl 1 (List.map (eK .u8) a0))), (1, o1 (.sl 1 (List.map (eK .u8) a1))), (6, o1 (.own 5 (List.map (eK .u8) r8.1))), (8, oI r10.1), (55, oB true)], [], 0, []⟩ (by kernel_rfl) ⟨(ovb (nT (decide_eq_false h14))), trivial⟩ ?_
          exact ⟨true, (Option.some.inj h18).symm, rfl⟩
  · unfold laws_FnFaces.e1 at h3
    rcases ite_some h3 with ⟨h1, h3⟩ | ⟨h1, h3⟩
    · refine Tri.r1 [0, 1, 23] 0 [] [(1, .ov [.sc (.int .i64 (a0.length : Int))]), (2, .ov [.sc (.bool true)])] [_, _] ⟨90, [(0, o1 (.sl 1 (List.map (eK .u8) a0))), (1, o1 (.sl 1 (List.map (eK .u8) a1))), (23, oB true)], [], 0, []⟩ (by kernel_rfl) ⟨(ovlen (f := (eK .u8)) (l := a0)), (ovb (decide_eq_true h1)), trivial⟩ ?_
      exact ⟨true, (Option.some.inj h3).symm, rfl⟩
    · refine Tri.r1 [0, 1, 23] 0 [] [(1, .ov [.sc (.int .i64 (a0.length : Int))]), (2, .ov [.sc (.bool false)]), (5, .ov [.sc (.int .i64 (a1.length : Int))])] [_, _, _] ⟨90, [(0, o1 (.sl 1 (List.map (eK .u8) a0))), (1, o1 (.sl 1 (List.map (eK .u8) a1))), (23, oB (decide ((1048576 : Int) < (a1.length : Int))))], [], 0, []⟩ (by kernel_rfl) ⟨(ovlen (f := (eK .u8)) (l := a0)), (ovb (decide_eq_false h1)), (ovlen (f := (eK .u8)) (l := a1)), trivial⟩ ?_
      exact ⟨(decide ((1048576 : Int) < (a1.length : Int))), (Option.some.inj h3).symm, rfl⟩
end Go.Proofs.YtdoenfpleokadaaGreatDoor.E
