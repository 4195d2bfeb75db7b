/- Functions of the program and their contracts: printed by ep3.py, a program of this session. -/
import Derived.Test.YtdoenfpleokadaaGreatDoorGFnFaces
import Derived.Test.YtdoenfpleokadaaGreatDoorProg
set_option linter.unusedVariables false
set_option linter.unusedSectionVars false
set_option linter.unusedSimpArgs false
namespace Go.Proofs.YtdoenfpleokadaaGreatDoor.E
open Go.RowKit
structure SParam where
  f0 : Int
  f1 : Bool
def eSParam (x : SParam) : List PC := [cI x.f0, cB x.f1]
structure SItem where
  f0 : Int
  f1 : Int
  f2 : Int
  f3 : Int
  f4 : ByteArray
  f5 : (List SParam)
def eSItem (x : SItem) : List PC := [cI x.f0, cI x.f1, cI x.f2, cI x.f3, cS x.f4, .sl 2 (List.map eSParam x.f5)]
structure SFace where
  f0 : ByteArray
  f1 : (List SItem)
def eSFace (x : SFace) : List PC := [cS x.f0, .sl 6 (List.map eSItem x.f1)]
structure S3ddd55 where
  f0 : ByteArray
  f1 : Int
  f2 : Bool
def eS3ddd55 (x : S3ddd55) : List PC := [cS x.f0, cI x.f1, cB x.f2]
theorem hmix : Tryz.prog.follows .mixedOrders = true := by kernel_rfl
/-! spec_l03A: function 110 -/
def spec_l03A.f (k : Nat) : Option (SFace × ByteArray × (List SItem)) := some ((⟨(⟨#[65]⟩ : ByteArray), ([(⟨1, 1, 0, 7, (⟨#[107]⟩ : ByteArray), ([] : List SParam)⟩ : SItem), (⟨2, 1, 0, 0, (⟨#[120]⟩ : ByteArray), ([] : List SParam)⟩ : SItem), (⟨2, 1, 3, 0, (⟨#[118]⟩ : ByteArray), ([] : List SParam)⟩ : SItem), (⟨3, 1, 0, 0, (⟨#[70]⟩ : ByteArray), ([(⟨1, false⟩ : SParam)] : List SParam)⟩ : SItem), (⟨3, 0, 0, 0, (⟨#[71]⟩ : ByteArray), ([(⟨1, true⟩ : SParam)] : List SParam)⟩ : SItem)] : List SItem)⟩ : SFace), (⟨#[65]⟩ : ByteArray), ([(⟨1, 1, 0, 7, (⟨#[107]⟩ : ByteArray), ([] : List SParam)⟩ : SItem), (⟨2, 1, 0, 0, (⟨#[120]⟩ : ByteArray), ([] : List SParam)⟩ : SItem), (⟨2, 1, 3, 0, (⟨#[118]⟩ : ByteArray), ([] : List SParam)⟩ : SItem), (⟨3, 1, 0, 0, (⟨#[70]⟩ : ByteArray), ([(⟨1, false⟩ : SParam)] : List SParam)⟩ : SItem), (⟨3, 0, 0, 0, (⟨#[71]⟩ : ByteArray), ([(⟨1, true⟩ : SParam)] : List SParam)⟩ : SItem)] : List SItem))
set_option maxRecDepth 100000 in
theorem spec_l03A.fn (k : Nat) (r : (SFace × ByteArray × (List SItem))) (H : spec_l03A.f k  = some r) : Fn Tryz.prog 110 [] [] (ag (eSFace r.1)) [] := by
  unfold spec_l03A.f at H
  refine Fn.bodyC (t := 0) (ty := 30) Tryz.func110 rfl rfl (Nat.le_of_ble_eq_true rfl) ?_
  refine Tri.rn [0] 1 [] [] [] ⟨12, [(0, o1 (.ref 0 0))], [[cS (⟨#[]⟩ : ByteArray), .nl]], 0, []⟩ (by kernel_rfl) trivial ?_
  refine Tri.rn [0] 1 [] [(9, .fix (.sl (.t 1 5) 2)), (9, .fix (.sl (.t 2 5) 2)), (9, .fix (.sl (.t 3 5) 2)), (9, .frz (.t 5 0)), (9, .frz (.t 8 0)), (11, .frz (.t 10 0))] [] ⟨12, [(0, o1 (.ref 0 0))], [[cS (⟨#[65]⟩ : ByteArray), .sl 6 (List.map eSItem ([(⟨1, 1, 0, 7, (⟨#[107]⟩ : ByteArray), ([] : List SParam)⟩ : SItem), (⟨2, 1, 0, 0, (⟨#[120]⟩ : ByteArray), ([] : List SParam)⟩ : SItem), (⟨2, 1, 3, 0, (⟨#[118]⟩ : ByteArray), ([] : List SParam)⟩ : SItem), (⟨3, 1, 0, 0, (⟨#[70]⟩ : ByteArray), ([(⟨1, false⟩ : SParam)] : List SParam)⟩ : SItem), (⟨3, 0, 0, 0, (⟨#[71]⟩ : ByteArray), ([(⟨1, true⟩ : SParam)] : List SParam)⟩ : SItem)] : List SItem))]], 0, []⟩ (by kernel_rfl) trivial ?_
  refine Tri.ret ?_
  obtain rfl := Option.some.inj H
  exact ⟨.inr rfl, ⟨_, _, rfl⟩, by kernel_rfl, rfl, rfl, rfl⟩
/-! spec_FaceOf: function 51 -/
def spec_FaceOf.f (k : Nat) : Option (SFace × ByteArray × (List SItem)) := (spec_l03A.f k).bind fun r1 => some (r1.1, r1.1.f0, r1.1.f1)
set_option maxRecDepth 100000 in
theorem spec_FaceOf.fn (k : Nat) (r : (SFace × ByteArray × (List SItem))) (H : spec_FaceOf.f k  = some r) : Fn Tryz.prog 51 [] [] (ag (eSFace r.1)) [] := by
  unfold spec_FaceOf.f at H
  refine Fn.bodyC (t := 0) (ty := 30) Tryz.func51 rfl rfl (Nat.le_of_ble_eq_true rfl) ?_
  refine Tri.rn [0] 1 [] [] [] ⟨2, [(0, o1 (.ref 0 0))], [[cS (⟨#[]⟩ : ByteArray), .nl]], 0, []⟩ (by kernel_rfl) trivial ?_
  obtain ⟨r1, h2, H⟩ := bind_some' H
  refine Tri.rn [0] 1 [] [(0, .call (ag (eSFace r1.1)) [] true)] [_] ⟨2, [(0, o1 (.ref 0 0))], [eSFace r1.1], 0, []⟩ (by kernel_rfl) ⟨(spec_l03A.fn k r1 h2), trivial⟩ ?_
  refine Tri.ret ?_
  obtain rfl := Option.some.inj H
  exact ⟨.inr rfl, ⟨_, _, rfl⟩, by kernel_rfl, rfl, rfl, rfl⟩
/-! impl_within: function 94 -/
def impl_within.e1 (k : Nat) (a0 : Int) (a1 : Int) (a2 : Int) : Option Bool := if a1 ≤ a0 then (some (decide (a0 ≤ a2))) else (some false)
def impl_within.f (k : Nat) (a0 : Int) (a1 : Int) (a2 : Int) : Option Bool := (impl_within.e1 k a0 a1 a2).bind fun y2 => some y2
set_option maxRecDepth 100000 in
theorem impl_within.fn (k : Nat) (a0 : Int) (a1 : Int) (a2 : Int) (r : Bool) (H : impl_within.f k a0 a1 a2 = some r) : Fn Tryz.prog 94 [oI a0, oI a1, oI a2] [] (oB r) [] := by
  unfold impl_within.f at H
  refine Fn.body (ts := [6]) Tryz.func94 rfl rfl (by decide) (by decide) (Nat.le_of_ble_eq_true rfl) (Nat.le_refl _) ?_
  refine Tri.rn [0, 1, 2] 0 [] [] [] ⟨15, [(0, oI a0), (1, oI a1), (2, oI a2)], [], 0, []⟩ (by kernel_rfl) trivial ?_
  obtain ⟨v4, h3, H⟩ := bind_some' H
  refine Tri.join (α := Bool) (fun w => v4 = w) (fun y2 => ⟨15, [(6, oB y2)], [], 0, []⟩) (fun y2 hw => ?_) ?_
  · rw [hw] at H; clear hw
    try dsimp only at H
    refine Tri.ret ?_
    obtain rfl := Option.some.inj H
    exact ⟨.inr rfl, rfl, rfl, Nat.le_refl _, rfl, by simp⟩
  · unfold impl_within.e1 at h3
    rcases ite_some h3 with ⟨h1, h3⟩ | ⟨h1, h3⟩
    · refine Tri.r1 [6] 0 [] [(2, .ov [.sc (.bool true)])] [_] ⟨15, [(6, oB (decide (a0 ≤ a2)))], [], 0, []⟩ (by kernel_rfl) ⟨(ovb (decide_eq_true h1)), trivial⟩ ?_
      exact ⟨(decide (a0 ≤ a2)), (Option.some.inj h3).symm, rfl⟩
    · refine Tri.r1 [6] 0 [] [(2, .ov [.sc (.bool false)])] [_] ⟨15, [(6, oB false)], [], 0, []⟩ (by kernel_rfl) ⟨(ovb (decide_eq_false h1)), trivial⟩ ?_
      exact ⟨false, (Option.some.inj h3).symm, rfl⟩
/-! impl_isLetter: function 193 -/
def impl_isLetter.e1 (k : Nat) (a0 : Int) : Option Bool := if (97 : Int) ≤ a0 then (if a0 ≤ 122 then (some true) else (if (65 : Int) ≤ a0 then (if a0 ≤ 90 then (some true) else (some (decide (a0 = 95)))) else (some (decide (a0 = 95))))) else (if (65 : Int) ≤ a0 then (if a0 ≤ 90 then (some true) else (some (decide (a0 = 95)))) else (some (decide (a0 = 95))))
def impl_isLetter.f (k : Nat) (a0 : Int) : Option Bool := (impl_isLetter.e1 k a0).bind fun y7 => some y7
set_option maxRecDepth 100000 in
theorem impl_isLetter.fn (k : Nat) (a0 : Int) (r : Bool) (H : impl_isLetter.f k a0 = some r) : Fn Tryz.prog 193 [o1 (cK .u8 a0)] [] (oB r) [] := by
  unfold impl_isLetter.f at H
  refine Fn.body (ts := [2]) Tryz.func193 rfl rfl (by decide) (by decide) (Nat.le_of_ble_eq_true rfl) (Nat.le_refl _) ?_
  refine Tri.rn [0] 0 [] [] [] ⟨21, [(0, o1 (cK .u8 a0))], [], 0, []⟩ (by kernel_rfl) trivial ?_
  obtain ⟨v9, h8, H⟩ := bind_some' H
  refine Tri.join (α := Bool) (fun w => v9 = w) (fun y7 => ⟨21, [(2, oB y7)], [], 0, []⟩) (fun y7 hw => ?_) ?_
  · rw [hw] at H; clear hw
    try dsimp only at H
    refine Tri.ret ?_
    obtain rfl := Option.some.inj H
    exact ⟨.inr rfl, rfl, rfl, Nat.le_refl _, rfl, by simp⟩
  · unfold impl_isLetter.e1 at h8
    rcases ite_some h8 with ⟨h1, h8⟩ | ⟨h1, h8⟩
    · rcases ite_some h8 with ⟨h2, h8⟩ | ⟨h2, h8⟩
      · refine Tri.r1 [2] 0 [] [(1, .ov [.sc (.bool true)]), (4, .ov [.sc (.bool true)])] [_, _] ⟨21, [(2, oB true)], [], 0, []⟩ (by kernel_rfl) ⟨(ovb (decide_eq_true h1)), (ovb (decide_eq_true h2)), trivial⟩ ?_
        exact ⟨true, (Option.some.inj h8).symm, rfl⟩
      · rcases ite_some h8 with ⟨h3, h8⟩ | ⟨h3, h8⟩
        · rcases ite_some h8 with ⟨h4, h8⟩ | ⟨h4, h8⟩
          · refine Tri.r1 [2] 0 [] [(1, .ov [.sc (.bool true)]), (4, .ov [.sc (.bool false)]), (8, .ov [.sc (.bool true)]), (11, .ov [.sc (.bool true)])] [_, _, _, _] ⟨21, [(2, oB true)], [], 0, []⟩ (by kernel_rfl) ⟨(ovb (decide_eq_true h1)), (ovb (decide_eq_false h2)), (ovb (decide_eq_true h3)), (ovb (decide_eq_true h4)), trivial⟩ ?_
            exact ⟨true, (Option.some.inj h8).symm, rfl⟩
          · refine Tri.r1 [2] 0 [] [(1, .ov [.sc (.bool true)]), (4, .ov [.sc (.bool false)]), (8, .ov [.sc (.bool true)]), (11, .ov [.sc (.bool false)])] [_, _, _, _] ⟨21, [(2, oB (decide (a0 = 95)))], [], 0, []⟩ (by kernel_rfl) ⟨(ovb (decide_eq_true h1)), (ovb (decide_eq_false h2)), (ovb (decide_eq_true h3)), (ovb (decide_eq_false h4)), trivial⟩ ?_
            exact ⟨(decide (a0 = 95)), (Option.some.inj h8).symm, rfl⟩
        · refine Tri.r1 [2] 0 [] [(1, .ov [.sc (.bool true)]), (4, .ov [.sc (.bool false)]), (8, .ov [.sc (.bool false)])] [_, _, _] ⟨21, [(2, oB (decide (a0 = 95)))], [], 0, []⟩ (by kernel_rfl) ⟨(ovb (decide_eq_true h1)), (ovb (decide_eq_false h2)), (ovb (decide_eq_false h3)), trivial⟩ ?_
          exact ⟨(decide (a0 = 95)), (Option.some.inj h8).symm, rfl⟩
    · rcases ite_some h8 with ⟨h5, h8⟩ | ⟨h5, h8⟩
      · rcases ite_some h8 with ⟨h6, h8⟩ | ⟨h6, h8⟩
        · refine Tri.r1 [2] 0 [] [(1, .ov [.sc (.bool false)]), (8, .ov [.sc (.bool true)]), (11, .ov [.sc (.bool true)])] [_, _, _] ⟨21, [(2, oB true)], [], 0, []⟩ (by kernel_rfl) ⟨(ovb (decide_eq_false h1)), (ovb (decide_eq_true h5)), (ovb (decide_eq_true h6)), trivial⟩ ?_
          exact ⟨true, (Option.some.inj h8).symm, rfl⟩
        · refine Tri.r1 [2] 0 [] [(1, .ov [.sc (.bool false)]), (8, .ov [.sc (.bool true)]), (11, .ov [.sc (.bool false)])] [_, _, _] ⟨21, [(2, oB (decide (a0 = 95)))], [], 0, []⟩ (by kernel_rfl) ⟨(ovb (decide_eq_false h1)), (ovb (decide_eq_true h5)), (ovb (decide_eq_false h6)), trivial⟩ ?_
          exact ⟨(decide (a0 = 95)), (Option.some.inj h8).symm, rfl⟩
      · refine Tri.r1 [2] 0 [] [(1, .ov [.sc (.bool false)]), (8, .ov [.sc (.bool false)])] [_, _] ⟨21, [(2, oB (decide (a0 = 95)))], [], 0, []⟩ (by kernel_rfl) ⟨(ovb (decide_eq_false h1)), (ovb (decide_eq_false h5)), trivial⟩ ?_
        exact ⟨(decide (a0 = 95)), (Option.some.inj h8).symm, rfl⟩
/-! impl_isDigit: function 226 -/
def impl_isDigit.e1 (k : Nat) (a0 : Int) : Option Bool := if (48 : Int) ≤ a0 then (some (decide (a0 ≤ 57))) else (some false)
def impl_isDigit.f (k : Nat) (a0 : Int) : Option Bool := (impl_isDigit.e1 k a0).bind fun y2 => some y2
set_option maxRecDepth 100000 in
theorem impl_isDigit.fn (k : Nat) (a0 : Int) (r : Bool) (H : impl_isDigit.f k a0 = some r) : Fn Tryz.prog 226 [o1 (cK .u8 a0)] [] (oB r) [] := by
  unfold impl_isDigit.f at H
  refine Fn.body (ts := [2]) Tryz.func226 rfl rfl (by decide) (by decide) (Nat.le_of_ble_eq_true rfl) (Nat.le_refl _) ?_
  refine Tri.rn [0] 0 [] [] [] ⟨9, [(0, o1 (cK .u8 a0))], [], 0, []⟩ (by kernel_rfl) trivial ?_
  obtain ⟨v4, h3, H⟩ := bind_some' H
  refine Tri.join (α := Bool) (fun w => v4 = w) (fun y2 => ⟨9, [(2, oB y2)], [], 0, []⟩) (fun y2 hw => ?_) ?_
  · rw [hw] at H; clear hw
    try dsimp only at H
    refine Tri.ret ?_
    obtain rfl := Option.some.inj H
    exact ⟨.inr rfl, rfl, rfl, Nat.le_refl _, rfl, by simp⟩
  · unfold impl_isDigit.e1 at h3
    rcases ite_some h3 with ⟨h1, h3⟩ | ⟨h1, h3⟩
    · refine Tri.r1 [2] 0 [] [(1, .ov [.sc (.bool true)])] [_] ⟨9, [(2, oB (decide (a0 ≤ 57)))], [], 0, []⟩ (by kernel_rfl) ⟨(ovb (decide_eq_true h1)), trivial⟩ ?_
      exact ⟨(decide (a0 ≤ 57)), (Option.some.inj h3).symm, rfl⟩
    · refine Tri.r1 [2] 0 [] [(1, .ov [.sc (.bool false)])] [_] ⟨9, [(2, oB false)], [], 0, []⟩ (by kernel_rfl) ⟨(ovb (decide_eq_false h1)), trivial⟩ ?_
      exact ⟨false, (Option.some.inj h3).symm, rfl⟩
/-! impl_isWordByte: function 195 -/
def impl_isWordByte.e1 (k : Nat) (a0 : Int) : Option Bool := (impl_isLetter.f k a0).bind fun r1 => if r1 = true then (some true) else ((impl_isDigit.f k a0).bind fun r4 => some r4)
def impl_isWordByte.f (k : Nat) (a0 : Int) : Option Bool := (impl_isWordByte.e1 k a0).bind fun y6 => some y6
set_option maxRecDepth 100000 in
theorem impl_isWordByte.fn (k : Nat) (a0 : Int) (r : Bool) (H : impl_isWordByte.f k a0 = some r) : Fn Tryz.prog 195 [o1 (cK .u8 a0)] [] (oB r) [] := by
  unfold impl_isWordByte.f at H
  refine Fn.body (ts := [2]) Tryz.func195 rfl rfl (by decide) (by decide) (Nat.le_of_ble_eq_true rfl) (Nat.le_refl _) ?_
  refine Tri.rn [0] 0 [] [] [] ⟨9, [(0, o1 (cK .u8 a0))], [], 0, []⟩ (by kernel_rfl) trivial ?_
  obtain ⟨v8, h7, H⟩ := bind_some' H
  refine Tri.join (α := Bool) (fun w => v8 = w) (fun y6 => ⟨9, [(2, oB y6)], [], 0, []⟩) (fun y6 hw => ?_) ?_
  · rw [hw] at H; clear hw
    try dsimp only at H
    refine Tri.ret ?_
    obtain rfl := Option.some.inj H
    exact ⟨.inr rfl, rfl, rfl, Nat.le_refl _, rfl, by simp⟩
  · unfold impl_isWordByte.e1 at h7
    obtain ⟨r1, h2, h7⟩ := bind_some' h7
    rcases iteb_some h7 with ⟨h3, h7⟩ | ⟨h3, h7⟩
    · refine Tri.r1 [2] 0 [] [(1, .call (oB r1) [] false), (1, .ov [.sc (.bool true)])] [_, _, _] ⟨9, [(2, oB true)], [], 0, []⟩ (by kernel_rfl) ⟨(impl_isLetter.fn k a0 r1 h2), (show (List.all [cB r1] PC.flatB) = true from rfl), (ovb h3), trivial⟩ ?_
      exact ⟨true, (Option.some.inj h7).symm, rfl⟩
    · obtain ⟨r4, h5, h7⟩ := bind_some' h7
      refine Tri.r1 [2] 0 [] [(1, .call (oB r1) [] false), (1, .ov [.sc (.bool false)]), (4, .call (oB r4) [] false)] [_, _, _, _, _] ⟨9, [(2, oB r4)], [], 0, []⟩ (by kernel_rfl) ⟨(impl_isLetter.fn k a0 r1 h2), (show (List.all [cB r1] PC.flatB) = true from rfl), (ovb h3), (impl_isDigit.fn k a0 r4 h5), (show (List.all [cB r4] PC.flatB) = true from rfl), trivial⟩ ?_
      exact ⟨r4, (Option.some.inj h7).symm, rfl⟩
/-! impl_areAll_byte__1_1: function 225 -/
def impl_areAll_byte__1_1.f (k : Nat) (a0 : Int) : Option Bool := (impl_isWordByte.f k a0).bind fun r1 => some (!r1)
set_option maxRecDepth 100000 in
theorem impl_areAll_byte__1_1.fn (k : Nat) (a0 : Int) (r : Bool) (H : impl_areAll_byte__1_1.f k a0 = some r) : Fn Tryz.prog 225 [o1 (cK .u8 a0), o1 (.cel ([.sc (.func (.func 195) #[] #[])]) 0)] [] (oB r) [] := by
  unfold impl_areAll_byte__1_1.f at H
  refine Fn.body (ts := [3]) Tryz.func225 rfl rfl (by decide) (by decide) (Nat.le_of_ble_eq_true rfl) (Nat.le_refl _) ?_
  refine Tri.rn [0, 1] 0 [] [] [] ⟨8, [(0, o1 (cK .u8 a0)), (1, o1 (.cel ([.sc (.func (.func 195) #[] #[])]) 0))], [], 0, []⟩ (by kernel_rfl) trivial ?_
  obtain ⟨r1, h2, H⟩ := bind_some' H
  refine Tri.rn [3] 0 [] [(2, .call (oB r1) [] false)] [_, _] ⟨8, [(3, oB (!r1))], [], 0, []⟩ (by kernel_rfl) ⟨(impl_isWordByte.fn k a0 r1 h2), (show (List.all [cB r1] PC.flatB) = true from rfl), trivial⟩ ?_
  refine Tri.ret ?_
  obtain rfl := Option.some.inj H
  exact ⟨.inr rfl, rfl, rfl, Nat.le_refl _, rfl, by simp⟩
/-! slices_IndexFunc___byte_byte_1: function 248 -/
def slices_IndexFunc___byte_byte_1.l1 : Nat → (List Int) → Int → Option (Int ⊕ Unit)
  | 0, _, _ => none
  | k + 1, a0, z7 => if z7 < (a0.length : Int) then ((at? a0 z7).bind fun x9 => (impl_areAll_byte__1_1.f k x9).bind fun r11 => if r11 = true then (some (.inl z7)) else (slices_IndexFunc___byte_byte_1.l1 k a0 (w64 (z7 + 1)))) else (some (.inr ()))
def slices_IndexFunc___byte_byte_1.e2 (k : Nat) (a0 : (List Int)) : Option (Int ⊕ Unit) := slices_IndexFunc___byte_byte_1.l1 k a0 0
def slices_IndexFunc___byte_byte_1.f (k : Nat) (a0 : (List Int)) : Option Int := (slices_IndexFunc___byte_byte_1.e2 k a0).bind fun v => match v with | .inl r => some r | .inr _ => some (-1)
set_option maxRecDepth 100000 in
theorem slices_IndexFunc___byte_byte_1.fn (k : Nat) (a0 : (List Int)) (r : Int) (H : slices_IndexFunc___byte_byte_1.f k a0 = some r) : Fn Tryz.prog 248 [o1 (.sl 1 (List.map (eK .u8) a0)), o1 (.fn 225 [.cel ([.sc (.func (.func 195) #[] #[])]) 0])] [] (oI r) [] := by
  unfold slices_IndexFunc___byte_byte_1.f at H
  refine Fn.body (ts := [4]) Tryz.func248 rfl rfl (by decide) (by decide) (Nat.le_of_ble_eq_true rfl) (Nat.le_refl _) ?_
  refine Tri.rn [0, 1] 0 [] [] [] ⟨19, [(0, o1 (.sl 1 (List.map (eK .u8) a0))), (1, o1 (.fn 225 [.cel ([.sc (.func (.func 195) #[] #[])]) 0]))], [], 0, []⟩ (by kernel_rfl) trivial ?_
  obtain ⟨v16, h15, H⟩ := bind_some' H
  refine Tri.join (α := Unit) (fun w => v16 = .inr w) (fun _ => ⟨19, [], [], 0, []⟩) (fun w hw => ?_) ?_
  · rw [hw] at H; clear hw
    try dsimp only at H
    refine Tri.rn [4] 0 [] [] [] ⟨19, [(4, oI (-1))], [], 0, []⟩ (by kernel_rfl) trivial ?_
    refine Tri.ret ?_
    obtain rfl := Option.some.inj H
    exact ⟨.inr rfl, rfl, rfl, Nat.le_refl _, rfl, by simp⟩
  · unfold slices_IndexFunc___byte_byte_1.e2 at h15
    refine Tri.rn [0, 1, 7, 8] 0 [] [(1, .ov [.sc (.int .i64 (a0.length : Int))])] [_] ⟨19, [(0, o1 (.sl 1 (List.map (eK .u8) a0))), (1, o1 (.fn 225 [.cel ([.sc (.func (.func 195) #[] #[])]) 0])), (7, oI (a0.length : Int)), (8, oI 0)], [], 0, []⟩ (by kernel_rfl) ⟨(ovlen (f := (eK .u8)) (l := a0)), trivial⟩ ?_
    refine Tri.block ?_
    refine Tri.loop k (TriR.ind (α := Int) (fun k x => slices_IndexFunc___byte_byte_1.l1 k a0 x) (fun x => ⟨19, [(0, o1 (.sl 1 (List.map (eK .u8) a0))), (1, o1 (.fn 225 [.cel ([.sc (.func (.func 195) #[] #[])]) 0])), (7, oI (a0.length : Int)), (8, oI x)], [], 0, []⟩) (fun _ => rfl) (fun k z7 h15 IH14 => ?_) k 0 h15)
    rw [slices_IndexFunc___byte_byte_1.l1.eq_2] at h15
    refine Tri.rn [0, 1, 7, 8, 9] 0 [] [] [] ⟨19, [(0, o1 (.sl 1 (List.map (eK .u8) a0))), (1, o1 (.fn 225 [.cel ([.sc (.func (.func 195) #[] #[])]) 0])), (7, oI (a0.length : Int)), (8, oI z7), (9, oB (decide (z7 < (a0.length : Int))))], [], 0, []⟩ (by kernel_rfl) trivial ?_
    refine Tri.seq ?_
    rcases ite_some h15 with ⟨h8, h15⟩ | ⟨h8, h15⟩
    · refine Tri.cond_true (useb (decide_eq_true h8) (by kernel_rfl)) ?_
      refine Tri.skip ?_
      refine Tri.seq ?_
      refine Tri.block ?_
      refine Tri.rn [0, 1, 5, 7, 8] 0 [] [] [] ⟨19, [(0, o1 (.sl 1 (List.map (eK .u8) a0))), (1, o1 (.fn 225 [.cel ([.sc (.func (.func 195) #[] #[])]) 0])), (5, oI z7), (7, oI (a0.length : Int)), (8, oI z7)], [], 0, []⟩ (by kernel_rfl) trivial ?_
      obtain ⟨x9, h10, h15⟩ := bind_some' h15
      obtain ⟨r11, h12, h15⟩ := bind_some' h15
      refine Tri.rn [0, 1, 5, 7, 8, 16] 0 [] [(3, .el ((eK .u8) x9)), (5, .call (oB r11) [] false)] [_, _, _, _] ⟨19, [(0, o1 (.sl 1 (List.map (eK .u8) a0))), (1, o1 (.fn 225 [.cel ([.sc (.func (.func 195) #[] #[])]) 0])), (5, oI z7), (7, oI (a0.length : Int)), (8, oI z7), (16, oB r11)], [], 0, []⟩ (by kernel_rfl) ⟨(at?_0 h10), (at?_map (f := (eK .u8)) h10), (impl_areAll_byte__1_1.fn k x9 r11 h12), (show (List.all [cB r11] PC.flatB) = true from rfl), trivial⟩ ?_
      rcases iteb_some h15 with ⟨h13, h15⟩ | ⟨h13, h15⟩
      · refine Tri.cond_true (useb h13 (by kernel_rfl)) ?_
        refine Tri.rn [4] 0 [] [] [] ⟨19, [(4, oI z7)], [], 0, []⟩ (by kernel_rfl) trivial ?_
        refine Tri.ret ?_
        obtain rfl := Option.some.inj h15
        try dsimp only at H
        obtain rfl := Option.some.inj H
        exact ⟨.inr rfl, rfl, rfl, Nat.le_refl _, rfl, by simp⟩
      · refine Tri.cond_false (useb h13 (by kernel_rfl)) ?_
        refine Tri.skip ?_
        refine Tri.r1 [0, 1, 7, 8] 0 [] [] [] ⟨19, [(0, o1 (.sl 1 (List.map (eK .u8) a0))), (1, o1 (.fn 225 [.cel ([.sc (.func (.func 195) #[] #[])]) 0])), (7, oI (a0.length : Int)), (8, oI (w64 (z7 + 1)))], [], 0, []⟩ (by kernel_rfl) trivial ?_
        exact IH14 _ (w64 (z7 + 1)) (Nat.le_refl _) h15
    · refine Tri.cond_false (useb (decide_eq_false h8) (by kernel_rfl)) ?_
      refine Tri.fix [] 0 [] ⟨19, [], [], 0, []⟩ (by kernel_rfl) ?_
      refine Tri.exit ?_
      repeat (with_reducible refine Ex.exit ?_)
      refine Bk.here ?_
      exact ⟨(), (Option.some.inj h15).symm, rfl⟩
/-! slices_ContainsFunc___byte_byte_1: function 224 -/
def slices_ContainsFunc___byte_byte_1.f (k : Nat) (a0 : (List Int)) : Option Bool := (slices_IndexFunc___byte_byte_1.f k a0).bind fun r1 => some (decide ((0 : Int) ≤ r1))
set_option maxRecDepth 100000 in
theorem slices_ContainsFunc___byte_byte_1.fn (k : Nat) (a0 : (List Int)) (r : Bool) (H : slices_ContainsFunc___byte_byte_1.f k a0 = some r) : Fn Tryz.prog 224 [o1 (.sl 1 (List.map (eK .u8) a0)), o1 (.fn 225 [.cel ([.sc (.func (.func 195) #[] #[])]) 0])] [] (oB r) [] := by
  unfold slices_ContainsFunc___byte_byte_1.f at H
  refine Fn.body (ts := [4]) Tryz.func224 rfl rfl (by decide) (by decide) (Nat.le_of_ble_eq_true rfl) (Nat.le_refl _) ?_
  refine Tri.rn [0, 1] 0 [] [] [] ⟨9, [(0, o1 (.sl 1 (List.map (eK .u8) a0))), (1, o1 (.fn 225 [.cel ([.sc (.func (.func 195) #[] #[])]) 0]))], [], 0, []⟩ (by kernel_rfl) trivial ?_
  obtain ⟨r1, h2, H⟩ := bind_some' H
  refine Tri.rn [4] 0 [] [(2, .call (oI r1) [] false)] [_, _] ⟨9, [(4, oB (decide ((0 : Int) ≤ r1)))], [], 0, []⟩ (by kernel_rfl) ⟨(slices_IndexFunc___byte_byte_1.fn k a0 r1 h2), (show (List.all [cI r1] PC.flatB) = true from rfl), trivial⟩ ?_
  refine Tri.ret ?_
  obtain rfl := Option.some.inj H
  exact ⟨.inr rfl, rfl, rfl, Nat.le_refl _, rfl, by simp⟩
/-! impl_areAll_byte_1: function 194 -/
def impl_areAll_byte_1.f (k : Nat) (a0 : (List Int)) : Option Bool := (slices_ContainsFunc___byte_byte_1.f k a0).bind fun r1 => some (!r1)
set_option maxRecDepth 100000 in
theorem impl_areAll_byte_1.fn (k : Nat) (a0 : (List Int)) (r : Bool) (H : impl_areAll_byte_1.f k a0 = some r) : Fn Tryz.prog 194 [o1 (.sl 1 (List.map (eK .u8) a0)), o1 (.sc (.func (.func 195) #[] #[]))] [] (oB r) [] := by
  unfold impl_areAll_byte_1.f at H
  refine Fn.body (ts := [4]) Tryz.func194 rfl rfl (by decide) (by decide) (Nat.le_of_ble_eq_true rfl) (Nat.le_refl _) ?_
  refine Tri.rn [0, 3] 1 [] [] [] ⟨9, [(0, o1 (.sl 1 (List.map (eK .u8) a0))), (3, o1 (.ref 0 0))], [[.sc (.func (.func 195) #[] #[])]], 0, []⟩ (by kernel_rfl) trivial ?_
  obtain ⟨r1, h2, H⟩ := bind_some' H
  refine Tri.rn [4] 0 [] [(2, .call (oB r1) [] false)] [_, _] ⟨9, [(4, oB (!r1))], [], 0, []⟩ (by kernel_rfl) ⟨(slices_ContainsFunc___byte_byte_1.fn k a0 r1 h2), (show (List.all [cB r1] PC.flatB) = true from rfl), trivial⟩ ?_
  refine Tri.ret ?_
  obtain rfl := Option.some.inj H
  exact ⟨.inr rfl, rfl, rfl, Nat.le_refl _, rfl, by simp⟩
/-! impl_NameOK: function 151 -/
def impl_NameOK.e1 (k : Nat) (a0 : ByteArray) : Option Bool := (impl_within.f k (a0.size : Int) 1 40).bind fun r1 => if r1 = true then (if (0 : Int) ≤ 0 then (if 0 < (a0.size : Int) then ((impl_isLetter.f k (byteAt a0 0)).bind fun r6 => if r6 = true then ((impl_areAll_byte_1.f k (bytesOf a0)).bind fun r9 => some r9) else (some false)) else none) else none) else (some false)
def impl_NameOK.f (k : Nat) (a0 : ByteArray) : Option Bool := (impl_NameOK.e1 k a0).bind fun y11 => some y11
set_option maxRecDepth 100000 in
theorem impl_NameOK.fn (k : Nat) (a0 : ByteArray) (r : Bool) (H : impl_NameOK.f k a0 = some r) : Fn Tryz.prog 151 [oS a0] [] (oB r) [] := by
  unfold impl_NameOK.f at H
  refine Fn.body (ts := [2]) Tryz.func151 rfl rfl (by decide) (by decide) (Nat.le_of_ble_eq_true rfl) (Nat.le_refl _) ?_
  refine Tri.rn [0] 0 [] [] [] ⟨16, [(0, oS a0)], [], 0, []⟩ (by kernel_rfl) trivial ?_
  obtain ⟨v13, h12, H⟩ := bind_some' H
  refine Tri.join (α := Bool) (fun w => v13 = w) (fun y11 => ⟨16, [(2, oB y11)], [], 0, []⟩) (fun y11 hw => ?_) ?_
  · rw [hw] at H; clear hw
    try dsimp only at H
    refine Tri.ret ?_
    obtain rfl := Option.some.inj H
    exact ⟨.inr rfl, rfl, rfl, Nat.le_refl _, rfl, by simp⟩
  · unfold impl_NameOK.e1 at h12
    obtain ⟨r1, h2, h12⟩ := bind_some' h12
    rcases iteb_some h12 with ⟨h3, h12⟩ | ⟨h3, h12⟩
    · obtain ⟨h4, h12⟩ := need_some h12
      obtain ⟨h5, h12⟩ := need_some h12
      obtain ⟨r6, h7, h12⟩ := bind_some' h12
      rcases iteb_some h12 with ⟨h8, h12⟩ | ⟨h8, h12⟩
      · obtain ⟨r9, h10, h12⟩ := bind_some' h12
        refine Tri.r1 [2] 0 [] [(2, .call (oB r1) [] false), (2, .ov [.sc (.bool true)]), (6, .call (oB r6) [] false), (6, .ov [.sc (.bool true)]), (11, .call (oB r9) [] false)] [_, _, _, _, _, _, _, _, _, _] ⟨16, [(2, oB r9)], [], 0, []⟩ (by kernel_rfl) ⟨(impl_within.fn k (a0.size : Int) 1 40 r1 h2), (show (List.all [cB r1] PC.flatB) = true from rfl), (ovb h3), h4, h5, (impl_isLetter.fn k (byteAt a0 0) r6 h7), (show (List.all [cB r6] PC.flatB) = true from rfl), (ovb h8), (impl_areAll_byte_1.fn k (bytesOf a0) r9 h10), (show (List.all [cB r9] PC.flatB) = true from rfl), trivial⟩ ?_
        exact ⟨r9, (Option.some.inj h12).symm, rfl⟩
      · refine Tri.r1 [2] 0 [] [(2, .call (oB r1) [] false), (2, .ov [.sc (.bool true)]), (6, .call (oB r6) [] false), (6, .ov [.sc (.bool false)])] [_, _, _, _, _, _, _, _] ⟨16, [(2, oB false)], [], 0, []⟩ (by kernel_rfl) ⟨(impl_within.fn k (a0.size : Int) 1 40 r1 h2), (show (List.all [cB r1] PC.flatB) = true from rfl), (ovb h3), h4, h5, (impl_isLetter.fn k (byteAt a0 0) r6 h7), (show (List.all [cB r6] PC.flatB) = true from rfl), (ovb h8), trivial⟩ ?_
        exact ⟨false, (Option.some.inj h12).symm, rfl⟩
    · refine Tri.r1 [2] 0 [] [(2, .call (oB r1) [] false), (2, .ov [.sc (.bool false)])] [_, _, _] ⟨16, [(2, oB false)], [], 0, []⟩ (by kernel_rfl) ⟨(impl_within.fn k (a0.size : Int) 1 40 r1 h2), (show (List.all [cB r1] PC.flatB) = true from rfl), (ovb h3), trivial⟩ ?_
      exact ⟨false, (Option.some.inj h12).symm, rfl⟩
/-! impl_keys: function 197 -/
def impl_keys.f (k : Nat) : Option (List ByteArray) := (strings_Fields.f k (⟨#[77, 79, 68, 85, 76, 69, 32, 73, 77, 80, 79, 82, 84, 32, 67, 79, 78, 83, 84, 32, 86, 65, 82, 32, 80, 82, 79, 67, 69, 68, 85, 82, 69, 32, 66, 69, 71, 73, 78, 32, 69, 78, 68, 32, 73, 70, 32, 84, 72, 69, 78, 32, 69, 76, 83, 73, 70, 32, 69, 76, 83, 69, 32, 87, 72, 73, 76, 69, 32, 68, 79, 32, 82, 69, 84, 85, 82, 78, 32, 79, 82, 32, 68, 73, 86, 32, 77, 79, 68, 32, 84, 82, 85, 69, 32, 70, 65, 76, 83, 69, 32, 65, 82, 82, 65, 89, 32, 79, 70, 32, 73, 78, 84, 69, 71, 69, 82, 32, 66, 79, 79, 76, 69, 65, 78, 32, 67, 72, 65, 82, 32, 87, 82, 73, 84, 69, 32, 82, 69, 65, 68, 32, 79, 82, 68, 32, 67, 72, 82, 32, 76, 69, 78]⟩ : ByteArray)).bind fun r1 => some r1
set_option maxRecDepth 100000 in
theorem impl_keys.fn (k : Nat) (r : (List ByteArray)) (H : impl_keys.f k  = some r) : Fn Tryz.prog 197 [] [] (o1 (.own 9 (List.map eS r))) [] := by
  unfold impl_keys.f at H
  refine Fn.body (ts := [0]) Tryz.func197 rfl rfl (by decide) (by decide) (Nat.le_of_ble_eq_true rfl) (Nat.le_refl _) ?_
  refine Tri.rn [] 0 [] [] [] ⟨2, [], [], 0, []⟩ (by kernel_rfl) trivial ?_
  obtain ⟨r1, h2, H⟩ := bind_some' H
  refine Tri.rn [0] 0 [] [(0, .call (o1 (.own 9 (List.map eS r1))) [] false)] [_, _] ⟨2, [(0, o1 (.own 9 (List.map eS r1)))], [], 0, []⟩ (by kernel_rfl) ⟨(strings_Fields.fn k (⟨#[77, 79, 68, 85, 76, 69, 32, 73, 77, 80, 79, 82, 84, 32, 67, 79, 78, 83, 84, 32, 86, 65, 82, 32, 80, 82, 79, 67, 69, 68, 85, 82, 69, 32, 66, 69, 71, 73, 78, 32, 69, 78, 68, 32, 73, 70, 32, 84, 72, 69, 78, 32, 69, 76, 83, 73, 70, 32, 69, 76, 83, 69, 32, 87, 72, 73, 76, 69, 32, 68, 79, 32, 82, 69, 84, 85, 82, 78, 32, 79, 82, 32, 68, 73, 86, 32, 77, 79, 68, 32, 84, 82, 85, 69, 32, 70, 65, 76, 83, 69, 32, 65, 82, 82, 65, 89, 32, 79, 70, 32, 73, 78, 84, 69, 71, 69, 82, 32, 66, 79, 79, 76, 69, 65, 78, 32, 67, 72, 65, 82, 32, 87, 82, 73, 84, 69, 32, 82, 69, 65, 68, 32, 79, 82, 68, 32, 67, 72, 82, 32, 76, 69, 78]⟩ : ByteArray) r1 h2), (show (List.all [.own 9 (List.map eS r1)] PC.flatB) = true by simp [PC.flatB, PC.scalar, cI, cK, cB, cS, eS]), trivial⟩ ?_
  refine Tri.ret ?_
  obtain rfl := Option.some.inj H
  exact ⟨.inr rfl, rfl, rfl, Nat.le_refl _, rfl, by simp⟩
/-! slices_Index___string_string: function 227 -/
def slices_Index___string_string.l1 : Nat → (List ByteArray) → ByteArray → Int → Option (Int ⊕ Unit)
  | 0, _, _, _ => none
  | k + 1, a0, a1, z5 => if z5 < (a0.length : Int) then ((at? a0 z5).bind fun x7 => if a1 = x7 then (some (.inl z5)) else (slices_Index___string_string.l1 k a0 a1 (w64 (z5 + 1)))) else (some (.inr ()))
def slices_Index___string_string.e2 (k : Nat) (a0 : (List ByteArray)) (a1 : ByteArray) : Option (Int ⊕ Unit) := slices_Index___string_string.l1 k a0 a1 0
def slices_Index___string_string.f (k : Nat) (a0 : (List ByteArray)) (a1 : ByteArray) : Option Int := (slices_Index___string_string.e2 k a0 a1).bind fun v => match v with | .inl r => some r | .inr _ => some (-1)
set_option maxRecDepth 100000 in
theorem slices_Index___string_string.fn (k : Nat) (a0 : (List ByteArray)) (a1 : ByteArray) (r : Int) (H : slices_Index___string_string.f k a0 a1 = some r) : Fn Tryz.prog 227 [o1 (.sl 1 (List.map eS a0)), oS a1] [] (oI r) [] := by
  unfold slices_Index___string_string.f at H
  refine Fn.body (ts := [4]) Tryz.func227 rfl rfl (by decide) (by decide) (Nat.le_of_ble_eq_true rfl) (Nat.le_refl _) ?_
  refine Tri.rn [0, 1] 0 [] [] [] ⟨19, [(0, o1 (.sl 1 (List.map eS a0))), (1, oS a1)], [], 0, []⟩ (by kernel_rfl) trivial ?_
  obtain ⟨v12, h11, H⟩ := bind_some' H
  refine Tri.join (α := Unit) (fun w => v12 = .inr w) (fun _ => ⟨19, [], [], 0, []⟩) (fun w hw => ?_) ?_
  · rw [hw] at H; clear hw
    try dsimp only at H
    refine Tri.rn [4] 0 [] [] [] ⟨19, [(4, oI (-1))], [], 0, []⟩ (by kernel_rfl) trivial ?_
    refine Tri.ret ?_
    obtain rfl := Option.some.inj H
    exact ⟨.inr rfl, rfl, rfl, Nat.le_refl _, rfl, by simp⟩
  · unfold slices_Index___string_string.e2 at h11
    refine Tri.rn [0, 1, 7, 8] 0 [] [(1, .ov [.sc (.int .i64 (a0.length : Int))])] [_] ⟨19, [(0, o1 (.sl 1 (List.map eS a0))), (1, oS a1), (7, oI (a0.length : Int)), (8, oI 0)], [], 0, []⟩ (by kernel_rfl) ⟨(ovlen (f := eS) (l := a0)), trivial⟩ ?_
    refine Tri.block ?_
    refine Tri.loop k (TriR.ind (α := Int) (fun k x => slices_Index___string_string.l1 k a0 a1 x) (fun x => ⟨19, [(0, o1 (.sl 1 (List.map eS a0))), (1, oS a1), (7, oI (a0.length : Int)), (8, oI x)], [], 0, []⟩) (fun _ => rfl) (fun k z5 h11 IH10 => ?_) k 0 h11)
    rw [slices_Index___string_string.l1.eq_2] at h11
    refine Tri.rn [0, 1, 7, 8, 9] 0 [] [] [] ⟨19, [(0, o1 (.sl 1 (List.map eS a0))), (1, oS a1), (7, oI (a0.length : Int)), (8, oI z5), (9, oB (decide (z5 < (a0.length : Int))))], [], 0, []⟩ (by kernel_rfl) trivial ?_
    refine Tri.seq ?_
    rcases ite_some h11 with ⟨h6, h11⟩ | ⟨h6, h11⟩
    · refine Tri.cond_true (useb (decide_eq_true h6) (by kernel_rfl)) ?_
      refine Tri.skip ?_
      refine Tri.seq ?_
      refine Tri.block ?_
      refine Tri.rn [0, 1, 5, 7, 8] 0 [] [] [] ⟨19, [(0, o1 (.sl 1 (List.map eS a0))), (1, oS a1), (5, oI z5), (7, oI (a0.length : Int)), (8, oI z5)], [], 0, []⟩ (by kernel_rfl) trivial ?_
      obtain ⟨x7, h8, h11⟩ := bind_some' h11
      refine Tri.rn [0, 1, 5, 7, 8, 16] 0 [] [(3, .el (eS x7))] [_, _] ⟨19, [(0, o1 (.sl 1 (List.map eS a0))), (1, oS a1), (5, oI z5), (7, oI (a0.length : Int)), (8, oI z5), (16, oB (decide (a1 = x7)))], [], 0, []⟩ (by kernel_rfl) ⟨(at?_0 h8), (at?_map (f := eS) h8), trivial⟩ ?_
      rcases ite_some h11 with ⟨h9, h11⟩ | ⟨h9, h11⟩
      · refine Tri.cond_true (useb (decide_eq_true h9) (by kernel_rfl)) ?_
        refine Tri.rn [4] 0 [] [] [] ⟨19, [(4, oI z5)], [], 0, []⟩ (by kernel_rfl) trivial ?_
        refine Tri.ret ?_
        obtain rfl := Option.some.inj h11
        try dsimp only at H
        obtain rfl := Option.some.inj H
        exact ⟨.inr rfl, rfl, rfl, Nat.le_refl _, rfl, by simp⟩
      · refine Tri.cond_false (useb (decide_eq_false h9) (by kernel_rfl)) ?_
        refine Tri.skip ?_
        refine Tri.r1 [0, 1, 7, 8] 0 [] [] [] ⟨19, [(0, o1 (.sl 1 (List.map eS a0))), (1, oS a1), (7, oI (a0.length : Int)), (8, oI (w64 (z5 + 1)))], [], 0, []⟩ (by kernel_rfl) trivial ?_
        exact IH10 _ (w64 (z5 + 1)) (Nat.le_refl _) h11
    · refine Tri.cond_false (useb (decide_eq_false h6) (by kernel_rfl)) ?_
      refine Tri.fix [] 0 [] ⟨19, [], [], 0, []⟩ (by kernel_rfl) ?_
      refine Tri.exit ?_
      repeat (with_reducible refine Ex.exit ?_)
      refine Bk.here ?_
      exact ⟨(), (Option.some.inj h11).symm, rfl⟩
/-! slices_Contains___string_string: function 196 -/
def slices_Contains___string_string.f (k : Nat) (a0 : (List ByteArray)) (a1 : ByteArray) : Option Bool := (slices_Index___string_string.f k a0 a1).bind fun r1 => some (decide ((0 : Int) ≤ r1))
set_option maxRecDepth 100000 in
theorem slices_Contains___string_string.fn (k : Nat) (a0 : (List ByteArray)) (a1 : ByteArray) (r : Bool) (H : slices_Contains___string_string.f k a0 a1 = some r) : Fn Tryz.prog 196 [o1 (.sl 1 (List.map eS a0)), oS a1] [] (oB r) [] := by
  unfold slices_Contains___string_string.f at H
  refine Fn.body (ts := [4]) Tryz.func196 rfl rfl (by decide) (by decide) (Nat.le_of_ble_eq_true rfl) (Nat.le_refl _) ?_
  refine Tri.rn [0, 1] 0 [] [] [] ⟨9, [(0, o1 (.sl 1 (List.map eS a0))), (1, oS a1)], [], 0, []⟩ (by kernel_rfl) trivial ?_
  obtain ⟨r1, h2, H⟩ := bind_some' H
  refine Tri.rn [4] 0 [] [(2, .call (oI r1) [] false)] [_, _] ⟨9, [(4, oB (decide ((0 : Int) ≤ r1)))], [], 0, []⟩ (by kernel_rfl) ⟨(slices_Index___string_string.fn k a0 a1 r1 h2), (show (List.all [cI r1] PC.flatB) = true from rfl), trivial⟩ ?_
  refine Tri.ret ?_
  obtain rfl := Option.some.inj H
  exact ⟨.inr rfl, rfl, rfl, Nat.le_refl _, rfl, by simp⟩
/-! impl_IsKey: function 152 -/
def impl_IsKey.f (k : Nat) (a0 : ByteArray) : Option Bool := (impl_keys.f k).bind fun r1 => (slices_Contains___string_string.f k r1 a0).bind fun r3 => some r3
set_option maxRecDepth 100000 in
theorem impl_IsKey.fn (k : Nat) (a0 : ByteArray) (r : Bool) (H : impl_IsKey.f k a0 = some r) : Fn Tryz.prog 152 [oS a0] [] (oB r) [] := by
  unfold impl_IsKey.f at H
  refine Fn.body (ts := [2]) Tryz.func152 rfl rfl (by decide) (by decide) (Nat.le_of_ble_eq_true rfl) (Nat.le_refl _) ?_
  refine Tri.rn [0] 0 [] [] [] ⟨6, [(0, oS a0)], [], 0, []⟩ (by kernel_rfl) trivial ?_
  obtain ⟨r1, h2, H⟩ := bind_some' H
  obtain ⟨r3, h4, H⟩ := bind_some' H
  refine Tri.rn [2] 0 [] [(0, .call (o1 (.own 9 (List.map eS r1))) [] false), (2, .call (oB r3) [] false)] [_, _, _, _] ⟨6, [(2, oB r3)], [], 0, []⟩ (by kernel_rfl) ⟨(impl_keys.fn k r1 h2), (show (List.all [.own 9 (List.map eS r1)] PC.flatB) = true by simp [PC.flatB, PC.scalar, cI, cK, cB, cS, eS]), (slices_Contains___string_string.fn k r1 a0 r3 h4), (show (List.all [cB r3] PC.flatB) = true from rfl), trivial⟩ ?_
  refine Tri.ret ?_
  obtain rfl := Option.some.inj H
  exact ⟨.inr rfl, rfl, rfl, Nat.le_refl _, rfl, by simp⟩
/-! impl_isName: function 92 -/
def impl_isName.e1 (k : Nat) (a0 : ByteArray) : Option Bool := (impl_NameOK.f k a0).bind fun r1 => if r1 = true then ((impl_IsKey.f k a0).bind fun r4 => some (!r4)) else (some false)
def impl_isName.f (k : Nat) (a0 : ByteArray) : Option Bool := (impl_isName.e1 k a0).bind fun y6 => some y6
set_option maxRecDepth 100000 in
theorem impl_isName.fn (k : Nat) (a0 : ByteArray) (r : Bool) (H : impl_isName.f k a0 = some r) : Fn Tryz.prog 92 [oS a0] [] (oB r) [] := by
  unfold impl_isName.f at H
  refine Fn.body (ts := [2]) Tryz.func92 rfl rfl (by decide) (by decide) (Nat.le_of_ble_eq_true rfl) (Nat.le_refl _) ?_
  refine Tri.rn [0] 0 [] [] [] ⟨10, [(0, oS a0)], [], 0, []⟩ (by kernel_rfl) trivial ?_
  obtain ⟨v8, h7, H⟩ := bind_some' H
  refine Tri.join (α := Bool) (fun w => v8 = w) (fun y6 => ⟨10, [(2, oB y6)], [], 0, []⟩) (fun y6 hw => ?_) ?_
  · rw [hw] at H; clear hw
    try dsimp only at H
    refine Tri.ret ?_
    obtain rfl := Option.some.inj H
    exact ⟨.inr rfl, rfl, rfl, Nat.le_refl _, rfl, by simp⟩
  · unfold impl_isName.e1 at h7
    obtain ⟨r1, h2, h7⟩ := bind_some' h7
    rcases iteb_some h7 with ⟨h3, h7⟩ | ⟨h3, h7⟩
    · obtain ⟨r4, h5, h7⟩ := bind_some' h7
      refine Tri.r1 [2] 0 [] [(1, .call (oB r1) [] false), (1, .ov [.sc (.bool true)]), (4, .call (oB r4) [] false)] [_, _, _, _, _] ⟨10, [(2, oB (!r4))], [], 0, []⟩ (by kernel_rfl) ⟨(impl_NameOK.fn k a0 r1 h2), (show (List.all [cB r1] PC.flatB) = true from rfl), (ovb h3), (impl_IsKey.fn k a0 r4 h5), (show (List.all [cB r4] PC.flatB) = true from rfl), trivial⟩ ?_
      exact ⟨(!r4), (Option.some.inj h7).symm, rfl⟩
    · refine Tri.r1 [2] 0 [] [(1, .call (oB r1) [] false), (1, .ov [.sc (.bool false)])] [_, _, _] ⟨10, [(2, oB false)], [], 0, []⟩ (by kernel_rfl) ⟨(impl_NameOK.fn k a0 r1 h2), (show (List.all [cB r1] PC.flatB) = true from rfl), (ovb h3), trivial⟩ ?_
      exact ⟨false, (Option.some.inj h7).symm, rfl⟩
/-! impl_isType: function 170 -/
def impl_isType.f (k : Nat) (a0 : Int) : Option Bool := (impl_within.f k a0 1 3).bind fun r1 => some r1
set_option maxRecDepth 100000 in
theorem impl_isType.fn (k : Nat) (a0 : Int) (r : Bool) (H : impl_isType.f k a0 = some r) : Fn Tryz.prog 170 [oI a0] [] (oB r) [] := by
  unfold impl_isType.f at H
  refine Fn.body (ts := [2]) Tryz.func170 rfl rfl (by decide) (by decide) (Nat.le_of_ble_eq_true rfl) (Nat.le_refl _) ?_
  refine Tri.rn [0] 0 [] [] [] ⟨5, [(0, oI a0)], [], 0, []⟩ (by kernel_rfl) trivial ?_
  obtain ⟨r1, h2, H⟩ := bind_some' H
  refine Tri.rn [2] 0 [] [(1, .call (oB r1) [] false)] [_, _] ⟨5, [(2, oB r1)], [], 0, []⟩ (by kernel_rfl) ⟨(impl_within.fn k a0 1 3 r1 h2), (show (List.all [cB r1] PC.flatB) = true from rfl), trivial⟩ ?_
  refine Tri.ret ?_
  obtain rfl := Option.some.inj H
  exact ⟨.inr rfl, rfl, rfl, Nat.le_refl _, rfl, by simp⟩
/-! impl_CharOK: function 209 -/
def impl_CharOK.e1 (k : Nat) (a0 : Int) : Option Bool := (impl_within.f k a0 0 1114111).bind fun r1 => if r1 = true then ((impl_within.f k a0 55296 57343).bind fun r4 => some (!r4)) else (some false)
def impl_CharOK.f (k : Nat) (a0 : Int) : Option Bool := (impl_CharOK.e1 k a0).bind fun y6 => some y6
set_option maxRecDepth 100000 in
theorem impl_CharOK.fn (k : Nat) (a0 : Int) (r : Bool) (H : impl_CharOK.f k a0 = some r) : Fn Tryz.prog 209 [oI a0] [] (oB r) [] := by
  unfold impl_CharOK.f at H
  refine Fn.body (ts := [2]) Tryz.func209 rfl rfl (by decide) (by decide) (Nat.le_of_ble_eq_true rfl) (Nat.le_refl _) ?_
  refine Tri.rn [0] 0 [] [] [] ⟨10, [(0, oI a0)], [], 0, []⟩ (by kernel_rfl) trivial ?_
  obtain ⟨v8, h7, H⟩ := bind_some' H
  refine Tri.join (α := Bool) (fun w => v8 = w) (fun y6 => ⟨10, [(2, oB y6)], [], 0, []⟩) (fun y6 hw => ?_) ?_
  · rw [hw] at H; clear hw
    try dsimp only at H
    refine Tri.ret ?_
    obtain rfl := Option.some.inj H
    exact ⟨.inr rfl, rfl, rfl, Nat.le_refl _, rfl, by simp⟩
  · unfold impl_CharOK.e1 at h7
    obtain ⟨r1, h2, h7⟩ := bind_some' h7
    rcases iteb_some h7 with ⟨h3, h7⟩ | ⟨h3, h7⟩
    · obtain ⟨r4, h5, h7⟩ := bind_some' h7
      refine Tri.r1 [2] 0 [] [(1, .call (oB r1) [] false), (1, .ov [.sc (.bool true)]), (4, .call (oB r4) [] false)] [_, _, _, _, _] ⟨10, [(2, oB (!r4))], [], 0, []⟩ (by kernel_rfl) ⟨(impl_within.fn k a0 0 1114111 r1 h2), (show (List.all [cB r1] PC.flatB) = true from rfl), (ovb h3), (impl_within.fn k a0 55296 57343 r4 h5), (show (List.all [cB r4] PC.flatB) = true from rfl), trivial⟩ ?_
      exact ⟨(!r4), (Option.some.inj h7).symm, rfl⟩
    · refine Tri.r1 [2] 0 [] [(1, .call (oB r1) [] false), (1, .ov [.sc (.bool false)])] [_, _, _] ⟨10, [(2, oB false)], [], 0, []⟩ (by kernel_rfl) ⟨(impl_within.fn k a0 0 1114111 r1 h2), (show (List.all [cB r1] PC.flatB) = true from rfl), (ovb h3), trivial⟩ ?_
      exact ⟨false, (Option.some.inj h7).symm, rfl⟩
/-! impl_isValueOf: function 171 -/
def impl_isValueOf.e1 (k : Nat) (a0 : Int) (a1 : Int) : Option Bool := if a0 = 1 then (some true) else (if a0 = 2 then ((impl_within.f k a1 0 1).bind fun r3 => if r3 = true then (some true) else (if a0 = 3 then ((impl_CharOK.f k a1).bind fun r7 => some r7) else (some false))) else (if a0 = 3 then ((impl_CharOK.f k a1).bind fun r10 => some r10) else (some false)))
def impl_isValueOf.f (k : Nat) (a0 : Int) (a1 : Int) : Option Bool := (impl_isValueOf.e1 k a0 a1).bind fun y12 => some y12
set_option maxRecDepth 100000 in
theorem impl_isValueOf.fn (k : Nat) (a0 : Int) (a1 : Int) (r : Bool) (H : impl_isValueOf.f k a0 a1 = some r) : Fn Tryz.prog 171 [oI a0, oI a1] [] (oB r) [] := by
  unfold impl_isValueOf.f at H
  refine Fn.body (ts := [4]) Tryz.func171 rfl rfl (by decide) (by decide) (Nat.le_of_ble_eq_true rfl) (Nat.le_refl _) ?_
  refine Tri.rn [0, 1] 0 [] [] [] ⟨23, [(0, oI a0), (1, oI a1)], [], 0, []⟩ (by kernel_rfl) trivial ?_
  obtain ⟨v14, h13, H⟩ := bind_some' H
  refine Tri.join (α := Bool) (fun w => v14 = w) (fun y12 => ⟨23, [(4, oB y12)], [], 0, []⟩) (fun y12 hw => ?_) ?_
  · rw [hw] at H; clear hw
    try dsimp only at H
    refine Tri.ret ?_
    obtain rfl := Option.some.inj H
    exact ⟨.inr rfl, rfl, rfl, Nat.le_refl _, rfl, by simp⟩
  · unfold impl_isValueOf.e1 at h13
    rcases ite_some h13 with ⟨h1, h13⟩ | ⟨h1, h13⟩
    · refine Tri.r1 [4] 0 [] [(1, .ov [.sc (.bool true)])] [_] ⟨23, [(4, oB true)], [], 0, []⟩ (by kernel_rfl) ⟨(ovb (decide_eq_true h1)), trivial⟩ ?_
      exact ⟨true, (Option.some.inj h13).symm, rfl⟩
    · rcases ite_some h13 with ⟨h2, h13⟩ | ⟨h2, h13⟩
      · obtain ⟨r3, h4, h13⟩ := bind_some' h13
        rcases iteb_some h13 with ⟨h5, h13⟩ | ⟨h5, h13⟩
        · refine Tri.r1 [4] 0 [] [(1, .ov [.sc (.bool false)]), (4, .ov [.sc (.bool true)]), (7, .call (oB r3) [] false), (7, .ov [.sc (.bool true)])] [_, _, _, _, _] ⟨23, [(4, oB true)], [], 0, []⟩ (by kernel_rfl) ⟨(ovb (decide_eq_false h1)), (ovb (decide_eq_true h2)), (impl_within.fn k a1 0 1 r3 h4), (show (List.all [cB r3] PC.flatB) = true from rfl), (ovb h5), trivial⟩ ?_
          exact ⟨true, (Option.some.inj h13).symm, rfl⟩
        · rcases ite_some h13 with ⟨h6, h13⟩ | ⟨h6, h13⟩
          · obtain ⟨r7, h8, h13⟩ := bind_some' h13
            refine Tri.r1 [4] 0 [] [(1, .ov [.sc (.bool false)]), (4, .ov [.sc (.bool true)]), (7, .call (oB r3) [] false), (7, .ov [.sc (.bool false)]), (12, .ov [.sc (.bool true)]), (15, .call (oB r7) [] false)] [_, _, _, _, _, _, _, _] ⟨23, [(4, oB r7)], [], 0, []⟩ (by kernel_rfl) ⟨(ovb (decide_eq_false h1)), (ovb (decide_eq_true h2)), (impl_within.fn k a1 0 1 r3 h4), (show (List.all [cB r3] PC.flatB) = true from rfl), (ovb h5), (ovb (decide_eq_true h6)), (impl_CharOK.fn k a1 r7 h8), (show (List.all [cB r7] PC.flatB) = true from rfl), trivial⟩ ?_
            exact ⟨r7, (Option.some.inj h13).symm, rfl⟩
          · refine Tri.r1 [4] 0 [] [(1, .ov [.sc (.bool false)]), (4, .ov [.sc (.bool true)]), (7, .call (oB r3) [] false), (7, .ov [.sc (.bool false)]), (12, .ov [.sc (.bool false)])] [_, _, _, _, _, _] ⟨23, [(4, oB false)], [], 0, []⟩ (by kernel_rfl) ⟨(ovb (decide_eq_false h1)), (ovb (decide_eq_true h2)), (impl_within.fn k a1 0 1 r3 h4), (show (List.all [cB r3] PC.flatB) = true from rfl), (ovb h5), (ovb (decide_eq_false h6)), trivial⟩ ?_
            exact ⟨false, (Option.some.inj h13).symm, rfl⟩
      · rcases ite_some h13 with ⟨h9, h13⟩ | ⟨h9, h13⟩
        · obtain ⟨r10, h11, h13⟩ := bind_some' h13
          refine Tri.r1 [4] 0 [] [(1, .ov [.sc (.bool false)]), (4, .ov [.sc (.bool false)]), (12, .ov [.sc (.bool true)]), (15, .call (oB r10) [] false)] [_, _, _, _, _] ⟨23, [(4, oB r10)], [], 0, []⟩ (by kernel_rfl) ⟨(ovb (decide_eq_false h1)), (ovb (decide_eq_false h2)), (ovb (decide_eq_true h9)), (impl_CharOK.fn k a1 r10 h11), (show (List.all [cB r10] PC.flatB) = true from rfl), trivial⟩ ?_
          exact ⟨r10, (Option.some.inj h13).symm, rfl⟩
        · refine Tri.r1 [4] 0 [] [(1, .ov [.sc (.bool false)]), (4, .ov [.sc (.bool false)]), (12, .ov [.sc (.bool false)])] [_, _, _] ⟨23, [(4, oB false)], [], 0, []⟩ (by kernel_rfl) ⟨(ovb (decide_eq_false h1)), (ovb (decide_eq_false h2)), (ovb (decide_eq_false h9)), trivial⟩ ?_
          exact ⟨false, (Option.some.inj h13).symm, rfl⟩
/-! impl_isItem_1: function 173 -/
def impl_isItem_1.f (k : Nat) (a0 : SParam) : Option Bool := (impl_isType.f k a0.f0).bind fun r1 => some r1
set_option maxRecDepth 100000 in
theorem impl_isItem_1.fn (k : Nat) (a0 : SParam) (r : Bool) (H : impl_isItem_1.f k a0 = some r) : Fn Tryz.prog 173 [ag (eSParam a0)] [] (oB r) [] := by
  unfold impl_isItem_1.f at H
  refine Fn.body (ts := [2]) Tryz.func173 rfl rfl (by decide) (by decide) (Nat.le_of_ble_eq_true rfl) (Nat.le_refl _) ?_
  refine Tri.rn [1] 1 [] [] [] ⟨6, [(1, o1 (.ref 0 0))], [eSParam a0], 0, []⟩ (by kernel_rfl) trivial ?_
  obtain ⟨r1, h2, H⟩ := bind_some' H
  refine Tri.rn [2] 0 [] [(2, .call (oB r1) [] false)] [_, _] ⟨6, [(2, oB r1)], [], 0, []⟩ (by kernel_rfl) ⟨(impl_isType.fn k a0.f0 r1 h2), (show (List.all [cB r1] PC.flatB) = true from rfl), trivial⟩ ?_
  refine Tri.ret ?_
  obtain rfl := Option.some.inj H
  exact ⟨.inr rfl, rfl, rfl, Nat.le_refl _, rfl, by simp⟩
/-! impl_areAll_impl_Param__1_1: function 211 -/
def impl_areAll_impl_Param__1_1.f (k : Nat) (a0 : SParam) : Option Bool := (impl_isItem_1.f k a0).bind fun r1 => some (!r1)
set_option maxRecDepth 100000 in
theorem impl_areAll_impl_Param__1_1.fn (k : Nat) (a0 : SParam) (r : Bool) (H : impl_areAll_impl_Param__1_1.f k a0 = some r) : Fn Tryz.prog 211 [ag (eSParam a0), o1 (.cel ([.sc (.func (.func 173) #[] #[])]) 0)] [] (oB r) [] := by
  unfold impl_areAll_impl_Param__1_1.f at H
  refine Fn.body (ts := [3]) Tryz.func211 rfl rfl (by decide) (by decide) (Nat.le_of_ble_eq_true rfl) (Nat.le_refl _) ?_
  refine Tri.rn [1, 2] 1 [] [] [] ⟨8, [(1, o1 (.cel ([.sc (.func (.func 173) #[] #[])]) 0)), (2, o1 (.ref 0 0))], [eSParam a0], 0, []⟩ (by kernel_rfl) trivial ?_
  obtain ⟨r1, h2, H⟩ := bind_some' H
  refine Tri.rn [3] 0 [] [(2, .call (oB r1) [] false)] [_, _] ⟨8, [(3, oB (!r1))], [], 0, []⟩ (by kernel_rfl) ⟨(impl_isItem_1.fn k a0 r1 h2), (show (List.all [cB r1] PC.flatB) = true from rfl), trivial⟩ ?_
  refine Tri.ret ?_
  obtain rfl := Option.some.inj H
  exact ⟨.inr rfl, rfl, rfl, Nat.le_refl _, rfl, by simp⟩
/-! slices_IndexFunc___impl_Param_impl_Param_1: function 236 -/
def slices_IndexFunc___impl_Param_impl_Param_1.l1 : Nat → (List SParam) → Int → Option (Int ⊕ Unit)
  | 0, _, _ => none
  | k + 1, a0, z7 => if z7 < (a0.length : Int) then ((at? a0 z7).bind fun x9 => (impl_areAll_impl_Param__1_1.f k x9).bind fun r11 => if r11 = true then (some (.inl z7)) else (slices_IndexFunc___impl_Param_impl_Param_1.l1 k a0 (w64 (z7 + 1)))) else (some (.inr ()))
def slices_IndexFunc___impl_Param_impl_Param_1.e2 (k : Nat) (a0 : (List SParam)) : Option (Int ⊕ Unit) := slices_IndexFunc___impl_Param_impl_Param_1.l1 k a0 0
def slices_IndexFunc___impl_Param_impl_Param_1.f (k : Nat) (a0 : (List SParam)) : Option Int := (slices_IndexFunc___impl_Param_impl_Param_1.e2 k a0).bind fun v => match v with | .inl r => some r | .inr _ => some (-1)
set_option maxRecDepth 100000 in
theorem slices_IndexFunc___impl_Param_impl_Param_1.fn (k : Nat) (a0 : (List SParam)) (r : Int) (H : slices_IndexFunc___impl_Param_impl_Param_1.f k a0 = some r) : Fn Tryz.prog 236 [o1 (.sl 2 (List.map eSParam a0)), o1 (.fn 211 [.cel ([.sc (.func (.func 173) #[] #[])]) 0])] [] (oI r) [] := by
  unfold slices_IndexFunc___impl_Param_impl_Param_1.f at H
  refine Fn.body (ts := [4]) Tryz.func236 rfl rfl (by decide) (by decide) (Nat.le_of_ble_eq_true rfl) (Nat.le_refl _) ?_
  refine Tri.rn [0, 1] 0 [] [] [] ⟨19, [(0, o1 (.sl 2 (List.map eSParam a0))), (1, o1 (.fn 211 [.cel ([.sc (.func (.func 173) #[] #[])]) 0]))], [], 0, []⟩ (by kernel_rfl) trivial ?_
  obtain ⟨v16, h15, H⟩ := bind_some' H
  refine Tri.join (α := Unit) (fun w => v16 = .inr w) (fun _ => ⟨19, [], [], 0, []⟩) (fun w hw => ?_) ?_
  · rw [hw] at H; clear hw
    try dsimp only at H
    refine Tri.rn [4] 0 [] [] [] ⟨19, [(4, oI (-1))], [], 0, []⟩ (by kernel_rfl) trivial ?_
    refine Tri.ret ?_
    obtain rfl := Option.some.inj H
    exact ⟨.inr rfl, rfl, rfl, Nat.le_refl _, rfl, by simp⟩
  · unfold slices_IndexFunc___impl_Param_impl_Param_1.e2 at h15
    refine Tri.rn [0, 1, 7, 8] 0 [] [(1, .ov [.sc (.int .i64 (a0.length : Int))])] [_] ⟨19, [(0, o1 (.sl 2 (List.map eSParam a0))), (1, o1 (.fn 211 [.cel ([.sc (.func (.func 173) #[] #[])]) 0])), (7, oI (a0.length : Int)), (8, oI 0)], [], 0, []⟩ (by kernel_rfl) ⟨(ovlen (f := eSParam) (l := a0)), trivial⟩ ?_
    refine Tri.block ?_
    refine Tri.loop k (TriR.ind (α := Int) (fun k x => slices_IndexFunc___impl_Param_impl_Param_1.l1 k a0 x) (fun x => ⟨19, [(0, o1 (.sl 2 (List.map eSParam a0))), (1, o1 (.fn 211 [.cel ([.sc (.func (.func 173) #[] #[])]) 0])), (7, oI (a0.length : Int)), (8, oI x)], [], 0, []⟩) (fun _ => rfl) (fun k z7 h15 IH14 => ?_) k 0 h15)
    rw [slices_IndexFunc___impl_Param_impl_Param_1.l1.eq_2] at h15
    refine Tri.rn [0, 1, 7, 8, 9] 0 [] [] [] ⟨19, [(0, o1 (.sl 2 (List.map eSParam a0))), (1, o1 (.fn 211 [.cel ([.sc (.func (.func 173) #[] #[])]) 0])), (7, oI (a0.length : Int)), (8, oI z7), (9, oB (decide (z7 < (a0.length : Int))))], [], 0, []⟩ (by kernel_rfl) trivial ?_
    refine Tri.seq ?_
    rcases ite_some h15 with ⟨h8, h15⟩ | ⟨h8, h15⟩
    · refine Tri.cond_true (useb (decide_eq_true h8) (by kernel_rfl)) ?_
      refine Tri.skip ?_
      refine Tri.seq ?_
      refine Tri.block ?_
      refine Tri.rn [0, 1, 5, 7, 8] 0 [] [] [] ⟨19, [(0, o1 (.sl 2 (List.map eSParam a0))), (1, o1 (.fn 211 [.cel ([.sc (.func (.func 173) #[] #[])]) 0])), (5, oI z7), (7, oI (a0.length : Int)), (8, oI z7)], [], 0, []⟩ (by kernel_rfl) trivial ?_
      obtain ⟨x9, h10, h15⟩ := bind_some' h15
      obtain ⟨r11, h12, h15⟩ := bind_some' h15
      refine Tri.rn [0, 1, 5, 7, 8, 16] 0 [] [(3, .el (eSParam x9)), (5, .call (oB r11) [] false)] [_, _, _, _] ⟨19, [(0, o1 (.sl 2 (List.map eSParam a0))), (1, o1 (.fn 211 [.cel ([.sc (.func (.func 173) #[] #[])]) 0])), (5, oI z7), (7, oI (a0.length : Int)), (8, oI z7), (16, oB r11)], [], 0, []⟩ (by kernel_rfl) ⟨(at?_0 h10), (at?_map (f := eSParam) h10), (impl_areAll_impl_Param__1_1.fn k x9 r11 h12), (show (List.all [cB r11] PC.flatB) = true from rfl), trivial⟩ ?_
      rcases iteb_some h15 with ⟨h13, h15⟩ | ⟨h13, h15⟩
      · refine Tri.cond_true (useb h13 (by kernel_rfl)) ?_
        refine Tri.rn [4] 0 [] [] [] ⟨19, [(4, oI z7)], [], 0, []⟩ (by kernel_rfl) trivial ?_
        refine Tri.ret ?_
        obtain rfl := Option.some.inj h15
        try dsimp only at H
        obtain rfl := Option.some.inj H
        exact ⟨.inr rfl, rfl, rfl, Nat.le_refl _, rfl, by simp⟩
      · refine Tri.cond_false (useb h13 (by kernel_rfl)) ?_
        refine Tri.skip ?_
        refine Tri.r1 [0, 1, 7, 8] 0 [] [] [] ⟨19, [(0, o1 (.sl 2 (List.map eSParam a0))), (1, o1 (.fn 211 [.cel ([.sc (.func (.func 173) #[] #[])]) 0])), (7, oI (a0.length : Int)), (8, oI (w64 (z7 + 1)))], [], 0, []⟩ (by kernel_rfl) trivial ?_
        exact IH14 _ (w64 (z7 + 1)) (Nat.le_refl _) h15
    · refine Tri.cond_false (useb (decide_eq_false h8) (by kernel_rfl)) ?_
      refine Tri.fix [] 0 [] ⟨19, [], [], 0, []⟩ (by kernel_rfl) ?_
      refine Tri.exit ?_
      repeat (with_reducible refine Ex.exit ?_)
      refine Bk.here ?_
      exact ⟨(), (Option.some.inj h15).symm, rfl⟩
/-! slices_ContainsFunc___impl_Param_impl_Param_1: function 210 -/
def slices_ContainsFunc___impl_Param_impl_Param_1.f (k : Nat) (a0 : (List SParam)) : Option Bool := (slices_IndexFunc___impl_Param_impl_Param_1.f k a0).bind fun r1 => some (decide ((0 : Int) ≤ r1))
set_option maxRecDepth 100000 in
theorem slices_ContainsFunc___impl_Param_impl_Param_1.fn (k : Nat) (a0 : (List SParam)) (r : Bool) (H : slices_ContainsFunc___impl_Param_impl_Param_1.f k a0 = some r) : Fn Tryz.prog 210 [o1 (.sl 2 (List.map eSParam a0)), o1 (.fn 211 [.cel ([.sc (.func (.func 173) #[] #[])]) 0])] [] (oB r) [] := by
  unfold slices_ContainsFunc___impl_Param_impl_Param_1.f at H
  refine Fn.body (ts := [4]) Tryz.func210 rfl rfl (by decide) (by decide) (Nat.le_of_ble_eq_true rfl) (Nat.le_refl _) ?_
  refine Tri.rn [0, 1] 0 [] [] [] ⟨9, [(0, o1 (.sl 2 (List.map eSParam a0))), (1, o1 (.fn 211 [.cel ([.sc (.func (.func 173) #[] #[])]) 0]))], [], 0, []⟩ (by kernel_rfl) trivial ?_
  obtain ⟨r1, h2, H⟩ := bind_some' H
  refine Tri.rn [4] 0 [] [(2, .call (oI r1) [] false)] [_, _] ⟨9, [(4, oB (decide ((0 : Int) ≤ r1)))], [], 0, []⟩ (by kernel_rfl) ⟨(slices_IndexFunc___impl_Param_impl_Param_1.fn k a0 r1 h2), (show (List.all [cI r1] PC.flatB) = true from rfl), trivial⟩ ?_
  refine Tri.ret ?_
  obtain rfl := Option.some.inj H
  exact ⟨.inr rfl, rfl, rfl, Nat.le_refl _, rfl, by simp⟩
/-! impl_areAll_impl_Param_1: function 172 -/
def impl_areAll_impl_Param_1.f (k : Nat) (a0 : (List SParam)) : Option Bool := (slices_ContainsFunc___impl_Param_impl_Param_1.f k a0).bind fun r1 => some (!r1)
set_option maxRecDepth 100000 in
theorem impl_areAll_impl_Param_1.fn (k : Nat) (a0 : (List SParam)) (r : Bool) (H : impl_areAll_impl_Param_1.f k a0 = some r) : Fn Tryz.prog 172 [o1 (.sl 2 (List.map eSParam a0)), o1 (.sc (.func (.func 173) #[] #[]))] [] (oB r) [] := by
  unfold impl_areAll_impl_Param_1.f at H
  refine Fn.body (ts := [4]) Tryz.func172 rfl rfl (by decide) (by decide) (Nat.le_of_ble_eq_true rfl) (Nat.le_refl _) ?_
  refine Tri.rn [0, 3] 1 [] [] [] ⟨9, [(0, o1 (.sl 2 (List.map eSParam a0))), (3, o1 (.ref 0 0))], [[.sc (.func (.func 173) #[] #[])]], 0, []⟩ (by kernel_rfl) trivial ?_
  obtain ⟨r1, h2, H⟩ := bind_some' H
  refine Tri.rn [4] 0 [] [(2, .call (oB r1) [] false)] [_, _] ⟨9, [(4, oB (!r1))], [], 0, []⟩ (by kernel_rfl) ⟨(slices_ContainsFunc___impl_Param_impl_Param_1.fn k a0 r1 h2), (show (List.all [cB r1] PC.flatB) = true from rfl), trivial⟩ ?_
  refine Tri.ret ?_
  obtain rfl := Option.some.inj H
  exact ⟨.inr rfl, rfl, rfl, Nat.le_refl _, rfl, by simp⟩
/-! impl_isItem: function 119 -/
def impl_isItem.e1 (k : Nat) (a0 : SItem) : Option Bool := (impl_isName.f k a0.f4).bind fun r1 => if r1 = true then (if a0.f0 = 1 then (if a0.f0 = 2 then (if a0.f0 = 3 then (some false) else (some (decide ((0 : Int) < (a0.f5.length : Int))))) else (if a0.f2 = 0 then (if a0.f0 = 3 then (some false) else (some (decide ((0 : Int) < (a0.f5.length : Int))))) else (some true))) else (if a0.f3 = 0 then (if a0.f0 = 2 then (if a0.f0 = 3 then (some false) else (some (decide ((0 : Int) < (a0.f5.length : Int))))) else (if a0.f2 = 0 then (if a0.f0 = 3 then (some false) else (some (decide ((0 : Int) < (a0.f5.length : Int))))) else (some true))) else (some true))) else (some true)
def impl_isItem.e2 (k : Nat) (a0 : SItem) : Option Bool := (impl_isType.f k a0.f1).bind fun r19 => if r19 = true then ((impl_isValueOf.f k a0.f1 a0.f3).bind fun r22 => some r22) else (some false)
def impl_isItem.e3 (k : Nat) (a0 : SItem) : Option Bool := (impl_isType.f k a0.f1).bind fun r28 => if r28 = true then ((impl_within.f k a0.f2 0 100).bind fun r31 => some r31) else (some false)
def impl_isItem.e4 (k : Nat) (a0 : SItem) : Option Bool := (impl_within.f k a0.f1 0 3).bind fun r37 => if r37 = true then (if (a0.f5.length : Int) ≤ 20 then ((impl_areAll_impl_Param_1.f k a0.f5).bind fun r41 => some r41) else (some false)) else (some false)
def impl_isItem.f (k : Nat) (a0 : SItem) : Option Bool := (impl_isItem.e1 k a0).bind fun y14 => if y14 = true then (some false) else (if a0.f0 = 1 then ((impl_isItem.e2 k a0).bind fun y24 => some y24) else (if a0.f0 = 2 then ((impl_isItem.e3 k a0).bind fun y33 => some y33) else (if a0.f0 = 3 then ((impl_isItem.e4 k a0).bind fun y43 => some y43) else (some false))))
set_option maxRecDepth 100000 in
theorem impl_isItem.fn (k : Nat) (a0 : SItem) (r : Bool) (H : impl_isItem.f k a0 = some r) : Fn Tryz.prog 119 [ag (eSItem a0)] [] (oB r) [] := by
  unfold impl_isItem.f at H
  refine Fn.body (ts := [2]) Tryz.func119 rfl rfl (by decide) (by decide) (Nat.le_of_ble_eq_true rfl) (Nat.le_refl _) ?_
  refine Tri.rn [1] 1 [] [] [] ⟨78, [(1, o1 (.ref 0 0))], [eSItem a0], 0, []⟩ (by kernel_rfl) trivial ?_
  refine Tri.seq ?_
  obtain ⟨v16, h15, H⟩ := bind_some' H
  refine Tri.join (α := Bool) (fun w => v16 = w) (fun y14 => ⟨78, [(1, o1 (.ref 0 0)), (37, oB y14)], [eSItem a0], 0, []⟩) (fun y14 hw => ?_) ?_
  · rw [hw] at H; clear hw
    try dsimp only at H
    rcases iteb_some H with ⟨h17, H⟩ | ⟨h17, H⟩
    · refine Tri.cond_true (useb h17 (by kernel_rfl)) ?_
      refine Tri.rn [2] 0 [] [] [] ⟨78, [(2, oB false)], [], 0, []⟩ (by kernel_rfl) trivial ?_
      refine Tri.ret ?_
      obtain rfl := Option.some.inj H
      exact ⟨.inr rfl, rfl, rfl, Nat.le_refl _, rfl, by simp⟩
    · refine Tri.cond_false (useb h17 (by kernel_rfl)) ?_
      refine Tri.skip ?_
      refine Tri.seq ?_
      refine Tri.rn [1, 39] 1 [] [] [] ⟨78, [(1, o1 (.ref 0 0)), (39, oI a0.f0)], [eSItem a0], 0, []⟩ (by kernel_rfl) trivial ?_
      refine Tri.block ?_
      refine Tri.rn [1, 39, 40] 1 [] [] [] ⟨78, [(1, o1 (.ref 0 0)), (39, oI a0.f0), (40, oB (decide (a0.f0 = 1)))], [eSItem a0], 0, []⟩ (by kernel_rfl) trivial ?_
      rcases ite_some H with ⟨h18, H⟩ | ⟨h18, H⟩
      · refine Tri.cond_true (useb (decide_eq_true h18) (by kernel_rfl)) ?_
        obtain ⟨v26, h25, H⟩ := bind_some' H
        refine Tri.join (α := Bool) (fun w => v26 = w) (fun y24 => ⟨78, [(2, oB y24)], [], 0, []⟩) (fun y24 hw => ?_) ?_
        · rw [hw] at H; clear hw
          try dsimp only at H
          refine Tri.ret ?_
          obtain rfl := Option.some.inj H
          exact ⟨.inr rfl, rfl, rfl, Nat.le_refl _, rfl, by simp⟩
        · unfold impl_isItem.e2 at h25
          obtain ⟨r19, h20, h25⟩ := bind_some' h25
          rcases iteb_some h25 with ⟨h21, h25⟩ | ⟨h21, h25⟩
          · obtain ⟨r22, h23, h25⟩ := bind_some' h25
            refine Tri.r1 [2] 0 [] [(2, .call (oB r19) [] false), (2, .ov [.sc (.bool true)]), (8, .call (oB r22) [] false)] [_, _, _, _, _] ⟨78, [(2, oB r22)], [], 0, []⟩ (by kernel_rfl) ⟨(impl_isType.fn k a0.f1 r19 h20), (show (List.all [cB r19] PC.flatB) = true from rfl), (ovb h21), (impl_isValueOf.fn k a0.f1 a0.f3 r22 h23), (show (List.all [cB r22] PC.flatB) = true from rfl), trivial⟩ ?_
            exact ⟨r22, (Option.some.inj h25).symm, rfl⟩
          · refine Tri.r1 [2] 0 [] [(2, .call (oB r19) [] false), (2, .ov [.sc (.bool false)])] [_, _, _] ⟨78, [(2, oB false)], [], 0, []⟩ (by kernel_rfl) ⟨(impl_isType.fn k a0.f1 r19 h20), (show (List.all [cB r19] PC.flatB) = true from rfl), (ovb h21), trivial⟩ ?_
            exact ⟨false, (Option.some.inj h25).symm, rfl⟩
      · refine Tri.cond_false (useb (decide_eq_false h18) (by kernel_rfl)) ?_
        refine Tri.rn [1, 39, 52] 1 [] [] [] ⟨78, [(1, o1 (.ref 0 0)), (39, oI a0.f0), (52, oB (decide (a0.f0 = 2)))], [eSItem a0], 0, []⟩ (by kernel_rfl) trivial ?_
        rcases ite_some H with ⟨h27, H⟩ | ⟨h27, H⟩
        · refine Tri.cond_true (useb (decide_eq_true h27) (by kernel_rfl)) ?_
          obtain ⟨v35, h34, H⟩ := bind_some' H
          refine Tri.join (α := Bool) (fun w => v35 = w) (fun y33 => ⟨78, [(2, oB y33)], [], 0, []⟩) (fun y33 hw => ?_) ?_
          · rw [hw] at H; clear hw
            try dsimp only at H
            refine Tri.ret ?_
            obtain rfl := Option.some.inj H
            exact ⟨.inr rfl, rfl, rfl, Nat.le_refl _, rfl, by simp⟩
          · unfold impl_isItem.e3 at h34
            obtain ⟨r28, h29, h34⟩ := bind_some' h34
            rcases iteb_some h34 with ⟨h30, h34⟩ | ⟨h30, h34⟩
            · obtain ⟨r31, h32, h34⟩ := bind_some' h34
              refine Tri.r1 [2] 0 [] [(2, .call (oB r28) [] false), (2, .ov [.sc (.bool true)]), (6, .call (oB r31) [] false)] [_, _, _, _, _] ⟨78, [(2, oB r31)], [], 0, []⟩ (by kernel_rfl) ⟨(impl_isType.fn k a0.f1 r28 h29), (show (List.all [cB r28] PC.flatB) = true from rfl), (ovb h30), (impl_within.fn k a0.f2 0 100 r31 h32), (show (List.all [cB r31] PC.flatB) = true from rfl), trivial⟩ ?_
              exact ⟨r31, (Option.some.inj h34).symm, rfl⟩
            · refine Tri.r1 [2] 0 [] [(2, .call (oB r28) [] false), (2, .ov [.sc (.bool false)])] [_, _, _] ⟨78, [(2, oB false)], [], 0, []⟩ (by kernel_rfl) ⟨(impl_isType.fn k a0.f1 r28 h29), (show (List.all [cB r28] PC.flatB) = true from rfl), (ovb h30), trivial⟩ ?_
              exact ⟨false, (Option.some.inj h34).symm, rfl⟩
        · refine Tri.cond_false (useb (decide_eq_false h27) (by kernel_rfl)) ?_
          refine Tri.rn [1, 62] 1 [] [] [] ⟨78, [(1, o1 (.ref 0 0)), (62, oB (decide (a0.f0 = 3)))], [eSItem a0], 0, []⟩ (by kernel_rfl) trivial ?_
          rcases ite_some H with ⟨h36, H⟩ | ⟨h36, H⟩
          · refine Tri.cond_true (useb (decide_eq_true h36) (by kernel_rfl)) ?_
            obtain ⟨v45, h44, H⟩ := bind_some' H
            refine Tri.join (α := Bool) (fun w => v45 = w) (fun y43 => ⟨78, [(2, oB y43)], [], 0, []⟩) (fun y43 hw => ?_) ?_
            · rw [hw] at H; clear hw
              try dsimp only at H
              refine Tri.ret ?_
              obtain rfl := Option.some.inj H
              exact ⟨.inr rfl, rfl, rfl, Nat.le_refl _, rfl, by simp⟩
            · unfold impl_isItem.e4 at h44
              obtain ⟨r37, h38, h44⟩ := bind_some' h44
              rcases iteb_some h44 with ⟨h39, h44⟩ | ⟨h39, h44⟩
              · rcases ite_some h44 with ⟨h40, h44⟩ | ⟨h40, h44⟩
                · obtain ⟨r41, h42, h44⟩ := bind_some' h44
                  refine Tri.r1 [2] 0 [] [(2, .call (oB r37) [] false), (2, .ov [.sc (.bool true)]), (6, .ov [.sc (.int .i64 (a0.f5.length : Int))]), (7, .ov [.sc (.bool true)]), (12, .call (oB r41) [] false)] [_, _, _, _, _, _, _] ⟨78, [(2, oB r41)], [], 0, []⟩ (by kernel_rfl) ⟨(impl_within.fn k a0.f1 0 3 r37 h38), (show (List.all [cB r37] PC.flatB) = true from rfl), (ovb h39), (ovlen (f := eSParam) (l := a0.f5)), (ovb (decide_eq_true h40)), (impl_areAll_impl_Param_1.fn k a0.f5 r41 h42), (show (List.all [cB r41] PC.flatB) = true from rfl), trivial⟩ ?_
                  exact ⟨r41, (Option.some.inj h44).symm, rfl⟩
                · refine Tri.r1 [2] 0 [] [(2, .call (oB r37) [] false), (2, .ov [.sc (.bool true)]), (6, .ov [.sc (.int .i64 (a0.f5.length : Int))]), (7, .ov [.sc (.bool false)])] [_, _, _, _, _] ⟨78, [(2, oB false)], [], 0, []⟩ (by kernel_rfl) ⟨(impl_within.fn k a0.f1 0 3 r37 h38), (show (List.all [cB r37] PC.flatB) = true from rfl), (ovb h39), (ovlen (f := eSParam) (l := a0.f5)), (ovb (decide_eq_false h40)), trivial⟩ ?_
                  exact ⟨false, (Option.some.inj h44).symm, rfl⟩
              · refine Tri.r1 [2] 0 [] [(2, .call (oB r37) [] false), (2, .ov [.sc (.bool false)])] [_, _, _] ⟨78, [(2, oB false)], [], 0, []⟩ (by kernel_rfl) ⟨(impl_within.fn k a0.f1 0 3 r37 h38), (show (List.all [cB r37] PC.flatB) = true from rfl), (ovb h39), trivial⟩ ?_
                exact ⟨false, (Option.some.inj h44).symm, rfl⟩
          · refine Tri.cond_false (useb (decide_eq_false h36) (by kernel_rfl)) ?_
            refine Tri.skip ?_
            refine Tri.rn [2] 0 [] [] [] ⟨78, [(2, oB false)], [], 0, []⟩ (by kernel_rfl) trivial ?_
            refine Tri.ret ?_
            obtain rfl := Option.some.inj H
            exact ⟨.inr rfl, rfl, rfl, Nat.le_refl _, rfl, by simp⟩
  · unfold impl_isItem.e1 at h15
    obtain ⟨r1, h2, h15⟩ := bind_some' h15
    rcases iteb_some h15 with ⟨h3, h15⟩ | ⟨h3, h15⟩
    · rcases ite_some h15 with ⟨h4, h15⟩ | ⟨h4, h15⟩
      · rcases ite_some h15 with ⟨h5, h15⟩ | ⟨h5, h15⟩
        · rcases ite_some h15 with ⟨h6, h15⟩ | ⟨h6, h15⟩
          · refine Tri.r1 [1, 37] 1 [] [(2, .call (oB r1) [] false), (2, .ov [.sc (.bool true)]), (7, .ov [.sc (.bool false)]), (17, .ov [.sc (.bool false)]), (27, .ov [.sc (.bool false)])] [_, _, _, _, _, _] ⟨78, [(1, o1 (.ref 0 0)), (37, oB false)], [eSItem a0], 0, []⟩ (by kernel_rfl) ⟨(impl_isName.fn k a0.f4 r1 h2), (show (List.all [cB r1] PC.flatB) = true from rfl), (ovb h3), (ovb (nF (decide_eq_true h4))), (ovb (nF (decide_eq_true h5))), (ovb (nF (decide_eq_true h6))), trivial⟩ ?_
            exact ⟨false, (Option.some.inj h15).symm, rfl⟩
          · refine Tri.r1 [1, 37] 1 [] [(2, .call (oB r1) [] false), (2, .ov [.sc (.bool true)]), (7, .ov [.sc (.bool false)]), (17, .ov [.sc (.bool false)]), (27, .ov [.sc (.bool true)]), (31, .ov [.sc (.int .i64 (a0.f5.length : Int))])] [_, _, _, _, _, _, _] ⟨78, [(1, o1 (.ref 0 0)), (37, oB (decide ((0 : Int) < (a0.f5.length : Int))))], [eSItem a0], 0, []⟩ (by kernel_rfl) ⟨(impl_isName.fn k a0.f4 r1 h2), (show (List.all [cB r1] PC.flatB) = true from rfl), (ovb h3), (ovb (nF (decide_eq_true h4))), (ovb (nF (decide_eq_true h5))), (ovb (nT (decide_eq_false h6))), (ovlen (f := eSParam) (l := a0.f5)), trivial⟩ ?_
            exact ⟨(decide ((0 : Int) < (a0.f5.length : Int))), (Option.some.inj h15).symm, rfl⟩
        · rcases ite_some h15 with ⟨h7, h15⟩ | ⟨h7, h15⟩
          · rcases ite_some h15 with ⟨h8, h15⟩ | ⟨h8, h15⟩
            · refine Tri.r1 [1, 37] 1 [] [(2, .call (oB r1) [] false), (2, .ov [.sc (.bool true)]), (7, .ov [.sc (.bool false)]), (17, .ov [.sc (.bool true)]), (21, .ov [.sc (.bool false)]), (27, .ov [.sc (.bool false)])] [_, _, _, _, _, _, _] ⟨78, [(1, o1 (.ref 0 0)), (37, oB false)], [eSItem a0], 0, []⟩ (by kernel_rfl) ⟨(impl_isName.fn k a0.f4 r1 h2), (show (List.all [cB r1] PC.flatB) = true from rfl), (ovb h3), (ovb (nF (decide_eq_true h4))), (ovb (nT (decide_eq_false h5))), (ovb (nF (decide_eq_true h7))), (ovb (nF (decide_eq_true h8))), trivial⟩ ?_
              exact ⟨false, (Option.some.inj h15).symm, rfl⟩
            · refine Tri.r1 [1, 37] 1 [] [(2, .call (oB r1) [] false), (2, .ov [.sc (.bool true)]), (7, .ov [.sc (.bool false)]), (17, .ov [.sc (.bool true)]), (21, .ov [.sc (.bool false)]), (27, .ov [.sc (.bool true)]), (31, .ov [.sc (.int .i64 (a0.f5.length : Int))])] [_, _, _, _, _, _, _, _] ⟨78, [(1, o1 (.ref 0 0)), (37, oB (decide ((0 : Int) < (a0.f5.length : Int))))], [eSItem a0], 0, []⟩ (by kernel_rfl) ⟨(impl_isName.fn k a0.f4 r1 h2), (show (List.all [cB r1] PC.flatB) = true from rfl), (ovb h3), (ovb (nF (decide_eq_true h4))), (ovb (nT (decide_eq_false h5))), (ovb (nF (decide_eq_true h7))), (ovb (nT (decide_eq_false h8))), (ovlen (f := eSParam) (l := a0.f5)), trivial⟩ ?_
              exact ⟨(decide ((0 : Int) < (a0.f5.length : Int))), (Option.some.inj h15).symm, rfl⟩
          · refine Tri.r1 [1, 37] 1 [] [(2, .call (oB r1) [] false), (2, .ov [.sc (.bool true)]), (7, .ov [.sc (.bool false)]), (17, .ov [.sc (.bool true)]), (21, .ov [.sc (.bool true)])] [_, _, _, _, _, _] ⟨78, [(1, o1 (.ref 0 0)), (37, oB true)], [eSItem a0], 0, []⟩ (by kernel_rfl) ⟨(impl_isName.fn k a0.f4 r1 h2), (show (List.all [cB r1] PC.flatB) = true from rfl), (ovb h3), (ovb (nF (decide_eq_true h4))), (ovb (nT (decide_eq_false h5))), (ovb (nT (decide_eq_false h7))), trivial⟩ ?_
            exact ⟨true, (Option.some.inj h15).symm, rfl⟩
      · rcases ite_some h15 with ⟨h9, h15⟩ | ⟨h9, h15⟩
        · rcases ite_some h15 with ⟨h10, h15⟩ | ⟨h10, h15⟩
          · rcases ite_some h15 with ⟨h11, h15⟩ | ⟨h11, h15⟩
            · refine Tri.r1 [1, 37] 1 [] [(2, .call (oB r1) [] false), (2, .ov [.sc (.bool true)]), (7, .ov [.sc (.bool true)]), (11, .ov [.sc (.bool false)]), (17, .ov [.sc (.bool false)]), (27, .ov [.sc (.bool false)])] [_, _, _, _, _, _, _] ⟨78, [(1, o1 (.ref 0 0)), (37, oB false)], [eSItem a0], 0, []⟩ (by kernel_rfl) ⟨(impl_isName.fn k a0.f4 r1 h2), (show (List.all [cB r1] PC.flatB) = true from rfl), (ovb h3), (ovb (nT (decide_eq_false h4))), (ovb (nF (decide_eq_true h9))), (ovb (nF (decide_eq_true h10))), (ovb (nF (decide_eq_true h11))), trivial⟩ ?_
              exact ⟨false, (Option.some.inj h15).symm, rfl⟩
            · refine Tri.r1 [1, 37] 1 [] [(2, .call (oB r1) [] false), (2, .ov [.sc (.bool true)]), (7, .ov [.sc (.bool true)]), (11, .ov [.sc (.bool false)]), (17, .ov [.sc (.bool false)]), (27, .ov [.sc (.bool true)]), (31, .ov [.sc (.int .i64 (a0.f5.length : Int))])] [_, _, _, _, _, _, _, _] ⟨78, [(1, o1 (.ref 0 0)), (37, oB (decide ((0 : Int) < (a0.f5.length : Int))))], [eSItem a0], 0, []⟩ (by kernel_rfl) ⟨(impl_isName.fn k a0.f4 r1 h2), (show (List.all [cB r1] PC.flatB) = true from rfl), (ovb h3), (ovb (nT (decide_eq_false h4))), (ovb (nF (decide_eq_true h9))), (ovb (nF (decide_eq_true h10))), (ovb (nT (decide_eq_false h11))), (ovlen (f := eSParam) (l := a0.f5)), trivial⟩ ?_
              exact ⟨(decide ((0 : Int) < (a0.f5.length : Int))), (Option.some.inj h15).symm, rfl⟩
          · rcases ite_some h15 with ⟨h12, h15⟩ | ⟨h12, h15⟩
            · rcases ite_some h15 with ⟨h13, h15⟩ | ⟨h13, h15⟩
              · refine Tri.r1 [1, 37] 1 [] [(2, .call (oB r1) [] false), (2, .ov [.sc (.bool true)]), (7, .ov [.sc (.bool true)]), (11, .ov [.sc (.bool false)]), (17, .ov [.sc (.bool true)]), (21, .ov [.sc (.bool false)]), (27, .ov [.sc (.bool false)])] [_, _, _, _, _, _, _, _] ⟨78, [(1, o1 (.ref 0 0)), (37, oB false)], [eSItem a0], 0, []⟩ (by kernel_rfl) ⟨(impl_isName.fn k a0.f4 r1 h2), (show (List.all [cB r1] PC.flatB) = true from rfl), (ovb h3), (ovb (nT (decide_eq_false h4))), (ovb (nF (decide_eq_true h9))), (ovb (nT (decide_eq_false h10))), (ovb (nF (decide_eq_true h12))), (ovb (nF (decide_eq_true h13))), trivial⟩ ?_
                exact ⟨false, (Option.some.inj h15).symm, rfl⟩
              · refine Tri.r1 [1, 37] 1 [] [(2, .call (oB r1) [] false), (2, .ov [.sc (.bool true)]), (7, .ov [.sc (.bool true)]), (11, .ov [.sc (.bool false)]), (17, .ov [.sc (.bool true)]), (21, .ov [.sc (.bool false)]), (27, .ov [.sc (.bool true)]), (31, .ov [.sc (.int .i64 (a0.f5.length : Int))])] [_, _, _, _, _, _, _, _, _] ⟨78, [(1, o1 (.ref 0 0)), (37, oB (decide ((0 : Int) < (a0.f5.length : Int))))], [eSItem a0], 0, []⟩ (by kernel_rfl) ⟨(impl_isName.fn k a0.f4 r1 h2), (show (List.all [cB r1] PC.flatB) = true from rfl), (ovb h3), (ovb (nT (decide_eq_false h4))), (ovb (nF (decide_eq_true h9))), (ovb (nT (decide_eq_false h10))), (ovb (nF (decide_eq_true h12))), (ovb (nT (decide_eq_false h13))), (ovlen (f := eSParam) (l := a0.f5)), trivial⟩ ?_
                exact ⟨(decide ((0 : Int) < (a0.f5.length : Int))), (Option.some.inj h15).symm, rfl⟩
            · refine Tri.r1 [1, 37] 1 [] [(2, .call (oB r1) [] false), (2, .ov [.sc (.bool true)]), (7, .ov [.sc (.bool true)]), (11, .ov [.sc (.bool false)]), (17, .ov [.sc (.bool true)]), (21, .ov [.sc (.bool true)])] [_, _, _, _, _, _, _] ⟨78, [(1, o1 (.ref 0 0)), (37, oB true)], [eSItem a0], 0, []⟩ (by kernel_rfl) ⟨(impl_isName.fn k a0.f4 r1 h2), (show (List.all [cB r1] PC.flatB) = true from rfl), (ovb h3), (ovb (nT (decide_eq_false h4))), (ovb (nF (decide_eq_true h9))), (ovb (nT (decide_eq_false h10))), (ovb (nT (decide_eq_false h12))), trivial⟩ ?_
              exact ⟨true, (Option.some.inj h15).symm, rfl⟩
        · refine Tri.r1 [1, 37] 1 [] [(2, .call (oB r1) [] false), (2, .ov [.sc (.bool true)]), (7, .ov [.sc (.bool true)]), (11, .ov [.sc (.bool true)])] [_, _, _, _, _] ⟨78, [(1, o1 (.ref 0 0)), (37, oB true)], [eSItem a0], 0, []⟩ (by kernel_rfl) ⟨(impl_isName.fn k a0.f4 r1 h2), (show (List.all [cB r1] PC.flatB) = true from rfl), (ovb h3), (ovb (nT (decide_eq_false h4))), (ovb (nT (decide_eq_false h9))), trivial⟩ ?_
          exact ⟨true, (Option.some.inj h15).symm, rfl⟩
    · refine Tri.r1 [1, 37] 1 [] [(2, .call (oB r1) [] false), (2, .ov [.sc (.bool false)])] [_, _, _] ⟨78, [(1, o1 (.ref 0 0)), (37, oB true)], [eSItem a0], 0, []⟩ (by kernel_rfl) ⟨(impl_isName.fn k a0.f4 r1 h2), (show (List.all [cB r1] PC.flatB) = true from rfl), (ovb h3), trivial⟩ ?_
      exact ⟨true, (Option.some.inj h15).symm, rfl⟩
/-! impl_areAll_impl_Item__1_1: function 169 -/
def impl_areAll_impl_Item__1_1.f (k : Nat) (a0 : SItem) : Option Bool := (impl_isItem.f k a0).bind fun r1 => some (!r1)
set_option maxRecDepth 100000 in
theorem impl_areAll_impl_Item__1_1.fn (k : Nat) (a0 : SItem) (r : Bool) (H : impl_areAll_impl_Item__1_1.f k a0 = some r) : Fn Tryz.prog 169 [ag (eSItem a0), o1 (.cel ([.sc (.func (.func 119) #[] #[])]) 0)] [] (oB r) [] := by
  unfold impl_areAll_impl_Item__1_1.f at H
  refine Fn.body (ts := [3]) Tryz.func169 rfl rfl (by decide) (by decide) (Nat.le_of_ble_eq_true rfl) (Nat.le_refl _) ?_
  refine Tri.rn [1, 2] 1 [] [] [] ⟨8, [(1, o1 (.cel ([.sc (.func (.func 119) #[] #[])]) 0)), (2, o1 (.ref 0 0))], [eSItem a0], 0, []⟩ (by kernel_rfl) trivial ?_
  obtain ⟨r1, h2, H⟩ := bind_some' H
  refine Tri.rn [3] 0 [] [(2, .call (oB r1) [] false)] [_, _] ⟨8, [(3, oB (!r1))], [], 0, []⟩ (by kernel_rfl) ⟨(impl_isItem.fn k a0 r1 h2), (show (List.all [cB r1] PC.flatB) = true from rfl), trivial⟩ ?_
  refine Tri.ret ?_
  obtain rfl := Option.some.inj H
  exact ⟨.inr rfl, rfl, rfl, Nat.le_refl _, rfl, by simp⟩
/-! slices_IndexFunc___impl_Item_impl_Item_1: function 208 -/
def slices_IndexFunc___impl_Item_impl_Item_1.l1 : Nat → (List SItem) → Int → Option (Int ⊕ Unit)
  | 0, _, _ => none
  | k + 1, a0, z7 => if z7 < (a0.length : Int) then ((at? a0 z7).bind fun x9 => (impl_areAll_impl_Item__1_1.f k x9).bind fun r11 => if r11 = true then (some (.inl z7)) else (slices_IndexFunc___impl_Item_impl_Item_1.l1 k a0 (w64 (z7 + 1)))) else (some (.inr ()))
def slices_IndexFunc___impl_Item_impl_Item_1.e2 (k : Nat) (a0 : (List SItem)) : Option (Int ⊕ Unit) := slices_IndexFunc___impl_Item_impl_Item_1.l1 k a0 0
def slices_IndexFunc___impl_Item_impl_Item_1.f (k : Nat) (a0 : (List SItem)) : Option Int := (slices_IndexFunc___impl_Item_impl_Item_1.e2 k a0).bind fun v => match v with | .inl r => some r | .inr _ => some (-1)
set_option maxRecDepth 100000 in
theorem slices_IndexFunc___impl_Item_impl_Item_1.fn (k : Nat) (a0 : (List SItem)) (r : Int) (H : slices_IndexFunc___impl_Item_impl_Item_1.f k a0 = some r) : Fn Tryz.prog 208 [o1 (.sl 6 (List.map eSItem a0)), o1 (.fn 169 [.cel ([.sc (.func (.func 119) #[] #[])]) 0])] [] (oI r) [] := by
  unfold slices_IndexFunc___impl_Item_impl_Item_1.f at H
  refine Fn.body (ts := [4]) Tryz.func208 rfl rfl (by decide) (by decide) (Nat.le_of_ble_eq_true rfl) (Nat.le_refl _) ?_
  refine Tri.rn [0, 1] 0 [] [] [] ⟨19, [(0, o1 (.sl 6 (List.map eSItem a0))), (1, o1 (.fn 169 [.cel ([.sc (.func (.func 119) #[] #[])]) 0]))], [], 0, []⟩ (by kernel_rfl) trivial ?_
  obtain ⟨v16, h15, H⟩ := bind_some' H
  refine Tri.join (α := Unit) (fun w => v16 = .inr w) (fun _ => ⟨19, [], [], 0, []⟩) (fun w hw => ?_) ?_
  · rw [hw] at H; clear hw
    try dsimp only at H
    refine Tri.rn [4] 0 [] [] [] ⟨19, [(4, oI (-1))], [], 0, []⟩ (by kernel_rfl) trivial ?_
    refine Tri.ret ?_
    obtain rfl := Option.some.inj H
    exact ⟨.inr rfl, rfl, rfl, Nat.le_refl _, rfl, by simp⟩
  · unfold slices_IndexFunc___impl_Item_impl_Item_1.e2 at h15
    refine Tri.rn [0, 1, 7, 8] 0 [] [(1, .ov [.sc (.int .i64 (a0.length : Int))])] [_] ⟨19, [(0, o1 (.sl 6 (List.map eSItem a0))), (1, o1 (.fn 169 [.cel ([.sc (.func (.func 119) #[] #[])]) 0])), (7, oI (a0.length : Int)), (8, oI 0)], [], 0, []⟩ (by kernel_rfl) ⟨(ovlen (f := eSItem) (l := a0)), trivial⟩ ?_
    refine Tri.block ?_
    refine Tri.loop k (TriR.ind (α := Int) (fun k x => slices_IndexFunc___impl_Item_impl_Item_1.l1 k a0 x) (fun x => ⟨19, [(0, o1 (.sl 6 (List.map eSItem a0))), (1, o1 (.fn 169 [.cel ([.sc (.func (.func 119) #[] #[])]) 0])), (7, oI (a0.length : Int)), (8, oI x)], [], 0, []⟩) (fun _ => rfl) (fun k z7 h15 IH14 => ?_) k 0 h15)
    rw [slices_IndexFunc___impl_Item_impl_Item_1.l1.eq_2] at h15
    refine Tri.rn [0, 1, 7, 8, 9] 0 [] [] [] ⟨19, [(0, o1 (.sl 6 (List.map eSItem a0))), (1, o1 (.fn 169 [.cel ([.sc (.func (.func 119) #[] #[])]) 0])), (7, oI (a0.length : Int)), (8, oI z7), (9, oB (decide (z7 < (a0.length : Int))))], [], 0, []⟩ (by kernel_rfl) trivial ?_
    refine Tri.seq ?_
    rcases ite_some h15 with ⟨h8, h15⟩ | ⟨h8, h15⟩
    · refine Tri.cond_true (useb (decide_eq_true h8) (by kernel_rfl)) ?_
      refine Tri.skip ?_
      refine Tri.seq ?_
      refine Tri.block ?_
      refine Tri.rn [0, 1, 5, 7, 8] 0 [] [] [] ⟨19, [(0, o1 (.sl 6 (List.map eSItem a0))), (1, o1 (.fn 169 [.cel ([.sc (.func (.func 119) #[] #[])]) 0])), (5, oI z7), (7, oI (a0.length : Int)), (8, oI z7)], [], 0, []⟩ (by kernel_rfl) trivial ?_
      obtain ⟨x9, h10, h15⟩ := bind_some' h15
      obtain ⟨r11, h12, h15⟩ := bind_some' h15
      refine Tri.rn [0, 1, 5, 7, 8, 16] 0 [] [(3, .el (eSItem x9)), (5, .call (oB r11) [] false)] [_, _, _, _] ⟨19, [(0, o1 (.sl 6 (List.map eSItem a0))), (1, o1 (.fn 169 [.cel ([.sc (.func (.func 119) #[] #[])]) 0])), (5, oI z7), (7, oI (a0.length : Int)), (8, oI z7), (16, oB r11)], [], 0, []⟩ (by kernel_rfl) ⟨(at?_0 h10), (at?_map (f := eSItem) h10), (impl_areAll_impl_Item__1_1.fn k x9 r11 h12), (show (List.all [cB r11] PC.flatB) = true from rfl), trivial⟩ ?_
      rcases iteb_some h15 with ⟨h13, h15⟩ | ⟨h13, h15⟩
      · refine Tri.cond_true (useb h13 (by kernel_rfl)) ?_
        refine Tri.rn [4] 0 [] [] [] ⟨19, [(4, oI z7)], [], 0, []⟩ (by kernel_rfl) trivial ?_
        refine Tri.ret ?_
        obtain rfl := Option.some.inj h15
        try dsimp only at H
        obtain rfl := Option.some.inj H
        exact ⟨.inr rfl, rfl, rfl, Nat.le_refl _, rfl, by simp⟩
      · refine Tri.cond_false (useb h13 (by kernel_rfl)) ?_
        refine Tri.skip ?_
        refine Tri.r1 [0, 1, 7, 8] 0 [] [] [] ⟨19, [(0, o1 (.sl 6 (List.map eSItem a0))), (1, o1 (.fn 169 [.cel ([.sc (.func (.func 119) #[] #[])]) 0])), (7, oI (a0.length : Int)), (8, oI (w64 (z7 + 1)))], [], 0, []⟩ (by kernel_rfl) trivial ?_
        exact IH14 _ (w64 (z7 + 1)) (Nat.le_refl _) h15
    · refine Tri.cond_false (useb (decide_eq_false h8) (by kernel_rfl)) ?_
      refine Tri.fix [] 0 [] ⟨19, [], [], 0, []⟩ (by kernel_rfl) ?_
      refine Tri.exit ?_
      repeat (with_reducible refine Ex.exit ?_)
      refine Bk.here ?_
      exact ⟨(), (Option.some.inj h15).symm, rfl⟩
/-! slices_ContainsFunc___impl_Item_impl_Item_1: function 168 -/
def slices_ContainsFunc___impl_Item_impl_Item_1.f (k : Nat) (a0 : (List SItem)) : Option Bool := (slices_IndexFunc___impl_Item_impl_Item_1.f k a0).bind fun r1 => some (decide ((0 : Int) ≤ r1))
set_option maxRecDepth 100000 in
theorem slices_ContainsFunc___impl_Item_impl_Item_1.fn (k : Nat) (a0 : (List SItem)) (r : Bool) (H : slices_ContainsFunc___impl_Item_impl_Item_1.f k a0 = some r) : Fn Tryz.prog 168 [o1 (.sl 6 (List.map eSItem a0)), o1 (.fn 169 [.cel ([.sc (.func (.func 119) #[] #[])]) 0])] [] (oB r) [] := by
  unfold slices_ContainsFunc___impl_Item_impl_Item_1.f at H
  refine Fn.body (ts := [4]) Tryz.func168 rfl rfl (by decide) (by decide) (Nat.le_of_ble_eq_true rfl) (Nat.le_refl _) ?_
  refine Tri.rn [0, 1] 0 [] [] [] ⟨9, [(0, o1 (.sl 6 (List.map eSItem a0))), (1, o1 (.fn 169 [.cel ([.sc (.func (.func 119) #[] #[])]) 0]))], [], 0, []⟩ (by kernel_rfl) trivial ?_
  obtain ⟨r1, h2, H⟩ := bind_some' H
  refine Tri.rn [4] 0 [] [(2, .call (oI r1) [] false)] [_, _] ⟨9, [(4, oB (decide ((0 : Int) ≤ r1)))], [], 0, []⟩ (by kernel_rfl) ⟨(slices_IndexFunc___impl_Item_impl_Item_1.fn k a0 r1 h2), (show (List.all [cI r1] PC.flatB) = true from rfl), trivial⟩ ?_
  refine Tri.ret ?_
  obtain rfl := Option.some.inj H
  exact ⟨.inr rfl, rfl, rfl, Nat.le_refl _, rfl, by simp⟩
/-! impl_areAll_impl_Item_1: function 118 -/
def impl_areAll_impl_Item_1.f (k : Nat) (a0 : (List SItem)) : Option Bool := (slices_ContainsFunc___impl_Item_impl_Item_1.f k a0).bind fun r1 => some (!r1)
set_option maxRecDepth 100000 in
theorem impl_areAll_impl_Item_1.fn (k : Nat) (a0 : (List SItem)) (r : Bool) (H : impl_areAll_impl_Item_1.f k a0 = some r) : Fn Tryz.prog 118 [o1 (.sl 6 (List.map eSItem a0)), o1 (.sc (.func (.func 119) #[] #[]))] [] (oB r) [] := by
  unfold impl_areAll_impl_Item_1.f at H
  refine Fn.body (ts := [4]) Tryz.func118 rfl rfl (by decide) (by decide) (Nat.le_of_ble_eq_true rfl) (Nat.le_refl _) ?_
  refine Tri.rn [0, 3] 1 [] [] [] ⟨9, [(0, o1 (.sl 6 (List.map eSItem a0))), (3, o1 (.ref 0 0))], [[.sc (.func (.func 119) #[] #[])]], 0, []⟩ (by kernel_rfl) trivial ?_
  obtain ⟨r1, h2, H⟩ := bind_some' H
  refine Tri.rn [4] 0 [] [(2, .call (oB r1) [] false)] [_, _] ⟨9, [(4, oB (!r1))], [], 0, []⟩ (by kernel_rfl) ⟨(slices_ContainsFunc___impl_Item_impl_Item_1.fn k a0 r1 h2), (show (List.all [cB r1] PC.flatB) = true from rfl), trivial⟩ ?_
  refine Tri.ret ?_
  obtain rfl := Option.some.inj H
  exact ⟨.inr rfl, rfl, rfl, Nat.le_refl _, rfl, by simp⟩
/-! impl_InterfaceOK: function 58 -/
def impl_InterfaceOK.l1 : Nat → SFace → (List ByteArray) → Int → Option (List ByteArray)
  | 0, _, _, _ => none
  | k + 1, a0, z9, z10 => if z10 < (a0.f1.length : Int) then ((at? a0.f1 z10).bind fun x12 => if (z9 ++ ([x12.f4] : List ByteArray)).length * 16 ≤ 140737488355328 then (impl_InterfaceOK.l1 k a0 (z9 ++ ([x12.f4] : List ByteArray)) (w64 (z10 + 1))) else none) else (some z9)
def impl_InterfaceOK.e2 (k : Nat) (a0 : SFace) : Option (List ByteArray) := impl_InterfaceOK.l1 k a0 ([] : List ByteArray) 0
def impl_InterfaceOK.e3 (k : Nat) (a0 : SFace) (y16 : (List ByteArray)) : Option Bool := (impl_isName.f k a0.f0).bind fun r19 => if r19 = true then (if (a0.f1.length : Int) ≤ 60 then ((impl_areAll_impl_Item_1.f k a0.f1).bind fun r23 => if r23 = true then ((impl_areDifferent.f k y16).bind fun r26 => some r26) else (some false)) else (some false)) else (some false)
def impl_InterfaceOK.f (k : Nat) (a0 : SFace) : Option Bool := (impl_InterfaceOK.e2 k a0).bind fun y16 => (impl_InterfaceOK.e3 k a0 y16).bind fun y28 => some y28
set_option maxRecDepth 100000 in
theorem impl_InterfaceOK.fn (k : Nat) (a0 : SFace) (r : Bool) (H : impl_InterfaceOK.f k a0 = some r) : Fn Tryz.prog 58 [ag (eSFace a0)] [] (oB r) [] := by
  unfold impl_InterfaceOK.f at H
  refine Fn.body (ts := [2]) Tryz.func58 rfl rfl (by decide) (by decide) (Nat.le_of_ble_eq_true rfl) (Nat.le_refl _) ?_
  refine Tri.rn [1] 1 [] [] [] ⟨37, [(1, o1 (.ref 0 0))], [eSFace a0], 0, []⟩ (by kernel_rfl) trivial ?_
  refine Tri.rn [1, 3] 1 [] [] [] ⟨37, [(1, o1 (.ref 0 0)), (3, o1 .nl)], [eSFace a0], 0, []⟩ (by kernel_rfl) trivial ?_
  obtain ⟨v18, h17, H⟩ := bind_some' H
  refine Tri.join (α := (List ByteArray)) (fun w => v18 = w) (fun y16 => ⟨37, [(1, o1 (.ref 0 0)), (3, o1 (.own 9 (List.map eS y16)))], [eSFace a0], 0, []⟩) (fun y16 hw => ?_) ?_
  · rw [hw] at H; clear hw
    try dsimp only at H
    obtain ⟨v30, h29, H⟩ := bind_some' H
    refine Tri.join (α := Bool) (fun w => v30 = w) (fun y28 => ⟨37, [(2, oB y28)], [], 0, []⟩) (fun y28 hw => ?_) ?_
    · rw [hw] at H; clear hw
      try dsimp only at H
      refine Tri.ret ?_
      obtain rfl := Option.some.inj H
      exact ⟨.inr rfl, rfl, rfl, Nat.le_refl _, rfl, by simp⟩
    · unfold impl_InterfaceOK.e3 at h29
      obtain ⟨r19, h20, h29⟩ := bind_some' h29
      rcases iteb_some h29 with ⟨h21, h29⟩ | ⟨h21, h29⟩
      · rcases ite_some h29 with ⟨h22, h29⟩ | ⟨h22, h29⟩
        · obtain ⟨r23, h24, h29⟩ := bind_some' h29
          rcases iteb_some h29 with ⟨h25, h29⟩ | ⟨h25, h29⟩
          · obtain ⟨r26, h27, h29⟩ := bind_some' h29
            refine Tri.r1 [2] 0 [] [(2, .call (oB r19) [] false), (2, .ov [.sc (.bool true)]), (6, .ov [.sc (.int .i64 (a0.f1.length : Int))]), (7, .ov [.sc (.bool true)]), (12, .call (oB r23) [] false), (12, .ov [.sc (.bool true)]), (16, .call (oB r26) [] false)] [_, _, _, _, _, _, _, _, _, _] ⟨37, [(2, oB r26)], [], 0, []⟩ (by kernel_rfl) ⟨(impl_isName.fn k a0.f0 r19 h20), (show (List.all [cB r19] PC.flatB) = true from rfl), (ovb h21), (ovlen (f := eSItem) (l := a0.f1)), (ovb (decide_eq_true h22)), (impl_areAll_impl_Item_1.fn k a0.f1 r23 h24), (show (List.all [cB r23] PC.flatB) = true from rfl), (ovb h25), (impl_areDifferent.fn k y16 r26 h27), (show (List.all [cB r26] PC.flatB) = true from rfl), trivial⟩ ?_
            exact ⟨r26, (Option.some.inj h29).symm, rfl⟩
          · refine Tri.r1 [2] 0 [] [(2, .call (oB r19) [] false), (2, .ov [.sc (.bool true)]), (6, .ov [.sc (.int .i64 (a0.f1.length : Int))]), (7, .ov [.sc (.bool true)]), (12, .call (oB r23) [] false), (12, .ov [.sc (.bool false)])] [_, _, _, _, _, _, _, _] ⟨37, [(2, oB false)], [], 0, []⟩ (by kernel_rfl) ⟨(impl_isName.fn k a0.f0 r19 h20), (show (List.all [cB r19] PC.flatB) = true from rfl), (ovb h21), (ovlen (f := eSItem) (l := a0.f1)), (ovb (decide_eq_true h22)), (impl_areAll_impl_Item_1.fn k a0.f1 r23 h24), (show (List.all [cB r23] PC.flatB) = true from rfl), (ovb h25), trivial⟩ ?_
            exact ⟨false, (Option.some.inj h29).symm, rfl⟩
        · refine Tri.r1 [2] 0 [] [(2, .call (oB r19) [] false), (2, .ov [.sc (.bool true)]), (6, .ov [.sc (.int .i64 (a0.f1.length : Int))]), (7, .ov [.sc (.bool false)])] [_, _, _, _, _] ⟨37, [(2, oB false)], [], 0, []⟩ (by kernel_rfl) ⟨(impl_isName.fn k a0.f0 r19 h20), (show (List.all [cB r19] PC.flatB) = true from rfl), (ovb h21), (ovlen (f := eSItem) (l := a0.f1)), (ovb (decide_eq_false h22)), trivial⟩ ?_
          exact ⟨false, (Option.some.inj h29).symm, rfl⟩
      · refine Tri.r1 [2] 0 [] [(2, .call (oB r19) [] false), (2, .ov [.sc (.bool false)])] [_, _, _] ⟨37, [(2, oB false)], [], 0, []⟩ (by kernel_rfl) ⟨(impl_isName.fn k a0.f0 r19 h20), (show (List.all [cB r19] PC.flatB) = true from rfl), (ovb h21), trivial⟩ ?_
        exact ⟨false, (Option.some.inj h29).symm, rfl⟩
  · unfold impl_InterfaceOK.e2 at h17
    refine Tri.rn [1, 3, 7, 8, 9] 1 [] [(2, .ov [.sc (.int .i64 (a0.f1.length : Int))])] [_] ⟨37, [(1, o1 (.ref 0 0)), (3, o1 .nl), (7, o1 (.sl 6 (List.map eSItem a0.f1))), (8, oI (a0.f1.length : Int)), (9, oI 0)], [eSFace a0], 0, []⟩ (by kernel_rfl) ⟨(ovlen (f := eSItem) (l := a0.f1)), trivial⟩ ?_
    refine Tri.block ?_
    refine Tri.fix [1, 3, 7, 8, 9] 1 [.own (.t 3 0) 9] ⟨37, [(1, o1 (.ref 0 0)), (3, o1 (.own 9 (List.map eS ([] : List ByteArray)))), (7, o1 (.sl 6 (List.map eSItem a0.f1))), (8, oI (a0.f1.length : Int)), (9, oI 0)], [eSFace a0], 0, []⟩ (by kernel_rfl) ?_
    refine Tri.loop k (TriR.ind (α := ((List ByteArray) × Int)) (fun k x => impl_InterfaceOK.l1 k a0 x.1 x.2) (fun x => ⟨37, [(1, o1 (.ref 0 0)), (3, o1 (.own 9 (List.map eS x.1))), (7, o1 (.sl 6 (List.map eSItem a0.f1))), (8, oI (a0.f1.length : Int)), (9, oI x.2)], [eSFace a0], 0, []⟩) (fun _ => rfl) (fun k x h17 IH15 => ?_) k (([] : List ByteArray), 0) h17)
    obtain ⟨z9, z10⟩ := x
    rw [impl_InterfaceOK.l1.eq_2] at h17
    refine Tri.rn [1, 3, 7, 8, 9, 10] 1 [] [] [] ⟨37, [(1, o1 (.ref 0 0)), (3, o1 (.own 9 (List.map eS z9))), (7, o1 (.sl 6 (List.map eSItem a0.f1))), (8, oI (a0.f1.length : Int)), (9, oI z10), (10, oB (decide (z10 < (a0.f1.length : Int))))], [eSFace a0], 0, []⟩ (by kernel_rfl) trivial ?_
    refine Tri.seq ?_
    rcases ite_some h17 with ⟨h11, h17⟩ | ⟨h11, h17⟩
    · refine Tri.cond_true (useb (decide_eq_true h11) (by kernel_rfl)) ?_
      refine Tri.skip ?_
      refine Tri.seq ?_
      refine Tri.block ?_
      obtain ⟨x12, h13, h17⟩ := bind_some' h17
      refine Tri.rn [1, 3, 5, 7, 8, 9] 2 [] [(0, .el (eSItem x12))] [_, _] ⟨37, [(1, o1 (.ref 0 0)), (3, o1 (.own 9 (List.map eS z9))), (5, o1 (.ref 1 0)), (7, o1 (.sl 6 (List.map eSItem a0.f1))), (8, oI (a0.f1.length : Int)), (9, oI z10)], [eSFace a0, eSItem x12], 0, []⟩ (by kernel_rfl) ⟨(at?_0 h13), (at?_map (f := eSItem) h13), trivial⟩ ?_
      obtain ⟨h14, h17⟩ := need_some h17
      refine Tri.r1 [1, 3, 7, 8, 9] 1 [] [(4, .ov [.own 9 (List.map eS (z9 ++ ([x12.f4] : List ByteArray)))])] [_, _, _] ⟨37, [(1, o1 (.ref 0 0)), (3, o1 (.own 9 (List.map eS (z9 ++ ([x12.f4] : List ByteArray))))), (7, o1 (.sl 6 (List.map eSItem a0.f1))), (8, oI (a0.f1.length : Int)), (9, oI z10)], [eSFace a0], 0, []⟩ (by kernel_rfl) ⟨(app1 (f := eS) (by decide) h14), (app2 (f := eS) h14), (ovapp (e := 9) (f := eS) (l := z9) (m := ([x12.f4] : List ByteArray))), trivial⟩ ?_
      refine Tri.r1 [1, 3, 7, 8, 9] 1 [] [] [] ⟨37, [(1, o1 (.ref 0 0)), (3, o1 (.own 9 (List.map eS (z9 ++ ([x12.f4] : List ByteArray))))), (7, o1 (.sl 6 (List.map eSItem a0.f1))), (8, oI (a0.f1.length : Int)), (9, oI (w64 (z10 + 1)))], [eSFace a0], 0, []⟩ (by kernel_rfl) trivial ?_
      exact IH15 _ (z9 ++ ([x12.f4] : List ByteArray), w64 (z10 + 1)) (Nat.le_refl _) h17
    · refine Tri.cond_false (useb (decide_eq_false h11) (by kernel_rfl)) ?_
      refine Tri.fix [1, 3] 1 [] ⟨37, [(1, o1 (.ref 0 0)), (3, o1 (.own 9 (List.map eS z9)))], [eSFace a0], 0, []⟩ (by kernel_rfl) ?_
      refine Tri.exit ?_
      repeat (with_reducible refine Ex.exit ?_)
      refine Bk.here ?_
      exact ⟨z9, (Option.some.inj h17).symm, rfl⟩
/-! impl_big: function 122 -/
def impl_big.l1 : Nat → Int → Int → (List Int) → Int → Option (List Int)
  | 0, _, _, _, _ => none
  | k + 1, a0, a1, z7, z8 => if z8 < ((List.replicate (Int.toNat a1) (0 : Int) : List Int).length : Int) then (if (0 : Int) ≤ (w64 (8 * z8)) then ((at? z7 (w64 ((w64 (a1 - 1)) - z8))).bind fun x11 => impl_big.l1 k a0 a1 (z7.set (Int.toNat (w64 ((w64 (a1 - 1)) - z8))) (IntKind.u8.wrap (ishr .i64 a0 (w64 (8 * z8))))) (w64 (z8 + 1))) else none) else (some z7)
def impl_big.e2 (k : Nat) (a0 : Int) (a1 : Int) : Option (List Int) := impl_big.l1 k a0 a1 (List.replicate (Int.toNat a1) (0 : Int) : List Int) 0
def impl_big.f (k : Nat) (a0 : Int) (a1 : Int) : Option ByteArray := if (0 : Int) ≤ a1 then (if a1 * 1 ≤ 140737488355328 then ((impl_big.e2 k a0 a1).bind fun y14 => some (strOfNums y14)) else none) else none
set_option maxRecDepth 100000 in
theorem impl_big.fn (k : Nat) (a0 : Int) (a1 : Int) (r : ByteArray) (H : impl_big.f k a0 a1 = some r) : Fn Tryz.prog 122 [oI a0, oI a1] [] (oS r) [] := by
  unfold impl_big.f at H
  refine Fn.body (ts := [4]) Tryz.func122 rfl rfl (by decide) (by decide) (Nat.le_of_ble_eq_true rfl) (Nat.le_refl _) ?_
  refine Tri.rn [0, 1] 0 [] [] [] ⟨28, [(0, oI a0), (1, oI a1)], [], 0, []⟩ (by kernel_rfl) trivial ?_
  obtain ⟨h1, H⟩ := need_some H
  obtain ⟨h2, H⟩ := need_some H
  refine Tri.rn [0, 1, 5] 0 [] [(1, .nz []), (1, .ov [.own 5 (List.map (eK .u8) (List.replicate (Int.toNat a1) (0 : Int) : List Int))])] [_, _, _, _, _] ⟨28, [(0, oI a0), (1, oI a1), (5, o1 (.own 5 (List.map (eK .u8) (List.replicate (Int.toNat a1) (0 : Int) : List Int))))], [], 0, []⟩ (by kernel_rfl) ⟨(rfl : a1 = a1), h1, (mkN (b := 1) (by decide) h1 h2), h2, (ovrep (e := 5) (n := Int.toNat a1) (z := (0 : Int)) (f := (eK .u8))), trivial⟩ ?_
  obtain ⟨v16, h15, H⟩ := bind_some' H
  refine Tri.join (α := (List Int)) (fun w => v16 = w) (fun y14 => ⟨28, [(5, o1 (.own 5 (List.map (eK .u8) y14)))], [], 0, []⟩) (fun y14 hw => ?_) ?_
  · rw [hw] at H; clear hw
    try dsimp only at H
    refine Tri.rn [4] 0 [] [(1, .nums y14)] [_] ⟨28, [(4, oS (strOfNums y14))], [], 0, []⟩ (by kernel_rfl) ⟨(rfl : List.map (eK .u8) y14 = List.map (fun n => [PC.sc (.int .u8 n)]) y14), trivial⟩ ?_
    refine Tri.ret ?_
    obtain rfl := Option.some.inj H
    exact ⟨.inr rfl, rfl, rfl, Nat.le_refl _, rfl, by simp⟩
  · unfold impl_big.e2 at h15
    refine Tri.rn [0, 1, 5, 10, 11] 0 [] [(1, .ov [.sc (.int .i64 ((List.replicate (Int.toNat a1) (0 : Int) : List Int).length : Int))])] [_] ⟨28, [(0, oI a0), (1, oI a1), (5, o1 (.own 5 (List.map (eK .u8) (List.replicate (Int.toNat a1) (0 : Int) : List Int)))), (10, oI ((List.replicate (Int.toNat a1) (0 : Int) : List Int).length : Int)), (11, oI 0)], [], 0, []⟩ (by kernel_rfl) ⟨(ovlen (f := (eK .u8)) (l := (List.replicate (Int.toNat a1) (0 : Int) : List Int))), trivial⟩ ?_
    refine Tri.block ?_
    refine Tri.loop k (TriR.ind (α := ((List Int) × Int)) (fun k x => impl_big.l1 k a0 a1 x.1 x.2) (fun x => ⟨28, [(0, oI a0), (1, oI a1), (5, o1 (.own 5 (List.map (eK .u8) x.1))), (10, oI ((List.replicate (Int.toNat a1) (0 : Int) : List Int).length : Int)), (11, oI x.2)], [], 0, []⟩) (fun _ => rfl) (fun k x h15 IH13 => ?_) k ((List.replicate (Int.toNat a1) (0 : Int) : List Int), 0) h15)
    obtain ⟨z7, z8⟩ := x
    rw [impl_big.l1.eq_2] at h15
    refine Tri.rn [0, 1, 5, 10, 11, 12] 0 [] [] [] ⟨28, [(0, oI a0), (1, oI a1), (5, o1 (.own 5 (List.map (eK .u8) z7))), (10, oI ((List.replicate (Int.toNat a1) (0 : Int) : List Int).length : Int)), (11, oI z8), (12, oB (decide (z8 < ((List.replicate (Int.toNat a1) (0 : Int) : List Int).length : Int))))], [], 0, []⟩ (by kernel_rfl) trivial ?_
    refine Tri.seq ?_
    rcases ite_some h15 with ⟨h9, h15⟩ | ⟨h9, h15⟩
    · refine Tri.cond_true (useb (decide_eq_true h9) (by kernel_rfl)) ?_
      refine Tri.skip ?_
      refine Tri.seq ?_
      refine Tri.block ?_
      refine Tri.rn [0, 1, 5, 6, 10, 11] 0 [] [] [] ⟨28, [(0, oI a0), (1, oI a1), (5, o1 (.own 5 (List.map (eK .u8) z7))), (6, oI z8), (10, oI ((List.replicate (Int.toNat a1) (0 : Int) : List Int).length : Int)), (11, oI z8)], [], 0, []⟩ (by kernel_rfl) trivial ?_
      obtain ⟨h10, h15⟩ := need_some h15
      obtain ⟨x11, h12, h15⟩ := bind_some' h15
      refine Tri.r1 [0, 1, 5, 10, 11] 0 [] [(10, .el ((eK .u8) x11)), (11, .el ((eK .u8) x11)), (11, .ovp (.t 5 0) (.own 5 (List.map (eK .u8) (z7.set (Int.toNat (w64 ((w64 (a1 - 1)) - z8))) (IntKind.u8.wrap (ishr .i64 a0 (w64 (8 * z8))))))))] [_, _, _, _, _] ⟨28, [(0, oI a0), (1, oI a1), (5, o1 (.own 5 (List.map (eK .u8) (z7.set (Int.toNat (w64 ((w64 (a1 - 1)) - z8))) (IntKind.u8.wrap (ishr .i64 a0 (w64 (8 * z8)))))))), (10, oI ((List.replicate (Int.toNat a1) (0 : Int) : List Int).length : Int)), (11, oI z8)], [], 0, []⟩ (by kernel_rfl) ⟨h10, (at?_0 h12), (at?_map (f := (eK .u8)) h12), (at?_map (f := (eK .u8)) h12), (ovset (e := 5) (f := (eK .u8)) (l := z7) (v := IntKind.u8.wrap (ishr .i64 a0 (w64 (8 * z8)))) (i := Int.toNat (w64 ((w64 (a1 - 1)) - z8)))), trivial⟩ ?_
      refine Tri.r1 [0, 1, 5, 10, 11] 0 [] [] [] ⟨28, [(0, oI a0), (1, oI a1), (5, o1 (.own 5 (List.map (eK .u8) (z7.set (Int.toNat (w64 ((w64 (a1 - 1)) - z8))) (IntKind.u8.wrap (ishr .i64 a0 (w64 (8 * z8)))))))), (10, oI ((List.replicate (Int.toNat a1) (0 : Int) : List Int).length : Int)), (11, oI (w64 (z8 + 1)))], [], 0, []⟩ (by kernel_rfl) trivial ?_
      exact IH13 _ (z7.set (Int.toNat (w64 ((w64 (a1 - 1)) - z8))) (IntKind.u8.wrap (ishr .i64 a0 (w64 (8 * z8)))), w64 (z8 + 1)) (Nat.le_refl _) h15
    · refine Tri.cond_false (useb (decide_eq_false h9) (by kernel_rfl)) ?_
      refine Tri.fix [5] 0 [] ⟨28, [(5, o1 (.own 5 (List.map (eK .u8) z7)))], [], 0, []⟩ (by kernel_rfl) ?_
      refine Tri.exit ?_
      repeat (with_reducible refine Ex.exit ?_)
      refine Bk.here ?_
      exact ⟨z7, (Option.some.inj h15).symm, rfl⟩
/-! impl_sized: function 121 -/
def impl_sized.f (k : Nat) (a0 : ByteArray) : Option ByteArray := (impl_big.f k (a0.size : Int) 1).bind fun r1 => if r1.size + a0.size ≤ 9223372036854775807 then (some (r1 ++ a0)) else none
set_option maxRecDepth 100000 in
theorem impl_sized.fn (k : Nat) (a0 : ByteArray) (r : ByteArray) (H : impl_sized.f k a0 = some r) : Fn Tryz.prog 121 [oS a0] [] (oS r) [] := by
  unfold impl_sized.f at H
  refine Fn.body (ts := [2]) Tryz.func121 rfl rfl (by decide) (by decide) (Nat.le_of_ble_eq_true rfl) (Nat.le_refl _) ?_
  refine Tri.rn [0] 0 [] [] [] ⟨8, [(0, oS a0)], [], 0, []⟩ (by kernel_rfl) trivial ?_
  obtain ⟨r1, h2, H⟩ := bind_some' H
  obtain ⟨h3, H⟩ := need_some H
  refine Tri.rn [2] 0 [] [(2, .call (oS r1) [] false)] [_, _, _] ⟨8, [(2, oS (r1 ++ a0))], [], 0, []⟩ (by kernel_rfl) ⟨(impl_big.fn k (a0.size : Int) 1 r1 h2), (show (List.all [cS r1] PC.flatB) = true from rfl), h3, trivial⟩ ?_
  refine Tri.ret ?_
  obtain rfl := Option.some.inj H
  exact ⟨.inr rfl, rfl, rfl, Nat.le_refl _, rfl, by simp⟩
/-! strings_Builder__copyCheck_2: function 174 -/
def strings_Builder__copyCheck_2.f (k : Nat) (b0_1 : Bool) (b0_2 : (List Int)) : Option Bool := if b0_1 = true then (some b0_1) else (some true)
set_option maxRecDepth 100000 in
theorem strings_Builder__copyCheck_2.fn (k : Nat) (b0_1 : Bool) (b0_2 : (List Int)) (r : Bool) (H : strings_Builder__copyCheck_2.f k b0_1 b0_2 = some r) : FnG Tryz.prog 174 [o1 (.ref 0 0)] [] [[.opt 170 b0_1 0 0, .own 5 (List.map (eK .u8) b0_2)]] (tp [] []) [] [[.opt 170 r 0 0, .own 5 (List.map (eK .u8) b0_2)]] := by
  unfold strings_Builder__copyCheck_2.f at H
  refine FnG.body (ts := []) Tryz.func174 rfl rfl (by decide) (by decide) (Nat.le_of_ble_eq_true rfl) rfl (Nat.le_of_ble_eq_true rfl) ?_
  refine Tri.rn [0, 6] 1 [] [] [] ⟨20, [(0, o1 (.ref 0 0)), (6, oB (!b0_1))], [[.opt 170 b0_1 0 0, .own 5 (List.map (eK .u8) b0_2)]], 1, []⟩ (by kernel_rfl) trivial ?_
  rcases iteb_some H with ⟨h1, H⟩ | ⟨h1, H⟩
  · refine Tri.cond_false (useb (nF h1) (by kernel_rfl)) ?_
    refine Tri.rn [19] 1 [] [(5, .ov [.sc (.bool false)])] [_] ⟨20, [(19, oB false)], [[.opt 170 b0_1 0 0, .own 5 (List.map (eK .u8) b0_2)]], 1, []⟩ (by kernel_rfl) ⟨(ovb (nF h1)), trivial⟩ ?_
    refine Tri.cond_false (by kernel_rfl) ?_
    refine Tri.skip ?_
    obtain rfl := Option.some.inj H
    exact endsG (.inl rfl) (by kernel_rfl)
  · refine Tri.cond_true (useb (nT h1) (by kernel_rfl)) ?_
    refine Tri.r1 [] 1 [] [] [_] ⟨20, [], [[.opt 170 true 0 0, .own 5 (List.map (eK .u8) b0_2)]], 1, []⟩ (by kernel_rfl) ⟨(⟨_, Tryz.func212, by kernel_rfl, by kernel_rfl, by kernel_rfl, by kernel_rfl⟩ : isSame Tryz.prog 212), trivial⟩ ?_
    obtain rfl := Option.some.inj H
    exact endsG (.inl rfl) (by kernel_rfl)
/-! strings_Builder__WriteString_1: function 120 -/
def strings_Builder__WriteString_1.f (k : Nat) (a1 : ByteArray) (b0_1 : Bool) (b0_2 : (List Int)) : Option (Int × Bool × (List Int)) := (strings_Builder__copyCheck_2.f k b0_1 b0_2).bind fun r1 => if (b0_2 ++ (bytesOf a1)).length * 1 ≤ 140737488355328 then (some ((a1.size : Int), r1, b0_2 ++ (bytesOf a1))) else none
set_option maxRecDepth 100000 in
theorem strings_Builder__WriteString_1.fn (k : Nat) (a1 : ByteArray) (b0_1 : Bool) (b0_2 : (List Int)) (r : (Int × Bool × (List Int))) (H : strings_Builder__WriteString_1.f k a1 b0_1 b0_2 = some r) : FnG Tryz.prog 120 [o1 (.ref 0 0), oS a1] [] [[.opt 170 b0_1 0 0, .own 5 (List.map (eK .u8) b0_2)]] (tp [none, none] [cI r.1, .sc .nilIface]) [] [[.opt 170 r.2.1 0 0, .own 5 (List.map (eK .u8) r.2.2)]] := by
  unfold strings_Builder__WriteString_1.f at H
  refine FnG.body (ts := [4, 5]) Tryz.func120 rfl rfl (by decide) (by decide) (Nat.le_of_ble_eq_true rfl) rfl (Nat.le_of_ble_eq_true rfl) ?_
  refine Tri.rn [0, 1] 1 [] [] [] ⟨19, [(0, o1 (.ref 0 0)), (1, oS a1)], [[.opt 170 b0_1 0 0, .own 5 (List.map (eK .u8) b0_2)]], 1, []⟩ (by kernel_rfl) trivial ?_
  obtain ⟨r1, h2, H⟩ := bind_some' H
  refine Tri.rn [0, 1] 1 [] [(1, .callB (tp [] []) [] [0] none [] [[.opt 170 r1 0 0, .own 5 (List.map (eK .u8) b0_2)]])] [_] ⟨19, [(0, o1 (.ref 0 0)), (1, oS a1)], [[.opt 170 r1 0 0, .own 5 (List.map (eK .u8) b0_2)]], 1, []⟩ (by kernel_rfl) ⟨(strings_Builder__copyCheck_2.fn k b0_1 b0_2 r1 h2), trivial⟩ ?_
  obtain ⟨h3, H⟩ := need_some H
  refine Tri.rn [1] 1 [] [(6, .ov [.own 5 (List.map (eK .u8) (b0_2 ++ (bytesOf a1)))])] [_, _, _] ⟨19, [(1, oS a1)], [[.opt 170 r1 0 0, .own 5 (List.map (eK .u8) (b0_2 ++ (bytesOf a1)))]], 1, []⟩ (by kernel_rfl) ⟨(appS1 (by decide) h3), (appS2 h3), (ovappS (e := 5) (l := b0_2) (s := a1)), trivial⟩ ?_
  refine Tri.rn [4, 5] 1 [] [] [] ⟨19, [(4, oI (a1.size : Int)), (5, o1 (.sc .nilIface))], [[.opt 170 r1 0 0, .own 5 (List.map (eK .u8) (b0_2 ++ (bytesOf a1)))]], 1, []⟩ (by kernel_rfl) trivial ?_
  refine Tri.ret ?_
  obtain rfl := Option.some.inj H
  exact endsG (.inr rfl) (by kernel_rfl)
/-! impl_truth: function 123 -/
def impl_truth.f (k : Nat) (a0 : Bool) : Option Int := if a0 = true then (some 1) else (some 0)
set_option maxRecDepth 100000 in
theorem impl_truth.fn (k : Nat) (a0 : Bool) (r : Int) (H : impl_truth.f k a0 = some r) : Fn Tryz.prog 123 [oB a0] [] (oI r) [] := by
  unfold impl_truth.f at H
  refine Fn.body (ts := [2]) Tryz.func123 rfl rfl (by decide) (by decide) (Nat.le_of_ble_eq_true rfl) (Nat.le_refl _) ?_
  refine Tri.rn [0] 0 [] [] [] ⟨4, [(0, oB a0)], [], 0, []⟩ (by kernel_rfl) trivial ?_
  refine Tri.seq ?_
  refine Tri.rn [3] 0 [] [] [] ⟨4, [(3, oB a0)], [], 0, []⟩ (by kernel_rfl) trivial ?_
  rcases iteb_some H with ⟨h1, H⟩ | ⟨h1, H⟩
  · refine Tri.cond_true (useb h1 (by kernel_rfl)) ?_
    refine Tri.rn [2] 0 [] [] [] ⟨4, [(2, oI 1)], [], 0, []⟩ (by kernel_rfl) trivial ?_
    refine Tri.ret ?_
    obtain rfl := Option.some.inj H
    exact ⟨.inr rfl, rfl, rfl, Nat.le_refl _, rfl, by simp⟩
  · refine Tri.cond_false (useb h1 (by kernel_rfl)) ?_
    refine Tri.skip ?_
    refine Tri.rn [2] 0 [] [] [] ⟨4, [(2, oI 0)], [], 0, []⟩ (by kernel_rfl) trivial ?_
    refine Tri.ret ?_
    obtain rfl := Option.some.inj H
    exact ⟨.inr rfl, rfl, rfl, Nat.le_refl _, rfl, by simp⟩
def strings_Builder_String_2.f (k : Nat) (b0_1 : Bool) (b0_2 : (List Int)) : Option ByteArray := strings_Builder_String.f k b0_2
theorem strings_Builder_String_2.fn (k : Nat) (b0_1 : Bool) (b0_2 : (List Int)) (r : ByteArray) (H : strings_Builder_String_2.f k b0_1 b0_2 = some r) : FnG Tryz.prog 124 [o1 (.ref 0 0)] [] [[.opt 170 b0_1 0 0, .own 5 (List.map (eK .u8) b0_2)]] (oS r) [] [[.opt 170 b0_1 0 0, .dead]] := strings_Builder_String.fn k b0_1 b0_2 [] r H
/-! impl_Interface__bytes: function 60 -/
def impl_Interface__bytes.l1 : Nat → SItem → Int → Bool → (List Int) → Option (Bool × (List Int))
  | 0, _, _, _, _ => none
  | k + 1, x61, z91, z92, z93 => if z91 < (x61.f5.length : Int) then ((at? x61.f5 z91).bind fun x95 => (impl_truth.f k x95.f1).bind fun r97 => (impl_big.f k (w64 (x95.f0 + (w64 (8 * r97)))) 1).bind fun r99 => (strings_Builder__WriteString_1.f k r99 z92 z93).bind fun r101 => impl_Interface__bytes.l1 k x61 (w64 (z91 + 1)) r101.2.1 r101.2.2) else (some (z92, z93))
def impl_Interface__bytes.e2 (k : Nat) (a0 : SFace) (z57 : Int) (z58 : Bool) (z59 : (List Int)) : Option (Bool × (List Int)) := (at? a0.f1 z57).bind fun x61 => (impl_big.f k x61.f0 1).bind fun r63 => (impl_big.f k x61.f1 1).bind fun r65 => if r63.size + r65.size ≤ 9223372036854775807 then ((impl_big.f k x61.f2 1).bind fun r68 => if (r63 ++ r65).size + r68.size ≤ 9223372036854775807 then ((impl_big.f k x61.f3 8).bind fun r71 => if ((r63 ++ r65) ++ r68).size + r71.size ≤ 9223372036854775807 then ((impl_sized.f k x61.f4).bind fun r74 => if (((r63 ++ r65) ++ r68) ++ r71).size + r74.size ≤ 9223372036854775807 then ((impl_big.f k (x61.f5.length : Int) 1).bind fun r77 => if ((((r63 ++ r65) ++ r68) ++ r71) ++ r74).size + r77.size ≤ 9223372036854775807 then ((strings_Builder__WriteString_1.f k (((((r63 ++ r65) ++ r68) ++ r71) ++ r74) ++ r77) z58 z59).bind fun r80 => impl_Interface__bytes.l1 k x61 0 r80.2.1 r80.2.2) else none) else none) else none) else none) else none
def impl_Interface__bytes.l3 : Nat → SFace → Int → Bool → (List Int) → Option (Bool × (List Int))
  | 0, _, _, _, _ => none
  | k + 1, a0, z57, z58, z59 => if z57 < (a0.f1.length : Int) then ((impl_Interface__bytes.e2 k a0 z57 z58 z59).bind fun v => match v with | (y104, y105) => impl_Interface__bytes.l3 k a0 (w64 (z57 + 1)) y104 y105) else (some (z58, z59))
def impl_Interface__bytes.e4 (k : Nat) (a0 : SFace) (r7 : (Int × Bool × (List Int))) : Option (Bool × (List Int)) := impl_Interface__bytes.l3 k a0 0 r7.2.1 r7.2.2
def impl_Interface__bytes.f (k : Nat) (a0 : SFace) : Option ByteArray := (impl_sized.f k a0.f0).bind fun r1 => if (⟨#[79, 73, 49]⟩ : ByteArray).size + r1.size ≤ 9223372036854775807 then ((impl_big.f k (a0.f1.length : Int) 1).bind fun r4 => if ((⟨#[79, 73, 49]⟩ : ByteArray) ++ r1).size + r4.size ≤ 9223372036854775807 then ((strings_Builder__WriteString_1.f k (((⟨#[79, 73, 49]⟩ : ByteArray) ++ r1) ++ r4) false ([] : List Int)).bind fun r7 => (impl_Interface__bytes.e4 k a0 r7).bind fun v => match v with | (y109, y110) => (strings_Builder_String_2.f k y109 y110).bind fun r113 => some r113) else none) else none
set_option maxRecDepth 100000 in
theorem impl_Interface__bytes.fn (k : Nat) (a0 : SFace) (r : ByteArray) (H : impl_Interface__bytes.f k a0 = some r) : Fn Tryz.prog 60 [ag (eSFace a0)] [] (oS r) [] := by
  unfold impl_Interface__bytes.f at H
  refine Fn.body (ts := [2]) Tryz.func60 rfl rfl (by decide) (by decide) (Nat.le_of_ble_eq_true rfl) (Nat.le_refl _) ?_
  refine Tri.rn [1] 1 [] [] [] ⟨69, [(1, o1 (.ref 0 0))], [eSFace a0], 0, []⟩ (by kernel_rfl) trivial ?_
  refine Tri.rn [1, 3] 2 [] [(0, .nz [0])] [] ⟨69, [(1, o1 (.ref 0 0)), (3, o1 (.ref 1 0))], [eSFace a0, [.opt 170 false 1 0, .nl]], 0, []⟩ (by kernel_rfl) trivial ?_
  obtain ⟨r1, h2, H⟩ := bind_some' H
  obtain ⟨h3, H⟩ := need_some H
  obtain ⟨r4, h5, H⟩ := bind_some' H
  obtain ⟨h6, H⟩ := need_some H
  obtain ⟨r7, h8, H⟩ := bind_some' H
  refine Tri.dn hmix 8 [[], [0], [0, 1], [0, 1, 2], [], [4], [4, 5], [0, 1, 2, 4, 5, 6], [0, 1, 2, 3, 4, 5, 6, 7], [0, 1, 2, 3, 4, 5, 6, 7, 8]] [1, 3] 2 [] [(2, .call (oS r1) [] false), (6, .ov [.sc (.int .i64 (a0.f1.length : Int))]), (7, .call (oS r4) [] false), (9, .fix (.own (.b 1 1) 5)), (9, .callB (tp [none, none] [cI r7.1, .sc .nilIface]) [] [1] none [] [[.opt 170 r7.2.1 0 0, .own 5 (List.map (eK .u8) r7.2.2)]])] [_, _, _, _, _, _, _, _] ⟨69, [(1, o1 (.ref 0 0)), (3, o1 (.ref 1 0))], [eSFace a0, [.opt 170 r7.2.1 1 0, .own 5 (List.map (eK .u8) r7.2.2)]], 0, []⟩ (by kernel_rfl) ⟨(impl_sized.fn k a0.f0 r1 h2), (show (List.all [cS r1] PC.flatB) = true from rfl), h3, (ovlen (f := eSItem) (l := a0.f1)), (impl_big.fn k (a0.f1.length : Int) 1 r4 h5), (show (List.all [cS r4] PC.flatB) = true from rfl), h6, (strings_Builder__WriteString_1.fn k (((⟨#[79, 73, 49]⟩ : ByteArray) ++ r1) ++ r4) false ([] : List Int) r7 h8), trivial⟩ ?_
  obtain ⟨v112, h111, H⟩ := bind_some' H
  refine Tri.join (α := (Bool × (List Int))) (fun w => v112 = w) (fun w => ⟨69, [(3, o1 (.ref 1 0))], [eSFace a0, [.opt 170 w.1 1 0, .own 5 (List.map (eK .u8) w.2)]], 0, []⟩) (fun w hw => ?_) ?_
  · rw [hw] at H; clear hw
    obtain ⟨y109, y110⟩ := w
    try dsimp only at H
    obtain ⟨r113, h114, H⟩ := bind_some' H
    refine Tri.rn [2] 0 [] [(0, .callB (oS r113) [] [1] none [] [[.opt 170 y109 0 0, .dead]])] [_] ⟨69, [(2, oS r113)], [], 0, []⟩ (by kernel_rfl) ⟨(strings_Builder_String_2.fn k y109 y110 r113 h114), trivial⟩ ?_
    refine Tri.ret ?_
    obtain rfl := Option.some.inj H
    exact ⟨.inr rfl, rfl, rfl, Nat.le_refl _, rfl, by simp⟩
  · unfold impl_Interface__bytes.e4 at h111
    refine Tri.rn [3, 19, 20, 21] 2 [] [(2, .ov [.sc (.int .i64 (a0.f1.length : Int))])] [_] ⟨69, [(3, o1 (.ref 1 0)), (19, o1 (.sl 6 (List.map eSItem a0.f1))), (20, oI (a0.f1.length : Int)), (21, oI 0)], [eSFace a0, [.opt 170 r7.2.1 1 0, .own 5 (List.map (eK .u8) r7.2.2)]], 0, []⟩ (by kernel_rfl) ⟨(ovlen (f := eSItem) (l := a0.f1)), trivial⟩ ?_
    refine Tri.block ?_
    refine Tri.loop k (TriR.ind (α := (Int × Bool × (List Int))) (fun k x => impl_Interface__bytes.l3 k a0 x.1 x.2.1 x.2.2) (fun x => ⟨69, [(3, o1 (.ref 1 0)), (19, o1 (.sl 6 (List.map eSItem a0.f1))), (20, oI (a0.f1.length : Int)), (21, oI x.1)], [eSFace a0, [.opt 170 x.2.1 1 0, .own 5 (List.map (eK .u8) x.2.2)]], 0, []⟩) (fun _ => rfl) (fun k x h111 IH108 => ?_) k (0, r7.2.1, r7.2.2) h111)
    obtain ⟨z57, z58, z59⟩ := x
    rw [impl_Interface__bytes.l3.eq_2] at h111
    refine Tri.rn [3, 19, 20, 21, 22] 2 [] [] [] ⟨69, [(3, o1 (.ref 1 0)), (19, o1 (.sl 6 (List.map eSItem a0.f1))), (20, oI (a0.f1.length : Int)), (21, oI z57), (22, oB (decide (z57 < (a0.f1.length : Int))))], [eSFace a0, [.opt 170 z58 1 0, .own 5 (List.map (eK .u8) z59)]], 0, []⟩ (by kernel_rfl) trivial ?_
    refine Tri.seq ?_
    rcases ite_some h111 with ⟨h60, h111⟩ | ⟨h60, h111⟩
    · refine Tri.cond_true (useb (decide_eq_true h60) (by kernel_rfl)) ?_
      refine Tri.skip ?_
      obtain ⟨v107, h106, h111⟩ := bind_some' h111
      refine Tri.join (α := (Bool × (List Int))) (fun w => v107 = w) (fun w => ⟨69, [(3, o1 (.ref 1 0)), (19, o1 (.sl 6 (List.map eSItem a0.f1))), (20, oI (a0.f1.length : Int)), (21, oI z57)], [eSFace a0, [.opt 170 w.1 1 0, .own 5 (List.map (eK .u8) w.2)]], 0, []⟩) (fun w hw => ?_) ?_
      · rw [hw] at h111; clear hw
        obtain ⟨y104, y105⟩ := w
        try dsimp only at h111
        refine Tri.r1 [3, 19, 20, 21] 2 [] [] [] ⟨69, [(3, o1 (.ref 1 0)), (19, o1 (.sl 6 (List.map eSItem a0.f1))), (20, oI (a0.f1.length : Int)), (21, oI (w64 (z57 + 1)))], [eSFace a0, [.opt 170 y104 1 0, .own 5 (List.map (eK .u8) y105)]], 0, []⟩ (by kernel_rfl) trivial ?_
        exact IH108 _ (w64 (z57 + 1), y104, y105) (Nat.le_refl _) h111
      · unfold impl_Interface__bytes.e2 at h106
        refine Tri.block ?_
        obtain ⟨x61, h62, h106⟩ := bind_some' h106
        refine Tri.rn [3, 5, 19, 20, 21] 3 [] [(0, .el (eSItem x61))] [_, _] ⟨69, [(3, o1 (.ref 1 0)), (5, o1 (.ref 2 0)), (19, o1 (.sl 6 (List.map eSItem a0.f1))), (20, oI (a0.f1.length : Int)), (21, oI z57)], [eSFace a0, [.opt 170 z58 1 0, .own 5 (List.map (eK .u8) z59)], eSItem x61], 0, []⟩ (by kernel_rfl) ⟨(at?_0 h62), (at?_map (f := eSItem) h62), trivial⟩ ?_
        obtain ⟨r63, h64, h106⟩ := bind_some' h106
        obtain ⟨r65, h66, h106⟩ := bind_some' h106
        obtain ⟨h67, h106⟩ := need_some h106
        obtain ⟨r68, h69, h106⟩ := bind_some' h106
        obtain ⟨h70, h106⟩ := need_some h106
        obtain ⟨r71, h72, h106⟩ := bind_some' h106
        obtain ⟨h73, h106⟩ := need_some h106
        obtain ⟨r74, h75, h106⟩ := bind_some' h106
        obtain ⟨h76, h106⟩ := need_some h106
        obtain ⟨r77, h78, h106⟩ := bind_some' h106
        obtain ⟨h79, h106⟩ := need_some h106
        obtain ⟨r80, h81, h106⟩ := bind_some' h106
        refine Tri.dn hmix 23 [[], [0], [0, 1], [], [3], [0, 1, 2, 3, 4], [0, 1, 2, 3, 4, 5], [], [7], [0, 1, 2, 3, 4, 5, 7, 8], [0, 1, 2, 3, 4, 5, 6, 7, 8, 9], [], [11], [0, 1, 2, 3, 4, 5, 7, 8, 9, 11, 12], [0, 1, 2, 3, 4, 5, 6, 7, 8, 9, 10, 11, 12, 13], [], [15], [0, 1, 2, 3, 4, 5, 7, 8, 9, 11, 12, 13, 15, 16], [0, 1, 2, 3, 4, 5, 6, 7, 8, 9, 10, 11, 12, 13, 14, 15, 16, 17], [], [19], [19, 20], [0, 1, 2, 3, 4, 5, 7, 8, 9, 11, 12, 13, 15, 16, 17, 19, 20, 21], [0, 1, 2, 3, 4, 5, 6, 7, 8, 9, 10, 11, 12, 13, 14, 15, 16, 17, 18, 19, 20, 21, 22], [0, 1, 2, 3, 4, 5, 6, 7, 8, 9, 10, 11, 12, 13, 14, 15, 16, 17, 18, 19, 20, 21, 22, 23]] [3, 5, 19, 20, 21] 3 [] [(2, .call (oS r63) [] false), (5, .call (oS r65) [] false), (9, .call (oS r68) [] false), (13, .call (oS r71) [] false), (17, .call (oS r74) [] false), (21, .ov [.sc (.int .i64 (x61.f5.length : Int))]), (22, .call (oS r77) [] false), (24, .callB (tp [none, none] [cI r80.1, .sc .nilIface]) [] [1] none [] [[.opt 170 r80.2.1 0 0, .own 5 (List.map (eK .u8) r80.2.2)]])] [_, _, _, _, _, _, _, _, _, _, _, _, _, _, _, _, _, _, _] ⟨69, [(3, o1 (.ref 1 0)), (5, o1 (.ref 2 0)), (19, o1 (.sl 6 (List.map eSItem a0.f1))), (20, oI (a0.f1.length : Int)), (21, oI z57)], [eSFace a0, [.opt 170 r80.2.1 1 0, .own 5 (List.map (eK .u8) r80.2.2)], eSItem x61], 0, []⟩ (by kernel_rfl) ⟨(impl_big.fn k x61.f0 1 r63 h64), (show (List.all [cS r63] PC.flatB) = true from rfl), (impl_big.fn k x61.f1 1 r65 h66), (show (List.all [cS r65] PC.flatB) = true from rfl), h67, (impl_big.fn k x61.f2 1 r68 h69), (show (List.all [cS r68] PC.flatB) = true from rfl), h70, (impl_big.fn k x61.f3 8 r71 h72), (show (List.all [cS r71] PC.flatB) = true from rfl), h73, (impl_sized.fn k x61.f4 r74 h75), (show (List.all [cS r74] PC.flatB) = true from rfl), h76, (ovlen (f := eSParam) (l := x61.f5)), (impl_big.fn k (x61.f5.length : Int) 1 r77 h78), (show (List.all [cS r77] PC.flatB) = true from rfl), h79, (strings_Builder__WriteString_1.fn k (((((r63 ++ r65) ++ r68) ++ r71) ++ r74) ++ r77) z58 z59 r80 h81), trivial⟩ ?_
        refine Tri.rn [3, 19, 20, 21, 51, 52, 53] 2 [] [(2, .ov [.sc (.int .i64 (x61.f5.length : Int))])] [_] ⟨69, [(3, o1 (.ref 1 0)), (19, o1 (.sl 6 (List.map eSItem a0.f1))), (20, oI (a0.f1.length : Int)), (21, oI z57), (51, o1 (.sl 2 (List.map eSParam x61.f5))), (52, oI (x61.f5.length : Int)), (53, oI 0)], [eSFace a0, [.opt 170 r80.2.1 1 0, .own 5 (List.map (eK .u8) r80.2.2)]], 0, []⟩ (by kernel_rfl) ⟨(ovlen (f := eSParam) (l := x61.f5)), trivial⟩ ?_
        refine Tri.block ?_
        refine Tri.loop k (TriR.ind (α := (Int × Bool × (List Int))) (fun k x => impl_Interface__bytes.l1 k x61 x.1 x.2.1 x.2.2) (fun x => ⟨69, [(3, o1 (.ref 1 0)), (19, o1 (.sl 6 (List.map eSItem a0.f1))), (20, oI (a0.f1.length : Int)), (21, oI z57), (51, o1 (.sl 2 (List.map eSParam x61.f5))), (52, oI (x61.f5.length : Int)), (53, oI x.1)], [eSFace a0, [.opt 170 x.2.1 1 0, .own 5 (List.map (eK .u8) x.2.2)]], 0, []⟩) (fun _ => rfl) (fun k x h106 IH103 => ?_) k (0, r80.2.1, r80.2.2) h106)
        obtain ⟨z91, z92, z93⟩ := x
        rw [impl_Interface__bytes.l1.eq_2] at h106
        refine Tri.rn [3, 19, 20, 21, 51, 52, 53, 54] 2 [] [] [] ⟨69, [(3, o1 (.ref 1 0)), (19, o1 (.sl 6 (List.map eSItem a0.f1))), (20, oI (a0.f1.length : Int)), (21, oI z57), (51, o1 (.sl 2 (List.map eSParam x61.f5))), (52, oI (x61.f5.length : Int)), (53, oI z91), (54, oB (decide (z91 < (x61.f5.length : Int))))], [eSFace a0, [.opt 170 z92 1 0, .own 5 (List.map (eK .u8) z93)]], 0, []⟩ (by kernel_rfl) trivial ?_
        refine Tri.seq ?_
        rcases ite_some h106 with ⟨h94, h106⟩ | ⟨h94, h106⟩
        · refine Tri.cond_true (useb (decide_eq_true h94) (by kernel_rfl)) ?_
          refine Tri.skip ?_
          refine Tri.seq ?_
          refine Tri.block ?_
          obtain ⟨x95, h96, h106⟩ := bind_some' h106
          refine Tri.rn [3, 7, 19, 20, 21, 51, 52, 53] 3 [] [(0, .el (eSParam x95))] [_, _] ⟨69, [(3, o1 (.ref 1 0)), (7, o1 (.ref 2 0)), (19, o1 (.sl 6 (List.map eSItem a0.f1))), (20, oI (a0.f1.length : Int)), (21, oI z57), (51, o1 (.sl 2 (List.map eSParam x61.f5))), (52, oI (x61.f5.length : Int)), (53, oI z91)], [eSFace a0, [.opt 170 z92 1 0, .own 5 (List.map (eK .u8) z93)], eSParam x95], 0, []⟩ (by kernel_rfl) ⟨(at?_0 h96), (at?_map (f := eSParam) h96), trivial⟩ ?_
          obtain ⟨r97, h98, h106⟩ := bind_some' h106
          obtain ⟨r99, h100, h106⟩ := bind_some' h106
          obtain ⟨r101, h102, h106⟩ := bind_some' h106
          refine Tri.d1 hmix 6 [[], [0], [], [2], [2, 3], [2, 3, 4], [0, 1, 2, 3, 4, 5], [0, 1, 2, 3, 4, 5, 6], [0, 1, 2, 3, 4, 5, 6, 7]] [3, 19, 20, 21, 51, 52, 53] 2 [] [(4, .call (oI r97) [] false), (7, .call (oS r99) [] false), (8, .callB (tp [none, none] [cI r101.1, .sc .nilIface]) [] [1] none [] [[.opt 170 r101.2.1 0 0, .own 5 (List.map (eK .u8) r101.2.2)]])] [_, _, _, _, _] ⟨69, [(3, o1 (.ref 1 0)), (19, o1 (.sl 6 (List.map eSItem a0.f1))), (20, oI (a0.f1.length : Int)), (21, oI z57), (51, o1 (.sl 2 (List.map eSParam x61.f5))), (52, oI (x61.f5.length : Int)), (53, oI z91)], [eSFace a0, [.opt 170 r101.2.1 1 0, .own 5 (List.map (eK .u8) r101.2.2)]], 0, []⟩ (by kernel_rfl) ⟨(impl_truth.fn k x95.f1 r97 h98), (show (List.all [cI r97] PC.flatB) = true from rfl), (impl_big.fn k (w64 (x95.f0 + (w64 (8 * r97)))) 1 r99 h100), (show (List.all [cS r99] PC.flatB) = true from rfl), (strings_Builder__WriteString_1.fn k r99 z92 z93 r101 h102), trivial⟩ ?_
          refine Tri.r1 [3, 19, 20, 21, 51, 52, 53] 2 [] [] [] ⟨69, [(3, o1 (.ref 1 0)), (19, o1 (.sl 6 (List.map eSItem a0.f1))), (20, oI (a0.f1.length : Int)), (21, oI z57), (51, o1 (.sl 2 (List.map eSParam x61.f5))), (52, oI (x61.f5.length : Int)), (53, oI (w64 (z91 + 1)))], [eSFace a0, [.opt 170 r101.2.1 1 0, .own 5 (List.map (eK .u8) r101.2.2)]], 0, []⟩ (by kernel_rfl) trivial ?_
          exact IH103 _ (w64 (z91 + 1), r101.2.1, r101.2.2) (Nat.le_refl _) h106
        · refine Tri.cond_false (useb (decide_eq_false h94) (by kernel_rfl)) ?_
          refine Tri.fix [3, 19, 20, 21] 2 [] ⟨69, [(3, o1 (.ref 1 0)), (19, o1 (.sl 6 (List.map eSItem a0.f1))), (20, oI (a0.f1.length : Int)), (21, oI z57)], [eSFace a0, [.opt 170 z92 1 0, .own 5 (List.map (eK .u8) z93)]], 0, []⟩ (by kernel_rfl) ?_
          refine Tri.exit ?_
          repeat (with_reducible refine Ex.exit ?_)
          refine Bk.here ?_
          exact ⟨(z92, z93), (Option.some.inj h106).symm, rfl⟩
    · refine Tri.cond_false (useb (decide_eq_false h60) (by kernel_rfl)) ?_
      refine Tri.fix [3] 2 [] ⟨69, [(3, o1 (.ref 1 0))], [eSFace a0, [.opt 170 z58 1 0, .own 5 (List.map (eK .u8) z59)]], 0, []⟩ (by kernel_rfl) ?_
      refine Tri.exit ?_
      repeat (with_reducible refine Ex.exit ?_)
      refine Bk.here ?_
      exact ⟨(z58, z59), (Option.some.inj h111).symm, rfl⟩
/-! impl_InterfaceBytes: function 25 -/
def impl_InterfaceBytes.f (k : Nat) (a0 : SFace) : Option ((List Int) × Int) := (impl_InterfaceOK.f k a0).bind fun r1 => if r1 = true then ((impl_Interface__bytes.f k a0).bind fun r4 => if r4.size ≤ 9223372036854775807 then (some (bytesOf r4, 0)) else none) else (some (([] : List Int), 1))
set_option maxRecDepth 100000 in
theorem impl_InterfaceBytes.fn (k : Nat) (a0 : SFace) (r : ((List Int) × Int)) (H : impl_InterfaceBytes.f k a0 = some r) : Fn Tryz.prog 25 [ag (eSFace a0)] [] (tp [none, none] [.own 5 (List.map (eK .u8) r.1), cI r.2]) [] := by
  unfold impl_InterfaceBytes.f at H
  refine Fn.body (ts := [2, 3]) Tryz.func25 rfl rfl (by decide) (by decide) (Nat.le_of_ble_eq_true rfl) (Nat.le_refl _) ?_
  refine Tri.rn [1] 1 [] [] [] ⟨10, [(1, o1 (.ref 0 0))], [eSFace a0], 0, []⟩ (by kernel_rfl) trivial ?_
  refine Tri.seq ?_
  obtain ⟨r1, h2, H⟩ := bind_some' H
  refine Tri.rn [1, 6] 1 [] [(1, .call (oB r1) [] false)] [_, _] ⟨10, [(1, o1 (.ref 0 0)), (6, oB (!r1))], [eSFace a0], 0, []⟩ (by kernel_rfl) ⟨(impl_InterfaceOK.fn k a0 r1 h2), (show (List.all [cB r1] PC.flatB) = true from rfl), trivial⟩ ?_
  rcases iteb_some H with ⟨h3, H⟩ | ⟨h3, H⟩
  · refine Tri.cond_false (useb (nF h3) (by kernel_rfl)) ?_
    refine Tri.skip ?_
    obtain ⟨r4, h5, H⟩ := bind_some' H
    obtain ⟨h6, H⟩ := need_some H
    refine Tri.rn [2, 3] 0 [] [(1, .call (oS r4) [] false), (2, .nz []), (2, .ov [.own 5 (List.map (eK .u8) (bytesOf r4))])] [_, _, _, _] ⟨10, [(2, o1 (.own 5 (List.map (eK .u8) (bytesOf r4)))), (3, oI 0)], [], 0, []⟩ (by kernel_rfl) ⟨(impl_Interface__bytes.fn k a0 r4 h5), (show (List.all [cS r4] PC.flatB) = true from rfl), h6, (ovbytes (e := 5) (s := r4)), trivial⟩ ?_
    refine Tri.ret ?_
    obtain rfl := Option.some.inj H
    exact ⟨.inr rfl, rfl, rfl, Nat.le_refl _, rfl, by simp⟩
  · refine Tri.cond_true (useb (nT h3) (by kernel_rfl)) ?_
    refine Tri.rn [2, 3] 0 [] [] [] ⟨10, [(2, o1 .nl), (3, oI 1)], [], 0, []⟩ (by kernel_rfl) trivial ?_
    refine Tri.fix [2, 3] 0 [.own (.t 2 0) 5] ⟨10, [(2, o1 (.own 5 (List.map (eK .u8) ([] : List Int)))), (3, oI 1)], [], 0, []⟩ (by kernel_rfl) ?_
    refine Tri.ret ?_
    obtain rfl := Option.some.inj H
    exact ⟨.inr rfl, rfl, rfl, Nat.le_refl _, rfl, by simp⟩
/-! impl_printOf: function 59 -/
def impl_printOf.l1 : Nat → ByteArray → Int → Int → Option Int
  | 0, _, _, _ => none
  | k + 1, a0, z4, z5 => if z5 < ((bytesOf a0).length : Int) then ((at? (bytesOf a0) z5).bind fun x7 => impl_printOf.l1 k a0 (Int.tmod (w64 ((ixor .i64 z4 (w64 (x7))) * 16777619)) 4294967296) (w64 (z5 + 1))) else (some z4)
def impl_printOf.e2 (k : Nat) (a0 : ByteArray) : Option Int := impl_printOf.l1 k a0 2166136261 0
def impl_printOf.f (k : Nat) (a0 : ByteArray) : Option Int := (impl_printOf.e2 k a0).bind fun y10 => some y10
set_option maxRecDepth 100000 in
theorem impl_printOf.fn (k : Nat) (a0 : ByteArray) (r : Int) (H : impl_printOf.f k a0 = some r) : Fn Tryz.prog 59 [oS a0] [] (oI r) [] := by
  unfold impl_printOf.f at H
  refine Fn.body (ts := [2]) Tryz.func59 rfl rfl (by decide) (by decide) (Nat.le_of_ble_eq_true rfl) (Nat.le_refl _) ?_
  refine Tri.rn [0] 0 [] [] [] ⟨21, [(0, oS a0)], [], 0, []⟩ (by kernel_rfl) trivial ?_
  refine Tri.rn [0, 3] 0 [] [] [] ⟨21, [(0, oS a0), (3, oI 2166136261)], [], 0, []⟩ (by kernel_rfl) trivial ?_
  obtain ⟨v12, h11, H⟩ := bind_some' H
  refine Tri.join (α := Int) (fun w => v12 = w) (fun y10 => ⟨21, [(3, oI y10)], [], 0, []⟩) (fun y10 hw => ?_) ?_
  · rw [hw] at H; clear hw
    try dsimp only at H
    refine Tri.rn [2] 0 [] [] [] ⟨21, [(2, oI y10)], [], 0, []⟩ (by kernel_rfl) trivial ?_
    refine Tri.ret ?_
    obtain rfl := Option.some.inj H
    exact ⟨.inr rfl, rfl, rfl, Nat.le_refl _, rfl, by simp⟩
  · unfold impl_printOf.e2 at h11
    refine Tri.rn [3, 7, 8, 9] 0 [] [(2, .ov [.sc (.int .i64 ((bytesOf a0).length : Int))])] [_] ⟨21, [(3, oI 2166136261), (7, o1 (.sl 1 (List.map (eK .u8) (bytesOf a0)))), (8, oI ((bytesOf a0).length : Int)), (9, oI 0)], [], 0, []⟩ (by kernel_rfl) ⟨(ovlen (f := (eK .u8)) (l := bytesOf a0)), trivial⟩ ?_
    refine Tri.block ?_
    refine Tri.loop k (TriR.ind (α := (Int × Int)) (fun k x => impl_printOf.l1 k a0 x.1 x.2) (fun x => ⟨21, [(3, oI x.1), (7, o1 (.sl 1 (List.map (eK .u8) (bytesOf a0)))), (8, oI ((bytesOf a0).length : Int)), (9, oI x.2)], [], 0, []⟩) (fun _ => rfl) (fun k x h11 IH9 => ?_) k (2166136261, 0) h11)
    obtain ⟨z4, z5⟩ := x
    rw [impl_printOf.l1.eq_2] at h11
    refine Tri.rn [3, 7, 8, 9, 10] 0 [] [] [] ⟨21, [(3, oI z4), (7, o1 (.sl 1 (List.map (eK .u8) (bytesOf a0)))), (8, oI ((bytesOf a0).length : Int)), (9, oI z5), (10, oB (decide (z5 < ((bytesOf a0).length : Int))))], [], 0, []⟩ (by kernel_rfl) trivial ?_
    refine Tri.seq ?_
    rcases ite_some h11 with ⟨h6, h11⟩ | ⟨h6, h11⟩
    · refine Tri.cond_true (useb (decide_eq_true h6) (by kernel_rfl)) ?_
      refine Tri.skip ?_
      refine Tri.seq ?_
      refine Tri.block ?_
      obtain ⟨x7, h8, h11⟩ := bind_some' h11
      refine Tri.rn [3, 5, 7, 8, 9] 0 [] [(0, .el ((eK .u8) x7))] [_, _] ⟨21, [(3, oI z4), (5, o1 (cK .u8 x7)), (7, o1 (.sl 1 (List.map (eK .u8) (bytesOf a0)))), (8, oI ((bytesOf a0).length : Int)), (9, oI z5)], [], 0, []⟩ (by kernel_rfl) ⟨(at?_0 h8), (at?_map (f := (eK .u8)) h8), trivial⟩ ?_
      refine Tri.r1 [3, 7, 8, 9] 0 [] [] [_] ⟨21, [(3, oI (Int.tmod (w64 ((ixor .i64 z4 (w64 (x7))) * 16777619)) 4294967296)), (7, o1 (.sl 1 (List.map (eK .u8) (bytesOf a0)))), (8, oI ((bytesOf a0).length : Int)), (9, oI z5)], [], 0, []⟩ (by kernel_rfl) ⟨(show (4294967296 : Int) ≠ 0 by decide), trivial⟩ ?_
      refine Tri.r1 [3, 7, 8, 9] 0 [] [] [] ⟨21, [(3, oI (Int.tmod (w64 ((ixor .i64 z4 (w64 (x7))) * 16777619)) 4294967296)), (7, o1 (.sl 1 (List.map (eK .u8) (bytesOf a0)))), (8, oI ((bytesOf a0).length : Int)), (9, oI (w64 (z5 + 1)))], [], 0, []⟩ (by kernel_rfl) trivial ?_
      exact IH9 _ ((Int.tmod (w64 ((ixor .i64 z4 (w64 (x7))) * 16777619)) 4294967296), w64 (z5 + 1)) (Nat.le_refl _) h11
    · refine Tri.cond_false (useb (decide_eq_false h6) (by kernel_rfl)) ?_
      refine Tri.fix [3] 0 [] ⟨21, [(3, oI z4)], [], 0, []⟩ (by kernel_rfl) ?_
      refine Tri.exit ?_
      repeat (with_reducible refine Ex.exit ?_)
      refine Bk.here ?_
      exact ⟨z4, (Option.some.inj h11).symm, rfl⟩
/-! impl_PrintOf: function 15 -/
def impl_PrintOf.f (k : Nat) (a0 : SFace) : Option (Int × Int) := (impl_InterfaceOK.f k a0).bind fun r1 => if r1 = true then ((impl_Interface__bytes.f k a0).bind fun r4 => (impl_printOf.f k r4).bind fun r6 => some (r6, 0)) else (some (0, 1))
set_option maxRecDepth 100000 in
theorem impl_PrintOf.fn (k : Nat) (a0 : SFace) (r : (Int × Int)) (H : impl_PrintOf.f k a0 = some r) : Fn Tryz.prog 15 [ag (eSFace a0)] [] (tp [none, none] [cI r.1, cI r.2]) [] := by
  unfold impl_PrintOf.f at H
  refine Fn.body (ts := [2, 3]) Tryz.func15 rfl rfl (by decide) (by decide) (Nat.le_of_ble_eq_true rfl) (Nat.le_refl _) ?_
  refine Tri.rn [1] 1 [] [] [] ⟨10, [(1, o1 (.ref 0 0))], [eSFace a0], 0, []⟩ (by kernel_rfl) trivial ?_
  refine Tri.seq ?_
  obtain ⟨r1, h2, H⟩ := bind_some' H
  refine Tri.rn [1, 6] 1 [] [(1, .call (oB r1) [] false)] [_, _] ⟨10, [(1, o1 (.ref 0 0)), (6, oB (!r1))], [eSFace a0], 0, []⟩ (by kernel_rfl) ⟨(impl_InterfaceOK.fn k a0 r1 h2), (show (List.all [cB r1] PC.flatB) = true from rfl), trivial⟩ ?_
  rcases iteb_some H with ⟨h3, H⟩ | ⟨h3, H⟩
  · refine Tri.cond_false (useb (nF h3) (by kernel_rfl)) ?_
    refine Tri.skip ?_
    obtain ⟨r4, h5, H⟩ := bind_some' H
    obtain ⟨r6, h7, H⟩ := bind_some' H
    refine Tri.rn [2, 3] 0 [] [(1, .call (oS r4) [] false), (2, .call (oI r6) [] false)] [_, _, _, _] ⟨10, [(2, oI r6), (3, oI 0)], [], 0, []⟩ (by kernel_rfl) ⟨(impl_Interface__bytes.fn k a0 r4 h5), (show (List.all [cS r4] PC.flatB) = true from rfl), (impl_printOf.fn k r4 r6 h7), (show (List.all [cI r6] PC.flatB) = true from rfl), trivial⟩ ?_
    refine Tri.ret ?_
    obtain rfl := Option.some.inj H
    exact ⟨.inr rfl, rfl, rfl, Nat.le_refl _, rfl, by simp⟩
  · refine Tri.cond_true (useb (nT h3) (by kernel_rfl)) ?_
    refine Tri.rn [2, 3] 0 [] [] [] ⟨10, [(2, oI 0), (3, oI 1)], [], 0, []⟩ (by kernel_rfl) trivial ?_
    refine Tri.ret ?_
    obtain rfl := Option.some.inj H
    exact ⟨.inr rfl, rfl, rfl, Nat.le_refl _, rfl, by simp⟩
/-! spec_l00Letter: function 221 -/
def spec_l00Letter.e1 (k : Nat) (a0 : Int) : Option Bool := if (97 : Int) ≤ a0 then (if a0 ≤ 122 then (some true) else (if (65 : Int) ≤ a0 then (if a0 ≤ 90 then (some true) else (some (decide (a0 = 95)))) else (some (decide (a0 = 95))))) else (if (65 : Int) ≤ a0 then (if a0 ≤ 90 then (some true) else (some (decide (a0 = 95)))) else (some (decide (a0 = 95))))
def spec_l00Letter.f (k : Nat) (a0 : Int) : Option Bool := (spec_l00Letter.e1 k a0).bind fun y7 => some y7
set_option maxRecDepth 100000 in
theorem spec_l00Letter.fn (k : Nat) (a0 : Int) (r : Bool) (H : spec_l00Letter.f k a0 = some r) : Fn Tryz.prog 221 [o1 (cK .u8 a0)] [] (oB r) [] := by
  unfold spec_l00Letter.f at H
  refine Fn.body (ts := [2]) Tryz.func221 rfl rfl (by decide) (by decide) (Nat.le_of_ble_eq_true rfl) (Nat.le_refl _) ?_
  refine Tri.rn [0] 0 [] [] [] ⟨21, [(0, o1 (cK .u8 a0))], [], 0, []⟩ (by kernel_rfl) trivial ?_
  obtain ⟨v9, h8, H⟩ := bind_some' H
  refine Tri.join (α := Bool) (fun w => v9 = w) (fun y7 => ⟨21, [(2, oB y7)], [], 0, []⟩) (fun y7 hw => ?_) ?_
  · rw [hw] at H; clear hw
    try dsimp only at H
    refine Tri.ret ?_
    obtain rfl := Option.some.inj H
    exact ⟨.inr rfl, rfl, rfl, Nat.le_refl _, rfl, by simp⟩
  · unfold spec_l00Letter.e1 at h8
    rcases ite_some h8 with ⟨h1, h8⟩ | ⟨h1, h8⟩
    · rcases ite_some h8 with ⟨h2, h8⟩ | ⟨h2, h8⟩
      · refine Tri.r1 [2] 0 [] [(1, .ov [.sc (.bool true)]), (4, .ov [.sc (.bool true)])] [_, _] ⟨21, [(2, oB true)], [], 0, []⟩ (by kernel_rfl) ⟨(ovb (decide_eq_true h1)), (ovb (decide_eq_true h2)), trivial⟩ ?_
        exact ⟨true, (Option.some.inj h8).symm, rfl⟩
      · rcases ite_some h8 with ⟨h3, h8⟩ | ⟨h3, h8⟩
        · rcases ite_some h8 with ⟨h4, h8⟩ | ⟨h4, h8⟩
          · refine Tri.r1 [2] 0 [] [(1, .ov [.sc (.bool true)]), (4, .ov [.sc (.bool false)]), (8, .ov [.sc (.bool true)]), (11, .ov [.sc (.bool true)])] [_, _, _, _] ⟨21, [(2, oB true)], [], 0, []⟩ (by kernel_rfl) ⟨(ovb (decide_eq_true h1)), (ovb (decide_eq_false h2)), (ovb (decide_eq_true h3)), (ovb (decide_eq_true h4)), trivial⟩ ?_
            exact ⟨true, (Option.some.inj h8).symm, rfl⟩
          · refine Tri.r1 [2] 0 [] [(1, .ov [.sc (.bool true)]), (4, .ov [.sc (.bool false)]), (8, .ov [.sc (.bool true)]), (11, .ov [.sc (.bool false)])] [_, _, _, _] ⟨21, [(2, oB (decide (a0 = 95)))], [], 0, []⟩ (by kernel_rfl) ⟨(ovb (decide_eq_true h1)), (ovb (decide_eq_false h2)), (ovb (decide_eq_true h3)), (ovb (decide_eq_false h4)), trivial⟩ ?_
            exact ⟨(decide (a0 = 95)), (Option.some.inj h8).symm, rfl⟩
        · refine Tri.r1 [2] 0 [] [(1, .ov [.sc (.bool true)]), (4, .ov [.sc (.bool false)]), (8, .ov [.sc (.bool false)])] [_, _, _] ⟨21, [(2, oB (decide (a0 = 95)))], [], 0, []⟩ (by kernel_rfl) ⟨(ovb (decide_eq_true h1)), (ovb (decide_eq_false h2)), (ovb (decide_eq_false h3)), trivial⟩ ?_
          exact ⟨(decide (a0 = 95)), (Option.some.inj h8).symm, rfl⟩
    · rcases ite_some h8 with ⟨h5, h8⟩ | ⟨h5, h8⟩
      · rcases ite_some h8 with ⟨h6, h8⟩ | ⟨h6, h8⟩
        · refine Tri.r1 [2] 0 [] [(1, .ov [.sc (.bool false)]), (8, .ov [.sc (.bool true)]), (11, .ov [.sc (.bool true)])] [_, _, _] ⟨21, [(2, oB true)], [], 0, []⟩ (by kernel_rfl) ⟨(ovb (decide_eq_false h1)), (ovb (decide_eq_true h5)), (ovb (decide_eq_true h6)), trivial⟩ ?_
          exact ⟨true, (Option.some.inj h8).symm, rfl⟩
        · refine Tri.r1 [2] 0 [] [(1, .ov [.sc (.bool false)]), (8, .ov [.sc (.bool true)]), (11, .ov [.sc (.bool false)])] [_, _, _] ⟨21, [(2, oB (decide (a0 = 95)))], [], 0, []⟩ (by kernel_rfl) ⟨(ovb (decide_eq_false h1)), (ovb (decide_eq_true h5)), (ovb (decide_eq_false h6)), trivial⟩ ?_
          exact ⟨(decide (a0 = 95)), (Option.some.inj h8).symm, rfl⟩
      · refine Tri.r1 [2] 0 [] [(1, .ov [.sc (.bool false)]), (8, .ov [.sc (.bool false)])] [_, _] ⟨21, [(2, oB (decide (a0 = 95)))], [], 0, []⟩ (by kernel_rfl) ⟨(ovb (decide_eq_false h1)), (ovb (decide_eq_false h5)), trivial⟩ ?_
        exact ⟨(decide (a0 = 95)), (Option.some.inj h8).symm, rfl⟩
/-! spec_l00Digit: function 222 -/
def spec_l00Digit.e1 (k : Nat) (a0 : Int) : Option Bool := if (48 : Int) ≤ a0 then (some (decide (a0 ≤ 57))) else (some false)
def spec_l00Digit.f (k : Nat) (a0 : Int) : Option Bool := (spec_l00Digit.e1 k a0).bind fun y2 => some y2
set_option maxRecDepth 100000 in
theorem spec_l00Digit.fn (k : Nat) (a0 : Int) (r : Bool) (H : spec_l00Digit.f k a0 = some r) : Fn Tryz.prog 222 [o1 (cK .u8 a0)] [] (oB r) [] := by
  unfold spec_l00Digit.f at H
  refine Fn.body (ts := [2]) Tryz.func222 rfl rfl (by decide) (by decide) (Nat.le_of_ble_eq_true rfl) (Nat.le_refl _) ?_
  refine Tri.rn [0] 0 [] [] [] ⟨9, [(0, o1 (cK .u8 a0))], [], 0, []⟩ (by kernel_rfl) trivial ?_
  obtain ⟨v4, h3, H⟩ := bind_some' H
  refine Tri.join (α := Bool) (fun w => v4 = w) (fun y2 => ⟨9, [(2, oB y2)], [], 0, []⟩) (fun y2 hw => ?_) ?_
  · rw [hw] at H; clear hw
    try dsimp only at H
    refine Tri.ret ?_
    obtain rfl := Option.some.inj H
    exact ⟨.inr rfl, rfl, rfl, Nat.le_refl _, rfl, by simp⟩
  · unfold spec_l00Digit.e1 at h3
    rcases ite_some h3 with ⟨h1, h3⟩ | ⟨h1, h3⟩
    · refine Tri.r1 [2] 0 [] [(1, .ov [.sc (.bool true)])] [_] ⟨9, [(2, oB (decide (a0 ≤ 57)))], [], 0, []⟩ (by kernel_rfl) ⟨(ovb (decide_eq_true h1)), trivial⟩ ?_
      exact ⟨(decide (a0 ≤ 57)), (Option.some.inj h3).symm, rfl⟩
    · refine Tri.r1 [2] 0 [] [(1, .ov [.sc (.bool false)])] [_] ⟨9, [(2, oB false)], [], 0, []⟩ (by kernel_rfl) ⟨(ovb (decide_eq_false h1)), trivial⟩ ?_
      exact ⟨false, (Option.some.inj h3).symm, rfl⟩
/-! spec_l00Word: function 189 -/
def spec_l00Word.e1 (k : Nat) (a0 : ByteArray) : Option Bool := if (a0.size : Int) < 1 then (some true) else (if (40 : Int) < (a0.size : Int) then (some true) else (if (0 : Int) ≤ 0 then (if 0 < (a0.size : Int) then ((spec_l00Letter.f k (byteAt a0 0)).bind fun r5 => some (!r5)) else none) else none))
def spec_l00Word.e2 (k : Nat) (a0 : ByteArray) (z23 : Int) : Option Bool := if (0 : Int) ≤ z23 then ((spec_l00Letter.f k (byteAt a0 z23)).bind fun r26 => if r26 = true then (some false) else ((spec_l00Digit.f k (byteAt a0 z23)).bind fun r29 => some (!r29))) else none
def spec_l00Word.l3 : Nat → ByteArray → Int → Option (Bool ⊕ Unit)
  | 0, _, _ => none
  | k + 1, a0, z23 => if z23 < (a0.size : Int) then ((spec_l00Word.e2 k a0 z23).bind fun y31 => if y31 = true then (some (.inl false)) else (spec_l00Word.l3 k a0 (w64 (z23 + 1)))) else (some (.inr ()))
def spec_l00Word.e4 (k : Nat) (a0 : ByteArray) : Option (Bool ⊕ Unit) := spec_l00Word.l3 k a0 1
def spec_l00Word.f (k : Nat) (a0 : ByteArray) : Option Bool := (spec_l00Word.e1 k a0).bind fun y7 => if y7 = true then (some false) else ((spec_l00Word.e4 k a0).bind fun v => match v with | .inl r => some r | .inr _ => some true)
set_option maxRecDepth 100000 in
theorem spec_l00Word.fn (k : Nat) (a0 : ByteArray) (r : Bool) (H : spec_l00Word.f k a0 = some r) : Fn Tryz.prog 189 [oS a0] [] (oB r) [] := by
  unfold spec_l00Word.f at H
  refine Fn.body (ts := [2]) Tryz.func189 rfl rfl (by decide) (by decide) (Nat.le_of_ble_eq_true rfl) (Nat.le_refl _) ?_
  refine Tri.rn [0] 0 [] [] [] ⟨36, [(0, oS a0)], [], 0, []⟩ (by kernel_rfl) trivial ?_
  refine Tri.seq ?_
  obtain ⟨v9, h8, H⟩ := bind_some' H
  refine Tri.join (α := Bool) (fun w => v9 = w) (fun y7 => ⟨36, [(0, oS a0), (17, oB y7)], [], 0, []⟩) (fun y7 hw => ?_) ?_
  · rw [hw] at H; clear hw
    try dsimp only at H
    rcases iteb_some H with ⟨h10, H⟩ | ⟨h10, H⟩
    · refine Tri.cond_true (useb h10 (by kernel_rfl)) ?_
      refine Tri.rn [2] 0 [] [] [] ⟨36, [(2, oB false)], [], 0, []⟩ (by kernel_rfl) trivial ?_
      refine Tri.ret ?_
      obtain rfl := Option.some.inj H
      exact ⟨.inr rfl, rfl, rfl, Nat.le_refl _, rfl, by simp⟩
    · refine Tri.cond_false (useb h10 (by kernel_rfl)) ?_
      refine Tri.skip ?_
      obtain ⟨v37, h36, H⟩ := bind_some' H
      refine Tri.join (α := Unit) (fun w => v37 = .inr w) (fun _ => ⟨36, [], [], 0, []⟩) (fun w hw => ?_) ?_
      · rw [hw] at H; clear hw
        try dsimp only at H
        refine Tri.rn [2] 0 [] [] [] ⟨36, [(2, oB true)], [], 0, []⟩ (by kernel_rfl) trivial ?_
        refine Tri.ret ?_
        obtain rfl := Option.some.inj H
        exact ⟨.inr rfl, rfl, rfl, Nat.le_refl _, rfl, by simp⟩
      · unfold spec_l00Word.e4 at h36
        refine Tri.rn [0, 3] 0 [] [] [] ⟨36, [(0, oS a0), (3, oI 1)], [], 0, []⟩ (by kernel_rfl) trivial ?_
        refine Tri.block ?_
        refine Tri.loop k (TriR.ind (α := Int) (fun k x => spec_l00Word.l3 k a0 x) (fun x => ⟨36, [(0, oS a0), (3, oI x)], [], 0, []⟩) (fun _ => rfl) (fun k z23 h36 IH35 => ?_) k 1 h36)
        rw [spec_l00Word.l3.eq_2] at h36
        refine Tri.seq ?_
        refine Tri.rn [0, 3, 21] 0 [] [] [] ⟨36, [(0, oS a0), (3, oI z23), (21, oB (decide (z23 < (a0.size : Int))))], [], 0, []⟩ (by kernel_rfl) trivial ?_
        rcases ite_some h36 with ⟨h24, h36⟩ | ⟨h24, h36⟩
        · refine Tri.cond_true (useb (decide_eq_true h24) (by kernel_rfl)) ?_
          refine Tri.skip ?_
          refine Tri.seq ?_
          refine Tri.block ?_
          obtain ⟨v33, h32, h36⟩ := bind_some' h36
          refine Tri.join (α := Bool) (fun w => v33 = w) (fun y31 => ⟨36, [(0, oS a0), (3, oI z23), (35, oB y31)], [], 0, []⟩) (fun y31 hw => ?_) ?_
          · rw [hw] at h36; clear hw
            try dsimp only at h36
            rcases iteb_some h36 with ⟨h34, h36⟩ | ⟨h34, h36⟩
            · refine Tri.cond_true (useb h34 (by kernel_rfl)) ?_
              refine Tri.rn [2] 0 [] [] [] ⟨36, [(2, oB false)], [], 0, []⟩ (by kernel_rfl) trivial ?_
              refine Tri.ret ?_
              obtain rfl := Option.some.inj h36
              try dsimp only at H
              obtain rfl := Option.some.inj H
              exact ⟨.inr rfl, rfl, rfl, Nat.le_refl _, rfl, by simp⟩
            · refine Tri.cond_false (useb h34 (by kernel_rfl)) ?_
              refine Tri.skip ?_
              refine Tri.r1 [0, 3] 0 [] [] [] ⟨36, [(0, oS a0), (3, oI (w64 (z23 + 1)))], [], 0, []⟩ (by kernel_rfl) trivial ?_
              exact IH35 _ (w64 (z23 + 1)) (Nat.le_refl _) h36
          · unfold spec_l00Word.e2 at h32
            obtain ⟨h25, h32⟩ := need_some h32
            obtain ⟨r26, h27, h32⟩ := bind_some' h32
            rcases iteb_some h32 with ⟨h28, h32⟩ | ⟨h28, h32⟩
            · refine Tri.r1 [0, 3, 35] 0 [] [(3, .call (oB r26) [] false), (3, .ov [.sc (.bool true)])] [_, _, _, _, _] ⟨36, [(0, oS a0), (3, oI z23), (35, oB false)], [], 0, []⟩ (by kernel_rfl) ⟨h25, h24, (spec_l00Letter.fn k (byteAt a0 z23) r26 h27), (show (List.all [cB r26] PC.flatB) = true from rfl), (ovb h28), trivial⟩ ?_
              exact ⟨false, (Option.some.inj h32).symm, rfl⟩
            · obtain ⟨r29, h30, h32⟩ := bind_some' h32
              refine Tri.r1 [0, 3, 35] 0 [] [(3, .call (oB r26) [] false), (3, .ov [.sc (.bool false)]), (9, .call (oB r29) [] false)] [_, _, _, _, _, _, _, _, _] ⟨36, [(0, oS a0), (3, oI z23), (35, oB (!r29))], [], 0, []⟩ (by kernel_rfl) ⟨h25, h24, (spec_l00Letter.fn k (byteAt a0 z23) r26 h27), (show (List.all [cB r26] PC.flatB) = true from rfl), (ovb h28), h25, h24, (spec_l00Digit.fn k (byteAt a0 z23) r29 h30), (show (List.all [cB r29] PC.flatB) = true from rfl), trivial⟩ ?_
              exact ⟨(!r29), (Option.some.inj h32).symm, rfl⟩
        · refine Tri.cond_false (useb (decide_eq_false h24) (by kernel_rfl)) ?_
          refine Tri.fix [] 0 [] ⟨36, [], [], 0, []⟩ (by kernel_rfl) ?_
          refine Tri.exit ?_
          repeat (with_reducible refine Ex.exit ?_)
          refine Bk.here ?_
          exact ⟨(), (Option.some.inj h36).symm, rfl⟩
  · unfold spec_l00Word.e1 at h8
    rcases ite_some h8 with ⟨h1, h8⟩ | ⟨h1, h8⟩
    · refine Tri.r1 [0, 17] 0 [] [(2, .ov [.sc (.bool true)])] [_] ⟨36, [(0, oS a0), (17, oB true)], [], 0, []⟩ (by kernel_rfl) ⟨(ovb (decide_eq_true h1)), trivial⟩ ?_
      exact ⟨true, (Option.some.inj h8).symm, rfl⟩
    · rcases ite_some h8 with ⟨h2, h8⟩ | ⟨h2, h8⟩
      · refine Tri.r1 [0, 17] 0 [] [(2, .ov [.sc (.bool false)]), (6, .ov [.sc (.bool true)])] [_, _] ⟨36, [(0, oS a0), (17, oB true)], [], 0, []⟩ (by kernel_rfl) ⟨(ovb (decide_eq_false h1)), (ovb (decide_eq_true h2)), trivial⟩ ?_
        exact ⟨true, (Option.some.inj h8).symm, rfl⟩
      · obtain ⟨h3, h8⟩ := need_some h8
        obtain ⟨h4, h8⟩ := need_some h8
        obtain ⟨r5, h6, h8⟩ := bind_some' h8
        refine Tri.r1 [0, 17] 0 [] [(2, .ov [.sc (.bool false)]), (6, .ov [.sc (.bool false)]), (11, .call (oB r5) [] false)] [_, _, _, _, _, _] ⟨36, [(0, oS a0), (17, oB (!r5))], [], 0, []⟩ (by kernel_rfl) ⟨(ovb (decide_eq_false h1)), (ovb (decide_eq_false h2)), h3, h4, (spec_l00Letter.fn k (byteAt a0 0) r5 h6), (show (List.all [cB r5] PC.flatB) = true from rfl), trivial⟩ ?_
        exact ⟨(!r5), (Option.some.inj h8).symm, rfl⟩
/-! spec_NameOK: function 144 -/
def spec_NameOK.f (k : Nat) (a0 : ByteArray) : Option Bool := (spec_l00Word.f k a0).bind fun r1 => some r1
set_option maxRecDepth 100000 in
theorem spec_NameOK.fn (k : Nat) (a0 : ByteArray) (r : Bool) (H : spec_NameOK.f k a0 = some r) : Fn Tryz.prog 144 [oS a0] [] (oB r) [] := by
  unfold spec_NameOK.f at H
  refine Fn.body (ts := [2]) Tryz.func144 rfl rfl (by decide) (by decide) (Nat.le_of_ble_eq_true rfl) (Nat.le_refl _) ?_
  refine Tri.rn [0] 0 [] [] [] ⟨5, [(0, oS a0)], [], 0, []⟩ (by kernel_rfl) trivial ?_
  obtain ⟨r1, h2, H⟩ := bind_some' H
  refine Tri.rn [2] 0 [] [(1, .call (oB r1) [] false)] [_, _] ⟨5, [(2, oB r1)], [], 0, []⟩ (by kernel_rfl) ⟨(spec_l00Word.fn k a0 r1 h2), (show (List.all [cB r1] PC.flatB) = true from rfl), trivial⟩ ?_
  refine Tri.ret ?_
  obtain rfl := Option.some.inj H
  exact ⟨.inr rfl, rfl, rfl, Nat.le_refl _, rfl, by simp⟩
/-! spec_l01Keys: function 190 -/
def spec_l01Keys.f (k : Nat) : Option (List ByteArray) := some ([(⟨#[77, 79, 68, 85, 76, 69]⟩ : ByteArray), (⟨#[73, 77, 80, 79, 82, 84]⟩ : ByteArray), (⟨#[67, 79, 78, 83, 84]⟩ : ByteArray), (⟨#[86, 65, 82]⟩ : ByteArray), (⟨#[80, 82, 79, 67, 69, 68, 85, 82, 69]⟩ : ByteArray), (⟨#[66, 69, 71, 73, 78]⟩ : ByteArray), (⟨#[69, 78, 68]⟩ : ByteArray), (⟨#[73, 70]⟩ : ByteArray), (⟨#[84, 72, 69, 78]⟩ : ByteArray), (⟨#[69, 76, 83, 73, 70]⟩ : ByteArray), (⟨#[69, 76, 83, 69]⟩ : ByteArray), (⟨#[87, 72, 73, 76, 69]⟩ : ByteArray), (⟨#[68, 79]⟩ : ByteArray), (⟨#[82, 69, 84, 85, 82, 78]⟩ : ByteArray), (⟨#[79, 82]⟩ : ByteArray), (⟨#[68, 73, 86]⟩ : ByteArray), (⟨#[77, 79, 68]⟩ : ByteArray), (⟨#[84, 82, 85, 69]⟩ : ByteArray), (⟨#[70, 65, 76, 83, 69]⟩ : ByteArray), (⟨#[65, 82, 82, 65, 89]⟩ : ByteArray), (⟨#[79, 70]⟩ : ByteArray), (⟨#[73, 78, 84, 69, 71, 69, 82]⟩ : ByteArray), (⟨#[66, 79, 79, 76, 69, 65, 78]⟩ : ByteArray), (⟨#[67, 72, 65, 82]⟩ : ByteArray), (⟨#[87, 82, 73, 84, 69]⟩ : ByteArray), (⟨#[82, 69, 65, 68]⟩ : ByteArray), (⟨#[79, 82, 68]⟩ : ByteArray), (⟨#[67, 72, 82]⟩ : ByteArray), (⟨#[76, 69, 78]⟩ : ByteArray)] : List ByteArray)
set_option maxRecDepth 100000 in
theorem spec_l01Keys.fn (k : Nat) (r : (List ByteArray)) (H : spec_l01Keys.f k  = some r) : Fn Tryz.prog 190 [] [] (o1 (.own 9 (List.map eS r))) [] := by
  unfold spec_l01Keys.f at H
  refine Fn.body (ts := [0]) Tryz.func190 rfl rfl (by decide) (by decide) (Nat.le_of_ble_eq_true rfl) (Nat.le_refl _) ?_
  refine Tri.rn [] 0 [] [] [] ⟨2, [], [], 0, []⟩ (by kernel_rfl) trivial ?_
  refine Tri.rn [0] 0 [] [] [] ⟨2, [(0, o1 (.own 9 (List.map eS ([(⟨#[77, 79, 68, 85, 76, 69]⟩ : ByteArray), (⟨#[73, 77, 80, 79, 82, 84]⟩ : ByteArray), (⟨#[67, 79, 78, 83, 84]⟩ : ByteArray), (⟨#[86, 65, 82]⟩ : ByteArray), (⟨#[80, 82, 79, 67, 69, 68, 85, 82, 69]⟩ : ByteArray), (⟨#[66, 69, 71, 73, 78]⟩ : ByteArray), (⟨#[69, 78, 68]⟩ : ByteArray), (⟨#[73, 70]⟩ : ByteArray), (⟨#[84, 72, 69, 78]⟩ : ByteArray), (⟨#[69, 76, 83, 73, 70]⟩ : ByteArray), (⟨#[69, 76, 83, 69]⟩ : ByteArray), (⟨#[87, 72, 73, 76, 69]⟩ : ByteArray), (⟨#[68, 79]⟩ : ByteArray), (⟨#[82, 69, 84, 85, 82, 78]⟩ : ByteArray), (⟨#[79, 82]⟩ : ByteArray), (⟨#[68, 73, 86]⟩ : ByteArray), (⟨#[77, 79, 68]⟩ : ByteArray), (⟨#[84, 82, 85, 69]⟩ : ByteArray), (⟨#[70, 65, 76, 83, 69]⟩ : ByteArray), (⟨#[65, 82, 82, 65, 89]⟩ : ByteArray), (⟨#[79, 70]⟩ : ByteArray), (⟨#[73, 78, 84, 69, 71, 69, 82]⟩ : ByteArray), (⟨#[66, 79, 79, 76, 69, 65, 78]⟩ : ByteArray), (⟨#[67, 72, 65, 82]⟩ : ByteArray), (⟨#[87, 82, 73, 84, 69]⟩ : ByteArray), (⟨#[82, 69, 65, 68]⟩ : ByteArray), (⟨#[79, 82, 68]⟩ : ByteArray), (⟨#[67, 72, 82]⟩ : ByteArray), (⟨#[76, 69, 78]⟩ : ByteArray)] : List ByteArray))))], [], 0, []⟩ (by kernel_rfl) trivial ?_
  refine Tri.ret ?_
  obtain rfl := Option.some.inj H
  exact ⟨.inr rfl, rfl, rfl, Nat.le_refl _, rfl, by simp⟩
/-! spec_l01Place: function 87 -/
def spec_l01Place.l1 : Nat → (List ByteArray) → ByteArray → Int → Option (Int ⊕ Unit)
  | 0, _, _, _ => none
  | k + 1, a0, a1, z5 => if z5 < (a0.length : Int) then ((at? a0 z5).bind fun x7 => if x7 = a1 then (some (.inl z5)) else (spec_l01Place.l1 k a0 a1 (w64 (z5 + 1)))) else (some (.inr ()))
def spec_l01Place.e2 (k : Nat) (a0 : (List ByteArray)) (a1 : ByteArray) : Option (Int ⊕ Unit) := spec_l01Place.l1 k a0 a1 0
def spec_l01Place.f (k : Nat) (a0 : (List ByteArray)) (a1 : ByteArray) : Option Int := (spec_l01Place.e2 k a0 a1).bind fun v => match v with | .inl r => some r | .inr _ => some (-1)
set_option maxRecDepth 100000 in
theorem spec_l01Place.fn (k : Nat) (a0 : (List ByteArray)) (a1 : ByteArray) (r : Int) (H : spec_l01Place.f k a0 a1 = some r) : Fn Tryz.prog 87 [o1 (.sl 1 (List.map eS a0)), oS a1] [] (oI r) [] := by
  unfold spec_l01Place.f at H
  refine Fn.body (ts := [4]) Tryz.func87 rfl rfl (by decide) (by decide) (Nat.le_of_ble_eq_true rfl) (Nat.le_refl _) ?_
  refine Tri.rn [0, 1] 0 [] [] [] ⟨19, [(0, o1 (.sl 1 (List.map eS a0))), (1, oS a1)], [], 0, []⟩ (by kernel_rfl) trivial ?_
  obtain ⟨v12, h11, H⟩ := bind_some' H
  refine Tri.join (α := Unit) (fun w => v12 = .inr w) (fun _ => ⟨19, [], [], 0, []⟩) (fun w hw => ?_) ?_
  · rw [hw] at H; clear hw
    try dsimp only at H
    refine Tri.rn [4] 0 [] [] [] ⟨19, [(4, oI (-1))], [], 0, []⟩ (by kernel_rfl) trivial ?_
    refine Tri.ret ?_
    obtain rfl := Option.some.inj H
    exact ⟨.inr rfl, rfl, rfl, Nat.le_refl _, rfl, by simp⟩
  · unfold spec_l01Place.e2 at h11
    refine Tri.rn [0, 1, 5] 0 [] [] [] ⟨19, [(0, o1 (.sl 1 (List.map eS a0))), (1, oS a1), (5, oI 0)], [], 0, []⟩ (by kernel_rfl) trivial ?_
    refine Tri.block ?_
    refine Tri.loop k (TriR.ind (α := Int) (fun k x => spec_l01Place.l1 k a0 a1 x) (fun x => ⟨19, [(0, o1 (.sl 1 (List.map eS a0))), (1, oS a1), (5, oI x)], [], 0, []⟩) (fun _ => rfl) (fun k z5 h11 IH10 => ?_) k 0 h11)
    rw [spec_l01Place.l1.eq_2] at h11
    refine Tri.seq ?_
    refine Tri.rn [0, 1, 5, 9] 0 [] [(2, .ov [.sc (.int .i64 (a0.length : Int))])] [_] ⟨19, [(0, o1 (.sl 1 (List.map eS a0))), (1, oS a1), (5, oI z5), (9, oB (decide (z5 < (a0.length : Int))))], [], 0, []⟩ (by kernel_rfl) ⟨(ovlen (f := eS) (l := a0)), trivial⟩ ?_
    rcases ite_some h11 with ⟨h6, h11⟩ | ⟨h6, h11⟩
    · refine Tri.cond_true (useb (decide_eq_true h6) (by kernel_rfl)) ?_
      refine Tri.skip ?_
      refine Tri.seq ?_
      refine Tri.block ?_
      obtain ⟨x7, h8, h11⟩ := bind_some' h11
      refine Tri.rn [0, 1, 5, 17] 0 [] [(2, .el (eS x7))] [_, _] ⟨19, [(0, o1 (.sl 1 (List.map eS a0))), (1, oS a1), (5, oI z5), (17, oB (decide (x7 = a1)))], [], 0, []⟩ (by kernel_rfl) ⟨(at?_0 h8), (at?_map (f := eS) h8), trivial⟩ ?_
      rcases ite_some h11 with ⟨h9, h11⟩ | ⟨h9, h11⟩
      · refine Tri.cond_true (useb (decide_eq_true h9) (by kernel_rfl)) ?_
        refine Tri.rn [4] 0 [] [] [] ⟨19, [(4, oI z5)], [], 0, []⟩ (by kernel_rfl) trivial ?_
        refine Tri.ret ?_
        obtain rfl := Option.some.inj h11
        try dsimp only at H
        obtain rfl := Option.some.inj H
        exact ⟨.inr rfl, rfl, rfl, Nat.le_refl _, rfl, by simp⟩
      · refine Tri.cond_false (useb (decide_eq_false h9) (by kernel_rfl)) ?_
        refine Tri.skip ?_
        refine Tri.r1 [0, 1, 5] 0 [] [] [] ⟨19, [(0, o1 (.sl 1 (List.map eS a0))), (1, oS a1), (5, oI (w64 (z5 + 1)))], [], 0, []⟩ (by kernel_rfl) trivial ?_
        exact IH10 _ (w64 (z5 + 1)) (Nat.le_refl _) h11
    · refine Tri.cond_false (useb (decide_eq_false h6) (by kernel_rfl)) ?_
      refine Tri.fix [] 0 [] ⟨19, [], [], 0, []⟩ (by kernel_rfl) ?_
      refine Tri.exit ?_
      repeat (with_reducible refine Ex.exit ?_)
      refine Bk.here ?_
      exact ⟨(), (Option.some.inj h11).symm, rfl⟩
/-! spec_IsKey: function 145 -/
def spec_IsKey.f (k : Nat) (a0 : ByteArray) : Option Bool := (spec_l01Keys.f k).bind fun r1 => (spec_l01Place.f k r1 a0).bind fun r3 => some (decide ((0 : Int) ≤ r3))
set_option maxRecDepth 100000 in
theorem spec_IsKey.fn (k : Nat) (a0 : ByteArray) (r : Bool) (H : spec_IsKey.f k a0 = some r) : Fn Tryz.prog 145 [oS a0] [] (oB r) [] := by
  unfold spec_IsKey.f at H
  refine Fn.body (ts := [2]) Tryz.func145 rfl rfl (by decide) (by decide) (Nat.le_of_ble_eq_true rfl) (Nat.le_refl _) ?_
  refine Tri.rn [0] 0 [] [] [] ⟨7, [(0, oS a0)], [], 0, []⟩ (by kernel_rfl) trivial ?_
  obtain ⟨r1, h2, H⟩ := bind_some' H
  obtain ⟨r3, h4, H⟩ := bind_some' H
  refine Tri.rn [2] 0 [] [(0, .call (o1 (.own 9 (List.map eS r1))) [] false), (2, .call (oI r3) [] false)] [_, _, _, _] ⟨7, [(2, oB (decide ((0 : Int) ≤ r3)))], [], 0, []⟩ (by kernel_rfl) ⟨(spec_l01Keys.fn k r1 h2), (show (List.all [.own 9 (List.map eS r1)] PC.flatB) = true by simp [PC.flatB, PC.scalar, cI, cK, cB, cS, eS]), (spec_l01Place.fn k r1 a0 r3 h4), (show (List.all [cI r3] PC.flatB) = true from rfl), trivial⟩ ?_
  refine Tri.ret ?_
  obtain rfl := Option.some.inj H
  exact ⟨.inr rfl, rfl, rfl, Nat.le_refl _, rfl, by simp⟩
/-! spec_l02Name: function 85 -/
def spec_l02Name.e1 (k : Nat) (a0 : ByteArray) : Option Bool := (spec_NameOK.f k a0).bind fun r1 => if r1 = true then ((spec_IsKey.f k a0).bind fun r4 => some (!r4)) else (some false)
def spec_l02Name.f (k : Nat) (a0 : ByteArray) : Option Bool := (spec_l02Name.e1 k a0).bind fun y6 => some y6
set_option maxRecDepth 100000 in
theorem spec_l02Name.fn (k : Nat) (a0 : ByteArray) (r : Bool) (H : spec_l02Name.f k a0 = some r) : Fn Tryz.prog 85 [oS a0] [] (oB r) [] := by
  unfold spec_l02Name.f at H
  refine Fn.body (ts := [2]) Tryz.func85 rfl rfl (by decide) (by decide) (Nat.le_of_ble_eq_true rfl) (Nat.le_refl _) ?_
  refine Tri.rn [0] 0 [] [] [] ⟨10, [(0, oS a0)], [], 0, []⟩ (by kernel_rfl) trivial ?_
  obtain ⟨v8, h7, H⟩ := bind_some' H
  refine Tri.join (α := Bool) (fun w => v8 = w) (fun y6 => ⟨10, [(2, oB y6)], [], 0, []⟩) (fun y6 hw => ?_) ?_
  · rw [hw] at H; clear hw
    try dsimp only at H
    refine Tri.ret ?_
    obtain rfl := Option.some.inj H
    exact ⟨.inr rfl, rfl, rfl, Nat.le_refl _, rfl, by simp⟩
  · unfold spec_l02Name.e1 at h7
    obtain ⟨r1, h2, h7⟩ := bind_some' h7
    rcases iteb_some h7 with ⟨h3, h7⟩ | ⟨h3, h7⟩
    · obtain ⟨r4, h5, h7⟩ := bind_some' h7
      refine Tri.r1 [2] 0 [] [(1, .call (oB r1) [] false), (1, .ov [.sc (.bool true)]), (4, .call (oB r4) [] false)] [_, _, _, _, _] ⟨10, [(2, oB (!r4))], [], 0, []⟩ (by kernel_rfl) ⟨(spec_NameOK.fn k a0 r1 h2), (show (List.all [cB r1] PC.flatB) = true from rfl), (ovb h3), (spec_IsKey.fn k a0 r4 h5), (show (List.all [cB r4] PC.flatB) = true from rfl), trivial⟩ ?_
      exact ⟨(!r4), (Option.some.inj h7).symm, rfl⟩
    · refine Tri.r1 [2] 0 [] [(1, .call (oB r1) [] false), (1, .ov [.sc (.bool false)])] [_, _, _] ⟨10, [(2, oB false)], [], 0, []⟩ (by kernel_rfl) ⟨(spec_NameOK.fn k a0 r1 h2), (show (List.all [cB r1] PC.flatB) = true from rfl), (ovb h3), trivial⟩ ?_
      exact ⟨false, (Option.some.inj h7).symm, rfl⟩
/-! spec_l01In: function 86 -/
def spec_l01In.e1 (k : Nat) (a0 : Int) (a1 : Int) (a2 : Int) : Option Bool := if a1 ≤ a0 then (some (decide (a0 ≤ a2))) else (some false)
def spec_l01In.f (k : Nat) (a0 : Int) (a1 : Int) (a2 : Int) : Option Bool := (spec_l01In.e1 k a0 a1 a2).bind fun y2 => some y2
set_option maxRecDepth 100000 in
theorem spec_l01In.fn (k : Nat) (a0 : Int) (a1 : Int) (a2 : Int) (r : Bool) (H : spec_l01In.f k a0 a1 a2 = some r) : Fn Tryz.prog 86 [oI a0, oI a1, oI a2] [] (oB r) [] := by
  unfold spec_l01In.f at H
  refine Fn.body (ts := [6]) Tryz.func86 rfl rfl (by decide) (by decide) (Nat.le_of_ble_eq_true rfl) (Nat.le_refl _) ?_
  refine Tri.rn [0, 1, 2] 0 [] [] [] ⟨15, [(0, oI a0), (1, oI a1), (2, oI a2)], [], 0, []⟩ (by kernel_rfl) trivial ?_
  obtain ⟨v4, h3, H⟩ := bind_some' H
  refine Tri.join (α := Bool) (fun w => v4 = w) (fun y2 => ⟨15, [(6, oB y2)], [], 0, []⟩) (fun y2 hw => ?_) ?_
  · rw [hw] at H; clear hw
    try dsimp only at H
    refine Tri.ret ?_
    obtain rfl := Option.some.inj H
    exact ⟨.inr rfl, rfl, rfl, Nat.le_refl _, rfl, by simp⟩
  · unfold spec_l01In.e1 at h3
    rcases ite_some h3 with ⟨h1, h3⟩ | ⟨h1, h3⟩
    · refine Tri.r1 [6] 0 [] [(2, .ov [.sc (.bool true)])] [_] ⟨15, [(6, oB (decide (a0 ≤ a2)))], [], 0, []⟩ (by kernel_rfl) ⟨(ovb (decide_eq_true h1)), trivial⟩ ?_
      exact ⟨(decide (a0 ≤ a2)), (Option.some.inj h3).symm, rfl⟩
    · refine Tri.r1 [6] 0 [] [(2, .ov [.sc (.bool false)])] [_] ⟨15, [(6, oB false)], [], 0, []⟩ (by kernel_rfl) ⟨(ovb (decide_eq_false h1)), trivial⟩ ?_
      exact ⟨false, (Option.some.inj h3).symm, rfl⟩
/-! spec_CharOK: function 166 -/
def spec_CharOK.e1 (k : Nat) (a0 : Int) : Option Bool := (spec_l01In.f k a0 0 55295).bind fun r1 => if r1 = true then (some true) else ((spec_l01In.f k a0 57344 1114111).bind fun r4 => some r4)
def spec_CharOK.f (k : Nat) (a0 : Int) : Option Bool := (spec_CharOK.e1 k a0).bind fun y6 => some y6
set_option maxRecDepth 100000 in
theorem spec_CharOK.fn (k : Nat) (a0 : Int) (r : Bool) (H : spec_CharOK.f k a0 = some r) : Fn Tryz.prog 166 [oI a0] [] (oB r) [] := by
  unfold spec_CharOK.f at H
  refine Fn.body (ts := [2]) Tryz.func166 rfl rfl (by decide) (by decide) (Nat.le_of_ble_eq_true rfl) (Nat.le_refl _) ?_
  refine Tri.rn [0] 0 [] [] [] ⟨9, [(0, oI a0)], [], 0, []⟩ (by kernel_rfl) trivial ?_
  obtain ⟨v8, h7, H⟩ := bind_some' H
  refine Tri.join (α := Bool) (fun w => v8 = w) (fun y6 => ⟨9, [(2, oB y6)], [], 0, []⟩) (fun y6 hw => ?_) ?_
  · rw [hw] at H; clear hw
    try dsimp only at H
    refine Tri.ret ?_
    obtain rfl := Option.some.inj H
    exact ⟨.inr rfl, rfl, rfl, Nat.le_refl _, rfl, by simp⟩
  · unfold spec_CharOK.e1 at h7
    obtain ⟨r1, h2, h7⟩ := bind_some' h7
    rcases iteb_some h7 with ⟨h3, h7⟩ | ⟨h3, h7⟩
    · refine Tri.r1 [2] 0 [] [(1, .call (oB r1) [] false), (1, .ov [.sc (.bool true)])] [_, _, _] ⟨9, [(2, oB true)], [], 0, []⟩ (by kernel_rfl) ⟨(spec_l01In.fn k a0 0 55295 r1 h2), (show (List.all [cB r1] PC.flatB) = true from rfl), (ovb h3), trivial⟩ ?_
      exact ⟨true, (Option.some.inj h7).symm, rfl⟩
    · obtain ⟨r4, h5, h7⟩ := bind_some' h7
      refine Tri.r1 [2] 0 [] [(1, .call (oB r1) [] false), (1, .ov [.sc (.bool false)]), (4, .call (oB r4) [] false)] [_, _, _, _, _] ⟨9, [(2, oB r4)], [], 0, []⟩ (by kernel_rfl) ⟨(spec_l01In.fn k a0 0 55295 r1 h2), (show (List.all [cB r1] PC.flatB) = true from rfl), (ovb h3), (spec_l01In.fn k a0 57344 1114111 r4 h5), (show (List.all [cB r4] PC.flatB) = true from rfl), trivial⟩ ?_
      exact ⟨r4, (Option.some.inj h7).symm, rfl⟩
/-! spec_l03Item: function 112 -/
def spec_l03Item.e1 (k : Nat) (a0 : SItem) : Option Bool := (spec_l02Name.f k a0.f4).bind fun r1 => if r1 = true then (if a0.f0 = 3 then (if a0.f0 = 2 then (if a0.f0 = 1 then (some (decide ((20 : Int) < (a0.f5.length : Int)))) else (if a0.f3 = 0 then (some (decide ((20 : Int) < (a0.f5.length : Int)))) else (some true))) else (if a0.f2 = 0 then (if a0.f0 = 1 then (some (decide ((20 : Int) < (a0.f5.length : Int)))) else (if a0.f3 = 0 then (some (decide ((20 : Int) < (a0.f5.length : Int)))) else (some true))) else (some true))) else (if (0 : Int) < (a0.f5.length : Int) then (some true) else (if a0.f0 = 2 then (if a0.f0 = 1 then (some (decide ((20 : Int) < (a0.f5.length : Int)))) else (if a0.f3 = 0 then (some (decide ((20 : Int) < (a0.f5.length : Int)))) else (some true))) else (if a0.f2 = 0 then (if a0.f0 = 1 then (some (decide ((20 : Int) < (a0.f5.length : Int)))) else (if a0.f3 = 0 then (some (decide ((20 : Int) < (a0.f5.length : Int)))) else (some true))) else (some true))))) else (some true)
def spec_l03Item.e2 (k : Nat) (a0 : SItem) : Option Bool := (spec_l01In.f k a0.f1 1 3).bind fun r23 => if r23 = true then (if a0.f1 = 2 then ((spec_l01In.f k a0.f3 0 1).bind fun r27 => if r27 = true then (if a0.f1 = 3 then ((spec_CharOK.f k a0.f3).bind fun r31 => some r31) else (some true)) else (some false)) else (if a0.f1 = 3 then ((spec_CharOK.f k a0.f3).bind fun r34 => some r34) else (some true))) else (some false)
def spec_l03Item.e3 (k : Nat) (a0 : SItem) : Option Bool := (spec_l01In.f k a0.f1 1 3).bind fun r40 => if r40 = true then ((spec_l01In.f k a0.f2 0 100).bind fun r43 => some r43) else (some false)
def spec_l03Item.l4 : Nat → SItem → Int → Option (Bool ⊕ Unit)
  | 0, _, _ => none
  | k + 1, a0, z55 => if z55 < (a0.f5.length : Int) then ((at? a0.f5 z55).bind fun x57 => (spec_l01In.f k x57.f0 1 3).bind fun r59 => if r59 = true then (spec_l03Item.l4 k a0 (w64 (z55 + 1))) else (some (.inl false))) else (some (.inr ()))
def spec_l03Item.e5 (k : Nat) (a0 : SItem) : Option (Bool ⊕ Unit) := spec_l03Item.l4 k a0 0
def spec_l03Item.e6 (k : Nat) (a0 : SItem) : Option (Bool ⊕ Unit) := if a0.f0 = 1 then ((spec_l03Item.e2 k a0).bind fun y36 => some (.inl y36)) else (if a0.f0 = 2 then ((spec_l03Item.e3 k a0).bind fun y45 => some (.inl y45)) else (if a0.f0 = 3 then ((spec_l03Item.e5 k a0).bind fun v => match v with | .inl r => some (.inl r) | .inr _ => (spec_l01In.f k a0.f1 0 3).bind fun r65 => some (.inl r65)) else (some (.inr ()))))
def spec_l03Item.f (k : Nat) (a0 : SItem) : Option Bool := (spec_l03Item.e1 k a0).bind fun y18 => if y18 = true then (some false) else ((spec_l03Item.e6 k a0).bind fun v => match v with | .inl r => some r | .inr _ => some false)
set_option maxRecDepth 100000 in
theorem spec_l03Item.fn (k : Nat) (a0 : SItem) (r : Bool) (H : spec_l03Item.f k a0 = some r) : Fn Tryz.prog 112 [ag (eSItem a0)] [] (oB r) [] := by
  unfold spec_l03Item.f at H
  refine Fn.body (ts := [2]) Tryz.func112 rfl rfl (by decide) (by decide) (Nat.le_of_ble_eq_true rfl) (Nat.le_refl _) ?_
  refine Tri.rn [1] 1 [] [] [] ⟨102, [(1, o1 (.ref 0 0))], [eSItem a0], 0, []⟩ (by kernel_rfl) trivial ?_
  refine Tri.seq ?_
  obtain ⟨v20, h19, H⟩ := bind_some' H
  refine Tri.join (α := Bool) (fun w => v20 = w) (fun y18 => ⟨102, [(1, o1 (.ref 0 0)), (44, oB y18)], [eSItem a0], 0, []⟩) (fun y18 hw => ?_) ?_
  · rw [hw] at H; clear hw
    try dsimp only at H
    rcases iteb_some H with ⟨h21, H⟩ | ⟨h21, H⟩
    · refine Tri.cond_true (useb h21 (by kernel_rfl)) ?_
      refine Tri.rn [2] 0 [] [] [] ⟨102, [(2, oB false)], [], 0, []⟩ (by kernel_rfl) trivial ?_
      refine Tri.ret ?_
      obtain rfl := Option.some.inj H
      exact ⟨.inr rfl, rfl, rfl, Nat.le_refl _, rfl, by simp⟩
    · refine Tri.cond_false (useb h21 (by kernel_rfl)) ?_
      refine Tri.skip ?_
      obtain ⟨v68, h67, H⟩ := bind_some' H
      refine Tri.join (α := Unit) (fun w => v68 = .inr w) (fun _ => ⟨102, [], [], 0, []⟩) (fun w hw => ?_) ?_
      · rw [hw] at H; clear hw
        try dsimp only at H
        refine Tri.rn [2] 0 [] [] [] ⟨102, [(2, oB false)], [], 0, []⟩ (by kernel_rfl) trivial ?_
        refine Tri.ret ?_
        obtain rfl := Option.some.inj H
        exact ⟨.inr rfl, rfl, rfl, Nat.le_refl _, rfl, by simp⟩
      · unfold spec_l03Item.e6 at h67
        refine Tri.rn [1, 46] 1 [] [] [] ⟨102, [(1, o1 (.ref 0 0)), (46, oI a0.f0)], [eSItem a0], 0, []⟩ (by kernel_rfl) trivial ?_
        refine Tri.block ?_
        refine Tri.rn [1, 46, 47] 1 [] [] [] ⟨102, [(1, o1 (.ref 0 0)), (46, oI a0.f0), (47, oB (decide (a0.f0 = 1)))], [eSItem a0], 0, []⟩ (by kernel_rfl) trivial ?_
        rcases ite_some h67 with ⟨h22, h67⟩ | ⟨h22, h67⟩
        · refine Tri.cond_true (useb (decide_eq_true h22) (by kernel_rfl)) ?_
          obtain ⟨v38, h37, h67⟩ := bind_some' h67
          refine Tri.join (α := Bool) (fun w => v38 = w) (fun y36 => ⟨102, [(2, oB y36)], [], 0, []⟩) (fun y36 hw => ?_) ?_
          · rw [hw] at h67; clear hw
            try dsimp only at h67
            refine Tri.ret ?_
            obtain rfl := Option.some.inj h67
            try dsimp only at H
            obtain rfl := Option.some.inj H
            exact ⟨.inr rfl, rfl, rfl, Nat.le_refl _, rfl, by simp⟩
          · unfold spec_l03Item.e2 at h37
            obtain ⟨r23, h24, h37⟩ := bind_some' h37
            rcases iteb_some h37 with ⟨h25, h37⟩ | ⟨h25, h37⟩
            · rcases ite_some h37 with ⟨h26, h37⟩ | ⟨h26, h37⟩
              · obtain ⟨r27, h28, h37⟩ := bind_some' h37
                rcases iteb_some h37 with ⟨h29, h37⟩ | ⟨h29, h37⟩
                · rcases ite_some h37 with ⟨h30, h37⟩ | ⟨h30, h37⟩
                  · obtain ⟨r31, h32, h37⟩ := bind_some' h37
                    refine Tri.r1 [2] 0 [] [(2, .call (oB r23) [] false), (2, .ov [.sc (.bool true)]), (6, .ov [.sc (.bool false)]), (10, .call (oB r27) [] false), (10, .ov [.sc (.bool true)]), (16, .ov [.sc (.bool false)]), (20, .call (oB r31) [] false)] [_, _, _, _, _, _, _, _, _, _] ⟨102, [(2, oB r31)], [], 0, []⟩ (by kernel_rfl) ⟨(spec_l01In.fn k a0.f1 1 3 r23 h24), (show (List.all [cB r23] PC.flatB) = true from rfl), (ovb h25), (ovb (nF (decide_eq_true h26))), (spec_l01In.fn k a0.f3 0 1 r27 h28), (show (List.all [cB r27] PC.flatB) = true from rfl), (ovb h29), (ovb (nF (decide_eq_true h30))), (spec_CharOK.fn k a0.f3 r31 h32), (show (List.all [cB r31] PC.flatB) = true from rfl), trivial⟩ ?_
                    exact ⟨r31, (Option.some.inj h37).symm, rfl⟩
                  · refine Tri.r1 [2] 0 [] [(2, .call (oB r23) [] false), (2, .ov [.sc (.bool true)]), (6, .ov [.sc (.bool false)]), (10, .call (oB r27) [] false), (10, .ov [.sc (.bool true)]), (16, .ov [.sc (.bool true)])] [_, _, _, _, _, _, _, _] ⟨102, [(2, oB true)], [], 0, []⟩ (by kernel_rfl) ⟨(spec_l01In.fn k a0.f1 1 3 r23 h24), (show (List.all [cB r23] PC.flatB) = true from rfl), (ovb h25), (ovb (nF (decide_eq_true h26))), (spec_l01In.fn k a0.f3 0 1 r27 h28), (show (List.all [cB r27] PC.flatB) = true from rfl), (ovb h29), (ovb (nT (decide_eq_false h30))), trivial⟩ ?_
                    exact ⟨true, (Option.some.inj h37).symm, rfl⟩
                · refine Tri.r1 [2] 0 [] [(2, .call (oB r23) [] false), (2, .ov [.sc (.bool true)]), (6, .ov [.sc (.bool false)]), (10, .call (oB r27) [] false), (10, .ov [.sc (.bool false)])] [_, _, _, _, _, _, _] ⟨102, [(2, oB false)], [], 0, []⟩ (by kernel_rfl) ⟨(spec_l01In.fn k a0.f1 1 3 r23 h24), (show (List.all [cB r23] PC.flatB) = true from rfl), (ovb h25), (ovb (nF (decide_eq_true h26))), (spec_l01In.fn k a0.f3 0 1 r27 h28), (show (List.all [cB r27] PC.flatB) = true from rfl), (ovb h29), trivial⟩ ?_
                  exact ⟨false, (Option.some.inj h37).symm, rfl⟩
              · rcases ite_some h37 with ⟨h33, h37⟩ | ⟨h33, h37⟩
                · obtain ⟨r34, h35, h37⟩ := bind_some' h37
                  refine Tri.r1 [2] 0 [] [(2, .call (oB r23) [] false), (2, .ov [.sc (.bool true)]), (6, .ov [.sc (.bool true)]), (16, .ov [.sc (.bool false)]), (20, .call (oB r34) [] false)] [_, _, _, _, _, _, _] ⟨102, [(2, oB r34)], [], 0, []⟩ (by kernel_rfl) ⟨(spec_l01In.fn k a0.f1 1 3 r23 h24), (show (List.all [cB r23] PC.flatB) = true from rfl), (ovb h25), (ovb (nT (decide_eq_false h26))), (ovb (nF (decide_eq_true h33))), (spec_CharOK.fn k a0.f3 r34 h35), (show (List.all [cB r34] PC.flatB) = true from rfl), trivial⟩ ?_
                  exact ⟨r34, (Option.some.inj h37).symm, rfl⟩
                · refine Tri.r1 [2] 0 [] [(2, .call (oB r23) [] false), (2, .ov [.sc (.bool true)]), (6, .ov [.sc (.bool true)]), (16, .ov [.sc (.bool true)])] [_, _, _, _, _] ⟨102, [(2, oB true)], [], 0, []⟩ (by kernel_rfl) ⟨(spec_l01In.fn k a0.f1 1 3 r23 h24), (show (List.all [cB r23] PC.flatB) = true from rfl), (ovb h25), (ovb (nT (decide_eq_false h26))), (ovb (nT (decide_eq_false h33))), trivial⟩ ?_
                  exact ⟨true, (Option.some.inj h37).symm, rfl⟩
            · refine Tri.r1 [2] 0 [] [(2, .call (oB r23) [] false), (2, .ov [.sc (.bool false)])] [_, _, _] ⟨102, [(2, oB false)], [], 0, []⟩ (by kernel_rfl) ⟨(spec_l01In.fn k a0.f1 1 3 r23 h24), (show (List.all [cB r23] PC.flatB) = true from rfl), (ovb h25), trivial⟩ ?_
              exact ⟨false, (Option.some.inj h37).symm, rfl⟩
        · refine Tri.cond_false (useb (decide_eq_false h22) (by kernel_rfl)) ?_
          refine Tri.rn [1, 46, 72] 1 [] [] [] ⟨102, [(1, o1 (.ref 0 0)), (46, oI a0.f0), (72, oB (decide (a0.f0 = 2)))], [eSItem a0], 0, []⟩ (by kernel_rfl) trivial ?_
          rcases ite_some h67 with ⟨h39, h67⟩ | ⟨h39, h67⟩
          · refine Tri.cond_true (useb (decide_eq_true h39) (by kernel_rfl)) ?_
            obtain ⟨v47, h46, h67⟩ := bind_some' h67
            refine Tri.join (α := Bool) (fun w => v47 = w) (fun y45 => ⟨102, [(2, oB y45)], [], 0, []⟩) (fun y45 hw => ?_) ?_
            · rw [hw] at h67; clear hw
              try dsimp only at h67
              refine Tri.ret ?_
              obtain rfl := Option.some.inj h67
              try dsimp only at H
              obtain rfl := Option.some.inj H
              exact ⟨.inr rfl, rfl, rfl, Nat.le_refl _, rfl, by simp⟩
            · unfold spec_l03Item.e3 at h46
              obtain ⟨r40, h41, h46⟩ := bind_some' h46
              rcases iteb_some h46 with ⟨h42, h46⟩ | ⟨h42, h46⟩
              · obtain ⟨r43, h44, h46⟩ := bind_some' h46
                refine Tri.r1 [2] 0 [] [(2, .call (oB r40) [] false), (2, .ov [.sc (.bool true)]), (6, .call (oB r43) [] false)] [_, _, _, _, _] ⟨102, [(2, oB r43)], [], 0, []⟩ (by kernel_rfl) ⟨(spec_l01In.fn k a0.f1 1 3 r40 h41), (show (List.all [cB r40] PC.flatB) = true from rfl), (ovb h42), (spec_l01In.fn k a0.f2 0 100 r43 h44), (show (List.all [cB r43] PC.flatB) = true from rfl), trivial⟩ ?_
                exact ⟨r43, (Option.some.inj h46).symm, rfl⟩
              · refine Tri.r1 [2] 0 [] [(2, .call (oB r40) [] false), (2, .ov [.sc (.bool false)])] [_, _, _] ⟨102, [(2, oB false)], [], 0, []⟩ (by kernel_rfl) ⟨(spec_l01In.fn k a0.f1 1 3 r40 h41), (show (List.all [cB r40] PC.flatB) = true from rfl), (ovb h42), trivial⟩ ?_
                exact ⟨false, (Option.some.inj h46).symm, rfl⟩
          · refine Tri.cond_false (useb (decide_eq_false h39) (by kernel_rfl)) ?_
            refine Tri.rn [1, 82] 1 [] [] [] ⟨102, [(1, o1 (.ref 0 0)), (82, oB (decide (a0.f0 = 3)))], [eSItem a0], 0, []⟩ (by kernel_rfl) trivial ?_
            rcases ite_some h67 with ⟨h48, h67⟩ | ⟨h48, h67⟩
            · refine Tri.cond_true (useb (decide_eq_true h48) (by kernel_rfl)) ?_
              obtain ⟨v64, h63, h67⟩ := bind_some' h67
              refine Tri.join (α := Unit) (fun w => v64 = .inr w) (fun _ => ⟨102, [(1, o1 (.ref 0 0))], [eSItem a0], 0, []⟩) (fun w hw => ?_) ?_
              · rw [hw] at h67; clear hw
                try dsimp only at h67
                obtain ⟨r65, h66, h67⟩ := bind_some' h67
                refine Tri.rn [2] 0 [] [(2, .call (oB r65) [] false)] [_, _] ⟨102, [(2, oB r65)], [], 0, []⟩ (by kernel_rfl) ⟨(spec_l01In.fn k a0.f1 0 3 r65 h66), (show (List.all [cB r65] PC.flatB) = true from rfl), trivial⟩ ?_
                refine Tri.ret ?_
                obtain rfl := Option.some.inj h67
                try dsimp only at H
                obtain rfl := Option.some.inj H
                exact ⟨.inr rfl, rfl, rfl, Nat.le_refl _, rfl, by simp⟩
              · unfold spec_l03Item.e5 at h63
                refine Tri.rn [1, 3] 1 [] [] [] ⟨102, [(1, o1 (.ref 0 0)), (3, oI 0)], [eSItem a0], 0, []⟩ (by kernel_rfl) trivial ?_
                refine Tri.block ?_
                refine Tri.loop k (TriR.ind (α := Int) (fun k x => spec_l03Item.l4 k a0 x) (fun x => ⟨102, [(1, o1 (.ref 0 0)), (3, oI x)], [eSItem a0], 0, []⟩) (fun _ => rfl) (fun k z55 h63 IH62 => ?_) k 0 h63)
                rw [spec_l03Item.l4.eq_2] at h63
                refine Tri.seq ?_
                refine Tri.rn [1, 3, 88] 1 [] [(3, .ov [.sc (.int .i64 (a0.f5.length : Int))])] [_] ⟨102, [(1, o1 (.ref 0 0)), (3, oI z55), (88, oB (decide (z55 < (a0.f5.length : Int))))], [eSItem a0], 0, []⟩ (by kernel_rfl) ⟨(ovlen (f := eSParam) (l := a0.f5)), trivial⟩ ?_
                rcases ite_some h63 with ⟨h56, h63⟩ | ⟨h56, h63⟩
                · refine Tri.cond_true (useb (decide_eq_true h56) (by kernel_rfl)) ?_
                  refine Tri.skip ?_
                  refine Tri.seq ?_
                  refine Tri.block ?_
                  obtain ⟨x57, h58, h63⟩ := bind_some' h63
                  obtain ⟨r59, h60, h63⟩ := bind_some' h63
                  refine Tri.rn [1, 3, 98] 1 [] [(3, .el (eSParam x57)), (6, .call (oB r59) [] false)] [_, _, _, _] ⟨102, [(1, o1 (.ref 0 0)), (3, oI z55), (98, oB (!r59))], [eSItem a0], 0, []⟩ (by kernel_rfl) ⟨(at?_0 h58), (at?_map (f := eSParam) h58), (spec_l01In.fn k x57.f0 1 3 r59 h60), (show (List.all [cB r59] PC.flatB) = true from rfl), trivial⟩ ?_
                  rcases iteb_some h63 with ⟨h61, h63⟩ | ⟨h61, h63⟩
                  · refine Tri.cond_false (useb (nF h61) (by kernel_rfl)) ?_
                    refine Tri.skip ?_
                    refine Tri.r1 [1, 3] 1 [] [] [] ⟨102, [(1, o1 (.ref 0 0)), (3, oI (w64 (z55 + 1)))], [eSItem a0], 0, []⟩ (by kernel_rfl) trivial ?_
                    exact IH62 _ (w64 (z55 + 1)) (Nat.le_refl _) h63
                  · refine Tri.cond_true (useb (nT h61) (by kernel_rfl)) ?_
                    refine Tri.rn [2] 0 [] [] [] ⟨102, [(2, oB false)], [], 0, []⟩ (by kernel_rfl) trivial ?_
                    refine Tri.ret ?_
                    obtain rfl := Option.some.inj h63
                    try dsimp only at h67
                    obtain rfl := Option.some.inj h67
                    try dsimp only at H
                    obtain rfl := Option.some.inj H
                    exact ⟨.inr rfl, rfl, rfl, Nat.le_refl _, rfl, by simp⟩
                · refine Tri.cond_false (useb (decide_eq_false h56) (by kernel_rfl)) ?_
                  refine Tri.fix [1] 1 [] ⟨102, [(1, o1 (.ref 0 0))], [eSItem a0], 0, []⟩ (by kernel_rfl) ?_
                  refine Tri.exit ?_
                  repeat (with_reducible refine Ex.exit ?_)
                  refine Bk.here ?_
                  exact ⟨(), (Option.some.inj h63).symm, rfl⟩
            · refine Tri.cond_false (useb (decide_eq_false h48) (by kernel_rfl)) ?_
              refine Tri.fix [] 0 [] ⟨102, [], [], 0, []⟩ (by kernel_rfl) ?_
              refine Tri.skip ?_
              exact ⟨(), (Option.some.inj h67).symm, rfl⟩
  · unfold spec_l03Item.e1 at h19
    obtain ⟨r1, h2, h19⟩ := bind_some' h19
    rcases iteb_some h19 with ⟨h3, h19⟩ | ⟨h3, h19⟩
    · rcases ite_some h19 with ⟨h4, h19⟩ | ⟨h4, h19⟩
      · rcases ite_some h19 with ⟨h5, h19⟩ | ⟨h5, h19⟩
        · rcases ite_some h19 with ⟨h6, h19⟩ | ⟨h6, h19⟩
          · refine Tri.r1 [1, 44] 1 [] [(2, .call (oB r1) [] false), (2, .ov [.sc (.bool true)]), (7, .ov [.sc (.bool false)]), (18, .ov [.sc (.bool false)]), (28, .ov [.sc (.bool false)]), (38, .ov [.sc (.int .i64 (a0.f5.length : Int))])] [_, _, _, _, _, _, _] ⟨102, [(1, o1 (.ref 0 0)), (44, oB (decide ((20 : Int) < (a0.f5.length : Int))))], [eSItem a0], 0, []⟩ (by kernel_rfl) ⟨(spec_l02Name.fn k a0.f4 r1 h2), (show (List.all [cB r1] PC.flatB) = true from rfl), (ovb h3), (ovb (nF (decide_eq_true h4))), (ovb (nF (decide_eq_true h5))), (ovb (nF (decide_eq_true h6))), (ovlen (f := eSParam) (l := a0.f5)), trivial⟩ ?_
            exact ⟨(decide ((20 : Int) < (a0.f5.length : Int))), (Option.some.inj h19).symm, rfl⟩
          · rcases ite_some h19 with ⟨h7, h19⟩ | ⟨h7, h19⟩
            · refine Tri.r1 [1, 44] 1 [] [(2, .call (oB r1) [] false), (2, .ov [.sc (.bool true)]), (7, .ov [.sc (.bool false)]), (18, .ov [.sc (.bool false)]), (28, .ov [.sc (.bool true)]), (32, .ov [.sc (.bool false)]), (38, .ov [.sc (.int .i64 (a0.f5.length : Int))])] [_, _, _, _, _, _, _, _] ⟨102, [(1, o1 (.ref 0 0)), (44, oB (decide ((20 : Int) < (a0.f5.length : Int))))], [eSItem a0], 0, []⟩ (by kernel_rfl) ⟨(spec_l02Name.fn k a0.f4 r1 h2), (show (List.all [cB r1] PC.flatB) = true from rfl), (ovb h3), (ovb (nF (decide_eq_true h4))), (ovb (nF (decide_eq_true h5))), (ovb (nT (decide_eq_false h6))), (ovb (nF (decide_eq_true h7))), (ovlen (f := eSParam) (l := a0.f5)), trivial⟩ ?_
              exact ⟨(decide ((20 : Int) < (a0.f5.length : Int))), (Option.some.inj h19).symm, rfl⟩
            · refine Tri.r1 [1, 44] 1 [] [(2, .call (oB r1) [] false), (2, .ov [.sc (.bool true)]), (7, .ov [.sc (.bool false)]), (18, .ov [.sc (.bool false)]), (28, .ov [.sc (.bool true)]), (32, .ov [.sc (.bool true)])] [_, _, _, _, _, _, _] ⟨102, [(1, o1 (.ref 0 0)), (44, oB true)], [eSItem a0], 0, []⟩ (by kernel_rfl) ⟨(spec_l02Name.fn k a0.f4 r1 h2), (show (List.all [cB r1] PC.flatB) = true from rfl), (ovb h3), (ovb (nF (decide_eq_true h4))), (ovb (nF (decide_eq_true h5))), (ovb (nT (decide_eq_false h6))), (ovb (nT (decide_eq_false h7))), trivial⟩ ?_
              exact ⟨true, (Option.some.inj h19).symm, rfl⟩
        · rcases ite_some h19 with ⟨h8, h19⟩ | ⟨h8, h19⟩
          · rcases ite_some h19 with ⟨h9, h19⟩ | ⟨h9, h19⟩
            · refine Tri.r1 [1, 44] 1 [] [(2, .call (oB r1) [] false), (2, .ov [.sc (.bool true)]), (7, .ov [.sc (.bool false)]), (18, .ov [.sc (.bool true)]), (22, .ov [.sc (.bool false)]), (28, .ov [.sc (.bool false)]), (38, .ov [.sc (.int .i64 (a0.f5.length : Int))])] [_, _, _, _, _, _, _, _] ⟨102, [(1, o1 (.ref 0 0)), (44, oB (decide ((20 : Int) < (a0.f5.length : Int))))], [eSItem a0], 0, []⟩ (by kernel_rfl) ⟨(spec_l02Name.fn k a0.f4 r1 h2), (show (List.all [cB r1] PC.flatB) = true from rfl), (ovb h3), (ovb (nF (decide_eq_true h4))), (ovb (nT (decide_eq_false h5))), (ovb (nF (decide_eq_true h8))), (ovb (nF (decide_eq_true h9))), (ovlen (f := eSParam) (l := a0.f5)), trivial⟩ ?_
              exact ⟨(decide ((20 : Int) < (a0.f5.length : Int))), (Option.some.inj h19).symm, rfl⟩
            · rcases ite_some h19 with ⟨h10, h19⟩ | ⟨h10, h19⟩
              · refine Tri.r1 [1, 44] 1 [] [(2, .call (oB r1) [] false), (2, .ov [.sc (.bool true)]), (7, .ov [.sc (.bool false)]), (18, .ov [.sc (.bool true)]), (22, .ov [.sc (.bool false)]), (28, .ov [.sc (.bool true)]), (32, .ov [.sc (.bool false)]), (38, .ov [.sc (.int .i64 (a0.f5.length : Int))])] [_, _, _, _, _, _, _, _, _] ⟨102, [(1, o1 (.ref 0 0)), (44, oB (decide ((20 : Int) < (a0.f5.length : Int))))], [eSItem a0], 0, []⟩ (by kernel_rfl) ⟨(spec_l02Name.fn k a0.f4 r1 h2), (show (List.all [cB r1] PC.flatB) = true from rfl), (ovb h3), (ovb (nF (decide_eq_true h4))), (ovb (nT (decide_eq_false h5))), (ovb (nF (decide_eq_true h8))), (ovb (nT (decide_eq_false h9))), (ovb (nF (decide_eq_true h10))), (ovlen (f := eSParam) (l := a0.f5)), trivial⟩ ?_
                exact ⟨(decide ((20 : Int) < (a0.f5.length : Int))), (Option.some.inj h19).symm, rfl⟩
              · refine Tri.r1 [1, 44] 1 [] [(2, .call (oB r1) [] false), (2, .ov [.sc (.bool true)]), (7, .ov [.sc (.bool false)]), (18, .ov [.sc (.bool true)]), (22, .ov [.sc (.bool false)]), (28, .ov [.sc (.bool true)]), (32, .ov [.sc (.bool true)])] [_, _, _, _, _, _, _, _] ⟨102, [(1, o1 (.ref 0 0)), (44, oB true)], [eSItem a0], 0, []⟩ (by kernel_rfl) ⟨(spec_l02Name.fn k a0.f4 r1 h2), (show (List.all [cB r1] PC.flatB) = true from rfl), (ovb h3), (ovb (nF (decide_eq_true h4))), (ovb (nT (decide_eq_false h5))), (ovb (nF (decide_eq_true h8))), (ovb (nT (decide_eq_false h9))), (ovb (nT (decide_eq_false h10))), trivial⟩ ?_
                exact ⟨true, (Option.some.inj h19).symm, rfl⟩
          · refine Tri.r1 [1, 44] 1 [] [(2, .call (oB r1) [] false), (2, .ov [.sc (.bool true)]), (7, .ov [.sc (.bool false)]), (18, .ov [.sc (.bool true)]), (22, .ov [.sc (.bool true)])] [_, _, _, _, _, _] ⟨102, [(1, o1 (.ref 0 0)), (44, oB true)], [eSItem a0], 0, []⟩ (by kernel_rfl) ⟨(spec_l02Name.fn k a0.f4 r1 h2), (show (List.all [cB r1] PC.flatB) = true from rfl), (ovb h3), (ovb (nF (decide_eq_true h4))), (ovb (nT (decide_eq_false h5))), (ovb (nT (decide_eq_false h8))), trivial⟩ ?_
            exact ⟨true, (Option.some.inj h19).symm, rfl⟩
      · rcases ite_some h19 with ⟨h11, h19⟩ | ⟨h11, h19⟩
        · refine Tri.r1 [1, 44] 1 [] [(2, .call (oB r1) [] false), (2, .ov [.sc (.bool true)]), (7, .ov [.sc (.bool true)]), (11, .ov [.sc (.int .i64 (a0.f5.length : Int))]), (12, .ov [.sc (.bool true)])] [_, _, _, _, _, _] ⟨102, [(1, o1 (.ref 0 0)), (44, oB true)], [eSItem a0], 0, []⟩ (by kernel_rfl) ⟨(spec_l02Name.fn k a0.f4 r1 h2), (show (List.all [cB r1] PC.flatB) = true from rfl), (ovb h3), (ovb (nT (decide_eq_false h4))), (ovlen (f := eSParam) (l := a0.f5)), (ovb (decide_eq_true h11)), trivial⟩ ?_
          exact ⟨true, (Option.some.inj h19).symm, rfl⟩
        · rcases ite_some h19 with ⟨h12, h19⟩ | ⟨h12, h19⟩
          · rcases ite_some h19 with ⟨h13, h19⟩ | ⟨h13, h19⟩
            · refine Tri.r1 [1, 44] 1 [] [(2, .call (oB r1) [] false), (2, .ov [.sc (.bool true)]), (7, .ov [.sc (.bool true)]), (11, .ov [.sc (.int .i64 (a0.f5.length : Int))]), (12, .ov [.sc (.bool false)]), (18, .ov [.sc (.bool false)]), (28, .ov [.sc (.bool false)]), (38, .ov [.sc (.int .i64 (a0.f5.length : Int))])] [_, _, _, _, _, _, _, _, _] ⟨102, [(1, o1 (.ref 0 0)), (44, oB (decide ((20 : Int) < (a0.f5.length : Int))))], [eSItem a0], 0, []⟩ (by kernel_rfl) ⟨(spec_l02Name.fn k a0.f4 r1 h2), (show (List.all [cB r1] PC.flatB) = true from rfl), (ovb h3), (ovb (nT (decide_eq_false h4))), (ovlen (f := eSParam) (l := a0.f5)), (ovb (decide_eq_false h11)), (ovb (nF (decide_eq_true h12))), (ovb (nF (decide_eq_true h13))), (ovlen (f := eSParam) (l := a0.f5)), trivial⟩ ?_
              exact ⟨(decide ((20 : Int) < (a0.f5.length : Int))), (Option.some.inj h19).symm, rfl⟩
            · rcases ite_some h19 with ⟨h14, h19⟩ | ⟨h14, h19⟩
              · refine Tri.r1 [1, 44] 1 [] [(2, .call (oB r1) [] false), (2, .ov [.sc (.bool true)]), (7, .ov [.sc (.bool true)]), (11, .ov [.sc (.int .i64 (a0.f5.length : Int))]), (12, .ov [.sc (.bool false)]), (18, .ov [.sc (.bool false)]), (28, .ov [.sc (.bool true)]), (32, .ov [.sc (.bool false)]), (38, .ov [.sc (.int .i64 (a0.f5.length : Int))])] [_, _, _, _, _, _, _, _, _, _] ⟨102, [(1, o1 (.ref 0 0)), (44, oB (decide ((20 : Int) < (a0.f5.length : Int))))], [eSItem a0], 0, []⟩ (by kernel_rfl) ⟨(spec_l02Name.fn k a0.f4 r1 h2), (show (List.all [cB r1] PC.flatB) = true from rfl), (ovb h3), (ovb (nT (decide_eq_false h4))), (ovlen (f := eSParam) (l := a0.f5)), (ovb (decide_eq_false h11)), (ovb (nF (decide_eq_true h12))), (ovb (nT (decide_eq_false h13))), (ovb (nF (decide_eq_true h14))), (ovlen (f := eSParam) (l := a0.f5)), trivial⟩ ?_
                exact ⟨(decide ((20 : Int) < (a0.f5.length : Int))), (Option.some.inj h19).symm, rfl⟩
              · refine Tri.r1 [1, 44] 1 [] [(2, .call (oB r1) [] false), (2, .ov [.sc (.bool true)]), (7, .ov [.sc (.bool true)]), (11, .ov [.sc (.int .i64 (a0.f5.length : Int))]), (12, .ov [.sc (.bool false)]), (18, .ov [.sc (.bool false)]), (28, .ov [.sc (.bool true)]), (32, .ov [.sc (.bool true)])] [_, _, _, _, _, _, _, _, _] ⟨102, [(1, o1 (.ref 0 0)), (44, oB true)], [eSItem a0], 0, []⟩ (by kernel_rfl) ⟨(spec_l02Name.fn k a0.f4 r1 h2), (show (List.all [cB r1] PC.flatB) = true from rfl), (ovb h3), (ovb (nT (decide_eq_false h4))), (ovlen (f := eSParam) (l := a0.f5)), (ovb (decide_eq_false h11)), (ovb (nF (decide_eq_true h12))), (ovb (nT (decide_eq_false h13))), (ovb (nT (decide_eq_false h14))), trivial⟩ ?_
                exact ⟨true, (Option.some.inj h19).symm, rfl⟩
          · rcases ite_some h19 with ⟨h15, h19⟩ | ⟨h15, h19⟩
            · rcases ite_some h19 with ⟨h16, h19⟩ | ⟨h16, h19⟩
              · refine Tri.r1 [1, 44] 1 [] [(2, .call (oB r1) [] false), (2, .ov [.sc (.bool true)]), (7, .ov [.sc (.bool true)]), (11, .ov [.sc (.int .i64 (a0.f5.length : Int))]), (12, .ov [.sc (.bool false)]), (18, .ov [.sc (.bool true)]), (22, .ov [.sc (.bool false)]), (28, .ov [.sc (.bool false)]), (38, .ov [.sc (.int .i64 (a0.f5.length : Int))])] [_, _, _, _, _, _, _, _, _, _] ⟨102, [(1, o1 (.ref 0 0)), (44, oB (decide ((20 : Int) < (a0.f5.length : Int))))], [eSItem a0], 0, []⟩ (by kernel_rfl) ⟨(spec_l02Name.fn k a0.f4 r1 h2), (show (List.all [cB r1] PC.flatB) = true from rfl), (ovb h3), (ovb (nT (decide_eq_false h4))), (ovlen (f := eSParam) (l := a0.f5)), (ovb (decide_eq_false h11)), (ovb (nT (decide_eq_false h12))), (ovb (nF (decide_eq_true h15))), (ovb (nF (decide_eq_true h16))), (ovlen (f := eSParam) (l := a0.f5)), trivial⟩ ?_
                exact ⟨(decide ((20 : Int) < (a0.f5.length : Int))), (Option.some.inj h19).symm, rfl⟩
              · rcases ite_some h19 with ⟨h17, h19⟩ | ⟨h17, h19⟩
                · refine Tri.r1 [1, 44] 1 [] [(2, .call (oB r1) [] false), (2, .ov [.sc (.bool true)]), (7, .ov [.sc (.bool true)]), (11, .ov [.sc (.int .i64 (a0.f5.length : Int))]), (12, .ov [.sc (.bool false)]), (18, .ov [.sc (.bool true)]), (22, .ov [.sc (.bool false)]), (28, .ov [.sc (.bool true)]), (32, .ov [.sc (.bool false)]), (38, .ov [.sc (.int .i64 (a0.f5.length : Int))])] [_, _, _, _, _, _, _, _, _, _, _] ⟨102, [(1, o1 (.ref 0 0)), (44, oB (decide ((20 : Int) < (a0.f5.length : Int))))], [eSItem a0], 0, []⟩ (by kernel_rfl) ⟨(spec_l02Name.fn k a0.f4 r1 h2), (show (List.all [cB r1] PC.flatB) = true from rfl), (ovb h3), (ovb (nT (decide_eq_false h4))), (ovlen (f := eSParam) (l := a0.f5)), (ovb (decide_eq_false h11)), (ovb (nT (decide_eq_false h12))), (ovb (nF (decide_eq_true h15))), (ovb (nT (decide_eq_false h16))), (ovb (nF (decide_eq_true h17))), (ovlen (f := eSParam) (l := a0.f5)), trivial⟩ ?_
                  exact ⟨(decide ((20 : Int) < (a0.f5.length : Int))), (Option.some.inj h19).symm, rfl⟩
                · refine Tri.r1 [1, 44] 1 [] [(2, .call (oB r1) [] false), (2, .ov [.sc (.bool true)]), (7, .ov [.sc (.bool true)]), (11, .ov [.sc (.int .i64 (a0.f5.length : Int))]), (12, .ov [.sc (.bool false)]), (18, .ov [.sc (.bool true)]), (22, .ov [.sc (.bool false)]), (28, .ov [.sc (.bool true)]), (32, .ov [.sc (.bool true)])] [_, _, _, _, _, _, _, _, _, _] ⟨102, [(1, o1 (.ref 0 0)), (44, oB true)], [eSItem a0], 0, []⟩ (by kernel_rfl) ⟨(spec_l02Name.fn k a0.f4 r1 h2), (show (List.all [cB r1] PC.flatB) = true from rfl), (ovb h3), (ovb (nT (decide_eq_false h4))), (ovlen (f := eSParam) (l := a0.f5)), (ovb (decide_eq_false h11)), (ovb (nT (decide_eq_false h12))), (ovb (nF (decide_eq_true h15))), (ovb (nT (decide_eq_false h16))), (ovb (nT (decide_eq_false h17))), trivial⟩ ?_
                  exact ⟨true, (Option.some.inj h19).symm, rfl⟩
            · refine Tri.r1 [1, 44] 1 [] [(2, .call (oB r1) [] false), (2, .ov [.sc (.bool true)]), (7, .ov [.sc (.bool true)]), (11, .ov [.sc (.int .i64 (a0.f5.length : Int))]), (12, .ov [.sc (.bool false)]), (18, .ov [.sc (.bool true)]), (22, .ov [.sc (.bool true)])] [_, _, _, _, _, _, _, _] ⟨102, [(1, o1 (.ref 0 0)), (44, oB true)], [eSItem a0], 0, []⟩ (by kernel_rfl) ⟨(spec_l02Name.fn k a0.f4 r1 h2), (show (List.all [cB r1] PC.flatB) = true from rfl), (ovb h3), (ovb (nT (decide_eq_false h4))), (ovlen (f := eSParam) (l := a0.f5)), (ovb (decide_eq_false h11)), (ovb (nT (decide_eq_false h12))), (ovb (nT (decide_eq_false h15))), trivial⟩ ?_
              exact ⟨true, (Option.some.inj h19).symm, rfl⟩
    · refine Tri.r1 [1, 44] 1 [] [(2, .call (oB r1) [] false), (2, .ov [.sc (.bool false)])] [_, _, _] ⟨102, [(1, o1 (.ref 0 0)), (44, oB true)], [eSItem a0], 0, []⟩ (by kernel_rfl) ⟨(spec_l02Name.fn k a0.f4 r1 h2), (show (List.all [cB r1] PC.flatB) = true from rfl), (ovb h3), trivial⟩ ?_
      exact ⟨true, (Option.some.inj h19).symm, rfl⟩
/-! spec_l03Find: function 113 -/
def spec_l03Find.l1 : Nat → (List SItem) → ByteArray → Int → Option (Int ⊕ Unit)
  | 0, _, _, _ => none
  | k + 1, a0, a1, z5 => if z5 < (a0.length : Int) then ((at? a0 z5).bind fun x7 => if x7.f4 = a1 then (some (.inl z5)) else (spec_l03Find.l1 k a0 a1 (w64 (z5 + 1)))) else (some (.inr ()))
def spec_l03Find.e2 (k : Nat) (a0 : (List SItem)) (a1 : ByteArray) : Option (Int ⊕ Unit) := spec_l03Find.l1 k a0 a1 0
def spec_l03Find.f (k : Nat) (a0 : (List SItem)) (a1 : ByteArray) : Option Int := (spec_l03Find.e2 k a0 a1).bind fun v => match v with | .inl r => some r | .inr _ => some (-1)
set_option maxRecDepth 100000 in
theorem spec_l03Find.fn (k : Nat) (a0 : (List SItem)) (a1 : ByteArray) (r : Int) (H : spec_l03Find.f k a0 a1 = some r) : Fn Tryz.prog 113 [o1 (.sl 6 (List.map eSItem a0)), oS a1] [] (oI r) [] := by
  unfold spec_l03Find.f at H
  refine Fn.body (ts := [4]) Tryz.func113 rfl rfl (by decide) (by decide) (Nat.le_of_ble_eq_true rfl) (Nat.le_refl _) ?_
  refine Tri.rn [0, 1] 0 [] [] [] ⟨20, [(0, o1 (.sl 6 (List.map eSItem a0))), (1, oS a1)], [], 0, []⟩ (by kernel_rfl) trivial ?_
  obtain ⟨v12, h11, H⟩ := bind_some' H
  refine Tri.join (α := Unit) (fun w => v12 = .inr w) (fun _ => ⟨20, [], [], 0, []⟩) (fun w hw => ?_) ?_
  · rw [hw] at H; clear hw
    try dsimp only at H
    refine Tri.rn [4] 0 [] [] [] ⟨20, [(4, oI (-1))], [], 0, []⟩ (by kernel_rfl) trivial ?_
    refine Tri.ret ?_
    obtain rfl := Option.some.inj H
    exact ⟨.inr rfl, rfl, rfl, Nat.le_refl _, rfl, by simp⟩
  · unfold spec_l03Find.e2 at h11
    refine Tri.rn [0, 1, 5] 0 [] [] [] ⟨20, [(0, o1 (.sl 6 (List.map eSItem a0))), (1, oS a1), (5, oI 0)], [], 0, []⟩ (by kernel_rfl) trivial ?_
    refine Tri.block ?_
    refine Tri.loop k (TriR.ind (α := Int) (fun k x => spec_l03Find.l1 k a0 a1 x) (fun x => ⟨20, [(0, o1 (.sl 6 (List.map eSItem a0))), (1, oS a1), (5, oI x)], [], 0, []⟩) (fun _ => rfl) (fun k z5 h11 IH10 => ?_) k 0 h11)
    rw [spec_l03Find.l1.eq_2] at h11
    refine Tri.seq ?_
    refine Tri.rn [0, 1, 5, 9] 0 [] [(2, .ov [.sc (.int .i64 (a0.length : Int))])] [_] ⟨20, [(0, o1 (.sl 6 (List.map eSItem a0))), (1, oS a1), (5, oI z5), (9, oB (decide (z5 < (a0.length : Int))))], [], 0, []⟩ (by kernel_rfl) ⟨(ovlen (f := eSItem) (l := a0)), trivial⟩ ?_
    rcases ite_some h11 with ⟨h6, h11⟩ | ⟨h6, h11⟩
    · refine Tri.cond_true (useb (decide_eq_true h6) (by kernel_rfl)) ?_
      refine Tri.skip ?_
      refine Tri.seq ?_
      refine Tri.block ?_
      obtain ⟨x7, h8, h11⟩ := bind_some' h11
      refine Tri.rn [0, 1, 5, 18] 0 [] [(2, .el (eSItem x7))] [_, _] ⟨20, [(0, o1 (.sl 6 (List.map eSItem a0))), (1, oS a1), (5, oI z5), (18, oB (decide (x7.f4 = a1)))], [], 0, []⟩ (by kernel_rfl) ⟨(at?_0 h8), (at?_map (f := eSItem) h8), trivial⟩ ?_
      rcases ite_some h11 with ⟨h9, h11⟩ | ⟨h9, h11⟩
      · refine Tri.cond_true (useb (decide_eq_true h9) (by kernel_rfl)) ?_
        refine Tri.rn [4] 0 [] [] [] ⟨20, [(4, oI z5)], [], 0, []⟩ (by kernel_rfl) trivial ?_
        refine Tri.ret ?_
        obtain rfl := Option.some.inj h11
        try dsimp only at H
        obtain rfl := Option.some.inj H
        exact ⟨.inr rfl, rfl, rfl, Nat.le_refl _, rfl, by simp⟩
      · refine Tri.cond_false (useb (decide_eq_false h9) (by kernel_rfl)) ?_
        refine Tri.skip ?_
        refine Tri.r1 [0, 1, 5] 0 [] [] [] ⟨20, [(0, o1 (.sl 6 (List.map eSItem a0))), (1, oS a1), (5, oI (w64 (z5 + 1)))], [], 0, []⟩ (by kernel_rfl) trivial ?_
        exact IH10 _ (w64 (z5 + 1)) (Nat.le_refl _) h11
    · refine Tri.cond_false (useb (decide_eq_false h6) (by kernel_rfl)) ?_
      refine Tri.fix [] 0 [] ⟨20, [], [], 0, []⟩ (by kernel_rfl) ?_
      refine Tri.exit ?_
      repeat (with_reducible refine Ex.exit ?_)
      refine Bk.here ?_
      exact ⟨(), (Option.some.inj h11).symm, rfl⟩
/-! spec_InterfaceOK: function 54 -/
def spec_InterfaceOK.e1 (k : Nat) (a0 : SFace) : Option Bool := (spec_l02Name.f k a0.f0).bind fun r1 => if r1 = true then (some (decide ((60 : Int) < (a0.f1.length : Int)))) else (some true)
def spec_InterfaceOK.e2 (k : Nat) (a0 : SFace) (z22 : Int) : Option Bool := (at? a0.f1 z22).bind fun x24 => (spec_l03Item.f k x24).bind fun r26 => if r26 = true then (if (0 : Int) ≤ z22 then (if z22 ≤ (a0.f1.length : Int) then ((spec_l03Find.f k (List.take (Int.toNat (z22 - 0)) (List.drop (Int.toNat 0) a0.f1)) x24.f4).bind fun r31 => some (decide ((0 : Int) ≤ r31))) else none) else none) else (some true)
def spec_InterfaceOK.l3 : Nat → SFace → Int → Option (Bool ⊕ Unit)
  | 0, _, _ => none
  | k + 1, a0, z22 => if z22 < (a0.f1.length : Int) then ((spec_InterfaceOK.e2 k a0 z22).bind fun y33 => if y33 = true then (some (.inl false)) else (spec_InterfaceOK.l3 k a0 (w64 (z22 + 1)))) else (some (.inr ()))
def spec_InterfaceOK.e4 (k : Nat) (a0 : SFace) : Option (Bool ⊕ Unit) := spec_InterfaceOK.l3 k a0 0
def spec_InterfaceOK.f (k : Nat) (a0 : SFace) : Option Bool := (spec_InterfaceOK.e1 k a0).bind fun y4 => if y4 = true then (some false) else ((spec_InterfaceOK.e4 k a0).bind fun v => match v with | .inl r => some r | .inr _ => some true)
set_option maxRecDepth 100000 in
theorem spec_InterfaceOK.fn (k : Nat) (a0 : SFace) (r : Bool) (H : spec_InterfaceOK.f k a0 = some r) : Fn Tryz.prog 54 [ag (eSFace a0)] [] (oB r) [] := by
  unfold spec_InterfaceOK.f at H
  refine Fn.body (ts := [2]) Tryz.func54 rfl rfl (by decide) (by decide) (Nat.le_of_ble_eq_true rfl) (Nat.le_refl _) ?_
  refine Tri.rn [1] 1 [] [] [] ⟨42, [(1, o1 (.ref 0 0))], [eSFace a0], 0, []⟩ (by kernel_rfl) trivial ?_
  refine Tri.seq ?_
  obtain ⟨v6, h5, H⟩ := bind_some' H
  refine Tri.join (α := Bool) (fun w => v6 = w) (fun y4 => ⟨42, [(1, o1 (.ref 0 0)), (13, oB y4)], [eSFace a0], 0, []⟩) (fun y4 hw => ?_) ?_
  · rw [hw] at H; clear hw
    try dsimp only at H
    rcases iteb_some H with ⟨h7, H⟩ | ⟨h7, H⟩
    · refine Tri.cond_true (useb h7 (by kernel_rfl)) ?_
      refine Tri.rn [2] 0 [] [] [] ⟨42, [(2, oB false)], [], 0, []⟩ (by kernel_rfl) trivial ?_
      refine Tri.ret ?_
      obtain rfl := Option.some.inj H
      exact ⟨.inr rfl, rfl, rfl, Nat.le_refl _, rfl, by simp⟩
    · refine Tri.cond_false (useb h7 (by kernel_rfl)) ?_
      refine Tri.skip ?_
      obtain ⟨v39, h38, H⟩ := bind_some' H
      refine Tri.join (α := Unit) (fun w => v39 = .inr w) (fun _ => ⟨42, [], [], 0, []⟩) (fun w hw => ?_) ?_
      · rw [hw] at H; clear hw
        try dsimp only at H
        refine Tri.rn [2] 0 [] [] [] ⟨42, [(2, oB true)], [], 0, []⟩ (by kernel_rfl) trivial ?_
        refine Tri.ret ?_
        obtain rfl := Option.some.inj H
        exact ⟨.inr rfl, rfl, rfl, Nat.le_refl _, rfl, by simp⟩
      · unfold spec_InterfaceOK.e4 at h38
        refine Tri.rn [1, 3] 1 [] [] [] ⟨42, [(1, o1 (.ref 0 0)), (3, oI 0)], [eSFace a0], 0, []⟩ (by kernel_rfl) trivial ?_
        refine Tri.block ?_
        refine Tri.loop k (TriR.ind (α := Int) (fun k x => spec_InterfaceOK.l3 k a0 x) (fun x => ⟨42, [(1, o1 (.ref 0 0)), (3, oI x)], [eSFace a0], 0, []⟩) (fun _ => rfl) (fun k z22 h38 IH37 => ?_) k 0 h38)
        rw [spec_InterfaceOK.l3.eq_2] at h38
        refine Tri.seq ?_
        refine Tri.rn [1, 3, 18] 1 [] [(3, .ov [.sc (.int .i64 (a0.f1.length : Int))])] [_] ⟨42, [(1, o1 (.ref 0 0)), (3, oI z22), (18, oB (decide (z22 < (a0.f1.length : Int))))], [eSFace a0], 0, []⟩ (by kernel_rfl) ⟨(ovlen (f := eSItem) (l := a0.f1)), trivial⟩ ?_
        rcases ite_some h38 with ⟨h23, h38⟩ | ⟨h23, h38⟩
        · refine Tri.cond_true (useb (decide_eq_true h23) (by kernel_rfl)) ?_
          refine Tri.skip ?_
          refine Tri.seq ?_
          refine Tri.block ?_
          obtain ⟨v35, h34, h38⟩ := bind_some' h38
          refine Tri.join (α := Bool) (fun w => v35 = w) (fun y33 => ⟨42, [(1, o1 (.ref 0 0)), (3, oI z22), (41, oB y33)], [eSFace a0], 0, []⟩) (fun y33 hw => ?_) ?_
          · rw [hw] at h38; clear hw
            try dsimp only at h38
            rcases iteb_some h38 with ⟨h36, h38⟩ | ⟨h36, h38⟩
            · refine Tri.cond_true (useb h36 (by kernel_rfl)) ?_
              refine Tri.rn [2] 0 [] [] [] ⟨42, [(2, oB false)], [], 0, []⟩ (by kernel_rfl) trivial ?_
              refine Tri.ret ?_
              obtain rfl := Option.some.inj h38
              try dsimp only at H
              obtain rfl := Option.some.inj H
              exact ⟨.inr rfl, rfl, rfl, Nat.le_refl _, rfl, by simp⟩
            · refine Tri.cond_false (useb h36 (by kernel_rfl)) ?_
              refine Tri.skip ?_
              refine Tri.r1 [1, 3] 1 [] [] [] ⟨42, [(1, o1 (.ref 0 0)), (3, oI (w64 (z22 + 1)))], [eSFace a0], 0, []⟩ (by kernel_rfl) trivial ?_
              exact IH37 _ (w64 (z22 + 1)) (Nat.le_refl _) h38
          · unfold spec_InterfaceOK.e2 at h34
            obtain ⟨x24, h25, h34⟩ := bind_some' h34
            obtain ⟨r26, h27, h34⟩ := bind_some' h34
            rcases iteb_some h34 with ⟨h28, h34⟩ | ⟨h28, h34⟩
            · obtain ⟨h29, h34⟩ := need_some h34
              obtain ⟨h30, h34⟩ := need_some h34
              obtain ⟨r31, h32, h34⟩ := bind_some' h34
              refine Tri.d1 hmix 18 [[], [0], [], [0, 1, 2], [0, 1, 2, 3], [0, 1, 2, 3, 4], [0, 1, 2, 3, 4, 5], [0, 1, 2, 3, 4, 5, 6], [0, 1, 2, 3, 4, 5, 6, 7], [0, 1, 2, 3, 4, 5, 6, 7, 8], [0, 1, 2, 3, 4, 5, 6, 7], [0, 1, 2, 3, 4, 5, 6, 7, 8, 9, 10], [0, 1, 2, 3, 4, 5, 6, 7], [0, 1, 2, 3, 4, 5, 6, 7, 12], [0, 1, 2, 3, 4, 5, 6, 7], [0, 1, 2, 3, 4, 5, 6, 7, 12, 13, 14], [0, 1, 2, 3, 4, 5, 6, 7, 12, 13, 14, 15], [0, 1, 2, 3, 4, 5, 6, 7, 12, 13, 14, 15, 16], [0, 1, 2, 3, 4, 5, 6, 7, 8, 9, 10, 11, 12, 13, 14, 15, 16, 17], [0, 1, 2, 3, 4, 5, 6, 7, 8, 9, 10, 11, 12, 13, 14, 15, 16, 17, 18], [0, 1, 2, 3, 4, 5, 6, 7, 8, 9, 10, 11, 12, 13, 14, 15, 16, 17, 18, 19]] [1, 3, 41] 1 [] [(3, .el (eSItem x24)), (5, .call (oB r26) [] false), (5, .ov [.sc (.bool true)]), (11, .ov [.sl 6 (List.map eSItem (List.take (Int.toNat (z22 - 0)) (List.drop (Int.toNat 0) a0.f1)))]), (15, .el (eSItem x24)), (18, .call (oI r31) [] false)] [_, _, _, _, _, _, _, _, _, _, _, _, _] ⟨42, [(1, o1 (.ref 0 0)), (3, oI z22), (41, oB (decide ((0 : Int) ≤ r31)))], [eSFace a0], 0, []⟩ (by kernel_rfl) ⟨(at?_0 h25), (at?_map (f := eSItem) h25), (spec_l03Item.fn k x24 r26 h27), (show (List.all [cB r26] PC.flatB) = true from rfl), (ovb h28), (show (0 : Int) ≤ 0 by decide), h29, (lenle (f := eSItem) (l := a0.f1) h30), (ovcut (s := 6) (l := a0.f1) (f := eSItem) (a := Int.toNat 0) (b := Int.toNat (z22 - 0))), (at?_0 h25), (at?_map (f := eSItem) h25), (spec_l03Find.fn k (List.take (Int.toNat (z22 - 0)) (List.drop (Int.toNat 0) a0.f1)) x24.f4 r31 h32), (show (List.all [cI r31] PC.flatB) = true from rfl), trivial⟩ ?_
              exact ⟨(decide ((0 : Int) ≤ r31)), (Option.some.inj h34).symm, rfl⟩
            · refine Tri.d1 hmix 18 [[], [0], [], [0, 1, 2], [0, 1, 2, 3], [0, 1, 2, 3, 4], [0, 1, 2, 3, 4, 5], [0, 1, 2, 3, 4, 5, 6], [0, 1, 2, 3, 4, 5, 6, 7], [0, 1, 2, 3, 4, 5, 6, 7, 8], [0, 1, 2, 3, 4, 5, 6, 7], [0, 1, 2, 3, 4, 5, 6, 7, 8, 9, 10], [0, 1, 2, 3, 4, 5, 6, 7], [0, 1, 2, 3, 4, 5, 6, 7, 12], [0, 1, 2, 3, 4, 5, 6, 7], [0, 1, 2, 3, 4, 5, 6, 7, 12, 13, 14], [0, 1, 2, 3, 4, 5, 6, 7, 12, 13, 14, 15], [0, 1, 2, 3, 4, 5, 6, 7, 12, 13, 14, 15, 16], [0, 1, 2, 3, 4, 5, 6, 7, 8, 9, 10, 11, 12, 13, 14, 15, 16, 17], [0, 1, 2, 3, 4, 5, 6, 7, 8, 9, 10, 11, 12, 13, 14, 15, 16, 17, 18], [0, 1, 2, 3, 4, 5, 6, 7, 8, 9, 10, 11, 12, 13, 14, 15, 16, 17, 18, 19]] [1, 3, 41] 1 [] [(3, .el (eSItem x24)), (5, .call (oB r26) [] false), (5, .ov [.sc (.bool false)])] [_, _, _, _, _] ⟨42, [(1, o1 (.ref 0 0)), (3, oI z22), (41, oB true)], [eSFace a0], 0, []⟩ (by kernel_rfl) ⟨(at?_0 h25), (at?_map (f := eSItem) h25), (spec_l03Item.fn k x24 r26 h27), (show (List.all [cB r26] PC.flatB) = true from rfl), (ovb h28), trivial⟩ ?_
              exact ⟨true, (Option.some.inj h34).symm, rfl⟩
        · refine Tri.cond_false (useb (decide_eq_false h23) (by kernel_rfl)) ?_
          refine Tri.fix [] 0 [] ⟨42, [], [], 0, []⟩ (by kernel_rfl) ?_
          refine Tri.exit ?_
          repeat (with_reducible refine Ex.exit ?_)
          refine Bk.here ?_
          exact ⟨(), (Option.some.inj h38).symm, rfl⟩
  · unfold spec_InterfaceOK.e1 at h5
    obtain ⟨r1, h2, h5⟩ := bind_some' h5
    rcases iteb_some h5 with ⟨h3, h5⟩ | ⟨h3, h5⟩
    · refine Tri.r1 [1, 13] 1 [] [(2, .call (oB r1) [] false), (2, .ov [.sc (.bool true)]), (7, .ov [.sc (.int .i64 (a0.f1.length : Int))])] [_, _, _, _] ⟨42, [(1, o1 (.ref 0 0)), (13, oB (decide ((60 : Int) < (a0.f1.length : Int))))], [eSFace a0], 0, []⟩ (by kernel_rfl) ⟨(spec_l02Name.fn k a0.f0 r1 h2), (show (List.all [cB r1] PC.flatB) = true from rfl), (ovb h3), (ovlen (f := eSItem) (l := a0.f1)), trivial⟩ ?_
      exact ⟨(decide ((60 : Int) < (a0.f1.length : Int))), (Option.some.inj h5).symm, rfl⟩
    · refine Tri.r1 [1, 13] 1 [] [(2, .call (oB r1) [] false), (2, .ov [.sc (.bool false)])] [_, _, _] ⟨42, [(1, o1 (.ref 0 0)), (13, oB true)], [eSFace a0], 0, []⟩ (by kernel_rfl) ⟨(spec_l02Name.fn k a0.f0 r1 h2), (show (List.all [cB r1] PC.flatB) = true from rfl), (ovb h3), trivial⟩ ?_
      exact ⟨true, (Option.some.inj h5).symm, rfl⟩
/-! spec_l03Text: function 114 -/
def spec_l03Text.f (k : Nat) (a0 : ByteArray) : Option (List Int) := if (([IntKind.u8.wrap ((a0.size : Int))] : List Int) ++ (bytesOf a0)).length * 1 ≤ 140737488355328 then (some (([IntKind.u8.wrap ((a0.size : Int))] : List Int) ++ (bytesOf a0))) else none
set_option maxRecDepth 100000 in
theorem spec_l03Text.fn (k : Nat) (a0 : ByteArray) (r : (List Int)) (H : spec_l03Text.f k a0 = some r) : Fn Tryz.prog 114 [oS a0] [] (o1 (.own 5 (List.map (eK .u8) r))) [] := by
  unfold spec_l03Text.f at H
  refine Fn.body (ts := [2]) Tryz.func114 rfl rfl (by decide) (by decide) (Nat.le_of_ble_eq_true rfl) (Nat.le_refl _) ?_
  refine Tri.rn [0] 0 [] [] [] ⟨9, [(0, oS a0)], [], 0, []⟩ (by kernel_rfl) trivial ?_
  obtain ⟨h1, H⟩ := need_some H
  refine Tri.rn [2] 0 [] [(5, .ov [.own 5 (List.map (eK .u8) (([IntKind.u8.wrap ((a0.size : Int))] : List Int) ++ (bytesOf a0)))])] [_, _, _] ⟨9, [(2, o1 (.own 5 (List.map (eK .u8) (([IntKind.u8.wrap ((a0.size : Int))] : List Int) ++ (bytesOf a0)))))], [], 0, []⟩ (by kernel_rfl) ⟨(appS1 (by decide) h1), (appS2 h1), (ovappS (e := 5) (l := ([IntKind.u8.wrap ((a0.size : Int))] : List Int)) (s := a0)), trivial⟩ ?_
  refine Tri.ret ?_
  obtain rfl := Option.some.inj H
  exact ⟨.inr rfl, rfl, rfl, Nat.le_refl _, rfl, by simp⟩
/-! spec_l03Eight: function 115 -/
def spec_l03Eight.l1 : Nat → Int → (List Int) → Int → Option (List Int)
  | 0, _, _, _ => none
  | k + 1, a0, z4, z5 => if (0 : Int) ≤ z5 then (if (0 : Int) ≤ (IntKind.u64.wrap (w64 (8 * z5))) then (if (z4 ++ ([IntKind.u8.wrap (ishr .i64 a0 (IntKind.u64.wrap (w64 (8 * z5))))] : List Int)).length * 1 ≤ 140737488355328 then (spec_l03Eight.l1 k a0 (z4 ++ ([IntKind.u8.wrap (ishr .i64 a0 (IntKind.u64.wrap (w64 (8 * z5))))] : List Int)) (w64 (z5 - 1))) else none) else none) else (some z4)
def spec_l03Eight.e2 (k : Nat) (a0 : Int) : Option (List Int) := spec_l03Eight.l1 k a0 ([] : List Int) 7
def spec_l03Eight.f (k : Nat) (a0 : Int) : Option (List Int) := (spec_l03Eight.e2 k a0).bind fun y10 => some y10
set_option maxRecDepth 100000 in
theorem spec_l03Eight.fn (k : Nat) (a0 : Int) (r : (List Int)) (H : spec_l03Eight.f k a0 = some r) : Fn Tryz.prog 115 [oI a0] [] (o1 (.own 5 (List.map (eK .u8) r))) [] := by
  unfold spec_l03Eight.f at H
  refine Fn.body (ts := [2]) Tryz.func115 rfl rfl (by decide) (by decide) (Nat.le_of_ble_eq_true rfl) (Nat.le_refl _) ?_
  refine Tri.rn [0] 0 [] [] [] ⟨20, [(0, oI a0)], [], 0, []⟩ (by kernel_rfl) trivial ?_
  refine Tri.rn [0, 3] 0 [] [] [] ⟨20, [(0, oI a0), (3, o1 (.own 5 (List.map (eK .u8) ([] : List Int))))], [], 0, []⟩ (by kernel_rfl) trivial ?_
  obtain ⟨v12, h11, H⟩ := bind_some' H
  refine Tri.join (α := (List Int)) (fun w => v12 = w) (fun y10 => ⟨20, [(3, o1 (.own 5 (List.map (eK .u8) y10)))], [], 0, []⟩) (fun y10 hw => ?_) ?_
  · rw [hw] at H; clear hw
    try dsimp only at H
    refine Tri.rn [2] 0 [] [] [] ⟨20, [(2, o1 (.own 5 (List.map (eK .u8) y10)))], [], 0, []⟩ (by kernel_rfl) trivial ?_
    refine Tri.ret ?_
    obtain rfl := Option.some.inj H
    exact ⟨.inr rfl, rfl, rfl, Nat.le_refl _, rfl, by simp⟩
  · unfold spec_l03Eight.e2 at h11
    refine Tri.rn [0, 3, 4] 0 [] [] [] ⟨20, [(0, oI a0), (3, o1 (.own 5 (List.map (eK .u8) ([] : List Int)))), (4, oI 7)], [], 0, []⟩ (by kernel_rfl) trivial ?_
    refine Tri.block ?_
    refine Tri.loop k (TriR.ind (α := ((List Int) × Int)) (fun k x => spec_l03Eight.l1 k a0 x.1 x.2) (fun x => ⟨20, [(0, oI a0), (3, o1 (.own 5 (List.map (eK .u8) x.1))), (4, oI x.2)], [], 0, []⟩) (fun _ => rfl) (fun k x h11 IH9 => ?_) k (([] : List Int), 7) h11)
    obtain ⟨z4, z5⟩ := x
    rw [spec_l03Eight.l1.eq_2] at h11
    refine Tri.seq ?_
    refine Tri.rn [0, 3, 4, 7] 0 [] [] [] ⟨20, [(0, oI a0), (3, o1 (.own 5 (List.map (eK .u8) z4))), (4, oI z5), (7, oB (decide ((0 : Int) ≤ z5)))], [], 0, []⟩ (by kernel_rfl) trivial ?_
    rcases ite_some h11 with ⟨h6, h11⟩ | ⟨h6, h11⟩
    · refine Tri.cond_true (useb (decide_eq_true h6) (by kernel_rfl)) ?_
      refine Tri.skip ?_
      refine Tri.seq ?_
      refine Tri.block ?_
      obtain ⟨h7, h11⟩ := need_some h11
      obtain ⟨h8, h11⟩ := need_some h11
      refine Tri.r1 [0, 3, 4] 0 [] [(8, .ov [.own 5 (List.map (eK .u8) (z4 ++ ([IntKind.u8.wrap (ishr .i64 a0 (IntKind.u64.wrap (w64 (8 * z5))))] : List Int)))])] [_, _, _, _] ⟨20, [(0, oI a0), (3, o1 (.own 5 (List.map (eK .u8) (z4 ++ ([IntKind.u8.wrap (ishr .i64 a0 (IntKind.u64.wrap (w64 (8 * z5))))] : List Int))))), (4, oI z5)], [], 0, []⟩ (by kernel_rfl) ⟨h7, (app1 (f := (eK .u8)) (by decide) h8), (app2 (f := (eK .u8)) h8), (ovapp (e := 5) (f := (eK .u8)) (l := z4) (m := ([IntKind.u8.wrap (ishr .i64 a0 (IntKind.u64.wrap (w64 (8 * z5))))] : List Int))), trivial⟩ ?_
      refine Tri.r1 [0, 3, 4] 0 [] [] [] ⟨20, [(0, oI a0), (3, o1 (.own 5 (List.map (eK .u8) (z4 ++ ([IntKind.u8.wrap (ishr .i64 a0 (IntKind.u64.wrap (w64 (8 * z5))))] : List Int))))), (4, oI (w64 (z5 - 1)))], [], 0, []⟩ (by kernel_rfl) trivial ?_
      exact IH9 _ (z4 ++ ([IntKind.u8.wrap (ishr .i64 a0 (IntKind.u64.wrap (w64 (8 * z5))))] : List Int), w64 (z5 - 1)) (Nat.le_refl _) h11
    · refine Tri.cond_false (useb (decide_eq_false h6) (by kernel_rfl)) ?_
      refine Tri.fix [3] 0 [] ⟨20, [(3, o1 (.own 5 (List.map (eK .u8) z4)))], [], 0, []⟩ (by kernel_rfl) ?_
      refine Tri.exit ?_
      repeat (with_reducible refine Ex.exit ?_)
      refine Bk.here ?_
      exact ⟨z4, (Option.some.inj h11).symm, rfl⟩
/-! spec_l02Bit: function 116 -/
def spec_l02Bit.f (k : Nat) (a0 : Bool) : Option Int := if a0 = true then (some 1) else (some 0)
set_option maxRecDepth 100000 in
theorem spec_l02Bit.fn (k : Nat) (a0 : Bool) (r : Int) (H : spec_l02Bit.f k a0 = some r) : Fn Tryz.prog 116 [oB a0] [] (oI r) [] := by
  unfold spec_l02Bit.f at H
  refine Fn.body (ts := [2]) Tryz.func116 rfl rfl (by decide) (by decide) (Nat.le_of_ble_eq_true rfl) (Nat.le_refl _) ?_
  refine Tri.rn [0] 0 [] [] [] ⟨4, [(0, oB a0)], [], 0, []⟩ (by kernel_rfl) trivial ?_
  refine Tri.seq ?_
  refine Tri.rn [3] 0 [] [] [] ⟨4, [(3, oB a0)], [], 0, []⟩ (by kernel_rfl) trivial ?_
  rcases iteb_some H with ⟨h1, H⟩ | ⟨h1, H⟩
  · refine Tri.cond_true (useb h1 (by kernel_rfl)) ?_
    refine Tri.rn [2] 0 [] [] [] ⟨4, [(2, oI 1)], [], 0, []⟩ (by kernel_rfl) trivial ?_
    refine Tri.ret ?_
    obtain rfl := Option.some.inj H
    exact ⟨.inr rfl, rfl, rfl, Nat.le_refl _, rfl, by simp⟩
  · refine Tri.cond_false (useb h1 (by kernel_rfl)) ?_
    refine Tri.skip ?_
    refine Tri.rn [2] 0 [] [] [] ⟨4, [(2, oI 0)], [], 0, []⟩ (by kernel_rfl) trivial ?_
    refine Tri.ret ?_
    obtain rfl := Option.some.inj H
    exact ⟨.inr rfl, rfl, rfl, Nat.le_refl _, rfl, by simp⟩
/-! spec_l03Bytes: function 56 -/
def spec_l03Bytes.l1 : Nat → SItem → (List Int) → Int → Option (List Int)
  | 0, _, _, _ => none
  | k + 1, x37, z53, z54 => if z54 < (x37.f5.length : Int) then ((at? x37.f5 z54).bind fun x56 => (spec_l02Bit.f k x56.f1).bind fun r58 => if (z53 ++ ([IntKind.u8.wrap (w64 (x56.f0 + (w64 (8 * r58))))] : List Int)).length * 1 ≤ 140737488355328 then (spec_l03Bytes.l1 k x37 (z53 ++ ([IntKind.u8.wrap (w64 (x56.f0 + (w64 (8 * r58))))] : List Int)) (w64 (z54 + 1))) else none) else (some z53)
def spec_l03Bytes.e2 (k : Nat) (a0 : SFace) (z34 : (List Int)) (z35 : Int) : Option (List Int) := (at? a0.f1 z35).bind fun x37 => if (z34 ++ ([IntKind.u8.wrap (x37.f0), IntKind.u8.wrap (x37.f1), IntKind.u8.wrap (x37.f2)] : List Int)).length * 1 ≤ 140737488355328 then ((spec_l03Eight.f k x37.f3).bind fun r40 => if ((z34 ++ ([IntKind.u8.wrap (x37.f0), IntKind.u8.wrap (x37.f1), IntKind.u8.wrap (x37.f2)] : List Int)) ++ r40).length * 1 ≤ 140737488355328 then ((spec_l03Text.f k x37.f4).bind fun r43 => if (((z34 ++ ([IntKind.u8.wrap (x37.f0), IntKind.u8.wrap (x37.f1), IntKind.u8.wrap (x37.f2)] : List Int)) ++ r40) ++ r43).length * 1 ≤ 140737488355328 then (if ((((z34 ++ ([IntKind.u8.wrap (x37.f0), IntKind.u8.wrap (x37.f1), IntKind.u8.wrap (x37.f2)] : List Int)) ++ r40) ++ r43) ++ ([IntKind.u8.wrap ((x37.f5.length : Int))] : List Int)).length * 1 ≤ 140737488355328 then (spec_l03Bytes.l1 k x37 ((((z34 ++ ([IntKind.u8.wrap (x37.f0), IntKind.u8.wrap (x37.f1), IntKind.u8.wrap (x37.f2)] : List Int)) ++ r40) ++ r43) ++ ([IntKind.u8.wrap ((x37.f5.length : Int))] : List Int)) 0) else none) else none) else none) else none
def spec_l03Bytes.l3 : Nat → SFace → (List Int) → Int → Option (List Int)
  | 0, _, _, _ => none
  | k + 1, a0, z34, z35 => if z35 < (a0.f1.length : Int) then ((spec_l03Bytes.e2 k a0 z34 z35).bind fun y62 => spec_l03Bytes.l3 k a0 y62 (w64 (z35 + 1))) else (some z34)
def spec_l03Bytes.e4 (k : Nat) (a0 : SFace) (r1 : (List Int)) : Option (List Int) := spec_l03Bytes.l3 k a0 ((([79, 73, 49] : List Int) ++ r1) ++ ([IntKind.u8.wrap ((a0.f1.length : Int))] : List Int)) 0
def spec_l03Bytes.f (k : Nat) (a0 : SFace) : Option (List Int) := (spec_l03Text.f k a0.f0).bind fun r1 => if (([79, 73, 49] : List Int) ++ r1).length * 1 ≤ 140737488355328 then (if ((([79, 73, 49] : List Int) ++ r1) ++ ([IntKind.u8.wrap ((a0.f1.length : Int))] : List Int)).length * 1 ≤ 140737488355328 then ((spec_l03Bytes.e4 k a0 r1).bind fun y66 => some y66) else none) else none
set_option maxRecDepth 100000 in
theorem spec_l03Bytes.fn (k : Nat) (a0 : SFace) (r : (List Int)) (H : spec_l03Bytes.f k a0 = some r) : Fn Tryz.prog 56 [ag (eSFace a0)] [] (o1 (.own 5 (List.map (eK .u8) r))) [] := by
  unfold spec_l03Bytes.f at H
  refine Fn.body (ts := [2]) Tryz.func56 rfl rfl (by decide) (by decide) (Nat.le_of_ble_eq_true rfl) (Nat.le_refl _) ?_
  refine Tri.rn [1] 1 [] [] [] ⟨87, [(1, o1 (.ref 0 0))], [eSFace a0], 0, []⟩ (by kernel_rfl) trivial ?_
  obtain ⟨r1, h2, H⟩ := bind_some' H
  obtain ⟨h3, H⟩ := need_some H
  refine Tri.rn [1, 3] 1 [] [(4, .call (o1 (.own 5 (List.map (eK .u8) r1))) [] false), (5, .ov [.own 5 (List.map (eK .u8) (([79, 73, 49] : List Int) ++ r1))])] [_, _, _, _, _, _] ⟨87, [(1, o1 (.ref 0 0)), (3, o1 (.own 5 (List.map (eK .u8) (([79, 73, 49] : List Int) ++ r1))))], [eSFace a0], 0, []⟩ (by kernel_rfl) ⟨(by simp : List.map (eK .u8) ([79, 73, 49] : List Int) ≠ []), (spec_l03Text.fn k a0.f0 r1 h2), (show (List.all [.own 5 (List.map (eK .u8) r1)] PC.flatB) = true by simp [PC.flatB, PC.scalar, cI, cK, cB, cS, eK]), (app1 (f := (eK .u8)) (by decide) h3), (app2 (f := (eK .u8)) h3), (ovapp (e := 5) (f := (eK .u8)) (l := ([79, 73, 49] : List Int)) (m := r1)), trivial⟩ ?_
  obtain ⟨h4, H⟩ := need_some H
  refine Tri.rn [1, 3] 1 [] [(3, .ov [.sc (.int .i64 (a0.f1.length : Int))]), (6, .ov [.own 5 (List.map (eK .u8) ((([79, 73, 49] : List Int) ++ r1) ++ ([IntKind.u8.wrap ((a0.f1.length : Int))] : List Int)))])] [_, _, _, _] ⟨87, [(1, o1 (.ref 0 0)), (3, o1 (.own 5 (List.map (eK .u8) ((([79, 73, 49] : List Int) ++ r1) ++ ([IntKind.u8.wrap ((a0.f1.length : Int))] : List Int)))))], [eSFace a0], 0, []⟩ (by kernel_rfl) ⟨(ovlen (f := eSItem) (l := a0.f1)), (app1 (f := (eK .u8)) (by decide) h4), (app2 (f := (eK .u8)) h4), (ovapp (e := 5) (f := (eK .u8)) (l := ([79, 73, 49] : List Int) ++ r1) (m := ([IntKind.u8.wrap ((a0.f1.length : Int))] : List Int))), trivial⟩ ?_
  obtain ⟨v68, h67, H⟩ := bind_some' H
  refine Tri.join (α := (List Int)) (fun w => v68 = w) (fun y66 => ⟨87, [(3, o1 (.own 5 (List.map (eK .u8) y66)))], [], 0, []⟩) (fun y66 hw => ?_) ?_
  · rw [hw] at H; clear hw
    try dsimp only at H
    refine Tri.rn [2] 0 [] [] [] ⟨87, [(2, o1 (.own 5 (List.map (eK .u8) y66)))], [], 0, []⟩ (by kernel_rfl) trivial ?_
    refine Tri.ret ?_
    obtain rfl := Option.some.inj H
    exact ⟨.inr rfl, rfl, rfl, Nat.le_refl _, rfl, by simp⟩
  · unfold spec_l03Bytes.e4 at h67
    refine Tri.rn [1, 3, 4] 1 [] [] [] ⟨87, [(1, o1 (.ref 0 0)), (3, o1 (.own 5 (List.map (eK .u8) ((([79, 73, 49] : List Int) ++ r1) ++ ([IntKind.u8.wrap ((a0.f1.length : Int))] : List Int))))), (4, oI 0)], [eSFace a0], 0, []⟩ (by kernel_rfl) trivial ?_
    refine Tri.block ?_
    refine Tri.loop k (TriR.ind (α := ((List Int) × Int)) (fun k x => spec_l03Bytes.l3 k a0 x.1 x.2) (fun x => ⟨87, [(1, o1 (.ref 0 0)), (3, o1 (.own 5 (List.map (eK .u8) x.1))), (4, oI x.2)], [eSFace a0], 0, []⟩) (fun _ => rfl) (fun k x h67 IH65 => ?_) k ((([79, 73, 49] : List Int) ++ r1) ++ ([IntKind.u8.wrap ((a0.f1.length : Int))] : List Int), 0) h67)
    obtain ⟨z34, z35⟩ := x
    rw [spec_l03Bytes.l3.eq_2] at h67
    refine Tri.seq ?_
    refine Tri.rn [1, 3, 4, 24] 1 [] [(3, .ov [.sc (.int .i64 (a0.f1.length : Int))])] [_] ⟨87, [(1, o1 (.ref 0 0)), (3, o1 (.own 5 (List.map (eK .u8) z34))), (4, oI z35), (24, oB (decide (z35 < (a0.f1.length : Int))))], [eSFace a0], 0, []⟩ (by kernel_rfl) ⟨(ovlen (f := eSItem) (l := a0.f1)), trivial⟩ ?_
    rcases ite_some h67 with ⟨h36, h67⟩ | ⟨h36, h67⟩
    · refine Tri.cond_true (useb (decide_eq_true h36) (by kernel_rfl)) ?_
      refine Tri.skip ?_
      obtain ⟨v64, h63, h67⟩ := bind_some' h67
      refine Tri.join (α := (List Int)) (fun w => v64 = w) (fun y62 => ⟨87, [(1, o1 (.ref 0 0)), (3, o1 (.own 5 (List.map (eK .u8) y62))), (4, oI z35)], [eSFace a0], 0, []⟩) (fun y62 hw => ?_) ?_
      · rw [hw] at h67; clear hw
        try dsimp only at h67
        refine Tri.r1 [1, 3, 4] 1 [] [] [] ⟨87, [(1, o1 (.ref 0 0)), (3, o1 (.own 5 (List.map (eK .u8) y62))), (4, oI (w64 (z35 + 1)))], [eSFace a0], 0, []⟩ (by kernel_rfl) trivial ?_
        exact IH65 _ (y62, w64 (z35 + 1)) (Nat.le_refl _) h67
      · unfold spec_l03Bytes.e2 at h63
        refine Tri.block ?_
        obtain ⟨x37, h38, h63⟩ := bind_some' h63
        refine Tri.rn [1, 3, 4, 5] 2 [] [(3, .el (eSItem x37))] [_, _] ⟨87, [(1, o1 (.ref 0 0)), (3, o1 (.own 5 (List.map (eK .u8) z34))), (4, oI z35), (5, o1 (.ref 1 0))], [eSFace a0, eSItem x37], 0, []⟩ (by kernel_rfl) ⟨(at?_0 h38), (at?_map (f := eSItem) h38), trivial⟩ ?_
        obtain ⟨h39, h63⟩ := need_some h63
        obtain ⟨r40, h41, h63⟩ := bind_some' h63
        obtain ⟨h42, h63⟩ := need_some h63
        refine Tri.dEn hmix [[], [], [1], [1, 2], [], [4], [4, 5], [], [7], [7, 8], [1, 2, 3, 4, 5, 6, 7, 8, 9], [0, 1, 2, 3, 4, 5, 6, 7, 8, 9, 10], [], [12], [0, 1, 2, 3, 4, 5, 6, 7, 8, 9, 10, 11, 12, 13], [0, 1, 2, 3, 4, 5, 6, 7, 8, 9, 10, 11, 12, 13, 14], [0, 1, 2, 3, 4, 5, 6, 7, 8, 9, 10, 11, 12, 13, 14, 15]] [11] [⟨87, [(1, o1 (.ref 0 0)), (3, o1 .dead), (4, oI z35), (5, o1 (.ref 1 0))], [eSFace a0, eSItem x37], 0, []⟩] [(32, o1 (.al (.t 3 0))), (33, o1 (.ref 1 0)), (34, oI x37.f0), (35, o1 (cK .u8 (IntKind.u8.wrap (x37.f0)))), (36, o1 (.ref 1 1)), (37, oI x37.f1), (38, o1 (cK .u8 (IntKind.u8.wrap (x37.f1)))), (39, o1 (.ref 1 2)), (40, oI x37.f2), (41, o1 (cK .u8 (IntKind.u8.wrap (x37.f2)))), (42, o1 (.own 5 (List.map (eK .u8) ([IntKind.u8.wrap (x37.f0), IntKind.u8.wrap (x37.f1), IntKind.u8.wrap (x37.f2)] : List Int)))), (43, o1 (.own 5 (List.map (eK .u8) z34 ++ List.map (eK .u8) ([IntKind.u8.wrap (x37.f0), IntKind.u8.wrap (x37.f1), IntKind.u8.wrap (x37.f2)] : List Int)))), (44, o1 (.ref 1 3)), (45, oI x37.f3)] [1, 3, 4, 5] 2 [] [] [(14, .call (o1 (.own 5 (List.map (eK .u8) r40))) [] false), (14, .ovp (.t 43 0) (.own 5 (List.map (eK .u8) (z34 ++ ([IntKind.u8.wrap (x37.f0), IntKind.u8.wrap (x37.f1), IntKind.u8.wrap (x37.f2)] : List Int))))), (15, .ov [.own 5 (List.map (eK .u8) ((z34 ++ ([IntKind.u8.wrap (x37.f0), IntKind.u8.wrap (x37.f1), IntKind.u8.wrap (x37.f2)] : List Int)) ++ r40))])] [_, _, _, _, _, _, _, _, _, _, _, _, _, _, _, _, _, _, _, _, _, _, _, _, _] ⟨87, [(1, o1 (.ref 0 0)), (3, o1 (.own 5 (List.map (eK .u8) ((z34 ++ ([IntKind.u8.wrap (x37.f0), IntKind.u8.wrap (x37.f1), IntKind.u8.wrap (x37.f2)] : List Int)) ++ r40)))), (4, oI z35), (5, o1 (.ref 1 0))], [eSFace a0, eSItem x37], 0, []⟩ (by kernel_rfl) ⟨(rfl : ((87, 0, []) : Nat × Nat × List Nat) = ((87, 0, []) : Nat × Nat × List Nat)), (rfl : (o1 (.al (.t 3 0)) : PV) = (o1 (.al (.t 3 0)) : PV)), (rfl : (o1 (.ref 1 0) : PV) = (o1 (.ref 1 0) : PV)), (rfl : (oI x37.f0 : PV) = (oI x37.f0 : PV)), (rfl : (o1 (cK .u8 (IntKind.u8.wrap (x37.f0))) : PV) = (o1 (cK .u8 (IntKind.u8.wrap (x37.f0))) : PV)), (rfl : (o1 (.ref 1 1) : PV) = (o1 (.ref 1 1) : PV)), (rfl : (oI x37.f1 : PV) = (oI x37.f1 : PV)), (rfl : (o1 (cK .u8 (IntKind.u8.wrap (x37.f1))) : PV) = (o1 (cK .u8 (IntKind.u8.wrap (x37.f1))) : PV)), (rfl : (o1 (.ref 1 2) : PV) = (o1 (.ref 1 2) : PV)), (rfl : (oI x37.f2 : PV) = (oI x37.f2 : PV)), (rfl : (o1 (cK .u8 (IntKind.u8.wrap (x37.f2))) : PV) = (o1 (cK .u8 (IntKind.u8.wrap (x37.f2))) : PV)), (rfl : (o1 (.own 5 (List.map (eK .u8) ([IntKind.u8.wrap (x37.f0), IntKind.u8.wrap (x37.f1), IntKind.u8.wrap (x37.f2)] : List Int))) : PV) = (o1 (.own 5 (List.map (eK .u8) ([IntKind.u8.wrap (x37.f0), IntKind.u8.wrap (x37.f1), IntKind.u8.wrap (x37.f2)] : List Int))) : PV)), (app1 (f := (eK .u8)) (by decide) h39), (app2 (f := (eK .u8)) h39), (rfl : (([some (o1 (.own 5 (List.map (eK .u8) z34 ++ List.map (eK .u8) ([IntKind.u8.wrap (x37.f0), IntKind.u8.wrap (x37.f1), IntKind.u8.wrap (x37.f2)] : List Int)))), some (o1 (.al (.t 3 0))), some (o1 (.ref 1 0)), some (oI x37.f0), some (o1 (cK .u8 (IntKind.u8.wrap (x37.f0)))), some (o1 (.ref 1 1)), some (oI x37.f1), some (o1 (cK .u8 (IntKind.u8.wrap (x37.f1)))), some (o1 (.ref 1 2)), some (oI x37.f2), some (o1 (cK .u8 (IntKind.u8.wrap (x37.f2)))), some (o1 (.own 5 (List.map (eK .u8) ([IntKind.u8.wrap (x37.f0), IntKind.u8.wrap (x37.f1), IntKind.u8.wrap (x37.f2)] : List Int)))), some (o1 (.ref 0 0)), some (o1 .dead), some (oI z35), some (o1 (.ref 1 0))], [eSFace a0, eSItem x37], 87, 0, []) : List (Option PV) × List (List PC) × Nat × Nat × List Nat) = (([some (o1 (.own 5 (List.map (eK .u8) z34 ++ List.map (eK .u8) ([IntKind.u8.wrap (x37.f0), IntKind.u8.wrap (x37.f1), IntKind.u8.wrap (x37.f2)] : List Int)))), some (o1 (.al (.t 3 0))), some (o1 (.ref 1 0)), some (oI x37.f0), some (o1 (cK .u8 (IntKind.u8.wrap (x37.f0)))), some (o1 (.ref 1 1)), some (oI x37.f1), some (o1 (cK .u8 (IntKind.u8.wrap (x37.f1)))), some (o1 (.ref 1 2)), some (oI x37.f2), some (o1 (cK .u8 (IntKind.u8.wrap (x37.f2)))), some (o1 (.own 5 (List.map (eK .u8) ([IntKind.u8.wrap (x37.f0), IntKind.u8.wrap (x37.f1), IntKind.u8.wrap (x37.f2)] : List Int)))), some (o1 (.ref 0 0)), some (o1 .dead), some (oI z35), some (o1 (.ref 1 0))], [eSFace a0, eSItem x37], 87, 0, []) : List (Option PV) × List (List PC) × Nat × Nat × List Nat)), (rfl : (o1 (.ref 1 3) : PV) = (o1 (.ref 1 3) : PV)), (rfl : (o1 (.ref 1 3) : PV) = (o1 (.ref 1 3) : PV)), (rfl : (oI x37.f3 : PV) = (oI x37.f3 : PV)), (rfl : (oI x37.f3 : PV) = (oI x37.f3 : PV)), (spec_l03Eight.fn k x37.f3 r40 h41), (show (List.all [.own 5 (List.map (eK .u8) r40)] PC.flatB) = true by simp [PC.flatB, PC.scalar, cI, cK, cB, cS, eK]), (show PC.own 5 (List.map (eK .u8) z34 ++ List.map (eK .u8) ([IntKind.u8.wrap (x37.f0), IntKind.u8.wrap (x37.f1), IntKind.u8.wrap (x37.f2)] : List Int)) = PC.own 5 (List.map (eK .u8) (z34 ++ ([IntKind.u8.wrap (x37.f0), IntKind.u8.wrap (x37.f1), IntKind.u8.wrap (x37.f2)] : List Int))) by simp only [List.map_append]), (app1 (f := (eK .u8)) (by decide) h42), (app2 (f := (eK .u8)) h42), (ovapp (e := 5) (f := (eK .u8)) (l := z34 ++ ([IntKind.u8.wrap (x37.f0), IntKind.u8.wrap (x37.f1), IntKind.u8.wrap (x37.f2)] : List Int)) (m := r40)), trivial⟩ ?_
        obtain ⟨r43, h44, h63⟩ := bind_some' h63
        obtain ⟨h45, h63⟩ := need_some h63
        refine Tri.rn [1, 3, 4, 5] 2 [] [(3, .call (o1 (.own 5 (List.map (eK .u8) r43))) [] false), (4, .ov [.own 5 (List.map (eK .u8) (((z34 ++ ([IntKind.u8.wrap (x37.f0), IntKind.u8.wrap (x37.f1), IntKind.u8.wrap (x37.f2)] : List Int)) ++ r40) ++ r43))])] [_, _, _, _, _] ⟨87, [(1, o1 (.ref 0 0)), (3, o1 (.own 5 (List.map (eK .u8) (((z34 ++ ([IntKind.u8.wrap (x37.f0), IntKind.u8.wrap (x37.f1), IntKind.u8.wrap (x37.f2)] : List Int)) ++ r40) ++ r43)))), (4, oI z35), (5, o1 (.ref 1 0))], [eSFace a0, eSItem x37], 0, []⟩ (by kernel_rfl) ⟨(spec_l03Text.fn k x37.f4 r43 h44), (show (List.all [.own 5 (List.map (eK .u8) r43)] PC.flatB) = true by simp [PC.flatB, PC.scalar, cI, cK, cB, cS, eK]), (app1 (f := (eK .u8)) (by decide) h45), (app2 (f := (eK .u8)) h45), (ovapp (e := 5) (f := (eK .u8)) (l := (z34 ++ ([IntKind.u8.wrap (x37.f0), IntKind.u8.wrap (x37.f1), IntKind.u8.wrap (x37.f2)] : List Int)) ++ r40) (m := r43)), trivial⟩ ?_
        obtain ⟨h46, h63⟩ := need_some h63
        refine Tri.rn [1, 3, 4, 5] 2 [] [(3, .ov [.sc (.int .i64 (x37.f5.length : Int))]), (6, .ov [.own 5 (List.map (eK .u8) ((((z34 ++ ([IntKind.u8.wrap (x37.f0), IntKind.u8.wrap (x37.f1), IntKind.u8.wrap (x37.f2)] : List Int)) ++ r40) ++ r43) ++ ([IntKind.u8.wrap ((x37.f5.length : Int))] : List Int)))])] [_, _, _, _] ⟨87, [(1, o1 (.ref 0 0)), (3, o1 (.own 5 (List.map (eK .u8) ((((z34 ++ ([IntKind.u8.wrap (x37.f0), IntKind.u8.wrap (x37.f1), IntKind.u8.wrap (x37.f2)] : List Int)) ++ r40) ++ r43) ++ ([IntKind.u8.wrap ((x37.f5.length : Int))] : List Int))))), (4, oI z35), (5, o1 (.ref 1 0))], [eSFace a0, eSItem x37], 0, []⟩ (by kernel_rfl) ⟨(ovlen (f := eSParam) (l := x37.f5)), (app1 (f := (eK .u8)) (by decide) h46), (app2 (f := (eK .u8)) h46), (ovapp (e := 5) (f := (eK .u8)) (l := ((z34 ++ ([IntKind.u8.wrap (x37.f0), IntKind.u8.wrap (x37.f1), IntKind.u8.wrap (x37.f2)] : List Int)) ++ r40) ++ r43) (m := ([IntKind.u8.wrap ((x37.f5.length : Int))] : List Int))), trivial⟩ ?_
        refine Tri.rn [1, 3, 4, 5, 6] 2 [] [] [] ⟨87, [(1, o1 (.ref 0 0)), (3, o1 (.own 5 (List.map (eK .u8) ((((z34 ++ ([IntKind.u8.wrap (x37.f0), IntKind.u8.wrap (x37.f1), IntKind.u8.wrap (x37.f2)] : List Int)) ++ r40) ++ r43) ++ ([IntKind.u8.wrap ((x37.f5.length : Int))] : List Int))))), (4, oI z35), (5, o1 (.ref 1 0)), (6, oI 0)], [eSFace a0, eSItem x37], 0, []⟩ (by kernel_rfl) trivial ?_
        refine Tri.block ?_
        refine Tri.loop k (TriR.ind (α := ((List Int) × Int)) (fun k x => spec_l03Bytes.l1 k x37 x.1 x.2) (fun x => ⟨87, [(1, o1 (.ref 0 0)), (3, o1 (.own 5 (List.map (eK .u8) x.1))), (4, oI z35), (5, o1 (.ref 1 0)), (6, oI x.2)], [eSFace a0, eSItem x37], 0, []⟩) (fun _ => rfl) (fun k x h63 IH61 => ?_) k ((((z34 ++ ([IntKind.u8.wrap (x37.f0), IntKind.u8.wrap (x37.f1), IntKind.u8.wrap (x37.f2)] : List Int)) ++ r40) ++ r43) ++ ([IntKind.u8.wrap ((x37.f5.length : Int))] : List Int), 0) h63)
        obtain ⟨z53, z54⟩ := x
        rw [spec_l03Bytes.l1.eq_2] at h63
        refine Tri.seq ?_
        refine Tri.rn [1, 3, 4, 5, 6, 64] 2 [] [(3, .ov [.sc (.int .i64 (x37.f5.length : Int))])] [_] ⟨87, [(1, o1 (.ref 0 0)), (3, o1 (.own 5 (List.map (eK .u8) z53))), (4, oI z35), (5, o1 (.ref 1 0)), (6, oI z54), (64, oB (decide (z54 < (x37.f5.length : Int))))], [eSFace a0, eSItem x37], 0, []⟩ (by kernel_rfl) ⟨(ovlen (f := eSParam) (l := x37.f5)), trivial⟩ ?_
        rcases ite_some h63 with ⟨h55, h63⟩ | ⟨h55, h63⟩
        · refine Tri.cond_true (useb (decide_eq_true h55) (by kernel_rfl)) ?_
          refine Tri.skip ?_
          refine Tri.seq ?_
          refine Tri.block ?_
          obtain ⟨x56, h57, h63⟩ := bind_some' h63
          obtain ⟨r58, h59, h63⟩ := bind_some' h63
          obtain ⟨h60, h63⟩ := need_some h63
          refine Tri.d1 hmix 18 [[], [], [1], [], [1, 2, 3], [1, 2, 3, 4], [1, 2, 3, 4, 5], [], [7], [], [7, 8, 9], [7, 8, 9, 10], [7, 8, 9, 10, 11], [7, 8, 9, 10, 11, 12], [7, 8, 9, 10, 11, 12, 13], [1, 2, 3, 4, 5, 6, 7, 8, 9, 10, 11, 12, 13, 14], [1, 2, 3, 4, 5, 6, 7, 8, 9, 10, 11, 12, 13, 14, 15], [1, 2, 3, 4, 5, 6, 7, 8, 9, 10, 11, 12, 13, 14, 15, 16], [0, 1, 2, 3, 4, 5, 6, 7, 8, 9, 10, 11, 12, 13, 14, 15, 16, 17], [0, 1, 2, 3, 4, 5, 6, 7, 8, 9, 10, 11, 12, 13, 14, 15, 16, 17, 18]] [1, 3, 4, 5, 6] 2 [] [(4, .el (eSParam x56)), (10, .el (eSParam x56)), (13, .call (oI r58) [] false), (18, .ov [.own 5 (List.map (eK .u8) (z53 ++ ([IntKind.u8.wrap (w64 (x56.f0 + (w64 (8 * r58))))] : List Int)))])] [_, _, _, _, _, _, _, _, _] ⟨87, [(1, o1 (.ref 0 0)), (3, o1 (.own 5 (List.map (eK .u8) (z53 ++ ([IntKind.u8.wrap (w64 (x56.f0 + (w64 (8 * r58))))] : List Int))))), (4, oI z35), (5, o1 (.ref 1 0)), (6, oI z54)], [eSFace a0, eSItem x37], 0, []⟩ (by kernel_rfl) ⟨(at?_0 h57), (at?_map (f := eSParam) h57), (at?_0 h57), (at?_map (f := eSParam) h57), (spec_l02Bit.fn k x56.f1 r58 h59), (show (List.all [cI r58] PC.flatB) = true from rfl), (app1 (f := (eK .u8)) (by decide) h60), (app2 (f := (eK .u8)) h60), (ovapp (e := 5) (f := (eK .u8)) (l := z53) (m := ([IntKind.u8.wrap (w64 (x56.f0 + (w64 (8 * r58))))] : List Int))), trivial⟩ ?_
          refine Tri.r1 [1, 3, 4, 5, 6] 2 [] [] [] ⟨87, [(1, o1 (.ref 0 0)), (3, o1 (.own 5 (List.map (eK .u8) (z53 ++ ([IntKind.u8.wrap (w64 (x56.f0 + (w64 (8 * r58))))] : List Int))))), (4, oI z35), (5, o1 (.ref 1 0)), (6, oI (w64 (z54 + 1)))], [eSFace a0, eSItem x37], 0, []⟩ (by kernel_rfl) trivial ?_
          exact IH61 _ (z53 ++ ([IntKind.u8.wrap (w64 (x56.f0 + (w64 (8 * r58))))] : List Int), w64 (z54 + 1)) (Nat.le_refl _) h63
        · refine Tri.cond_false (useb (decide_eq_false h55) (by kernel_rfl)) ?_
          refine Tri.fix [1, 3, 4] 1 [] ⟨87, [(1, o1 (.ref 0 0)), (3, o1 (.own 5 (List.map (eK .u8) z53))), (4, oI z35)], [eSFace a0], 0, []⟩ (by kernel_rfl) ?_
          refine Tri.exit ?_
          repeat (with_reducible refine Ex.exit ?_)
          refine Bk.here ?_
          exact ⟨z53, (Option.some.inj h63).symm, rfl⟩
    · refine Tri.cond_false (useb (decide_eq_false h36) (by kernel_rfl)) ?_
      refine Tri.fix [3] 0 [] ⟨87, [(3, o1 (.own 5 (List.map (eK .u8) z34)))], [], 0, []⟩ (by kernel_rfl) ?_
      refine Tri.exit ?_
      repeat (with_reducible refine Ex.exit ?_)
      refine Bk.here ?_
      exact ⟨z34, (Option.some.inj h67).symm, rfl⟩
/-! spec_l03Sum: function 55 -/
def spec_l03Sum.l1 : Nat → (List Int) → Int → Int → Option Int
  | 0, _, _, _ => none
  | k + 1, a0, z4, z5 => if z5 < (a0.length : Int) then ((at? a0 z5).bind fun x7 => spec_l03Sum.l1 k a0 (Int.tmod (w64 ((ixor .i64 z4 (w64 (x7))) * 16777619)) 4294967296) (w64 (z5 + 1))) else (some z4)
def spec_l03Sum.e2 (k : Nat) (a0 : (List Int)) : Option Int := spec_l03Sum.l1 k a0 2166136261 0
def spec_l03Sum.f (k : Nat) (a0 : (List Int)) : Option Int := (spec_l03Sum.e2 k a0).bind fun y10 => some y10
set_option maxRecDepth 100000 in
theorem spec_l03Sum.fn (k : Nat) (a0 : (List Int)) (r : Int) (H : spec_l03Sum.f k a0 = some r) : Fn Tryz.prog 55 [o1 (.sl 1 (List.map (eK .u8) a0))] [] (oI r) [] := by
  unfold spec_l03Sum.f at H
  refine Fn.body (ts := [2]) Tryz.func55 rfl rfl (by decide) (by decide) (Nat.le_of_ble_eq_true rfl) (Nat.le_refl _) ?_
  refine Tri.rn [0] 0 [] [] [] ⟨21, [(0, o1 (.sl 1 (List.map (eK .u8) a0)))], [], 0, []⟩ (by kernel_rfl) trivial ?_
  refine Tri.rn [0, 3] 0 [] [] [] ⟨21, [(0, o1 (.sl 1 (List.map (eK .u8) a0))), (3, oI 2166136261)], [], 0, []⟩ (by kernel_rfl) trivial ?_
  obtain ⟨v12, h11, H⟩ := bind_some' H
  refine Tri.join (α := Int) (fun w => v12 = w) (fun y10 => ⟨21, [(3, oI y10)], [], 0, []⟩) (fun y10 hw => ?_) ?_
  · rw [hw] at H; clear hw
    try dsimp only at H
    refine Tri.rn [2] 0 [] [] [] ⟨21, [(2, oI y10)], [], 0, []⟩ (by kernel_rfl) trivial ?_
    refine Tri.ret ?_
    obtain rfl := Option.some.inj H
    exact ⟨.inr rfl, rfl, rfl, Nat.le_refl _, rfl, by simp⟩
  · unfold spec_l03Sum.e2 at h11
    refine Tri.rn [0, 3, 4] 0 [] [] [] ⟨21, [(0, o1 (.sl 1 (List.map (eK .u8) a0))), (3, oI 2166136261), (4, oI 0)], [], 0, []⟩ (by kernel_rfl) trivial ?_
    refine Tri.block ?_
    refine Tri.loop k (TriR.ind (α := (Int × Int)) (fun k x => spec_l03Sum.l1 k a0 x.1 x.2) (fun x => ⟨21, [(0, o1 (.sl 1 (List.map (eK .u8) a0))), (3, oI x.1), (4, oI x.2)], [], 0, []⟩) (fun _ => rfl) (fun k x h11 IH9 => ?_) k (2166136261, 0) h11)
    obtain ⟨z4, z5⟩ := x
    rw [spec_l03Sum.l1.eq_2] at h11
    refine Tri.seq ?_
    refine Tri.rn [0, 3, 4, 8] 0 [] [(2, .ov [.sc (.int .i64 (a0.length : Int))])] [_] ⟨21, [(0, o1 (.sl 1 (List.map (eK .u8) a0))), (3, oI z4), (4, oI z5), (8, oB (decide (z5 < (a0.length : Int))))], [], 0, []⟩ (by kernel_rfl) ⟨(ovlen (f := (eK .u8)) (l := a0)), trivial⟩ ?_
    rcases ite_some h11 with ⟨h6, h11⟩ | ⟨h6, h11⟩
    · refine Tri.cond_true (useb (decide_eq_true h6) (by kernel_rfl)) ?_
      refine Tri.skip ?_
      refine Tri.seq ?_
      refine Tri.block ?_
      obtain ⟨x7, h8, h11⟩ := bind_some' h11
      refine Tri.r1 [0, 3, 4] 0 [] [(3, .el ((eK .u8) x7))] [_, _, _] ⟨21, [(0, o1 (.sl 1 (List.map (eK .u8) a0))), (3, oI (Int.tmod (w64 ((ixor .i64 z4 (w64 (x7))) * 16777619)) 4294967296)), (4, oI z5)], [], 0, []⟩ (by kernel_rfl) ⟨(at?_0 h8), (at?_map (f := (eK .u8)) h8), (show (4294967296 : Int) ≠ 0 by decide), trivial⟩ ?_
      refine Tri.r1 [0, 3, 4] 0 [] [] [] ⟨21, [(0, o1 (.sl 1 (List.map (eK .u8) a0))), (3, oI (Int.tmod (w64 ((ixor .i64 z4 (w64 (x7))) * 16777619)) 4294967296)), (4, oI (w64 (z5 + 1)))], [], 0, []⟩ (by kernel_rfl) trivial ?_
      exact IH9 _ ((Int.tmod (w64 ((ixor .i64 z4 (w64 (x7))) * 16777619)) 4294967296), w64 (z5 + 1)) (Nat.le_refl _) h11
    · refine Tri.cond_false (useb (decide_eq_false h6) (by kernel_rfl)) ?_
      refine Tri.fix [3] 0 [] ⟨21, [(3, oI z4)], [], 0, []⟩ (by kernel_rfl) ?_
      refine Tri.exit ?_
      repeat (with_reducible refine Ex.exit ?_)
      refine Bk.here ?_
      exact ⟨z4, (Option.some.inj h11).symm, rfl⟩
/-! spec_PrintOf: function 13 -/
def spec_PrintOf.f (k : Nat) (a0 : SFace) : Option (Int × Int) := (spec_InterfaceOK.f k a0).bind fun r1 => if r1 = true then ((spec_l03Bytes.f k a0).bind fun r4 => (spec_l03Sum.f k r4).bind fun r6 => some (r6, 0)) else (some (0, 1))
set_option maxRecDepth 100000 in
theorem spec_PrintOf.fn (k : Nat) (a0 : SFace) (r : (Int × Int)) (H : spec_PrintOf.f k a0 = some r) : Fn Tryz.prog 13 [ag (eSFace a0)] [] (tp [none, none] [cI r.1, cI r.2]) [] := by
  unfold spec_PrintOf.f at H
  refine Fn.body (ts := [2, 3]) Tryz.func13 rfl rfl (by decide) (by decide) (Nat.le_of_ble_eq_true rfl) (Nat.le_refl _) ?_
  refine Tri.rn [1] 1 [] [] [] ⟨10, [(1, o1 (.ref 0 0))], [eSFace a0], 0, []⟩ (by kernel_rfl) trivial ?_
  refine Tri.seq ?_
  obtain ⟨r1, h2, H⟩ := bind_some' H
  refine Tri.rn [1, 6] 1 [] [(1, .call (oB r1) [] false)] [_, _] ⟨10, [(1, o1 (.ref 0 0)), (6, oB (!r1))], [eSFace a0], 0, []⟩ (by kernel_rfl) ⟨(spec_InterfaceOK.fn k a0 r1 h2), (show (List.all [cB r1] PC.flatB) = true from rfl), trivial⟩ ?_
  rcases iteb_some H with ⟨h3, H⟩ | ⟨h3, H⟩
  · refine Tri.cond_false (useb (nF h3) (by kernel_rfl)) ?_
    refine Tri.skip ?_
    obtain ⟨r4, h5, H⟩ := bind_some' H
    obtain ⟨r6, h7, H⟩ := bind_some' H
    refine Tri.rn [2, 3] 0 [] [(1, .call (o1 (.own 5 (List.map (eK .u8) r4))) [] false), (2, .call (oI r6) [] false)] [_, _, _, _] ⟨10, [(2, oI r6), (3, oI 0)], [], 0, []⟩ (by kernel_rfl) ⟨(spec_l03Bytes.fn k a0 r4 h5), (show (List.all [.own 5 (List.map (eK .u8) r4)] PC.flatB) = true by simp [PC.flatB, PC.scalar, cI, cK, cB, cS, eK]), (spec_l03Sum.fn k r4 r6 h7), (show (List.all [cI r6] PC.flatB) = true from rfl), trivial⟩ ?_
    refine Tri.ret ?_
    obtain rfl := Option.some.inj H
    exact ⟨.inr rfl, rfl, rfl, Nat.le_refl _, rfl, by simp⟩
  · refine Tri.cond_true (useb (nT h3) (by kernel_rfl)) ?_
    refine Tri.rn [2, 3] 0 [] [] [] ⟨10, [(2, oI 0), (3, oI 1)], [], 0, []⟩ (by kernel_rfl) trivial ?_
    refine Tri.ret ?_
    obtain rfl := Option.some.inj H
    exact ⟨.inr rfl, rfl, rfl, Nat.le_refl _, rfl, by simp⟩
/-! laws_at: function 52 -/
def laws_at.f (k : Nat) (a0 : (List Int)) (a1 : Int) (a2 : Int) : Option Int := if a2 ≤ 1 then (some 0) else (if (a0.length : Int) = 0 then (if a2 ≠ 0 then (some (Int.tmod (w64 (a1 * 7)) a2)) else none) else (if (a0.length : Int) ≠ 0 then ((at? a0 (Int.tmod a1 (a0.length : Int))).bind fun x5 => (at? a0 (Int.tmod (w64 (a1 + 1)) (a0.length : Int))).bind fun x7 => if a2 ≠ 0 then (some (Int.tmod (w64 ((w64 ((w64 ((w64 (x5)) * 31)) + (w64 (x7)))) + (w64 (Int.tdiv a1 (a0.length : Int))))) a2)) else none) else none))
set_option maxRecDepth 100000 in
theorem laws_at.fn (k : Nat) (a0 : (List Int)) (a1 : Int) (a2 : Int) (r : Int) (H : laws_at.f k a0 a1 a2 = some r) : Fn Tryz.prog 52 [o1 (.sl 1 (List.map (eK .u8) a0)), oI a1, oI a2] [] (oI r) [] := by
  unfold laws_at.f at H
  refine Fn.body (ts := [6]) Tryz.func52 rfl rfl (by decide) (by decide) (Nat.le_of_ble_eq_true rfl) (Nat.le_refl _) ?_
  refine Tri.rn [0, 1, 2] 0 [] [] [] ⟨42, [(0, o1 (.sl 1 (List.map (eK .u8) a0))), (1, oI a1), (2, oI a2)], [], 0, []⟩ (by kernel_rfl) trivial ?_
  refine Tri.seq ?_
  refine Tri.rn [0, 1, 2, 8] 0 [] [] [] ⟨42, [(0, o1 (.sl 1 (List.map (eK .u8) a0))), (1, oI a1), (2, oI a2), (8, oB (decide (a2 ≤ 1)))], [], 0, []⟩ (by kernel_rfl) trivial ?_
  rcases ite_some H with ⟨h1, H⟩ | ⟨h1, H⟩
  · refine Tri.cond_true (useb (decide_eq_true h1) (by kernel_rfl)) ?_
    refine Tri.rn [6] 0 [] [] [] ⟨42, [(6, oI 0)], [], 0, []⟩ (by kernel_rfl) trivial ?_
    refine Tri.ret ?_
    obtain rfl := Option.some.inj H
    exact ⟨.inr rfl, rfl, rfl, Nat.le_refl _, rfl, by simp⟩
  · refine Tri.cond_false (useb (decide_eq_false h1) (by kernel_rfl)) ?_
    refine Tri.skip ?_
    refine Tri.seq ?_
    refine Tri.rn [0, 1, 2, 11] 0 [] [(1, .ov [.sc (.int .i64 (a0.length : Int))])] [_] ⟨42, [(0, o1 (.sl 1 (List.map (eK .u8) a0))), (1, oI a1), (2, oI a2), (11, oB (decide ((a0.length : Int) = 0)))], [], 0, []⟩ (by kernel_rfl) ⟨(ovlen (f := (eK .u8)) (l := a0)), trivial⟩ ?_
    rcases ite_some H with ⟨h2, H⟩ | ⟨h2, H⟩
    · refine Tri.cond_true (useb (decide_eq_true h2) (by kernel_rfl)) ?_
      obtain ⟨h3, H⟩ := need_some H
      refine Tri.rn [6] 0 [] [] [_] ⟨42, [(6, oI (Int.tmod (w64 (a1 * 7)) a2))], [], 0, []⟩ (by kernel_rfl) ⟨h3, trivial⟩ ?_
      refine Tri.ret ?_
      obtain rfl := Option.some.inj H
      exact ⟨.inr rfl, rfl, rfl, Nat.le_refl _, rfl, by simp⟩
    · refine Tri.cond_false (useb (decide_eq_false h2) (by kernel_rfl)) ?_
      refine Tri.skip ?_
      obtain ⟨h4, H⟩ := need_some H
      obtain ⟨x5, h6, H⟩ := bind_some' H
      obtain ⟨x7, h8, H⟩ := bind_some' H
      obtain ⟨h9, H⟩ := need_some H
      refine Tri.dn hmix 25 [[], [], [], [2], [1, 2, 3], [0, 1, 2, 3, 4], [0, 1, 2, 3, 4, 5], [0, 1, 2, 3, 4, 5, 6], [0, 1, 2, 3, 4, 5, 6, 7], [], [], [10], [], [12], [10, 11, 12, 13], [9, 10, 11, 12, 13, 14], [9, 10, 11, 12, 13, 14, 15], [9, 10, 11, 12, 13, 14, 15, 16], [0, 1, 2, 3, 4, 5, 6, 7, 8, 9, 10, 11, 12, 13, 14, 15, 16, 17], [], [], [20], [19, 20, 21], [0, 1, 2, 3, 4, 5, 6, 7, 8, 9, 10, 11, 12, 13, 14, 15, 16, 17, 18, 19, 20, 21, 22], [], [0, 1, 2, 3, 4, 5, 6, 7, 8, 9, 10, 11, 12, 13, 14, 15, 16, 17, 18, 19, 20, 21, 22, 23, 24], [0, 1, 2, 3, 4, 5, 6, 7, 8, 9, 10, 11, 12, 13, 14, 15, 16, 17, 18, 19, 20, 21, 22, 23, 24, 25]] [6] 0 [] [(3, .ov [.sc (.int .i64 (a0.length : Int))]), (5, .el ((eK .u8) x5)), (13, .ov [.sc (.int .i64 (a0.length : Int))]), (15, .el ((eK .u8) x7)), (21, .ov [.sc (.int .i64 (a0.length : Int))])] [_, _, _, _, _, _, _, _, _, _, _] ⟨42, [(6, oI (Int.tmod (w64 ((w64 ((w64 ((w64 (x5)) * 31)) + (w64 (x7)))) + (w64 (Int.tdiv a1 (a0.length : Int))))) a2))], [], 0, []⟩ (by kernel_rfl) ⟨(ovlen (f := (eK .u8)) (l := a0)), h4, (at?_0 h6), (at?_map (f := (eK .u8)) h6), (ovlen (f := (eK .u8)) (l := a0)), h4, (at?_0 h8), (at?_map (f := (eK .u8)) h8), (ovlen (f := (eK .u8)) (l := a0)), h4, h9, trivial⟩ ?_
      refine Tri.ret ?_
      obtain rfl := Option.some.inj H
      exact ⟨.inr rfl, rfl, rfl, Nat.le_refl _, rfl, by simp⟩
/-! impl_isShort___byte: function 65 -/
def impl_isShort___byte.f (k : Nat) (a0 : (List Int)) : Option Bool := some (decide ((a0.length : Int) ≤ 65536))
set_option maxRecDepth 100000 in
theorem impl_isShort___byte.fn (k : Nat) (a0 : (List Int)) (r : Bool) (H : impl_isShort___byte.f k a0 = some r) : Fn Tryz.prog 65 [o1 (.sl 1 (List.map (eK .u8) a0))] [] (oB r) [] := by
  unfold impl_isShort___byte.f at H
  refine Fn.body (ts := [2]) Tryz.func65 rfl rfl (by decide) (by decide) (Nat.le_of_ble_eq_true rfl) (Nat.le_refl _) ?_
  refine Tri.rn [0] 0 [] [] [] ⟨6, [(0, o1 (.sl 1 (List.map (eK .u8) a0)))], [], 0, []⟩ (by kernel_rfl) trivial ?_
  refine Tri.rn [2] 0 [] [(1, .ov [.sc (.int .i64 (a0.length : Int))])] [_] ⟨6, [(2, oB (decide ((a0.length : Int) ≤ 65536)))], [], 0, []⟩ (by kernel_rfl) ⟨(ovlen (f := (eK .u8)) (l := a0)), trivial⟩ ?_
  refine Tri.ret ?_
  obtain rfl := Option.some.inj H
  exact ⟨.inr rfl, rfl, rfl, Nat.le_refl _, rfl, by simp⟩
/-! impl_reader__take_2: function 176 -/
def impl_reader__take_2.e1 (k : Nat) (a1 : Int) (b0 : S3ddd55) : Option Bool := if b0.f2 = true then (some true) else (some (decide ((w64 ((b0.f0.size : Int) - b0.f1)) < a1)))
def impl_reader__take_2.f (k : Nat) (a1 : Int) (b0 : S3ddd55) : Option (ByteArray × Int × Bool) := (impl_reader__take_2.e1 k a1 b0).bind fun y2 => if y2 = true then (some ((⟨#[]⟩ : ByteArray), b0.f1, true)) else (if (0 : Int) ≤ (w64 ((w64 (b0.f1 + a1)) - a1)) then (if (w64 ((w64 (b0.f1 + a1)) - a1)) ≤ w64 (b0.f1 + a1) then (if (w64 (b0.f1 + a1)) ≤ (b0.f0.size : Int) then (some (b0.f0.extract (Int.toNat (w64 ((w64 (b0.f1 + a1)) - a1))) (Int.toNat (w64 (b0.f1 + a1))), w64 (b0.f1 + a1), b0.f2)) else none) else none) else none)
set_option maxRecDepth 100000 in
theorem impl_reader__take_2.fn (k : Nat) (a1 : Int) (b0 : S3ddd55) (r : (ByteArray × Int × Bool)) (H : impl_reader__take_2.f k a1 b0 = some r) : FnG Tryz.prog 176 [o1 (.ref 0 0), oI a1] [] [eS3ddd55 b0] (oS r.1) [] [[cS b0.f0, cI r.2.1, cB r.2.2]] := by
  unfold impl_reader__take_2.f at H
  refine FnG.body (ts := [4]) Tryz.func176 rfl rfl (by decide) (by decide) (Nat.le_of_ble_eq_true rfl) rfl (Nat.le_of_ble_eq_true rfl) ?_
  refine Tri.rn [0, 1] 1 [] [] [] ⟨49, [(0, o1 (.ref 0 0)), (1, oI a1)], [eS3ddd55 b0], 1, []⟩ (by kernel_rfl) trivial ?_
  refine Tri.seq ?_
  obtain ⟨v4, h3, H⟩ := bind_some' H
  refine Tri.join (α := Bool) (fun w => v4 = w) (fun y2 => ⟨49, [(0, o1 (.ref 0 0)), (1, oI a1), (22, oB y2)], [eS3ddd55 b0], 1, []⟩) (fun y2 hw => ?_) ?_
  · rw [hw] at H; clear hw
    try dsimp only at H
    rcases iteb_some H with ⟨h5, H⟩ | ⟨h5, H⟩
    · refine Tri.cond_true (useb h5 (by kernel_rfl)) ?_
      refine Tri.rn [] 1 [] [] [] ⟨49, [], [[cS b0.f0, cI b0.f1, cB true]], 1, []⟩ (by kernel_rfl) trivial ?_
      refine Tri.rn [4] 1 [] [] [] ⟨49, [(4, oS (⟨#[]⟩ : ByteArray))], [[cS b0.f0, cI b0.f1, cB true]], 1, []⟩ (by kernel_rfl) trivial ?_
      refine Tri.ret ?_
      obtain rfl := Option.some.inj H
      exact endsG (.inr rfl) (by kernel_rfl)
    · refine Tri.cond_false (useb h5 (by kernel_rfl)) ?_
      refine Tri.skip ?_
      refine Tri.rn [0, 1] 1 [] [] [] ⟨49, [(0, o1 (.ref 0 0)), (1, oI a1)], [[cS b0.f0, cI (w64 (b0.f1 + a1)), cB b0.f2]], 1, []⟩ (by kernel_rfl) trivial ?_
      obtain ⟨h6, H⟩ := need_some H
      obtain ⟨h7, H⟩ := need_some H
      obtain ⟨h8, H⟩ := need_some H
      refine Tri.dn hmix 14 [[], [0], [0, 1], [0, 1, 2], [], [4], [4, 5], [4, 5, 6], [], [4, 5, 6, 7, 8], [], [10], [10, 11], [10, 11, 12], [0, 1, 2, 3, 4, 5, 6, 7, 8, 9, 10, 11, 12, 13], [0, 1, 2, 3, 4, 5, 6, 7, 8, 9, 10, 11, 12, 13, 14]] [4] 1 [] [] [_, _, _] ⟨49, [(4, oS (b0.f0.extract (Int.toNat (w64 ((w64 (b0.f1 + a1)) - a1))) (Int.toNat (w64 (b0.f1 + a1)))))], [[cS b0.f0, cI (w64 (b0.f1 + a1)), cB b0.f2]], 1, []⟩ (by kernel_rfl) ⟨h6, h7, h8, trivial⟩ ?_
      refine Tri.ret ?_
      obtain rfl := Option.some.inj H
      exact endsG (.inr rfl) (by kernel_rfl)
  · unfold impl_reader__take_2.e1 at h3
    rcases iteb_some h3 with ⟨h1, h3⟩ | ⟨h1, h3⟩
    · refine Tri.d1 hmix 16 [[], [0], [0, 1], [0, 1, 2], [0, 1, 2, 3], [0, 1, 2, 3, 4], [0, 1, 2, 3, 4], [0, 1, 2, 3, 4, 6], [0, 1, 2, 3, 4, 6, 7], [0, 1, 2, 3, 4, 6, 7, 8], [0, 1, 2, 3, 4, 6, 7, 8, 9], [0, 1, 2, 3, 4], [0, 1, 2, 3, 4, 11], [0, 1, 2, 3, 4, 11, 12], [0, 1, 2, 3, 4, 11, 12, 13], [0, 1, 2, 3, 4, 6, 7, 8, 9, 10, 11, 12, 13, 14], [0, 1, 2, 3, 4, 5, 6, 7, 8, 9, 10, 11, 12, 13, 14, 15], [0, 1, 2, 3, 4, 5, 6, 7, 8, 9, 10, 11, 12, 13, 14, 15, 16]] [0, 1, 22] 1 [] [(3, .ov [.sc (.bool true)])] [_] ⟨49, [(0, o1 (.ref 0 0)), (1, oI a1), (22, oB true)], [eS3ddd55 b0], 1, []⟩ (by kernel_rfl) ⟨(ovb h1), trivial⟩ ?_
      exact ⟨true, (Option.some.inj h3).symm, rfl⟩
    · refine Tri.d1 hmix 16 [[], [0], [0, 1], [0, 1, 2], [0, 1, 2, 3], [0, 1, 2, 3, 4], [0, 1, 2, 3, 4], [0, 1, 2, 3, 4, 6], [0, 1, 2, 3, 4, 6, 7], [0, 1, 2, 3, 4, 6, 7, 8], [0, 1, 2, 3, 4, 6, 7, 8, 9], [0, 1, 2, 3, 4], [0, 1, 2, 3, 4, 11], [0, 1, 2, 3, 4, 11, 12], [0, 1, 2, 3, 4, 11, 12, 13], [0, 1, 2, 3, 4, 6, 7, 8, 9, 10, 11, 12, 13, 14], [0, 1, 2, 3, 4, 5, 6, 7, 8, 9, 10, 11, 12, 13, 14, 15], [0, 1, 2, 3, 4, 5, 6, 7, 8, 9, 10, 11, 12, 13, 14, 15, 16]] [0, 1, 22] 1 [] [(3, .ov [.sc (.bool false)])] [_] ⟨49, [(0, o1 (.ref 0 0)), (1, oI a1), (22, oB (decide ((w64 ((b0.f0.size : Int) - b0.f1)) < a1)))], [eS3ddd55 b0], 1, []⟩ (by kernel_rfl) ⟨(ovb h1), trivial⟩ ?_
      exact ⟨(decide ((w64 ((b0.f0.size : Int) - b0.f1)) < a1)), (Option.some.inj h3).symm, rfl⟩
/-! impl_reader__head_2: function 126 -/
def impl_reader__head_2.f (k : Nat) (a1 : ByteArray) (b0 : S3ddd55) : Option (Int × Bool) := (impl_reader__take_2.f k (a1.size : Int) b0).bind fun r1 => if r1.1 = a1 then (some (r1.2.1, r1.2.2)) else (some (r1.2.1, true))
set_option maxRecDepth 100000 in
theorem impl_reader__head_2.fn (k : Nat) (a1 : ByteArray) (b0 : S3ddd55) (r : (Int × Bool)) (H : impl_reader__head_2.f k a1 b0 = some r) : FnG Tryz.prog 126 [o1 (.ref 0 0), oS a1] [] [eS3ddd55 b0] (tp [] []) [] [[cS b0.f0, cI r.1, cB r.2]] := by
  unfold impl_reader__head_2.f at H
  refine FnG.body (ts := []) Tryz.func126 rfl rfl (by decide) (by decide) (Nat.le_of_ble_eq_true rfl) rfl (Nat.le_of_ble_eq_true rfl) ?_
  obtain ⟨r1, h2, H⟩ := bind_some' H
  rcases ite_some H with ⟨h3, H⟩ | ⟨h3, H⟩
  · refine Tri.r1 [] 1 [] [(4, .callB (oS r1.1) [] [0] none [] [[cS b0.f0, cI r1.2.1, cB r1.2.2]]), (6, .ov [.sc (.bool false)])] [_, _] ⟨19, [], [[cS b0.f0, cI r1.2.1, cB r1.2.2]], 1, []⟩ (by kernel_rfl) ⟨(impl_reader__take_2.fn k (a1.size : Int) b0 r1 h2), (ovb (nF (decide_eq_true h3))), trivial⟩ ?_
    obtain rfl := Option.some.inj H
    exact endsG (.inl rfl) (by kernel_rfl)
  · refine Tri.r1 [] 1 [] [(4, .callB (oS r1.1) [] [0] none [] [[cS b0.f0, cI r1.2.1, cB r1.2.2]]), (6, .ov [.sc (.bool true)])] [_, _] ⟨19, [], [[cS b0.f0, cI r1.2.1, cB true]], 1, []⟩ (by kernel_rfl) ⟨(impl_reader__take_2.fn k (a1.size : Int) b0 r1 h2), (ovb (nT (decide_eq_false h3))), trivial⟩ ?_
    obtain rfl := Option.some.inj H
    exact endsG (.inl rfl) (by kernel_rfl)
end Go.Proofs.YtdoenfpleokadaaGreatDoor.E
