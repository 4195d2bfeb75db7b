/- Functions of the program and their contracts: printed by ep3.py, a program of this session. -/
import Derived.Test.YtdoenfpleokadaaGreatDoorPFnExactPrintOf0
import Derived.Test.YtdoenfpleokadaaGreatDoorProg
set_option linter.unusedVariables false
set_option linter.unusedSectionVars false
set_option linter.unusedSimpArgs false
namespace Go.Proofs.YtdoenfpleokadaaGreatDoor.E
open Go.RowKit
/-! impl_Interface__bytes: function 60 -/
def impl_Interface__bytes.l1 : Nat → SItem → Int → Bool → (List Int) → Option (Bool × (List Int))
  | 0, _, _, _, _ => none
  | k + 1, x61, z91, z92, z93 => if z91 < (x61.f5.length : Int) then ((at? x61.f5 z91).bind fun x95 => (impl_truth.f k x95.f1).bind fun r97 => (impl_big.f k (w64 (x95.f0 + (w64 (8 * r97)))) 1).bind fun r99 => (strings_Builder__WriteString_1.f k r99 z92 z93).bind fun r101 => impl_Interface__bytes.l1 k x61 (w64 (z91 + 1)) r101.2.1 r101.2.2) else (some (z92, z93))
def impl_Interface__bytes.e2 (k : Nat) (a0 : SFace) (z57 : Int) (z58 : Bool) (z59 : (List Int)) : Option (Bool × (List Int)) := (at? a0.f1 z57).bind fun x61 => (impl_big.f k x61.f0 1).bind fun r63 => (impl_big.f k x61.f1 1).bind fun r65 => if r63.size + r65.size ≤ 9223372036854775807 then ((impl_big.f k x61.f2 1).bind fun r68 => if (r63 ++ r65).size + r68.size ≤ 9223372036854775807 then ((impl_big.f k x61.f3 8).bind fun r71 => if ((r63 ++ r65) ++ r68).size + r71.size ≤ 9223372036854775807 then ((impl_sized.f k x61.f4).bind fun r74 => if (((r63 ++ r65) ++ r68) ++ r71).size + r74.size ≤ 9223372036854775807 then ((impl_big.f k (x61.f5.length : Int) 1).bind fun r77 => if ((((r63 ++ r65) ++ r68) ++ r71) ++ r74).size + r77.size ≤ 9223372036854775807 then ((strings_Builder__WriteString_1.f k (((((r63 ++ r65) ++ r68) ++ r71) ++ r74) ++ r77) z58 z59).bind fun r80 => impl_Interface__bytes.l1 k x61 0 r80.2.1 r80.2.2) else none) else none) else none) else none) else none
def impl_Interface__bytes.l3 : Nat → SFace → Int → Bool → (List Int) → Option (Bool × (List Int))
  | 0, _, _, _, _ => none
  | k + 1, a0, z57, z58, z59 => if z57 < (a0.f1.length : Int) then ((impl_Interface__bytes.e2 k a0 z57 z58 z59).bind fun v => match v with | (y104, y105) => impl_Interface__bytes.l3 k a0 (w64 (z57 + 1)) y104 y105) else (some (z58, z59))
def impl_Interface__bytes.e4 (k : Nat) (a0 : SFace) (r7 : (Int × Bool × (List Int))) : Option (Bool × (List Int)) := impl_Interface__bytes.l3 k a0 0 r7.2.1 r7.2.2
def impl_Interface__bytes.f (k : Nat) (a0 : SFace) : Option ByteArray := (impl_sized.f k a0.f0).bind fun r1 => if (⟨#[79, 73, 49]⟩ : ByteArray).size + r1.size ≤ 9223372036854775807 then ((impl_big.f k (a0.f1.length : Int) 1).bind fun r4 => if ((⟨#[79, 73, 49]⟩ : ByteArray) ++ r1).size + r4.size ≤ 9223372036854775807 then ((strings_Builder__WriteString_1.f k (((⟨#[79, 73, 49]⟩ : ByteArray) ++ r1) ++ r4) false ([] : List Int)).bind fun r7 => (impl_Interface__bytes.e4 k a0 r7).bind fun v => match v with | (y109, y110) => (strings_Builder_String_2.f k y109 y110).bind fun r113 => some r113) else none) else none
set_option maxRecDepth 100000 in
theorem impl_Interface__bytes.fn (k : Nat) (a0 : SFace) (r : ByteArray) (H : impl_Interface__bytes.f k a0 = some r) : Fn Tryz.prog 60 [ag (eSFace a0)] [] (oS r) [] := by
  unfold impl_Interface__bytes.f at H
  refine Fn.body (ts := [2]) Tryz.func60 rfl rfl (by decide) (by decide) (Nat.le_of_ble_eq_true rfl) (Nat.le_refl _) ?_
  refine Tri.rn [1] 1 [] [] [] ⟨69, [(1, o1 (.ref 0 0))], [eSFace a0], 0, []⟩ (by kernel_rfl) trivial ?_
  refine Tri.rn [1, 3] 2 [] [(0, .nz [0])] [] ⟨69, [(1, o1 (.ref 0 0)), (3, o1 (.ref 1 0))], [eSFace a0, [.opt 170 false 1 0, .nl]], 0, []⟩ (by kernel_rfl) trivial ?_
  obtain ⟨r1, h2, H⟩ := bind_some' H
  obtain ⟨h3, H⟩ := need_some H
  obtain ⟨r4, h5, H⟩ := bind_some' H
  obtain ⟨h6, H⟩ := need_some H
  obtain ⟨r7, h8, H⟩ := bind_some' H
  refine Tri.dn hmix 8 [[], [0], [0, 1], [0, 1, 2], [], [4], [4, 5], [0, 1, 2, 4, 5, 6], [0, 1, 2, 3, 4, 5, 6, 7], [0, 1, 2, 3, 4, 5, 6, 7, 8]] [1, 3] 2 [] [(2, .call (oS r1) [] false), (6, .ov [.sc (.int .i64 (a0.f1.length : Int))]), (7, .call (oS r4) [] false), (9, .fix (.own (.b 1 1) 5)), (9, .callB (tp [none, none] [cI r7.1, .sc .nilIface]) [] [1] none [] [[.opt 170 r7.2.1 0 0, .own 5 (List.map (eK .u8) r7.2.2)]])] [_, _, _, _, _, _, _, _] ⟨69, [(1, o1 (.ref 0 0)), (3, o1 (.ref 1 0))], [eSFace a0, [.opt 170 r7.2.1 1 0, .own 5 (List.map (eK .u8) r7.2.2)]], 0, []⟩ (by kernel_rfl) ⟨(impl_sized.fn k a0.f0 r1 h2), (show (List.all [cS r1] PC.flatB) = true from rfl), h3, (ovlen (f := eSItem) (l := a0.f1)), (impl_big.fn k (a0.f1.length : Int) 1 r4 h5), (show (List.all [cS r4] PC.flatB) = true from rfl), h6, (strings_Builder__WriteString_1.fn k (((⟨#[79, 73, 49]⟩ : ByteArray) ++ r1) ++ r4) false ([] : List Int) r7 h8), trivial⟩ ?_
  obtain ⟨v112, h111, H⟩ := bind_some' H
  refine Tri.join (α := (Bool × (List Int))) (fun w => v112 = w) (fun w => ⟨69, [(3, o1 (.ref 1 0))], [eSFace a0, [.opt 170 w.1 1 0, .own 5 (List.map (eK .u8) w.2)]], 0, []⟩) (fun w hw => ?_) ?_
  · rw [hw] at H; clear hw
    obtain ⟨y109, y110⟩ := w
    try dsimp only at H
    obtain ⟨r113, h114, H⟩ := bind_some' H
    refine Tri.rn [2] 0 [] [(0, .callB (oS r113) [] [1] none [] [[.opt 170 y109 0 0, .dead]])] [_] ⟨69, [(2, oS r113)], [], 0, []⟩ (by kernel_rfl) ⟨(strings_Builder_String_2.fn k y109 y110 r113 h114), trivial⟩ ?_
    refine Tri.ret ?_
    obtain rfl := Option.some.inj H
    exact ⟨.inr rfl, rfl, rfl, Nat.le_refl _, rfl, by simp⟩
  · unfold impl_Interface__bytes.e4 at h111
    refine Tri.rn [3, 19, 20, 21] 2 [] [(2, .ov [.sc (.int .i64 (a0.f1.length : Int))])] [_] ⟨69, [(3, o1 (.ref 1 0)), (19, o1 (.sl 6 (List.map eSItem a0.f1))), (20, oI (a0.f1.length : Int)), (21, oI 0)], [eSFace a0, [.opt 170 r7.2.1 1 0, .own 5 (List.map (eK .u8) r7.2.2)]], 0, []⟩ (by kernel_rfl) ⟨(ovlen (f := eSItem) (l := a0.f1)), trivial⟩ ?_
    refine Tri.block ?_
    refine Tri.loop k (TriR.ind (α := (Int × Bool × (List Int))) (fun k x => impl_Interface__bytes.l3 k a0 x.1 x.2.1 x.2.2) (fun x => ⟨69, [(3, o1 (.ref 1 0)), (19, o1 (.sl 6 (List.map eSItem a0.f1))), (20, oI (a0.f1.length : Int)), (21, oI x.1)], [eSFace a0, [.opt 170 x.2.1 1 0, .own 5 (List.map (eK .u8) x.2.2)]], 0, []⟩) (fun _ => rfl) (fun k x h111 IH108 => ?_) k (0, r7.2.1, r7.2.2) h111)
    obtain ⟨z57, z58, z59⟩ := x
    rw [impl_Interface__bytes.l3.eq_2] at h111
    refine Tri.rn [3, 19, 20, 21, 22] 2 [] [] [] ⟨69, [(3, o1 (.ref 1 0)), (19, o1 (.sl 6 (List.map eSItem a0.f1))), (20, oI (a0.f1.length : Int)), (21, oI z57), (22, oB (decide (z57 < (a0.f1.length : Int))))], [eSFace a0, [.opt 170 z58 1 0, .own 5 (List.map (eK .u8) z59)]], 0, []⟩ (by kernel_rfl) trivial ?_
    refine Tri.seq ?_
    rcases ite_some h111 with ⟨h60, h111⟩ | ⟨h60, h111⟩
    · refine Tri.cond_true (useb (decide_eq_true h60) (by kernel_rfl)) ?_
      refine Tri.skip ?_
      obtain ⟨v107, h106, h111⟩ := bind_some' h111
      refine Tri.join (α := (Bool × (List Int))) (fun w => v107 = w) (fun w => ⟨69, [(3, o1 (.ref 1 0)), (19, o1 (.sl 6 (List.map eSItem a0.f1))), (20, oI (a0.f1.length : Int)), (21, oI z57)], [eSFace a0, [.opt 170 w.1 1 0, .own 5 (List.map (eK .u8) w.2)]], 0, []⟩) (fun w hw => ?_) ?_
      · rw [hw] at h111; clear hw
        obtain ⟨y104, y105⟩ := w
        try dsimp only at h111
        refine Tri.r1 [3, 19, 20, 21] 2 [] [] [] ⟨69, [(3, o1 (.ref 1 0)), (19, o1 (.sl 6 (List.map eSItem a0.f1))), (20, oI (a0.f1.length : Int)), (21, oI (w64 (z57 + 1)))], [eSFace a0, [.opt 170 y104 1 0, .own 5 (List.map (eK .u8) y105)]], 0, []⟩ (by kernel_rfl) trivial ?_
        exact IH108 _ (w64 (z57 + 1), y104, y105) (Nat.le_refl _) h111
      · unfold impl_Interface__bytes.e2 at h106
        refine Tri.block ?_
        obtain ⟨x61, h62, h106⟩ := bind_some' h106
        refine Tri.rn [3, 5, 19, 20, 21] 3 [] [(0, .el (eSItem x61))] [_, _] ⟨69, [(3, o1 (.ref 1 0)), (5, o1 (.ref 2 0)), (19, o1 (.sl 6 (List.map eSItem a0.f1))), (20, oI (a0.f1.length : Int)), (21, oI z57)], [eSFace a0, [.opt 170 z58 1 0, .own 5 (List.map (eK .u8) z59)], eSItem x61], 0, []⟩ (by kernel_rfl) ⟨(at?_0 h62), (at?_map (f := eSItem) h62), trivial⟩ ?_
        obtain ⟨r63, h64, h106⟩ := bind_some' h106
        obtain ⟨r65, h66, h106⟩ := bind_some' h106
        obtain ⟨h67, h106⟩ := need_some h106
        obtain ⟨r68, h69, h106⟩ := bind_some' h106
        obtain ⟨h70, h106⟩ := need_some h106
        obtain ⟨r71, h72, h106⟩ := bind_some' h106
        obtain ⟨h73, h106⟩ := need_some h106
        obtain ⟨r74, h75, h106⟩ := bind_some' h106
        obtain ⟨h76, h106⟩ := need_some h106
        obtain ⟨r77, h78, h106⟩ := bind_some' h106
        obtain ⟨h79, h106⟩ := need_some h106
        obtain ⟨r80, h81, h106⟩ := bind_some' h106
        refine Tri.dn hmix 23 [[], [0], [0, 1], [], [3], [0, 1, 2, 3, 4], [0, 1, 2, 3, 4, 5], [], [7], [0, 1, 2, 3, 4, 5, 7, 8], [0, 1, 2, 3, 4, 5, 6, 7, 8, 9], [], [11], [0, 1, 2, 3, 4, 5, 7, 8, 9, 11, 12], [0, 1, 2, 3, 4, 5, 6, 7, 8, 9, 10, 11, 12, 13], [], [15], [0, 1, 2, 3, 4, 5, 7, 8, 9, 11, 12, 13, 15, 16], [0, 1, 2, 3, 4, 5, 6, 7, 8, 9, 10, 11, 12, 13, 14, 15, 16, 17], [], [19], [19, 20], [0, 1, 2, 3, 4, 5, 7, 8, 9, 11, 12, 13, 15, 16, 17, 19, 20, 21], [0, 1, 2, 3, 4, 5, 6, 7, 8, 9, 10, 11, 12, 13, 14, 15, 16, 17, 18, 19, 20, 21, 22], [0, 1, 2, 3, 4, 5, 6, 7, 8, 9, 10, 11, 12, 13, 14, 15, 16, 17, 18, 19, 20, 21, 22, 23]] [3, 5, 19, 20, 21] 3 [] [(2, .call (oS r63) [] false), (5, .call (oS r65) [] false), (9, .call (oS r68) [] false), (13, .call (oS r71) [] false), (17, .call (oS r74) [] false), (21, .ov [.sc (.int .i64 (x61.f5.length : Int))]), (22, .call (oS r77) [] false), (24, .callB (tp [none, none] [cI r80.1, .sc .nilIface]) [] [1] none [] [[.opt 170 r80.2.1 0 0, .own 5 (List.map (eK .u8) r80.2.2)]])] [_, _, _, _, _, _, _, _, _, _, _, _, _, _, _, _, _, _, _] ⟨69, [(3, o1 (.ref 1 0)), (5, o1 (.ref 2 0)), (19, o1 (.sl 6 (List.map eSItem a0.f1))), (20, oI (a0.f1.length : Int)), (21, oI z57)], [eSFace a0, [.opt 170 r80.2.1 1 0, .own 5 (List.map (eK .u8) r80.2.2)], eSItem x61], 0, []⟩ (by kernel_rfl) ⟨(impl_big.fn k x61.f0 1 r63 h64), (show (List.all [cS r63] PC.flatB) = true from rfl), (impl_big.fn k x61.f1 1 r65 h66), (show (List.all [cS r65] PC.flatB) = true from rfl), h67, (impl_big.fn k x61.f2 1 r68 h69), (show (List.all [cS r68] PC.flatB) = true from rfl), h70, (impl_big.fn k x61.f3 8 r71 h72), (show (List.all [cS r71] PC.flatB) = true from rfl), h73, (impl_sized.fn k x61.f4 r74 h75), (show (List.all [cS r74] PC.flatB) = true from rfl), h76, (ovlen (f := eSParam) (l := x61.f5)), (impl_big.fn k (x61.f5.length : Int) 1 r77 h78), (show (List.all [cS r77] PC.flatB) = true from rfl), h79, (strings_Builder__WriteString_1.fn k (((((r63 ++ r65) ++ r68) ++ r71) ++ r74) ++ r77) z58 z59 r80 h81), trivial⟩ ?_
        refine Tri.rn [3, 19, 20, 21, 51, 52, 53] 2 [] [(2, .ov [.sc (.int .i64 (x61.f5.length : Int))])] [_] ⟨69, [(3, o1 (.ref 1 0)), (19, o1 (.sl 6 (List.map eSItem a0.f1))), (20, oI (a0.f1.length : Int)), (21, oI z57), (51, o1 (.sl 2 (List.map eSParam x61.f5))), (52, oI (x61.f5.length : Int)), (53, oI 0)], [eSFace a0, [.opt 170 r80.2.1 1 0, .own 5 (List.map (eK .u8) r80.2.2)]], 0, []⟩ (by kernel_rfl) ⟨(ovlen (f := eSParam) (l := x61.f5)), trivial⟩ ?_
        refine Tri.block ?_
        refine Tri.loop k (TriR.ind (α := (Int × Bool × (List Int))) (fun k x => impl_Interface__bytes.l1 k x61 x.1 x.2.1 x.2.2) (fun x => ⟨69, [(3, o1 (.ref 1 0)), (19, o1 (.sl 6 (List.map eSItem a0.f1))), (20, oI (a0.f1.length : Int)), (21, oI z57), (51, o1 (.sl 2 (List.map eSParam x61.f5))), (52, oI (x61.f5.length : Int)), (53, oI x.1)], [eSFace a0, [.opt 170 x.2.1 1 0, .own 5 (List.map (eK .u8) x.2.2)]], 0, []⟩) (fun _ => rfl) (fun k x h106 IH103 => ?_) k (0, r80.2.1, r80.2.2) h106)
        obtain ⟨z91, z92, z93⟩ := x
        rw [impl_Interface__bytes.l1.eq_2] at h106
        refine Tri.rn [3, 19, 20, 21, 51, 52, 53, 54] 2 [] [] [] ⟨69, [(3, o1 (.ref 1 0)), (19, o1 (.sl 6 (List.map eSItem a0.f1))), (20, oI (a0.f1.length : Int)), (21, oI z57), (51, o1 (.sl 2 (List.map eSParam x61.f5))), (52, oI (x61.f5.length : Int)), (53, oI z91), (54, oB (decide (z91 < (x61.f5.length : Int))))], [eSFace a0, [.opt 170 z92 1 0, .own 5 (List.map (eK .u8) z93)]], 0, []⟩ (by kernel_rfl) trivial ?_
        refine Tri.seq ?_
        rcases ite_some h106 with ⟨h94, h106⟩ | ⟨h94, h106⟩
        · refine Tri.cond_true (useb (decide_eq_true h94) (by kernel_rfl)) ?_
          refine Tri.skip ?_
          refine Tri.seq ?_
          refine Tri.block ?_
          obtain ⟨x95, h96, h106⟩ := bind_some' h106
          refine Tri.rn [3, 7, 19, 20, 21, 51, 52, 53] 3 [] [(0, .el (eSParam x95))] [_, _] ⟨69, [(3, o1 (.ref 1 0)), (7, o1 (.ref 2 0)), (19, o1 (.sl 6 (List.map eSItem a0.f1))), (20, oI (a0.f1.length : Int)), (21, oI z57), (51, o1 (.sl 2 (List.map eSParam x61.f5))), (52, oI (x61.f5.length : Int)), (53, oI z91)], [eSFace a0, [.opt 170 z92 1 0, .own 5 (List.map (eK .u8) z93)], eSParam x95], 0, []⟩ (by kernel_rfl) ⟨(at?_0 h96), (at?_map (f := eSParam) h96), trivial⟩ ?_
          obtain ⟨r97, h98, h106⟩ := bind_some' h106
          obtain ⟨r99, h100, h106⟩ := bind_some' h106
          obtain ⟨r101, h102, h106⟩ := bind_some' h106
          refine Tri.d1 hmix 6 [[], [0], [], [2], [2, 3], [2, 3, 4], [0, 1, 2, 3, 4, 5], [0, 1, 2, 3, 4, 5, 6], [0, 1, 2, 3, 4, 5, 6, 7]] [3, 19, 20, 21, 51, 52, 53] 2 [] [(4, .call (oI r97) [] false), (7, .call (oS r99) [] false), (8, .callB (tp [none, none] [cI r101.1, .sc .nilIface]) [] [1] none [] [[.opt 170 r101.2.1 0 0, .own 5 (List.map (eK .u8) r101.2.2)]])] [_, _, _, _, _] ⟨69, [(3, o1 (.ref 1 0)), (19, o1 (.sl 6 (List.map eSItem a0.f1))), (20, oI (a0.f1.length : Int)), (21, oI z57), (51, o1 (.sl 2 (List.map eSParam x61.f5))), (52, oI (x61.f5.length : Int)), (53, oI z91)], [eSFace a0, [.opt 170 r101.2.1 1 0, .own 5 (List.map (eK .u8) r101.2.2)]], 0, []⟩ (by kernel_rfl) ⟨(impl_truth.fn k x95.f1 r97 h98), (show (List.all [cI r97] PC.flatB) = true from rfl), (impl_big.fn k (w64 (x95.f0 + (w64 (8 * r97)))) 1 r99 h100), (show (List.all [cS r99] PC.flatB) = true from rfl), (strings_Builder__WriteString_1.fn k r99 z92 z93 r101 h102), trivial⟩ ?_
          refine Tri.r1 [3, 19, 20, 21, 51, 52, 53] 2 [] [] [] ⟨69, [(3, o1 (.ref 1 0)), (19, o1 (.sl 6 (List.map eSItem a0.f1))), (20, oI (a0.f1.length : Int)), (21, oI z57), (51, o1 (.sl 2 (List.map eSParam x61.f5))), (52, oI (x61.f5.length : Int)), (53, oI (w64 (z91 + 1)))], [eSFace a0, [.opt 170 r101.2.1 1 0, .own 5 (List.map (eK .u8) r101.2.2)]], 0, []⟩ (by kernel_rfl) trivial ?_
          exact IH103 _ (w64 (z91 + 1), r101.2.1, r101.2.2) (Nat.le_refl _) h106
        · refine Tri.cond_false (useb (decide_eq_false h94) (by kernel_rfl)) ?_
          refine Tri.fix [3, 19, 20, 21] 2 [] ⟨69, [(3, o1 (.ref 1 0)), (19, o1 (.sl 6 (List.map eSItem a0.f1))), (20, oI (a0.f1.length : Int)), (21, oI z57)], [eSFace a0, [.opt 170 z92 1 0, .own 5 (List.map (eK .u8) z93)]], 0, []⟩ (by kernel_rfl) ?_
          refine Tri.exit ?_
          repeat (with_reducible refine Ex.exit ?_)
          refine Bk.here ?_
          exact ⟨(z92, z93), (Option.some.inj h106).symm, rfl⟩
    · refine Tri.cond_false (useb (decide_eq_false h60) (by kernel_rfl)) ?_
      refine Tri.fix [3] 2 [] ⟨69, [(3, o1 (.ref 1 0))], [eSFace a0, [.opt 170 z58 1 0, .own 5 (List.map (eK .u8) z59)]], 0, []⟩ (by kernel_rfl) ?_
      refine Tri.exit ?_
      repeat (with_reducible refine Ex.exit ?_)
      refine Bk.here ?_
      exact ⟨(z58, z59), (Option.some.inj h111).symm, rfl⟩
/-! impl_printOf: function 59 -/
def impl_printOf.l1 : Nat → ByteArray → Int → Int → Option Int
  | 0, _, _, _ => none
  | k + 1, a0, z4, z5 => if z5 < ((bytesOf a0).length : Int) then ((at? (bytesOf a0) z5).bind fun x7 => impl_printOf.l1 k a0 (Int.tmod (w64 ((ixor .i64 z4 (w64 (x7))) * 16777619)) 4294967296) (w64 (z5 + 1))) else (some z4)
def impl_printOf.e2 (k : Nat) (a0 : ByteArray) : Option Int := impl_printOf.l1 k a0 2166136261 0
def impl_printOf.f (k : Nat) (a0 : ByteArray) : Option Int := (impl_printOf.e2 k a0).bind fun y10 => some y10
set_option maxRecDepth 100000 in
theorem impl_printOf.fn (k : Nat) (a0 : ByteArray) (r : Int) (H : impl_printOf.f k a0 = some r) : Fn Tryz.prog 59 [oS a0] [] (oI r) [] := by
  unfold impl_printOf.f at H
  refine Fn.body (ts := [2]) Tryz.func59 rfl rfl (by decide) (by decide) (Nat.le_of_ble_eq_true rfl) (Nat.le_refl _) ?_
  refine Tri.rn [0] 0 [] [] [] ⟨21, [(0, oS a0)], [], 0, []⟩ (by kernel_rfl) trivial ?_
  refine Tri.rn [0, 3] 0 [] [] [] ⟨21, [(0, oS a0), (3, oI 2166136261)], [], 0, []⟩ (by kernel_rfl) trivial ?_
  obtain ⟨v12, h11, H⟩ := bind_some' H
  refine Tri.join (α := Int) (fun w => v12 = w) (fun y10 => ⟨21, [(3, oI y10)], [], 0, []⟩) (fun y10 hw => ?_) ?_
  · rw [hw] at H; clear hw
    try dsimp only at H
    refine Tri.rn [2] 0 [] [] [] ⟨21, [(2, oI y10)], [], 0, []⟩ (by kernel_rfl) trivial ?_
    refine Tri.ret ?_
    obtain rfl := Option.some.inj H
    exact ⟨.inr rfl, rfl, rfl, Nat.le_refl _, rfl, by simp⟩
  · unfold impl_printOf.e2 at h11
    refine Tri.rn [3, 7, 8, 9] 0 [] [(2, .ov [.sc (.int .i64 ((bytesOf a0).length : Int))])] [_] ⟨21, [(3, oI 2166136261), (7, o1 (.sl 1 (List.map (eK .u8) (bytesOf a0)))), (8, oI ((bytesOf a0).length : Int)), (9, oI 0)], [], 0, []⟩ (by kernel_rfl) ⟨(ovlen (f := (eK .u8)) (l := bytesOf a0)), trivial⟩ ?_
    refine Tri.block ?_
    refine Tri.loop k (TriR.ind (α := (Int × Int)) (fun k x => impl_printOf.l1 k a0 x.1 x.2) (fun x => ⟨21, [(3, oI x.1), (7, o1 (.sl 1 (List.map (eK .u8) (bytesOf a0)))), (8, oI ((bytesOf a0).length : Int)), (9, oI x.2)], [], 0, []⟩) (fun _ => rfl) (fun k x h11 IH9 => ?_) k (2166136261, 0) h11)
    obtain ⟨z4, z5⟩ := x
    rw [impl_printOf.l1.eq_2] at h11
    refine Tri.rn [3, 7, 8, 9, 10] 0 [] [] [] ⟨21, [(3, oI z4), (7, o1 (.sl 1 (List.map (eK .u8) (bytesOf a0)))), (8, oI ((bytesOf a0).length : Int)), (9, oI z5), (10, oB (decide (z5 < ((bytesOf a0).length : Int))))], [], 0, []⟩ (by kernel_rfl) trivial ?_
    refine Tri.seq ?_
    rcases ite_some h11 with ⟨h6, h11⟩ | ⟨h6, h11⟩
    · refine Tri.cond_true (useb (decide_eq_true h6) (by kernel_rfl)) ?_
      refine Tri.skip ?_
      refine Tri.seq ?_
      refine Tri.block ?_
      obtain ⟨x7, h8, h11⟩ := bind_some' h11
      refine Tri.rn [3, 5, 7, 8, 9] 0 [] [(0, .el ((eK .u8) x7))] [_, _] ⟨21, [(3, oI z4), (5, o1 (cK .u8 x7)), (7, o1 (.sl 1 (List.map (eK .u8) (bytesOf a0)))), (8, oI ((bytesOf a0).length : Int)), (9, oI z5)], [], 0, []⟩ (by kernel_rfl) ⟨(at?_0 h8), (at?_map (f := (eK .u8)) h8), trivial⟩ ?_
      refine Tri.r1 [3, 7, 8, 9] 0 [] [] [_] ⟨21, [(3, oI (Int.tmod (w64 ((ixor .i64 z4 (w64 (x7))) * 16777619)) 4294967296)), (7, o1 (.sl 1 (List.map (eK .u8) (bytesOf a0)))), (8, oI ((bytesOf a0).length : Int)), (9, oI z5)], [], 0, []⟩ (by kernel_rfl) ⟨(show (4294967296 : Int) ≠ 0 by decide), trivial⟩ ?_
      refine Tri.r1 [3, 7, 8, 9] 0 [] [] [] ⟨21, [(3, oI (Int.tmod (w64 ((ixor .i64 z4 (w64 (x7))) * 16777619)) 4294967296)), (7, o1 (.sl 1 (List.map (eK .u8) (bytesOf a0)))), (8, oI ((bytesOf a0).length : Int)), (9, oI (w64 (z5 + 1)))], [], 0, []⟩ (by kernel_rfl) trivial ?_
      exact IH9 _ ((Int.tmod (w64 ((ixor .i64 z4 (w64 (x7))) * 16777619)) 4294967296), w64 (z5 + 1)) (Nat.le_refl _) h11
    · refine Tri.cond_false (useb (decide_eq_false h6) (by kernel_rfl)) ?_
      refine Tri.fix [3] 0 [] ⟨21, [(3, oI z4)], [], 0, []⟩ (by kernel_rfl) ?_
      refine Tri.exit ?_
      repeat (with_reducible refine Ex.exit ?_)
      refine Bk.here ?_
      exact ⟨z4, (Option.some.inj h11).symm, rfl⟩
/-! impl_PrintOf: function 15 -/
def impl_PrintOf.f (k : Nat) (a0 : SFace) : Option (Int × Int) := (impl_InterfaceOK.f k a0).bind fun r1 => if r1 = true then ((impl_Interface__bytes.f k a0).bind fun r4 => (impl_printOf.f k r4).bind fun r6 => some (r6, 0)) else (some (0, 1))
set_option maxRecDepth 100000 in
theorem impl_PrintOf.fn (k : Nat) (a0 : SFace) (r : (Int × Int)) (H : impl_PrintOf.f k a0 = some r) : Fn Tryz.prog 15 [ag (eSFace a0)] [] (tp [none, none] [cI r.1, cI r.2]) [] := by
  unfold impl_PrintOf.f at H
  refine Fn.body (ts := [2, 3]) Tryz.func15 rfl rfl (by decide) (by decide) (Nat.le_of_ble_eq_true rfl) (Nat.le_refl _) ?_
  refine Tri.rn [1] 1 [] [] [] ⟨10, [(1, o1 (.ref 0 0))], [eSFace a0], 0, []⟩ (by kernel_rfl) trivial ?_
  refine Tri.seq ?_
  obtain ⟨r1, h2, H⟩ := bind_some' H
  refine Tri.rn [1, 6] 1 [] [(1, .call (oB r1) [] false)] [_, _] ⟨10, [(1, o1 (.ref 0 0)), (6, oB (!r1))], [eSFace a0], 0, []⟩ (by kernel_rfl) ⟨(impl_InterfaceOK.fn k a0 r1 h2), (show (List.all [cB r1] PC.flatB) = true from rfl), trivial⟩ ?_
  rcases iteb_some H with ⟨h3, H⟩ | ⟨h3, H⟩
  · refine Tri.cond_false (useb (nF h3) (by kernel_rfl)) ?_
    refine Tri.skip ?_
    obtain ⟨r4, h5, H⟩ := bind_some' H
    obtain ⟨r6, h7, H⟩ := bind_some' H
    refine Tri.rn [2, 3] 0 [] [(1, .call (oS r4) [] false), (2, .call (oI r6) [] false)] [_, _, _, _] ⟨10, [(2, oI r6), (3, oI 0)], [], 0, []⟩ (by kernel_rfl) ⟨(impl_Interface__bytes.fn k a0 r4 h5), (show (List.all [cS r4] PC.flatB) = true from rfl), (impl_printOf.fn k r4 r6 h7), (show (List.all [cI r6] PC.flatB) = true from rfl), trivial⟩ ?_
    refine Tri.ret ?_
    obtain rfl := Option.some.inj H
    exact ⟨.inr rfl, rfl, rfl, Nat.le_refl _, rfl, by simp⟩
  · refine Tri.cond_true (useb (nT h3) (by kernel_rfl)) ?_
    refine Tri.rn [2, 3] 0 [] [] [] ⟨10, [(2, oI 0), (3, oI 1)], [], 0, []⟩ (by kernel_rfl) trivial ?_
    refine Tri.ret ?_
    obtain rfl := Option.some.inj H
    exact ⟨.inr rfl, rfl, rfl, Nat.le_refl _, rfl, by simp⟩
/-! laws_eqParam: function 213 -/
def laws_eqParam.e1 (k : Nat) (a0 : SParam) (a1 : SParam) : Option (Bool ⊕ Unit) := if a0.f1 = true then (if a1.f1 = true then (some (.inr ())) else (some (.inl false))) else (if a1.f1 = true then (some (.inl false)) else (some (.inr ())))
def laws_eqParam.f (k : Nat) (a0 : SParam) (a1 : SParam) : Option Bool := if a0.f0 = a1.f0 then ((laws_eqParam.e1 k a0 a1).bind fun v => match v with | .inl r => some r | .inr _ => some true) else (some false)
set_option maxRecDepth 100000 in
theorem laws_eqParam.fn (k : Nat) (a0 : SParam) (a1 : SParam) (r : Bool) (H : laws_eqParam.f k a0 a1 = some r) : Fn Tryz.prog 213 [ag (eSParam a0), ag (eSParam a1)] [] (oB r) [] := by
  unfold laws_eqParam.f at H
  refine Fn.body (ts := [4]) Tryz.func213 rfl rfl (by decide) (by decide) (Nat.le_of_ble_eq_true rfl) (Nat.le_refl _) ?_
  refine Tri.rn [2, 3] 2 [] [] [] ⟨15, [(2, o1 (.ref 0 0)), (3, o1 (.ref 1 0))], [eSParam a0, eSParam a1], 0, []⟩ (by kernel_rfl) trivial ?_
  refine Tri.seq ?_
  refine Tri.rn [2, 3, 9] 2 [] [] [] ⟨15, [(2, o1 (.ref 0 0)), (3, o1 (.ref 1 0)), (9, oB (!(decide (a0.f0 = a1.f0))))], [eSParam a0, eSParam a1], 0, []⟩ (by kernel_rfl) trivial ?_
  rcases ite_some H with ⟨h1, H⟩ | ⟨h1, H⟩
  · refine Tri.cond_false (useb (nF (decide_eq_true h1)) (by kernel_rfl)) ?_
    refine Tri.skip ?_
    obtain ⟨v6, h5, H⟩ := bind_some' H
    refine Tri.join (α := Unit) (fun w => v6 = .inr w) (fun _ => ⟨15, [], [], 0, []⟩) (fun w hw => ?_) ?_
    · rw [hw] at H; clear hw
      try dsimp only at H
      refine Tri.rn [4] 0 [] [] [] ⟨15, [(4, oB true)], [], 0, []⟩ (by kernel_rfl) trivial ?_
      refine Tri.ret ?_
      obtain rfl := Option.some.inj H
      exact ⟨.inr rfl, rfl, rfl, Nat.le_refl _, rfl, by simp⟩
    · unfold laws_eqParam.e1 at h5
      refine Tri.rn [14] 0 [] [] [] ⟨15, [(14, oB (!(a0.f1 == a1.f1)))], [], 0, []⟩ (by kernel_rfl) trivial ?_
      rcases iteb_some h5 with ⟨h2, h5⟩ | ⟨h2, h5⟩
      · rcases iteb_some h5 with ⟨h3, h5⟩ | ⟨h3, h5⟩
        · refine Tri.cond_false (useb (nF (beqv h2 h3)) (by kernel_rfl)) ?_
          refine Tri.fix [] 0 [] ⟨15, [], [], 0, []⟩ (by kernel_rfl) ?_
          refine Tri.skip ?_
          exact ⟨(), (Option.some.inj h5).symm, rfl⟩
        · refine Tri.cond_true (useb (nT (beqv h2 h3)) (by kernel_rfl)) ?_
          refine Tri.rn [4] 0 [] [] [] ⟨15, [(4, oB false)], [], 0, []⟩ (by kernel_rfl) trivial ?_
          refine Tri.ret ?_
          obtain rfl := Option.some.inj h5
          try dsimp only at H
          obtain rfl := Option.some.inj H
          exact ⟨.inr rfl, rfl, rfl, Nat.le_refl _, rfl, by simp⟩
      · rcases iteb_some h5 with ⟨h4, h5⟩ | ⟨h4, h5⟩
        · refine Tri.cond_true (useb (nT (beqv h2 h4)) (by kernel_rfl)) ?_
          refine Tri.rn [4] 0 [] [] [] ⟨15, [(4, oB false)], [], 0, []⟩ (by kernel_rfl) trivial ?_
          refine Tri.ret ?_
          obtain rfl := Option.some.inj h5
          try dsimp only at H
          obtain rfl := Option.some.inj H
          exact ⟨.inr rfl, rfl, rfl, Nat.le_refl _, rfl, by simp⟩
        · refine Tri.cond_false (useb (nF (beqv h2 h4)) (by kernel_rfl)) ?_
          refine Tri.fix [] 0 [] ⟨15, [], [], 0, []⟩ (by kernel_rfl) ?_
          refine Tri.skip ?_
          exact ⟨(), (Option.some.inj h5).symm, rfl⟩
  · refine Tri.cond_true (useb (nT (decide_eq_false h1)) (by kernel_rfl)) ?_
    refine Tri.rn [4] 0 [] [] [] ⟨15, [(4, oB false)], [], 0, []⟩ (by kernel_rfl) trivial ?_
    refine Tri.ret ?_
    obtain rfl := Option.some.inj H
    exact ⟨.inr rfl, rfl, rfl, Nat.le_refl _, rfl, by simp⟩
/-! laws_eqParamS: function 175 -/
def laws_eqParamS.l1 : Nat → (List SParam) → (List SParam) → Int → Option (Bool ⊕ Unit)
  | 0, _, _, _ => none
  | k + 1, a0, a1, z10 => if z10 < (a0.length : Int) then ((at? a0 z10).bind fun x12 => (at? a1 z10).bind fun x14 => (laws_eqParam.f k x12 x14).bind fun r16 => if r16 = true then (laws_eqParamS.l1 k a0 a1 (w64 (z10 + 1))) else (some (.inl false))) else (some (.inr ()))
def laws_eqParamS.e2 (k : Nat) (a0 : (List SParam)) (a1 : (List SParam)) : Option (Bool ⊕ Unit) := laws_eqParamS.l1 k a0 a1 0
def laws_eqParamS.f (k : Nat) (a0 : (List SParam)) (a1 : (List SParam)) : Option Bool := if (a0.length : Int) = (a1.length : Int) then ((laws_eqParamS.e2 k a0 a1).bind fun v => match v with | .inl r => some r | .inr _ => some true) else (some false)
set_option maxRecDepth 100000 in
theorem laws_eqParamS.fn (k : Nat) (a0 : (List SParam)) (a1 : (List SParam)) (r : Bool) (H : laws_eqParamS.f k a0 a1 = some r) : Fn Tryz.prog 175 [o1 (.sl 2 (List.map eSParam a0)), o1 (.sl 2 (List.map eSParam a1))] [] (oB r) [] := by
  unfold laws_eqParamS.f at H
  refine Fn.body (ts := [4]) Tryz.func175 rfl rfl (by decide) (by decide) (Nat.le_of_ble_eq_true rfl) (Nat.le_refl _) ?_
  refine Tri.rn [0, 1] 0 [] [] [] ⟨27, [(0, o1 (.sl 2 (List.map eSParam a0))), (1, o1 (.sl 2 (List.map eSParam a1)))], [], 0, []⟩ (by kernel_rfl) trivial ?_
  refine Tri.seq ?_
  refine Tri.rn [0, 1, 10] 0 [] [(1, .ov [.sc (.int .i64 (a0.length : Int))]), (3, .ov [.sc (.int .i64 (a1.length : Int))])] [_, _] ⟨27, [(0, o1 (.sl 2 (List.map eSParam a0))), (1, o1 (.sl 2 (List.map eSParam a1))), (10, oB (!(decide ((a0.length : Int) = (a1.length : Int)))))], [], 0, []⟩ (by kernel_rfl) ⟨(ovlen (f := eSParam) (l := a0)), (ovlen (f := eSParam) (l := a1)), trivial⟩ ?_
  rcases ite_some H with ⟨h1, H⟩ | ⟨h1, H⟩
  · refine Tri.cond_false (useb (nF (decide_eq_true h1)) (by kernel_rfl)) ?_
    refine Tri.skip ?_
    obtain ⟨v21, h20, H⟩ := bind_some' H
    refine Tri.join (α := Unit) (fun w => v21 = .inr w) (fun _ => ⟨27, [], [], 0, []⟩) (fun w hw => ?_) ?_
    · rw [hw] at H; clear hw
      try dsimp only at H
      refine Tri.rn [4] 0 [] [] [] ⟨27, [(4, oB true)], [], 0, []⟩ (by kernel_rfl) trivial ?_
      refine Tri.ret ?_
      obtain rfl := Option.some.inj H
      exact ⟨.inr rfl, rfl, rfl, Nat.le_refl _, rfl, by simp⟩
    · unfold laws_eqParamS.e2 at h20
      refine Tri.rn [0, 1, 5] 0 [] [] [] ⟨27, [(0, o1 (.sl 2 (List.map eSParam a0))), (1, o1 (.sl 2 (List.map eSParam a1))), (5, oI 0)], [], 0, []⟩ (by kernel_rfl) trivial ?_
      refine Tri.block ?_
      refine Tri.loop k (TriR.ind (α := Int) (fun k x => laws_eqParamS.l1 k a0 a1 x) (fun x => ⟨27, [(0, o1 (.sl 2 (List.map eSParam a0))), (1, o1 (.sl 2 (List.map eSParam a1))), (5, oI x)], [], 0, []⟩) (fun _ => rfl) (fun k z10 h20 IH19 => ?_) k 0 h20)
      rw [laws_eqParamS.l1.eq_2] at h20
      refine Tri.seq ?_
      refine Tri.rn [0, 1, 5, 14] 0 [] [(2, .ov [.sc (.int .i64 (a0.length : Int))])] [_] ⟨27, [(0, o1 (.sl 2 (List.map eSParam a0))), (1, o1 (.sl 2 (List.map eSParam a1))), (5, oI z10), (14, oB (decide (z10 < (a0.length : Int))))], [], 0, []⟩ (by kernel_rfl) ⟨(ovlen (f := eSParam) (l := a0)), trivial⟩ ?_
      rcases ite_some h20 with ⟨h11, h20⟩ | ⟨h11, h20⟩
      · refine Tri.cond_true (useb (decide_eq_true h11) (by kernel_rfl)) ?_
        refine Tri.skip ?_
        refine Tri.seq ?_
        refine Tri.block ?_
        obtain ⟨x12, h13, h20⟩ := bind_some' h20
        obtain ⟨x14, h15, h20⟩ := bind_some' h20
        obtain ⟨r16, h17, h20⟩ := bind_some' h20
        refine Tri.dn hmix 8 [[], [], [0, 1], [0, 1, 2], [], [], [4, 5], [4, 5, 6], [0, 1, 2, 3, 4, 5, 6, 7], [0, 1, 2, 3, 4, 5, 6, 7, 8]] [0, 1, 5, 26] 0 [] [(2, .el (eSParam x12)), (6, .el (eSParam x14)), (8, .call (oB r16) [] false)] [_, _, _, _, _, _] ⟨27, [(0, o1 (.sl 2 (List.map eSParam a0))), (1, o1 (.sl 2 (List.map eSParam a1))), (5, oI z10), (26, oB (!r16))], [], 0, []⟩ (by kernel_rfl) ⟨(at?_0 h13), (at?_map (f := eSParam) h13), (at?_0 h15), (at?_map (f := eSParam) h15), (laws_eqParam.fn k x12 x14 r16 h17), (show (List.all [cB r16] PC.flatB) = true from rfl), trivial⟩ ?_
        rcases iteb_some h20 with ⟨h18, h20⟩ | ⟨h18, h20⟩
        · refine Tri.cond_false (useb (nF h18) (by kernel_rfl)) ?_
          refine Tri.skip ?_
          refine Tri.r1 [0, 1, 5] 0 [] [] [] ⟨27, [(0, o1 (.sl 2 (List.map eSParam a0))), (1, o1 (.sl 2 (List.map eSParam a1))), (5, oI (w64 (z10 + 1)))], [], 0, []⟩ (by kernel_rfl) trivial ?_
          exact IH19 _ (w64 (z10 + 1)) (Nat.le_refl _) h20
        · refine Tri.cond_true (useb (nT h18) (by kernel_rfl)) ?_
          refine Tri.rn [4] 0 [] [] [] ⟨27, [(4, oB false)], [], 0, []⟩ (by kernel_rfl) trivial ?_
          refine Tri.ret ?_
          obtain rfl := Option.some.inj h20
          try dsimp only at H
          obtain rfl := Option.some.inj H
          exact ⟨.inr rfl, rfl, rfl, Nat.le_refl _, rfl, by simp⟩
      · refine Tri.cond_false (useb (decide_eq_false h11) (by kernel_rfl)) ?_
        refine Tri.fix [] 0 [] ⟨27, [], [], 0, []⟩ (by kernel_rfl) ?_
        refine Tri.exit ?_
        repeat (with_reducible refine Ex.exit ?_)
        refine Bk.here ?_
        exact ⟨(), (Option.some.inj h20).symm, rfl⟩
  · refine Tri.cond_true (useb (nT (decide_eq_false h1)) (by kernel_rfl)) ?_
    refine Tri.rn [4] 0 [] [] [] ⟨27, [(4, oB false)], [], 0, []⟩ (by kernel_rfl) trivial ?_
    refine Tri.ret ?_
    obtain rfl := Option.some.inj H
    exact ⟨.inr rfl, rfl, rfl, Nat.le_refl _, rfl, by simp⟩
/-! laws_eqItem: function 125 -/
def laws_eqItem.f (k : Nat) (a0 : SItem) (a1 : SItem) : Option Bool := if a0.f0 = a1.f0 then (if a0.f1 = a1.f1 then (if a0.f2 = a1.f2 then (if a0.f3 = a1.f3 then (if a0.f4 = a1.f4 then ((laws_eqParamS.f k a0.f5 a1.f5).bind fun r6 => if r6 = true then (some true) else (some false)) else (some false)) else (some false)) else (some false)) else (some false)) else (some false)
set_option maxRecDepth 100000 in
theorem laws_eqItem.fn (k : Nat) (a0 : SItem) (a1 : SItem) (r : Bool) (H : laws_eqItem.f k a0 a1 = some r) : Fn Tryz.prog 125 [ag (eSItem a0), ag (eSItem a1)] [] (oB r) [] := by
  unfold laws_eqItem.f at H
  refine Fn.body (ts := [4]) Tryz.func125 rfl rfl (by decide) (by decide) (Nat.le_of_ble_eq_true rfl) (Nat.le_refl _) ?_
  refine Tri.rn [2, 3] 2 [] [] [] ⟨36, [(2, o1 (.ref 0 0)), (3, o1 (.ref 1 0))], [eSItem a0, eSItem a1], 0, []⟩ (by kernel_rfl) trivial ?_
  refine Tri.seq ?_
  refine Tri.rn [2, 3, 9] 2 [] [] [] ⟨36, [(2, o1 (.ref 0 0)), (3, o1 (.ref 1 0)), (9, oB (!(decide (a0.f0 = a1.f0))))], [eSItem a0, eSItem a1], 0, []⟩ (by kernel_rfl) trivial ?_
  rcases ite_some H with ⟨h1, H⟩ | ⟨h1, H⟩
  · refine Tri.cond_false (useb (nF (decide_eq_true h1)) (by kernel_rfl)) ?_
    refine Tri.skip ?_
    refine Tri.seq ?_
    refine Tri.rn [2, 3, 14] 2 [] [] [] ⟨36, [(2, o1 (.ref 0 0)), (3, o1 (.ref 1 0)), (14, oB (!(decide (a0.f1 = a1.f1))))], [eSItem a0, eSItem a1], 0, []⟩ (by kernel_rfl) trivial ?_
    rcases ite_some H with ⟨h2, H⟩ | ⟨h2, H⟩
    · refine Tri.cond_false (useb (nF (decide_eq_true h2)) (by kernel_rfl)) ?_
      refine Tri.skip ?_
      refine Tri.seq ?_
      refine Tri.rn [2, 3, 19] 2 [] [] [] ⟨36, [(2, o1 (.ref 0 0)), (3, o1 (.ref 1 0)), (19, oB (!(decide (a0.f2 = a1.f2))))], [eSItem a0, eSItem a1], 0, []⟩ (by kernel_rfl) trivial ?_
      rcases ite_some H with ⟨h3, H⟩ | ⟨h3, H⟩
      · refine Tri.cond_false (useb (nF (decide_eq_true h3)) (by kernel_rfl)) ?_
        refine Tri.skip ?_
        refine Tri.seq ?_
        refine Tri.rn [2, 3, 24] 2 [] [] [] ⟨36, [(2, o1 (.ref 0 0)), (3, o1 (.ref 1 0)), (24, oB (!(decide (a0.f3 = a1.f3))))], [eSItem a0, eSItem a1], 0, []⟩ (by kernel_rfl) trivial ?_
        rcases ite_some H with ⟨h4, H⟩ | ⟨h4, H⟩
        · refine Tri.cond_false (useb (nF (decide_eq_true h4)) (by kernel_rfl)) ?_
          refine Tri.skip ?_
          refine Tri.seq ?_
          refine Tri.rn [2, 3, 29] 2 [] [] [] ⟨36, [(2, o1 (.ref 0 0)), (3, o1 (.ref 1 0)), (29, oB (!(decide (a0.f4 = a1.f4))))], [eSItem a0, eSItem a1], 0, []⟩ (by kernel_rfl) trivial ?_
          rcases ite_some H with ⟨h5, H⟩ | ⟨h5, H⟩
          · refine Tri.cond_false (useb (nF (decide_eq_true h5)) (by kernel_rfl)) ?_
            refine Tri.skip ?_
            refine Tri.seq ?_
            obtain ⟨r6, h7, H⟩ := bind_some' H
            refine Tri.rn [35] 0 [] [(4, .call (oB r6) [] false)] [_, _] ⟨36, [(35, oB (!r6))], [], 0, []⟩ (by kernel_rfl) ⟨(laws_eqParamS.fn k a0.f5 a1.f5 r6 h7), (show (List.all [cB r6] PC.flatB) = true from rfl), trivial⟩ ?_
            rcases iteb_some H with ⟨h8, H⟩ | ⟨h8, H⟩
            · refine Tri.cond_false (useb (nF h8) (by kernel_rfl)) ?_
              refine Tri.skip ?_
              refine Tri.rn [4] 0 [] [] [] ⟨36, [(4, oB true)], [], 0, []⟩ (by kernel_rfl) trivial ?_
              refine Tri.ret ?_
              obtain rfl := Option.some.inj H
              exact ⟨.inr rfl, rfl, rfl, Nat.le_refl _, rfl, by simp⟩
            · refine Tri.cond_true (useb (nT h8) (by kernel_rfl)) ?_
              refine Tri.rn [4] 0 [] [] [] ⟨36, [(4, oB false)], [], 0, []⟩ (by kernel_rfl) trivial ?_
              refine Tri.ret ?_
              obtain rfl := Option.some.inj H
              exact ⟨.inr rfl, rfl, rfl, Nat.le_refl _, rfl, by simp⟩
          · refine Tri.cond_true (useb (nT (decide_eq_false h5)) (by kernel_rfl)) ?_
            refine Tri.rn [4] 0 [] [] [] ⟨36, [(4, oB false)], [], 0, []⟩ (by kernel_rfl) trivial ?_
            refine Tri.ret ?_
            obtain rfl := Option.some.inj H
            exact ⟨.inr rfl, rfl, rfl, Nat.le_refl _, rfl, by simp⟩
        · refine Tri.cond_true (useb (nT (decide_eq_false h4)) (by kernel_rfl)) ?_
          refine Tri.rn [4] 0 [] [] [] ⟨36, [(4, oB false)], [], 0, []⟩ (by kernel_rfl) trivial ?_
          refine Tri.ret ?_
          obtain rfl := Option.some.inj H
          exact ⟨.inr rfl, rfl, rfl, Nat.le_refl _, rfl, by simp⟩
      · refine Tri.cond_true (useb (nT (decide_eq_false h3)) (by kernel_rfl)) ?_
        refine Tri.rn [4] 0 [] [] [] ⟨36, [(4, oB false)], [], 0, []⟩ (by kernel_rfl) trivial ?_
        refine Tri.ret ?_
        obtain rfl := Option.some.inj H
        exact ⟨.inr rfl, rfl, rfl, Nat.le_refl _, rfl, by simp⟩
    · refine Tri.cond_true (useb (nT (decide_eq_false h2)) (by kernel_rfl)) ?_
      refine Tri.rn [4] 0 [] [] [] ⟨36, [(4, oB false)], [], 0, []⟩ (by kernel_rfl) trivial ?_
      refine Tri.ret ?_
      obtain rfl := Option.some.inj H
      exact ⟨.inr rfl, rfl, rfl, Nat.le_refl _, rfl, by simp⟩
  · refine Tri.cond_true (useb (nT (decide_eq_false h1)) (by kernel_rfl)) ?_
    refine Tri.rn [4] 0 [] [] [] ⟨36, [(4, oB false)], [], 0, []⟩ (by kernel_rfl) trivial ?_
    refine Tri.ret ?_
    obtain rfl := Option.some.inj H
    exact ⟨.inr rfl, rfl, rfl, Nat.le_refl _, rfl, by simp⟩
/-! laws_eqItemS: function 61 -/
def laws_eqItemS.l1 : Nat → (List SItem) → (List SItem) → Int → Option (Bool ⊕ Unit)
  | 0, _, _, _ => none
  | k + 1, a0, a1, z10 => if z10 < (a0.length : Int) then ((at? a0 z10).bind fun x12 => (at? a1 z10).bind fun x14 => (laws_eqItem.f k x12 x14).bind fun r16 => if r16 = true then (laws_eqItemS.l1 k a0 a1 (w64 (z10 + 1))) else (some (.inl false))) else (some (.inr ()))
def laws_eqItemS.e2 (k : Nat) (a0 : (List SItem)) (a1 : (List SItem)) : Option (Bool ⊕ Unit) := laws_eqItemS.l1 k a0 a1 0
def laws_eqItemS.f (k : Nat) (a0 : (List SItem)) (a1 : (List SItem)) : Option Bool := if (a0.length : Int) = (a1.length : Int) then ((laws_eqItemS.e2 k a0 a1).bind fun v => match v with | .inl r => some r | .inr _ => some true) else (some false)
set_option maxRecDepth 100000 in
theorem laws_eqItemS.fn (k : Nat) (a0 : (List SItem)) (a1 : (List SItem)) (r : Bool) (H : laws_eqItemS.f k a0 a1 = some r) : Fn Tryz.prog 61 [o1 (.sl 6 (List.map eSItem a0)), o1 (.sl 6 (List.map eSItem a1))] [] (oB r) [] := by
  unfold laws_eqItemS.f at H
  refine Fn.body (ts := [4]) Tryz.func61 rfl rfl (by decide) (by decide) (Nat.le_of_ble_eq_true rfl) (Nat.le_refl _) ?_
  refine Tri.rn [0, 1] 0 [] [] [] ⟨27, [(0, o1 (.sl 6 (List.map eSItem a0))), (1, o1 (.sl 6 (List.map eSItem a1)))], [], 0, []⟩ (by kernel_rfl) trivial ?_
  refine Tri.seq ?_
  refine Tri.rn [0, 1, 10] 0 [] [(1, .ov [.sc (.int .i64 (a0.length : Int))]), (3, .ov [.sc (.int .i64 (a1.length : Int))])] [_, _] ⟨27, [(0, o1 (.sl 6 (List.map eSItem a0))), (1, o1 (.sl 6 (List.map eSItem a1))), (10, oB (!(decide ((a0.length : Int) = (a1.length : Int)))))], [], 0, []⟩ (by kernel_rfl) ⟨(ovlen (f := eSItem) (l := a0)), (ovlen (f := eSItem) (l := a1)), trivial⟩ ?_
  rcases ite_some H with ⟨h1, H⟩ | ⟨h1, H⟩
  · refine Tri.cond_false (useb (nF (decide_eq_true h1)) (by kernel_rfl)) ?_
    refine Tri.skip ?_
    obtain ⟨v21, h20, H⟩ := bind_some' H
    refine Tri.join (α := Unit) (fun w => v21 = .inr w) (fun _ => ⟨27, [], [], 0, []⟩) (fun w hw => ?_) ?_
    · rw [hw] at H; clear hw
      try dsimp only at H
      refine Tri.rn [4] 0 [] [] [] ⟨27, [(4, oB true)], [], 0, []⟩ (by kernel_rfl) trivial ?_
      refine Tri.ret ?_
      obtain rfl := Option.some.inj H
      exact ⟨.inr rfl, rfl, rfl, Nat.le_refl _, rfl, by simp⟩
    · unfold laws_eqItemS.e2 at h20
      refine Tri.rn [0, 1, 5] 0 [] [] [] ⟨27, [(0, o1 (.sl 6 (List.map eSItem a0))), (1, o1 (.sl 6 (List.map eSItem a1))), (5, oI 0)], [], 0, []⟩ (by kernel_rfl) trivial ?_
      refine Tri.block ?_
      refine Tri.loop k (TriR.ind (α := Int) (fun k x => laws_eqItemS.l1 k a0 a1 x) (fun x => ⟨27, [(0, o1 (.sl 6 (List.map eSItem a0))), (1, o1 (.sl 6 (List.map eSItem a1))), (5, oI x)], [], 0, []⟩) (fun _ => rfl) (fun k z10 h20 IH19 => ?_) k 0 h20)
      rw [laws_eqItemS.l1.eq_2] at h20
      refine Tri.seq ?_
      refine Tri.rn [0, 1, 5, 14] 0 [] [(2, .ov [.sc (.int .i64 (a0.length : Int))])] [_] ⟨27, [(0, o1 (.sl 6 (List.map eSItem a0))), (1, o1 (.sl 6 (List.map eSItem a1))), (5, oI z10), (14, oB (decide (z10 < (a0.length : Int))))], [], 0, []⟩ (by kernel_rfl) ⟨(ovlen (f := eSItem) (l := a0)), trivial⟩ ?_
      rcases ite_some h20 with ⟨h11, h20⟩ | ⟨h11, h20⟩
      · refine Tri.cond_true (useb (decide_eq_true h11) (by kernel_rfl)) ?_
        refine Tri.skip ?_
        refine Tri.seq ?_
        refine Tri.block ?_
        obtain ⟨x12, h13, h20⟩ := bind_some' h20
        obtain ⟨x14, h15, h20⟩ := bind_some' h20
        obtain ⟨r16, h17, h20⟩ := bind_some' h20
        refine Tri.dn hmix 8 [[], [], [0, 1], [0, 1, 2], [], [], [4, 5], [4, 5, 6], [0, 1, 2, 3, 4, 5, 6, 7], [0, 1, 2, 3, 4, 5, 6, 7, 8]] [0, 1, 5, 26] 0 [] [(2, .el (eSItem x12)), (6, .el (eSItem x14)), (8, .call (oB r16) [] false)] [_, _, _, _, _, _] ⟨27, [(0, o1 (.sl 6 (List.map eSItem a0))), (1, o1 (.sl 6 (List.map eSItem a1))), (5, oI z10), (26, oB (!r16))], [], 0, []⟩ (by kernel_rfl) ⟨(at?_0 h13), (at?_map (f := eSItem) h13), (at?_0 h15), (at?_map (f := eSItem) h15), (laws_eqItem.fn k x12 x14 r16 h17), (show (List.all [cB r16] PC.flatB) = true from rfl), trivial⟩ ?_
        rcases iteb_some h20 with ⟨h18, h20⟩ | ⟨h18, h20⟩
        · refine Tri.cond_false (useb (nF h18) (by kernel_rfl)) ?_
          refine Tri.skip ?_
          refine Tri.r1 [0, 1, 5] 0 [] [] [] ⟨27, [(0, o1 (.sl 6 (List.map eSItem a0))), (1, o1 (.sl 6 (List.map eSItem a1))), (5, oI (w64 (z10 + 1)))], [], 0, []⟩ (by kernel_rfl) trivial ?_
          exact IH19 _ (w64 (z10 + 1)) (Nat.le_refl _) h20
        · refine Tri.cond_true (useb (nT h18) (by kernel_rfl)) ?_
          refine Tri.rn [4] 0 [] [] [] ⟨27, [(4, oB false)], [], 0, []⟩ (by kernel_rfl) trivial ?_
          refine Tri.ret ?_
          obtain rfl := Option.some.inj h20
          try dsimp only at H
          obtain rfl := Option.some.inj H
          exact ⟨.inr rfl, rfl, rfl, Nat.le_refl _, rfl, by simp⟩
      · refine Tri.cond_false (useb (decide_eq_false h11) (by kernel_rfl)) ?_
        refine Tri.fix [] 0 [] ⟨27, [], [], 0, []⟩ (by kernel_rfl) ?_
        refine Tri.exit ?_
        repeat (with_reducible refine Ex.exit ?_)
        refine Bk.here ?_
        exact ⟨(), (Option.some.inj h20).symm, rfl⟩
  · refine Tri.cond_true (useb (nT (decide_eq_false h1)) (by kernel_rfl)) ?_
    refine Tri.rn [4] 0 [] [] [] ⟨27, [(4, oB false)], [], 0, []⟩ (by kernel_rfl) trivial ?_
    refine Tri.ret ?_
    obtain rfl := Option.some.inj H
    exact ⟨.inr rfl, rfl, rfl, Nat.le_refl _, rfl, by simp⟩
/-! laws_eqInterface: function 16 -/
def laws_eqInterface.f (k : Nat) (a0 : SFace) (a1 : SFace) : Option Bool := if a0.f0 = a1.f0 then ((laws_eqItemS.f k a0.f1 a1.f1).bind fun r2 => if r2 = true then (some true) else (some false)) else (some false)
set_option maxRecDepth 100000 in
theorem laws_eqInterface.fn (k : Nat) (a0 : SFace) (a1 : SFace) (r : Bool) (H : laws_eqInterface.f k a0 a1 = some r) : Fn Tryz.prog 16 [ag (eSFace a0), ag (eSFace a1)] [] (oB r) [] := by
  unfold laws_eqInterface.f at H
  refine Fn.body (ts := [4]) Tryz.func16 rfl rfl (by decide) (by decide) (Nat.le_of_ble_eq_true rfl) (Nat.le_refl _) ?_
  refine Tri.rn [2, 3] 2 [] [] [] ⟨16, [(2, o1 (.ref 0 0)), (3, o1 (.ref 1 0))], [eSFace a0, eSFace a1], 0, []⟩ (by kernel_rfl) trivial ?_
  refine Tri.seq ?_
  refine Tri.rn [2, 3, 9] 2 [] [] [] ⟨16, [(2, o1 (.ref 0 0)), (3, o1 (.ref 1 0)), (9, oB (!(decide (a0.f0 = a1.f0))))], [eSFace a0, eSFace a1], 0, []⟩ (by kernel_rfl) trivial ?_
  rcases ite_some H with ⟨h1, H⟩ | ⟨h1, H⟩
  · refine Tri.cond_false (useb (nF (decide_eq_true h1)) (by kernel_rfl)) ?_
    refine Tri.skip ?_
    refine Tri.seq ?_
    obtain ⟨r2, h3, H⟩ := bind_some' H
    refine Tri.rn [15] 0 [] [(4, .call (oB r2) [] false)] [_, _] ⟨16, [(15, oB (!r2))], [], 0, []⟩ (by kernel_rfl) ⟨(laws_eqItemS.fn k a0.f1 a1.f1 r2 h3), (show (List.all [cB r2] PC.flatB) = true from rfl), trivial⟩ ?_
    rcases iteb_some H with ⟨h4, H⟩ | ⟨h4, H⟩
    · refine Tri.cond_false (useb (nF h4) (by kernel_rfl)) ?_
      refine Tri.skip ?_
      refine Tri.rn [4] 0 [] [] [] ⟨16, [(4, oB true)], [], 0, []⟩ (by kernel_rfl) trivial ?_
      refine Tri.ret ?_
      obtain rfl := Option.some.inj H
      exact ⟨.inr rfl, rfl, rfl, Nat.le_refl _, rfl, by simp⟩
    · refine Tri.cond_true (useb (nT h4) (by kernel_rfl)) ?_
      refine Tri.rn [4] 0 [] [] [] ⟨16, [(4, oB false)], [], 0, []⟩ (by kernel_rfl) trivial ?_
      refine Tri.ret ?_
      obtain rfl := Option.some.inj H
      exact ⟨.inr rfl, rfl, rfl, Nat.le_refl _, rfl, by simp⟩
  · refine Tri.cond_true (useb (nT (decide_eq_false h1)) (by kernel_rfl)) ?_
    refine Tri.rn [4] 0 [] [] [] ⟨16, [(4, oB false)], [], 0, []⟩ (by kernel_rfl) trivial ?_
    refine Tri.ret ?_
    obtain rfl := Option.some.inj H
    exact ⟨.inr rfl, rfl, rfl, Nat.le_refl _, rfl, by simp⟩
/-! laws_FnExactPrintOf: function 3 -/
def laws_FnExactPrintOf.e1 (k : Nat) (r6 : (Int × Int)) (r10 : (Int × Int)) : Option Bool := if r10.1 = r6.1 then (some (!(decide (r10.2 = r6.2)))) else (some true)
def laws_FnExactPrintOf.f (k : Nat) (a0 : SFace) : Option Bool := (laws_szInterface.f k a0 1048576).bind fun r1 => if r1 < 0 then (some true) else ((laws_toInterface.f k a0).bind fun r4 => (spec_PrintOf.f k r4.1).bind fun r6 => (laws_toInterface.f k a0).bind fun r8 => (impl_PrintOf.f k r8.1).bind fun r10 => (laws_FnExactPrintOf.e1 k r6 r10).bind fun y13 => if y13 = true then (some false) else ((laws_toInterface.f k a0).bind fun r17 => (laws_eqInterface.f k r8.1 r17.1).bind fun r19 => if r19 = true then (some true) else (some false)))
set_option maxRecDepth 100000 in
theorem laws_FnExactPrintOf.fn (k : Nat) (a0 : SFace) (r : Bool) (H : laws_FnExactPrintOf.f k a0 = some r) : Fn Tryz.prog 3 [ag (eSFace a0)] [] (oB r) [] := by
  unfold laws_FnExactPrintOf.f at H
  refine Fn.body (ts := [2]) Tryz.func3 rfl rfl (by decide) (by decide) (Nat.le_of_ble_eq_true rfl) (Nat.le_refl _) ?_
  refine Tri.rn [1] 1 [] [] [] ⟨40, [(1, o1 (.ref 0 0))], [eSFace a0], 0, []⟩ (by kernel_rfl) trivial ?_
  refine Tri.rn [1, 3] 1 [] [] [] ⟨40, [(1, o1 (.ref 0 0)), (3, oI 1048576)], [eSFace a0], 0, []⟩ (by kernel_rfl) trivial ?_
  obtain ⟨r1, h2, H⟩ := bind_some' H
  refine Tri.rn [1, 3] 1 [] [(2, .call (oI r1) [] false)] [_, _] ⟨40, [(1, o1 (.ref 0 0)), (3, oI r1)], [eSFace a0], 0, []⟩ (by kernel_rfl) ⟨(laws_szInterface.fn k a0 1048576 r1 h2), (show (List.all [cI r1] PC.flatB) = true from rfl), trivial⟩ ?_
  refine Tri.seq ?_
  refine Tri.rn [1, 13] 1 [] [] [] ⟨40, [(1, o1 (.ref 0 0)), (13, oB (decide (r1 < 0)))], [eSFace a0], 0, []⟩ (by kernel_rfl) trivial ?_
  rcases ite_some H with ⟨h3, H⟩ | ⟨h3, H⟩
  · refine Tri.cond_true (useb (decide_eq_true h3) (by kernel_rfl)) ?_
    refine Tri.rn [2] 0 [] [] [] ⟨40, [(2, oB true)], [], 0, []⟩ (by kernel_rfl) trivial ?_
    refine Tri.ret ?_
    obtain rfl := Option.some.inj H
    exact ⟨.inr rfl, rfl, rfl, Nat.le_refl _, rfl, by simp⟩
  · refine Tri.cond_false (useb (decide_eq_false h3) (by kernel_rfl)) ?_
    refine Tri.skip ?_
    obtain ⟨r4, h5, H⟩ := bind_some' H
    obtain ⟨r6, h7, H⟩ := bind_some' H
    refine Tri.rn [1, 4, 5] 1 [] [(1, .call (ag (eSFace r4.1)) [] true), (2, .call (tp [none, none] [cI r6.1, cI r6.2]) [] false)] [_, _, _] ⟨40, [(1, o1 (.ref 0 0)), (4, oI r6.1), (5, oI r6.2)], [eSFace a0], 0, []⟩ (by kernel_rfl) ⟨(laws_toInterface.fn k a0 r4 h5), (spec_PrintOf.fn k r4.1 r6 h7), (show (List.all [cI r6.1, cI r6.2] PC.flatB) = true from rfl), trivial⟩ ?_
    obtain ⟨r8, h9, H⟩ := bind_some' H
    refine Tri.rn [1, 4, 5, 6] 2 [] [(1, .call (ag (eSFace r8.1)) [] true)] [_] ⟨40, [(1, o1 (.ref 0 0)), (4, oI r6.1), (5, oI r6.2), (6, o1 (.ref 1 0))], [eSFace a0, eSFace r8.1], 0, []⟩ (by kernel_rfl) ⟨(laws_toInterface.fn k a0 r8 h9), trivial⟩ ?_
    obtain ⟨r10, h11, H⟩ := bind_some' H
    refine Tri.rn [1, 4, 5, 6, 7, 8] 2 [] [(1, .call (tp [none, none] [cI r10.1, cI r10.2]) [] false)] [_, _] ⟨40, [(1, o1 (.ref 0 0)), (4, oI r6.1), (5, oI r6.2), (6, o1 (.ref 1 0)), (7, oI r10.1), (8, oI r10.2)], [eSFace a0, eSFace r8.1], 0, []⟩ (by kernel_rfl) ⟨(impl_PrintOf.fn k r8.1 r10 h11), (show (List.all [cI r10.1, cI r10.2] PC.flatB) = true from rfl), trivial⟩ ?_
    refine Tri.seq ?_
    obtain ⟨v15, h14, H⟩ := bind_some' H
    refine Tri.join (α := Bool) (fun w => v15 = w) (fun y13 => ⟨40, [(1, o1 (.ref 0 0)), (6, o1 (.ref 1 0)), (34, oB y13)], [eSFace a0, eSFace r8.1], 0, []⟩) (fun y13 hw => ?_) ?_
    · rw [hw] at H; clear hw
      try dsimp only at H
      rcases iteb_some H with ⟨h16, H⟩ | ⟨h16, H⟩
      · refine Tri.cond_true (useb h16 (by kernel_rfl)) ?_
        refine Tri.rn [2] 0 [] [] [] ⟨40, [(2, oB false)], [], 0, []⟩ (by kernel_rfl) trivial ?_
        refine Tri.ret ?_
        obtain rfl := Option.some.inj H
        exact ⟨.inr rfl, rfl, rfl, Nat.le_refl _, rfl, by simp⟩
      · refine Tri.cond_false (useb h16 (by kernel_rfl)) ?_
        refine Tri.skip ?_
        refine Tri.seq ?_
        obtain ⟨r17, h18, H⟩ := bind_some' H
        obtain ⟨r19, h20, H⟩ := bind_some' H
        refine Tri.dn hmix 3 [[], [], [1], [0, 1, 2], [0, 1, 2, 3]] [39] 0 [] [(2, .call (ag (eSFace r17.1)) [] true), (3, .call (oB r19) [] false)] [_, _, _] ⟨40, [(39, oB (!r19))], [], 0, []⟩ (by kernel_rfl) ⟨(laws_toInterface.fn k a0 r17 h18), (laws_eqInterface.fn k r8.1 r17.1 r19 h20), (show (List.all [cB r19] PC.flatB) = true from rfl), trivial⟩ ?_
        rcases iteb_some H with ⟨h21, H⟩ | ⟨h21, H⟩
        · refine Tri.cond_false (useb (nF h21) (by kernel_rfl)) ?_
          refine Tri.skip ?_
          refine Tri.rn [2] 0 [] [] [] ⟨40, [(2, oB true)], [], 0, []⟩ (by kernel_rfl) trivial ?_
          refine Tri.ret ?_
          obtain rfl := Option.some.inj H
          exact ⟨.inr rfl, rfl, rfl, Nat.le_refl _, rfl, by simp⟩
        · refine Tri.cond_true (useb (nT h21) (by kernel_rfl)) ?_
          refine Tri.rn [2] 0 [] [] [] ⟨40, [(2, oB false)], [], 0, []⟩ (by kernel_rfl) trivial ?_
          refine Tri.ret ?_
          obtain rfl := Option.some.inj H
          exact ⟨.inr rfl, rfl, rfl, Nat.le_refl _, rfl, by simp⟩
    · unfold laws_FnExactPrintOf.e1 at h14
      rcases ite_some h14 with ⟨h12, h14⟩ | ⟨h12, h14⟩
      · refine Tri.r1 [1, 6, 34] 2 [] [(2, .ov [.sc (.bool false)])] [_] ⟨40, [(1, o1 (.ref 0 0)), (6, o1 (.ref 1 0)), (34, oB (!(decide (r10.2 = r6.2))))], [eSFace a0, eSFace r8.1], 0, []⟩ (by kernel_rfl) ⟨(ovb (nF (decide_eq_true h12))), trivial⟩ ?_
        exact ⟨(!(decide (r10.2 = r6.2))), (Option.some.inj h14).symm, rfl⟩
      · refine Tri.r1 [1, 6, 34] 2 [] [(2, .ov [.sc (.bool true)])] [_] ⟨40, [(1, o1 (.ref 0 0)), (6, o1 (.ref 1 0)), (34, oB true)], [eSFace a0, eSFace r8.1], 0, []⟩ (by kernel_rfl) ⟨(ovb (nT (decide_eq_false h12))), trivial⟩ ?_
        exact ⟨true, (Option.some.inj h14).symm, rfl⟩
end Go.Proofs.YtdoenfpleokadaaGreatDoor.E
