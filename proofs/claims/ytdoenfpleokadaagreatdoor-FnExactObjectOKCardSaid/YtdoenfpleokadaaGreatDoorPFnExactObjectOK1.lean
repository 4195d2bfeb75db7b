/- Functions of the program and their contracts: printed by ep3.py, a program of this session. -/
import Derived.Test.YtdoenfpleokadaaGreatDoorPFnExactObjectOK0
import Derived.Test.YtdoenfpleokadaaGreatDoorProg
set_option linter.unusedVariables false
set_option linter.unusedSectionVars false
set_option linter.unusedSimpArgs false
namespace Go.Proofs.YtdoenfpleokadaaGreatDoor.E
open Go.RowKit
/-! slices_IndexFunc___byte_byte_1: function 248 -/
def slices_IndexFunc___byte_byte_1.l1 : Nat → (List Int) → Int → Option (Int ⊕ Unit)
  | 0, _, _ => none
  | k + 1, a0, z7 => if z7 < (a0.length : Int) then ((at? a0 z7).bind fun x9 => (impl_areAll_byte__1_1.f k x9).bind fun r11 => if r11 = true then (some (.inl z7)) else (slices_IndexFunc___byte_byte_1.l1 k a0 (w64 (z7 + 1)))) else (some (.inr ()))
def slices_IndexFunc___byte_byte_1.e2 (k : Nat) (a0 : (List Int)) : Option (Int ⊕ Unit) := slices_IndexFunc___byte_byte_1.l1 k a0 0
def slices_IndexFunc___byte_byte_1.f (k : Nat) (a0 : (List Int)) : Option Int := (slices_IndexFunc___byte_byte_1.e2 k a0).bind fun v => match v with | .inl r => some r | .inr _ => some (-1)
set_option maxRecDepth 100000 in
theorem slices_IndexFunc___byte_byte_1.fn (k : Nat) (a0 : (List Int)) (r : Int) (H : slices_IndexFunc___byte_byte_1.f k a0 = some r) : Fn Tryz.prog 248 [o1 (.sl 1 (List.map (eK .u8) a0)), o1 (.fn 225 [.cel ([.sc (.func (.func 195) #[] #[])]) 0])] [] (oI r) [] := by
  unfold slices_IndexFunc___byte_byte_1.f at H
  refine Fn.body (ts := [4]) Tryz.func248 rfl rfl (by decide) (by decide) (Nat.le_of_ble_eq_true rfl) (Nat.le_refl _) ?_
  refine Tri.rn [0, 1] 0 [] [] [] ⟨19, [(0, o1 (.sl 1 (List.map (eK .u8) a0))), (1, o1 (.fn 225 [.cel ([.sc (.func (.func 195) #[] #[])]) 0]))], [], 0, []⟩ (by kernel_rfl) trivial ?_
  obtain ⟨v16, h15, H⟩ := bind_some' H
  refine Tri.join (α := Unit) (fun w => v16 = .inr w) (fun _ => ⟨19, [], [], 0, []⟩) (fun w hw => ?_) ?_
  · rw [hw] at H; clear hw
    try dsimp only at H
    refine Tri.rn [4] 0 [] [] [] ⟨19, [(4, oI (-1))], [], 0, []⟩ (by kernel_rfl) trivial ?_
    refine Tri.ret ?_
    obtain rfl := Option.some.inj H
    exact ⟨.inr rfl, rfl, rfl, Nat.le_refl _, rfl, by simp⟩
  · unfold slices_IndexFunc___byte_byte_1.e2 at h15
    refine Tri.rn [0, 1, 7, 8] 0 [] [(1, .ov [.sc (.int .i64 (a0.length : Int))])] [_] ⟨19, [(0, o1 (.sl 1 (List.map (eK .u8) a0))), (1, o1 (.fn 225 [.cel ([.sc (.func (.func 195) #[] #[])]) 0])), (7, oI (a0.length : Int)), (8, oI 0)], [], 0, []⟩ (by kernel_rfl) ⟨(ovlen (f := (eK .u8)) (l := a0)), trivial⟩ ?_
    refine Tri.block ?_
    refine Tri.loop k (TriR.ind (α := Int) (fun k x => slices_IndexFunc___byte_byte_1.l1 k a0 x) (fun x => ⟨19, [(0, o1 (.sl 1 (List.map (eK .u8) a0))), (1, o1 (.fn 225 [.cel ([.sc (.func (.func 195) #[] #[])]) 0])), (7, oI (a0.length : Int)), (8, oI x)], [], 0, []⟩) (fun _ => rfl) (fun k z7 h15 IH14 => ?_) k 0 h15)
    rw [slices_IndexFunc___byte_byte_1.l1.eq_2] at h15
    refine Tri.rn [0, 1, 7, 8, 9] 0 [] [] [] ⟨19, [(0, o1 (.sl 1 (List.map (eK .u8) a0))), (1, o1 (.fn 225 [.cel ([.sc (.func (.func 195) #[] #[])]) 0])), (7, oI (a0.length : Int)), (8, oI z7), (9, oB (decide (z7 < (a0.length : Int))))], [], 0, []⟩ (by kernel_rfl) trivial ?_
    refine Tri.seq ?_
    rcases ite_some h15 with ⟨h8, h15⟩ | ⟨h8, h15⟩
    · refine Tri.cond_true (useb (decide_eq_true h8) (by kernel_rfl)) ?_
      refine Tri.skip ?_
      refine Tri.seq ?_
      refine Tri.block ?_
      refine Tri.rn [0, 1, 5, 7, 8] 0 [] [] [] ⟨19, [(0, o1 (.sl 1 (List.map (eK .u8) a0))), (1, o1 (.fn 225 [.cel ([.sc (.func (.func 195) #[] #[])]) 0])), (5, oI z7), (7, oI (a0.length : Int)), (8, oI z7)], [], 0, []⟩ (by kernel_rfl) trivial ?_
      obtain ⟨x9, h10, h15⟩ := bind_some' h15
      obtain ⟨r11, h12, h15⟩ := bind_some' h15
      refine Tri.rn [0, 1, 5, 7, 8, 16] 0 [] [(3, .el ((eK .u8) x9)), (5, .call (oB r11) [] false)] [_, _, _, _] ⟨19, [(0, o1 (.sl 1 (List.map (eK .u8) a0))), (1, o1 (.fn 225 [.cel ([.sc (.func (.func 195) #[] #[])]) 0])), (5, oI z7), (7, oI (a0.length : Int)), (8, oI z7), (16, oB r11)], [], 0, []⟩ (by kernel_rfl) ⟨(at?_0 h10), (at?_map (f := (eK .u8)) h10), (impl_areAll_byte__1_1.fn k x9 r11 h12), (show (List.all [cB r11] PC.flatB) = true from rfl), trivial⟩ ?_
      rcases iteb_some h15 with ⟨h13, h15⟩ | ⟨h13, h15⟩
      · refine Tri.cond_true (useb h13 (by kernel_rfl)) ?_
        refine Tri.rn [4] 0 [] [] [] ⟨19, [(4, oI z7)], [], 0, []⟩ (by kernel_rfl) trivial ?_
        refine Tri.ret ?_
        obtain rfl := Option.some.inj h15
        try dsimp only at H
        obtain rfl := Option.some.inj H
        exact ⟨.inr rfl, rfl, rfl, Nat.le_refl _, rfl, by simp⟩
      · refine Tri.cond_false (useb h13 (by kernel_rfl)) ?_
        refine Tri.skip ?_
        refine Tri.r1 [0, 1, 7, 8] 0 [] [] [] ⟨19, [(0, o1 (.sl 1 (List.map (eK .u8) a0))), (1, o1 (.fn 225 [.cel ([.sc (.func (.func 195) #[] #[])]) 0])), (7, oI (a0.length : Int)), (8, oI (w64 (z7 + 1)))], [], 0, []⟩ (by kernel_rfl) trivial ?_
        exact IH14 _ (w64 (z7 + 1)) (Nat.le_refl _) h15
    · refine Tri.cond_false (useb (decide_eq_false h8) (by kernel_rfl)) ?_
      refine Tri.fix [] 0 [] ⟨19, [], [], 0, []⟩ (by kernel_rfl) ?_
      refine Tri.exit ?_
      repeat (with_reducible refine Ex.exit ?_)
      refine Bk.here ?_
      exact ⟨(), (Option.some.inj h15).symm, rfl⟩
/-! slices_ContainsFunc___byte_byte_1: function 224 -/
def slices_ContainsFunc___byte_byte_1.f (k : Nat) (a0 : (List Int)) : Option Bool := (slices_IndexFunc___byte_byte_1.f k a0).bind fun r1 => some (decide ((0 : Int) ≤ r1))
set_option maxRecDepth 100000 in
theorem slices_ContainsFunc___byte_byte_1.fn (k : Nat) (a0 : (List Int)) (r : Bool) (H : slices_ContainsFunc___byte_byte_1.f k a0 = some r) : Fn Tryz.prog 224 [o1 (.sl 1 (List.map (eK .u8) a0)), o1 (.fn 225 [.cel ([.sc (.func (.func 195) #[] #[])]) 0])] [] (oB r) [] := by
  unfold slices_ContainsFunc___byte_byte_1.f at H
  refine Fn.body (ts := [4]) Tryz.func224 rfl rfl (by decide) (by decide) (Nat.le_of_ble_eq_true rfl) (Nat.le_refl _) ?_
  refine Tri.rn [0, 1] 0 [] [] [] ⟨9, [(0, o1 (.sl 1 (List.map (eK .u8) a0))), (1, o1 (.fn 225 [.cel ([.sc (.func (.func 195) #[] #[])]) 0]))], [], 0, []⟩ (by kernel_rfl) trivial ?_
  obtain ⟨r1, h2, H⟩ := bind_some' H
  refine Tri.rn [4] 0 [] [(2, .call (oI r1) [] false)] [_, _] ⟨9, [(4, oB (decide ((0 : Int) ≤ r1)))], [], 0, []⟩ (by kernel_rfl) ⟨(slices_IndexFunc___byte_byte_1.fn k a0 r1 h2), (show (List.all [cI r1] PC.flatB) = true from rfl), trivial⟩ ?_
  refine Tri.ret ?_
  obtain rfl := Option.some.inj H
  exact ⟨.inr rfl, rfl, rfl, Nat.le_refl _, rfl, by simp⟩
/-! impl_areAll_byte_1: function 194 -/
def impl_areAll_byte_1.f (k : Nat) (a0 : (List Int)) : Option Bool := (slices_ContainsFunc___byte_byte_1.f k a0).bind fun r1 => some (!r1)
set_option maxRecDepth 100000 in
theorem impl_areAll_byte_1.fn (k : Nat) (a0 : (List Int)) (r : Bool) (H : impl_areAll_byte_1.f k a0 = some r) : Fn Tryz.prog 194 [o1 (.sl 1 (List.map (eK .u8) a0)), o1 (.sc (.func (.func 195) #[] #[]))] [] (oB r) [] := by
  unfold impl_areAll_byte_1.f at H
  refine Fn.body (ts := [4]) Tryz.func194 rfl rfl (by decide) (by decide) (Nat.le_of_ble_eq_true rfl) (Nat.le_refl _) ?_
  refine Tri.rn [0, 3] 1 [] [] [] ⟨9, [(0, o1 (.sl 1 (List.map (eK .u8) a0))), (3, o1 (.ref 0 0))], [[.sc (.func (.func 195) #[] #[])]], 0, []⟩ (by kernel_rfl) trivial ?_
  obtain ⟨r1, h2, H⟩ := bind_some' H
  refine Tri.rn [4] 0 [] [(2, .call (oB r1) [] false)] [_, _] ⟨9, [(4, oB (!r1))], [], 0, []⟩ (by kernel_rfl) ⟨(slices_ContainsFunc___byte_byte_1.fn k a0 r1 h2), (show (List.all [cB r1] PC.flatB) = true from rfl), trivial⟩ ?_
  refine Tri.ret ?_
  obtain rfl := Option.some.inj H
  exact ⟨.inr rfl, rfl, rfl, Nat.le_refl _, rfl, by simp⟩
/-! impl_NameOK: function 151 -/
def impl_NameOK.e1 (k : Nat) (a0 : ByteArray) : Option Bool := (impl_within.f k (a0.size : Int) 1 40).bind fun r1 => if r1 = true then (if (0 : Int) ≤ 0 then (if 0 < (a0.size : Int) then ((impl_isLetter.f k (byteAt a0 0)).bind fun r6 => if r6 = true then ((impl_areAll_byte_1.f k (bytesOf a0)).bind fun r9 => some r9) else (some false)) else none) else none) else (some false)
def impl_NameOK.f (k : Nat) (a0 : ByteArray) : Option Bool := (impl_NameOK.e1 k a0).bind fun y11 => some y11
set_option maxRecDepth 100000 in
theorem impl_NameOK.fn (k : Nat) (a0 : ByteArray) (r : Bool) (H : impl_NameOK.f k a0 = some r) : Fn Tryz.prog 151 [oS a0] [] (oB r) [] := by
  unfold impl_NameOK.f at H
  refine Fn.body (ts := [2]) Tryz.func151 rfl rfl (by decide) (by decide) (Nat.le_of_ble_eq_true rfl) (Nat.le_refl _) ?_
  refine Tri.rn [0] 0 [] [] [] ⟨16, [(0, oS a0)], [], 0, []⟩ (by kernel_rfl) trivial ?_
  obtain ⟨v13, h12, H⟩ := bind_some' H
  refine Tri.join (α := Bool) (fun w => v13 = w) (fun y11 => ⟨16, [(2, oB y11)], [], 0, []⟩) (fun y11 hw => ?_) ?_
  · rw [hw] at H; clear hw
    try dsimp only at H
    refine Tri.ret ?_
    obtain rfl := Option.some.inj H
    exact ⟨.inr rfl, rfl, rfl, Nat.le_refl _, rfl, by simp⟩
  · unfold impl_NameOK.e1 at h12
    obtain ⟨r1, h2, h12⟩ := bind_some' h12
    rcases iteb_some h12 with ⟨h3, h12⟩ | ⟨h3, h12⟩
    · obtain ⟨h4, h12⟩ := need_some h12
      obtain ⟨h5, h12⟩ := need_some h12
      obtain ⟨r6, h7, h12⟩ := bind_some' h12
      rcases iteb_some h12 with ⟨h8, h12⟩ | ⟨h8, h12⟩
      · obtain ⟨r9, h10, h12⟩ := bind_some' h12
        refine Tri.r1 [2] 0 [] [(2, .call (oB r1) [] false), (2, .ov [.sc (.bool true)]), (6, .call (oB r6) [] false), (6, .ov [.sc (.bool true)]), (11, .call (oB r9) [] false)] [_, _, _, _, _, _, _, _, _, _] ⟨16, [(2, oB r9)], [], 0, []⟩ (by kernel_rfl) ⟨(impl_within.fn k (a0.size : Int) 1 40 r1 h2), (show (List.all [cB r1] PC.flatB) = true from rfl), (ovb h3), h4, h5, (impl_isLetter.fn k (byteAt a0 0) r6 h7), (show (List.all [cB r6] PC.flatB) = true from rfl), (ovb h8), (impl_areAll_byte_1.fn k (bytesOf a0) r9 h10), (show (List.all [cB r9] PC.flatB) = true from rfl), trivial⟩ ?_
        exact ⟨r9, (Option.some.inj h12).symm, rfl⟩
      · refine Tri.r1 [2] 0 [] [(2, .call (oB r1) [] false), (2, .ov [.sc (.bool true)]), (6, .call (oB r6) [] false), (6, .ov [.sc (.bool false)])] [_, _, _, _, _, _, _, _] ⟨16, [(2, oB false)], [], 0, []⟩ (by kernel_rfl) ⟨(impl_within.fn k (a0.size : Int) 1 40 r1 h2), (show (List.all [cB r1] PC.flatB) = true from rfl), (ovb h3), h4, h5, (impl_isLetter.fn k (byteAt a0 0) r6 h7), (show (List.all [cB r6] PC.flatB) = true from rfl), (ovb h8), trivial⟩ ?_
        exact ⟨false, (Option.some.inj h12).symm, rfl⟩
    · refine Tri.r1 [2] 0 [] [(2, .call (oB r1) [] false), (2, .ov [.sc (.bool false)])] [_, _, _] ⟨16, [(2, oB false)], [], 0, []⟩ (by kernel_rfl) ⟨(impl_within.fn k (a0.size : Int) 1 40 r1 h2), (show (List.all [cB r1] PC.flatB) = true from rfl), (ovb h3), trivial⟩ ?_
      exact ⟨false, (Option.some.inj h12).symm, rfl⟩
/-! impl_keys: function 197 -/
def impl_keys.f (k : Nat) : Option (List ByteArray) := (strings_Fields.f k (⟨#[77, 79, 68, 85, 76, 69, 32, 73, 77, 80, 79, 82, 84, 32, 67, 79, 78, 83, 84, 32, 86, 65, 82, 32, 80, 82, 79, 67, 69, 68, 85, 82, 69, 32, 66, 69, 71, 73, 78, 32, 69, 78, 68, 32, 73, 70, 32, 84, 72, 69, 78, 32, 69, 76, 83, 73, 70, 32, 69, 76, 83, 69, 32, 87, 72, 73, 76, 69, 32, 68, 79, 32, 82, 69, 84, 85, 82, 78, 32, 79, 82, 32, 68, 73, 86, 32, 77, 79, 68, 32, 84, 82, 85, 69, 32, 70, 65, 76, 83, 69, 32, 65, 82, 82, 65, 89, 32, 79, 70, 32, 73, 78, 84, 69, 71, 69, 82, 32, 66, 79, 79, 76, 69, 65, 78, 32, 67, 72, 65, 82, 32, 87, 82, 73, 84, 69, 32, 82, 69, 65, 68, 32, 79, 82, 68, 32, 67, 72, 82, 32, 76, 69, 78]⟩ : ByteArray)).bind fun r1 => some r1
set_option maxRecDepth 100000 in
theorem impl_keys.fn (k : Nat) (r : (List ByteArray)) (H : impl_keys.f k  = some r) : Fn Tryz.prog 197 [] [] (o1 (.own 9 (List.map eS r))) [] := by
  unfold impl_keys.f at H
  refine Fn.body (ts := [0]) Tryz.func197 rfl rfl (by decide) (by decide) (Nat.le_of_ble_eq_true rfl) (Nat.le_refl _) ?_
  refine Tri.rn [] 0 [] [] [] ⟨2, [], [], 0, []⟩ (by kernel_rfl) trivial ?_
  obtain ⟨r1, h2, H⟩ := bind_some' H
  refine Tri.rn [0] 0 [] [(0, .call (o1 (.own 9 (List.map eS r1))) [] false)] [_, _] ⟨2, [(0, o1 (.own 9 (List.map eS r1)))], [], 0, []⟩ (by kernel_rfl) ⟨(strings_Fields.fn k (⟨#[77, 79, 68, 85, 76, 69, 32, 73, 77, 80, 79, 82, 84, 32, 67, 79, 78, 83, 84, 32, 86, 65, 82, 32, 80, 82, 79, 67, 69, 68, 85, 82, 69, 32, 66, 69, 71, 73, 78, 32, 69, 78, 68, 32, 73, 70, 32, 84, 72, 69, 78, 32, 69, 76, 83, 73, 70, 32, 69, 76, 83, 69, 32, 87, 72, 73, 76, 69, 32, 68, 79, 32, 82, 69, 84, 85, 82, 78, 32, 79, 82, 32, 68, 73, 86, 32, 77, 79, 68, 32, 84, 82, 85, 69, 32, 70, 65, 76, 83, 69, 32, 65, 82, 82, 65, 89, 32, 79, 70, 32, 73, 78, 84, 69, 71, 69, 82, 32, 66, 79, 79, 76, 69, 65, 78, 32, 67, 72, 65, 82, 32, 87, 82, 73, 84, 69, 32, 82, 69, 65, 68, 32, 79, 82, 68, 32, 67, 72, 82, 32, 76, 69, 78]⟩ : ByteArray) r1 h2), (show (List.all [.own 9 (List.map eS r1)] PC.flatB) = true by simp [PC.flatB, PC.scalar, cI, cK, cB, cS, eS]), trivial⟩ ?_
  refine Tri.ret ?_
  obtain rfl := Option.some.inj H
  exact ⟨.inr rfl, rfl, rfl, Nat.le_refl _, rfl, by simp⟩
/-! slices_Index___string_string: function 227 -/
def slices_Index___string_string.l1 : Nat → (List ByteArray) → ByteArray → Int → Option (Int ⊕ Unit)
  | 0, _, _, _ => none
  | k + 1, a0, a1, z5 => if z5 < (a0.length : Int) then ((at? a0 z5).bind fun x7 => if a1 = x7 then (some (.inl z5)) else (slices_Index___string_string.l1 k a0 a1 (w64 (z5 + 1)))) else (some (.inr ()))
def slices_Index___string_string.e2 (k : Nat) (a0 : (List ByteArray)) (a1 : ByteArray) : Option (Int ⊕ Unit) := slices_Index___string_string.l1 k a0 a1 0
def slices_Index___string_string.f (k : Nat) (a0 : (List ByteArray)) (a1 : ByteArray) : Option Int := (slices_Index___string_string.e2 k a0 a1).bind fun v => match v with | .inl r => some r | .inr _ => some (-1)
set_option maxRecDepth 100000 in
theorem slices_Index___string_string.fn (k : Nat) (a0 : (List ByteArray)) (a1 : ByteArray) (r : Int) (H : slices_Index___string_string.f k a0 a1 = some r) : Fn Tryz.prog 227 [o1 (.sl 1 (List.map eS a0)), oS a1] [] (oI r) [] := by
  unfold slices_Index___string_string.f at H
  refine Fn.body (ts := [4]) Tryz.func227 rfl rfl (by decide) (by decide) (Nat.le_of_ble_eq_true rfl) (Nat.le_refl _) ?_
  refine Tri.rn [0, 1] 0 [] [] [] ⟨19, [(0, o1 (.sl 1 (List.map eS a0))), (1, oS a1)], [], 0, []⟩ (by kernel_rfl) trivial ?_
  obtain ⟨v12, h11, H⟩ := bind_some' H
  refine Tri.join (α := Unit) (fun w => v12 = .inr w) (fun _ => ⟨19, [], [], 0, []⟩) (fun w hw => ?_) ?_
  · rw [hw] at H; clear hw
    try dsimp only at H
    refine Tri.rn [4] 0 [] [] [] ⟨19, [(4, oI (-1))], [], 0, []⟩ (by kernel_rfl) trivial ?_
    refine Tri.ret ?_
    obtain rfl := Option.some.inj H
    exact ⟨.inr rfl, rfl, rfl, Nat.le_refl _, rfl, by simp⟩
  · unfold slices_Index___string_string.e2 at h11
    refine Tri.rn [0, 1, 7, 8] 0 [] [(1, .ov [.sc (.int .i64 (a0.length : Int))])] [_] ⟨19, [(0, o1 (.sl 1 (List.map eS a0))), (1, oS a1), (7, oI (a0.length : Int)), (8, oI 0)], [], 0, []⟩ (by kernel_rfl) ⟨(ovlen (f := eS) (l := a0)), trivial⟩ ?_
    refine Tri.block ?_
    refine Tri.loop k (TriR.ind (α := Int) (fun k x => slices_Index___string_string.l1 k a0 a1 x) (fun x => ⟨19, [(0, o1 (.sl 1 (List.map eS a0))), (1, oS a1), (7, oI (a0.length : Int)), (8, oI x)], [], 0, []⟩) (fun _ => rfl) (fun k z5 h11 IH10 => ?_) k 0 h11)
    rw [slices_Index___string_string.l1.eq_2] at h11
    refine Tri.rn [0, 1, 7, 8, 9] 0 [] [] [] ⟨19, [(0, o1 (.sl 1 (List.map eS a0))), (1, oS a1), (7, oI (a0.length : Int)), (8, oI z5), (9, oB (decide (z5 < (a0.length : Int))))], [], 0, []⟩ (by kernel_rfl) trivial ?_
    refine Tri.seq ?_
    rcases ite_some h11 with ⟨h6, h11⟩ | ⟨h6, h11⟩
    · refine Tri.cond_true (useb (decide_eq_true h6) (by kernel_rfl)) ?_
      refine Tri.skip ?_
      refine Tri.seq ?_
      refine Tri.block ?_
      refine Tri.rn [0, 1, 5, 7, 8] 0 [] [] [] ⟨19, [(0, o1 (.sl 1 (List.map eS a0))), (1, oS a1), (5, oI z5), (7, oI (a0.length : Int)), (8, oI z5)], [], 0, []⟩ (by kernel_rfl) trivial ?_
      obtain ⟨x7, h8, h11⟩ := bind_some' h11
      refine Tri.rn [0, 1, 5, 7, 8, 16] 0 [] [(3, .el (eS x7))] [_, _] ⟨19, [(0, o1 (.sl 1 (List.map eS a0))), (1, oS a1), (5, oI z5), (7, oI (a0.length : Int)), (8, oI z5), (16, oB (decide (a1 = x7)))], [], 0, []⟩ (by kernel_rfl) ⟨(at?_0 h8), (at?_map (f := eS) h8), trivial⟩ ?_
      rcases ite_some h11 with ⟨h9, h11⟩ | ⟨h9, h11⟩
      · refine Tri.cond_true (useb (decide_eq_true h9) (by kernel_rfl)) ?_
        refine Tri.rn [4] 0 [] [] [] ⟨19, [(4, oI z5)], [], 0, []⟩ (by kernel_rfl) trivial ?_
        refine Tri.ret ?_
        obtain rfl := Option.some.inj h11
        try dsimp only at H
        obtain rfl := Option.some.inj H
        exact ⟨.inr rfl, rfl, rfl, Nat.le_refl _, rfl, by simp⟩
      · refine Tri.cond_false (useb (decide_eq_false h9) (by kernel_rfl)) ?_
        refine Tri.skip ?_
        refine Tri.r1 [0, 1, 7, 8] 0 [] [] [] ⟨19, [(0, o1 (.sl 1 (List.map eS a0))), (1, oS a1), (7, oI (a0.length : Int)), (8, oI (w64 (z5 + 1)))], [], 0, []⟩ (by kernel_rfl) trivial ?_
        exact IH10 _ (w64 (z5 + 1)) (Nat.le_refl _) h11
    · refine Tri.cond_false (useb (decide_eq_false h6) (by kernel_rfl)) ?_
      refine Tri.fix [] 0 [] ⟨19, [], [], 0, []⟩ (by kernel_rfl) ?_
      refine Tri.exit ?_
      repeat (with_reducible refine Ex.exit ?_)
      refine Bk.here ?_
      exact ⟨(), (Option.some.inj h11).symm, rfl⟩
/-! slices_Contains___string_string: function 196 -/
def slices_Contains___string_string.f (k : Nat) (a0 : (List ByteArray)) (a1 : ByteArray) : Option Bool := (slices_Index___string_string.f k a0 a1).bind fun r1 => some (decide ((0 : Int) ≤ r1))
set_option maxRecDepth 100000 in
theorem slices_Contains___string_string.fn (k : Nat) (a0 : (List ByteArray)) (a1 : ByteArray) (r : Bool) (H : slices_Contains___string_string.f k a0 a1 = some r) : Fn Tryz.prog 196 [o1 (.sl 1 (List.map eS a0)), oS a1] [] (oB r) [] := by
  unfold slices_Contains___string_string.f at H
  refine Fn.body (ts := [4]) Tryz.func196 rfl rfl (by decide) (by decide) (Nat.le_of_ble_eq_true rfl) (Nat.le_refl _) ?_
  refine Tri.rn [0, 1] 0 [] [] [] ⟨9, [(0, o1 (.sl 1 (List.map eS a0))), (1, oS a1)], [], 0, []⟩ (by kernel_rfl) trivial ?_
  obtain ⟨r1, h2, H⟩ := bind_some' H
  refine Tri.rn [4] 0 [] [(2, .call (oI r1) [] false)] [_, _] ⟨9, [(4, oB (decide ((0 : Int) ≤ r1)))], [], 0, []⟩ (by kernel_rfl) ⟨(slices_Index___string_string.fn k a0 a1 r1 h2), (show (List.all [cI r1] PC.flatB) = true from rfl), trivial⟩ ?_
  refine Tri.ret ?_
  obtain rfl := Option.some.inj H
  exact ⟨.inr rfl, rfl, rfl, Nat.le_refl _, rfl, by simp⟩
/-! impl_IsKey: function 152 -/
def impl_IsKey.f (k : Nat) (a0 : ByteArray) : Option Bool := (impl_keys.f k).bind fun r1 => (slices_Contains___string_string.f k r1 a0).bind fun r3 => some r3
set_option maxRecDepth 100000 in
theorem impl_IsKey.fn (k : Nat) (a0 : ByteArray) (r : Bool) (H : impl_IsKey.f k a0 = some r) : Fn Tryz.prog 152 [oS a0] [] (oB r) [] := by
  unfold impl_IsKey.f at H
  refine Fn.body (ts := [2]) Tryz.func152 rfl rfl (by decide) (by decide) (Nat.le_of_ble_eq_true rfl) (Nat.le_refl _) ?_
  refine Tri.rn [0] 0 [] [] [] ⟨6, [(0, oS a0)], [], 0, []⟩ (by kernel_rfl) trivial ?_
  obtain ⟨r1, h2, H⟩ := bind_some' H
  obtain ⟨r3, h4, H⟩ := bind_some' H
  refine Tri.rn [2] 0 [] [(0, .call (o1 (.own 9 (List.map eS r1))) [] false), (2, .call (oB r3) [] false)] [_, _, _, _] ⟨6, [(2, oB r3)], [], 0, []⟩ (by kernel_rfl) ⟨(impl_keys.fn k r1 h2), (show (List.all [.own 9 (List.map eS r1)] PC.flatB) = true by simp [PC.flatB, PC.scalar, cI, cK, cB, cS, eS]), (slices_Contains___string_string.fn k r1 a0 r3 h4), (show (List.all [cB r3] PC.flatB) = true from rfl), trivial⟩ ?_
  refine Tri.ret ?_
  obtain rfl := Option.some.inj H
  exact ⟨.inr rfl, rfl, rfl, Nat.le_refl _, rfl, by simp⟩
/-! impl_isName: function 92 -/
def impl_isName.e1 (k : Nat) (a0 : ByteArray) : Option Bool := (impl_NameOK.f k a0).bind fun r1 => if r1 = true then ((impl_IsKey.f k a0).bind fun r4 => some (!r4)) else (some false)
def impl_isName.f (k : Nat) (a0 : ByteArray) : Option Bool := (impl_isName.e1 k a0).bind fun y6 => some y6
set_option maxRecDepth 100000 in
theorem impl_isName.fn (k : Nat) (a0 : ByteArray) (r : Bool) (H : impl_isName.f k a0 = some r) : Fn Tryz.prog 92 [oS a0] [] (oB r) [] := by
  unfold impl_isName.f at H
  refine Fn.body (ts := [2]) Tryz.func92 rfl rfl (by decide) (by decide) (Nat.le_of_ble_eq_true rfl) (Nat.le_refl _) ?_
  refine Tri.rn [0] 0 [] [] [] ⟨10, [(0, oS a0)], [], 0, []⟩ (by kernel_rfl) trivial ?_
  obtain ⟨v8, h7, H⟩ := bind_some' H
  refine Tri.join (α := Bool) (fun w => v8 = w) (fun y6 => ⟨10, [(2, oB y6)], [], 0, []⟩) (fun y6 hw => ?_) ?_
  · rw [hw] at H; clear hw
    try dsimp only at H
    refine Tri.ret ?_
    obtain rfl := Option.some.inj H
    exact ⟨.inr rfl, rfl, rfl, Nat.le_refl _, rfl, by simp⟩
  · unfold impl_isName.e1 at h7
    obtain ⟨r1, h2, h7⟩ := bind_some' h7
    rcases iteb_some h7 with ⟨h3, h7⟩ | ⟨h3, h7⟩
    · obtain ⟨r4, h5, h7⟩ := bind_some' h7
      refine Tri.r1 [2] 0 [] [(1, .call (oB r1) [] false), (1, .ov [.sc (.bool true)]), (4, .call (oB r4) [] false)] [_, _, _, _, _] ⟨10, [(2, oB (!r4))], [], 0, []⟩ (by kernel_rfl) ⟨(impl_NameOK.fn k a0 r1 h2), (show (List.all [cB r1] PC.flatB) = true from rfl), (ovb h3), (impl_IsKey.fn k a0 r4 h5), (show (List.all [cB r4] PC.flatB) = true from rfl), trivial⟩ ?_
      exact ⟨(!r4), (Option.some.inj h7).symm, rfl⟩
    · refine Tri.r1 [2] 0 [] [(1, .call (oB r1) [] false), (1, .ov [.sc (.bool false)])] [_, _, _] ⟨10, [(2, oB false)], [], 0, []⟩ (by kernel_rfl) ⟨(impl_NameOK.fn k a0 r1 h2), (show (List.all [cB r1] PC.flatB) = true from rfl), (ovb h3), trivial⟩ ?_
      exact ⟨false, (Option.some.inj h7).symm, rfl⟩
/-! impl_isPrint: function 93 -/
def impl_isPrint.f (k : Nat) (a0 : Int) : Option Bool := (impl_within.f k a0 0 4294967295).bind fun r1 => some r1
set_option maxRecDepth 100000 in
theorem impl_isPrint.fn (k : Nat) (a0 : Int) (r : Bool) (H : impl_isPrint.f k a0 = some r) : Fn Tryz.prog 93 [oI a0] [] (oB r) [] := by
  unfold impl_isPrint.f at H
  refine Fn.body (ts := [2]) Tryz.func93 rfl rfl (by decide) (by decide) (Nat.le_of_ble_eq_true rfl) (Nat.le_refl _) ?_
  refine Tri.rn [0] 0 [] [] [] ⟨5, [(0, oI a0)], [], 0, []⟩ (by kernel_rfl) trivial ?_
  obtain ⟨r1, h2, H⟩ := bind_some' H
  refine Tri.rn [2] 0 [] [(1, .call (oB r1) [] false)] [_, _] ⟨5, [(2, oB r1)], [], 0, []⟩ (by kernel_rfl) ⟨(impl_within.fn k a0 0 4294967295 r1 h2), (show (List.all [cB r1] PC.flatB) = true from rfl), trivial⟩ ?_
  refine Tri.ret ?_
  obtain rfl := Option.some.inj H
  exact ⟨.inr rfl, rfl, rfl, Nat.le_refl _, rfl, by simp⟩
/-! impl_hasPlace: function 187 -/
def impl_hasPlace.e1 (k : Nat) (a0 : Int) : Option Bool := if a0 = 3 then (some true) else (some (decide (a0 = 13)))
def impl_hasPlace.f (k : Nat) (a0 : Int) : Option Bool := (impl_hasPlace.e1 k a0).bind fun y2 => some y2
set_option maxRecDepth 100000 in
theorem impl_hasPlace.fn (k : Nat) (a0 : Int) (r : Bool) (H : impl_hasPlace.f k a0 = some r) : Fn Tryz.prog 187 [oI a0] [] (oB r) [] := by
  unfold impl_hasPlace.f at H
  refine Fn.body (ts := [2]) Tryz.func187 rfl rfl (by decide) (by decide) (Nat.le_of_ble_eq_true rfl) (Nat.le_refl _) ?_
  refine Tri.rn [0] 0 [] [] [] ⟨9, [(0, oI a0)], [], 0, []⟩ (by kernel_rfl) trivial ?_
  obtain ⟨v4, h3, H⟩ := bind_some' H
  refine Tri.join (α := Bool) (fun w => v4 = w) (fun y2 => ⟨9, [(2, oB y2)], [], 0, []⟩) (fun y2 hw => ?_) ?_
  · rw [hw] at H; clear hw
    try dsimp only at H
    refine Tri.ret ?_
    obtain rfl := Option.some.inj H
    exact ⟨.inr rfl, rfl, rfl, Nat.le_refl _, rfl, by simp⟩
  · unfold impl_hasPlace.e1 at h3
    rcases ite_some h3 with ⟨h1, h3⟩ | ⟨h1, h3⟩
    · refine Tri.r1 [2] 0 [] [(1, .ov [.sc (.bool true)])] [_] ⟨9, [(2, oB true)], [], 0, []⟩ (by kernel_rfl) ⟨(ovb (decide_eq_true h1)), trivial⟩ ?_
      exact ⟨true, (Option.some.inj h3).symm, rfl⟩
    · refine Tri.r1 [2] 0 [] [(1, .ov [.sc (.bool false)])] [_] ⟨9, [(2, oB (decide (a0 = 13)))], [], 0, []⟩ (by kernel_rfl) ⟨(ovb (decide_eq_false h1)), trivial⟩ ?_
      exact ⟨(decide (a0 = 13)), (Option.some.inj h3).symm, rfl⟩
/-! impl_works: function 229 -/
def impl_works.f (k : Nat) : Option (List ByteArray) := (strings_Fields.f k (⟨#[43, 32, 45, 32, 42, 32, 68, 73, 86, 32, 77, 79, 68, 32, 61, 32, 35, 32, 60, 32, 60, 61, 32, 62, 32, 62, 61]⟩ : ByteArray)).bind fun r1 => some r1
set_option maxRecDepth 100000 in
theorem impl_works.fn (k : Nat) (r : (List ByteArray)) (H : impl_works.f k  = some r) : Fn Tryz.prog 229 [] [] (o1 (.own 9 (List.map eS r))) [] := by
  unfold impl_works.f at H
  refine Fn.body (ts := [0]) Tryz.func229 rfl rfl (by decide) (by decide) (Nat.le_of_ble_eq_true rfl) (Nat.le_refl _) ?_
  refine Tri.rn [] 0 [] [] [] ⟨2, [], [], 0, []⟩ (by kernel_rfl) trivial ?_
  obtain ⟨r1, h2, H⟩ := bind_some' H
  refine Tri.rn [0] 0 [] [(0, .call (o1 (.own 9 (List.map eS r1))) [] false)] [_, _] ⟨2, [(0, o1 (.own 9 (List.map eS r1)))], [], 0, []⟩ (by kernel_rfl) ⟨(strings_Fields.fn k (⟨#[43, 32, 45, 32, 42, 32, 68, 73, 86, 32, 77, 79, 68, 32, 61, 32, 35, 32, 60, 32, 60, 61, 32, 62, 32, 62, 61]⟩ : ByteArray) r1 h2), (show (List.all [.own 9 (List.map eS r1)] PC.flatB) = true by simp [PC.flatB, PC.scalar, cI, cK, cB, cS, eS]), trivial⟩ ?_
  refine Tri.ret ?_
  obtain rfl := Option.some.inj H
  exact ⟨.inr rfl, rfl, rfl, Nat.le_refl _, rfl, by simp⟩
/-! impl_isType: function 170 -/
def impl_isType.f (k : Nat) (a0 : Int) : Option Bool := (impl_within.f k a0 1 3).bind fun r1 => some r1
set_option maxRecDepth 100000 in
theorem impl_isType.fn (k : Nat) (a0 : Int) (r : Bool) (H : impl_isType.f k a0 = some r) : Fn Tryz.prog 170 [oI a0] [] (oB r) [] := by
  unfold impl_isType.f at H
  refine Fn.body (ts := [2]) Tryz.func170 rfl rfl (by decide) (by decide) (Nat.le_of_ble_eq_true rfl) (Nat.le_refl _) ?_
  refine Tri.rn [0] 0 [] [] [] ⟨5, [(0, oI a0)], [], 0, []⟩ (by kernel_rfl) trivial ?_
  obtain ⟨r1, h2, H⟩ := bind_some' H
  refine Tri.rn [2] 0 [] [(1, .call (oB r1) [] false)] [_, _] ⟨5, [(2, oB r1)], [], 0, []⟩ (by kernel_rfl) ⟨(impl_within.fn k a0 1 3 r1 h2), (show (List.all [cB r1] PC.flatB) = true from rfl), trivial⟩ ?_
  refine Tri.ret ?_
  obtain rfl := Option.some.inj H
  exact ⟨.inr rfl, rfl, rfl, Nat.le_refl _, rfl, by simp⟩
/-! impl_Code__isIns: function 200 -/
def impl_Code__isIns.e1 (k : Nat) (a1 : SIns) : Option Bool := (impl_isName.f k a1.f3).bind fun r4 => if r4 = true then ((impl_isName.f k a1.f4).bind fun r7 => some (!r7)) else (some true)
def impl_Code__isIns.e2 (k : Nat) (a1 : SIns) : Option Bool := if a1.f3 = (⟨#[]⟩ : ByteArray) then (some (!(decide (a1.f4 = (⟨#[]⟩ : ByteArray))))) else (some true)
def impl_Code__isIns.e3 (k : Nat) (a1 : SIns) : Option (Bool ⊕ Unit) := (impl_hasPlace.f k a1.f0).bind fun r1 => if r1 = true then ((impl_Code__isIns.e1 k a1).bind fun y9 => if y9 = true then (some (.inl false)) else (some (.inr ()))) else ((impl_Code__isIns.e2 k a1).bind fun y14 => if y14 = true then (some (.inl false)) else (some (.inr ())))
def impl_Code__isIns.e4 (k : Nat) (a1 : SIns) : Option Bool := if a1.f0 = 13 then (some false) else (some (!(decide (a1.f2 = 0))))
def impl_Code__isIns.e5 (k : Nat) (a1 : SIns) : Option Bool := if a1.f0 = 11 then (some (decide (a1.f0 = 11))) else (some (decide (a1.f0 = 12)))
def impl_Code__isIns.e6 (k : Nat) (a1 : SIns) : Option Bool := (impl_within.f k a1.f1 0 20).bind fun r45 => if r45 = true then ((impl_within.f k a1.f2 0 1).bind fun r48 => some r48) else (some false)
def impl_Code__isIns.e7 (k : Nat) (a1 : SIns) : Option Bool := if a1.f1 = 1 then (some true) else (some (decide (a1.f1 = 3)))
def impl_Code__isIns.e8 (k : Nat) (a1 : SIns) : Option Bool := (impl_within.f k a1.f0 1 17).bind fun r65 => if r65 = true then (some (decide (a1.f1 = 0))) else (some false)
def impl_Code__isIns.f (k : Nat) (a0 : SCode) (a1 : SIns) : Option Bool := (impl_Code__isIns.e3 k a1).bind fun v => match v with | .inl r => some r | .inr _ => (impl_Code__isIns.e4 k a1).bind fun y21 => if y21 = true then (some false) else (if a1.f0 = 1 then (some true) else (if a1.f0 = 2 then ((impl_within.f k a1.f1 0 (w64 (a0.f2 - 1))).bind fun r27 => some r27) else (if a1.f0 = 6 then ((impl_within.f k a1.f1 1 100).bind fun r30 => some r30) else (if a1.f0 = 7 then ((impl_works.f k).bind fun r33 => (impl_within.f k a1.f1 0 (w64 ((r33.length : Int) - 1))).bind fun r35 => some r35) else ((impl_Code__isIns.e5 k a1).bind fun y38 => if y38 = true then ((impl_within.f k a1.f1 0 (w64 ((a0.f4.length : Int) - 1))).bind fun r42 => some r42) else (if a1.f0 = 13 then ((impl_Code__isIns.e6 k a1).bind fun y50 => some y50) else (if a1.f0 = 14 then (some (decide (a1.f1 = a0.f3))) else (if a1.f0 = 15 then ((impl_isType.f k a1.f1).bind fun r55 => some r55) else (if a1.f0 = 16 then ((impl_Code__isIns.e7 k a1).bind fun y59 => some y59) else (if a1.f0 = 17 then ((impl_within.f k a1.f1 1 5).bind fun r63 => some r63) else ((impl_Code__isIns.e8 k a1).bind fun y68 => some y68)))))))))))
set_option maxRecDepth 100000 in
theorem impl_Code__isIns.fn (k : Nat) (a0 : SCode) (a1 : SIns) (r : Bool) (H : impl_Code__isIns.f k a0 a1 = some r) : Fn Tryz.prog 200 [ag (eSCode a0), ag (eSIns a1)] [] (oB r) [] := by
  unfold impl_Code__isIns.f at H
  refine Fn.body (ts := [4]) Tryz.func200 rfl rfl (by decide) (by decide) (Nat.le_of_ble_eq_true rfl) (Nat.le_refl _) ?_
  refine Tri.rn [2, 3] 2 [] [] [] ⟨114, [(2, o1 (.ref 0 0)), (3, o1 (.ref 1 0))], [eSCode a0, eSIns a1], 0, []⟩ (by kernel_rfl) trivial ?_
  obtain ⟨v19, h18, H⟩ := bind_some' H
  refine Tri.join (α := Unit) (fun w => v19 = .inr w) (fun _ => ⟨114, [(2, o1 (.ref 0 0)), (3, o1 (.ref 1 0))], [eSCode a0, eSIns a1], 0, []⟩) (fun w hw => ?_) ?_
  · rw [hw] at H; clear hw
    try dsimp only at H
    refine Tri.seq ?_
    obtain ⟨v23, h22, H⟩ := bind_some' H
    refine Tri.join (α := Bool) (fun w => v23 = w) (fun y21 => ⟨114, [(2, o1 (.ref 0 0)), (3, o1 (.ref 1 0)), (33, oB y21)], [eSCode a0, eSIns a1], 0, []⟩) (fun y21 hw => ?_) ?_
    · rw [hw] at H; clear hw
      try dsimp only at H
      rcases iteb_some H with ⟨h24, H⟩ | ⟨h24, H⟩
      · refine Tri.cond_true (useb h24 (by kernel_rfl)) ?_
        refine Tri.rn [4] 0 [] [] [] ⟨114, [(4, oB false)], [], 0, []⟩ (by kernel_rfl) trivial ?_
        refine Tri.ret ?_
        obtain rfl := Option.some.inj H
        exact ⟨.inr rfl, rfl, rfl, Nat.le_refl _, rfl, by simp⟩
      · refine Tri.cond_false (useb h24 (by kernel_rfl)) ?_
        refine Tri.skip ?_
        refine Tri.seq ?_
        refine Tri.rn [2, 3, 35] 2 [] [] [] ⟨114, [(2, o1 (.ref 0 0)), (3, o1 (.ref 1 0)), (35, oI a1.f0)], [eSCode a0, eSIns a1], 0, []⟩ (by kernel_rfl) trivial ?_
        refine Tri.block ?_
        refine Tri.rn [2, 3, 35, 36] 2 [] [] [] ⟨114, [(2, o1 (.ref 0 0)), (3, o1 (.ref 1 0)), (35, oI a1.f0), (36, oB (decide (a1.f0 = 1)))], [eSCode a0, eSIns a1], 0, []⟩ (by kernel_rfl) trivial ?_
        rcases ite_some H with ⟨h25, H⟩ | ⟨h25, H⟩
        · refine Tri.cond_true (useb (decide_eq_true h25) (by kernel_rfl)) ?_
          refine Tri.rn [4] 0 [] [] [] ⟨114, [(4, oB true)], [], 0, []⟩ (by kernel_rfl) trivial ?_
          refine Tri.ret ?_
          obtain rfl := Option.some.inj H
          exact ⟨.inr rfl, rfl, rfl, Nat.le_refl _, rfl, by simp⟩
        · refine Tri.cond_false (useb (decide_eq_false h25) (by kernel_rfl)) ?_
          refine Tri.rn [2, 3, 35, 38] 2 [] [] [] ⟨114, [(2, o1 (.ref 0 0)), (3, o1 (.ref 1 0)), (35, oI a1.f0), (38, oB (decide (a1.f0 = 2)))], [eSCode a0, eSIns a1], 0, []⟩ (by kernel_rfl) trivial ?_
          rcases ite_some H with ⟨h26, H⟩ | ⟨h26, H⟩
          · refine Tri.cond_true (useb (decide_eq_true h26) (by kernel_rfl)) ?_
            obtain ⟨r27, h28, H⟩ := bind_some' H
            refine Tri.rn [4] 0 [] [(5, .call (oB r27) [] false)] [_, _] ⟨114, [(4, oB r27)], [], 0, []⟩ (by kernel_rfl) ⟨(impl_within.fn k a1.f1 0 (w64 (a0.f2 - 1)) r27 h28), (show (List.all [cB r27] PC.flatB) = true from rfl), trivial⟩ ?_
            refine Tri.ret ?_
            obtain rfl := Option.some.inj H
            exact ⟨.inr rfl, rfl, rfl, Nat.le_refl _, rfl, by simp⟩
          · refine Tri.cond_false (useb (decide_eq_false h26) (by kernel_rfl)) ?_
            refine Tri.rn [2, 3, 35, 46] 2 [] [] [] ⟨114, [(2, o1 (.ref 0 0)), (3, o1 (.ref 1 0)), (35, oI a1.f0), (46, oB (decide (a1.f0 = 6)))], [eSCode a0, eSIns a1], 0, []⟩ (by kernel_rfl) trivial ?_
            rcases ite_some H with ⟨h29, H⟩ | ⟨h29, H⟩
            · refine Tri.cond_true (useb (decide_eq_true h29) (by kernel_rfl)) ?_
              obtain ⟨r30, h31, H⟩ := bind_some' H
              refine Tri.rn [4] 0 [] [(2, .call (oB r30) [] false)] [_, _] ⟨114, [(4, oB r30)], [], 0, []⟩ (by kernel_rfl) ⟨(impl_within.fn k a1.f1 1 100 r30 h31), (show (List.all [cB r30] PC.flatB) = true from rfl), trivial⟩ ?_
              refine Tri.ret ?_
              obtain rfl := Option.some.inj H
              exact ⟨.inr rfl, rfl, rfl, Nat.le_refl _, rfl, by simp⟩
            · refine Tri.cond_false (useb (decide_eq_false h29) (by kernel_rfl)) ?_
              refine Tri.rn [2, 3, 35, 51] 2 [] [] [] ⟨114, [(2, o1 (.ref 0 0)), (3, o1 (.ref 1 0)), (35, oI a1.f0), (51, oB (decide (a1.f0 = 7)))], [eSCode a0, eSIns a1], 0, []⟩ (by kernel_rfl) trivial ?_
              rcases ite_some H with ⟨h32, H⟩ | ⟨h32, H⟩
              · refine Tri.cond_true (useb (decide_eq_true h32) (by kernel_rfl)) ?_
                obtain ⟨r33, h34, H⟩ := bind_some' H
                obtain ⟨r35, h36, H⟩ := bind_some' H
                refine Tri.dn hmix 5 [[], [0], [], [2], [2, 3], [0, 1, 2, 3, 4], [0, 1, 2, 3, 4, 5]] [4] 0 [] [(2, .call (o1 (.own 9 (List.map eS r33))) [] false), (3, .ov [.sc (.int .i64 (r33.length : Int))]), (5, .call (oB r35) [] false)] [_, _, _, _, _] ⟨114, [(4, oB r35)], [], 0, []⟩ (by kernel_rfl) ⟨(impl_works.fn k r33 h34), (show (List.all [.own 9 (List.map eS r33)] PC.flatB) = true by simp [PC.flatB, PC.scalar, cI, cK, cB, cS, eS]), (ovlen (f := eS) (l := r33)), (impl_within.fn k a1.f1 0 (w64 ((r33.length : Int) - 1)) r35 h36), (show (List.all [cB r35] PC.flatB) = true from rfl), trivial⟩ ?_
                refine Tri.ret ?_
                obtain rfl := Option.some.inj H
                exact ⟨.inr rfl, rfl, rfl, Nat.le_refl _, rfl, by simp⟩
              · refine Tri.cond_false (useb (decide_eq_false h32) (by kernel_rfl)) ?_
                obtain ⟨v40, h39, H⟩ := bind_some' H
                refine Tri.join (α := Bool) (fun w => v40 = w) (fun y38 => ⟨114, [(2, o1 (.ref 0 0)), (3, o1 (.ref 1 0)), (35, oI a1.f0), (59, oB y38)], [eSCode a0, eSIns a1], 0, []⟩) (fun y38 hw => ?_) ?_
                · rw [hw] at H; clear hw
                  try dsimp only at H
                  rcases iteb_some H with ⟨h41, H⟩ | ⟨h41, H⟩
                  · refine Tri.cond_true (useb h41 (by kernel_rfl)) ?_
                    obtain ⟨r42, h43, H⟩ := bind_some' H
                    refine Tri.rn [4] 0 [] [(4, .ov [.sc (.int .i64 (a0.f4.length : Int))]), (6, .call (oB r42) [] false)] [_, _, _] ⟨114, [(4, oB r42)], [], 0, []⟩ (by kernel_rfl) ⟨(ovlen (f := eSIns) (l := a0.f4)), (impl_within.fn k a1.f1 0 (w64 ((a0.f4.length : Int) - 1)) r42 h43), (show (List.all [cB r42] PC.flatB) = true from rfl), trivial⟩ ?_
                    refine Tri.ret ?_
                    obtain rfl := Option.some.inj H
                    exact ⟨.inr rfl, rfl, rfl, Nat.le_refl _, rfl, by simp⟩
                  · refine Tri.cond_false (useb h41 (by kernel_rfl)) ?_
                    refine Tri.rn [2, 3, 35, 69] 2 [] [] [] ⟨114, [(2, o1 (.ref 0 0)), (3, o1 (.ref 1 0)), (35, oI a1.f0), (69, oB (decide (a1.f0 = 13)))], [eSCode a0, eSIns a1], 0, []⟩ (by kernel_rfl) trivial ?_
                    rcases ite_some H with ⟨h44, H⟩ | ⟨h44, H⟩
                    · refine Tri.cond_true (useb (decide_eq_true h44) (by kernel_rfl)) ?_
                      obtain ⟨v52, h51, H⟩ := bind_some' H
                      refine Tri.join (α := Bool) (fun w => v52 = w) (fun y50 => ⟨114, [(4, oB y50)], [], 0, []⟩) (fun y50 hw => ?_) ?_
                      · rw [hw] at H; clear hw
                        try dsimp only at H
                        refine Tri.ret ?_
                        obtain rfl := Option.some.inj H
                        exact ⟨.inr rfl, rfl, rfl, Nat.le_refl _, rfl, by simp⟩
                      · unfold impl_Code__isIns.e6 at h51
                        obtain ⟨r45, h46, h51⟩ := bind_some' h51
                        rcases iteb_some h51 with ⟨h47, h51⟩ | ⟨h47, h51⟩
                        · obtain ⟨r48, h49, h51⟩ := bind_some' h51
                          refine Tri.r1 [4] 0 [] [(2, .call (oB r45) [] false), (2, .ov [.sc (.bool true)]), (6, .call (oB r48) [] false)] [_, _, _, _, _] ⟨114, [(4, oB r48)], [], 0, []⟩ (by kernel_rfl) ⟨(impl_within.fn k a1.f1 0 20 r45 h46), (show (List.all [cB r45] PC.flatB) = true from rfl), (ovb h47), (impl_within.fn k a1.f2 0 1 r48 h49), (show (List.all [cB r48] PC.flatB) = true from rfl), trivial⟩ ?_
                          exact ⟨r48, (Option.some.inj h51).symm, rfl⟩
                        · refine Tri.r1 [4] 0 [] [(2, .call (oB r45) [] false), (2, .ov [.sc (.bool false)])] [_, _, _] ⟨114, [(4, oB false)], [], 0, []⟩ (by kernel_rfl) ⟨(impl_within.fn k a1.f1 0 20 r45 h46), (show (List.all [cB r45] PC.flatB) = true from rfl), (ovb h47), trivial⟩ ?_
                          exact ⟨false, (Option.some.inj h51).symm, rfl⟩
                    · refine Tri.cond_false (useb (decide_eq_false h44) (by kernel_rfl)) ?_
                      refine Tri.rn [2, 3, 35, 79] 2 [] [] [] ⟨114, [(2, o1 (.ref 0 0)), (3, o1 (.ref 1 0)), (35, oI a1.f0), (79, oB (decide (a1.f0 = 14)))], [eSCode a0, eSIns a1], 0, []⟩ (by kernel_rfl) trivial ?_
                      rcases ite_some H with ⟨h53, H⟩ | ⟨h53, H⟩
                      · refine Tri.cond_true (useb (decide_eq_true h53) (by kernel_rfl)) ?_
                        refine Tri.rn [4] 0 [] [] [] ⟨114, [(4, oB (decide (a1.f1 = a0.f3)))], [], 0, []⟩ (by kernel_rfl) trivial ?_
                        refine Tri.ret ?_
                        obtain rfl := Option.some.inj H
                        exact ⟨.inr rfl, rfl, rfl, Nat.le_refl _, rfl, by simp⟩
                      · refine Tri.cond_false (useb (decide_eq_false h53) (by kernel_rfl)) ?_
                        refine Tri.rn [3, 35, 86] 2 [] [] [] ⟨114, [(3, o1 (.ref 1 0)), (35, oI a1.f0), (86, oB (decide (a1.f0 = 15)))], [eSCode a0, eSIns a1], 0, []⟩ (by kernel_rfl) trivial ?_
                        rcases ite_some H with ⟨h54, H⟩ | ⟨h54, H⟩
                        · refine Tri.cond_true (useb (decide_eq_true h54) (by kernel_rfl)) ?_
                          obtain ⟨r55, h56, H⟩ := bind_some' H
                          refine Tri.rn [4] 0 [] [(2, .call (oB r55) [] false)] [_, _] ⟨114, [(4, oB r55)], [], 0, []⟩ (by kernel_rfl) ⟨(impl_isType.fn k a1.f1 r55 h56), (show (List.all [cB r55] PC.flatB) = true from rfl), trivial⟩ ?_
                          refine Tri.ret ?_
                          obtain rfl := Option.some.inj H
                          exact ⟨.inr rfl, rfl, rfl, Nat.le_refl _, rfl, by simp⟩
                        · refine Tri.cond_false (useb (decide_eq_false h54) (by kernel_rfl)) ?_
                          refine Tri.rn [3, 35, 91] 2 [] [] [] ⟨114, [(3, o1 (.ref 1 0)), (35, oI a1.f0), (91, oB (decide (a1.f0 = 16)))], [eSCode a0, eSIns a1], 0, []⟩ (by kernel_rfl) trivial ?_
                          rcases ite_some H with ⟨h57, H⟩ | ⟨h57, H⟩
                          · refine Tri.cond_true (useb (decide_eq_true h57) (by kernel_rfl)) ?_
                            obtain ⟨v61, h60, H⟩ := bind_some' H
                            refine Tri.join (α := Bool) (fun w => v61 = w) (fun y59 => ⟨114, [(4, oB y59)], [], 0, []⟩) (fun y59 hw => ?_) ?_
                            · rw [hw] at H; clear hw
                              try dsimp only at H
                              refine Tri.ret ?_
                              obtain rfl := Option.some.inj H
                              exact ⟨.inr rfl, rfl, rfl, Nat.le_refl _, rfl, by simp⟩
                            · unfold impl_Code__isIns.e7 at h60
                              rcases ite_some h60 with ⟨h58, h60⟩ | ⟨h58, h60⟩
                              · refine Tri.r1 [4] 0 [] [(2, .ov [.sc (.bool true)])] [_] ⟨114, [(4, oB true)], [], 0, []⟩ (by kernel_rfl) ⟨(ovb (decide_eq_true h58)), trivial⟩ ?_
                                exact ⟨true, (Option.some.inj h60).symm, rfl⟩
                              · refine Tri.r1 [4] 0 [] [(2, .ov [.sc (.bool false)])] [_] ⟨114, [(4, oB (decide (a1.f1 = 3)))], [], 0, []⟩ (by kernel_rfl) ⟨(ovb (decide_eq_false h58)), trivial⟩ ?_
                                exact ⟨(decide (a1.f1 = 3)), (Option.some.inj h60).symm, rfl⟩
                          · refine Tri.cond_false (useb (decide_eq_false h57) (by kernel_rfl)) ?_
                            refine Tri.rn [3, 101] 2 [] [] [] ⟨114, [(3, o1 (.ref 1 0)), (101, oB (decide (a1.f0 = 17)))], [eSCode a0, eSIns a1], 0, []⟩ (by kernel_rfl) trivial ?_
                            rcases ite_some H with ⟨h62, H⟩ | ⟨h62, H⟩
                            · refine Tri.cond_true (useb (decide_eq_true h62) (by kernel_rfl)) ?_
                              obtain ⟨r63, h64, H⟩ := bind_some' H
                              refine Tri.rn [4] 0 [] [(2, .call (oB r63) [] false)] [_, _] ⟨114, [(4, oB r63)], [], 0, []⟩ (by kernel_rfl) ⟨(impl_within.fn k a1.f1 1 5 r63 h64), (show (List.all [cB r63] PC.flatB) = true from rfl), trivial⟩ ?_
                              refine Tri.ret ?_
                              obtain rfl := Option.some.inj H
                              exact ⟨.inr rfl, rfl, rfl, Nat.le_refl _, rfl, by simp⟩
                            · refine Tri.cond_false (useb (decide_eq_false h62) (by kernel_rfl)) ?_
                              refine Tri.skip ?_
                              obtain ⟨v70, h69, H⟩ := bind_some' H
                              refine Tri.join (α := Bool) (fun w => v70 = w) (fun y68 => ⟨114, [(4, oB y68)], [], 0, []⟩) (fun y68 hw => ?_) ?_
                              · rw [hw] at H; clear hw
                                try dsimp only at H
                                refine Tri.ret ?_
                                obtain rfl := Option.some.inj H
                                exact ⟨.inr rfl, rfl, rfl, Nat.le_refl _, rfl, by simp⟩
                              · unfold impl_Code__isIns.e8 at h69
                                obtain ⟨r65, h66, h69⟩ := bind_some' h69
                                rcases iteb_some h69 with ⟨h67, h69⟩ | ⟨h67, h69⟩
                                · refine Tri.r1 [4] 0 [] [(2, .call (oB r65) [] false), (2, .ov [.sc (.bool true)])] [_, _, _] ⟨114, [(4, oB (decide (a1.f1 = 0)))], [], 0, []⟩ (by kernel_rfl) ⟨(impl_within.fn k a1.f0 1 17 r65 h66), (show (List.all [cB r65] PC.flatB) = true from rfl), (ovb h67), trivial⟩ ?_
                                  exact ⟨(decide (a1.f1 = 0)), (Option.some.inj h69).symm, rfl⟩
                                · refine Tri.r1 [4] 0 [] [(2, .call (oB r65) [] false), (2, .ov [.sc (.bool false)])] [_, _, _] ⟨114, [(4, oB false)], [], 0, []⟩ (by kernel_rfl) ⟨(impl_within.fn k a1.f0 1 17 r65 h66), (show (List.all [cB r65] PC.flatB) = true from rfl), (ovb h67), trivial⟩ ?_
                                  exact ⟨false, (Option.some.inj h69).symm, rfl⟩
                · unfold impl_Code__isIns.e5 at h39
                  refine Tri.rn [2, 3, 35, 59] 2 [] [] [] ⟨114, [(2, o1 (.ref 0 0)), (3, o1 (.ref 1 0)), (35, oI a1.f0), (59, oB (decide (a1.f0 = 11)))], [eSCode a0, eSIns a1], 0, []⟩ (by kernel_rfl) trivial ?_
                  rcases ite_some h39 with ⟨h37, h39⟩ | ⟨h37, h39⟩
                  · refine Tri.cond_true (useb (decide_eq_true h37) (by kernel_rfl)) ?_
                    refine Tri.skip ?_
                    exact ⟨(decide (a1.f0 = 11)), (Option.some.inj h39).symm, rfl⟩
                  · refine Tri.cond_false (useb (decide_eq_false h37) (by kernel_rfl)) ?_
                    refine Tri.r1 [2, 3, 35, 59] 2 [] [] [] ⟨114, [(2, o1 (.ref 0 0)), (3, o1 (.ref 1 0)), (35, oI a1.f0), (59, oB (decide (a1.f0 = 12)))], [eSCode a0, eSIns a1], 0, []⟩ (by kernel_rfl) trivial ?_
                    exact ⟨(decide (a1.f0 = 12)), (Option.some.inj h39).symm, rfl⟩
    · unfold impl_Code__isIns.e4 at h22
      rcases ite_some h22 with ⟨h20, h22⟩ | ⟨h20, h22⟩
      · refine Tri.r1 [2, 3, 33] 2 [] [(2, .ov [.sc (.bool false)])] [_] ⟨114, [(2, o1 (.ref 0 0)), (3, o1 (.ref 1 0)), (33, oB false)], [eSCode a0, eSIns a1], 0, []⟩ (by kernel_rfl) ⟨(ovb (nF (decide_eq_true h20))), trivial⟩ ?_
        exact ⟨false, (Option.some.inj h22).symm, rfl⟩
      · refine Tri.r1 [2, 3, 33] 2 [] [(2, .ov [.sc (.bool true)])] [_] ⟨114, [(2, o1 (.ref 0 0)), (3, o1 (.ref 1 0)), (33, oB (!(decide (a1.f2 = 0))))], [eSCode a0, eSIns a1], 0, []⟩ (by kernel_rfl) ⟨(ovb (nT (decide_eq_false h20))), trivial⟩ ?_
        exact ⟨(!(decide (a1.f2 = 0))), (Option.some.inj h22).symm, rfl⟩
  · unfold impl_Code__isIns.e3 at h18
    obtain ⟨r1, h2, h18⟩ := bind_some' h18
    refine Tri.rn [2, 3, 7] 2 [] [(2, .call (oB r1) [] false)] [_, _] ⟨114, [(2, o1 (.ref 0 0)), (3, o1 (.ref 1 0)), (7, oB r1)], [eSCode a0, eSIns a1], 0, []⟩ (by kernel_rfl) ⟨(impl_hasPlace.fn k a1.f0 r1 h2), (show (List.all [cB r1] PC.flatB) = true from rfl), trivial⟩ ?_
    rcases iteb_some h18 with ⟨h3, h18⟩ | ⟨h3, h18⟩
    · refine Tri.cond_true (useb h3 (by kernel_rfl)) ?_
      obtain ⟨v11, h10, h18⟩ := bind_some' h18
      refine Tri.join (α := Bool) (fun w => v11 = w) (fun y9 => ⟨114, [(2, o1 (.ref 0 0)), (3, o1 (.ref 1 0)), (17, oB y9)], [eSCode a0, eSIns a1], 0, []⟩) (fun y9 hw => ?_) ?_
      · rw [hw] at h18; clear hw
        try dsimp only at h18
        rcases iteb_some h18 with ⟨h12, h18⟩ | ⟨h12, h18⟩
        · refine Tri.cond_true (useb h12 (by kernel_rfl)) ?_
          refine Tri.rn [4] 0 [] [] [] ⟨114, [(4, oB false)], [], 0, []⟩ (by kernel_rfl) trivial ?_
          refine Tri.ret ?_
          obtain rfl := Option.some.inj h18
          try dsimp only at H
          obtain rfl := Option.some.inj H
          exact ⟨.inr rfl, rfl, rfl, Nat.le_refl _, rfl, by simp⟩
        · refine Tri.cond_false (useb h12 (by kernel_rfl)) ?_
          refine Tri.fix [2, 3] 2 [] ⟨114, [(2, o1 (.ref 0 0)), (3, o1 (.ref 1 0))], [eSCode a0, eSIns a1], 0, []⟩ (by kernel_rfl) ?_
          refine Tri.skip ?_
          exact ⟨(), (Option.some.inj h18).symm, rfl⟩
      · unfold impl_Code__isIns.e1 at h10
        obtain ⟨r4, h5, h10⟩ := bind_some' h10
        rcases iteb_some h10 with ⟨h6, h10⟩ | ⟨h6, h10⟩
        · obtain ⟨r7, h8, h10⟩ := bind_some' h10
          refine Tri.r1 [2, 3, 17] 2 [] [(2, .call (oB r4) [] false), (2, .ov [.sc (.bool true)]), (7, .call (oB r7) [] false)] [_, _, _, _, _] ⟨114, [(2, o1 (.ref 0 0)), (3, o1 (.ref 1 0)), (17, oB (!r7))], [eSCode a0, eSIns a1], 0, []⟩ (by kernel_rfl) ⟨(impl_isName.fn k a1.f3 r4 h5), (show (List.all [cB r4] PC.flatB) = true from rfl), (ovb h6), (impl_isName.fn k a1.f4 r7 h8), (show (List.all [cB r7] PC.flatB) = true from rfl), trivial⟩ ?_
          exact ⟨(!r7), (Option.some.inj h10).symm, rfl⟩
        · refine Tri.r1 [2, 3, 17] 2 [] [(2, .call (oB r4) [] false), (2, .ov [.sc (.bool false)])] [_, _, _] ⟨114, [(2, o1 (.ref 0 0)), (3, o1 (.ref 1 0)), (17, oB true)], [eSCode a0, eSIns a1], 0, []⟩ (by kernel_rfl) ⟨(impl_isName.fn k a1.f3 r4 h5), (show (List.all [cB r4] PC.flatB) = true from rfl), (ovb h6), trivial⟩ ?_
          exact ⟨true, (Option.some.inj h10).symm, rfl⟩
    · refine Tri.cond_false (useb h3 (by kernel_rfl)) ?_
      obtain ⟨v16, h15, h18⟩ := bind_some' h18
      refine Tri.join (α := Bool) (fun w => v16 = w) (fun y14 => ⟨114, [(2, o1 (.ref 0 0)), (3, o1 (.ref 1 0)), (25, oB y14)], [eSCode a0, eSIns a1], 0, []⟩) (fun y14 hw => ?_) ?_
      · rw [hw] at h18; clear hw
        try dsimp only at h18
        rcases iteb_some h18 with ⟨h17, h18⟩ | ⟨h17, h18⟩
        · refine Tri.cond_true (useb h17 (by kernel_rfl)) ?_
          refine Tri.rn [4] 0 [] [] [] ⟨114, [(4, oB false)], [], 0, []⟩ (by kernel_rfl) trivial ?_
          refine Tri.ret ?_
          obtain rfl := Option.some.inj h18
          try dsimp only at H
          obtain rfl := Option.some.inj H
          exact ⟨.inr rfl, rfl, rfl, Nat.le_refl _, rfl, by simp⟩
        · refine Tri.cond_false (useb h17 (by kernel_rfl)) ?_
          refine Tri.fix [2, 3] 2 [] ⟨114, [(2, o1 (.ref 0 0)), (3, o1 (.ref 1 0))], [eSCode a0, eSIns a1], 0, []⟩ (by kernel_rfl) ?_
          refine Tri.skip ?_
          exact ⟨(), (Option.some.inj h18).symm, rfl⟩
      · unfold impl_Code__isIns.e2 at h15
        rcases ite_some h15 with ⟨h13, h15⟩ | ⟨h13, h15⟩
        · refine Tri.r1 [2, 3, 25] 2 [] [(2, .ov [.sc (.bool false)])] [_] ⟨114, [(2, o1 (.ref 0 0)), (3, o1 (.ref 1 0)), (25, oB (!(decide (a1.f4 = (⟨#[]⟩ : ByteArray)))))], [eSCode a0, eSIns a1], 0, []⟩ (by kernel_rfl) ⟨(ovb (nF (decide_eq_true h13))), trivial⟩ ?_
          exact ⟨(!(decide (a1.f4 = (⟨#[]⟩ : ByteArray)))), (Option.some.inj h15).symm, rfl⟩
        · refine Tri.r1 [2, 3, 25] 2 [] [(2, .ov [.sc (.bool true)])] [_] ⟨114, [(2, o1 (.ref 0 0)), (3, o1 (.ref 1 0)), (25, oB true)], [eSCode a0, eSIns a1], 0, []⟩ (by kernel_rfl) ⟨(ovb (nT (decide_eq_false h13))), trivial⟩ ?_
          exact ⟨true, (Option.some.inj h15).symm, rfl⟩
/-! impl_Code__verify_1_1: function 199 -/
def impl_Code__verify_1_1.f (k : Nat) (a0 : SIns) (a1_1 : SCode) : Option Bool := (impl_Code__isIns.f k a1_1 a0).bind fun r1 => some (!r1)
set_option maxRecDepth 100000 in
theorem impl_Code__verify_1_1.fn (k : Nat) (a0 : SIns) (a1_1 : SCode) (r : Bool) (H : impl_Code__verify_1_1.f k a0 a1_1 = some r) : Fn Tryz.prog 199 [ag (eSIns a0), o1 (.cel (eSCode a1_1) 0)] [] (oB r) [] := by
  unfold impl_Code__verify_1_1.f at H
  refine Fn.body (ts := [3]) Tryz.func199 rfl rfl (by decide) (by decide) (Nat.le_of_ble_eq_true rfl) (Nat.le_refl _) ?_
  refine Tri.rn [1, 2] 1 [] [] [] ⟨8, [(1, o1 (.cel (eSCode a1_1) 0)), (2, o1 (.ref 0 0))], [eSIns a0], 0, []⟩ (by kernel_rfl) trivial ?_
  obtain ⟨r1, h2, H⟩ := bind_some' H
  refine Tri.rn [3] 0 [] [(2, .call (oB r1) [] false)] [_, _] ⟨8, [(3, oB (!r1))], [], 0, []⟩ (by kernel_rfl) ⟨(impl_Code__isIns.fn k a1_1 a0 r1 h2), (show (List.all [cB r1] PC.flatB) = true from rfl), trivial⟩ ?_
  refine Tri.ret ?_
  obtain rfl := Option.some.inj H
  exact ⟨.inr rfl, rfl, rfl, Nat.le_refl _, rfl, by simp⟩
/-! slices_IndexFunc___impl_Ins_impl_Ins_1: function 198 -/
def slices_IndexFunc___impl_Ins_impl_Ins_1.l1 : Nat → (List SIns) → SCode → Int → Option (Int ⊕ Unit)
  | 0, _, _, _ => none
  | k + 1, a0, a1_1, z7 => if z7 < (a0.length : Int) then ((at? a0 z7).bind fun x9 => (impl_Code__verify_1_1.f k x9 a1_1).bind fun r11 => if r11 = true then (some (.inl z7)) else (slices_IndexFunc___impl_Ins_impl_Ins_1.l1 k a0 a1_1 (w64 (z7 + 1)))) else (some (.inr ()))
def slices_IndexFunc___impl_Ins_impl_Ins_1.e2 (k : Nat) (a0 : (List SIns)) (a1_1 : SCode) : Option (Int ⊕ Unit) := slices_IndexFunc___impl_Ins_impl_Ins_1.l1 k a0 a1_1 0
def slices_IndexFunc___impl_Ins_impl_Ins_1.f (k : Nat) (a0 : (List SIns)) (a1_1 : SCode) : Option Int := (slices_IndexFunc___impl_Ins_impl_Ins_1.e2 k a0 a1_1).bind fun v => match v with | .inl r => some r | .inr _ => some (-1)
set_option maxRecDepth 100000 in
theorem slices_IndexFunc___impl_Ins_impl_Ins_1.fn (k : Nat) (a0 : (List SIns)) (a1_1 : SCode) (r : Int) (H : slices_IndexFunc___impl_Ins_impl_Ins_1.f k a0 a1_1 = some r) : Fn Tryz.prog 198 [o1 (.sl 5 (List.map eSIns a0)), o1 (.fn 199 [.cel (eSCode a1_1) 0])] [] (oI r) [] := by
  unfold slices_IndexFunc___impl_Ins_impl_Ins_1.f at H
  refine Fn.body (ts := [4]) Tryz.func198 rfl rfl (by decide) (by decide) (Nat.le_of_ble_eq_true rfl) (Nat.le_refl _) ?_
  refine Tri.rn [0, 1] 0 [] [] [] ⟨19, [(0, o1 (.sl 5 (List.map eSIns a0))), (1, o1 (.fn 199 [.cel (eSCode a1_1) 0]))], [], 0, []⟩ (by kernel_rfl) trivial ?_
  obtain ⟨v16, h15, H⟩ := bind_some' H
  refine Tri.join (α := Unit) (fun w => v16 = .inr w) (fun _ => ⟨19, [], [], 0, []⟩) (fun w hw => ?_) ?_
  · rw [hw] at H; clear hw
    try dsimp only at H
    refine Tri.rn [4] 0 [] [] [] ⟨19, [(4, oI (-1))], [], 0, []⟩ (by kernel_rfl) trivial ?_
    refine Tri.ret ?_
    obtain rfl := Option.some.inj H
    exact ⟨.inr rfl, rfl, rfl, Nat.le_refl _, rfl, by simp⟩
  · unfold slices_IndexFunc___impl_Ins_impl_Ins_1.e2 at h15
    refine Tri.rn [0, 1, 7, 8] 0 [] [(1, .ov [.sc (.int .i64 (a0.length : Int))])] [_] ⟨19, [(0, o1 (.sl 5 (List.map eSIns a0))), (1, o1 (.fn 199 [.cel (eSCode a1_1) 0])), (7, oI (a0.length : Int)), (8, oI 0)], [], 0, []⟩ (by kernel_rfl) ⟨(ovlen (f := eSIns) (l := a0)), trivial⟩ ?_
    refine Tri.block ?_
    refine Tri.loop k (TriR.ind (α := Int) (fun k x => slices_IndexFunc___impl_Ins_impl_Ins_1.l1 k a0 a1_1 x) (fun x => ⟨19, [(0, o1 (.sl 5 (List.map eSIns a0))), (1, o1 (.fn 199 [.cel (eSCode a1_1) 0])), (7, oI (a0.length : Int)), (8, oI x)], [], 0, []⟩) (fun _ => rfl) (fun k z7 h15 IH14 => ?_) k 0 h15)
    rw [slices_IndexFunc___impl_Ins_impl_Ins_1.l1.eq_2] at h15
    refine Tri.rn [0, 1, 7, 8, 9] 0 [] [] [] ⟨19, [(0, o1 (.sl 5 (List.map eSIns a0))), (1, o1 (.fn 199 [.cel (eSCode a1_1) 0])), (7, oI (a0.length : Int)), (8, oI z7), (9, oB (decide (z7 < (a0.length : Int))))], [], 0, []⟩ (by kernel_rfl) trivial ?_
    refine Tri.seq ?_
    rcases ite_some h15 with ⟨h8, h15⟩ | ⟨h8, h15⟩
    · refine Tri.cond_true (useb (decide_eq_true h8) (by kernel_rfl)) ?_
      refine Tri.skip ?_
      refine Tri.seq ?_
      refine Tri.block ?_
      refine Tri.rn [0, 1, 5, 7, 8] 0 [] [] [] ⟨19, [(0, o1 (.sl 5 (List.map eSIns a0))), (1, o1 (.fn 199 [.cel (eSCode a1_1) 0])), (5, oI z7), (7, oI (a0.length : Int)), (8, oI z7)], [], 0, []⟩ (by kernel_rfl) trivial ?_
      obtain ⟨x9, h10, h15⟩ := bind_some' h15
      obtain ⟨r11, h12, h15⟩ := bind_some' h15
      refine Tri.rn [0, 1, 5, 7, 8, 16] 0 [] [(3, .el (eSIns x9)), (5, .call (oB r11) [] false)] [_, _, _, _] ⟨19, [(0, o1 (.sl 5 (List.map eSIns a0))), (1, o1 (.fn 199 [.cel (eSCode a1_1) 0])), (5, oI z7), (7, oI (a0.length : Int)), (8, oI z7), (16, oB r11)], [], 0, []⟩ (by kernel_rfl) ⟨(at?_0 h10), (at?_map (f := eSIns) h10), (impl_Code__verify_1_1.fn k x9 a1_1 r11 h12), (show (List.all [cB r11] PC.flatB) = true from rfl), trivial⟩ ?_
      rcases iteb_some h15 with ⟨h13, h15⟩ | ⟨h13, h15⟩
      · refine Tri.cond_true (useb h13 (by kernel_rfl)) ?_
        refine Tri.rn [4] 0 [] [] [] ⟨19, [(4, oI z7)], [], 0, []⟩ (by kernel_rfl) trivial ?_
        refine Tri.ret ?_
        obtain rfl := Option.some.inj h15
        try dsimp only at H
        obtain rfl := Option.some.inj H
        exact ⟨.inr rfl, rfl, rfl, Nat.le_refl _, rfl, by simp⟩
      · refine Tri.cond_false (useb h13 (by kernel_rfl)) ?_
        refine Tri.skip ?_
        refine Tri.r1 [0, 1, 7, 8] 0 [] [] [] ⟨19, [(0, o1 (.sl 5 (List.map eSIns a0))), (1, o1 (.fn 199 [.cel (eSCode a1_1) 0])), (7, oI (a0.length : Int)), (8, oI (w64 (z7 + 1)))], [], 0, []⟩ (by kernel_rfl) trivial ?_
        exact IH14 _ (w64 (z7 + 1)) (Nat.le_refl _) h15
    · refine Tri.cond_false (useb (decide_eq_false h8) (by kernel_rfl)) ?_
      refine Tri.fix [] 0 [] ⟨19, [], [], 0, []⟩ (by kernel_rfl) ?_
      refine Tri.exit ?_
      repeat (with_reducible refine Ex.exit ?_)
      refine Bk.here ?_
      exact ⟨(), (Option.some.inj h15).symm, rfl⟩
/-! slices_Repeat___int_int: function 230 -/
def slices_Repeat___int_int.e1 (k : Nat) (r2 : (Int × Int)) : Option Bool := if (0 : Int) < r2.1 then (some true) else (some (decide ((9223372036854775807 : Int) < r2.2)))
def slices_Repeat___int_int.l2 : Nat → (List Int) → Int → Option (List Int)
  | 0, _, _ => none
  | k + 1, z14, z15 => if z15 < (z14.length : Int) then (if (0 : Int) ≤ z15 then (if z15 ≤ (z14.length : Int) then (slices_Repeat___int_int.l2 k  (cpRow z14 (List.take (Int.toNat (z15 - 0)) (List.drop (Int.toNat 0) z14)) (Int.toNat z15) (Nat.min (List.take (Int.toNat (z15 - 0)) (List.drop (Int.toNat 0) (List.map eI z14))).length (Int.toNat (((List.map eI z14).length : Int) - z15)))) (w64 (z15 + ((Nat.min (List.take (Int.toNat (z15 - 0)) (List.drop (Int.toNat 0) (List.map eI z14))).length (Int.toNat (((List.map eI z14).length : Int) - z15)) : Nat) : Int)))) else none) else none) else (some z14)
def slices_Repeat___int_int.e3 (k : Nat) (a0 : (List Int)) (r2 : (Int × Int)) : Option (List Int) := slices_Repeat___int_int.l2 k  (cpRow (List.replicate (Int.toNat (w64 (r2.2))) (0 : Int) : List Int) a0 0 (Nat.min (List.map eI a0).length ((List.map eI (List.replicate (Int.toNat (w64 (r2.2))) (0 : Int) : List Int)).length))) ((Nat.min (List.map eI a0).length ((List.map eI (List.replicate (Int.toNat (w64 (r2.2))) (0 : Int) : List Int)).length) : Nat) : Int)
def slices_Repeat___int_int.f (k : Nat) (a0 : (List Int)) (a1 : Int) : Option (List Int) := if a1 < 0 then (none) else ((math_bits_Mul.f k (IntKind.u64.wrap ((a0.length : Int))) (IntKind.u64.wrap (a1))).bind fun r2 => (slices_Repeat___int_int.e1 k r2).bind fun y5 => if y5 = true then (none) else (if (0 : Int) ≤ (w64 (r2.2)) then (if (w64 (r2.2)) * 8 ≤ 140737488355328 then ((slices_Repeat___int_int.e3 k a0 r2).bind fun y20 => some y20) else none) else none))
set_option maxRecDepth 100000 in
theorem slices_Repeat___int_int.fn (k : Nat) (a0 : (List Int)) (a1 : Int) (r : (List Int)) (H : slices_Repeat___int_int.f k a0 a1 = some r) : Fn Tryz.prog 230 [o1 (.sl 1 (List.map eI a0)), oI a1] [] (o1 (.own 3 (List.map eI r))) [] := by
  unfold slices_Repeat___int_int.f at H
  refine Fn.body (ts := [4]) Tryz.func230 rfl rfl (by decide) (by decide) (Nat.le_of_ble_eq_true rfl) (Nat.le_refl _) ?_
  refine Tri.rn [0, 1] 0 [] [] [] ⟨48, [(0, o1 (.sl 1 (List.map eI a0))), (1, oI a1)], [], 0, []⟩ (by kernel_rfl) trivial ?_
  refine Tri.seq ?_
  refine Tri.rn [0, 1, 10] 0 [] [] [] ⟨48, [(0, o1 (.sl 1 (List.map eI a0))), (1, oI a1), (10, oB (decide (a1 < 0)))], [], 0, []⟩ (by kernel_rfl) trivial ?_
  rcases ite_some H with ⟨h1, H⟩ | ⟨h1, H⟩
  · refine Tri.cond_true (useb (decide_eq_true h1) (by kernel_rfl)) ?_
    cases H
  · refine Tri.cond_false (useb (decide_eq_false h1) (by kernel_rfl)) ?_
    refine Tri.skip ?_
    obtain ⟨r2, h3, H⟩ := bind_some' H
    refine Tri.rn [0, 5, 6] 0 [] [(1, .ov [.sc (.int .i64 (a0.length : Int))]), (5, .call (tp [none, none] [cK .u64 r2.1, cK .u64 r2.2]) [] false)] [_, _, _] ⟨48, [(0, o1 (.sl 1 (List.map eI a0))), (5, o1 (cK .u64 r2.1)), (6, o1 (cK .u64 r2.2))], [], 0, []⟩ (by kernel_rfl) ⟨(ovlen (f := eI) (l := a0)), (math_bits_Mul.fn k (IntKind.u64.wrap ((a0.length : Int))) (IntKind.u64.wrap (a1)) r2 h3), (show (List.all [cK .u64 r2.1, cK .u64 r2.2] PC.flatB) = true from rfl), trivial⟩ ?_
    refine Tri.seq ?_
    obtain ⟨v7, h6, H⟩ := bind_some' H
    refine Tri.join (α := Bool) (fun w => v7 = w) (fun y5 => ⟨48, [(0, o1 (.sl 1 (List.map eI a0))), (6, o1 (cK .u64 r2.2)), (26, oB y5)], [], 0, []⟩) (fun y5 hw => ?_) ?_
    · rw [hw] at H; clear hw
      try dsimp only at H
      rcases iteb_some H with ⟨h8, H⟩ | ⟨h8, H⟩
      · refine Tri.cond_true (useb h8 (by kernel_rfl)) ?_
        cases H
      · refine Tri.cond_false (useb h8 (by kernel_rfl)) ?_
        refine Tri.skip ?_
        obtain ⟨h9, H⟩ := need_some H
        obtain ⟨h10, H⟩ := need_some H
        refine Tri.rn [0, 7] 0 [] [(2, .nz []), (2, .ov [.own 3 (List.map eI (List.replicate (Int.toNat (w64 (r2.2))) (0 : Int) : List Int))])] [_, _, _, _, _] ⟨48, [(0, o1 (.sl 1 (List.map eI a0))), (7, o1 (.own 3 (List.map eI (List.replicate (Int.toNat (w64 (r2.2))) (0 : Int) : List Int))))], [], 0, []⟩ (by kernel_rfl) ⟨(rfl : (w64 (r2.2)) = (w64 (r2.2))), h9, (mkN (b := 8) (by decide) h9 h10), h10, (ovrep (e := 3) (n := Int.toNat (w64 (r2.2))) (z := (0 : Int)) (f := eI)), trivial⟩ ?_
        refine Tri.rn [7, 8] 0 [] [(2, .ovp (.t 7 0) (.own 3 (List.map eI (cpRow (List.replicate (Int.toNat (w64 (r2.2))) (0 : Int) : List Int) a0 0 (Nat.min (List.map eI a0).length ((List.map eI (List.replicate (Int.toNat (w64 (r2.2))) (0 : Int) : List Int)).length))))))] [_, _] ⟨48, [(7, o1 (.own 3 (List.map eI (cpRow (List.replicate (Int.toNat (w64 (r2.2))) (0 : Int) : List Int) a0 0 (Nat.min (List.map eI a0).length ((List.map eI (List.replicate (Int.toNat (w64 (r2.2))) (0 : Int) : List Int)).length)))))), (8, oI ((Nat.min (List.map eI a0).length ((List.map eI (List.replicate (Int.toNat (w64 (r2.2))) (0 : Int) : List Int)).length) : Nat) : Int))], [], 0, []⟩ (by kernel_rfl) ⟨(Nat.le_of_eq (Nat.zero_add (List.map eI (List.replicate (Int.toNat (w64 (r2.2))) (0 : Int) : List Int)).length)), (show PC.own 3 (cpRow (List.map eI (List.replicate (Int.toNat (w64 (r2.2))) (0 : Int) : List Int)) (List.map eI a0) 0 (Nat.min (List.map eI a0).length ((List.map eI (List.replicate (Int.toNat (w64 (r2.2))) (0 : Int) : List Int)).length))) = PC.own 3 (List.map eI (cpRow (List.replicate (Int.toNat (w64 (r2.2))) (0 : Int) : List Int) a0 0 (Nat.min (List.map eI a0).length ((List.map eI (List.replicate (Int.toNat (w64 (r2.2))) (0 : Int) : List Int)).length)))) by simp only [← cpRow_map, List.map_take, List.map_drop]), trivial⟩ ?_
        obtain ⟨v22, h21, H⟩ := bind_some' H
        refine Tri.join (α := (List Int)) (fun w => v22 = w) (fun y20 => ⟨48, [(7, o1 (.own 3 (List.map eI y20)))], [], 0, []⟩) (fun y20 hw => ?_) ?_
        · rw [hw] at H; clear hw
          try dsimp only at H
          refine Tri.rn [4] 0 [] [] [] ⟨48, [(4, o1 (.own 3 (List.map eI y20)))], [], 0, []⟩ (by kernel_rfl) trivial ?_
          refine Tri.ret ?_
          obtain rfl := Option.some.inj H
          exact ⟨.inr rfl, rfl, rfl, Nat.le_refl _, rfl, by simp⟩
        · unfold slices_Repeat___int_int.e3 at h21
          refine Tri.block ?_
          refine Tri.loop k (TriR.ind (α := ((List Int) × Int)) (fun k x => slices_Repeat___int_int.l2 k  x.1 x.2) (fun x => ⟨48, [(7, o1 (.own 3 (List.map eI x.1))), (8, oI x.2)], [], 0, []⟩) (fun _ => rfl) (fun k x h21 IH19 => ?_) k (cpRow (List.replicate (Int.toNat (w64 (r2.2))) (0 : Int) : List Int) a0 0 (Nat.min (List.map eI a0).length ((List.map eI (List.replicate (Int.toNat (w64 (r2.2))) (0 : Int) : List Int)).length)), ((Nat.min (List.map eI a0).length ((List.map eI (List.replicate (Int.toNat (w64 (r2.2))) (0 : Int) : List Int)).length) : Nat) : Int)) h21)
          obtain ⟨z14, z15⟩ := x
          rw [slices_Repeat___int_int.l2.eq_2] at h21
          refine Tri.seq ?_
          refine Tri.rn [7, 8, 37] 0 [] [(2, .ov [.sc (.int .i64 (z14.length : Int))])] [_] ⟨48, [(7, o1 (.own 3 (List.map eI z14))), (8, oI z15), (37, oB (decide (z15 < (z14.length : Int))))], [], 0, []⟩ (by kernel_rfl) ⟨(ovlen (f := eI) (l := z14)), trivial⟩ ?_
          rcases ite_some h21 with ⟨h16, h21⟩ | ⟨h16, h21⟩
          · refine Tri.cond_true (useb (decide_eq_true h16) (by kernel_rfl)) ?_
            refine Tri.skip ?_
            refine Tri.block ?_
            obtain ⟨h17, h21⟩ := need_some h21
            obtain ⟨h18, h21⟩ := need_some h21
            refine Tri.dE hmix [[], [], [], [1, 2], [], [], [4, 5], [1, 2, 3, 4, 5, 6], [0, 1, 2, 3, 4, 5, 6, 7], [0, 1, 2, 3, 4, 5, 6, 7, 8]] [7] [⟨48, [(7, o1 (.own 3 (cpRow (List.map eI z14) (List.take (Int.toNat (z15 - 0)) (List.drop (Int.toNat 0) (List.map eI z14))) (Int.toNat z15) (Nat.min (List.take (Int.toNat (z15 - 0)) (List.drop (Int.toNat 0) (List.map eI z14))).length (Int.toNat (((List.map eI z14).length : Int) - z15)))))), (8, oI z15), (37, oB (decide (z15 < (z14.length : Int))))], [], 0, []⟩] [(38, oI z15), (39, o1 (.al (.t 7 0))), (40, oI z15), (41, o1 (.vw (.t 7 0) (Int.toNat z15) (Int.toNat (((List.map eI z14).length : Int) - z15)) 1)), (42, o1 (.al (.t 7 0))), (43, oI z15), (44, o1 (.vw (.t 7 0) (Int.toNat 0) (Int.toNat (z15 - 0)) 1)), (45, oI ((Nat.min (List.take (Int.toNat (z15 - 0)) (List.drop (Int.toNat 0) (List.map eI z14))).length (Int.toNat (((List.map eI z14).length : Int) - z15)) : Nat) : Int))] [7, 8] 0 [] [] [(8, .ovp (.t 7 0) (.own 3 (List.map eI (cpRow z14 (List.take (Int.toNat (z15 - 0)) (List.drop (Int.toNat 0) z14)) (Int.toNat z15) (Nat.min (List.take (Int.toNat (z15 - 0)) (List.drop (Int.toNat 0) (List.map eI z14))).length (Int.toNat (((List.map eI z14).length : Int) - z15)))))))] [_, _, _, _, _, _, _, _, _, _, _, _, _, _, _, _, _, _, _] ⟨48, [(7, o1 (.own 3 (List.map eI (cpRow z14 (List.take (Int.toNat (z15 - 0)) (List.drop (Int.toNat 0) z14)) (Int.toNat z15) (Nat.min (List.take (Int.toNat (z15 - 0)) (List.drop (Int.toNat 0) (List.map eI z14))).length (Int.toNat (((List.map eI z14).length : Int) - z15))))))), (8, oI (w64 (z15 + ((Nat.min (List.take (Int.toNat (z15 - 0)) (List.drop (Int.toNat 0) (List.map eI z14))).length (Int.toNat (((List.map eI z14).length : Int) - z15)) : Nat) : Int))))], [], 0, []⟩ (by kernel_rfl) ⟨(rfl : ((48, 0, []) : Nat × Nat × List Nat) = ((48, 0, []) : Nat × Nat × List Nat)), (rfl : (oI z15 : PV) = (oI z15 : PV)), (rfl : (oI z15 : PV) = (oI z15 : PV)), (rfl : (o1 (.al (.t 7 0)) : PV) = (o1 (.al (.t 7 0)) : PV)), (rfl : (oI z15 : PV) = (oI z15 : PV)), h17, (lenle (f := eI) (l := z14) h18), (Int.le_refl ((List.map eI z14).length : Int)), (rfl : (o1 (.vw (.t 7 0) (Int.toNat z15) (Int.toNat (((List.map eI z14).length : Int) - z15)) 1) : PV) = (o1 (.vw (.t 7 0) (Int.toNat z15) (Int.toNat (((List.map eI z14).length : Int) - z15)) 1) : PV)), (rfl : (o1 (.al (.t 7 0)) : PV) = (o1 (.al (.t 7 0)) : PV)), (rfl : (oI z15 : PV) = (oI z15 : PV)), (show (0 : Int) ≤ 0 by decide), h17, (lenle (f := eI) (l := z14) h18), (rfl : (o1 (.vw (.t 7 0) (Int.toNat 0) (Int.toNat (z15 - 0)) 1) : PV) = (o1 (.vw (.t 7 0) (Int.toNat 0) (Int.toNat (z15 - 0)) 1) : PV)), (vwle (f := eI) (l := z14) (show (0 : Int) ≤ 0 by decide) h17 (lenle (f := eI) (l := z14) h18)), (vwle (f := eI) (l := z14) h17 (lenle (f := eI) (l := z14) h18) (Int.le_refl ((List.map eI z14).length : Int))), (rfl : (([some (oI ((Nat.min (List.take (Int.toNat (z15 - 0)) (List.drop (Int.toNat 0) (List.map eI z14))).length (Int.toNat (((List.map eI z14).length : Int) - z15)) : Nat) : Int)), some (o1 (.al (.t 7 0))), some (oI z15), some (o1 (.vw (.t 7 0) (Int.toNat z15) (Int.toNat (((List.map eI z14).length : Int) - z15)) 1)), some (o1 (.al (.t 7 0))), some (oI z15), some (o1 (.vw (.t 7 0) (Int.toNat 0) (Int.toNat (z15 - 0)) 1)), some (o1 (.own 3 (cpRow (List.map eI z14) (List.take (Int.toNat (z15 - 0)) (List.drop (Int.toNat 0) (List.map eI z14))) (Int.toNat z15) (Nat.min (List.take (Int.toNat (z15 - 0)) (List.drop (Int.toNat 0) (List.map eI z14))).length (Int.toNat (((List.map eI z14).length : Int) - z15)))))), some (oI z15), some (oB (decide (z15 < (z14.length : Int))))], [], 48, 0, []) : List (Option PV) × List (List PC) × Nat × Nat × List Nat) = (([some (oI ((Nat.min (List.take (Int.toNat (z15 - 0)) (List.drop (Int.toNat 0) (List.map eI z14))).length (Int.toNat (((List.map eI z14).length : Int) - z15)) : Nat) : Int)), some (o1 (.al (.t 7 0))), some (oI z15), some (o1 (.vw (.t 7 0) (Int.toNat z15) (Int.toNat (((List.map eI z14).length : Int) - z15)) 1)), some (o1 (.al (.t 7 0))), some (oI z15), some (o1 (.vw (.t 7 0) (Int.toNat 0) (Int.toNat (z15 - 0)) 1)), some (o1 (.own 3 (cpRow (List.map eI z14) (List.take (Int.toNat (z15 - 0)) (List.drop (Int.toNat 0) (List.map eI z14))) (Int.toNat z15) (Nat.min (List.take (Int.toNat (z15 - 0)) (List.drop (Int.toNat 0) (List.map eI z14))).length (Int.toNat (((List.map eI z14).length : Int) - z15)))))), some (oI z15), some (oB (decide (z15 < (z14.length : Int))))], [], 48, 0, []) : List (Option PV) × List (List PC) × Nat × Nat × List Nat)), (show PC.own 3 (cpRow (List.map eI z14) (List.take (Int.toNat (z15 - 0)) (List.drop (Int.toNat 0) (List.map eI z14))) (Int.toNat z15) (Nat.min (List.take (Int.toNat (z15 - 0)) (List.drop (Int.toNat 0) (List.map eI z14))).length (Int.toNat (((List.map eI z14).length : Int) - z15)))) = PC.own 3 (List.map eI (cpRow z14 (List.take (Int.toNat (z15 - 0)) (List.drop (Int.toNat 0) z14)) (Int.toNat z15) (Nat.min (List.take (Int.toNat (z15 - 0)) (List.drop (Int.toNat 0) (List.map eI z14))).length (Int.toNat (((List.map eI z14).length : Int) - z15))))) by simp only [← cpRow_map, List.map_take, List.map_drop]), trivial⟩ ?_
            exact IH19 _ (cpRow z14 (List.take (Int.toNat (z15 - 0)) (List.drop (Int.toNat 0) z14)) (Int.toNat z15) (Nat.min (List.take (Int.toNat (z15 - 0)) (List.drop (Int.toNat 0) (List.map eI z14))).length (Int.toNat (((List.map eI z14).length : Int) - z15))), w64 (z15 + ((Nat.min (List.take (Int.toNat (z15 - 0)) (List.drop (Int.toNat 0) (List.map eI z14))).length (Int.toNat (((List.map eI z14).length : Int) - z15)) : Nat) : Int))) (Nat.le_refl _) h21
          · refine Tri.cond_false (useb (decide_eq_false h16) (by kernel_rfl)) ?_
            refine Tri.fix [7] 0 [] ⟨48, [(7, o1 (.own 3 (List.map eI z14)))], [], 0, []⟩ (by kernel_rfl) ?_
            refine Tri.exit ?_
            repeat (with_reducible refine Ex.exit ?_)
            refine Bk.here ?_
            exact ⟨z14, (Option.some.inj h21).symm, rfl⟩
    · unfold slices_Repeat___int_int.e1 at h6
      rcases ite_some h6 with ⟨h4, h6⟩ | ⟨h4, h6⟩
      · refine Tri.r1 [0, 6, 26] 0 [] [(1, .ov [.sc (.bool true)])] [_] ⟨48, [(0, o1 (.sl 1 (List.map eI a0))), (6, o1 (cK .u64 r2.2)), (26, oB true)], [], 0, []⟩ (by kernel_rfl) ⟨(ovb (decide_eq_true h4)), trivial⟩ ?_
        exact ⟨true, (Option.some.inj h6).symm, rfl⟩
      · refine Tri.r1 [0, 6, 26] 0 [] [(1, .ov [.sc (.bool false)])] [_] ⟨48, [(0, o1 (.sl 1 (List.map eI a0))), (6, o1 (cK .u64 r2.2)), (26, oB (decide ((9223372036854775807 : Int) < r2.2)))], [], 0, []⟩ (by kernel_rfl) ⟨(ovb (decide_eq_false h4)), trivial⟩ ?_
        exact ⟨(decide ((9223372036854775807 : Int) < r2.2)), (Option.some.inj h6).symm, rfl⟩
/-! impl_Ins__stacks: function 252 -/
def impl_Ins__stacks.e1 (k : Nat) (a0 : SIns) : Option Bool := if a0.f0 = 1 then (some (decide (a0.f0 = 1))) else (if a0.f0 = 2 then (some (decide (a0.f0 = 2))) else (some (decide (a0.f0 = 3))))
def impl_Ins__stacks.e2 (k : Nat) (a0 : SIns) : Option Bool := if a0.f0 = 4 then (some (decide (a0.f0 = 4))) else (if a0.f0 = 8 then (some (decide (a0.f0 = 8))) else (if a0.f0 = 9 then (some (decide (a0.f0 = 9))) else (some (decide (a0.f0 = 10)))))
def impl_Ins__stacks.e3 (k : Nat) (a0 : SIns) : Option Bool := if a0.f0 = 6 then (some (decide (a0.f0 = 6))) else (some (decide (a0.f0 = 7)))
def impl_Ins__stacks.e4 (k : Nat) (a0 : SIns) : Option Bool := if a0.f0 = 12 then (some (decide (a0.f0 = 12))) else (if a0.f0 = 15 then (some (decide (a0.f0 = 15))) else (some (decide (a0.f0 = 16))))
def impl_Ins__stacks.f (k : Nat) (a0 : SIns) : Option (Int × Int) := (impl_Ins__stacks.e1 k a0).bind fun y3 => if y3 = true then (some (0, 1)) else ((impl_Ins__stacks.e2 k a0).bind fun y10 => if y10 = true then (some (1, 1)) else (if a0.f0 = 5 then (some (2, 0)) else ((impl_Ins__stacks.e3 k a0).bind fun y16 => if y16 = true then (some (2, 1)) else ((impl_Ins__stacks.e4 k a0).bind fun y22 => if y22 = true then (some (1, 0)) else (if a0.f0 = 13 then (some (a0.f1, a0.f2)) else (if a0.f0 = 14 then (some (a0.f1, 0)) else (some (0, 0))))))))
set_option maxRecDepth 100000 in
theorem impl_Ins__stacks.fn (k : Nat) (a0 : SIns) (r : (Int × Int)) (H : impl_Ins__stacks.f k a0 = some r) : Fn Tryz.prog 252 [ag (eSIns a0)] [] (tp [none, none] [cI r.1, cI r.2]) [] := by
  unfold impl_Ins__stacks.f at H
  refine Fn.body (ts := [2, 3]) Tryz.func252 rfl rfl (by decide) (by decide) (Nat.le_of_ble_eq_true rfl) (Nat.le_refl _) ?_
  refine Tri.rn [1] 1 [] [] [] ⟨34, [(1, o1 (.ref 0 0))], [eSIns a0], 0, []⟩ (by kernel_rfl) trivial ?_
  refine Tri.seq ?_
  refine Tri.rn [1, 5] 1 [] [] [] ⟨34, [(1, o1 (.ref 0 0)), (5, oI a0.f0)], [eSIns a0], 0, []⟩ (by kernel_rfl) trivial ?_
  refine Tri.block ?_
  obtain ⟨v5, h4, H⟩ := bind_some' H
  refine Tri.join (α := Bool) (fun w => v5 = w) (fun y3 => ⟨34, [(1, o1 (.ref 0 0)), (5, oI a0.f0), (6, oB y3)], [eSIns a0], 0, []⟩) (fun y3 hw => ?_) ?_
  · rw [hw] at H; clear hw
    try dsimp only at H
    rcases iteb_some H with ⟨h6, H⟩ | ⟨h6, H⟩
    · refine Tri.cond_true (useb h6 (by kernel_rfl)) ?_
      refine Tri.rn [2, 3] 0 [] [] [] ⟨34, [(2, oI 0), (3, oI 1)], [], 0, []⟩ (by kernel_rfl) trivial ?_
      refine Tri.ret ?_
      obtain rfl := Option.some.inj H
      exact ⟨.inr rfl, rfl, rfl, Nat.le_refl _, rfl, by simp⟩
    · refine Tri.cond_false (useb h6 (by kernel_rfl)) ?_
      obtain ⟨v12, h11, H⟩ := bind_some' H
      refine Tri.join (α := Bool) (fun w => v12 = w) (fun y10 => ⟨34, [(1, o1 (.ref 0 0)), (5, oI a0.f0), (10, oB y10)], [eSIns a0], 0, []⟩) (fun y10 hw => ?_) ?_
      · rw [hw] at H; clear hw
        try dsimp only at H
        rcases iteb_some H with ⟨h13, H⟩ | ⟨h13, H⟩
        · refine Tri.cond_true (useb h13 (by kernel_rfl)) ?_
          refine Tri.rn [2, 3] 0 [] [] [] ⟨34, [(2, oI 1), (3, oI 1)], [], 0, []⟩ (by kernel_rfl) trivial ?_
          refine Tri.ret ?_
          obtain rfl := Option.some.inj H
          exact ⟨.inr rfl, rfl, rfl, Nat.le_refl _, rfl, by simp⟩
        · refine Tri.cond_false (useb h13 (by kernel_rfl)) ?_
          refine Tri.rn [1, 5, 15] 1 [] [] [] ⟨34, [(1, o1 (.ref 0 0)), (5, oI a0.f0), (15, oB (decide (a0.f0 = 5)))], [eSIns a0], 0, []⟩ (by kernel_rfl) trivial ?_
          rcases ite_some H with ⟨h14, H⟩ | ⟨h14, H⟩
          · refine Tri.cond_true (useb (decide_eq_true h14) (by kernel_rfl)) ?_
            refine Tri.rn [2, 3] 0 [] [] [] ⟨34, [(2, oI 2), (3, oI 0)], [], 0, []⟩ (by kernel_rfl) trivial ?_
            refine Tri.ret ?_
            obtain rfl := Option.some.inj H
            exact ⟨.inr rfl, rfl, rfl, Nat.le_refl _, rfl, by simp⟩
          · refine Tri.cond_false (useb (decide_eq_false h14) (by kernel_rfl)) ?_
            obtain ⟨v18, h17, H⟩ := bind_some' H
            refine Tri.join (α := Bool) (fun w => v18 = w) (fun y16 => ⟨34, [(1, o1 (.ref 0 0)), (5, oI a0.f0), (17, oB y16)], [eSIns a0], 0, []⟩) (fun y16 hw => ?_) ?_
            · rw [hw] at H; clear hw
              try dsimp only at H
              rcases iteb_some H with ⟨h19, H⟩ | ⟨h19, H⟩
              · refine Tri.cond_true (useb h19 (by kernel_rfl)) ?_
                refine Tri.rn [2, 3] 0 [] [] [] ⟨34, [(2, oI 2), (3, oI 1)], [], 0, []⟩ (by kernel_rfl) trivial ?_
                refine Tri.ret ?_
                obtain rfl := Option.some.inj H
                exact ⟨.inr rfl, rfl, rfl, Nat.le_refl _, rfl, by simp⟩
              · refine Tri.cond_false (useb h19 (by kernel_rfl)) ?_
                obtain ⟨v24, h23, H⟩ := bind_some' H
                refine Tri.join (α := Bool) (fun w => v24 = w) (fun y22 => ⟨34, [(1, o1 (.ref 0 0)), (5, oI a0.f0), (20, oB y22)], [eSIns a0], 0, []⟩) (fun y22 hw => ?_) ?_
                · rw [hw] at H; clear hw
                  try dsimp only at H
                  rcases iteb_some H with ⟨h25, H⟩ | ⟨h25, H⟩
                  · refine Tri.cond_true (useb h25 (by kernel_rfl)) ?_
                    refine Tri.rn [2, 3] 0 [] [] [] ⟨34, [(2, oI 1), (3, oI 0)], [], 0, []⟩ (by kernel_rfl) trivial ?_
                    refine Tri.ret ?_
                    obtain rfl := Option.some.inj H
                    exact ⟨.inr rfl, rfl, rfl, Nat.le_refl _, rfl, by simp⟩
                  · refine Tri.cond_false (useb h25 (by kernel_rfl)) ?_
                    refine Tri.rn [1, 5, 24] 1 [] [] [] ⟨34, [(1, o1 (.ref 0 0)), (5, oI a0.f0), (24, oB (decide (a0.f0 = 13)))], [eSIns a0], 0, []⟩ (by kernel_rfl) trivial ?_
                    rcases ite_some H with ⟨h26, H⟩ | ⟨h26, H⟩
                    · refine Tri.cond_true (useb (decide_eq_true h26) (by kernel_rfl)) ?_
                      refine Tri.dn hmix 5 [[], [0], [], [2], [0, 1], [0, 1, 2, 3, 4]] [2, 3] 0 [] [] [] ⟨34, [(2, oI a0.f1), (3, oI a0.f2)], [], 0, []⟩ (by kernel_rfl) trivial ?_
                      refine Tri.ret ?_
                      obtain rfl := Option.some.inj H
                      exact ⟨.inr rfl, rfl, rfl, Nat.le_refl _, rfl, by simp⟩
                    · refine Tri.cond_false (useb (decide_eq_false h26) (by kernel_rfl)) ?_
                      refine Tri.rn [1, 30] 1 [] [] [] ⟨34, [(1, o1 (.ref 0 0)), (30, oB (decide (a0.f0 = 14)))], [eSIns a0], 0, []⟩ (by kernel_rfl) trivial ?_
                      rcases ite_some H with ⟨h27, H⟩ | ⟨h27, H⟩
                      · refine Tri.cond_true (useb (decide_eq_true h27) (by kernel_rfl)) ?_
                        refine Tri.rn [2, 3] 0 [] [] [] ⟨34, [(2, oI a0.f1), (3, oI 0)], [], 0, []⟩ (by kernel_rfl) trivial ?_
                        refine Tri.ret ?_
                        obtain rfl := Option.some.inj H
                        exact ⟨.inr rfl, rfl, rfl, Nat.le_refl _, rfl, by simp⟩
                      · refine Tri.cond_false (useb (decide_eq_false h27) (by kernel_rfl)) ?_
                        refine Tri.skip ?_
                        refine Tri.rn [2, 3] 0 [] [] [] ⟨34, [(2, oI 0), (3, oI 0)], [], 0, []⟩ (by kernel_rfl) trivial ?_
                        refine Tri.ret ?_
                        obtain rfl := Option.some.inj H
                        exact ⟨.inr rfl, rfl, rfl, Nat.le_refl _, rfl, by simp⟩
                · unfold impl_Ins__stacks.e4 at h23
                  refine Tri.rn [1, 5, 20] 1 [] [] [] ⟨34, [(1, o1 (.ref 0 0)), (5, oI a0.f0), (20, oB (decide (a0.f0 = 12)))], [eSIns a0], 0, []⟩ (by kernel_rfl) trivial ?_
                  rcases ite_some h23 with ⟨h20, h23⟩ | ⟨h20, h23⟩
                  · refine Tri.cond_true (useb (decide_eq_true h20) (by kernel_rfl)) ?_
                    refine Tri.skip ?_
                    exact ⟨(decide (a0.f0 = 12)), (Option.some.inj h23).symm, rfl⟩
                  · refine Tri.cond_false (useb (decide_eq_false h20) (by kernel_rfl)) ?_
                    refine Tri.rn [1, 5, 20] 1 [] [] [] ⟨34, [(1, o1 (.ref 0 0)), (5, oI a0.f0), (20, oB (decide (a0.f0 = 15)))], [eSIns a0], 0, []⟩ (by kernel_rfl) trivial ?_
                    rcases ite_some h23 with ⟨h21, h23⟩ | ⟨h21, h23⟩
                    · refine Tri.cond_true (useb (decide_eq_true h21) (by kernel_rfl)) ?_
                      refine Tri.skip ?_
                      exact ⟨(decide (a0.f0 = 15)), (Option.some.inj h23).symm, rfl⟩
                    · refine Tri.cond_false (useb (decide_eq_false h21) (by kernel_rfl)) ?_
                      refine Tri.r1 [1, 5, 20] 1 [] [] [] ⟨34, [(1, o1 (.ref 0 0)), (5, oI a0.f0), (20, oB (decide (a0.f0 = 16)))], [eSIns a0], 0, []⟩ (by kernel_rfl) trivial ?_
                      exact ⟨(decide (a0.f0 = 16)), (Option.some.inj h23).symm, rfl⟩
            · unfold impl_Ins__stacks.e3 at h17
              refine Tri.rn [1, 5, 17] 1 [] [] [] ⟨34, [(1, o1 (.ref 0 0)), (5, oI a0.f0), (17, oB (decide (a0.f0 = 6)))], [eSIns a0], 0, []⟩ (by kernel_rfl) trivial ?_
              rcases ite_some h17 with ⟨h15, h17⟩ | ⟨h15, h17⟩
              · refine Tri.cond_true (useb (decide_eq_true h15) (by kernel_rfl)) ?_
                refine Tri.skip ?_
                exact ⟨(decide (a0.f0 = 6)), (Option.some.inj h17).symm, rfl⟩
              · refine Tri.cond_false (useb (decide_eq_false h15) (by kernel_rfl)) ?_
                refine Tri.r1 [1, 5, 17] 1 [] [] [] ⟨34, [(1, o1 (.ref 0 0)), (5, oI a0.f0), (17, oB (decide (a0.f0 = 7)))], [eSIns a0], 0, []⟩ (by kernel_rfl) trivial ?_
                exact ⟨(decide (a0.f0 = 7)), (Option.some.inj h17).symm, rfl⟩
      · unfold impl_Ins__stacks.e2 at h11
        refine Tri.rn [1, 5, 10] 1 [] [] [] ⟨34, [(1, o1 (.ref 0 0)), (5, oI a0.f0), (10, oB (decide (a0.f0 = 4)))], [eSIns a0], 0, []⟩ (by kernel_rfl) trivial ?_
        rcases ite_some h11 with ⟨h7, h11⟩ | ⟨h7, h11⟩
        · refine Tri.cond_true (useb (decide_eq_true h7) (by kernel_rfl)) ?_
          refine Tri.skip ?_
          exact ⟨(decide (a0.f0 = 4)), (Option.some.inj h11).symm, rfl⟩
        · refine Tri.cond_false (useb (decide_eq_false h7) (by kernel_rfl)) ?_
          refine Tri.rn [1, 5, 10] 1 [] [] [] ⟨34, [(1, o1 (.ref 0 0)), (5, oI a0.f0), (10, oB (decide (a0.f0 = 8)))], [eSIns a0], 0, []⟩ (by kernel_rfl) trivial ?_
          rcases ite_some h11 with ⟨h8, h11⟩ | ⟨h8, h11⟩
          · refine Tri.cond_true (useb (decide_eq_true h8) (by kernel_rfl)) ?_
            refine Tri.skip ?_
            exact ⟨(decide (a0.f0 = 8)), (Option.some.inj h11).symm, rfl⟩
          · refine Tri.cond_false (useb (decide_eq_false h8) (by kernel_rfl)) ?_
            refine Tri.rn [1, 5, 10] 1 [] [] [] ⟨34, [(1, o1 (.ref 0 0)), (5, oI a0.f0), (10, oB (decide (a0.f0 = 9)))], [eSIns a0], 0, []⟩ (by kernel_rfl) trivial ?_
            rcases ite_some h11 with ⟨h9, h11⟩ | ⟨h9, h11⟩
            · refine Tri.cond_true (useb (decide_eq_true h9) (by kernel_rfl)) ?_
              refine Tri.skip ?_
              exact ⟨(decide (a0.f0 = 9)), (Option.some.inj h11).symm, rfl⟩
            · refine Tri.cond_false (useb (decide_eq_false h9) (by kernel_rfl)) ?_
              refine Tri.r1 [1, 5, 10] 1 [] [] [] ⟨34, [(1, o1 (.ref 0 0)), (5, oI a0.f0), (10, oB (decide (a0.f0 = 10)))], [eSIns a0], 0, []⟩ (by kernel_rfl) trivial ?_
              exact ⟨(decide (a0.f0 = 10)), (Option.some.inj h11).symm, rfl⟩
  · unfold impl_Ins__stacks.e1 at h4
    refine Tri.rn [1, 5, 6] 1 [] [] [] ⟨34, [(1, o1 (.ref 0 0)), (5, oI a0.f0), (6, oB (decide (a0.f0 = 1)))], [eSIns a0], 0, []⟩ (by kernel_rfl) trivial ?_
    rcases ite_some h4 with ⟨h1, h4⟩ | ⟨h1, h4⟩
    · refine Tri.cond_true (useb (decide_eq_true h1) (by kernel_rfl)) ?_
      refine Tri.skip ?_
      exact ⟨(decide (a0.f0 = 1)), (Option.some.inj h4).symm, rfl⟩
    · refine Tri.cond_false (useb (decide_eq_false h1) (by kernel_rfl)) ?_
      refine Tri.rn [1, 5, 6] 1 [] [] [] ⟨34, [(1, o1 (.ref 0 0)), (5, oI a0.f0), (6, oB (decide (a0.f0 = 2)))], [eSIns a0], 0, []⟩ (by kernel_rfl) trivial ?_
      rcases ite_some h4 with ⟨h2, h4⟩ | ⟨h2, h4⟩
      · refine Tri.cond_true (useb (decide_eq_true h2) (by kernel_rfl)) ?_
        refine Tri.skip ?_
        exact ⟨(decide (a0.f0 = 2)), (Option.some.inj h4).symm, rfl⟩
      · refine Tri.cond_false (useb (decide_eq_false h2) (by kernel_rfl)) ?_
        refine Tri.r1 [1, 5, 6] 1 [] [] [] ⟨34, [(1, o1 (.ref 0 0)), (5, oI a0.f0), (6, oB (decide (a0.f0 = 3)))], [eSIns a0], 0, []⟩ (by kernel_rfl) trivial ?_
        exact ⟨(decide (a0.f0 = 3)), (Option.some.inj h4).symm, rfl⟩
/-! impl_Ins__follows: function 253 -/
def impl_Ins__follows.e1 (k : Nat) (a0 : SIns) : Option Bool := if a0.f0 = 14 then (some (decide (a0.f0 = 14))) else (some (decide (a0.f0 = 17)))
def impl_Ins__follows.f (k : Nat) (a0 : SIns) (a1 : Int) : Option (List Int) := if a0.f0 = 11 then (some ([a0.f1] : List Int)) else (if a0.f0 = 12 then (some ([a0.f1, w64 (a1 + 1)] : List Int)) else ((impl_Ins__follows.e1 k a0).bind fun y4 => if y4 = true then (some ([] : List Int)) else (some ([w64 (a1 + 1)] : List Int))))
set_option maxRecDepth 100000 in
theorem impl_Ins__follows.fn (k : Nat) (a0 : SIns) (a1 : Int) (r : (List Int)) (H : impl_Ins__follows.f k a0 a1 = some r) : Fn Tryz.prog 253 [ag (eSIns a0), oI a1] [] (o1 (.own 3 (List.map eI r))) [] := by
  unfold impl_Ins__follows.f at H
  refine Fn.body (ts := [4]) Tryz.func253 rfl rfl (by decide) (by decide) (Nat.le_of_ble_eq_true rfl) (Nat.le_refl _) ?_
  refine Tri.rn [1, 2] 1 [] [] [] ⟨25, [(1, oI a1), (2, o1 (.ref 0 0))], [eSIns a0], 0, []⟩ (by kernel_rfl) trivial ?_
  refine Tri.seq ?_
  refine Tri.rn [1, 2, 6] 1 [] [] [] ⟨25, [(1, oI a1), (2, o1 (.ref 0 0)), (6, oI a0.f0)], [eSIns a0], 0, []⟩ (by kernel_rfl) trivial ?_
  refine Tri.block ?_
  refine Tri.rn [1, 2, 6, 7] 1 [] [] [] ⟨25, [(1, oI a1), (2, o1 (.ref 0 0)), (6, oI a0.f0), (7, oB (decide (a0.f0 = 11)))], [eSIns a0], 0, []⟩ (by kernel_rfl) trivial ?_
  rcases ite_some H with ⟨h1, H⟩ | ⟨h1, H⟩
  · refine Tri.cond_true (useb (decide_eq_true h1) (by kernel_rfl)) ?_
    refine Tri.rn [4] 0 [] [] [] ⟨25, [(4, o1 (.own 3 (List.map eI ([a0.f1] : List Int))))], [], 0, []⟩ (by kernel_rfl) trivial ?_
    refine Tri.ret ?_
    obtain rfl := Option.some.inj H
    exact ⟨.inr rfl, rfl, rfl, Nat.le_refl _, rfl, by simp⟩
  · refine Tri.cond_false (useb (decide_eq_false h1) (by kernel_rfl)) ?_
    refine Tri.rn [1, 2, 6, 12] 1 [] [] [] ⟨25, [(1, oI a1), (2, o1 (.ref 0 0)), (6, oI a0.f0), (12, oB (decide (a0.f0 = 12)))], [eSIns a0], 0, []⟩ (by kernel_rfl) trivial ?_
    rcases ite_some H with ⟨h2, H⟩ | ⟨h2, H⟩
    · refine Tri.cond_true (useb (decide_eq_true h2) (by kernel_rfl)) ?_
      refine Tri.rn [4] 0 [] [] [] ⟨25, [(4, o1 (.own 3 (List.map eI ([a0.f1, w64 (a1 + 1)] : List Int))))], [], 0, []⟩ (by kernel_rfl) trivial ?_
      refine Tri.ret ?_
      obtain rfl := Option.some.inj H
      exact ⟨.inr rfl, rfl, rfl, Nat.le_refl _, rfl, by simp⟩
    · refine Tri.cond_false (useb (decide_eq_false h2) (by kernel_rfl)) ?_
      obtain ⟨v6, h5, H⟩ := bind_some' H
      refine Tri.join (α := Bool) (fun w => v6 = w) (fun y4 => ⟨25, [(1, oI a1), (19, oB y4)], [], 0, []⟩) (fun y4 hw => ?_) ?_
      · rw [hw] at H; clear hw
        try dsimp only at H
        rcases iteb_some H with ⟨h7, H⟩ | ⟨h7, H⟩
        · refine Tri.cond_true (useb h7 (by kernel_rfl)) ?_
          refine Tri.rn [4] 0 [] [] [] ⟨25, [(4, o1 .nl)], [], 0, []⟩ (by kernel_rfl) trivial ?_
          refine Tri.fix [4] 0 [.own (.t 4 0) 3] ⟨25, [(4, o1 (.own 3 (List.map eI ([] : List Int))))], [], 0, []⟩ (by kernel_rfl) ?_
          refine Tri.ret ?_
          obtain rfl := Option.some.inj H
          exact ⟨.inr rfl, rfl, rfl, Nat.le_refl _, rfl, by simp⟩
        · refine Tri.cond_false (useb h7 (by kernel_rfl)) ?_
          refine Tri.skip ?_
          refine Tri.rn [4] 0 [] [] [] ⟨25, [(4, o1 (.own 3 (List.map eI ([w64 (a1 + 1)] : List Int))))], [], 0, []⟩ (by kernel_rfl) trivial ?_
          refine Tri.ret ?_
          obtain rfl := Option.some.inj H
          exact ⟨.inr rfl, rfl, rfl, Nat.le_refl _, rfl, by simp⟩
      · unfold impl_Ins__follows.e1 at h5
        refine Tri.rn [1, 6, 19] 0 [] [] [] ⟨25, [(1, oI a1), (6, oI a0.f0), (19, oB (decide (a0.f0 = 14)))], [], 0, []⟩ (by kernel_rfl) trivial ?_
        rcases ite_some h5 with ⟨h3, h5⟩ | ⟨h3, h5⟩
        · refine Tri.cond_true (useb (decide_eq_true h3) (by kernel_rfl)) ?_
          refine Tri.fix [1, 19] 0 [] ⟨25, [(1, oI a1), (19, oB (decide (a0.f0 = 14)))], [], 0, []⟩ (by kernel_rfl) ?_
          refine Tri.skip ?_
          exact ⟨(decide (a0.f0 = 14)), (Option.some.inj h5).symm, rfl⟩
        · refine Tri.cond_false (useb (decide_eq_false h3) (by kernel_rfl)) ?_
          refine Tri.r1 [1, 19] 0 [] [] [] ⟨25, [(1, oI a1), (19, oB (decide (a0.f0 = 17)))], [], 0, []⟩ (by kernel_rfl) trivial ?_
          exact ⟨(decide (a0.f0 = 17)), (Option.some.inj h5).symm, rfl⟩
/-! impl_Code__reach_1: function 231 -/
def impl_Code__reach_1.e1 (k : Nat) (x1 : SIns) (r3 : (Int × Int)) (x5 : Int) : Option Bool := if x1.f0 = 14 then (some (decide ((0 : Int) < (w64 ((w64 (x5 - r3.1)) + r3.2))))) else (some false)
def impl_Code__reach_1.e2 (k : Nat) (a0 : SCode) (r3 : (Int × Int)) (x5 : Int) (r14 : (List Int)) (z28 : (List Int)) (z29 : Bool) (z30 : Int) : Option ((Bool × Int × (List Int)) ⊕ ((List Int) × Bool)) := (at? r14 z30).bind fun x32 => if x32 = (a0.f4.length : Int) then (some (.inl (false, 10, z28))) else ((at? z28 x32).bind fun x35 => if x35 = (-1) then (some (.inr (z28.set (Int.toNat x32) (w64 ((w64 (x5 - r3.1)) + r3.2)), true))) else (if x35 = (w64 ((w64 (x5 - r3.1)) + r3.2)) then (some (.inr (z28, z29))) else (some (.inl (false, 8, z28)))))
def impl_Code__reach_1.l3 : Nat → SCode → (Int × Int) → Int → (List Int) → (List Int) → Bool → Int → Option ((Bool × Int × (List Int)) ⊕ ((List Int) × Bool))
  | 0, _, _, _, _, _, _, _ => none
  | k + 1, a0, r3, x5, r14, z28, z29, z30 => if z30 < (r14.length : Int) then ((impl_Code__reach_1.e2 k a0 r3 x5 r14 z28 z29 z30).bind fun v => match v with | .inl r => some (.inl r) | .inr (y39, y40) => impl_Code__reach_1.l3 k a0 r3 x5 r14 y39 y40 (w64 (z30 + 1))) else (some (.inr (z28, z29)))
def impl_Code__reach_1.e4 (k : Nat) (a0 : SCode) (a1_1 : (List Int)) (a2 : Int) (x1 : SIns) (r3 : (Int × Int)) (x5 : Int) : Option ((Bool × Int × (List Int)) ⊕ ((List Int) × Bool)) := (impl_Ins__follows.f k x1 a2).bind fun r14 => impl_Code__reach_1.l3 k a0 r3 x5 r14 a1_1 false 0
def impl_Code__reach_1.f (k : Nat) (a0 : SCode) (a1_1 : (List Int)) (a2 : Int) : Option (Bool × Int × (List Int)) := (at? a0.f4 a2).bind fun x1 => (impl_Ins__stacks.f k x1).bind fun r3 => (at? a1_1 a2).bind fun x5 => if (w64 (x5 - r3.1)) < 0 then (some (false, 11, a1_1)) else (if (60 : Int) < (w64 ((w64 (x5 - r3.1)) + r3.2)) then (some (false, 14, a1_1)) else ((impl_Code__reach_1.e1 k x1 r3 x5).bind fun y10 => if y10 = true then (some (false, 8, a1_1)) else ((impl_Code__reach_1.e4 k a0 a1_1 a2 x1 r3 x5).bind fun v => match v with | .inl r => some r | .inr (y44, y45) => some (y45, 0, y44))))
set_option maxRecDepth 100000 in
theorem impl_Code__reach_1.fn (k : Nat) (a0 : SCode) (a1_1 : (List Int)) (a2 : Int) (r : (Bool × Int × (List Int))) (H : impl_Code__reach_1.f k a0 a1_1 a2 = some r) : FnG Tryz.prog 231 [ag (eSCode a0), o1 (.own 3 (List.map eI a1_1)), oI a2] [1] [] (tp [none, none] [cB r.1, cI r.2.1]) [.own 3 (List.map eI r.2.2)] [] := by
  unfold impl_Code__reach_1.f at H
  refine FnG.body (ts := [6, 7]) Tryz.func231 rfl rfl (by decide) (by decide) (Nat.le_of_ble_eq_true rfl) rfl (Nat.le_of_ble_eq_true rfl) ?_
  refine Tri.rn [1, 2, 3] 1 [] [] [] ⟨80, [(1, o1 (.own 3 (List.map eI a1_1))), (2, oI a2), (3, o1 (.ref 0 0))], [eSCode a0], 0, [1]⟩ (by kernel_rfl) trivial ?_
  obtain ⟨x1, h2, H⟩ := bind_some' H
  refine Tri.rn [1, 2, 3, 8] 2 [] [(3, .el (eSIns x1))] [_, _] ⟨80, [(1, o1 (.own 3 (List.map eI a1_1))), (2, oI a2), (3, o1 (.ref 0 0)), (8, o1 (.ref 1 0))], [eSCode a0, eSIns x1], 0, [1]⟩ (by kernel_rfl) ⟨(at?_0 h2), (at?_map (f := eSIns) h2), trivial⟩ ?_
  obtain ⟨r3, h4, H⟩ := bind_some' H
  refine Tri.rn [1, 2, 3, 8, 9, 10] 2 [] [(1, .call (tp [none, none] [cI r3.1, cI r3.2]) [] false)] [_, _] ⟨80, [(1, o1 (.own 3 (List.map eI a1_1))), (2, oI a2), (3, o1 (.ref 0 0)), (8, o1 (.ref 1 0)), (9, oI r3.1), (10, oI r3.2)], [eSCode a0, eSIns x1], 0, [1]⟩ (by kernel_rfl) ⟨(impl_Ins__stacks.fn k x1 r3 h4), (show (List.all [cI r3.1, cI r3.2] PC.flatB) = true from rfl), trivial⟩ ?_
  obtain ⟨x5, h6, H⟩ := bind_some' H
  refine Tri.rn [1, 2, 3, 8, 10, 11] 2 [] [(2, .el (eI x5)), (3, .el (eI x5))] [_, _, _] ⟨80, [(1, o1 (.own 3 (List.map eI a1_1))), (2, oI a2), (3, o1 (.ref 0 0)), (8, o1 (.ref 1 0)), (10, oI r3.2), (11, oI (w64 (x5 - r3.1)))], [eSCode a0, eSIns x1], 0, [1]⟩ (by kernel_rfl) ⟨(at?_0 h6), (at?_map (f := eI) h6), (at?_map (f := eI) h6), trivial⟩ ?_
  refine Tri.seq ?_
  refine Tri.rn [1, 2, 3, 8, 10, 11, 32] 2 [] [] [] ⟨80, [(1, o1 (.own 3 (List.map eI a1_1))), (2, oI a2), (3, o1 (.ref 0 0)), (8, o1 (.ref 1 0)), (10, oI r3.2), (11, oI (w64 (x5 - r3.1))), (32, oB (decide ((w64 (x5 - r3.1)) < 0)))], [eSCode a0, eSIns x1], 0, [1]⟩ (by kernel_rfl) trivial ?_
  rcases ite_some H with ⟨h7, H⟩ | ⟨h7, H⟩
  · refine Tri.cond_true (useb (decide_eq_true h7) (by kernel_rfl)) ?_
    refine Tri.rn [1, 6, 7] 0 [] [] [] ⟨80, [(1, o1 (.own 3 (List.map eI a1_1))), (6, oB false), (7, oI 11)], [], 0, [1]⟩ (by kernel_rfl) trivial ?_
    refine Tri.ret ?_
    obtain rfl := Option.some.inj H
    exact endsG (.inr rfl) (by kernel_rfl)
  · refine Tri.cond_false (useb (decide_eq_false h7) (by kernel_rfl)) ?_
    refine Tri.skip ?_
    refine Tri.rn [1, 2, 3, 8, 11] 2 [] [] [] ⟨80, [(1, o1 (.own 3 (List.map eI a1_1))), (2, oI a2), (3, o1 (.ref 0 0)), (8, o1 (.ref 1 0)), (11, oI (w64 ((w64 (x5 - r3.1)) + r3.2)))], [eSCode a0, eSIns x1], 0, [1]⟩ (by kernel_rfl) trivial ?_
    refine Tri.seq ?_
    refine Tri.block ?_
    refine Tri.rn [1, 2, 3, 8, 11, 36] 2 [] [] [] ⟨80, [(1, o1 (.own 3 (List.map eI a1_1))), (2, oI a2), (3, o1 (.ref 0 0)), (8, o1 (.ref 1 0)), (11, oI (w64 ((w64 (x5 - r3.1)) + r3.2))), (36, oB (decide ((60 : Int) < (w64 ((w64 (x5 - r3.1)) + r3.2)))))], [eSCode a0, eSIns x1], 0, [1]⟩ (by kernel_rfl) trivial ?_
    rcases ite_some H with ⟨h8, H⟩ | ⟨h8, H⟩
    · refine Tri.cond_true (useb (decide_eq_true h8) (by kernel_rfl)) ?_
      refine Tri.rn [1, 6, 7] 0 [] [] [] ⟨80, [(1, o1 (.own 3 (List.map eI a1_1))), (6, oB false), (7, oI 14)], [], 0, [1]⟩ (by kernel_rfl) trivial ?_
      refine Tri.ret ?_
      obtain rfl := Option.some.inj H
      exact endsG (.inr rfl) (by kernel_rfl)
    · refine Tri.cond_false (useb (decide_eq_false h8) (by kernel_rfl)) ?_
      obtain ⟨v12, h11, H⟩ := bind_some' H
      refine Tri.join (α := Bool) (fun w => v12 = w) (fun y10 => ⟨80, [(1, o1 (.own 3 (List.map eI a1_1))), (2, oI a2), (3, o1 (.ref 0 0)), (8, o1 (.ref 1 0)), (11, oI (w64 ((w64 (x5 - r3.1)) + r3.2))), (39, oB y10)], [eSCode a0, eSIns x1], 0, [1]⟩) (fun y10 hw => ?_) ?_
      · rw [hw] at H; clear hw
        try dsimp only at H
        rcases iteb_some H with ⟨h13, H⟩ | ⟨h13, H⟩
        · refine Tri.cond_true (useb h13 (by kernel_rfl)) ?_
          refine Tri.rn [1, 6, 7] 0 [] [] [] ⟨80, [(1, o1 (.own 3 (List.map eI a1_1))), (6, oB false), (7, oI 8)], [], 0, [1]⟩ (by kernel_rfl) trivial ?_
          refine Tri.ret ?_
          obtain rfl := Option.some.inj H
          exact endsG (.inr rfl) (by kernel_rfl)
        · refine Tri.cond_false (useb h13 (by kernel_rfl)) ?_
          refine Tri.skip ?_
          refine Tri.rn [1, 2, 3, 8, 11, 12] 2 [] [] [] ⟨80, [(1, o1 (.own 3 (List.map eI a1_1))), (2, oI a2), (3, o1 (.ref 0 0)), (8, o1 (.ref 1 0)), (11, oI (w64 ((w64 (x5 - r3.1)) + r3.2))), (12, oB false)], [eSCode a0, eSIns x1], 0, [1]⟩ (by kernel_rfl) trivial ?_
          obtain ⟨v47, h46, H⟩ := bind_some' H
          refine Tri.join (α := ((List Int) × Bool)) (fun w => v47 = .inr w) (fun w => ⟨80, [(1, o1 (.own 3 (List.map eI w.1))), (12, oB w.2)], [], 0, [1]⟩) (fun w hw => ?_) ?_
          · rw [hw] at H; clear hw
            obtain ⟨y44, y45⟩ := w
            try dsimp only at H
            refine Tri.rn [1, 6, 7] 0 [] [] [] ⟨80, [(1, o1 (.own 3 (List.map eI y44))), (6, oB y45), (7, oI 0)], [], 0, [1]⟩ (by kernel_rfl) trivial ?_
            refine Tri.ret ?_
            obtain rfl := Option.some.inj H
            exact endsG (.inr rfl) (by kernel_rfl)
          · unfold impl_Code__reach_1.e4 at h46
            obtain ⟨r14, h15, h46⟩ := bind_some' h46
            refine Tri.rn [1, 3, 11, 12, 49, 50, 51] 1 [] [(2, .call (o1 (.own 3 (List.map eI r14))) [] false), (3, .ov [.sc (.int .i64 (r14.length : Int))])] [_, _, _] ⟨80, [(1, o1 (.own 3 (List.map eI a1_1))), (3, o1 (.ref 0 0)), (11, oI (w64 ((w64 (x5 - r3.1)) + r3.2))), (12, oB false), (49, o1 (.own 3 (List.map eI r14))), (50, oI (r14.length : Int)), (51, oI 0)], [eSCode a0], 0, [1]⟩ (by kernel_rfl) ⟨(impl_Ins__follows.fn k x1 a2 r14 h15), (show (List.all [.own 3 (List.map eI r14)] PC.flatB) = true by simp [PC.flatB, PC.scalar, cI, cK, cB, cS, eI]), (ovlen (f := eI) (l := r14)), trivial⟩ ?_
            refine Tri.block ?_
            refine Tri.loop k (TriR.ind (α := ((List Int) × Bool × Int)) (fun k x => impl_Code__reach_1.l3 k a0 r3 x5 r14 x.1 x.2.1 x.2.2) (fun x => ⟨80, [(1, o1 (.own 3 (List.map eI x.1))), (3, o1 (.ref 0 0)), (11, oI (w64 ((w64 (x5 - r3.1)) + r3.2))), (12, oB x.2.1), (49, o1 (.own 3 (List.map eI r14))), (50, oI (r14.length : Int)), (51, oI x.2.2)], [eSCode a0], 0, [1]⟩) (fun _ => rfl) (fun k x h46 IH43 => ?_) k (a1_1, false, 0) h46)
            obtain ⟨z28, z29, z30⟩ := x
            rw [impl_Code__reach_1.l3.eq_2] at h46
            refine Tri.rn [1, 3, 11, 12, 49, 50, 51, 52] 1 [] [] [] ⟨80, [(1, o1 (.own 3 (List.map eI z28))), (3, o1 (.ref 0 0)), (11, oI (w64 ((w64 (x5 - r3.1)) + r3.2))), (12, oB z29), (49, o1 (.own 3 (List.map eI r14))), (50, oI (r14.length : Int)), (51, oI z30), (52, oB (decide (z30 < (r14.length : Int))))], [eSCode a0], 0, [1]⟩ (by kernel_rfl) trivial ?_
            refine Tri.seq ?_
            rcases ite_some h46 with ⟨h31, h46⟩ | ⟨h31, h46⟩
            · refine Tri.cond_true (useb (decide_eq_true h31) (by kernel_rfl)) ?_
              refine Tri.skip ?_
              obtain ⟨v42, h41, h46⟩ := bind_some' h46
              refine Tri.join (α := ((List Int) × Bool)) (fun w => v42 = .inr w) (fun w => ⟨80, [(1, o1 (.own 3 (List.map eI w.1))), (3, o1 (.ref 0 0)), (11, oI (w64 ((w64 (x5 - r3.1)) + r3.2))), (12, oB w.2), (49, o1 (.own 3 (List.map eI r14))), (50, oI (r14.length : Int)), (51, oI z30)], [eSCode a0], 0, [1]⟩) (fun w hw => ?_) ?_
              · rw [hw] at h46; clear hw
                obtain ⟨y39, y40⟩ := w
                try dsimp only at h46
                refine Tri.r1 [1, 3, 11, 12, 49, 50, 51] 1 [] [] [] ⟨80, [(1, o1 (.own 3 (List.map eI y39))), (3, o1 (.ref 0 0)), (11, oI (w64 ((w64 (x5 - r3.1)) + r3.2))), (12, oB y40), (49, o1 (.own 3 (List.map eI r14))), (50, oI (r14.length : Int)), (51, oI (w64 (z30 + 1)))], [eSCode a0], 0, [1]⟩ (by kernel_rfl) trivial ?_
                exact IH43 _ (y39, y40, w64 (z30 + 1)) (Nat.le_refl _) h46
              · unfold impl_Code__reach_1.e2 at h41
                refine Tri.block ?_
                obtain ⟨x32, h33, h41⟩ := bind_some' h41
                refine Tri.rn [1, 3, 11, 12, 14, 49, 50, 51] 1 [] [(0, .el (eI x32)), (1, .el (eI x32))] [_, _, _] ⟨80, [(1, o1 (.own 3 (List.map eI z28))), (3, o1 (.ref 0 0)), (11, oI (w64 ((w64 (x5 - r3.1)) + r3.2))), (12, oB z29), (14, oI x32), (49, o1 (.own 3 (List.map eI r14))), (50, oI (r14.length : Int)), (51, oI z30)], [eSCode a0], 0, [1]⟩ (by kernel_rfl) ⟨(at?_0 h33), (at?_map (f := eI) h33), (at?_map (f := eI) h33), trivial⟩ ?_
                refine Tri.block ?_
                refine Tri.rn [1, 3, 11, 12, 14, 49, 50, 51, 55] 1 [] [(3, .ov [.sc (.int .i64 (a0.f4.length : Int))])] [_] ⟨80, [(1, o1 (.own 3 (List.map eI z28))), (3, o1 (.ref 0 0)), (11, oI (w64 ((w64 (x5 - r3.1)) + r3.2))), (12, oB z29), (14, oI x32), (49, o1 (.own 3 (List.map eI r14))), (50, oI (r14.length : Int)), (51, oI z30), (55, oB (decide (x32 = (a0.f4.length : Int))))], [eSCode a0], 0, [1]⟩ (by kernel_rfl) ⟨(ovlen (f := eSIns) (l := a0.f4)), trivial⟩ ?_
                rcases ite_some h41 with ⟨h34, h41⟩ | ⟨h34, h41⟩
                · refine Tri.cond_true (useb (decide_eq_true h34) (by kernel_rfl)) ?_
                  refine Tri.rn [1, 6, 7] 0 [] [] [] ⟨80, [(1, o1 (.own 3 (List.map eI z28))), (6, oB false), (7, oI 10)], [], 0, [1]⟩ (by kernel_rfl) trivial ?_
                  refine Tri.ret ?_
                  obtain rfl := Option.some.inj h41
                  try dsimp only at h46
                  obtain rfl := Option.some.inj h46
                  try dsimp only at H
                  obtain rfl := Option.some.inj H
                  exact endsG (.inr rfl) (by kernel_rfl)
                · refine Tri.cond_false (useb (decide_eq_false h34) (by kernel_rfl)) ?_
                  obtain ⟨x35, h36, h41⟩ := bind_some' h41
                  refine Tri.rn [1, 3, 11, 12, 14, 49, 50, 51, 61] 1 [] [(2, .el (eI x35)), (3, .el (eI x35))] [_, _, _] ⟨80, [(1, o1 (.own 3 (List.map eI z28))), (3, o1 (.ref 0 0)), (11, oI (w64 ((w64 (x5 - r3.1)) + r3.2))), (12, oB z29), (14, oI x32), (49, o1 (.own 3 (List.map eI r14))), (50, oI (r14.length : Int)), (51, oI z30), (61, oB (decide (x35 = (-1))))], [eSCode a0], 0, [1]⟩ (by kernel_rfl) ⟨(at?_0 h36), (at?_map (f := eI) h36), (at?_map (f := eI) h36), trivial⟩ ?_
                  rcases ite_some h41 with ⟨h37, h41⟩ | ⟨h37, h41⟩
                  · refine Tri.cond_true (useb (decide_eq_true h37) (by kernel_rfl)) ?_
                    refine Tri.rn [1, 3, 11, 49, 50, 51] 1 [] [(3, .el (eI x35)), (4, .el (eI x35)), (4, .ovp (.t 1 0) (.own 3 (List.map eI (z28.set (Int.toNat x32) (w64 ((w64 (x5 - r3.1)) + r3.2))))))] [_, _, _, _] ⟨80, [(1, o1 (.own 3 (List.map eI (z28.set (Int.toNat x32) (w64 ((w64 (x5 - r3.1)) + r3.2)))))), (3, o1 (.ref 0 0)), (11, oI (w64 ((w64 (x5 - r3.1)) + r3.2))), (49, o1 (.own 3 (List.map eI r14))), (50, oI (r14.length : Int)), (51, oI z30)], [eSCode a0], 0, [1]⟩ (by kernel_rfl) ⟨(at?_0 h36), (at?_map (f := eI) h36), (at?_map (f := eI) h36), (ovset (e := 3) (f := eI) (l := z28) (v := w64 ((w64 (x5 - r3.1)) + r3.2)) (i := Int.toNat x32)), trivial⟩ ?_
                    refine Tri.r1 [1, 3, 11, 12, 49, 50, 51] 1 [] [] [] ⟨80, [(1, o1 (.own 3 (List.map eI (z28.set (Int.toNat x32) (w64 ((w64 (x5 - r3.1)) + r3.2)))))), (3, o1 (.ref 0 0)), (11, oI (w64 ((w64 (x5 - r3.1)) + r3.2))), (12, oB true), (49, o1 (.own 3 (List.map eI r14))), (50, oI (r14.length : Int)), (51, oI z30)], [eSCode a0], 0, [1]⟩ (by kernel_rfl) trivial ?_
                    exact ⟨(z28.set (Int.toNat x32) (w64 ((w64 (x5 - r3.1)) + r3.2)), true), (Option.some.inj h41).symm, rfl⟩
                  · refine Tri.cond_false (useb (decide_eq_false h37) (by kernel_rfl)) ?_
                    refine Tri.rn [1, 3, 11, 12, 49, 50, 51, 71] 1 [] [(2, .el (eI x35)), (3, .el (eI x35))] [_, _, _] ⟨80, [(1, o1 (.own 3 (List.map eI z28))), (3, o1 (.ref 0 0)), (11, oI (w64 ((w64 (x5 - r3.1)) + r3.2))), (12, oB z29), (49, o1 (.own 3 (List.map eI r14))), (50, oI (r14.length : Int)), (51, oI z30), (71, oB (!(decide (x35 = (w64 ((w64 (x5 - r3.1)) + r3.2))))))], [eSCode a0], 0, [1]⟩ (by kernel_rfl) ⟨(at?_0 h36), (at?_map (f := eI) h36), (at?_map (f := eI) h36), trivial⟩ ?_
                    rcases ite_some h41 with ⟨h38, h41⟩ | ⟨h38, h41⟩
                    · refine Tri.cond_false (useb (nF (decide_eq_true h38)) (by kernel_rfl)) ?_
                      refine Tri.fix [1, 3, 11, 12, 49, 50, 51] 1 [] ⟨80, [(1, o1 (.own 3 (List.map eI z28))), (3, o1 (.ref 0 0)), (11, oI (w64 ((w64 (x5 - r3.1)) + r3.2))), (12, oB z29), (49, o1 (.own 3 (List.map eI r14))), (50, oI (r14.length : Int)), (51, oI z30)], [eSCode a0], 0, [1]⟩ (by kernel_rfl) ?_
                      refine Tri.skip ?_
                      exact ⟨(z28, z29), (Option.some.inj h41).symm, rfl⟩
                    · refine Tri.cond_true (useb (nT (decide_eq_false h38)) (by kernel_rfl)) ?_
                      refine Tri.rn [1, 6, 7] 0 [] [] [] ⟨80, [(1, o1 (.own 3 (List.map eI z28))), (6, oB false), (7, oI 8)], [], 0, [1]⟩ (by kernel_rfl) trivial ?_
                      refine Tri.ret ?_
                      obtain rfl := Option.some.inj h41
                      try dsimp only at h46
                      obtain rfl := Option.some.inj h46
                      try dsimp only at H
                      obtain rfl := Option.some.inj H
                      exact endsG (.inr rfl) (by kernel_rfl)
            · refine Tri.cond_false (useb (decide_eq_false h31) (by kernel_rfl)) ?_
              refine Tri.fix [1, 12] 0 [] ⟨80, [(1, o1 (.own 3 (List.map eI z28))), (12, oB z29)], [], 0, [1]⟩ (by kernel_rfl) ?_
              refine Tri.exit ?_
              repeat (with_reducible refine Ex.exit ?_)
              refine Bk.here ?_
              exact ⟨(z28, z29), (Option.some.inj h46).symm, rfl⟩
      · unfold impl_Code__reach_1.e1 at h11
        rcases ite_some h11 with ⟨h9, h11⟩ | ⟨h9, h11⟩
        · refine Tri.r1 [1, 2, 3, 8, 11, 39] 2 [] [(2, .ov [.sc (.bool true)])] [_] ⟨80, [(1, o1 (.own 3 (List.map eI a1_1))), (2, oI a2), (3, o1 (.ref 0 0)), (8, o1 (.ref 1 0)), (11, oI (w64 ((w64 (x5 - r3.1)) + r3.2))), (39, oB (decide ((0 : Int) < (w64 ((w64 (x5 - r3.1)) + r3.2)))))], [eSCode a0, eSIns x1], 0, [1]⟩ (by kernel_rfl) ⟨(ovb (decide_eq_true h9)), trivial⟩ ?_
          exact ⟨(decide ((0 : Int) < (w64 ((w64 (x5 - r3.1)) + r3.2)))), (Option.some.inj h11).symm, rfl⟩
        · refine Tri.r1 [1, 2, 3, 8, 11, 39] 2 [] [(2, .ov [.sc (.bool false)])] [_] ⟨80, [(1, o1 (.own 3 (List.map eI a1_1))), (2, oI a2), (3, o1 (.ref 0 0)), (8, o1 (.ref 1 0)), (11, oI (w64 ((w64 (x5 - r3.1)) + r3.2))), (39, oB false)], [eSCode a0, eSIns x1], 0, [1]⟩ (by kernel_rfl) ⟨(ovb (decide_eq_false h9)), trivial⟩ ?_
          exact ⟨false, (Option.some.inj h11).symm, rfl⟩
/-! impl_Code__flow: function 201 -/
def impl_Code__flow.e1 (k : Nat) (a0 : SCode) (z50 : (List Int)) (z51 : Bool) (z52 : Int) : Option ((Int × Int) ⊕ ((List Int) × Bool)) := (at? z50 z52).bind fun x54 => if x54 = (-1) then (some (.inr (z50, z51))) else ((impl_Code__reach_1.f k a0 z50 z52).bind fun r57 => if r57.2.1 = 0 then (if z51 = true then (some (.inr (r57.2.2, true))) else (some (.inr (r57.2.2, r57.1)))) else (some (.inl (r57.2.1, z52))))
def impl_Code__flow.l2 : Nat → SCode → (List Int) → Bool → Int → Option ((Int × Int) ⊕ ((List Int) × Bool))
  | 0, _, _, _, _ => none
  | k + 1, a0, z50, z51, z52 => if z52 < (a0.f4.length : Int) then ((impl_Code__flow.e1 k a0 z50 z51 z52).bind fun v => match v with | .inl r => some (.inl r) | .inr (y61, y62) => impl_Code__flow.l2 k a0 y61 y62 (w64 (z52 + 1))) else (some (.inr (z50, z51)))
def impl_Code__flow.e3 (k : Nat) (a0 : SCode) (z36 : (List Int)) : Option ((Int × Int) ⊕ ((List Int) × Bool)) := impl_Code__flow.l2 k a0 z36 false 0
def impl_Code__flow.l4 : Nat → SCode → (List Int) → Bool → Option ((Int × Int) ⊕ Unit)
  | 0, _, _, _ => none
  | k + 1, a0, z36, z37 => if z37 = true then ((impl_Code__flow.e3 k a0 z36).bind fun v => match v with | .inl r => some (.inl r) | .inr (y66, y67) => impl_Code__flow.l4 k a0 y66 y67) else (some (.inr ()))
def impl_Code__flow.e5 (k : Nat) (a0 : SCode) (r1 : (List Int)) : Option ((Int × Int) ⊕ Unit) := impl_Code__flow.l4 k a0 (r1.set (Int.toNat 0) 0) true
def impl_Code__flow.f (k : Nat) (a0 : SCode) : Option (Int × Int) := (slices_Repeat___int_int.f k ([-1] : List Int) (a0.f4.length : Int)).bind fun r1 => (at? r1 0).bind fun x3 => (impl_Code__flow.e5 k a0 r1).bind fun v => match v with | .inl r => some r | .inr _ => some (0, 0)
set_option maxRecDepth 100000 in
theorem impl_Code__flow.fn (k : Nat) (a0 : SCode) (r : (Int × Int)) (H : impl_Code__flow.f k a0 = some r) : Fn Tryz.prog 201 [ag (eSCode a0)] [] (tp [none, none] [cI r.1, cI r.2]) [] := by
  unfold impl_Code__flow.f at H
  refine Fn.body (ts := [2, 3]) Tryz.func201 rfl rfl (by decide) (by decide) (Nat.le_of_ble_eq_true rfl) (Nat.le_refl _) ?_
  refine Tri.rn [1] 1 [] [] [] ⟨44, [(1, o1 (.ref 0 0))], [eSCode a0], 0, []⟩ (by kernel_rfl) trivial ?_
  obtain ⟨r1, h2, H⟩ := bind_some' H
  refine Tri.rn [1, 4] 1 [] [(3, .ov [.sc (.int .i64 (a0.f4.length : Int))]), (4, .call (o1 (.own 3 (List.map eI r1))) [] false)] [_, _, _] ⟨44, [(1, o1 (.ref 0 0)), (4, o1 (.own 3 (List.map eI r1)))], [eSCode a0], 0, []⟩ (by kernel_rfl) ⟨(ovlen (f := eSIns) (l := a0.f4)), (slices_Repeat___int_int.fn k ([-1] : List Int) (a0.f4.length : Int) r1 h2), (show (List.all [.own 3 (List.map eI r1)] PC.flatB) = true by simp [PC.flatB, PC.scalar, cI, cK, cB, cS, eI]), trivial⟩ ?_
  obtain ⟨x3, h4, H⟩ := bind_some' H
  refine Tri.rn [1, 4] 1 [] [(1, .el (eI x3)), (2, .el (eI x3)), (2, .ovp (.t 4 0) (.own 3 (List.map eI (r1.set (Int.toNat 0) 0))))] [_, _, _, _] ⟨44, [(1, o1 (.ref 0 0)), (4, o1 (.own 3 (List.map eI (r1.set (Int.toNat 0) 0))))], [eSCode a0], 0, []⟩ (by kernel_rfl) ⟨(at?_0 h4), (at?_map (f := eI) h4), (at?_map (f := eI) h4), (ovset (e := 3) (f := eI) (l := r1) (v := 0) (i := Int.toNat 0)), trivial⟩ ?_
  obtain ⟨v72, h71, H⟩ := bind_some' H
  refine Tri.join (α := Unit) (fun w => v72 = .inr w) (fun _ => ⟨44, [], [], 0, []⟩) (fun w hw => ?_) ?_
  · rw [hw] at H; clear hw
    try dsimp only at H
    refine Tri.rn [2, 3] 0 [] [] [] ⟨44, [(2, oI 0), (3, oI 0)], [], 0, []⟩ (by kernel_rfl) trivial ?_
    refine Tri.ret ?_
    obtain rfl := Option.some.inj H
    exact ⟨.inr rfl, rfl, rfl, Nat.le_refl _, rfl, by simp⟩
  · unfold impl_Code__flow.e5 at h71
    refine Tri.rn [1, 4, 5] 1 [] [] [] ⟨44, [(1, o1 (.ref 0 0)), (4, o1 (.own 3 (List.map eI (r1.set (Int.toNat 0) 0)))), (5, oB true)], [eSCode a0], 0, []⟩ (by kernel_rfl) trivial ?_
    refine Tri.block ?_
    refine Tri.loop k (TriR.ind (α := ((List Int) × Bool)) (fun k x => impl_Code__flow.l4 k a0 x.1 x.2) (fun x => ⟨44, [(1, o1 (.ref 0 0)), (4, o1 (.own 3 (List.map eI x.1))), (5, oB x.2)], [eSCode a0], 0, []⟩) (fun _ => rfl) (fun k x h71 IH70 => ?_) k (r1.set (Int.toNat 0) 0, true) h71)
    obtain ⟨z36, z37⟩ := x
    rw [impl_Code__flow.l4.eq_2] at h71
    refine Tri.seq ?_
    refine Tri.rn [1, 4, 16] 1 [] [] [] ⟨44, [(1, o1 (.ref 0 0)), (4, o1 (.own 3 (List.map eI z36))), (16, oB z37)], [eSCode a0], 0, []⟩ (by kernel_rfl) trivial ?_
    rcases iteb_some h71 with ⟨h38, h71⟩ | ⟨h38, h71⟩
    · refine Tri.cond_true (useb h38 (by kernel_rfl)) ?_
      refine Tri.skip ?_
      refine Tri.block ?_
      refine Tri.rn [1, 4, 5] 1 [] [] [] ⟨44, [(1, o1 (.ref 0 0)), (4, o1 (.own 3 (List.map eI z36))), (5, oB false)], [eSCode a0], 0, []⟩ (by kernel_rfl) trivial ?_
      refine Tri.rn [1, 4, 5, 19, 20] 1 [] [(2, .ov [.sc (.int .i64 (a0.f4.length : Int))])] [_] ⟨44, [(1, o1 (.ref 0 0)), (4, o1 (.own 3 (List.map eI z36))), (5, oB false), (19, oI (a0.f4.length : Int)), (20, oI 0)], [eSCode a0], 0, []⟩ (by kernel_rfl) ⟨(ovlen (f := eSIns) (l := a0.f4)), trivial⟩ ?_
      obtain ⟨v69, h68, h71⟩ := bind_some' h71
      refine Tri.joinT (α := ((List Int) × Bool)) (fun w => v69 = .inr w) (fun w => ⟨44, [(1, o1 (.ref 0 0)), (4, o1 (.own 3 (List.map eI w.1))), (5, oB w.2)], [eSCode a0], 0, []⟩) (fun w hw => ?_) ?_
      · rw [hw] at h71; clear hw
        obtain ⟨y66, y67⟩ := w
        try dsimp only at h71
        exact IH70 _ (y66, y67) (Nat.le_refl _) h71
      · unfold impl_Code__flow.e3 at h68
        refine Tri.block ?_
        refine Tri.loop k (TriR.ind (α := ((List Int) × Bool × Int)) (fun k x => impl_Code__flow.l2 k a0 x.1 x.2.1 x.2.2) (fun x => ⟨44, [(1, o1 (.ref 0 0)), (4, o1 (.own 3 (List.map eI x.1))), (5, oB x.2.1), (19, oI (a0.f4.length : Int)), (20, oI x.2.2)], [eSCode a0], 0, []⟩) (fun _ => rfl) (fun k x h68 IH65 => ?_) k (z36, false, 0) h68)
        obtain ⟨z50, z51, z52⟩ := x
        rw [impl_Code__flow.l2.eq_2] at h68
        refine Tri.rn [1, 4, 5, 19, 20, 21] 1 [] [] [] ⟨44, [(1, o1 (.ref 0 0)), (4, o1 (.own 3 (List.map eI z50))), (5, oB z51), (19, oI (a0.f4.length : Int)), (20, oI z52), (21, oB (decide (z52 < (a0.f4.length : Int))))], [eSCode a0], 0, []⟩ (by kernel_rfl) trivial ?_
        refine Tri.seq ?_
        rcases ite_some h68 with ⟨h53, h68⟩ | ⟨h53, h68⟩
        · refine Tri.cond_true (useb (decide_eq_true h53) (by kernel_rfl)) ?_
          refine Tri.skip ?_
          obtain ⟨v64, h63, h68⟩ := bind_some' h68
          refine Tri.join (α := ((List Int) × Bool)) (fun w => v64 = .inr w) (fun w => ⟨44, [(1, o1 (.ref 0 0)), (4, o1 (.own 3 (List.map eI w.1))), (5, oB w.2), (19, oI (a0.f4.length : Int)), (20, oI z52)], [eSCode a0], 0, []⟩) (fun w hw => ?_) ?_
          · rw [hw] at h68; clear hw
            obtain ⟨y61, y62⟩ := w
            try dsimp only at h68
            refine Tri.r1 [1, 4, 5, 19, 20] 1 [] [] [] ⟨44, [(1, o1 (.ref 0 0)), (4, o1 (.own 3 (List.map eI y61))), (5, oB y62), (19, oI (a0.f4.length : Int)), (20, oI (w64 (z52 + 1)))], [eSCode a0], 0, []⟩ (by kernel_rfl) trivial ?_
            exact IH65 _ (y61, y62, w64 (z52 + 1)) (Nat.le_refl _) h68
          · unfold impl_Code__flow.e1 at h63
            refine Tri.block ?_
            refine Tri.rn [1, 4, 5, 6, 19, 20] 1 [] [] [] ⟨44, [(1, o1 (.ref 0 0)), (4, o1 (.own 3 (List.map eI z50))), (5, oB z51), (6, oI z52), (19, oI (a0.f4.length : Int)), (20, oI z52)], [eSCode a0], 0, []⟩ (by kernel_rfl) trivial ?_
            refine Tri.seq ?_
            obtain ⟨x54, h55, h63⟩ := bind_some' h63
            refine Tri.rn [1, 4, 5, 6, 19, 20, 27] 1 [] [(2, .el (eI x54)), (3, .el (eI x54))] [_, _, _] ⟨44, [(1, o1 (.ref 0 0)), (4, o1 (.own 3 (List.map eI z50))), (5, oB z51), (6, oI z52), (19, oI (a0.f4.length : Int)), (20, oI z52), (27, oB (decide (x54 = (-1))))], [eSCode a0], 0, []⟩ (by kernel_rfl) ⟨(at?_0 h55), (at?_map (f := eI) h55), (at?_map (f := eI) h55), trivial⟩ ?_
            rcases ite_some h63 with ⟨h56, h63⟩ | ⟨h56, h63⟩
            · refine Tri.cond_true (useb (decide_eq_true h56) (by kernel_rfl)) ?_
              refine Tri.fix [1, 4, 5, 19, 20] 1 [] ⟨44, [(1, o1 (.ref 0 0)), (4, o1 (.own 3 (List.map eI z50))), (5, oB z51), (19, oI (a0.f4.length : Int)), (20, oI z52)], [eSCode a0], 0, []⟩ (by kernel_rfl) ?_
              refine Tri.exit ?_
              repeat (with_reducible refine Ex.exit ?_)
              refine Bk.here ?_
              exact ⟨(z50, z51), (Option.some.inj h63).symm, rfl⟩
            · refine Tri.cond_false (useb (decide_eq_false h56) (by kernel_rfl)) ?_
              refine Tri.skip ?_
              obtain ⟨r57, h58, h63⟩ := bind_some' h63
              refine Tri.rn [1, 4, 5, 6, 7, 8, 19, 20] 1 [] [(3, .callB (tp [none, none] [cB r57.1, cI r57.2.1]) [] [] (some (1, (.t 4 0))) [.own 3 (List.map eI r57.2.2)] [])] [_] ⟨44, [(1, o1 (.ref 0 0)), (4, o1 (.own 3 (List.map eI r57.2.2))), (5, oB z51), (6, oI z52), (7, oB r57.1), (8, oI r57.2.1), (19, oI (a0.f4.length : Int)), (20, oI z52)], [eSCode a0], 0, []⟩ (by kernel_rfl) ⟨(impl_Code__reach_1.fn k a0 z50 z52 r57 h58), trivial⟩ ?_
              refine Tri.seq ?_
              refine Tri.rn [1, 4, 5, 6, 7, 8, 19, 20, 36] 1 [] [] [] ⟨44, [(1, o1 (.ref 0 0)), (4, o1 (.own 3 (List.map eI r57.2.2))), (5, oB z51), (6, oI z52), (7, oB r57.1), (8, oI r57.2.1), (19, oI (a0.f4.length : Int)), (20, oI z52), (36, oB (!(decide (r57.2.1 = 0))))], [eSCode a0], 0, []⟩ (by kernel_rfl) trivial ?_
              rcases ite_some h63 with ⟨h59, h63⟩ | ⟨h59, h63⟩
              · refine Tri.cond_false (useb (nF (decide_eq_true h59)) (by kernel_rfl)) ?_
                refine Tri.skip ?_
                rcases iteb_some h63 with ⟨h60, h63⟩ | ⟨h60, h63⟩
                · refine Tri.r1 [1, 4, 5, 19, 20] 1 [] [(0, .ov [.sc (.bool true)])] [_] ⟨44, [(1, o1 (.ref 0 0)), (4, o1 (.own 3 (List.map eI r57.2.2))), (5, oB true), (19, oI (a0.f4.length : Int)), (20, oI z52)], [eSCode a0], 0, []⟩ (by kernel_rfl) ⟨(ovb h60), trivial⟩ ?_
                  exact ⟨(r57.2.2, true), (Option.some.inj h63).symm, rfl⟩
                · refine Tri.r1 [1, 4, 5, 19, 20] 1 [] [(0, .ov [.sc (.bool false)])] [_] ⟨44, [(1, o1 (.ref 0 0)), (4, o1 (.own 3 (List.map eI r57.2.2))), (5, oB r57.1), (19, oI (a0.f4.length : Int)), (20, oI z52)], [eSCode a0], 0, []⟩ (by kernel_rfl) ⟨(ovb h60), trivial⟩ ?_
                  exact ⟨(r57.2.2, r57.1), (Option.some.inj h63).symm, rfl⟩
              · refine Tri.cond_true (useb (nT (decide_eq_false h59)) (by kernel_rfl)) ?_
                refine Tri.rn [2, 3] 0 [] [] [] ⟨44, [(2, oI r57.2.1), (3, oI z52)], [], 0, []⟩ (by kernel_rfl) trivial ?_
                refine Tri.ret ?_
                obtain rfl := Option.some.inj h63
                try dsimp only at h68
                obtain rfl := Option.some.inj h68
                try dsimp only at h71
                obtain rfl := Option.some.inj h71
                try dsimp only at H
                obtain rfl := Option.some.inj H
                exact ⟨.inr rfl, rfl, rfl, Nat.le_refl _, rfl, by simp⟩
        · refine Tri.cond_false (useb (decide_eq_false h53) (by kernel_rfl)) ?_
          refine Tri.fix [1, 4, 5] 1 [] ⟨44, [(1, o1 (.ref 0 0)), (4, o1 (.own 3 (List.map eI z50))), (5, oB z51)], [eSCode a0], 0, []⟩ (by kernel_rfl) ?_
          refine Tri.exit ?_
          repeat (with_reducible refine Ex.exit ?_)
          refine Bk.here ?_
          exact ⟨(z50, z51), (Option.some.inj h68).symm, rfl⟩
    · refine Tri.cond_false (useb h38 (by kernel_rfl)) ?_
      refine Tri.fix [] 0 [] ⟨44, [], [], 0, []⟩ (by kernel_rfl) ?_
      refine Tri.exit ?_
      repeat (with_reducible refine Ex.exit ?_)
      refine Bk.here ?_
      exact ⟨(), (Option.some.inj h71).symm, rfl⟩
/-! impl_Code__verify: function 153 -/
def impl_Code__verify.e1 (k : Nat) (a0 : SCode) : Option Bool := if a0.f0 = (⟨#[]⟩ : ByteArray) then (if a0.f2 = 0 then (some (decide (a0.f3 = 0))) else (some false)) else (some false)
def impl_Code__verify.e2 (k : Nat) (a0 : SCode) (y3 : Bool) : Option Bool := (impl_within.f k (a0.f4.length : Int) 1 2000).bind fun r6 => if r6 = true then ((impl_within.f k a0.f1 0 20).bind fun r9 => if r9 = true then ((impl_within.f k a0.f2 a0.f1 2000).bind fun r12 => if r12 = true then ((impl_within.f k a0.f3 0 1).bind fun r15 => if r15 = true then ((impl_isName.f k a0.f0).bind fun r18 => if r18 = true then (some false) else (some (!y3))) else (some true)) else (some true)) else (some true)) else (some true)
def impl_Code__verify.f (k : Nat) (a0 : SCode) : Option (Int × Int) := (impl_Code__verify.e1 k a0).bind fun y3 => (impl_Code__verify.e2 k a0 y3).bind fun y21 => if y21 = true then (some (1, 0)) else ((slices_IndexFunc___impl_Ins_impl_Ins_1.f k a0.f4 a0).bind fun r25 => if (0 : Int) ≤ r25 then (some (3, r25)) else ((impl_Code__flow.f k a0).bind fun r28 => some (r28.1, r28.2)))
set_option maxRecDepth 100000 in
theorem impl_Code__verify.fn (k : Nat) (a0 : SCode) (r : (Int × Int)) (H : impl_Code__verify.f k a0 = some r) : Fn Tryz.prog 153 [ag (eSCode a0)] [] (tp [none, none] [cI r.1, cI r.2]) [] := by
  unfold impl_Code__verify.f at H
  refine Fn.body (ts := [2, 3]) Tryz.func153 rfl rfl (by decide) (by decide) (Nat.le_of_ble_eq_true rfl) (Nat.le_refl _) ?_
  refine Tri.rn [1] 1 [] [] [] ⟨65, [(1, o1 (.ref 0 0))], [eSCode a0], 0, []⟩ (by kernel_rfl) trivial ?_
  obtain ⟨v5, h4, H⟩ := bind_some' H
  refine Tri.join (α := Bool) (fun w => v5 = w) (fun y3 => ⟨65, [(1, o1 (.ref 0 0)), (4, oB y3)], [eSCode a0], 0, []⟩) (fun y3 hw => ?_) ?_
  · rw [hw] at H; clear hw
    try dsimp only at H
    refine Tri.seq ?_
    obtain ⟨v23, h22, H⟩ := bind_some' H
    refine Tri.join (α := Bool) (fun w => v23 = w) (fun y21 => ⟨65, [(1, o1 (.ref 0 0)), (53, oB y21)], [eSCode a0], 0, []⟩) (fun y21 hw => ?_) ?_
    · rw [hw] at H; clear hw
      try dsimp only at H
      rcases iteb_some H with ⟨h24, H⟩ | ⟨h24, H⟩
      · refine Tri.cond_true (useb h24 (by kernel_rfl)) ?_
        refine Tri.rn [2, 3] 0 [] [] [] ⟨65, [(2, oI 1), (3, oI 0)], [], 0, []⟩ (by kernel_rfl) trivial ?_
        refine Tri.ret ?_
        obtain rfl := Option.some.inj H
        exact ⟨.inr rfl, rfl, rfl, Nat.le_refl _, rfl, by simp⟩
      · refine Tri.cond_false (useb h24 (by kernel_rfl)) ?_
        refine Tri.skip ?_
        refine Tri.seq ?_
        obtain ⟨r25, h26, H⟩ := bind_some' H
        refine Tri.rn [1, 5] 1 [] [(3, .call (oI r25) [] false)] [_, _] ⟨65, [(1, o1 (.ref 0 0)), (5, oI r25)], [eSCode a0], 0, []⟩ (by kernel_rfl) ⟨(slices_IndexFunc___impl_Ins_impl_Ins_1.fn k a0.f4 a0 r25 h26), (show (List.all [cI r25] PC.flatB) = true from rfl), trivial⟩ ?_
        refine Tri.rn [1, 5, 59] 1 [] [] [] ⟨65, [(1, o1 (.ref 0 0)), (5, oI r25), (59, oB (decide ((0 : Int) ≤ r25)))], [eSCode a0], 0, []⟩ (by kernel_rfl) trivial ?_
        rcases ite_some H with ⟨h27, H⟩ | ⟨h27, H⟩
        · refine Tri.cond_true (useb (decide_eq_true h27) (by kernel_rfl)) ?_
          refine Tri.rn [2, 3] 0 [] [] [] ⟨65, [(2, oI 3), (3, oI r25)], [], 0, []⟩ (by kernel_rfl) trivial ?_
          refine Tri.ret ?_
          obtain rfl := Option.some.inj H
          exact ⟨.inr rfl, rfl, rfl, Nat.le_refl _, rfl, by simp⟩
        · refine Tri.cond_false (useb (decide_eq_false h27) (by kernel_rfl)) ?_
          refine Tri.skip ?_
          obtain ⟨r28, h29, H⟩ := bind_some' H
          refine Tri.rn [2, 3] 0 [] [(1, .call (tp [none, none] [cI r28.1, cI r28.2]) [] false)] [_, _] ⟨65, [(2, oI r28.1), (3, oI r28.2)], [], 0, []⟩ (by kernel_rfl) ⟨(impl_Code__flow.fn k a0 r28 h29), (show (List.all [cI r28.1, cI r28.2] PC.flatB) = true from rfl), trivial⟩ ?_
          refine Tri.ret ?_
          obtain rfl := Option.some.inj H
          exact ⟨.inr rfl, rfl, rfl, Nat.le_refl _, rfl, by simp⟩
    · unfold impl_Code__verify.e2 at h22
      obtain ⟨r6, h7, h22⟩ := bind_some' h22
      rcases iteb_some h22 with ⟨h8, h22⟩ | ⟨h8, h22⟩
      · obtain ⟨r9, h10, h22⟩ := bind_some' h22
        rcases iteb_some h22 with ⟨h11, h22⟩ | ⟨h11, h22⟩
        · obtain ⟨r12, h13, h22⟩ := bind_some' h22
          rcases iteb_some h22 with ⟨h14, h22⟩ | ⟨h14, h22⟩
          · obtain ⟨r15, h16, h22⟩ := bind_some' h22
            rcases iteb_some h22 with ⟨h17, h22⟩ | ⟨h17, h22⟩
            · obtain ⟨r18, h19, h22⟩ := bind_some' h22
              rcases iteb_some h22 with ⟨h20, h22⟩ | ⟨h20, h22⟩
              · refine Tri.r1 [1, 53] 1 [] [(2, .ov [.sc (.int .i64 (a0.f4.length : Int))]), (3, .call (oB r6) [] false), (3, .ov [.sc (.bool true)]), (8, .call (oB r9) [] false), (8, .ov [.sc (.bool true)]), (16, .call (oB r12) [] false), (16, .ov [.sc (.bool true)]), (22, .call (oB r15) [] false), (22, .ov [.sc (.bool true)]), (28, .call (oB r18) [] false), (28, .ov [.sc (.bool true)])] [_, _, _, _, _, _, _, _, _, _, _, _, _, _, _, _] ⟨65, [(1, o1 (.ref 0 0)), (53, oB false)], [eSCode a0], 0, []⟩ (by kernel_rfl) ⟨(ovlen (f := eSIns) (l := a0.f4)), (impl_within.fn k (a0.f4.length : Int) 1 2000 r6 h7), (show (List.all [cB r6] PC.flatB) = true from rfl), (ovb h8), (impl_within.fn k a0.f1 0 20 r9 h10), (show (List.all [cB r9] PC.flatB) = true from rfl), (ovb h11), (impl_within.fn k a0.f2 a0.f1 2000 r12 h13), (show (List.all [cB r12] PC.flatB) = true from rfl), (ovb h14), (impl_within.fn k a0.f3 0 1 r15 h16), (show (List.all [cB r15] PC.flatB) = true from rfl), (ovb h17), (impl_isName.fn k a0.f0 r18 h19), (show (List.all [cB r18] PC.flatB) = true from rfl), (ovb h20), trivial⟩ ?_
                exact ⟨false, (Option.some.inj h22).symm, rfl⟩
              · refine Tri.r1 [1, 53] 1 [] [(2, .ov [.sc (.int .i64 (a0.f4.length : Int))]), (3, .call (oB r6) [] false), (3, .ov [.sc (.bool true)]), (8, .call (oB r9) [] false), (8, .ov [.sc (.bool true)]), (16, .call (oB r12) [] false), (16, .ov [.sc (.bool true)]), (22, .call (oB r15) [] false), (22, .ov [.sc (.bool true)]), (28, .call (oB r18) [] false), (28, .ov [.sc (.bool false)])] [_, _, _, _, _, _, _, _, _, _, _, _, _, _, _, _] ⟨65, [(1, o1 (.ref 0 0)), (53, oB (!y3))], [eSCode a0], 0, []⟩ (by kernel_rfl) ⟨(ovlen (f := eSIns) (l := a0.f4)), (impl_within.fn k (a0.f4.length : Int) 1 2000 r6 h7), (show (List.all [cB r6] PC.flatB) = true from rfl), (ovb h8), (impl_within.fn k a0.f1 0 20 r9 h10), (show (List.all [cB r9] PC.flatB) = true from rfl), (ovb h11), (impl_within.fn k a0.f2 a0.f1 2000 r12 h13), (show (List.all [cB r12] PC.flatB) = true from rfl), (ovb h14), (impl_within.fn k a0.f3 0 1 r15 h16), (show (List.all [cB r15] PC.flatB) = true from rfl), (ovb h17), (impl_isName.fn k a0.f0 r18 h19), (show (List.all [cB r18] PC.flatB) = true from rfl), (ovb h20), trivial⟩ ?_
                exact ⟨(!y3), (Option.some.inj h22).symm, rfl⟩
            · refine Tri.r1 [1, 53] 1 [] [(2, .ov [.sc (.int .i64 (a0.f4.length : Int))]), (3, .call (oB r6) [] false), (3, .ov [.sc (.bool true)]), (8, .call (oB r9) [] false), (8, .ov [.sc (.bool true)]), (16, .call (oB r12) [] false), (16, .ov [.sc (.bool true)]), (22, .call (oB r15) [] false), (22, .ov [.sc (.bool false)])] [_, _, _, _, _, _, _, _, _, _, _, _, _] ⟨65, [(1, o1 (.ref 0 0)), (53, oB true)], [eSCode a0], 0, []⟩ (by kernel_rfl) ⟨(ovlen (f := eSIns) (l := a0.f4)), (impl_within.fn k (a0.f4.length : Int) 1 2000 r6 h7), (show (List.all [cB r6] PC.flatB) = true from rfl), (ovb h8), (impl_within.fn k a0.f1 0 20 r9 h10), (show (List.all [cB r9] PC.flatB) = true from rfl), (ovb h11), (impl_within.fn k a0.f2 a0.f1 2000 r12 h13), (show (List.all [cB r12] PC.flatB) = true from rfl), (ovb h14), (impl_within.fn k a0.f3 0 1 r15 h16), (show (List.all [cB r15] PC.flatB) = true from rfl), (ovb h17), trivial⟩ ?_
              exact ⟨true, (Option.some.inj h22).symm, rfl⟩
          · refine Tri.r1 [1, 53] 1 [] [(2, .ov [.sc (.int .i64 (a0.f4.length : Int))]), (3, .call (oB r6) [] false), (3, .ov [.sc (.bool true)]), (8, .call (oB r9) [] false), (8, .ov [.sc (.bool true)]), (16, .call (oB r12) [] false), (16, .ov [.sc (.bool false)])] [_, _, _, _, _, _, _, _, _, _] ⟨65, [(1, o1 (.ref 0 0)), (53, oB true)], [eSCode a0], 0, []⟩ (by kernel_rfl) ⟨(ovlen (f := eSIns) (l := a0.f4)), (impl_within.fn k (a0.f4.length : Int) 1 2000 r6 h7), (show (List.all [cB r6] PC.flatB) = true from rfl), (ovb h8), (impl_within.fn k a0.f1 0 20 r9 h10), (show (List.all [cB r9] PC.flatB) = true from rfl), (ovb h11), (impl_within.fn k a0.f2 a0.f1 2000 r12 h13), (show (List.all [cB r12] PC.flatB) = true from rfl), (ovb h14), trivial⟩ ?_
            exact ⟨true, (Option.some.inj h22).symm, rfl⟩
        · refine Tri.r1 [1, 53] 1 [] [(2, .ov [.sc (.int .i64 (a0.f4.length : Int))]), (3, .call (oB r6) [] false), (3, .ov [.sc (.bool true)]), (8, .call (oB r9) [] false), (8, .ov [.sc (.bool false)])] [_, _, _, _, _, _, _] ⟨65, [(1, o1 (.ref 0 0)), (53, oB true)], [eSCode a0], 0, []⟩ (by kernel_rfl) ⟨(ovlen (f := eSIns) (l := a0.f4)), (impl_within.fn k (a0.f4.length : Int) 1 2000 r6 h7), (show (List.all [cB r6] PC.flatB) = true from rfl), (ovb h8), (impl_within.fn k a0.f1 0 20 r9 h10), (show (List.all [cB r9] PC.flatB) = true from rfl), (ovb h11), trivial⟩ ?_
          exact ⟨true, (Option.some.inj h22).symm, rfl⟩
      · refine Tri.r1 [1, 53] 1 [] [(2, .ov [.sc (.int .i64 (a0.f4.length : Int))]), (3, .call (oB r6) [] false), (3, .ov [.sc (.bool false)])] [_, _, _, _] ⟨65, [(1, o1 (.ref 0 0)), (53, oB true)], [eSCode a0], 0, []⟩ (by kernel_rfl) ⟨(ovlen (f := eSIns) (l := a0.f4)), (impl_within.fn k (a0.f4.length : Int) 1 2000 r6 h7), (show (List.all [cB r6] PC.flatB) = true from rfl), (ovb h8), trivial⟩ ?_
        exact ⟨true, (Option.some.inj h22).symm, rfl⟩
  · unfold impl_Code__verify.e1 at h4
    rcases ite_some h4 with ⟨h1, h4⟩ | ⟨h1, h4⟩
    · rcases ite_some h4 with ⟨h2, h4⟩ | ⟨h2, h4⟩
      · refine Tri.r1 [1, 4] 1 [] [(2, .ov [.sc (.bool true)]), (6, .ov [.sc (.bool true)])] [_, _] ⟨65, [(1, o1 (.ref 0 0)), (4, oB (decide (a0.f3 = 0)))], [eSCode a0], 0, []⟩ (by kernel_rfl) ⟨(ovb (decide_eq_true h1)), (ovb (decide_eq_true h2)), trivial⟩ ?_
        exact ⟨(decide (a0.f3 = 0)), (Option.some.inj h4).symm, rfl⟩
      · refine Tri.r1 [1, 4] 1 [] [(2, .ov [.sc (.bool true)]), (6, .ov [.sc (.bool false)])] [_, _] ⟨65, [(1, o1 (.ref 0 0)), (4, oB false)], [eSCode a0], 0, []⟩ (by kernel_rfl) ⟨(ovb (decide_eq_true h1)), (ovb (decide_eq_false h2)), trivial⟩ ?_
        exact ⟨false, (Option.some.inj h4).symm, rfl⟩
    · refine Tri.r1 [1, 4] 1 [] [(2, .ov [.sc (.bool false)])] [_] ⟨65, [(1, o1 (.ref 0 0)), (4, oB false)], [eSCode a0], 0, []⟩ (by kernel_rfl) ⟨(ovb (decide_eq_false h1)), trivial⟩ ?_
      exact ⟨false, (Option.some.inj h4).symm, rfl⟩
/-! impl_Code__verifies: function 95 -/
def impl_Code__verifies.f (k : Nat) (a0 : SCode) : Option Bool := (impl_Code__verify.f k a0).bind fun r1 => some (decide (r1.1 = 0))
set_option maxRecDepth 100000 in
theorem impl_Code__verifies.fn (k : Nat) (a0 : SCode) (r : Bool) (H : impl_Code__verifies.f k a0 = some r) : Fn Tryz.prog 95 [ag (eSCode a0)] [] (oB r) [] := by
  unfold impl_Code__verifies.f at H
  refine Fn.body (ts := [2]) Tryz.func95 rfl rfl (by decide) (by decide) (Nat.le_of_ble_eq_true rfl) (Nat.le_refl _) ?_
  refine Tri.rn [1] 1 [] [] [] ⟨12, [(1, o1 (.ref 0 0))], [eSCode a0], 0, []⟩ (by kernel_rfl) trivial ?_
  obtain ⟨r1, h2, H⟩ := bind_some' H
  refine Tri.rn [3] 0 [] [(1, .call (tp [none, none] [cI r1.1, cI r1.2]) [] false)] [_, _] ⟨12, [(3, oI r1.1)], [], 0, []⟩ (by kernel_rfl) ⟨(impl_Code__verify.fn k a0 r1 h2), (show (List.all [cI r1.1, cI r1.2] PC.flatB) = true from rfl), trivial⟩ ?_
  refine Tri.rn [2] 0 [] [] [] ⟨12, [(2, oB (decide (r1.1 = 0)))], [], 0, []⟩ (by kernel_rfl) trivial ?_
  refine Tri.ret ?_
  obtain rfl := Option.some.inj H
  exact ⟨.inr rfl, rfl, rfl, Nat.le_refl _, rfl, by simp⟩
/-! impl_ObjectOK_1: function 98 -/
def impl_ObjectOK_1.e1 (k : Nat) (a0 : SNeed) : Option Bool := (impl_isName.f k a0.f0).bind fun r1 => if r1 = true then ((impl_isPrint.f k a0.f1).bind fun r4 => some r4) else (some false)
def impl_ObjectOK_1.f (k : Nat) (a0 : SNeed) : Option Bool := (impl_ObjectOK_1.e1 k a0).bind fun y6 => some y6
set_option maxRecDepth 100000 in
theorem impl_ObjectOK_1.fn (k : Nat) (a0 : SNeed) (r : Bool) (H : impl_ObjectOK_1.f k a0 = some r) : Fn Tryz.prog 98 [ag (eSNeed a0)] [] (oB r) [] := by
  unfold impl_ObjectOK_1.f at H
  refine Fn.body (ts := [2]) Tryz.func98 rfl rfl (by decide) (by decide) (Nat.le_of_ble_eq_true rfl) (Nat.le_refl _) ?_
  refine Tri.rn [1] 1 [] [] [] ⟨11, [(1, o1 (.ref 0 0))], [eSNeed a0], 0, []⟩ (by kernel_rfl) trivial ?_
  obtain ⟨v8, h7, H⟩ := bind_some' H
  refine Tri.join (α := Bool) (fun w => v8 = w) (fun y6 => ⟨11, [(2, oB y6)], [], 0, []⟩) (fun y6 hw => ?_) ?_
  · rw [hw] at H; clear hw
    try dsimp only at H
    refine Tri.ret ?_
    obtain rfl := Option.some.inj H
    exact ⟨.inr rfl, rfl, rfl, Nat.le_refl _, rfl, by simp⟩
  · unfold impl_ObjectOK_1.e1 at h7
    obtain ⟨r1, h2, h7⟩ := bind_some' h7
    rcases iteb_some h7 with ⟨h3, h7⟩ | ⟨h3, h7⟩
    · obtain ⟨r4, h5, h7⟩ := bind_some' h7
      refine Tri.r1 [2] 0 [] [(2, .call (oB r1) [] false), (2, .ov [.sc (.bool true)]), (6, .call (oB r4) [] false)] [_, _, _, _, _] ⟨11, [(2, oB r4)], [], 0, []⟩ (by kernel_rfl) ⟨(impl_isName.fn k a0.f0 r1 h2), (show (List.all [cB r1] PC.flatB) = true from rfl), (ovb h3), (impl_isPrint.fn k a0.f1 r4 h5), (show (List.all [cB r4] PC.flatB) = true from rfl), trivial⟩ ?_
      exact ⟨r4, (Option.some.inj h7).symm, rfl⟩
    · refine Tri.r1 [2] 0 [] [(2, .call (oB r1) [] false), (2, .ov [.sc (.bool false)])] [_, _, _] ⟨11, [(2, oB false)], [], 0, []⟩ (by kernel_rfl) ⟨(impl_isName.fn k a0.f0 r1 h2), (show (List.all [cB r1] PC.flatB) = true from rfl), (ovb h3), trivial⟩ ?_
      exact ⟨false, (Option.some.inj h7).symm, rfl⟩
/-! impl_areAll_impl_Need__1_1: function 158 -/
def impl_areAll_impl_Need__1_1.f (k : Nat) (a0 : SNeed) : Option Bool := (impl_ObjectOK_1.f k a0).bind fun r1 => some (!r1)
set_option maxRecDepth 100000 in
theorem impl_areAll_impl_Need__1_1.fn (k : Nat) (a0 : SNeed) (r : Bool) (H : impl_areAll_impl_Need__1_1.f k a0 = some r) : Fn Tryz.prog 158 [ag (eSNeed a0), o1 (.cel ([.sc (.func (.func 98) #[] #[])]) 0)] [] (oB r) [] := by
  unfold impl_areAll_impl_Need__1_1.f at H
  refine Fn.body (ts := [3]) Tryz.func158 rfl rfl (by decide) (by decide) (Nat.le_of_ble_eq_true rfl) (Nat.le_refl _) ?_
  refine Tri.rn [1, 2] 1 [] [] [] ⟨8, [(1, o1 (.cel ([.sc (.func (.func 98) #[] #[])]) 0)), (2, o1 (.ref 0 0))], [eSNeed a0], 0, []⟩ (by kernel_rfl) trivial ?_
  obtain ⟨r1, h2, H⟩ := bind_some' H
  refine Tri.rn [3] 0 [] [(2, .call (oB r1) [] false)] [_, _] ⟨8, [(3, oB (!r1))], [], 0, []⟩ (by kernel_rfl) ⟨(impl_ObjectOK_1.fn k a0 r1 h2), (show (List.all [cB r1] PC.flatB) = true from rfl), trivial⟩ ?_
  refine Tri.ret ?_
  obtain rfl := Option.some.inj H
  exact ⟨.inr rfl, rfl, rfl, Nat.le_refl _, rfl, by simp⟩
/-! slices_IndexFunc___impl_Need_impl_Need_1: function 205 -/
def slices_IndexFunc___impl_Need_impl_Need_1.l1 : Nat → (List SNeed) → Int → Option (Int ⊕ Unit)
  | 0, _, _ => none
  | k + 1, a0, z7 => if z7 < (a0.length : Int) then ((at? a0 z7).bind fun x9 => (impl_areAll_impl_Need__1_1.f k x9).bind fun r11 => if r11 = true then (some (.inl z7)) else (slices_IndexFunc___impl_Need_impl_Need_1.l1 k a0 (w64 (z7 + 1)))) else (some (.inr ()))
def slices_IndexFunc___impl_Need_impl_Need_1.e2 (k : Nat) (a0 : (List SNeed)) : Option (Int ⊕ Unit) := slices_IndexFunc___impl_Need_impl_Need_1.l1 k a0 0
def slices_IndexFunc___impl_Need_impl_Need_1.f (k : Nat) (a0 : (List SNeed)) : Option Int := (slices_IndexFunc___impl_Need_impl_Need_1.e2 k a0).bind fun v => match v with | .inl r => some r | .inr _ => some (-1)
set_option maxRecDepth 100000 in
theorem slices_IndexFunc___impl_Need_impl_Need_1.fn (k : Nat) (a0 : (List SNeed)) (r : Int) (H : slices_IndexFunc___impl_Need_impl_Need_1.f k a0 = some r) : Fn Tryz.prog 205 [o1 (.sl 2 (List.map eSNeed a0)), o1 (.fn 158 [.cel ([.sc (.func (.func 98) #[] #[])]) 0])] [] (oI r) [] := by
  unfold slices_IndexFunc___impl_Need_impl_Need_1.f at H
  refine Fn.body (ts := [4]) Tryz.func205 rfl rfl (by decide) (by decide) (Nat.le_of_ble_eq_true rfl) (Nat.le_refl _) ?_
  refine Tri.rn [0, 1] 0 [] [] [] ⟨19, [(0, o1 (.sl 2 (List.map eSNeed a0))), (1, o1 (.fn 158 [.cel ([.sc (.func (.func 98) #[] #[])]) 0]))], [], 0, []⟩ (by kernel_rfl) trivial ?_
  obtain ⟨v16, h15, H⟩ := bind_some' H
  refine Tri.join (α := Unit) (fun w => v16 = .inr w) (fun _ => ⟨19, [], [], 0, []⟩) (fun w hw => ?_) ?_
  · rw [hw] at H; clear hw
    try dsimp only at H
    refine Tri.rn [4] 0 [] [] [] ⟨19, [(4, oI (-1))], [], 0, []⟩ (by kernel_rfl) trivial ?_
    refine Tri.ret ?_
    obtain rfl := Option.some.inj H
    exact ⟨.inr rfl, rfl, rfl, Nat.le_refl _, rfl, by simp⟩
  · unfold slices_IndexFunc___impl_Need_impl_Need_1.e2 at h15
    refine Tri.rn [0, 1, 7, 8] 0 [] [(1, .ov [.sc (.int .i64 (a0.length : Int))])] [_] ⟨19, [(0, o1 (.sl 2 (List.map eSNeed a0))), (1, o1 (.fn 158 [.cel ([.sc (.func (.func 98) #[] #[])]) 0])), (7, oI (a0.length : Int)), (8, oI 0)], [], 0, []⟩ (by kernel_rfl) ⟨(ovlen (f := eSNeed) (l := a0)), trivial⟩ ?_
    refine Tri.block ?_
    refine Tri.loop k (TriR.ind (α := Int) (fun k x => slices_IndexFunc___impl_Need_impl_Need_1.l1 k a0 x) (fun x => ⟨19, [(0, o1 (.sl 2 (List.map eSNeed a0))), (1, o1 (.fn 158 [.cel ([.sc (.func (.func 98) #[] #[])]) 0])), (7, oI (a0.length : Int)), (8, oI x)], [], 0, []⟩) (fun _ => rfl) (fun k z7 h15 IH14 => ?_) k 0 h15)
    rw [slices_IndexFunc___impl_Need_impl_Need_1.l1.eq_2] at h15
    refine Tri.rn [0, 1, 7, 8, 9] 0 [] [] [] ⟨19, [(0, o1 (.sl 2 (List.map eSNeed a0))), (1, o1 (.fn 158 [.cel ([.sc (.func (.func 98) #[] #[])]) 0])), (7, oI (a0.length : Int)), (8, oI z7), (9, oB (decide (z7 < (a0.length : Int))))], [], 0, []⟩ (by kernel_rfl) trivial ?_
    refine Tri.seq ?_
    rcases ite_some h15 with ⟨h8, h15⟩ | ⟨h8, h15⟩
    · refine Tri.cond_true (useb (decide_eq_true h8) (by kernel_rfl)) ?_
      refine Tri.skip ?_
      refine Tri.seq ?_
      refine Tri.block ?_
      refine Tri.rn [0, 1, 5, 7, 8] 0 [] [] [] ⟨19, [(0, o1 (.sl 2 (List.map eSNeed a0))), (1, o1 (.fn 158 [.cel ([.sc (.func (.func 98) #[] #[])]) 0])), (5, oI z7), (7, oI (a0.length : Int)), (8, oI z7)], [], 0, []⟩ (by kernel_rfl) trivial ?_
      obtain ⟨x9, h10, h15⟩ := bind_some' h15
      obtain ⟨r11, h12, h15⟩ := bind_some' h15
      refine Tri.rn [0, 1, 5, 7, 8, 16] 0 [] [(3, .el (eSNeed x9)), (5, .call (oB r11) [] false)] [_, _, _, _] ⟨19, [(0, o1 (.sl 2 (List.map eSNeed a0))), (1, o1 (.fn 158 [.cel ([.sc (.func (.func 98) #[] #[])]) 0])), (5, oI z7), (7, oI (a0.length : Int)), (8, oI z7), (16, oB r11)], [], 0, []⟩ (by kernel_rfl) ⟨(at?_0 h10), (at?_map (f := eSNeed) h10), (impl_areAll_impl_Need__1_1.fn k x9 r11 h12), (show (List.all [cB r11] PC.flatB) = true from rfl), trivial⟩ ?_
      rcases iteb_some h15 with ⟨h13, h15⟩ | ⟨h13, h15⟩
      · refine Tri.cond_true (useb h13 (by kernel_rfl)) ?_
        refine Tri.rn [4] 0 [] [] [] ⟨19, [(4, oI z7)], [], 0, []⟩ (by kernel_rfl) trivial ?_
        refine Tri.ret ?_
        obtain rfl := Option.some.inj h15
        try dsimp only at H
        obtain rfl := Option.some.inj H
        exact ⟨.inr rfl, rfl, rfl, Nat.le_refl _, rfl, by simp⟩
      · refine Tri.cond_false (useb h13 (by kernel_rfl)) ?_
        refine Tri.skip ?_
        refine Tri.r1 [0, 1, 7, 8] 0 [] [] [] ⟨19, [(0, o1 (.sl 2 (List.map eSNeed a0))), (1, o1 (.fn 158 [.cel ([.sc (.func (.func 98) #[] #[])]) 0])), (7, oI (a0.length : Int)), (8, oI (w64 (z7 + 1)))], [], 0, []⟩ (by kernel_rfl) trivial ?_
        exact IH14 _ (w64 (z7 + 1)) (Nat.le_refl _) h15
    · refine Tri.cond_false (useb (decide_eq_false h8) (by kernel_rfl)) ?_
      refine Tri.fix [] 0 [] ⟨19, [], [], 0, []⟩ (by kernel_rfl) ?_
      refine Tri.exit ?_
      repeat (with_reducible refine Ex.exit ?_)
      refine Bk.here ?_
      exact ⟨(), (Option.some.inj h15).symm, rfl⟩
/-! slices_ContainsFunc___impl_Need_impl_Need_1: function 157 -/
def slices_ContainsFunc___impl_Need_impl_Need_1.f (k : Nat) (a0 : (List SNeed)) : Option Bool := (slices_IndexFunc___impl_Need_impl_Need_1.f k a0).bind fun r1 => some (decide ((0 : Int) ≤ r1))
set_option maxRecDepth 100000 in
theorem slices_ContainsFunc___impl_Need_impl_Need_1.fn (k : Nat) (a0 : (List SNeed)) (r : Bool) (H : slices_ContainsFunc___impl_Need_impl_Need_1.f k a0 = some r) : Fn Tryz.prog 157 [o1 (.sl 2 (List.map eSNeed a0)), o1 (.fn 158 [.cel ([.sc (.func (.func 98) #[] #[])]) 0])] [] (oB r) [] := by
  unfold slices_ContainsFunc___impl_Need_impl_Need_1.f at H
  refine Fn.body (ts := [4]) Tryz.func157 rfl rfl (by decide) (by decide) (Nat.le_of_ble_eq_true rfl) (Nat.le_refl _) ?_
  refine Tri.rn [0, 1] 0 [] [] [] ⟨9, [(0, o1 (.sl 2 (List.map eSNeed a0))), (1, o1 (.fn 158 [.cel ([.sc (.func (.func 98) #[] #[])]) 0]))], [], 0, []⟩ (by kernel_rfl) trivial ?_
  obtain ⟨r1, h2, H⟩ := bind_some' H
  refine Tri.rn [4] 0 [] [(2, .call (oI r1) [] false)] [_, _] ⟨9, [(4, oB (decide ((0 : Int) ≤ r1)))], [], 0, []⟩ (by kernel_rfl) ⟨(slices_IndexFunc___impl_Need_impl_Need_1.fn k a0 r1 h2), (show (List.all [cI r1] PC.flatB) = true from rfl), trivial⟩ ?_
  refine Tri.ret ?_
  obtain rfl := Option.some.inj H
  exact ⟨.inr rfl, rfl, rfl, Nat.le_refl _, rfl, by simp⟩
/-! impl_areAll_impl_Need_1: function 97 -/
def impl_areAll_impl_Need_1.f (k : Nat) (a0 : (List SNeed)) : Option Bool := (slices_ContainsFunc___impl_Need_impl_Need_1.f k a0).bind fun r1 => some (!r1)
set_option maxRecDepth 100000 in
theorem impl_areAll_impl_Need_1.fn (k : Nat) (a0 : (List SNeed)) (r : Bool) (H : impl_areAll_impl_Need_1.f k a0 = some r) : Fn Tryz.prog 97 [o1 (.sl 2 (List.map eSNeed a0)), o1 (.sc (.func (.func 98) #[] #[]))] [] (oB r) [] := by
  unfold impl_areAll_impl_Need_1.f at H
  refine Fn.body (ts := [4]) Tryz.func97 rfl rfl (by decide) (by decide) (Nat.le_of_ble_eq_true rfl) (Nat.le_refl _) ?_
  refine Tri.rn [0, 3] 1 [] [] [] ⟨9, [(0, o1 (.sl 2 (List.map eSNeed a0))), (3, o1 (.ref 0 0))], [[.sc (.func (.func 98) #[] #[])]], 0, []⟩ (by kernel_rfl) trivial ?_
  obtain ⟨r1, h2, H⟩ := bind_some' H
  refine Tri.rn [4] 0 [] [(2, .call (oB r1) [] false)] [_, _] ⟨9, [(4, oB (!r1))], [], 0, []⟩ (by kernel_rfl) ⟨(slices_ContainsFunc___impl_Need_impl_Need_1.fn k a0 r1 h2), (show (List.all [cB r1] PC.flatB) = true from rfl), trivial⟩ ?_
  refine Tri.ret ?_
  obtain rfl := Option.some.inj H
  exact ⟨.inr rfl, rfl, rfl, Nat.le_refl _, rfl, by simp⟩
/-! impl_ObjectOK: function 43 -/
def impl_ObjectOK.e1 (k : Nat) (a0 : SObj) : Option Bool := (impl_isName.f k a0.f0).bind fun r1 => if r1 = true then ((impl_isPrint.f k a0.f1).bind fun r4 => if r4 = true then (if (20 : Int) < (a0.f2.length : Int) then (some true) else (if (100 : Int) < (a0.f3.length : Int) then (some true) else ((impl_within.f k (a0.f4.length : Int) 1 60).bind fun r9 => some (!r9)))) else (some true)) else (some true)
def impl_ObjectOK.e2 (k : Nat) (x44 : SNeed) : Option Bool := (impl_isName.f k x44.f0).bind fun r46 => if r46 = true then ((impl_within.f k x44.f1 0 100).bind fun r49 => some (!r49)) else (some true)
def impl_ObjectOK.l3 : Nat → SObj → (List ByteArray) → Int → Option (Bool ⊕ (List ByteArray))
  | 0, _, _, _ => none
  | k + 1, a0, z41, z42 => if z42 < (a0.f3.length : Int) then ((at? a0.f3 z42).bind fun x44 => (impl_ObjectOK.e2 k x44).bind fun y51 => if y51 = true then (some (.inl false)) else (if (z41 ++ ([x44.f0] : List ByteArray)).length * 16 ≤ 140737488355328 then (impl_ObjectOK.l3 k a0 (z41 ++ ([x44.f0] : List ByteArray)) (w64 (z42 + 1))) else none)) else (some (.inr z41))
def impl_ObjectOK.e4 (k : Nat) (a0 : SObj) : Option (Bool ⊕ (List ByteArray)) := impl_ObjectOK.l3 k a0 ([] : List ByteArray) 0
def impl_ObjectOK.e5 (k : Nat) (a0 : SObj) (z72 : Int) (x74 : SCode) : Option Bool := (impl_Code__verifies.f k x74).bind fun r76 => if r76 = true then (some (!((decide (x74.f0 = (⟨#[]⟩ : ByteArray))) == (decide (z72 = (w64 ((a0.f4.length : Int) - 1))))))) else (some true)
def impl_ObjectOK.l6 : Nat → SObj → (List ByteArray) → Int → Option (Bool ⊕ (List ByteArray))
  | 0, _, _, _ => none
  | k + 1, a0, z71, z72 => if z72 < (a0.f4.length : Int) then ((at? a0.f4 z72).bind fun x74 => (impl_ObjectOK.e5 k a0 z72 x74).bind fun y79 => if y79 = true then (some (.inl false)) else (if (z71 ++ ([x74.f0] : List ByteArray)).length * 16 ≤ 140737488355328 then (impl_ObjectOK.l6 k a0 (z71 ++ ([x74.f0] : List ByteArray)) (w64 (z72 + 1))) else none)) else (some (.inr z71))
def impl_ObjectOK.e7 (k : Nat) (a0 : SObj) (y57 : (List ByteArray)) : Option (Bool ⊕ (List ByteArray)) := impl_ObjectOK.l6 k a0 y57 0
def impl_ObjectOK.e8 (k : Nat) (a0 : SObj) (y85 : (List ByteArray)) : Option Bool := (impl_areDifferent.f k y85).bind fun r88 => if r88 = true then ((impl_areAll_impl_Need_1.f k a0.f2).bind fun r91 => some r91) else (some false)
def impl_ObjectOK.f (k : Nat) (a0 : SObj) : Option Bool := (impl_ObjectOK.e1 k a0).bind fun y11 => if y11 = true then (some false) else ((impl_ObjectOK.e4 k a0).bind fun v => match v with | .inl r => some r | .inr y57 => (impl_ObjectOK.e7 k a0 y57).bind fun v => match v with | .inl r => some r | .inr y85 => (impl_ObjectOK.e8 k a0 y85).bind fun y93 => some y93)
set_option maxRecDepth 100000 in
theorem impl_ObjectOK.fn (k : Nat) (a0 : SObj) (r : Bool) (H : impl_ObjectOK.f k a0 = some r) : Fn Tryz.prog 43 [ag (eSObj a0)] [] (oB r) [] := by
  unfold impl_ObjectOK.f at H
  refine Fn.body (ts := [2]) Tryz.func43 rfl rfl (by decide) (by decide) (Nat.le_of_ble_eq_true rfl) (Nat.le_refl _) ?_
  refine Tri.rn [1] 1 [] [] [] ⟨96, [(1, o1 (.ref 0 0))], [eSObj a0], 0, []⟩ (by kernel_rfl) trivial ?_
  refine Tri.seq ?_
  obtain ⟨v13, h12, H⟩ := bind_some' H
  refine Tri.join (α := Bool) (fun w => v13 = w) (fun y11 => ⟨96, [(1, o1 (.ref 0 0)), (36, oB y11)], [eSObj a0], 0, []⟩) (fun y11 hw => ?_) ?_
  · rw [hw] at H; clear hw
    try dsimp only at H
    rcases iteb_some H with ⟨h14, H⟩ | ⟨h14, H⟩
    · refine Tri.cond_true (useb h14 (by kernel_rfl)) ?_
      refine Tri.rn [2] 0 [] [] [] ⟨96, [(2, oB false)], [], 0, []⟩ (by kernel_rfl) trivial ?_
      refine Tri.ret ?_
      obtain rfl := Option.some.inj H
      exact ⟨.inr rfl, rfl, rfl, Nat.le_refl _, rfl, by simp⟩
    · refine Tri.cond_false (useb h14 (by kernel_rfl)) ?_
      refine Tri.skip ?_
      refine Tri.rn [1, 3] 1 [] [] [] ⟨96, [(1, o1 (.ref 0 0)), (3, o1 .nl)], [eSObj a0], 0, []⟩ (by kernel_rfl) trivial ?_
      obtain ⟨v59, h58, H⟩ := bind_some' H
      refine Tri.join (α := (List ByteArray)) (fun w => v59 = .inr w) (fun y57 => ⟨96, [(1, o1 (.ref 0 0)), (3, o1 (.own 9 (List.map eS y57)))], [eSObj a0], 0, []⟩) (fun y57 hw => ?_) ?_
      · rw [hw] at H; clear hw
        try dsimp only at H
        obtain ⟨v87, h86, H⟩ := bind_some' H
        refine Tri.join (α := (List ByteArray)) (fun w => v87 = .inr w) (fun y85 => ⟨96, [(1, o1 (.ref 0 0)), (3, o1 (.own 9 (List.map eS y85)))], [eSObj a0], 0, []⟩) (fun y85 hw => ?_) ?_
        · rw [hw] at H; clear hw
          try dsimp only at H
          obtain ⟨v95, h94, H⟩ := bind_some' H
          refine Tri.join (α := Bool) (fun w => v95 = w) (fun y93 => ⟨96, [(2, oB y93)], [], 0, []⟩) (fun y93 hw => ?_) ?_
          · rw [hw] at H; clear hw
            try dsimp only at H
            refine Tri.ret ?_
            obtain rfl := Option.some.inj H
            exact ⟨.inr rfl, rfl, rfl, Nat.le_refl _, rfl, by simp⟩
          · unfold impl_ObjectOK.e8 at h94
            obtain ⟨r88, h89, h94⟩ := bind_some' h94
            rcases iteb_some h94 with ⟨h90, h94⟩ | ⟨h90, h94⟩
            · obtain ⟨r91, h92, h94⟩ := bind_some' h94
              refine Tri.r1 [2] 0 [] [(1, .call (oB r88) [] false), (1, .ov [.sc (.bool true)]), (5, .call (oB r91) [] false)] [_, _, _, _, _] ⟨96, [(2, oB r91)], [], 0, []⟩ (by kernel_rfl) ⟨(impl_areDifferent.fn k y85 r88 h89), (show (List.all [cB r88] PC.flatB) = true from rfl), (ovb h90), (impl_areAll_impl_Need_1.fn k a0.f2 r91 h92), (show (List.all [cB r91] PC.flatB) = true from rfl), trivial⟩ ?_
              exact ⟨r91, (Option.some.inj h94).symm, rfl⟩
            · refine Tri.r1 [2] 0 [] [(1, .call (oB r88) [] false), (1, .ov [.sc (.bool false)])] [_, _, _] ⟨96, [(2, oB false)], [], 0, []⟩ (by kernel_rfl) ⟨(impl_areDifferent.fn k y85 r88 h89), (show (List.all [cB r88] PC.flatB) = true from rfl), (ovb h90), trivial⟩ ?_
              exact ⟨false, (Option.some.inj h94).symm, rfl⟩
        · unfold impl_ObjectOK.e7 at h86
          refine Tri.rn [1, 3, 61, 62, 63] 1 [] [(2, .ov [.sc (.int .i64 (a0.f4.length : Int))])] [_] ⟨96, [(1, o1 (.ref 0 0)), (3, o1 (.own 9 (List.map eS y57))), (61, o1 (.sl 5 (List.map eSCode a0.f4))), (62, oI (a0.f4.length : Int)), (63, oI 0)], [eSObj a0], 0, []⟩ (by kernel_rfl) ⟨(ovlen (f := eSCode) (l := a0.f4)), trivial⟩ ?_
          refine Tri.block ?_
          refine Tri.loop k (TriR.ind (α := ((List ByteArray) × Int)) (fun k x => impl_ObjectOK.l6 k a0 x.1 x.2) (fun x => ⟨96, [(1, o1 (.ref 0 0)), (3, o1 (.own 9 (List.map eS x.1))), (61, o1 (.sl 5 (List.map eSCode a0.f4))), (62, oI (a0.f4.length : Int)), (63, oI x.2)], [eSObj a0], 0, []⟩) (fun _ => rfl) (fun k x h86 IH84 => ?_) k (y57, 0) h86)
          obtain ⟨z71, z72⟩ := x
          rw [impl_ObjectOK.l6.eq_2] at h86
          refine Tri.rn [1, 3, 61, 62, 63, 64] 1 [] [] [] ⟨96, [(1, o1 (.ref 0 0)), (3, o1 (.own 9 (List.map eS z71))), (61, o1 (.sl 5 (List.map eSCode a0.f4))), (62, oI (a0.f4.length : Int)), (63, oI z72), (64, oB (decide (z72 < (a0.f4.length : Int))))], [eSObj a0], 0, []⟩ (by kernel_rfl) trivial ?_
          refine Tri.seq ?_
          rcases ite_some h86 with ⟨h73, h86⟩ | ⟨h73, h86⟩
          · refine Tri.cond_true (useb (decide_eq_true h73) (by kernel_rfl)) ?_
            refine Tri.skip ?_
            refine Tri.seq ?_
            refine Tri.block ?_
            obtain ⟨x74, h75, h86⟩ := bind_some' h86
            refine Tri.rn [1, 3, 6, 7, 61, 62, 63] 2 [] [(1, .el (eSCode x74))] [_, _] ⟨96, [(1, o1 (.ref 0 0)), (3, o1 (.own 9 (List.map eS z71))), (6, oI z72), (7, o1 (.ref 1 0)), (61, o1 (.sl 5 (List.map eSCode a0.f4))), (62, oI (a0.f4.length : Int)), (63, oI z72)], [eSObj a0, eSCode x74], 0, []⟩ (by kernel_rfl) ⟨(at?_0 h75), (at?_map (f := eSCode) h75), trivial⟩ ?_
            refine Tri.seq ?_
            obtain ⟨v81, h80, h86⟩ := bind_some' h86
            refine Tri.join (α := Bool) (fun w => v81 = w) (fun y79 => ⟨96, [(1, o1 (.ref 0 0)), (3, o1 (.own 9 (List.map eS z71))), (7, o1 (.ref 1 0)), (61, o1 (.sl 5 (List.map eSCode a0.f4))), (62, oI (a0.f4.length : Int)), (63, oI z72), (82, oB y79)], [eSObj a0, eSCode x74], 0, []⟩) (fun y79 hw => ?_) ?_
            · rw [hw] at h86; clear hw
              try dsimp only at h86
              rcases iteb_some h86 with ⟨h82, h86⟩ | ⟨h82, h86⟩
              · refine Tri.cond_true (useb h82 (by kernel_rfl)) ?_
                refine Tri.rn [2] 0 [] [] [] ⟨96, [(2, oB false)], [], 0, []⟩ (by kernel_rfl) trivial ?_
                refine Tri.ret ?_
                obtain rfl := Option.some.inj h86
                try dsimp only at H
                obtain rfl := Option.some.inj H
                exact ⟨.inr rfl, rfl, rfl, Nat.le_refl _, rfl, by simp⟩
              · refine Tri.cond_false (useb h82 (by kernel_rfl)) ?_
                refine Tri.skip ?_
                obtain ⟨h83, h86⟩ := need_some h86
                refine Tri.r1 [1, 3, 61, 62, 63] 1 [] [(4, .ov [.own 9 (List.map eS (z71 ++ ([x74.f0] : List ByteArray)))])] [_, _, _] ⟨96, [(1, o1 (.ref 0 0)), (3, o1 (.own 9 (List.map eS (z71 ++ ([x74.f0] : List ByteArray))))), (61, o1 (.sl 5 (List.map eSCode a0.f4))), (62, oI (a0.f4.length : Int)), (63, oI z72)], [eSObj a0], 0, []⟩ (by kernel_rfl) ⟨(app1 (f := eS) (by decide) h83), (app2 (f := eS) h83), (ovapp (e := 9) (f := eS) (l := z71) (m := ([x74.f0] : List ByteArray))), trivial⟩ ?_
                refine Tri.r1 [1, 3, 61, 62, 63] 1 [] [] [] ⟨96, [(1, o1 (.ref 0 0)), (3, o1 (.own 9 (List.map eS (z71 ++ ([x74.f0] : List ByteArray))))), (61, o1 (.sl 5 (List.map eSCode a0.f4))), (62, oI (a0.f4.length : Int)), (63, oI (w64 (z72 + 1)))], [eSObj a0], 0, []⟩ (by kernel_rfl) trivial ?_
                exact IH84 _ (z71 ++ ([x74.f0] : List ByteArray), w64 (z72 + 1)) (Nat.le_refl _) h86
            · unfold impl_ObjectOK.e5 at h80
              obtain ⟨r76, h77, h80⟩ := bind_some' h80
              rcases iteb_some h80 with ⟨h78, h80⟩ | ⟨h78, h80⟩
              · refine Tri.r1 [1, 3, 7, 61, 62, 63, 82] 2 [] [(1, .call (oB r76) [] false), (1, .ov [.sc (.bool true)]), (10, .ov [.sc (.int .i64 (a0.f4.length : Int))])] [_, _, _, _] ⟨96, [(1, o1 (.ref 0 0)), (3, o1 (.own 9 (List.map eS z71))), (7, o1 (.ref 1 0)), (61, o1 (.sl 5 (List.map eSCode a0.f4))), (62, oI (a0.f4.length : Int)), (63, oI z72), (82, oB (!((decide (x74.f0 = (⟨#[]⟩ : ByteArray))) == (decide (z72 = (w64 ((a0.f4.length : Int) - 1)))))))], [eSObj a0, eSCode x74], 0, []⟩ (by kernel_rfl) ⟨(impl_Code__verifies.fn k x74 r76 h77), (show (List.all [cB r76] PC.flatB) = true from rfl), (ovb h78), (ovlen (f := eSCode) (l := a0.f4)), trivial⟩ ?_
                exact ⟨(!((decide (x74.f0 = (⟨#[]⟩ : ByteArray))) == (decide (z72 = (w64 ((a0.f4.length : Int) - 1)))))), (Option.some.inj h80).symm, rfl⟩
              · refine Tri.r1 [1, 3, 7, 61, 62, 63, 82] 2 [] [(1, .call (oB r76) [] false), (1, .ov [.sc (.bool false)])] [_, _, _] ⟨96, [(1, o1 (.ref 0 0)), (3, o1 (.own 9 (List.map eS z71))), (7, o1 (.ref 1 0)), (61, o1 (.sl 5 (List.map eSCode a0.f4))), (62, oI (a0.f4.length : Int)), (63, oI z72), (82, oB true)], [eSObj a0, eSCode x74], 0, []⟩ (by kernel_rfl) ⟨(impl_Code__verifies.fn k x74 r76 h77), (show (List.all [cB r76] PC.flatB) = true from rfl), (ovb h78), trivial⟩ ?_
                exact ⟨true, (Option.some.inj h80).symm, rfl⟩
          · refine Tri.cond_false (useb (decide_eq_false h73) (by kernel_rfl)) ?_
            refine Tri.fix [1, 3] 1 [] ⟨96, [(1, o1 (.ref 0 0)), (3, o1 (.own 9 (List.map eS z71)))], [eSObj a0], 0, []⟩ (by kernel_rfl) ?_
            refine Tri.exit ?_
            repeat (with_reducible refine Ex.exit ?_)
            refine Bk.here ?_
            exact ⟨z71, (Option.some.inj h86).symm, rfl⟩
      · unfold impl_ObjectOK.e4 at h58
        refine Tri.rn [1, 3, 38, 39, 40] 1 [] [(2, .ov [.sc (.int .i64 (a0.f3.length : Int))])] [_] ⟨96, [(1, o1 (.ref 0 0)), (3, o1 .nl), (38, o1 (.sl 2 (List.map eSNeed a0.f3))), (39, oI (a0.f3.length : Int)), (40, oI 0)], [eSObj a0], 0, []⟩ (by kernel_rfl) ⟨(ovlen (f := eSNeed) (l := a0.f3)), trivial⟩ ?_
        refine Tri.block ?_
        refine Tri.fix [1, 3, 38, 39, 40] 1 [.own (.t 3 0) 9] ⟨96, [(1, o1 (.ref 0 0)), (3, o1 (.own 9 (List.map eS ([] : List ByteArray)))), (38, o1 (.sl 2 (List.map eSNeed a0.f3))), (39, oI (a0.f3.length : Int)), (40, oI 0)], [eSObj a0], 0, []⟩ (by kernel_rfl) ?_
        refine Tri.loop k (TriR.ind (α := ((List ByteArray) × Int)) (fun k x => impl_ObjectOK.l3 k a0 x.1 x.2) (fun x => ⟨96, [(1, o1 (.ref 0 0)), (3, o1 (.own 9 (List.map eS x.1))), (38, o1 (.sl 2 (List.map eSNeed a0.f3))), (39, oI (a0.f3.length : Int)), (40, oI x.2)], [eSObj a0], 0, []⟩) (fun _ => rfl) (fun k x h58 IH56 => ?_) k (([] : List ByteArray), 0) h58)
        obtain ⟨z41, z42⟩ := x
        rw [impl_ObjectOK.l3.eq_2] at h58
        refine Tri.rn [1, 3, 38, 39, 40, 41] 1 [] [] [] ⟨96, [(1, o1 (.ref 0 0)), (3, o1 (.own 9 (List.map eS z41))), (38, o1 (.sl 2 (List.map eSNeed a0.f3))), (39, oI (a0.f3.length : Int)), (40, oI z42), (41, oB (decide (z42 < (a0.f3.length : Int))))], [eSObj a0], 0, []⟩ (by kernel_rfl) trivial ?_
        refine Tri.seq ?_
        rcases ite_some h58 with ⟨h43, h58⟩ | ⟨h43, h58⟩
        · refine Tri.cond_true (useb (decide_eq_true h43) (by kernel_rfl)) ?_
          refine Tri.skip ?_
          refine Tri.seq ?_
          refine Tri.block ?_
          obtain ⟨x44, h45, h58⟩ := bind_some' h58
          refine Tri.rn [1, 3, 5, 38, 39, 40] 2 [] [(0, .el (eSNeed x44))] [_, _] ⟨96, [(1, o1 (.ref 0 0)), (3, o1 (.own 9 (List.map eS z41))), (5, o1 (.ref 1 0)), (38, o1 (.sl 2 (List.map eSNeed a0.f3))), (39, oI (a0.f3.length : Int)), (40, oI z42)], [eSObj a0, eSNeed x44], 0, []⟩ (by kernel_rfl) ⟨(at?_0 h45), (at?_map (f := eSNeed) h45), trivial⟩ ?_
          refine Tri.seq ?_
          obtain ⟨v53, h52, h58⟩ := bind_some' h58
          refine Tri.join (α := Bool) (fun w => v53 = w) (fun y51 => ⟨96, [(1, o1 (.ref 0 0)), (3, o1 (.own 9 (List.map eS z41))), (5, o1 (.ref 1 0)), (38, o1 (.sl 2 (List.map eSNeed a0.f3))), (39, oI (a0.f3.length : Int)), (40, oI z42), (53, oB y51)], [eSObj a0, eSNeed x44], 0, []⟩) (fun y51 hw => ?_) ?_
          · rw [hw] at h58; clear hw
            try dsimp only at h58
            rcases iteb_some h58 with ⟨h54, h58⟩ | ⟨h54, h58⟩
            · refine Tri.cond_true (useb h54 (by kernel_rfl)) ?_
              refine Tri.rn [2] 0 [] [] [] ⟨96, [(2, oB false)], [], 0, []⟩ (by kernel_rfl) trivial ?_
              refine Tri.ret ?_
              obtain rfl := Option.some.inj h58
              try dsimp only at H
              obtain rfl := Option.some.inj H
              exact ⟨.inr rfl, rfl, rfl, Nat.le_refl _, rfl, by simp⟩
            · refine Tri.cond_false (useb h54 (by kernel_rfl)) ?_
              refine Tri.skip ?_
              obtain ⟨h55, h58⟩ := need_some h58
              refine Tri.r1 [1, 3, 38, 39, 40] 1 [] [(4, .ov [.own 9 (List.map eS (z41 ++ ([x44.f0] : List ByteArray)))])] [_, _, _] ⟨96, [(1, o1 (.ref 0 0)), (3, o1 (.own 9 (List.map eS (z41 ++ ([x44.f0] : List ByteArray))))), (38, o1 (.sl 2 (List.map eSNeed a0.f3))), (39, oI (a0.f3.length : Int)), (40, oI z42)], [eSObj a0], 0, []⟩ (by kernel_rfl) ⟨(app1 (f := eS) (by decide) h55), (app2 (f := eS) h55), (ovapp (e := 9) (f := eS) (l := z41) (m := ([x44.f0] : List ByteArray))), trivial⟩ ?_
              refine Tri.r1 [1, 3, 38, 39, 40] 1 [] [] [] ⟨96, [(1, o1 (.ref 0 0)), (3, o1 (.own 9 (List.map eS (z41 ++ ([x44.f0] : List ByteArray))))), (38, o1 (.sl 2 (List.map eSNeed a0.f3))), (39, oI (a0.f3.length : Int)), (40, oI (w64 (z42 + 1)))], [eSObj a0], 0, []⟩ (by kernel_rfl) trivial ?_
              exact IH56 _ (z41 ++ ([x44.f0] : List ByteArray), w64 (z42 + 1)) (Nat.le_refl _) h58
          · unfold impl_ObjectOK.e2 at h52
            obtain ⟨r46, h47, h52⟩ := bind_some' h52
            rcases iteb_some h52 with ⟨h48, h52⟩ | ⟨h48, h52⟩
            · obtain ⟨r49, h50, h52⟩ := bind_some' h52
              refine Tri.r1 [1, 3, 5, 38, 39, 40, 53] 2 [] [(2, .call (oB r46) [] false), (2, .ov [.sc (.bool true)]), (7, .call (oB r49) [] false)] [_, _, _, _, _] ⟨96, [(1, o1 (.ref 0 0)), (3, o1 (.own 9 (List.map eS z41))), (5, o1 (.ref 1 0)), (38, o1 (.sl 2 (List.map eSNeed a0.f3))), (39, oI (a0.f3.length : Int)), (40, oI z42), (53, oB (!r49))], [eSObj a0, eSNeed x44], 0, []⟩ (by kernel_rfl) ⟨(impl_isName.fn k x44.f0 r46 h47), (show (List.all [cB r46] PC.flatB) = true from rfl), (ovb h48), (impl_within.fn k x44.f1 0 100 r49 h50), (show (List.all [cB r49] PC.flatB) = true from rfl), trivial⟩ ?_
              exact ⟨(!r49), (Option.some.inj h52).symm, rfl⟩
            · refine Tri.r1 [1, 3, 5, 38, 39, 40, 53] 2 [] [(2, .call (oB r46) [] false), (2, .ov [.sc (.bool false)])] [_, _, _] ⟨96, [(1, o1 (.ref 0 0)), (3, o1 (.own 9 (List.map eS z41))), (5, o1 (.ref 1 0)), (38, o1 (.sl 2 (List.map eSNeed a0.f3))), (39, oI (a0.f3.length : Int)), (40, oI z42), (53, oB true)], [eSObj a0, eSNeed x44], 0, []⟩ (by kernel_rfl) ⟨(impl_isName.fn k x44.f0 r46 h47), (show (List.all [cB r46] PC.flatB) = true from rfl), (ovb h48), trivial⟩ ?_
              exact ⟨true, (Option.some.inj h52).symm, rfl⟩
        · refine Tri.cond_false (useb (decide_eq_false h43) (by kernel_rfl)) ?_
          refine Tri.fix [1, 3] 1 [] ⟨96, [(1, o1 (.ref 0 0)), (3, o1 (.own 9 (List.map eS z41)))], [eSObj a0], 0, []⟩ (by kernel_rfl) ?_
          refine Tri.exit ?_
          repeat (with_reducible refine Ex.exit ?_)
          refine Bk.here ?_
          exact ⟨z41, (Option.some.inj h58).symm, rfl⟩
  · unfold impl_ObjectOK.e1 at h12
    obtain ⟨r1, h2, h12⟩ := bind_some' h12
    rcases iteb_some h12 with ⟨h3, h12⟩ | ⟨h3, h12⟩
    · obtain ⟨r4, h5, h12⟩ := bind_some' h12
      rcases iteb_some h12 with ⟨h6, h12⟩ | ⟨h6, h12⟩
      · rcases ite_some h12 with ⟨h7, h12⟩ | ⟨h7, h12⟩
        · refine Tri.r1 [1, 36] 1 [] [(2, .call (oB r1) [] false), (2, .ov [.sc (.bool true)]), (7, .call (oB r4) [] false), (7, .ov [.sc (.bool true)]), (13, .ov [.sc (.int .i64 (a0.f2.length : Int))]), (14, .ov [.sc (.bool true)])] [_, _, _, _, _, _, _, _] ⟨96, [(1, o1 (.ref 0 0)), (36, oB true)], [eSObj a0], 0, []⟩ (by kernel_rfl) ⟨(impl_isName.fn k a0.f0 r1 h2), (show (List.all [cB r1] PC.flatB) = true from rfl), (ovb h3), (impl_isPrint.fn k a0.f1 r4 h5), (show (List.all [cB r4] PC.flatB) = true from rfl), (ovb h6), (ovlen (f := eSNeed) (l := a0.f2)), (ovb (decide_eq_true h7)), trivial⟩ ?_
          exact ⟨true, (Option.some.inj h12).symm, rfl⟩
        · rcases ite_some h12 with ⟨h8, h12⟩ | ⟨h8, h12⟩
          · refine Tri.r1 [1, 36] 1 [] [(2, .call (oB r1) [] false), (2, .ov [.sc (.bool true)]), (7, .call (oB r4) [] false), (7, .ov [.sc (.bool true)]), (13, .ov [.sc (.int .i64 (a0.f2.length : Int))]), (14, .ov [.sc (.bool false)]), (19, .ov [.sc (.int .i64 (a0.f3.length : Int))]), (20, .ov [.sc (.bool true)])] [_, _, _, _, _, _, _, _, _, _] ⟨96, [(1, o1 (.ref 0 0)), (36, oB true)], [eSObj a0], 0, []⟩ (by kernel_rfl) ⟨(impl_isName.fn k a0.f0 r1 h2), (show (List.all [cB r1] PC.flatB) = true from rfl), (ovb h3), (impl_isPrint.fn k a0.f1 r4 h5), (show (List.all [cB r4] PC.flatB) = true from rfl), (ovb h6), (ovlen (f := eSNeed) (l := a0.f2)), (ovb (decide_eq_false h7)), (ovlen (f := eSNeed) (l := a0.f3)), (ovb (decide_eq_true h8)), trivial⟩ ?_
            exact ⟨true, (Option.some.inj h12).symm, rfl⟩
          · obtain ⟨r9, h10, h12⟩ := bind_some' h12
            refine Tri.r1 [1, 36] 1 [] [(2, .call (oB r1) [] false), (2, .ov [.sc (.bool true)]), (7, .call (oB r4) [] false), (7, .ov [.sc (.bool true)]), (13, .ov [.sc (.int .i64 (a0.f2.length : Int))]), (14, .ov [.sc (.bool false)]), (19, .ov [.sc (.int .i64 (a0.f3.length : Int))]), (20, .ov [.sc (.bool false)]), (25, .ov [.sc (.int .i64 (a0.f4.length : Int))]), (26, .call (oB r9) [] false)] [_, _, _, _, _, _, _, _, _, _, _, _, _] ⟨96, [(1, o1 (.ref 0 0)), (36, oB (!r9))], [eSObj a0], 0, []⟩ (by kernel_rfl) ⟨(impl_isName.fn k a0.f0 r1 h2), (show (List.all [cB r1] PC.flatB) = true from rfl), (ovb h3), (impl_isPrint.fn k a0.f1 r4 h5), (show (List.all [cB r4] PC.flatB) = true from rfl), (ovb h6), (ovlen (f := eSNeed) (l := a0.f2)), (ovb (decide_eq_false h7)), (ovlen (f := eSNeed) (l := a0.f3)), (ovb (decide_eq_false h8)), (ovlen (f := eSCode) (l := a0.f4)), (impl_within.fn k (a0.f4.length : Int) 1 60 r9 h10), (show (List.all [cB r9] PC.flatB) = true from rfl), trivial⟩ ?_
            exact ⟨(!r9), (Option.some.inj h12).symm, rfl⟩
      · refine Tri.r1 [1, 36] 1 [] [(2, .call (oB r1) [] false), (2, .ov [.sc (.bool true)]), (7, .call (oB r4) [] false), (7, .ov [.sc (.bool false)])] [_, _, _, _, _, _] ⟨96, [(1, o1 (.ref 0 0)), (36, oB true)], [eSObj a0], 0, []⟩ (by kernel_rfl) ⟨(impl_isName.fn k a0.f0 r1 h2), (show (List.all [cB r1] PC.flatB) = true from rfl), (ovb h3), (impl_isPrint.fn k a0.f1 r4 h5), (show (List.all [cB r4] PC.flatB) = true from rfl), (ovb h6), trivial⟩ ?_
        exact ⟨true, (Option.some.inj h12).symm, rfl⟩
    · refine Tri.r1 [1, 36] 1 [] [(2, .call (oB r1) [] false), (2, .ov [.sc (.bool false)])] [_, _, _] ⟨96, [(1, o1 (.ref 0 0)), (36, oB true)], [eSObj a0], 0, []⟩ (by kernel_rfl) ⟨(impl_isName.fn k a0.f0 r1 h2), (show (List.all [cB r1] PC.flatB) = true from rfl), (ovb h3), trivial⟩ ?_
      exact ⟨true, (Option.some.inj h12).symm, rfl⟩
/-! laws_eqNeed: function 159 -/
def laws_eqNeed.f (k : Nat) (a0 : SNeed) (a1 : SNeed) : Option Bool := if a0.f0 = a1.f0 then (if a0.f1 = a1.f1 then (some true) else (some false)) else (some false)
set_option maxRecDepth 100000 in
theorem laws_eqNeed.fn (k : Nat) (a0 : SNeed) (a1 : SNeed) (r : Bool) (H : laws_eqNeed.f k a0 a1 = some r) : Fn Tryz.prog 159 [ag (eSNeed a0), ag (eSNeed a1)] [] (oB r) [] := by
  unfold laws_eqNeed.f at H
  refine Fn.body (ts := [4]) Tryz.func159 rfl rfl (by decide) (by decide) (Nat.le_of_ble_eq_true rfl) (Nat.le_refl _) ?_
  refine Tri.rn [2, 3] 2 [] [] [] ⟨15, [(2, o1 (.ref 0 0)), (3, o1 (.ref 1 0))], [eSNeed a0, eSNeed a1], 0, []⟩ (by kernel_rfl) trivial ?_
  refine Tri.seq ?_
  refine Tri.rn [2, 3, 9] 2 [] [] [] ⟨15, [(2, o1 (.ref 0 0)), (3, o1 (.ref 1 0)), (9, oB (!(decide (a0.f0 = a1.f0))))], [eSNeed a0, eSNeed a1], 0, []⟩ (by kernel_rfl) trivial ?_
  rcases ite_some H with ⟨h1, H⟩ | ⟨h1, H⟩
  · refine Tri.cond_false (useb (nF (decide_eq_true h1)) (by kernel_rfl)) ?_
    refine Tri.skip ?_
    refine Tri.seq ?_
    refine Tri.rn [14] 0 [] [] [] ⟨15, [(14, oB (!(decide (a0.f1 = a1.f1))))], [], 0, []⟩ (by kernel_rfl) trivial ?_
    rcases ite_some H with ⟨h2, H⟩ | ⟨h2, H⟩
    · refine Tri.cond_false (useb (nF (decide_eq_true h2)) (by kernel_rfl)) ?_
      refine Tri.skip ?_
      refine Tri.rn [4] 0 [] [] [] ⟨15, [(4, oB true)], [], 0, []⟩ (by kernel_rfl) trivial ?_
      refine Tri.ret ?_
      obtain rfl := Option.some.inj H
      exact ⟨.inr rfl, rfl, rfl, Nat.le_refl _, rfl, by simp⟩
    · refine Tri.cond_true (useb (nT (decide_eq_false h2)) (by kernel_rfl)) ?_
      refine Tri.rn [4] 0 [] [] [] ⟨15, [(4, oB false)], [], 0, []⟩ (by kernel_rfl) trivial ?_
      refine Tri.ret ?_
      obtain rfl := Option.some.inj H
      exact ⟨.inr rfl, rfl, rfl, Nat.le_refl _, rfl, by simp⟩
  · refine Tri.cond_true (useb (nT (decide_eq_false h1)) (by kernel_rfl)) ?_
    refine Tri.rn [4] 0 [] [] [] ⟨15, [(4, oB false)], [], 0, []⟩ (by kernel_rfl) trivial ?_
    refine Tri.ret ?_
    obtain rfl := Option.some.inj H
    exact ⟨.inr rfl, rfl, rfl, Nat.le_refl _, rfl, by simp⟩
/-! laws_eqNeedS: function 99 -/
def laws_eqNeedS.l1 : Nat → (List SNeed) → (List SNeed) → Int → Option (Bool ⊕ Unit)
  | 0, _, _, _ => none
  | k + 1, a0, a1, z10 => if z10 < (a0.length : Int) then ((at? a0 z10).bind fun x12 => (at? a1 z10).bind fun x14 => (laws_eqNeed.f k x12 x14).bind fun r16 => if r16 = true then (laws_eqNeedS.l1 k a0 a1 (w64 (z10 + 1))) else (some (.inl false))) else (some (.inr ()))
def laws_eqNeedS.e2 (k : Nat) (a0 : (List SNeed)) (a1 : (List SNeed)) : Option (Bool ⊕ Unit) := laws_eqNeedS.l1 k a0 a1 0
def laws_eqNeedS.f (k : Nat) (a0 : (List SNeed)) (a1 : (List SNeed)) : Option Bool := if (a0.length : Int) = (a1.length : Int) then ((laws_eqNeedS.e2 k a0 a1).bind fun v => match v with | .inl r => some r | .inr _ => some true) else (some false)
set_option maxRecDepth 100000 in
theorem laws_eqNeedS.fn (k : Nat) (a0 : (List SNeed)) (a1 : (List SNeed)) (r : Bool) (H : laws_eqNeedS.f k a0 a1 = some r) : Fn Tryz.prog 99 [o1 (.sl 2 (List.map eSNeed a0)), o1 (.sl 2 (List.map eSNeed a1))] [] (oB r) [] := by
  unfold laws_eqNeedS.f at H
  refine Fn.body (ts := [4]) Tryz.func99 rfl rfl (by decide) (by decide) (Nat.le_of_ble_eq_true rfl) (Nat.le_refl _) ?_
  refine Tri.rn [0, 1] 0 [] [] [] ⟨27, [(0, o1 (.sl 2 (List.map eSNeed a0))), (1, o1 (.sl 2 (List.map eSNeed a1)))], [], 0, []⟩ (by kernel_rfl) trivial ?_
  refine Tri.seq ?_
  refine Tri.rn [0, 1, 10] 0 [] [(1, .ov [.sc (.int .i64 (a0.length : Int))]), (3, .ov [.sc (.int .i64 (a1.length : Int))])] [_, _] ⟨27, [(0, o1 (.sl 2 (List.map eSNeed a0))), (1, o1 (.sl 2 (List.map eSNeed a1))), (10, oB (!(decide ((a0.length : Int) = (a1.length : Int)))))], [], 0, []⟩ (by kernel_rfl) ⟨(ovlen (f := eSNeed) (l := a0)), (ovlen (f := eSNeed) (l := a1)), trivial⟩ ?_
  rcases ite_some H with ⟨h1, H⟩ | ⟨h1, H⟩
  · refine Tri.cond_false (useb (nF (decide_eq_true h1)) (by kernel_rfl)) ?_
    refine Tri.skip ?_
    obtain ⟨v21, h20, H⟩ := bind_some' H
    refine Tri.join (α := Unit) (fun w => v21 = .inr w) (fun _ => ⟨27, [], [], 0, []⟩) (fun w hw => ?_) ?_
    · rw [hw] at H; clear hw
      try dsimp only at H
      refine Tri.rn [4] 0 [] [] [] ⟨27, [(4, oB true)], [], 0, []⟩ (by kernel_rfl) trivial ?_
      refine Tri.ret ?_
      obtain rfl := Option.some.inj H
      exact ⟨.inr rfl, rfl, rfl, Nat.le_refl _, rfl, by simp⟩
    · unfold laws_eqNeedS.e2 at h20
      refine Tri.rn [0, 1, 5] 0 [] [] [] ⟨27, [(0, o1 (.sl 2 (List.map eSNeed a0))), (1, o1 (.sl 2 (List.map eSNeed a1))), (5, oI 0)], [], 0, []⟩ (by kernel_rfl) trivial ?_
      refine Tri.block ?_
      refine Tri.loop k (TriR.ind (α := Int) (fun k x => laws_eqNeedS.l1 k a0 a1 x) (fun x => ⟨27, [(0, o1 (.sl 2 (List.map eSNeed a0))), (1, o1 (.sl 2 (List.map eSNeed a1))), (5, oI x)], [], 0, []⟩) (fun _ => rfl) (fun k z10 h20 IH19 => ?_) k 0 h20)
      rw [laws_eqNeedS.l1.eq_2] at h20
      refine Tri.seq ?_
      refine Tri.rn [0, 1, 5, 14] 0 [] [(2, .ov [.sc (.int .i64 (a0.length : Int))])] [_] ⟨27, [(0, o1 (.sl 2 (List.map eSNeed a0))), (1, o1 (.sl 2 (List.map eSNeed a1))), (5, oI z10), (14, oB (decide (z10 < (a0.length : Int))))], [], 0, []⟩ (by kernel_rfl) ⟨(ovlen (f := eSNeed) (l := a0)), trivial⟩ ?_
      rcases ite_some h20 with ⟨h11, h20⟩ | ⟨h11, h20⟩
      · refine Tri.cond_true (useb (decide_eq_true h11) (by kernel_rfl)) ?_
        refine Tri.skip ?_
        refine Tri.seq ?_
        refine Tri.block ?_
        obtain ⟨x12, h13, h20⟩ := bind_some' h20
        obtain ⟨x14, h15, h20⟩ := bind_some' h20
        obtain ⟨r16, h17, h20⟩ := bind_some' h20
        refine Tri.dn hmix 8 [[], [], [0, 1], [0, 1, 2], [], [], [4, 5], [4, 5, 6], [0, 1, 2, 3, 4, 5, 6, 7], [0, 1, 2, 3, 4, 5, 6, 7, 8]] [0, 1, 5, 26] 0 [] [(2, .el (eSNeed x12)), (6, .el (eSNeed x14)), (8, .call (oB r16) [] false)] [_, _, _, _, _, _] ⟨27, [(0, o1 (.sl 2 (List.map eSNeed a0))), (1, o1 (.sl 2 (List.map eSNeed a1))), (5, oI z10), (26, oB (!r16))], [], 0, []⟩ (by kernel_rfl) ⟨(at?_0 h13), (at?_map (f := eSNeed) h13), (at?_0 h15), (at?_map (f := eSNeed) h15), (laws_eqNeed.fn k x12 x14 r16 h17), (show (List.all [cB r16] PC.flatB) = true from rfl), trivial⟩ ?_
        rcases iteb_some h20 with ⟨h18, h20⟩ | ⟨h18, h20⟩
        · refine Tri.cond_false (useb (nF h18) (by kernel_rfl)) ?_
          refine Tri.skip ?_
          refine Tri.r1 [0, 1, 5] 0 [] [] [] ⟨27, [(0, o1 (.sl 2 (List.map eSNeed a0))), (1, o1 (.sl 2 (List.map eSNeed a1))), (5, oI (w64 (z10 + 1)))], [], 0, []⟩ (by kernel_rfl) trivial ?_
          exact IH19 _ (w64 (z10 + 1)) (Nat.le_refl _) h20
        · refine Tri.cond_true (useb (nT h18) (by kernel_rfl)) ?_
          refine Tri.rn [4] 0 [] [] [] ⟨27, [(4, oB false)], [], 0, []⟩ (by kernel_rfl) trivial ?_
          refine Tri.ret ?_
          obtain rfl := Option.some.inj h20
          try dsimp only at H
          obtain rfl := Option.some.inj H
          exact ⟨.inr rfl, rfl, rfl, Nat.le_refl _, rfl, by simp⟩
      · refine Tri.cond_false (useb (decide_eq_false h11) (by kernel_rfl)) ?_
        refine Tri.fix [] 0 [] ⟨27, [], [], 0, []⟩ (by kernel_rfl) ?_
        refine Tri.exit ?_
        repeat (with_reducible refine Ex.exit ?_)
        refine Bk.here ?_
        exact ⟨(), (Option.some.inj h20).symm, rfl⟩
  · refine Tri.cond_true (useb (nT (decide_eq_false h1)) (by kernel_rfl)) ?_
    refine Tri.rn [4] 0 [] [] [] ⟨27, [(4, oB false)], [], 0, []⟩ (by kernel_rfl) trivial ?_
    refine Tri.ret ?_
    obtain rfl := Option.some.inj H
    exact ⟨.inr rfl, rfl, rfl, Nat.le_refl _, rfl, by simp⟩
/-! laws_eqGlobal: function 160 -/
def laws_eqGlobal.f (k : Nat) (a0 : SNeed) (a1 : SNeed) : Option Bool := if a0.f0 = a1.f0 then (if a0.f1 = a1.f1 then (some true) else (some false)) else (some false)
set_option maxRecDepth 100000 in
theorem laws_eqGlobal.fn (k : Nat) (a0 : SNeed) (a1 : SNeed) (r : Bool) (H : laws_eqGlobal.f k a0 a1 = some r) : Fn Tryz.prog 160 [ag (eSNeed a0), ag (eSNeed a1)] [] (oB r) [] := by
  unfold laws_eqGlobal.f at H
  refine Fn.body (ts := [4]) Tryz.func160 rfl rfl (by decide) (by decide) (Nat.le_of_ble_eq_true rfl) (Nat.le_refl _) ?_
  refine Tri.rn [2, 3] 2 [] [] [] ⟨15, [(2, o1 (.ref 0 0)), (3, o1 (.ref 1 0))], [eSNeed a0, eSNeed a1], 0, []⟩ (by kernel_rfl) trivial ?_
  refine Tri.seq ?_
  refine Tri.rn [2, 3, 9] 2 [] [] [] ⟨15, [(2, o1 (.ref 0 0)), (3, o1 (.ref 1 0)), (9, oB (!(decide (a0.f0 = a1.f0))))], [eSNeed a0, eSNeed a1], 0, []⟩ (by kernel_rfl) trivial ?_
  rcases ite_some H with ⟨h1, H⟩ | ⟨h1, H⟩
  · refine Tri.cond_false (useb (nF (decide_eq_true h1)) (by kernel_rfl)) ?_
    refine Tri.skip ?_
    refine Tri.seq ?_
    refine Tri.rn [14] 0 [] [] [] ⟨15, [(14, oB (!(decide (a0.f1 = a1.f1))))], [], 0, []⟩ (by kernel_rfl) trivial ?_
    rcases ite_some H with ⟨h2, H⟩ | ⟨h2, H⟩
    · refine Tri.cond_false (useb (nF (decide_eq_true h2)) (by kernel_rfl)) ?_
      refine Tri.skip ?_
      refine Tri.rn [4] 0 [] [] [] ⟨15, [(4, oB true)], [], 0, []⟩ (by kernel_rfl) trivial ?_
      refine Tri.ret ?_
      obtain rfl := Option.some.inj H
      exact ⟨.inr rfl, rfl, rfl, Nat.le_refl _, rfl, by simp⟩
    · refine Tri.cond_true (useb (nT (decide_eq_false h2)) (by kernel_rfl)) ?_
      refine Tri.rn [4] 0 [] [] [] ⟨15, [(4, oB false)], [], 0, []⟩ (by kernel_rfl) trivial ?_
      refine Tri.ret ?_
      obtain rfl := Option.some.inj H
      exact ⟨.inr rfl, rfl, rfl, Nat.le_refl _, rfl, by simp⟩
  · refine Tri.cond_true (useb (nT (decide_eq_false h1)) (by kernel_rfl)) ?_
    refine Tri.rn [4] 0 [] [] [] ⟨15, [(4, oB false)], [], 0, []⟩ (by kernel_rfl) trivial ?_
    refine Tri.ret ?_
    obtain rfl := Option.some.inj H
    exact ⟨.inr rfl, rfl, rfl, Nat.le_refl _, rfl, by simp⟩
/-! laws_eqGlobalS: function 100 -/
def laws_eqGlobalS.l1 : Nat → (List SNeed) → (List SNeed) → Int → Option (Bool ⊕ Unit)
  | 0, _, _, _ => none
  | k + 1, a0, a1, z10 => if z10 < (a0.length : Int) then ((at? a0 z10).bind fun x12 => (at? a1 z10).bind fun x14 => (laws_eqGlobal.f k x12 x14).bind fun r16 => if r16 = true then (laws_eqGlobalS.l1 k a0 a1 (w64 (z10 + 1))) else (some (.inl false))) else (some (.inr ()))
def laws_eqGlobalS.e2 (k : Nat) (a0 : (List SNeed)) (a1 : (List SNeed)) : Option (Bool ⊕ Unit) := laws_eqGlobalS.l1 k a0 a1 0
def laws_eqGlobalS.f (k : Nat) (a0 : (List SNeed)) (a1 : (List SNeed)) : Option Bool := if (a0.length : Int) = (a1.length : Int) then ((laws_eqGlobalS.e2 k a0 a1).bind fun v => match v with | .inl r => some r | .inr _ => some true) else (some false)
set_option maxRecDepth 100000 in
theorem laws_eqGlobalS.fn (k : Nat) (a0 : (List SNeed)) (a1 : (List SNeed)) (r : Bool) (H : laws_eqGlobalS.f k a0 a1 = some r) : Fn Tryz.prog 100 [o1 (.sl 2 (List.map eSNeed a0)), o1 (.sl 2 (List.map eSNeed a1))] [] (oB r) [] := by
  unfold laws_eqGlobalS.f at H
  refine Fn.body (ts := [4]) Tryz.func100 rfl rfl (by decide) (by decide) (Nat.le_of_ble_eq_true rfl) (Nat.le_refl _) ?_
  refine Tri.rn [0, 1] 0 [] [] [] ⟨27, [(0, o1 (.sl 2 (List.map eSNeed a0))), (1, o1 (.sl 2 (List.map eSNeed a1)))], [], 0, []⟩ (by kernel_rfl) trivial ?_
  refine Tri.seq ?_
  refine Tri.rn [0, 1, 10] 0 [] [(1, .ov [.sc (.int .i64 (a0.length : Int))]), (3, .ov [.sc (.int .i64 (a1.length : Int))])] [_, _] ⟨27, [(0, o1 (.sl 2 (List.map eSNeed a0))), (1, o1 (.sl 2 (List.map eSNeed a1))), (10, oB (!(decide ((a0.length : Int) = (a1.length : Int)))))], [], 0, []⟩ (by kernel_rfl) ⟨(ovlen (f := eSNeed) (l := a0)), (ovlen (f := eSNeed) (l := a1)), trivial⟩ ?_
  rcases ite_some H with ⟨h1, H⟩ | ⟨h1, H⟩
  · refine Tri.cond_false (useb (nF (decide_eq_true h1)) (by kernel_rfl)) ?_
    refine Tri.skip ?_
    obtain ⟨v21, h20, H⟩ := bind_some' H
    refine Tri.join (α := Unit) (fun w => v21 = .inr w) (fun _ => ⟨27, [], [], 0, []⟩) (fun w hw => ?_) ?_
    · rw [hw] at H; clear hw
      try dsimp only at H
      refine Tri.rn [4] 0 [] [] [] ⟨27, [(4, oB true)], [], 0, []⟩ (by kernel_rfl) trivial ?_
      refine Tri.ret ?_
      obtain rfl := Option.some.inj H
      exact ⟨.inr rfl, rfl, rfl, Nat.le_refl _, rfl, by simp⟩
    · unfold laws_eqGlobalS.e2 at h20
      refine Tri.rn [0, 1, 5] 0 [] [] [] ⟨27, [(0, o1 (.sl 2 (List.map eSNeed a0))), (1, o1 (.sl 2 (List.map eSNeed a1))), (5, oI 0)], [], 0, []⟩ (by kernel_rfl) trivial ?_
      refine Tri.block ?_
      refine Tri.loop k (TriR.ind (α := Int) (fun k x => laws_eqGlobalS.l1 k a0 a1 x) (fun x => ⟨27, [(0, o1 (.sl 2 (List.map eSNeed a0))), (1, o1 (.sl 2 (List.map eSNeed a1))), (5, oI x)], [], 0, []⟩) (fun _ => rfl) (fun k z10 h20 IH19 => ?_) k 0 h20)
      rw [laws_eqGlobalS.l1.eq_2] at h20
      refine Tri.seq ?_
      refine Tri.rn [0, 1, 5, 14] 0 [] [(2, .ov [.sc (.int .i64 (a0.length : Int))])] [_] ⟨27, [(0, o1 (.sl 2 (List.map eSNeed a0))), (1, o1 (.sl 2 (List.map eSNeed a1))), (5, oI z10), (14, oB (decide (z10 < (a0.length : Int))))], [], 0, []⟩ (by kernel_rfl) ⟨(ovlen (f := eSNeed) (l := a0)), trivial⟩ ?_
      rcases ite_some h20 with ⟨h11, h20⟩ | ⟨h11, h20⟩
      · refine Tri.cond_true (useb (decide_eq_true h11) (by kernel_rfl)) ?_
        refine Tri.skip ?_
        refine Tri.seq ?_
        refine Tri.block ?_
        obtain ⟨x12, h13, h20⟩ := bind_some' h20
        obtain ⟨x14, h15, h20⟩ := bind_some' h20
        obtain ⟨r16, h17, h20⟩ := bind_some' h20
        refine Tri.dn hmix 8 [[], [], [0, 1], [0, 1, 2], [], [], [4, 5], [4, 5, 6], [0, 1, 2, 3, 4, 5, 6, 7], [0, 1, 2, 3, 4, 5, 6, 7, 8]] [0, 1, 5, 26] 0 [] [(2, .el (eSNeed x12)), (6, .el (eSNeed x14)), (8, .call (oB r16) [] false)] [_, _, _, _, _, _] ⟨27, [(0, o1 (.sl 2 (List.map eSNeed a0))), (1, o1 (.sl 2 (List.map eSNeed a1))), (5, oI z10), (26, oB (!r16))], [], 0, []⟩ (by kernel_rfl) ⟨(at?_0 h13), (at?_map (f := eSNeed) h13), (at?_0 h15), (at?_map (f := eSNeed) h15), (laws_eqGlobal.fn k x12 x14 r16 h17), (show (List.all [cB r16] PC.flatB) = true from rfl), trivial⟩ ?_
        rcases iteb_some h20 with ⟨h18, h20⟩ | ⟨h18, h20⟩
        · refine Tri.cond_false (useb (nF h18) (by kernel_rfl)) ?_
          refine Tri.skip ?_
          refine Tri.r1 [0, 1, 5] 0 [] [] [] ⟨27, [(0, o1 (.sl 2 (List.map eSNeed a0))), (1, o1 (.sl 2 (List.map eSNeed a1))), (5, oI (w64 (z10 + 1)))], [], 0, []⟩ (by kernel_rfl) trivial ?_
          exact IH19 _ (w64 (z10 + 1)) (Nat.le_refl _) h20
        · refine Tri.cond_true (useb (nT h18) (by kernel_rfl)) ?_
          refine Tri.rn [4] 0 [] [] [] ⟨27, [(4, oB false)], [], 0, []⟩ (by kernel_rfl) trivial ?_
          refine Tri.ret ?_
          obtain rfl := Option.some.inj h20
          try dsimp only at H
          obtain rfl := Option.some.inj H
          exact ⟨.inr rfl, rfl, rfl, Nat.le_refl _, rfl, by simp⟩
      · refine Tri.cond_false (useb (decide_eq_false h11) (by kernel_rfl)) ?_
        refine Tri.fix [] 0 [] ⟨27, [], [], 0, []⟩ (by kernel_rfl) ?_
        refine Tri.exit ?_
        repeat (with_reducible refine Ex.exit ?_)
        refine Bk.here ?_
        exact ⟨(), (Option.some.inj h20).symm, rfl⟩
  · refine Tri.cond_true (useb (nT (decide_eq_false h1)) (by kernel_rfl)) ?_
    refine Tri.rn [4] 0 [] [] [] ⟨27, [(4, oB false)], [], 0, []⟩ (by kernel_rfl) trivial ?_
    refine Tri.ret ?_
    obtain rfl := Option.some.inj H
    exact ⟨.inr rfl, rfl, rfl, Nat.le_refl _, rfl, by simp⟩
/-! laws_eqIns: function 235 -/
def laws_eqIns.f (k : Nat) (a0 : SIns) (a1 : SIns) : Option Bool := if a0.f0 = a1.f0 then (if a0.f1 = a1.f1 then (if a0.f2 = a1.f2 then (if a0.f3 = a1.f3 then (if a0.f4 = a1.f4 then (some true) else (some false)) else (some false)) else (some false)) else (some false)) else (some false)
set_option maxRecDepth 100000 in
theorem laws_eqIns.fn (k : Nat) (a0 : SIns) (a1 : SIns) (r : Bool) (H : laws_eqIns.f k a0 a1 = some r) : Fn Tryz.prog 235 [ag (eSIns a0), ag (eSIns a1)] [] (oB r) [] := by
  unfold laws_eqIns.f at H
  refine Fn.body (ts := [4]) Tryz.func235 rfl rfl (by decide) (by decide) (Nat.le_of_ble_eq_true rfl) (Nat.le_refl _) ?_
  refine Tri.rn [2, 3] 2 [] [] [] ⟨30, [(2, o1 (.ref 0 0)), (3, o1 (.ref 1 0))], [eSIns a0, eSIns a1], 0, []⟩ (by kernel_rfl) trivial ?_
  refine Tri.seq ?_
  refine Tri.rn [2, 3, 9] 2 [] [] [] ⟨30, [(2, o1 (.ref 0 0)), (3, o1 (.ref 1 0)), (9, oB (!(decide (a0.f0 = a1.f0))))], [eSIns a0, eSIns a1], 0, []⟩ (by kernel_rfl) trivial ?_
  rcases ite_some H with ⟨h1, H⟩ | ⟨h1, H⟩
  · refine Tri.cond_false (useb (nF (decide_eq_true h1)) (by kernel_rfl)) ?_
    refine Tri.skip ?_
    refine Tri.seq ?_
    refine Tri.rn [2, 3, 14] 2 [] [] [] ⟨30, [(2, o1 (.ref 0 0)), (3, o1 (.ref 1 0)), (14, oB (!(decide (a0.f1 = a1.f1))))], [eSIns a0, eSIns a1], 0, []⟩ (by kernel_rfl) trivial ?_
    rcases ite_some H with ⟨h2, H⟩ | ⟨h2, H⟩
    · refine Tri.cond_false (useb (nF (decide_eq_true h2)) (by kernel_rfl)) ?_
      refine Tri.skip ?_
      refine Tri.seq ?_
      refine Tri.rn [2, 3, 19] 2 [] [] [] ⟨30, [(2, o1 (.ref 0 0)), (3, o1 (.ref 1 0)), (19, oB (!(decide (a0.f2 = a1.f2))))], [eSIns a0, eSIns a1], 0, []⟩ (by kernel_rfl) trivial ?_
      rcases ite_some H with ⟨h3, H⟩ | ⟨h3, H⟩
      · refine Tri.cond_false (useb (nF (decide_eq_true h3)) (by kernel_rfl)) ?_
        refine Tri.skip ?_
        refine Tri.seq ?_
        refine Tri.rn [2, 3, 24] 2 [] [] [] ⟨30, [(2, o1 (.ref 0 0)), (3, o1 (.ref 1 0)), (24, oB (!(decide (a0.f3 = a1.f3))))], [eSIns a0, eSIns a1], 0, []⟩ (by kernel_rfl) trivial ?_
        rcases ite_some H with ⟨h4, H⟩ | ⟨h4, H⟩
        · refine Tri.cond_false (useb (nF (decide_eq_true h4)) (by kernel_rfl)) ?_
          refine Tri.skip ?_
          refine Tri.seq ?_
          refine Tri.rn [29] 0 [] [] [] ⟨30, [(29, oB (!(decide (a0.f4 = a1.f4))))], [], 0, []⟩ (by kernel_rfl) trivial ?_
          rcases ite_some H with ⟨h5, H⟩ | ⟨h5, H⟩
          · refine Tri.cond_false (useb (nF (decide_eq_true h5)) (by kernel_rfl)) ?_
            refine Tri.skip ?_
            refine Tri.rn [4] 0 [] [] [] ⟨30, [(4, oB true)], [], 0, []⟩ (by kernel_rfl) trivial ?_
            refine Tri.ret ?_
            obtain rfl := Option.some.inj H
            exact ⟨.inr rfl, rfl, rfl, Nat.le_refl _, rfl, by simp⟩
          · refine Tri.cond_true (useb (nT (decide_eq_false h5)) (by kernel_rfl)) ?_
            refine Tri.rn [4] 0 [] [] [] ⟨30, [(4, oB false)], [], 0, []⟩ (by kernel_rfl) trivial ?_
            refine Tri.ret ?_
            obtain rfl := Option.some.inj H
            exact ⟨.inr rfl, rfl, rfl, Nat.le_refl _, rfl, by simp⟩
        · refine Tri.cond_true (useb (nT (decide_eq_false h4)) (by kernel_rfl)) ?_
          refine Tri.rn [4] 0 [] [] [] ⟨30, [(4, oB false)], [], 0, []⟩ (by kernel_rfl) trivial ?_
          refine Tri.ret ?_
          obtain rfl := Option.some.inj H
          exact ⟨.inr rfl, rfl, rfl, Nat.le_refl _, rfl, by simp⟩
      · refine Tri.cond_true (useb (nT (decide_eq_false h3)) (by kernel_rfl)) ?_
        refine Tri.rn [4] 0 [] [] [] ⟨30, [(4, oB false)], [], 0, []⟩ (by kernel_rfl) trivial ?_
        refine Tri.ret ?_
        obtain rfl := Option.some.inj H
        exact ⟨.inr rfl, rfl, rfl, Nat.le_refl _, rfl, by simp⟩
    · refine Tri.cond_true (useb (nT (decide_eq_false h2)) (by kernel_rfl)) ?_
      refine Tri.rn [4] 0 [] [] [] ⟨30, [(4, oB false)], [], 0, []⟩ (by kernel_rfl) trivial ?_
      refine Tri.ret ?_
      obtain rfl := Option.some.inj H
      exact ⟨.inr rfl, rfl, rfl, Nat.le_refl _, rfl, by simp⟩
  · refine Tri.cond_true (useb (nT (decide_eq_false h1)) (by kernel_rfl)) ?_
    refine Tri.rn [4] 0 [] [] [] ⟨30, [(4, oB false)], [], 0, []⟩ (by kernel_rfl) trivial ?_
    refine Tri.ret ?_
    obtain rfl := Option.some.inj H
    exact ⟨.inr rfl, rfl, rfl, Nat.le_refl _, rfl, by simp⟩
/-! laws_eqInsS: function 206 -/
def laws_eqInsS.l1 : Nat → (List SIns) → (List SIns) → Int → Option (Bool ⊕ Unit)
  | 0, _, _, _ => none
  | k + 1, a0, a1, z10 => if z10 < (a0.length : Int) then ((at? a0 z10).bind fun x12 => (at? a1 z10).bind fun x14 => (laws_eqIns.f k x12 x14).bind fun r16 => if r16 = true then (laws_eqInsS.l1 k a0 a1 (w64 (z10 + 1))) else (some (.inl false))) else (some (.inr ()))
def laws_eqInsS.e2 (k : Nat) (a0 : (List SIns)) (a1 : (List SIns)) : Option (Bool ⊕ Unit) := laws_eqInsS.l1 k a0 a1 0
def laws_eqInsS.f (k : Nat) (a0 : (List SIns)) (a1 : (List SIns)) : Option Bool := if (a0.length : Int) = (a1.length : Int) then ((laws_eqInsS.e2 k a0 a1).bind fun v => match v with | .inl r => some r | .inr _ => some true) else (some false)
set_option maxRecDepth 100000 in
theorem laws_eqInsS.fn (k : Nat) (a0 : (List SIns)) (a1 : (List SIns)) (r : Bool) (H : laws_eqInsS.f k a0 a1 = some r) : Fn Tryz.prog 206 [o1 (.sl 5 (List.map eSIns a0)), o1 (.sl 5 (List.map eSIns a1))] [] (oB r) [] := by
  unfold laws_eqInsS.f at H
  refine Fn.body (ts := [4]) Tryz.func206 rfl rfl (by decide) (by decide) (Nat.le_of_ble_eq_true rfl) (Nat.le_refl _) ?_
  refine Tri.rn [0, 1] 0 [] [] [] ⟨27, [(0, o1 (.sl 5 (List.map eSIns a0))), (1, o1 (.sl 5 (List.map eSIns a1)))], [], 0, []⟩ (by kernel_rfl) trivial ?_
  refine Tri.seq ?_
  refine Tri.rn [0, 1, 10] 0 [] [(1, .ov [.sc (.int .i64 (a0.length : Int))]), (3, .ov [.sc (.int .i64 (a1.length : Int))])] [_, _] ⟨27, [(0, o1 (.sl 5 (List.map eSIns a0))), (1, o1 (.sl 5 (List.map eSIns a1))), (10, oB (!(decide ((a0.length : Int) = (a1.length : Int)))))], [], 0, []⟩ (by kernel_rfl) ⟨(ovlen (f := eSIns) (l := a0)), (ovlen (f := eSIns) (l := a1)), trivial⟩ ?_
  rcases ite_some H with ⟨h1, H⟩ | ⟨h1, H⟩
  · refine Tri.cond_false (useb (nF (decide_eq_true h1)) (by kernel_rfl)) ?_
    refine Tri.skip ?_
    obtain ⟨v21, h20, H⟩ := bind_some' H
    refine Tri.join (α := Unit) (fun w => v21 = .inr w) (fun _ => ⟨27, [], [], 0, []⟩) (fun w hw => ?_) ?_
    · rw [hw] at H; clear hw
      try dsimp only at H
      refine Tri.rn [4] 0 [] [] [] ⟨27, [(4, oB true)], [], 0, []⟩ (by kernel_rfl) trivial ?_
      refine Tri.ret ?_
      obtain rfl := Option.some.inj H
      exact ⟨.inr rfl, rfl, rfl, Nat.le_refl _, rfl, by simp⟩
    · unfold laws_eqInsS.e2 at h20
      refine Tri.rn [0, 1, 5] 0 [] [] [] ⟨27, [(0, o1 (.sl 5 (List.map eSIns a0))), (1, o1 (.sl 5 (List.map eSIns a1))), (5, oI 0)], [], 0, []⟩ (by kernel_rfl) trivial ?_
      refine Tri.block ?_
      refine Tri.loop k (TriR.ind (α := Int) (fun k x => laws_eqInsS.l1 k a0 a1 x) (fun x => ⟨27, [(0, o1 (.sl 5 (List.map eSIns a0))), (1, o1 (.sl 5 (List.map eSIns a1))), (5, oI x)], [], 0, []⟩) (fun _ => rfl) (fun k z10 h20 IH19 => ?_) k 0 h20)
      rw [laws_eqInsS.l1.eq_2] at h20
      refine Tri.seq ?_
      refine Tri.rn [0, 1, 5, 14] 0 [] [(2, .ov [.sc (.int .i64 (a0.length : Int))])] [_] ⟨27, [(0, o1 (.sl 5 (List.map eSIns a0))), (1, o1 (.sl 5 (List.map eSIns a1))), (5, oI z10), (14, oB (decide (z10 < (a0.length : Int))))], [], 0, []⟩ (by kernel_rfl) ⟨(ovlen (f := eSIns) (l := a0)), trivial⟩ ?_
      rcases ite_some h20 with ⟨h11, h20⟩ | ⟨h11, h20⟩
      · refine Tri.cond_true (useb (decide_eq_true h11) (by kernel_rfl)) ?_
        refine Tri.skip ?_
        refine Tri.seq ?_
        refine Tri.block ?_
        obtain ⟨x12, h13, h20⟩ := bind_some' h20
        obtain ⟨x14, h15, h20⟩ := bind_some' h20
        obtain ⟨r16, h17, h20⟩ := bind_some' h20
        refine Tri.dn hmix 8 [[], [], [0, 1], [0, 1, 2], [], [], [4, 5], [4, 5, 6], [0, 1, 2, 3, 4, 5, 6, 7], [0, 1, 2, 3, 4, 5, 6, 7, 8]] [0, 1, 5, 26] 0 [] [(2, .el (eSIns x12)), (6, .el (eSIns x14)), (8, .call (oB r16) [] false)] [_, _, _, _, _, _] ⟨27, [(0, o1 (.sl 5 (List.map eSIns a0))), (1, o1 (.sl 5 (List.map eSIns a1))), (5, oI z10), (26, oB (!r16))], [], 0, []⟩ (by kernel_rfl) ⟨(at?_0 h13), (at?_map (f := eSIns) h13), (at?_0 h15), (at?_map (f := eSIns) h15), (laws_eqIns.fn k x12 x14 r16 h17), (show (List.all [cB r16] PC.flatB) = true from rfl), trivial⟩ ?_
        rcases iteb_some h20 with ⟨h18, h20⟩ | ⟨h18, h20⟩
        · refine Tri.cond_false (useb (nF h18) (by kernel_rfl)) ?_
          refine Tri.skip ?_
          refine Tri.r1 [0, 1, 5] 0 [] [] [] ⟨27, [(0, o1 (.sl 5 (List.map eSIns a0))), (1, o1 (.sl 5 (List.map eSIns a1))), (5, oI (w64 (z10 + 1)))], [], 0, []⟩ (by kernel_rfl) trivial ?_
          exact IH19 _ (w64 (z10 + 1)) (Nat.le_refl _) h20
        · refine Tri.cond_true (useb (nT h18) (by kernel_rfl)) ?_
          refine Tri.rn [4] 0 [] [] [] ⟨27, [(4, oB false)], [], 0, []⟩ (by kernel_rfl) trivial ?_
          refine Tri.ret ?_
          obtain rfl := Option.some.inj h20
          try dsimp only at H
          obtain rfl := Option.some.inj H
          exact ⟨.inr rfl, rfl, rfl, Nat.le_refl _, rfl, by simp⟩
      · refine Tri.cond_false (useb (decide_eq_false h11) (by kernel_rfl)) ?_
        refine Tri.fix [] 0 [] ⟨27, [], [], 0, []⟩ (by kernel_rfl) ?_
        refine Tri.exit ?_
        repeat (with_reducible refine Ex.exit ?_)
        refine Bk.here ?_
        exact ⟨(), (Option.some.inj h20).symm, rfl⟩
  · refine Tri.cond_true (useb (nT (decide_eq_false h1)) (by kernel_rfl)) ?_
    refine Tri.rn [4] 0 [] [] [] ⟨27, [(4, oB false)], [], 0, []⟩ (by kernel_rfl) trivial ?_
    refine Tri.ret ?_
    obtain rfl := Option.some.inj H
    exact ⟨.inr rfl, rfl, rfl, Nat.le_refl _, rfl, by simp⟩
/-! laws_eqCode: function 161 -/
def laws_eqCode.f (k : Nat) (a0 : SCode) (a1 : SCode) : Option Bool := if a0.f0 = a1.f0 then (if a0.f1 = a1.f1 then (if a0.f2 = a1.f2 then (if a0.f3 = a1.f3 then ((laws_eqInsS.f k a0.f4 a1.f4).bind fun r5 => if r5 = true then (some true) else (some false)) else (some false)) else (some false)) else (some false)) else (some false)
set_option maxRecDepth 100000 in
theorem laws_eqCode.fn (k : Nat) (a0 : SCode) (a1 : SCode) (r : Bool) (H : laws_eqCode.f k a0 a1 = some r) : Fn Tryz.prog 161 [ag (eSCode a0), ag (eSCode a1)] [] (oB r) [] := by
  unfold laws_eqCode.f at H
  refine Fn.body (ts := [4]) Tryz.func161 rfl rfl (by decide) (by decide) (Nat.le_of_ble_eq_true rfl) (Nat.le_refl _) ?_
  refine Tri.rn [2, 3] 2 [] [] [] ⟨31, [(2, o1 (.ref 0 0)), (3, o1 (.ref 1 0))], [eSCode a0, eSCode a1], 0, []⟩ (by kernel_rfl) trivial ?_
  refine Tri.seq ?_
  refine Tri.rn [2, 3, 9] 2 [] [] [] ⟨31, [(2, o1 (.ref 0 0)), (3, o1 (.ref 1 0)), (9, oB (!(decide (a0.f0 = a1.f0))))], [eSCode a0, eSCode a1], 0, []⟩ (by kernel_rfl) trivial ?_
  rcases ite_some H with ⟨h1, H⟩ | ⟨h1, H⟩
  · refine Tri.cond_false (useb (nF (decide_eq_true h1)) (by kernel_rfl)) ?_
    refine Tri.skip ?_
    refine Tri.seq ?_
    refine Tri.rn [2, 3, 14] 2 [] [] [] ⟨31, [(2, o1 (.ref 0 0)), (3, o1 (.ref 1 0)), (14, oB (!(decide (a0.f1 = a1.f1))))], [eSCode a0, eSCode a1], 0, []⟩ (by kernel_rfl) trivial ?_
    rcases ite_some H with ⟨h2, H⟩ | ⟨h2, H⟩
    · refine Tri.cond_false (useb (nF (decide_eq_true h2)) (by kernel_rfl)) ?_
      refine Tri.skip ?_
      refine Tri.seq ?_
      refine Tri.rn [2, 3, 19] 2 [] [] [] ⟨31, [(2, o1 (.ref 0 0)), (3, o1 (.ref 1 0)), (19, oB (!(decide (a0.f2 = a1.f2))))], [eSCode a0, eSCode a1], 0, []⟩ (by kernel_rfl) trivial ?_
      rcases ite_some H with ⟨h3, H⟩ | ⟨h3, H⟩
      · refine Tri.cond_false (useb (nF (decide_eq_true h3)) (by kernel_rfl)) ?_
        refine Tri.skip ?_
        refine Tri.seq ?_
        refine Tri.rn [2, 3, 24] 2 [] [] [] ⟨31, [(2, o1 (.ref 0 0)), (3, o1 (.ref 1 0)), (24, oB (!(decide (a0.f3 = a1.f3))))], [eSCode a0, eSCode a1], 0, []⟩ (by kernel_rfl) trivial ?_
        rcases ite_some H with ⟨h4, H⟩ | ⟨h4, H⟩
        · refine Tri.cond_false (useb (nF (decide_eq_true h4)) (by kernel_rfl)) ?_
          refine Tri.skip ?_
          refine Tri.seq ?_
          obtain ⟨r5, h6, H⟩ := bind_some' H
          refine Tri.rn [30] 0 [] [(4, .call (oB r5) [] false)] [_, _] ⟨31, [(30, oB (!r5))], [], 0, []⟩ (by kernel_rfl) ⟨(laws_eqInsS.fn k a0.f4 a1.f4 r5 h6), (show (List.all [cB r5] PC.flatB) = true from rfl), trivial⟩ ?_
          rcases iteb_some H with ⟨h7, H⟩ | ⟨h7, H⟩
          · refine Tri.cond_false (useb (nF h7) (by kernel_rfl)) ?_
            refine Tri.skip ?_
            refine Tri.rn [4] 0 [] [] [] ⟨31, [(4, oB true)], [], 0, []⟩ (by kernel_rfl) trivial ?_
            refine Tri.ret ?_
            obtain rfl := Option.some.inj H
            exact ⟨.inr rfl, rfl, rfl, Nat.le_refl _, rfl, by simp⟩
          · refine Tri.cond_true (useb (nT h7) (by kernel_rfl)) ?_
            refine Tri.rn [4] 0 [] [] [] ⟨31, [(4, oB false)], [], 0, []⟩ (by kernel_rfl) trivial ?_
            refine Tri.ret ?_
            obtain rfl := Option.some.inj H
            exact ⟨.inr rfl, rfl, rfl, Nat.le_refl _, rfl, by simp⟩
        · refine Tri.cond_true (useb (nT (decide_eq_false h4)) (by kernel_rfl)) ?_
          refine Tri.rn [4] 0 [] [] [] ⟨31, [(4, oB false)], [], 0, []⟩ (by kernel_rfl) trivial ?_
          refine Tri.ret ?_
          obtain rfl := Option.some.inj H
          exact ⟨.inr rfl, rfl, rfl, Nat.le_refl _, rfl, by simp⟩
      · refine Tri.cond_true (useb (nT (decide_eq_false h3)) (by kernel_rfl)) ?_
        refine Tri.rn [4] 0 [] [] [] ⟨31, [(4, oB false)], [], 0, []⟩ (by kernel_rfl) trivial ?_
        refine Tri.ret ?_
        obtain rfl := Option.some.inj H
        exact ⟨.inr rfl, rfl, rfl, Nat.le_refl _, rfl, by simp⟩
    · refine Tri.cond_true (useb (nT (decide_eq_false h2)) (by kernel_rfl)) ?_
      refine Tri.rn [4] 0 [] [] [] ⟨31, [(4, oB false)], [], 0, []⟩ (by kernel_rfl) trivial ?_
      refine Tri.ret ?_
      obtain rfl := Option.some.inj H
      exact ⟨.inr rfl, rfl, rfl, Nat.le_refl _, rfl, by simp⟩
  · refine Tri.cond_true (useb (nT (decide_eq_false h1)) (by kernel_rfl)) ?_
    refine Tri.rn [4] 0 [] [] [] ⟨31, [(4, oB false)], [], 0, []⟩ (by kernel_rfl) trivial ?_
    refine Tri.ret ?_
    obtain rfl := Option.some.inj H
    exact ⟨.inr rfl, rfl, rfl, Nat.le_refl _, rfl, by simp⟩
/-! laws_eqCodeS: function 101 -/
def laws_eqCodeS.l1 : Nat → (List SCode) → (List SCode) → Int → Option (Bool ⊕ Unit)
  | 0, _, _, _ => none
  | k + 1, a0, a1, z10 => if z10 < (a0.length : Int) then ((at? a0 z10).bind fun x12 => (at? a1 z10).bind fun x14 => (laws_eqCode.f k x12 x14).bind fun r16 => if r16 = true then (laws_eqCodeS.l1 k a0 a1 (w64 (z10 + 1))) else (some (.inl false))) else (some (.inr ()))
def laws_eqCodeS.e2 (k : Nat) (a0 : (List SCode)) (a1 : (List SCode)) : Option (Bool ⊕ Unit) := laws_eqCodeS.l1 k a0 a1 0
def laws_eqCodeS.f (k : Nat) (a0 : (List SCode)) (a1 : (List SCode)) : Option Bool := if (a0.length : Int) = (a1.length : Int) then ((laws_eqCodeS.e2 k a0 a1).bind fun v => match v with | .inl r => some r | .inr _ => some true) else (some false)
set_option maxRecDepth 100000 in
theorem laws_eqCodeS.fn (k : Nat) (a0 : (List SCode)) (a1 : (List SCode)) (r : Bool) (H : laws_eqCodeS.f k a0 a1 = some r) : Fn Tryz.prog 101 [o1 (.sl 5 (List.map eSCode a0)), o1 (.sl 5 (List.map eSCode a1))] [] (oB r) [] := by
  unfold laws_eqCodeS.f at H
  refine Fn.body (ts := [4]) Tryz.func101 rfl rfl (by decide) (by decide) (Nat.le_of_ble_eq_true rfl) (Nat.le_refl _) ?_
  refine Tri.rn [0, 1] 0 [] [] [] ⟨27, [(0, o1 (.sl 5 (List.map eSCode a0))), (1, o1 (.sl 5 (List.map eSCode a1)))], [], 0, []⟩ (by kernel_rfl) trivial ?_
  refine Tri.seq ?_
  refine Tri.rn [0, 1, 10] 0 [] [(1, .ov [.sc (.int .i64 (a0.length : Int))]), (3, .ov [.sc (.int .i64 (a1.length : Int))])] [_, _] ⟨27, [(0, o1 (.sl 5 (List.map eSCode a0))), (1, o1 (.sl 5 (List.map eSCode a1))), (10, oB (!(decide ((a0.length : Int) = (a1.length : Int)))))], [], 0, []⟩ (by kernel_rfl) ⟨(ovlen (f := eSCode) (l := a0)), (ovlen (f := eSCode) (l := a1)), trivial⟩ ?_
  rcases ite_some H with ⟨h1, H⟩ | ⟨h1, H⟩
  · refine Tri.cond_false (useb (nF (decide_eq_true h1)) (by kernel_rfl)) ?_
    refine Tri.skip ?_
    obtain ⟨v21, h20, H⟩ := bind_some' H
    refine Tri.join (α := Unit) (fun w => v21 = .inr w) (fun _ => ⟨27, [], [], 0, []⟩) (fun w hw => ?_) ?_
    · rw [hw] at H; clear hw
      try dsimp only at H
      refine Tri.rn [4] 0 [] [] [] ⟨27, [(4, oB true)], [], 0, []⟩ (by kernel_rfl) trivial ?_
      refine Tri.ret ?_
      obtain rfl := Option.some.inj H
      exact ⟨.inr rfl, rfl, rfl, Nat.le_refl _, rfl, by simp⟩
    · unfold laws_eqCodeS.e2 at h20
      refine Tri.rn [0, 1, 5] 0 [] [] [] ⟨27, [(0, o1 (.sl 5 (List.map eSCode a0))), (1, o1 (.sl 5 (List.map eSCode a1))), (5, oI 0)], [], 0, []⟩ (by kernel_rfl) trivial ?_
      refine Tri.block ?_
      refine Tri.loop k (TriR.ind (α := Int) (fun k x => laws_eqCodeS.l1 k a0 a1 x) (fun x => ⟨27, [(0, o1 (.sl 5 (List.map eSCode a0))), (1, o1 (.sl 5 (List.map eSCode a1))), (5, oI x)], [], 0, []⟩) (fun _ => rfl) (fun k z10 h20 IH19 => ?_) k 0 h20)
      rw [laws_eqCodeS.l1.eq_2] at h20
      refine Tri.seq ?_
      refine Tri.rn [0, 1, 5, 14] 0 [] [(2, .ov [.sc (.int .i64 (a0.length : Int))])] [_] ⟨27, [(0, o1 (.sl 5 (List.map eSCode a0))), (1, o1 (.sl 5 (List.map eSCode a1))), (5, oI z10), (14, oB (decide (z10 < (a0.length : Int))))], [], 0, []⟩ (by kernel_rfl) ⟨(ovlen (f := eSCode) (l := a0)), trivial⟩ ?_
      rcases ite_some h20 with ⟨h11, h20⟩ | ⟨h11, h20⟩
      · refine Tri.cond_true (useb (decide_eq_true h11) (by kernel_rfl)) ?_
        refine Tri.skip ?_
        refine Tri.seq ?_
        refine Tri.block ?_
        obtain ⟨x12, h13, h20⟩ := bind_some' h20
        obtain ⟨x14, h15, h20⟩ := bind_some' h20
        obtain ⟨r16, h17, h20⟩ := bind_some' h20
        refine Tri.dn hmix 8 [[], [], [0, 1], [0, 1, 2], [], [], [4, 5], [4, 5, 6], [0, 1, 2, 3, 4, 5, 6, 7], [0, 1, 2, 3, 4, 5, 6, 7, 8]] [0, 1, 5, 26] 0 [] [(2, .el (eSCode x12)), (6, .el (eSCode x14)), (8, .call (oB r16) [] false)] [_, _, _, _, _, _] ⟨27, [(0, o1 (.sl 5 (List.map eSCode a0))), (1, o1 (.sl 5 (List.map eSCode a1))), (5, oI z10), (26, oB (!r16))], [], 0, []⟩ (by kernel_rfl) ⟨(at?_0 h13), (at?_map (f := eSCode) h13), (at?_0 h15), (at?_map (f := eSCode) h15), (laws_eqCode.fn k x12 x14 r16 h17), (show (List.all [cB r16] PC.flatB) = true from rfl), trivial⟩ ?_
        rcases iteb_some h20 with ⟨h18, h20⟩ | ⟨h18, h20⟩
        · refine Tri.cond_false (useb (nF h18) (by kernel_rfl)) ?_
          refine Tri.skip ?_
          refine Tri.r1 [0, 1, 5] 0 [] [] [] ⟨27, [(0, o1 (.sl 5 (List.map eSCode a0))), (1, o1 (.sl 5 (List.map eSCode a1))), (5, oI (w64 (z10 + 1)))], [], 0, []⟩ (by kernel_rfl) trivial ?_
          exact IH19 _ (w64 (z10 + 1)) (Nat.le_refl _) h20
        · refine Tri.cond_true (useb (nT h18) (by kernel_rfl)) ?_
          refine Tri.rn [4] 0 [] [] [] ⟨27, [(4, oB false)], [], 0, []⟩ (by kernel_rfl) trivial ?_
          refine Tri.ret ?_
          obtain rfl := Option.some.inj h20
          try dsimp only at H
          obtain rfl := Option.some.inj H
          exact ⟨.inr rfl, rfl, rfl, Nat.le_refl _, rfl, by simp⟩
      · refine Tri.cond_false (useb (decide_eq_false h11) (by kernel_rfl)) ?_
        refine Tri.fix [] 0 [] ⟨27, [], [], 0, []⟩ (by kernel_rfl) ?_
        refine Tri.exit ?_
        repeat (with_reducible refine Ex.exit ?_)
        refine Bk.here ?_
        exact ⟨(), (Option.some.inj h20).symm, rfl⟩
  · refine Tri.cond_true (useb (nT (decide_eq_false h1)) (by kernel_rfl)) ?_
    refine Tri.rn [4] 0 [] [] [] ⟨27, [(4, oB false)], [], 0, []⟩ (by kernel_rfl) trivial ?_
    refine Tri.ret ?_
    obtain rfl := Option.some.inj H
    exact ⟨.inr rfl, rfl, rfl, Nat.le_refl _, rfl, by simp⟩
/-! laws_eqObject: function 44 -/
def laws_eqObject.f (k : Nat) (a0 : SObj) (a1 : SObj) : Option Bool := if a0.f0 = a1.f0 then (if a0.f1 = a1.f1 then ((laws_eqNeedS.f k a0.f2 a1.f2).bind fun r3 => if r3 = true then ((laws_eqGlobalS.f k a0.f3 a1.f3).bind fun r6 => if r6 = true then ((laws_eqCodeS.f k a0.f4 a1.f4).bind fun r9 => if r9 = true then (some true) else (some false)) else (some false)) else (some false)) else (some false)) else (some false)
set_option maxRecDepth 100000 in
theorem laws_eqObject.fn (k : Nat) (a0 : SObj) (a1 : SObj) (r : Bool) (H : laws_eqObject.f k a0 a1 = some r) : Fn Tryz.prog 44 [ag (eSObj a0), ag (eSObj a1)] [] (oB r) [] := by
  unfold laws_eqObject.f at H
  refine Fn.body (ts := [4]) Tryz.func44 rfl rfl (by decide) (by decide) (Nat.le_of_ble_eq_true rfl) (Nat.le_refl _) ?_
  refine Tri.rn [2, 3] 2 [] [] [] ⟨33, [(2, o1 (.ref 0 0)), (3, o1 (.ref 1 0))], [eSObj a0, eSObj a1], 0, []⟩ (by kernel_rfl) trivial ?_
  refine Tri.seq ?_
  refine Tri.rn [2, 3, 9] 2 [] [] [] ⟨33, [(2, o1 (.ref 0 0)), (3, o1 (.ref 1 0)), (9, oB (!(decide (a0.f0 = a1.f0))))], [eSObj a0, eSObj a1], 0, []⟩ (by kernel_rfl) trivial ?_
  rcases ite_some H with ⟨h1, H⟩ | ⟨h1, H⟩
  · refine Tri.cond_false (useb (nF (decide_eq_true h1)) (by kernel_rfl)) ?_
    refine Tri.skip ?_
    refine Tri.seq ?_
    refine Tri.rn [2, 3, 14] 2 [] [] [] ⟨33, [(2, o1 (.ref 0 0)), (3, o1 (.ref 1 0)), (14, oB (!(decide (a0.f1 = a1.f1))))], [eSObj a0, eSObj a1], 0, []⟩ (by kernel_rfl) trivial ?_
    rcases ite_some H with ⟨h2, H⟩ | ⟨h2, H⟩
    · refine Tri.cond_false (useb (nF (decide_eq_true h2)) (by kernel_rfl)) ?_
      refine Tri.skip ?_
      refine Tri.seq ?_
      obtain ⟨r3, h4, H⟩ := bind_some' H
      refine Tri.rn [2, 3, 20] 2 [] [(4, .call (oB r3) [] false)] [_, _] ⟨33, [(2, o1 (.ref 0 0)), (3, o1 (.ref 1 0)), (20, oB (!r3))], [eSObj a0, eSObj a1], 0, []⟩ (by kernel_rfl) ⟨(laws_eqNeedS.fn k a0.f2 a1.f2 r3 h4), (show (List.all [cB r3] PC.flatB) = true from rfl), trivial⟩ ?_
      rcases iteb_some H with ⟨h5, H⟩ | ⟨h5, H⟩
      · refine Tri.cond_false (useb (nF h5) (by kernel_rfl)) ?_
        refine Tri.skip ?_
        refine Tri.seq ?_
        obtain ⟨r6, h7, H⟩ := bind_some' H
        refine Tri.rn [2, 3, 26] 2 [] [(4, .call (oB r6) [] false)] [_, _] ⟨33, [(2, o1 (.ref 0 0)), (3, o1 (.ref 1 0)), (26, oB (!r6))], [eSObj a0, eSObj a1], 0, []⟩ (by kernel_rfl) ⟨(laws_eqGlobalS.fn k a0.f3 a1.f3 r6 h7), (show (List.all [cB r6] PC.flatB) = true from rfl), trivial⟩ ?_
        rcases iteb_some H with ⟨h8, H⟩ | ⟨h8, H⟩
        · refine Tri.cond_false (useb (nF h8) (by kernel_rfl)) ?_
          refine Tri.skip ?_
          refine Tri.seq ?_
          obtain ⟨r9, h10, H⟩ := bind_some' H
          refine Tri.rn [32] 0 [] [(4, .call (oB r9) [] false)] [_, _] ⟨33, [(32, oB (!r9))], [], 0, []⟩ (by kernel_rfl) ⟨(laws_eqCodeS.fn k a0.f4 a1.f4 r9 h10), (show (List.all [cB r9] PC.flatB) = true from rfl), trivial⟩ ?_
          rcases iteb_some H with ⟨h11, H⟩ | ⟨h11, H⟩
          · refine Tri.cond_false (useb (nF h11) (by kernel_rfl)) ?_
            refine Tri.skip ?_
            refine Tri.rn [4] 0 [] [] [] ⟨33, [(4, oB true)], [], 0, []⟩ (by kernel_rfl) trivial ?_
            refine Tri.ret ?_
            obtain rfl := Option.some.inj H
            exact ⟨.inr rfl, rfl, rfl, Nat.le_refl _, rfl, by simp⟩
          · refine Tri.cond_true (useb (nT h11) (by kernel_rfl)) ?_
            refine Tri.rn [4] 0 [] [] [] ⟨33, [(4, oB false)], [], 0, []⟩ (by kernel_rfl) trivial ?_
            refine Tri.ret ?_
            obtain rfl := Option.some.inj H
            exact ⟨.inr rfl, rfl, rfl, Nat.le_refl _, rfl, by simp⟩
        · refine Tri.cond_true (useb (nT h8) (by kernel_rfl)) ?_
          refine Tri.rn [4] 0 [] [] [] ⟨33, [(4, oB false)], [], 0, []⟩ (by kernel_rfl) trivial ?_
          refine Tri.ret ?_
          obtain rfl := Option.some.inj H
          exact ⟨.inr rfl, rfl, rfl, Nat.le_refl _, rfl, by simp⟩
      · refine Tri.cond_true (useb (nT h5) (by kernel_rfl)) ?_
        refine Tri.rn [4] 0 [] [] [] ⟨33, [(4, oB false)], [], 0, []⟩ (by kernel_rfl) trivial ?_
        refine Tri.ret ?_
        obtain rfl := Option.some.inj H
        exact ⟨.inr rfl, rfl, rfl, Nat.le_refl _, rfl, by simp⟩
    · refine Tri.cond_true (useb (nT (decide_eq_false h2)) (by kernel_rfl)) ?_
      refine Tri.rn [4] 0 [] [] [] ⟨33, [(4, oB false)], [], 0, []⟩ (by kernel_rfl) trivial ?_
      refine Tri.ret ?_
      obtain rfl := Option.some.inj H
      exact ⟨.inr rfl, rfl, rfl, Nat.le_refl _, rfl, by simp⟩
  · refine Tri.cond_true (useb (nT (decide_eq_false h1)) (by kernel_rfl)) ?_
    refine Tri.rn [4] 0 [] [] [] ⟨33, [(4, oB false)], [], 0, []⟩ (by kernel_rfl) trivial ?_
    refine Tri.ret ?_
    obtain rfl := Option.some.inj H
    exact ⟨.inr rfl, rfl, rfl, Nat.le_refl _, rfl, by simp⟩
/-! laws_FnExactObjectOK: function 8 -/
def laws_FnExactObjectOK.e1 (k : Nat) (r6 : Bool) (r10 : Bool) : Option (Bool ⊕ Unit) := if r10 = true then (if r6 = true then (some (.inr ())) else (some (.inl false))) else (if r6 = true then (some (.inl false)) else (some (.inr ())))
def laws_FnExactObjectOK.f (k : Nat) (a0 : SObj) : Option Bool := (laws_szObject.f k a0 1048576).bind fun r1 => if r1 < 0 then (some true) else ((laws_toObject.f k a0).bind fun r4 => (spec_ObjectOK.f k r4.1).bind fun r6 => (laws_toObject.f k a0).bind fun r8 => (impl_ObjectOK.f k r8.1).bind fun r10 => (laws_FnExactObjectOK.e1 k r6 r10).bind fun v => match v with | .inl r => some r | .inr _ => (laws_toObject.f k a0).bind fun r17 => (laws_eqObject.f k r8.1 r17.1).bind fun r19 => if r19 = true then (some true) else (some false))
set_option maxRecDepth 100000 in
theorem laws_FnExactObjectOK.fn (k : Nat) (a0 : SObj) (r : Bool) (H : laws_FnExactObjectOK.f k a0 = some r) : Fn Tryz.prog 8 [ag (eSObj a0)] [] (oB r) [] := by
  unfold laws_FnExactObjectOK.f at H
  refine Fn.body (ts := [2]) Tryz.func8 rfl rfl (by decide) (by decide) (Nat.le_of_ble_eq_true rfl) (Nat.le_refl _) ?_
  refine Tri.rn [1] 1 [] [] [] ⟨27, [(1, o1 (.ref 0 0))], [eSObj a0], 0, []⟩ (by kernel_rfl) trivial ?_
  refine Tri.rn [1, 3] 1 [] [] [] ⟨27, [(1, o1 (.ref 0 0)), (3, oI 1048576)], [eSObj a0], 0, []⟩ (by kernel_rfl) trivial ?_
  obtain ⟨r1, h2, H⟩ := bind_some' H
  refine Tri.rn [1, 3] 1 [] [(2, .call (oI r1) [] false)] [_, _] ⟨27, [(1, o1 (.ref 0 0)), (3, oI r1)], [eSObj a0], 0, []⟩ (by kernel_rfl) ⟨(laws_szObject.fn k a0 1048576 r1 h2), (show (List.all [cI r1] PC.flatB) = true from rfl), trivial⟩ ?_
  refine Tri.seq ?_
  refine Tri.rn [1, 11] 1 [] [] [] ⟨27, [(1, o1 (.ref 0 0)), (11, oB (decide (r1 < 0)))], [eSObj a0], 0, []⟩ (by kernel_rfl) trivial ?_
  rcases ite_some H with ⟨h3, H⟩ | ⟨h3, H⟩
  · refine Tri.cond_true (useb (decide_eq_true h3) (by kernel_rfl)) ?_
    refine Tri.rn [2] 0 [] [] [] ⟨27, [(2, oB true)], [], 0, []⟩ (by kernel_rfl) trivial ?_
    refine Tri.ret ?_
    obtain rfl := Option.some.inj H
    exact ⟨.inr rfl, rfl, rfl, Nat.le_refl _, rfl, by simp⟩
  · refine Tri.cond_false (useb (decide_eq_false h3) (by kernel_rfl)) ?_
    refine Tri.skip ?_
    obtain ⟨r4, h5, H⟩ := bind_some' H
    obtain ⟨r6, h7, H⟩ := bind_some' H
    refine Tri.rn [1, 4] 1 [] [(1, .call (ag (eSObj r4.1)) [] true), (2, .call (oB r6) [] false)] [_, _, _] ⟨27, [(1, o1 (.ref 0 0)), (4, oB r6)], [eSObj a0], 0, []⟩ (by kernel_rfl) ⟨(laws_toObject.fn k a0 r4 h5), (spec_ObjectOK.fn k r4.1 r6 h7), (show (List.all [cB r6] PC.flatB) = true from rfl), trivial⟩ ?_
    obtain ⟨r8, h9, H⟩ := bind_some' H
    refine Tri.rn [1, 4, 5] 2 [] [(1, .call (ag (eSObj r8.1)) [] true)] [_] ⟨27, [(1, o1 (.ref 0 0)), (4, oB r6), (5, o1 (.ref 1 0))], [eSObj a0, eSObj r8.1], 0, []⟩ (by kernel_rfl) ⟨(laws_toObject.fn k a0 r8 h9), trivial⟩ ?_
    obtain ⟨r10, h11, H⟩ := bind_some' H
    refine Tri.rn [1, 4, 5, 6] 2 [] [(1, .call (oB r10) [] false)] [_, _] ⟨27, [(1, o1 (.ref 0 0)), (4, oB r6), (5, o1 (.ref 1 0)), (6, oB r10)], [eSObj a0, eSObj r8.1], 0, []⟩ (by kernel_rfl) ⟨(impl_ObjectOK.fn k r8.1 r10 h11), (show (List.all [cB r10] PC.flatB) = true from rfl), trivial⟩ ?_
    obtain ⟨v16, h15, H⟩ := bind_some' H
    refine Tri.join (α := Unit) (fun w => v16 = .inr w) (fun _ => ⟨27, [(1, o1 (.ref 0 0)), (5, o1 (.ref 1 0))], [eSObj a0, eSObj r8.1], 0, []⟩) (fun w hw => ?_) ?_
    · rw [hw] at H; clear hw
      try dsimp only at H
      refine Tri.seq ?_
      obtain ⟨r17, h18, H⟩ := bind_some' H
      obtain ⟨r19, h20, H⟩ := bind_some' H
      refine Tri.dn hmix 3 [[], [], [1], [0, 1, 2], [0, 1, 2, 3]] [26] 0 [] [(2, .call (ag (eSObj r17.1)) [] true), (3, .call (oB r19) [] false)] [_, _, _] ⟨27, [(26, oB (!r19))], [], 0, []⟩ (by kernel_rfl) ⟨(laws_toObject.fn k a0 r17 h18), (laws_eqObject.fn k r8.1 r17.1 r19 h20), (show (List.all [cB r19] PC.flatB) = true from rfl), trivial⟩ ?_
      rcases iteb_some H with ⟨h21, H⟩ | ⟨h21, H⟩
      · refine Tri.cond_false (useb (nF h21) (by kernel_rfl)) ?_
        refine Tri.skip ?_
        refine Tri.rn [2] 0 [] [] [] ⟨27, [(2, oB true)], [], 0, []⟩ (by kernel_rfl) trivial ?_
        refine Tri.ret ?_
        obtain rfl := Option.some.inj H
        exact ⟨.inr rfl, rfl, rfl, Nat.le_refl _, rfl, by simp⟩
      · refine Tri.cond_true (useb (nT h21) (by kernel_rfl)) ?_
        refine Tri.rn [2] 0 [] [] [] ⟨27, [(2, oB false)], [], 0, []⟩ (by kernel_rfl) trivial ?_
        refine Tri.ret ?_
        obtain rfl := Option.some.inj H
        exact ⟨.inr rfl, rfl, rfl, Nat.le_refl _, rfl, by simp⟩
    · unfold laws_FnExactObjectOK.e1 at h15
      refine Tri.rn [1, 5, 21] 2 [] [] [] ⟨27, [(1, o1 (.ref 0 0)), (5, o1 (.ref 1 0)), (21, oB (!(r10 == r6)))], [eSObj a0, eSObj r8.1], 0, []⟩ (by kernel_rfl) trivial ?_
      rcases iteb_some h15 with ⟨h12, h15⟩ | ⟨h12, h15⟩
      · rcases iteb_some h15 with ⟨h13, h15⟩ | ⟨h13, h15⟩
        · refine Tri.cond_false (useb (nF (beqv h12 h13)) (by kernel_rfl)) ?_
          refine Tri.fix [1, 5] 2 [] ⟨27, [(1, o1 (.ref 0 0)), (5, o1 (.ref 1 0))], [eSObj a0, eSObj r8.1], 0, []⟩ (by kernel_rfl) ?_
          refine Tri.skip ?_
          exact ⟨(), (Option.some.inj h15).symm, rfl⟩
        · refine Tri.cond_true (useb (nT (beqv h12 h13)) (by kernel_rfl)) ?_
          refine Tri.rn [2] 0 [] [] [] ⟨27, [(2, oB false)], [], 0, []⟩ (by kernel_rfl) trivial ?_
          refine Tri.ret ?_
          obtain rfl := Option.some.inj h15
          try dsimp only at H
          obtain rfl := Option.some.inj H
          exact ⟨.inr rfl, rfl, rfl, Nat.le_refl _, rfl, by simp⟩
      · rcases iteb_some h15 with ⟨h14, h15⟩ | ⟨h14, h15⟩
        · refine Tri.cond_true (useb (nT (beqv h12 h14)) (by kernel_rfl)) ?_
          refine Tri.rn [2] 0 [] [] [] ⟨27, [(2, oB false)], [], 0, []⟩ (by kernel_rfl) trivial ?_
          refine Tri.ret ?_
          obtain rfl := Option.some.inj h15
          try dsimp only at H
          obtain rfl := Option.some.inj H
          exact ⟨.inr rfl, rfl, rfl, Nat.le_refl _, rfl, by simp⟩
        · refine Tri.cond_false (useb (nF (beqv h12 h14)) (by kernel_rfl)) ?_
          refine Tri.fix [1, 5] 2 [] ⟨27, [(1, o1 (.ref 0 0)), (5, o1 (.ref 1 0))], [eSObj a0, eSObj r8.1], 0, []⟩ (by kernel_rfl) ?_
          refine Tri.skip ?_
          exact ⟨(), (Option.some.inj h15).symm, rfl⟩
end Go.Proofs.YtdoenfpleokadaaGreatDoor.E
