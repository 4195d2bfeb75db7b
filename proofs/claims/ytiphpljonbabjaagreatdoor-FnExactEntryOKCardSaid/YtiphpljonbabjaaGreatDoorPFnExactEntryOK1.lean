/- Functions of the program and their contracts: printed by ep3.py, a program of this session. -/
import Derived.Test.YtiphpljonbabjaaGreatDoorPFnExactEntryOK0
import Derived.Test.YtiphpljonbabjaaGreatDoorProg
set_option maxRecDepth 100000
set_option linter.unusedVariables false
set_option linter.unusedSectionVars false
set_option linter.unusedSimpArgs false
namespace Go.Proofs.YtiphpljonbabjaaGreatDoor.E
open Go.RowKit
/-! slices_IndexFunc___impl_Need_impl_Need_1: function 67 -/
def slices_IndexFunc___impl_Need_impl_Need_1.l1 : Nat → (List SNeed) → Int → Option (Int ⊕ Unit)
  | 0, _, _ => none
  | k + 1, a0, z7 => if z7 < (a0.length : Int) then ((at? a0 z7).bind fun x9 => (impl_areAll_impl_Need__1_1.f k x9).bind fun r11 => if r11 = true then (some (.inl z7)) else (slices_IndexFunc___impl_Need_impl_Need_1.l1 k a0 (w64 (z7 + 1)))) else (some (.inr ()))
def slices_IndexFunc___impl_Need_impl_Need_1.e2 (k : Nat) (a0 : (List SNeed)) : Option (Int ⊕ Unit) := slices_IndexFunc___impl_Need_impl_Need_1.l1 k a0 0
def slices_IndexFunc___impl_Need_impl_Need_1.f (k : Nat) (a0 : (List SNeed)) : Option Int := (slices_IndexFunc___impl_Need_impl_Need_1.e2 k a0).bind fun v => match v with | .inl r => some r | .inr _ => some (-1)
theorem slices_IndexFunc___impl_Need_impl_Need_1.fn {k : Nat} {a0 : (List SNeed)} {r : Int} (H : slices_IndexFunc___impl_Need_impl_Need_1.f k a0 = some r) : Fn Tryz.prog 67 [o1 (.sl 2 (List.map eSNeed a0)), o1 (.fn 51 [.cel ([.sc (.func (.func 39) #[] #[])]) 0])] [] (oI r) [] := by
 refine Fn.bd [4] Tryz.func67 ?_
 refine rn [0, 1] 0 [] [] ?_
 refine jr H (fun _ => ⟨19, [], [], 0, []⟩) (fun _ H => ?_) fun v16 h15 H => ?_
 ·refine rn [4] 0 [] [] ?_
  refine Tri.ret ?_
  cases H;exact eR
 refine rn [0, 1, 7, 8] 0 [] [hL 1 eSNeed a0] ?_
 refine bl ?_
 refine lo Int k (fun k x => slices_IndexFunc___impl_Need_impl_Need_1.l1 k a0 x) (fun x => ⟨19, [(0, o1 (.sl 2 (List.map eSNeed a0))), (1, o1 (.fn 51 [.cel ([.sc (.func (.func 39) #[] #[])]) 0])), (7, oI (a0.length : Int)), (8, oI x)], [], 0, []⟩) 0 h15 fun k z7 h15 IH14 => ?_
 rw [slices_IndexFunc___impl_Need_impl_Need_1.l1.eq_2] at h15
 refine rn [0, 1, 7, 8, 9] 0 [] [] ?_
 refine sq ?_
 refine ci h15 (fun h8 h15 => ?_) fun h8 h15 => ?_
 ·refine sk ?_
  refine sq ?_
  refine bl ?_
  refine rn [0, 1, 5, 7, 8] 0 [] [] ?_
  obtain ⟨x9, h10, h15⟩ := bs h15
  obtain ⟨r11, h12, h15⟩ := bs h15
  refine rn [0, 1, 5, 7, 8, 16] 0 [] [hE 3 eSNeed h10, hC 5 (impl_areAll_impl_Need__1_1.fn h12)] ?_
  refine cb h15 (fun h13 h15 => ?_) fun h13 h15 => ?_
  ·refine rn [4] 0 [] [] ?_
   refine Tri.ret ?_
   cases h15;cases H;exact eR
  refine sk ?_
  refine rl [0, 1, 7, 8] 0 [] [] ?_
  exact lb IH14 (w64 (z7 + 1)) h15
 refine fx [] 0 [] ?_
 refine xi ?_
 exact pe () h15
/-! slices_ContainsFunc___impl_Need_impl_Need_1: function 50 -/
def slices_ContainsFunc___impl_Need_impl_Need_1.f (k : Nat) (a0 : (List SNeed)) : Option Bool := (slices_IndexFunc___impl_Need_impl_Need_1.f k a0).bind fun r1 => some (decide ((0 : Int) ≤ r1))
theorem slices_ContainsFunc___impl_Need_impl_Need_1.fn {k : Nat} {a0 : (List SNeed)} {r : Bool} (H : slices_ContainsFunc___impl_Need_impl_Need_1.f k a0 = some r) : Fn Tryz.prog 50 [o1 (.sl 2 (List.map eSNeed a0)), o1 (.fn 51 [.cel ([.sc (.func (.func 39) #[] #[])]) 0])] [] (oB r) [] := by
 refine Fn.bd [4] Tryz.func50 ?_
 refine rn [0, 1] 0 [] [] ?_
 obtain ⟨r1, h2, H⟩ := bs H
 refine rn [4] 0 [] [hC 2 (slices_IndexFunc___impl_Need_impl_Need_1.fn h2)] ?_
 refine Tri.ret ?_
 cases H;exact eR
/-! impl_areAll_impl_Need_1: function 38 -/
def impl_areAll_impl_Need_1.f (k : Nat) (a0 : (List SNeed)) : Option Bool := (slices_ContainsFunc___impl_Need_impl_Need_1.f k a0).bind fun r1 => some (!r1)
theorem impl_areAll_impl_Need_1.fn {k : Nat} {a0 : (List SNeed)} {r : Bool} (H : impl_areAll_impl_Need_1.f k a0 = some r) : Fn Tryz.prog 38 [o1 (.sl 2 (List.map eSNeed a0)), o1 (.sc (.func (.func 39) #[] #[]))] [] (oB r) [] := by
 refine Fn.bd [4] Tryz.func38 ?_
 refine rn [0, 3] 1 [] [] ?_
 obtain ⟨r1, h2, H⟩ := bs H
 refine rn [4] 0 [] [hC 2 (slices_ContainsFunc___impl_Need_impl_Need_1.fn h2)] ?_
 refine Tri.ret ?_
 cases H;exact eR
/-! impl_ObjectOK: function 26 -/
def impl_ObjectOK.e1 (k : Nat) (a0 : SObj) : Option Bool := (impl_isName.f k a0.f0).bind fun r1 => if r1 = true then ((impl_isPrint.f k a0.f1).bind fun r4 => if r4 = true then (if (20 : Int) < (a0.f2.length : Int) then (some true) else (if (100 : Int) < (a0.f3.length : Int) then (some true) else ((impl_within.f k (a0.f4.length : Int) 1 60).bind fun r9 => some (!r9)))) else (some true)) else (some true)
def impl_ObjectOK.e2 (k : Nat) (x44 : SNeed) : Option Bool := (impl_isName.f k x44.f0).bind fun r46 => if r46 = true then ((impl_within.f k x44.f1 0 100).bind fun r49 => some (!r49)) else (some true)
def impl_ObjectOK.l3 : Nat → SObj → (List ByteArray) → Int → Option (Bool ⊕ (List ByteArray))
  | 0, _, _, _ => none
  | k + 1, a0, z41, z42 => if z42 < (a0.f3.length : Int) then ((at? a0.f3 z42).bind fun x44 => (impl_ObjectOK.e2 k x44).bind fun y51 => if y51 = true then (some (.inl false)) else (if (z41 ++ ([x44.f0] : List ByteArray)).length * 16 ≤ 140737488355328 then (impl_ObjectOK.l3 k a0 (z41 ++ ([x44.f0] : List ByteArray)) (w64 (z42 + 1))) else none)) else (some (.inr z41))
def impl_ObjectOK.e4 (k : Nat) (a0 : SObj) : Option (Bool ⊕ (List ByteArray)) := impl_ObjectOK.l3 k a0 ([] : List ByteArray) 0
def impl_ObjectOK.e5 (k : Nat) (a0 : SObj) (z72 : Int) (x74 : SCode) : Option Bool := (impl_Code__verifies.f k x74).bind fun r76 => if r76 = true then (some (!((decide (x74.f0 = (⟨#[]⟩ : ByteArray))) == (decide (z72 = (w64 ((a0.f4.length : Int) - 1))))))) else (some true)
def impl_ObjectOK.l6 : Nat → SObj → (List ByteArray) → Int → Option (Bool ⊕ (List ByteArray))
  | 0, _, _, _ => none
  | k + 1, a0, z71, z72 => if z72 < (a0.f4.length : Int) then ((at? a0.f4 z72).bind fun x74 => (impl_ObjectOK.e5 k a0 z72 x74).bind fun y79 => if y79 = true then (some (.inl false)) else (if (z71 ++ ([x74.f0] : List ByteArray)).length * 16 ≤ 140737488355328 then (impl_ObjectOK.l6 k a0 (z71 ++ ([x74.f0] : List ByteArray)) (w64 (z72 + 1))) else none)) else (some (.inr z71))
def impl_ObjectOK.e7 (k : Nat) (a0 : SObj) (y57 : (List ByteArray)) : Option (Bool ⊕ (List ByteArray)) := impl_ObjectOK.l6 k a0 y57 0
def impl_ObjectOK.e8 (k : Nat) (a0 : SObj) (y85 : (List ByteArray)) : Option Bool := (impl_areDifferent.f k y85).bind fun r88 => if r88 = true then ((impl_areAll_impl_Need_1.f k a0.f2).bind fun r91 => some r91) else (some false)
def impl_ObjectOK.f (k : Nat) (a0 : SObj) : Option Bool := (impl_ObjectOK.e1 k a0).bind fun y11 => if y11 = true then (some false) else ((impl_ObjectOK.e4 k a0).bind fun v => match v with | .inl r => some r | .inr y57 => (impl_ObjectOK.e7 k a0 y57).bind fun v => match v with | .inl r => some r | .inr y85 => (impl_ObjectOK.e8 k a0 y85).bind fun y93 => some y93)
theorem impl_ObjectOK.fn {k : Nat} {a0 : SObj} {r : Bool} (H : impl_ObjectOK.f k a0 = some r) : Fn Tryz.prog 26 [ag (eSObj a0)] [] (oB r) [] := by
 refine Fn.bd [2] Tryz.func26 ?_
 refine rn [1] 1 [] [] ?_
 refine sq ?_
 refine jo H (fun y11 => ⟨96, [(1, o1 (.ref 0 0)), (36, oB y11)], [eSObj a0], 0, []⟩) (fun y11 H => ?_) fun v13 h12 H => ?_
 ·refine cb H (fun h14 H => ?_) fun h14 H => ?_
  ·refine rn [2] 0 [] [] ?_
   refine Tri.ret ?_
   cases H;exact eR
  refine sk ?_
  refine rn [1, 3] 1 [] [] ?_
  refine jr H (fun y57 => ⟨96, [(1, o1 (.ref 0 0)), (3, o1 (.own 9 (List.map eS y57)))], [eSObj a0], 0, []⟩) (fun y57 H => ?_) fun v59 h58 H => ?_
  ·refine jr H (fun y85 => ⟨96, [(1, o1 (.ref 0 0)), (3, o1 (.own 9 (List.map eS y85)))], [eSObj a0], 0, []⟩) (fun y85 H => ?_) fun v87 h86 H => ?_
   ·refine jo H (fun y93 => ⟨96, [(2, oB y93)], [], 0, []⟩) (fun y93 H => ?_) fun v95 h94 H => ?_
    ·refine Tri.ret ?_
     cases H;exact eR
    obtain ⟨r88, h89, h94⟩ := bs h94
    rcases iteb_some h94 with ⟨h90, h94⟩ | ⟨h90, h94⟩
    ·obtain ⟨r91, h92, h94⟩ := bs h94
     refine rl [2] 0 [] [hC 1 (impl_areDifferent.fn k y85 r88 h89), hB 1 h90, hC 5 (impl_areAll_impl_Need_1.fn h92)] ?_
     exact pf r91 h94
    refine rl [2] 0 [] [hC 1 (impl_areDifferent.fn k y85 r88 h89), hB 1 h90] ?_
    exact pf false h94
   refine rn [1, 3, 61, 62, 63] 1 [] [hL 2 eSCode a0.f4] ?_
   refine bl ?_
   refine lo ((List ByteArray) × Int) k (fun k x => impl_ObjectOK.l6 k a0 x.1 x.2) (fun x => ⟨96, [(1, o1 (.ref 0 0)), (3, o1 (.own 9 (List.map eS x.1))), (61, o1 (.sl 5 (List.map eSCode a0.f4))), (62, oI (a0.f4.length : Int)), (63, oI x.2)], [eSObj a0], 0, []⟩) (y57, 0) h86 fun k x h86 IH84 => ?_
   obtain ⟨z71, z72⟩ := x
   rw [impl_ObjectOK.l6.eq_2] at h86
   refine rn [1, 3, 61, 62, 63, 64] 1 [] [] ?_
   refine sq ?_
   refine ci h86 (fun h73 h86 => ?_) fun h73 h86 => ?_
   ·refine sk ?_
    refine sq ?_
    refine bl ?_
    obtain ⟨x74, h75, h86⟩ := bs h86
    refine rn [1, 3, 6, 7, 61, 62, 63] 2 [] [hE 1 eSCode h75] ?_
    refine sq ?_
    refine jo h86 (fun y79 => ⟨96, [(1, o1 (.ref 0 0)), (3, o1 (.own 9 (List.map eS z71))), (7, o1 (.ref 1 0)), (61, o1 (.sl 5 (List.map eSCode a0.f4))), (62, oI (a0.f4.length : Int)), (63, oI z72), (82, oB y79)], [eSObj a0, eSCode x74], 0, []⟩) (fun y79 h86 => ?_) fun v81 h80 h86 => ?_
    ·refine cb h86 (fun h82 h86 => ?_) fun h82 h86 => ?_
     ·refine rn [2] 0 [] [] ?_
      refine Tri.ret ?_
      cases h86;cases H;exact eR
     refine sk ?_
     obtain ⟨h83, h86⟩ := nd h86
     refine rl [1, 3, 61, 62, 63] 1 [] [hA 4 9 eS h83] ?_
     refine rl [1, 3, 61, 62, 63] 1 [] [] ?_
     exact lb IH84 (z71 ++ ([x74.f0] : List ByteArray), w64 (z72 + 1)) h86
    obtain ⟨r76, h77, h80⟩ := bs h80
    rcases iteb_some h80 with ⟨h78, h80⟩ | ⟨h78, h80⟩
    ·refine rl [1, 3, 7, 61, 62, 63, 82] 2 [] [hC 1 (impl_Code__verifies.fn h77), hB 1 h78, hL 10 eSCode a0.f4] ?_
     exact pf (!((decide (x74.f0 = (⟨#[]⟩ : ByteArray))) == (decide (z72 = (w64 ((a0.f4.length : Int) - 1)))))) h80
    refine rl [1, 3, 7, 61, 62, 63, 82] 2 [] [hC 1 (impl_Code__verifies.fn h77), hB 1 h78] ?_
    exact pf true h80
   refine fx [1, 3] 1 [] ?_
   refine xi ?_
   exact pe z71 h86
  refine rn [1, 3, 38, 39, 40] 1 [] [hL 2 eSNeed a0.f3] ?_
  refine bl ?_
  refine fx [1, 3, 38, 39, 40] 1 [.own (.t 3 0) 9] ?_
  refine lo ((List ByteArray) × Int) k (fun k x => impl_ObjectOK.l3 k a0 x.1 x.2) (fun x => ⟨96, [(1, o1 (.ref 0 0)), (3, o1 (.own 9 (List.map eS x.1))), (38, o1 (.sl 2 (List.map eSNeed a0.f3))), (39, oI (a0.f3.length : Int)), (40, oI x.2)], [eSObj a0], 0, []⟩) (([] : List ByteArray), 0) h58 fun k x h58 IH56 => ?_
  obtain ⟨z41, z42⟩ := x
  rw [impl_ObjectOK.l3.eq_2] at h58
  refine rn [1, 3, 38, 39, 40, 41] 1 [] [] ?_
  refine sq ?_
  refine ci h58 (fun h43 h58 => ?_) fun h43 h58 => ?_
  ·refine sk ?_
   refine sq ?_
   refine bl ?_
   obtain ⟨x44, h45, h58⟩ := bs h58
   refine rn [1, 3, 5, 38, 39, 40] 2 [] [hE 0 eSNeed h45] ?_
   refine sq ?_
   refine jo h58 (fun y51 => ⟨96, [(1, o1 (.ref 0 0)), (3, o1 (.own 9 (List.map eS z41))), (5, o1 (.ref 1 0)), (38, o1 (.sl 2 (List.map eSNeed a0.f3))), (39, oI (a0.f3.length : Int)), (40, oI z42), (53, oB y51)], [eSObj a0, eSNeed x44], 0, []⟩) (fun y51 h58 => ?_) fun v53 h52 h58 => ?_
   ·refine cb h58 (fun h54 h58 => ?_) fun h54 h58 => ?_
    ·refine rn [2] 0 [] [] ?_
     refine Tri.ret ?_
     cases h58;cases H;exact eR
    refine sk ?_
    obtain ⟨h55, h58⟩ := nd h58
    refine rl [1, 3, 38, 39, 40] 1 [] [hA 4 9 eS h55] ?_
    refine rl [1, 3, 38, 39, 40] 1 [] [] ?_
    exact lb IH56 (z41 ++ ([x44.f0] : List ByteArray), w64 (z42 + 1)) h58
   obtain ⟨r46, h47, h52⟩ := bs h52
   rcases iteb_some h52 with ⟨h48, h52⟩ | ⟨h48, h52⟩
   ·obtain ⟨r49, h50, h52⟩ := bs h52
    refine rl [1, 3, 5, 38, 39, 40, 53] 2 [] [hC 2 (impl_isName.fn h47), hB 2 h48, hC 7 (impl_within.fn h50)] ?_
    exact pf (!r49) h52
   refine rl [1, 3, 5, 38, 39, 40, 53] 2 [] [hC 2 (impl_isName.fn h47), hB 2 h48] ?_
   exact pf true h52
  refine fx [1, 3] 1 [] ?_
  refine xi ?_
  exact pe z41 h58
 obtain ⟨r1, h2, h12⟩ := bs h12
 rcases iteb_some h12 with ⟨h3, h12⟩ | ⟨h3, h12⟩
 ·obtain ⟨r4, h5, h12⟩ := bs h12
  rcases iteb_some h12 with ⟨h6, h12⟩ | ⟨h6, h12⟩
  ·rcases ite_some h12 with ⟨h7, h12⟩ | ⟨h7, h12⟩
   ·refine rl [1, 36] 1 [] [hC 2 (impl_isName.fn h2), hB 2 h3, hC 7 (impl_isPrint.fn h5), hB 7 h6, hL 13 eSNeed a0.f2, hB 14 (decide_eq_true h7)] ?_
    exact pf true h12
   rcases ite_some h12 with ⟨h8, h12⟩ | ⟨h8, h12⟩
   ·refine rl [1, 36] 1 [] [hC 2 (impl_isName.fn h2), hB 2 h3, hC 7 (impl_isPrint.fn h5), hB 7 h6, hL 13 eSNeed a0.f2, hB 14 (decide_eq_false h7), hL 19 eSNeed a0.f3, hB 20 (decide_eq_true h8)] ?_
    exact pf true h12
   obtain ⟨r9, h10, h12⟩ := bs h12
   refine rl [1, 36] 1 [] [hC 2 (impl_isName.fn h2), hB 2 h3, hC 7 (impl_isPrint.fn h5), hB 7 h6, hL 13 eSNeed a0.f2, hB 14 (decide_eq_false h7), hL 19 eSNeed a0.f3, hB 20 (decide_eq_false h8), hL 25 eSCode a0.f4, hC 26 (impl_within.fn h10)] ?_
   exact pf (!r9) h12
  refine rl [1, 36] 1 [] [hC 2 (impl_isName.fn h2), hB 2 h3, hC 7 (impl_isPrint.fn h5), hB 7 h6] ?_
  exact pf true h12
 refine rl [1, 36] 1 [] [hC 2 (impl_isName.fn h2), hB 2 h3] ?_
 exact pf true h12
/-! impl_readObject: function 12 -/
def impl_readObject.l1 : Nat → ByteArray → (Int × Int × Bool) → Int → Int → Bool → (List SNeed) → Option (Int × Bool × (List SNeed))
  | 0, _, _, _, _, _, _ => none
  | k + 1, a0, r7, z24, z25, z26, z27 => if z24 < r7.1 then ((impl_reader__text_2.f k (⟨a0, z25, z26⟩ : S3ddd55)).bind fun r29 => (impl_reader__number_2.f k 8 (⟨a0, r29.2.1, r29.2.2⟩ : S3ddd55)).bind fun r31 => if (z27 ++ ([(⟨r29.1, r31.1⟩ : SNeed)] : List SNeed)).length * 24 ≤ 140737488355328 then (impl_readObject.l1 k a0 r7 (w64 (z24 + 1)) r31.2.1 r31.2.2 (z27 ++ ([(⟨r29.1, r31.1⟩ : SNeed)] : List SNeed))) else none) else (some (z25, z26, z27))
def impl_readObject.e2 (k : Nat) (a0 : ByteArray) (r5 : (Int × Int × Bool)) : Option (Int × Bool × (List SNeed)) := (impl_reader__number_2.f k 1 (⟨a0, r5.2.1, r5.2.2⟩ : S3ddd55)).bind fun r7 => impl_readObject.l1 k a0 r7 0 r7.2.1 r7.2.2 ([] : List SNeed)
def impl_readObject.l3 : Nat → ByteArray → (Int × Int × Bool) → Int → Int → Bool → (List SNeed) → Option (Int × Bool × (List SNeed))
  | 0, _, _, _, _, _, _ => none
  | k + 1, a0, r40, z57, z58, z59, z60 => if z57 < r40.1 then ((impl_reader__text_2.f k (⟨a0, z58, z59⟩ : S3ddd55)).bind fun r62 => (impl_reader__number_2.f k 1 (⟨a0, r62.2.1, r62.2.2⟩ : S3ddd55)).bind fun r64 => if (z60 ++ ([(⟨r62.1, r64.1⟩ : SNeed)] : List SNeed)).length * 24 ≤ 140737488355328 then (impl_readObject.l3 k a0 r40 (w64 (z57 + 1)) r64.2.1 r64.2.2 (z60 ++ ([(⟨r62.1, r64.1⟩ : SNeed)] : List SNeed))) else none) else (some (z58, z59, z60))
def impl_readObject.e4 (k : Nat) (a0 : ByteArray) (y35 : Int) (y36 : Bool) : Option (Int × Bool × (List SNeed)) := (impl_reader__number_2.f k 1 (⟨a0, y35, y36⟩ : S3ddd55)).bind fun r40 => impl_readObject.l3 k a0 r40 0 r40.2.1 r40.2.2 ([] : List SNeed)
def impl_readObject.l5 : Nat → ByteArray → (Int × Int × Bool) → Int → Int → Bool → (List SCode) → Option (Int × Bool × (List SCode))
  | 0, _, _, _, _, _, _ => none
  | k + 1, a0, r73, z86, z87, z88, z89 => if z86 < r73.1 then ((impl_reader__code_2.f k (⟨a0, z87, z88⟩ : S3ddd55)).bind fun r91 => if (z89 ++ ([r91.1] : List SCode)).length * 64 ≤ 140737488355328 then (impl_readObject.l5 k a0 r73 (w64 (z86 + 1)) r91.2.1 r91.2.2.1 (z89 ++ ([r91.1] : List SCode))) else none) else (some (z87, z88, z89))
def impl_readObject.e6 (k : Nat) (a0 : ByteArray) (y68 : Int) (y69 : Bool) : Option (Int × Bool × (List SCode)) := (impl_reader__number_2.f k 1 (⟨a0, y68, y69⟩ : S3ddd55)).bind fun r73 => impl_readObject.l5 k a0 r73 0 r73.2.1 r73.2.2 ([] : List SCode)
def impl_readObject.e7 (k : Nat) (a0 : ByteArray) (r3 : (ByteArray × Int × Bool)) (r5 : (Int × Int × Bool)) (y37 : (List SNeed)) (y70 : (List SNeed)) (y95 : Int) (y96 : Bool) (y97 : (List SCode)) : Option Bool := (impl_reader__ends_1.f k (⟨a0, y95, y96⟩ : S3ddd55)).bind fun r100 => if r100 = true then ((impl_ObjectOK.f k (⟨r3.1, r5.1, y37, y70, y97⟩ : SObj)).bind fun r103 => some r103) else (some false)
def impl_readObject.f (k : Nat) (a0 : ByteArray) : Option (SObj × Bool × ByteArray × Int × (List SNeed) × (List SNeed) × (List SCode)) := (impl_reader__head_2.f k (⟨#[79, 79, 49]⟩ : ByteArray) (⟨a0, 0, false⟩ : S3ddd55)).bind fun r1 => (impl_reader__text_2.f k (⟨a0, r1.1, r1.2⟩ : S3ddd55)).bind fun r3 => (impl_reader__number_2.f k 8 (⟨a0, r3.2.1, r3.2.2⟩ : S3ddd55)).bind fun r5 => (impl_readObject.e2 k a0 r5).bind fun v => match v with | (y35, y36, y37) => (impl_readObject.e4 k a0 y35 y36).bind fun v => match v with | (y68, y69, y70) => (impl_readObject.e6 k a0 y68 y69).bind fun v => match v with | (y95, y96, y97) => (impl_readObject.e7 k a0 r3 r5 y37 y70 y95 y96 y97).bind fun y105 => some ((⟨r3.1, r5.1, y37, y70, y97⟩ : SObj), y105, r3.1, r5.1, y37, y70, y97)
theorem impl_readObject.fn {k : Nat} {a0 : ByteArray} {r : (SObj × Bool × ByteArray × Int × (List SNeed) × (List SNeed) × (List SCode))} (H : impl_readObject.f k a0 = some r) : Fn Tryz.prog 12 [oS a0] [] (tp [some 5, none] [cS r.1.f0, cI r.1.f1, .sl 2 (List.map eSNeed r.1.f2), .sl 2 (List.map eSNeed r.1.f3), .sl 5 (List.map eSCode r.1.f4), cB r.2.1]) [] := by
 refine FnG.fn (FnG.bodyR (rv := [(2, some 34), (3, none)]) Tryz.func12 rfl rfl (by decide) (by decide) (Nat.le_of_ble_eq_true rfl) rfl (Nat.le_of_ble_eq_true rfl) ?_)
 refine rn [0, 2] 1 [] [] ?_
 refine rn [2, 4] 2 [] [] ?_
 obtain ⟨r1, h2, H⟩ := bs H
 refine rn [2, 4] 2 [] [hG 1 [] [1] none (impl_reader__head_2.fn h2)] ?_
 obtain ⟨r3, h4, H⟩ := bs H
 obtain ⟨r5, h6, H⟩ := bs H
 refine rn [2, 4, 5] 3 [] [hG 1 [] [1] none (impl_reader__text_2.fn h4), hG 3 [] [1] none (impl_reader__number_2.fn h6)] ?_
 refine jo H (fun w => ⟨65, [(2, o1 (.ref 0 0)), (4, o1 (.ref 1 0)), (5, o1 (.ref 2 0))], [[cS (⟨#[]⟩ : ByteArray), cI 0, .nl, .nl, .nl], [cS a0, cI w.1, cB w.2.1], [cS r3.1, cI r5.1, .own 48 (List.map eSNeed w.2.2), .nl, .nl]], 0, []⟩) (fun w H => ?_) fun v39 h38 H => ?_
 ·obtain ⟨y35, y36, y37⟩ := w
  refine jo H (fun w => ⟨65, [(2, o1 (.ref 0 0)), (4, o1 (.ref 1 0)), (5, o1 (.ref 2 0))], [[cS (⟨#[]⟩ : ByteArray), cI 0, .nl, .nl, .nl], [cS a0, cI w.1, cB w.2.1], [cS r3.1, cI r5.1, .own 48 (List.map eSNeed y37), .own 50 (List.map eSNeed w.2.2), .nl]], 0, []⟩) (fun w H => ?_) fun v72 h71 H => ?_
  ·obtain ⟨y68, y69, y70⟩ := w
   refine jo H (fun w => ⟨65, [(2, o1 (.ref 0 0)), (4, o1 (.ref 1 0)), (5, o1 (.ref 2 0))], [[cS (⟨#[]⟩ : ByteArray), cI 0, .nl, .nl, .nl], [cS a0, cI w.1, cB w.2.1], [cS r3.1, cI r5.1, .own 48 (List.map eSNeed y37), .own 50 (List.map eSNeed y70), .own 53 (List.map eSCode w.2.2)]], 0, []⟩) (fun w H => ?_) fun v99 h98 H => ?_
   ·obtain ⟨y95, y96, y97⟩ := w
    refine jo H (fun y105 => ⟨65, [(2, o1 (.ref 0 0)), (3, oB y105)], [[cS r3.1, cI r5.1, .sl 2 (List.map eSNeed y37), .sl 2 (List.map eSNeed y70), .sl 5 (List.map eSCode y97)]], 0, []⟩) (fun y105 H => ?_) fun v107 h106 H => ?_
    ·refine Tri.ret ?_
     cases H;exact endsR (.inr rfl) (by kernel_rfl)
    refine fx [2, 4, 5] 3 [.frz (.b 2 2)] ?_
    refine fx [2, 4, 5] 3 [.frz (.b 2 3)] ?_
    refine fx [2, 4, 5] 3 [.frz (.b 2 4)] ?_
    obtain ⟨r100, h101, h106⟩ := bs h106
    rcases iteb_some h106 with ⟨h102, h106⟩ | ⟨h102, h106⟩
    ·obtain ⟨r103, h104, h106⟩ := bs h106
     refine Tri.dE hmix [[], [], [1], [1, 2], [1, 2, 3], [1, 2, 3, 4], [1, 2, 3, 4, 5], [0, 1, 2, 3, 4, 5], [0, 1, 2, 3, 4, 5, 6, 7]] [7] [⟨65, [(2, o1 (.ref 0 0)), (4, o1 (.ref 1 0)), (5, o1 (.ref 2 0))], [[cS r3.1, cI r5.1, .sl 2 (List.map eSNeed y37), .sl 2 (List.map eSNeed y70), .sl 5 (List.map eSCode y97)], [cS a0, cI y95, cB y96], [cS r3.1, cI r5.1, .sl 2 (List.map eSNeed y37), .sl 2 (List.map eSNeed y70), .sl 5 (List.map eSCode y97)]], 0, []⟩] [(58, ag [cS r3.1, cI r5.1, .sl 2 (List.map eSNeed y37), .sl 2 (List.map eSNeed y70), .sl 5 (List.map eSCode y97)]), (59, o1 (.ref 1 0)), (60, oB true), (61, oB true), (62, ag [cS r3.1, cI r5.1, .sl 2 (List.map eSNeed y37), .sl 2 (List.map eSNeed y70), .sl 5 (List.map eSCode y97)]), (63, oB r103), (64, oB r103), (57, ⟨.any, []⟩)] [2, 3] 1 [] [(2, .call (oB r100) [] false), (2, .ov [.sc (.bool true)]), (5, .call (oB r103) [] false)] [] [_, _, _, _, _, _, _, _, _, _, _, _, _, _, _] ⟨65, [(2, o1 (.ref 0 0)), (3, oB r103)], [[cS r3.1, cI r5.1, .sl 2 (List.map eSNeed y37), .sl 2 (List.map eSNeed y70), .sl 5 (List.map eSCode y97)]], 0, []⟩ ⟨(rfl : ((65, 0, []) : Nat × Nat × List Nat) = ((65, 0, []) : Nat × Nat × List Nat)), (rfl : (ag [cS r3.1, cI r5.1, .sl 2 (List.map eSNeed y37), .sl 2 (List.map eSNeed y70), .sl 5 (List.map eSCode y97)] : PV) = (ag [cS r3.1, cI r5.1, .sl 2 (List.map eSNeed y37), .sl 2 (List.map eSNeed y70), .sl 5 (List.map eSCode y97)] : PV)), (rfl : (o1 (.ref 1 0) : PV) = (o1 (.ref 1 0) : PV)), (impl_reader__ends_1.fn h101), (show (List.all [cB r100] PC.flatB) = true from rfl), (ovb h102), (rfl : (oB true : PV) = (oB true : PV)), (rfl : (oB true : PV) = (oB true : PV)), (rfl : (ag [cS r3.1, cI r5.1, .sl 2 (List.map eSNeed y37), .sl 2 (List.map eSNeed y70), .sl 5 (List.map eSCode y97)] : PV) = (ag [cS r3.1, cI r5.1, .sl 2 (List.map eSNeed y37), .sl 2 (List.map eSNeed y70), .sl 5 (List.map eSCode y97)] : PV)), (impl_ObjectOK.fn h104), (show (List.all [cB r103] PC.flatB) = true from rfl), (rfl : (oB r103 : PV) = (oB r103 : PV)), (rfl : (oB r103 : PV) = (oB r103 : PV)), (rfl : (oB r103 : PV) = (oB r103 : PV)), (rfl : (([some (⟨.any, []⟩), some (ag [cS r3.1, cI r5.1, .sl 2 (List.map eSNeed y37), .sl 2 (List.map eSNeed y70), .sl 5 (List.map eSCode y97)]), some (o1 (.ref 1 0)), some (oB true), some (oB true), some (ag [cS r3.1, cI r5.1, .sl 2 (List.map eSNeed y37), .sl 2 (List.map eSNeed y70), .sl 5 (List.map eSCode y97)]), some (oB r103), some (o1 (.ref 0 0)), some (o1 (.ref 1 0)), some (o1 (.ref 2 0))], [[cS r3.1, cI r5.1, .sl 2 (List.map eSNeed y37), .sl 2 (List.map eSNeed y70), .sl 5 (List.map eSCode y97)], [cS a0, cI y95, cB y96], [cS r3.1, cI r5.1, .sl 2 (List.map eSNeed y37), .sl 2 (List.map eSNeed y70), .sl 5 (List.map eSCode y97)]], 65, 0, []) : List (Option PV) × List (List PC) × Nat × Nat × List Nat) = (([some (⟨.any, []⟩), some (ag [cS r3.1, cI r5.1, .sl 2 (List.map eSNeed y37), .sl 2 (List.map eSNeed y70), .sl 5 (List.map eSCode y97)]), some (o1 (.ref 1 0)), some (oB true), some (oB true), some (ag [cS r3.1, cI r5.1, .sl 2 (List.map eSNeed y37), .sl 2 (List.map eSNeed y70), .sl 5 (List.map eSCode y97)]), some (oB r103), some (o1 (.ref 0 0)), some (o1 (.ref 1 0)), some (o1 (.ref 2 0))], [[cS r3.1, cI r5.1, .sl 2 (List.map eSNeed y37), .sl 2 (List.map eSNeed y70), .sl 5 (List.map eSCode y97)], [cS a0, cI y95, cB y96], [cS r3.1, cI r5.1, .sl 2 (List.map eSNeed y37), .sl 2 (List.map eSNeed y70), .sl 5 (List.map eSCode y97)]], 65, 0, []) : List (Option PV) × List (List PC) × Nat × Nat × List Nat)), trivial⟩ ?_
     exact pf r103 h106
    refine Tri.dE hmix [[], [], [1], [1, 2], [1, 2, 3], [1, 2, 3, 4], [1, 2, 3, 4, 5], [0, 1, 2, 3, 4, 5], [0, 1, 2, 3, 4, 5, 6, 7]] [7] [⟨65, [(2, o1 (.ref 0 0)), (4, o1 (.ref 1 0)), (5, o1 (.ref 2 0))], [[cS r3.1, cI r5.1, .sl 2 (List.map eSNeed y37), .sl 2 (List.map eSNeed y70), .sl 5 (List.map eSCode y97)], [cS a0, cI y95, cB y96], [cS r3.1, cI r5.1, .sl 2 (List.map eSNeed y37), .sl 2 (List.map eSNeed y70), .sl 5 (List.map eSCode y97)]], 0, []⟩] [(58, ag [cS r3.1, cI r5.1, .sl 2 (List.map eSNeed y37), .sl 2 (List.map eSNeed y70), .sl 5 (List.map eSCode y97)]), (59, o1 (.ref 1 0)), (60, oB false), (61, oB false), (62, tp [] []), (63, tp [] []), (64, oB false), (57, ⟨.any, []⟩)] [2, 3] 1 [] [(2, .call (oB r100) [] false), (2, .ov [.sc (.bool false)])] [] [_, _, _, _, _, _, _, _, _, _, _, _, _] ⟨65, [(2, o1 (.ref 0 0)), (3, oB false)], [[cS r3.1, cI r5.1, .sl 2 (List.map eSNeed y37), .sl 2 (List.map eSNeed y70), .sl 5 (List.map eSCode y97)]], 0, []⟩ ⟨(rfl : ((65, 0, []) : Nat × Nat × List Nat) = ((65, 0, []) : Nat × Nat × List Nat)), (rfl : (ag [cS r3.1, cI r5.1, .sl 2 (List.map eSNeed y37), .sl 2 (List.map eSNeed y70), .sl 5 (List.map eSCode y97)] : PV) = (ag [cS r3.1, cI r5.1, .sl 2 (List.map eSNeed y37), .sl 2 (List.map eSNeed y70), .sl 5 (List.map eSCode y97)] : PV)), (rfl : (o1 (.ref 1 0) : PV) = (o1 (.ref 1 0) : PV)), (impl_reader__ends_1.fn h101), (show (List.all [cB r100] PC.flatB) = true from rfl), (ovb h102), (rfl : (oB false : PV) = (oB false : PV)), (rfl : (oB false : PV) = (oB false : PV)), (rfl : (tp [] [] : PV) = (tp [] [] : PV)), (rfl : (tp [] [] : PV) = (tp [] [] : PV)), (rfl : (oB false : PV) = (oB false : PV)), (rfl : (oB false : PV) = (oB false : PV)), (rfl : (([some (⟨.any, []⟩), some (ag [cS r3.1, cI r5.1, .sl 2 (List.map eSNeed y37), .sl 2 (List.map eSNeed y70), .sl 5 (List.map eSCode y97)]), some (o1 (.ref 1 0)), some (oB false), some (oB false), some (tp [] []), some (tp [] []), some (o1 (.ref 0 0)), some (o1 (.ref 1 0)), some (o1 (.ref 2 0))], [[cS r3.1, cI r5.1, .sl 2 (List.map eSNeed y37), .sl 2 (List.map eSNeed y70), .sl 5 (List.map eSCode y97)], [cS a0, cI y95, cB y96], [cS r3.1, cI r5.1, .sl 2 (List.map eSNeed y37), .sl 2 (List.map eSNeed y70), .sl 5 (List.map eSCode y97)]], 65, 0, []) : List (Option PV) × List (List PC) × Nat × Nat × List Nat) = (([some (⟨.any, []⟩), some (ag [cS r3.1, cI r5.1, .sl 2 (List.map eSNeed y37), .sl 2 (List.map eSNeed y70), .sl 5 (List.map eSCode y97)]), some (o1 (.ref 1 0)), some (oB false), some (oB false), some (tp [] []), some (tp [] []), some (o1 (.ref 0 0)), some (o1 (.ref 1 0)), some (o1 (.ref 2 0))], [[cS r3.1, cI r5.1, .sl 2 (List.map eSNeed y37), .sl 2 (List.map eSNeed y70), .sl 5 (List.map eSCode y97)], [cS a0, cI y95, cB y96], [cS r3.1, cI r5.1, .sl 2 (List.map eSNeed y37), .sl 2 (List.map eSNeed y70), .sl 5 (List.map eSCode y97)]], 65, 0, []) : List (Option PV) × List (List PC) × Nat × Nat × List Nat)), trivial⟩ ?_
    exact pf false h106
   obtain ⟨r73, h74, h98⟩ := bs h98
   refine rn [2, 4, 5, 47, 48] 3 [] [hG 1 [] [1] none (impl_reader__number_2.fn h74)] ?_
   refine bl ?_
   refine fx [2, 4, 5, 47, 48] 3 [.own (.b 2 4) 53] ?_
   refine lo (Int × Int × Bool × (List SCode)) k (fun k x => impl_readObject.l5 k a0 r73 x.1 x.2.1 x.2.2.1 x.2.2.2) (fun x => ⟨65, [(2, o1 (.ref 0 0)), (4, o1 (.ref 1 0)), (5, o1 (.ref 2 0)), (47, oI r73.1), (48, oI x.1)], [[cS (⟨#[]⟩ : ByteArray), cI 0, .nl, .nl, .nl], [cS a0, cI x.2.1, cB x.2.2.1], [cS r3.1, cI r5.1, .own 48 (List.map eSNeed y37), .own 50 (List.map eSNeed y70), .own 53 (List.map eSCode x.2.2.2)]], 0, []⟩) (0, r73.2.1, r73.2.2, ([] : List SCode)) h98 fun k x h98 IH94 => ?_
   obtain ⟨z86, z87, z88, z89⟩ := x
   rw [impl_readObject.l5.eq_2] at h98
   refine rn [2, 4, 5, 47, 48, 49] 3 [] [] ?_
   refine sq ?_
   refine ci h98 (fun h90 h98 => ?_) fun h90 h98 => ?_
   ·refine sk ?_
    refine sq ?_
    refine bl ?_
    obtain ⟨r91, h92, h98⟩ := bs h98
    obtain ⟨h93, h98⟩ := nd h98
    refine Tri.dE hmix [[], [0], [], [2], [2, 3], [0, 1, 2, 3, 4], [0, 1, 2, 3, 4, 5], [0, 1, 2, 3, 4, 5, 6]] [3] [⟨65, [(2, o1 (.ref 0 0)), (4, o1 (.ref 1 0)), (5, o1 (.ref 2 0)), (47, oI r73.1), (48, oI z86), (49, oB (decide (z86 < r73.1)))], [[cS (⟨#[]⟩ : ByteArray), cI 0, .nl, .nl, .nl], [cS a0, cI r91.2.1, cB r91.2.2.1], [cS r3.1, cI r5.1, .own 48 (List.map eSNeed y37), .own 50 (List.map eSNeed y70), .own 53 (List.map eSCode z89)], [cS r91.2.2.2.1, cI r91.2.2.2.2.1, cI r91.2.2.2.2.2.1, cI r91.2.2.2.2.2.2.1, .sl 5 (List.map eSIns r91.2.2.2.2.2.2.2)]], 0, []⟩] [(50, o1 (.ref 2 4)), (51, o1 (.al (.b 2 4))), (52, o1 (.ref 1 0)), (53, ag (eSCode r91.1)), (54, o1 (.own 53 (List.map eSCode ([r91.1] : List SCode))))] [2, 4, 5, 47, 48] 3 [] [(3, .callB (ag (eSCode r91.1)) [] [1] none [] [[cS a0, cI r91.2.1, cB r91.2.2.1], [cS r91.2.2.2.1, cI r91.2.2.2.2.1, cI r91.2.2.2.2.2.1, cI r91.2.2.2.2.2.2.1, .sl 5 (List.map eSIns r91.2.2.2.2.2.2.2)]])] [(5, .ov [.own 53 (List.map eSCode (z89 ++ ([r91.1] : List SCode)))])] [_, _, _, _, _, _, _, _, _, _, _, _, _] ⟨65, [(2, o1 (.ref 0 0)), (4, o1 (.ref 1 0)), (5, o1 (.ref 2 0)), (47, oI r73.1), (48, oI z86)], [[cS (⟨#[]⟩ : ByteArray), cI 0, .nl, .nl, .nl], [cS a0, cI r91.2.1, cB r91.2.2.1], [cS r3.1, cI r5.1, .own 48 (List.map eSNeed y37), .own 50 (List.map eSNeed y70), .own 53 (List.map eSCode (z89 ++ ([r91.1] : List SCode)))]], 0, []⟩ ⟨(rfl : ((65, 0, []) : Nat × Nat × List Nat) = ((65, 0, []) : Nat × Nat × List Nat)), (rfl : (o1 (.ref 2 4) : PV) = (o1 (.ref 2 4) : PV)), (rfl : (o1 (.ref 2 4) : PV) = (o1 (.ref 2 4) : PV)), (rfl : (o1 (.al (.b 2 4)) : PV) = (o1 (.al (.b 2 4)) : PV)), (rfl : (o1 (.al (.b 2 4)) : PV) = (o1 (.al (.b 2 4)) : PV)), (rfl : (o1 (.ref 1 0) : PV) = (o1 (.ref 1 0) : PV)), (impl_reader__code_2.fn h92), (rfl : (([some (ag (eSCode r91.1)), some (o1 (.ref 1 0)), some (o1 (.ref 0 0)), some (o1 (.ref 1 0)), some (o1 (.ref 2 0)), some (oI r73.1), some (oI z86), some (oB (decide (z86 < r73.1)))], [[cS (⟨#[]⟩ : ByteArray), cI 0, .nl, .nl, .nl], [cS a0, cI r91.2.1, cB r91.2.2.1], [cS r3.1, cI r5.1, .own 48 (List.map eSNeed y37), .own 50 (List.map eSNeed y70), .own 53 (List.map eSCode z89)], [cS r91.2.2.2.1, cI r91.2.2.2.2.1, cI r91.2.2.2.2.2.1, cI r91.2.2.2.2.2.2.1, .sl 5 (List.map eSIns r91.2.2.2.2.2.2.2)]], 65, 0, []) : List (Option PV) × List (List PC) × Nat × Nat × List Nat) = (([some (ag (eSCode r91.1)), some (o1 (.ref 1 0)), some (o1 (.ref 0 0)), some (o1 (.ref 1 0)), some (o1 (.ref 2 0)), some (oI r73.1), some (oI z86), some (oB (decide (z86 < r73.1)))], [[cS (⟨#[]⟩ : ByteArray), cI 0, .nl, .nl, .nl], [cS a0, cI r91.2.1, cB r91.2.2.1], [cS r3.1, cI r5.1, .own 48 (List.map eSNeed y37), .own 50 (List.map eSNeed y70), .own 53 (List.map eSCode z89)], [cS r91.2.2.2.1, cI r91.2.2.2.2.1, cI r91.2.2.2.2.2.1, cI r91.2.2.2.2.2.2.1, .sl 5 (List.map eSIns r91.2.2.2.2.2.2.2)]], 65, 0, []) : List (Option PV) × List (List PC) × Nat × Nat × List Nat)), (rfl : (some [cS r3.1, cI r5.1, .own 48 (List.map eSNeed y37), .own 50 (List.map eSNeed y70), .own 53 (List.map eSCode z89)] : Option (List PC)) = some [cS r3.1, cI r5.1, .own 48 (List.map eSNeed y37), .own 50 (List.map eSNeed y70), .own 53 (List.map eSCode z89)]), (rfl : (o1 (.own 53 (List.map eSCode ([r91.1] : List SCode))) : PV) = (o1 (.own 53 (List.map eSCode ([r91.1] : List SCode))) : PV)), (app1 (f := eSCode) (by decide) h93), (app2 (f := eSCode) h93), (ovapp (e := 53) (f := eSCode) (l := z89) (m := ([r91.1] : List SCode))), trivial⟩ ?_
    refine rl [2, 4, 5, 47, 48] 3 [] [] ?_
    exact lb IH94 (w64 (z86 + 1), r91.2.1, r91.2.2.1, z89 ++ ([r91.1] : List SCode)) h98
   refine fx [2, 4, 5] 3 [] ?_
   refine xi ?_
   exact pf (z87, z88, z89) h98
  obtain ⟨r40, h41, h71⟩ := bs h71
  refine rn [2, 4, 5, 32, 33] 3 [] [hG 1 [] [1] none (impl_reader__number_2.fn h41)] ?_
  refine bl ?_
  refine fx [2, 4, 5, 32, 33] 3 [.own (.b 2 3) 50] ?_
  refine lo (Int × Int × Bool × (List SNeed)) k (fun k x => impl_readObject.l3 k a0 r40 x.1 x.2.1 x.2.2.1 x.2.2.2) (fun x => ⟨65, [(2, o1 (.ref 0 0)), (4, o1 (.ref 1 0)), (5, o1 (.ref 2 0)), (32, oI r40.1), (33, oI x.1)], [[cS (⟨#[]⟩ : ByteArray), cI 0, .nl, .nl, .nl], [cS a0, cI x.2.1, cB x.2.2.1], [cS r3.1, cI r5.1, .own 48 (List.map eSNeed y37), .own 50 (List.map eSNeed x.2.2.2), .nl]], 0, []⟩) (0, r40.2.1, r40.2.2, ([] : List SNeed)) h71 fun k x h71 IH67 => ?_
  obtain ⟨z57, z58, z59, z60⟩ := x
  rw [impl_readObject.l3.eq_2] at h71
  refine rn [2, 4, 5, 32, 33, 34] 3 [] [] ?_
  refine sq ?_
  refine ci h71 (fun h61 h71 => ?_) fun h61 h71 => ?_
  ·refine sk ?_
   refine sq ?_
   refine bl ?_
   obtain ⟨r62, h63, h71⟩ := bs h71
   obtain ⟨r64, h65, h71⟩ := bs h71
   obtain ⟨h66, h71⟩ := nd h71
   refine Tri.dE hmix [[], [0], [], [2], [], [2, 3, 4], [2, 3, 4, 5], [2, 3, 4, 5, 6], [0, 1, 2, 3, 4, 5, 6, 7], [0, 1, 2, 3, 4, 5, 6, 7, 8], [0, 1, 2, 3, 4, 5, 6, 7, 8, 9]] [3, 5] [⟨65, [(2, o1 (.ref 0 0)), (4, o1 (.ref 1 0)), (5, o1 (.ref 2 0)), (32, oI r40.1), (33, oI z57), (34, oB (decide (z57 < r40.1)))], [[cS (⟨#[]⟩ : ByteArray), cI 0, .nl, .nl, .nl], [cS a0, cI r62.2.1, cB r62.2.2], [cS r3.1, cI r5.1, .own 48 (List.map eSNeed y37), .own 50 (List.map eSNeed z60), .nl]], 0, []⟩, ⟨65, [(2, o1 (.ref 0 0)), (4, o1 (.ref 1 0)), (5, o1 (.ref 2 0)), (32, oI r40.1), (33, oI z57), (34, oB (decide (z57 < r40.1)))], [[cS (⟨#[]⟩ : ByteArray), cI 0, .nl, .nl, .nl], [cS a0, cI r64.2.1, cB r64.2.2], [cS r3.1, cI r5.1, .own 48 (List.map eSNeed y37), .own 50 (List.map eSNeed z60), .nl]], 0, []⟩] [(35, o1 (.ref 2 3)), (36, o1 (.al (.b 2 3))), (37, o1 (.ref 1 0)), (38, oS r62.1), (39, o1 (.ref 1 0)), (40, oI r64.1), (41, ag [cS r62.1, cI r64.1]), (42, o1 (.own 50 (List.map eSNeed ([(⟨r62.1, r64.1⟩ : SNeed)] : List SNeed))))] [2, 4, 5, 32, 33] 3 [] [(3, .callB (oS r62.1) [] [1] none [] [[cS a0, cI r62.2.1, cB r62.2.2]]), (5, .callB (oI r64.1) [] [1] none [] [[cS a0, cI r64.2.1, cB r64.2.2]])] [(8, .ov [.own 50 (List.map eSNeed (z60 ++ ([(⟨r62.1, r64.1⟩ : SNeed)] : List SNeed)))])] [_, _, _, _, _, _, _, _, _, _, _, _, _, _, _, _, _, _, _, _, _, _] ⟨65, [(2, o1 (.ref 0 0)), (4, o1 (.ref 1 0)), (5, o1 (.ref 2 0)), (32, oI r40.1), (33, oI z57)], [[cS (⟨#[]⟩ : ByteArray), cI 0, .nl, .nl, .nl], [cS a0, cI r64.2.1, cB r64.2.2], [cS r3.1, cI r5.1, .own 48 (List.map eSNeed y37), .own 50 (List.map eSNeed (z60 ++ ([(⟨r62.1, r64.1⟩ : SNeed)] : List SNeed))), .nl]], 0, []⟩ ⟨(rfl : ((65, 0, []) : Nat × Nat × List Nat) = ((65, 0, []) : Nat × Nat × List Nat)), (rfl : ((65, 0, []) : Nat × Nat × List Nat) = ((65, 0, []) : Nat × Nat × List Nat)), (rfl : (o1 (.ref 2 3) : PV) = (o1 (.ref 2 3) : PV)), (rfl : (o1 (.ref 2 3) : PV) = (o1 (.ref 2 3) : PV)), (rfl : (o1 (.ref 2 3) : PV) = (o1 (.ref 2 3) : PV)), (rfl : (o1 (.al (.b 2 3)) : PV) = (o1 (.al (.b 2 3)) : PV)), (rfl : (o1 (.al (.b 2 3)) : PV) = (o1 (.al (.b 2 3)) : PV)), (rfl : (o1 (.al (.b 2 3)) : PV) = (o1 (.al (.b 2 3)) : PV)), (rfl : (o1 (.ref 1 0) : PV) = (o1 (.ref 1 0) : PV)), (impl_reader__text_2.fn h63), (rfl : (([some (oS r62.1), some (o1 (.ref 1 0)), some (o1 (.ref 0 0)), some (o1 (.ref 1 0)), some (o1 (.ref 2 0)), some (oI r40.1), some (oI z57), some (oB (decide (z57 < r40.1)))], [[cS (⟨#[]⟩ : ByteArray), cI 0, .nl, .nl, .nl], [cS a0, cI r62.2.1, cB r62.2.2], [cS r3.1, cI r5.1, .own 48 (List.map eSNeed y37), .own 50 (List.map eSNeed z60), .nl]], 65, 0, []) : List (Option PV) × List (List PC) × Nat × Nat × List Nat) = (([some (oS r62.1), some (o1 (.ref 1 0)), some (o1 (.ref 0 0)), some (o1 (.ref 1 0)), some (o1 (.ref 2 0)), some (oI r40.1), some (oI z57), some (oB (decide (z57 < r40.1)))], [[cS (⟨#[]⟩ : ByteArray), cI 0, .nl, .nl, .nl], [cS a0, cI r62.2.1, cB r62.2.2], [cS r3.1, cI r5.1, .own 48 (List.map eSNeed y37), .own 50 (List.map eSNeed z60), .nl]], 65, 0, []) : List (Option PV) × List (List PC) × Nat × Nat × List Nat)), (rfl : (some [cS r3.1, cI r5.1, .own 48 (List.map eSNeed y37), .own 50 (List.map eSNeed z60), .nl] : Option (List PC)) = some [cS r3.1, cI r5.1, .own 48 (List.map eSNeed y37), .own 50 (List.map eSNeed z60), .nl]), (rfl : (o1 (.ref 1 0) : PV) = (o1 (.ref 1 0) : PV)), (rfl : (o1 (.ref 1 0) : PV) = (o1 (.ref 1 0) : PV)), (impl_reader__number_2.fn h65), (rfl : (([some (oI r64.1), some (o1 (.ref 1 0)), some (oS r62.1), some (o1 (.ref 1 0)), some (o1 (.ref 0 0)), some (o1 (.ref 1 0)), some (o1 (.ref 2 0)), some (oI r40.1), some (oI z57), some (oB (decide (z57 < r40.1)))], [[cS (⟨#[]⟩ : ByteArray), cI 0, .nl, .nl, .nl], [cS a0, cI r64.2.1, cB r64.2.2], [cS r3.1, cI r5.1, .own 48 (List.map eSNeed y37), .own 50 (List.map eSNeed z60), .nl]], 65, 0, []) : List (Option PV) × List (List PC) × Nat × Nat × List Nat) = (([some (oI r64.1), some (o1 (.ref 1 0)), some (oS r62.1), some (o1 (.ref 1 0)), some (o1 (.ref 0 0)), some (o1 (.ref 1 0)), some (o1 (.ref 2 0)), some (oI r40.1), some (oI z57), some (oB (decide (z57 < r40.1)))], [[cS (⟨#[]⟩ : ByteArray), cI 0, .nl, .nl, .nl], [cS a0, cI r64.2.1, cB r64.2.2], [cS r3.1, cI r5.1, .own 48 (List.map eSNeed y37), .own 50 (List.map eSNeed z60), .nl]], 65, 0, []) : List (Option PV) × List (List PC) × Nat × Nat × List Nat)), (rfl : (some [cS r3.1, cI r5.1, .own 48 (List.map eSNeed y37), .own 50 (List.map eSNeed z60), .nl] : Option (List PC)) = some [cS r3.1, cI r5.1, .own 48 (List.map eSNeed y37), .own 50 (List.map eSNeed z60), .nl]), (rfl : (ag [cS r62.1, cI r64.1] : PV) = (ag [cS r62.1, cI r64.1] : PV)), (rfl : (o1 (.own 50 (List.map eSNeed ([(⟨r62.1, r64.1⟩ : SNeed)] : List SNeed))) : PV) = (o1 (.own 50 (List.map eSNeed ([(⟨r62.1, r64.1⟩ : SNeed)] : List SNeed))) : PV)), (app1 (f := eSNeed) (by decide) h66), (app2 (f := eSNeed) h66), (ovapp (e := 50) (f := eSNeed) (l := z60) (m := ([(⟨r62.1, r64.1⟩ : SNeed)] : List SNeed))), trivial⟩ ?_
   refine rl [2, 4, 5, 32, 33] 3 [] [] ?_
   exact lb IH67 (w64 (z57 + 1), r64.2.1, r64.2.2, z60 ++ ([(⟨r62.1, r64.1⟩ : SNeed)] : List SNeed)) h71
  refine fx [2, 4, 5] 3 [] ?_
  refine xi ?_
  exact pf (z58, z59, z60) h71
 obtain ⟨r7, h8, h38⟩ := bs h38
 refine rn [2, 4, 5, 17, 18] 3 [] [hG 1 [] [1] none (impl_reader__number_2.fn h8)] ?_
 refine bl ?_
 refine fx [2, 4, 5, 17, 18] 3 [.own (.b 2 2) 48] ?_
 refine lo (Int × Int × Bool × (List SNeed)) k (fun k x => impl_readObject.l1 k a0 r7 x.1 x.2.1 x.2.2.1 x.2.2.2) (fun x => ⟨65, [(2, o1 (.ref 0 0)), (4, o1 (.ref 1 0)), (5, o1 (.ref 2 0)), (17, oI r7.1), (18, oI x.1)], [[cS (⟨#[]⟩ : ByteArray), cI 0, .nl, .nl, .nl], [cS a0, cI x.2.1, cB x.2.2.1], [cS r3.1, cI r5.1, .own 48 (List.map eSNeed x.2.2.2), .nl, .nl]], 0, []⟩) (0, r7.2.1, r7.2.2, ([] : List SNeed)) h38 fun k x h38 IH34 => ?_
 obtain ⟨z24, z25, z26, z27⟩ := x
 rw [impl_readObject.l1.eq_2] at h38
 refine rn [2, 4, 5, 17, 18, 19] 3 [] [] ?_
 refine sq ?_
 refine ci h38 (fun h28 h38 => ?_) fun h28 h38 => ?_
 ·refine sk ?_
  refine sq ?_
  refine bl ?_
  obtain ⟨r29, h30, h38⟩ := bs h38
  obtain ⟨r31, h32, h38⟩ := bs h38
  obtain ⟨h33, h38⟩ := nd h38
  refine Tri.dE hmix [[], [0], [], [2], [], [2, 3, 4], [2, 3, 4, 5], [2, 3, 4, 5, 6], [0, 1, 2, 3, 4, 5, 6, 7], [0, 1, 2, 3, 4, 5, 6, 7, 8], [0, 1, 2, 3, 4, 5, 6, 7, 8, 9]] [3, 5] [⟨65, [(2, o1 (.ref 0 0)), (4, o1 (.ref 1 0)), (5, o1 (.ref 2 0)), (17, oI r7.1), (18, oI z24), (19, oB (decide (z24 < r7.1)))], [[cS (⟨#[]⟩ : ByteArray), cI 0, .nl, .nl, .nl], [cS a0, cI r29.2.1, cB r29.2.2], [cS r3.1, cI r5.1, .own 48 (List.map eSNeed z27), .nl, .nl]], 0, []⟩, ⟨65, [(2, o1 (.ref 0 0)), (4, o1 (.ref 1 0)), (5, o1 (.ref 2 0)), (17, oI r7.1), (18, oI z24), (19, oB (decide (z24 < r7.1)))], [[cS (⟨#[]⟩ : ByteArray), cI 0, .nl, .nl, .nl], [cS a0, cI r31.2.1, cB r31.2.2], [cS r3.1, cI r5.1, .own 48 (List.map eSNeed z27), .nl, .nl]], 0, []⟩] [(20, o1 (.ref 2 2)), (21, o1 (.al (.b 2 2))), (22, o1 (.ref 1 0)), (23, oS r29.1), (24, o1 (.ref 1 0)), (25, oI r31.1), (26, ag [cS r29.1, cI r31.1]), (27, o1 (.own 48 (List.map eSNeed ([(⟨r29.1, r31.1⟩ : SNeed)] : List SNeed))))] [2, 4, 5, 17, 18] 3 [] [(3, .callB (oS r29.1) [] [1] none [] [[cS a0, cI r29.2.1, cB r29.2.2]]), (5, .callB (oI r31.1) [] [1] none [] [[cS a0, cI r31.2.1, cB r31.2.2]])] [(8, .ov [.own 48 (List.map eSNeed (z27 ++ ([(⟨r29.1, r31.1⟩ : SNeed)] : List SNeed)))])] [_, _, _, _, _, _, _, _, _, _, _, _, _, _, _, _, _, _, _, _, _, _] ⟨65, [(2, o1 (.ref 0 0)), (4, o1 (.ref 1 0)), (5, o1 (.ref 2 0)), (17, oI r7.1), (18, oI z24)], [[cS (⟨#[]⟩ : ByteArray), cI 0, .nl, .nl, .nl], [cS a0, cI r31.2.1, cB r31.2.2], [cS r3.1, cI r5.1, .own 48 (List.map eSNeed (z27 ++ ([(⟨r29.1, r31.1⟩ : SNeed)] : List SNeed))), .nl, .nl]], 0, []⟩ ⟨(rfl : ((65, 0, []) : Nat × Nat × List Nat) = ((65, 0, []) : Nat × Nat × List Nat)), (rfl : ((65, 0, []) : Nat × Nat × List Nat) = ((65, 0, []) : Nat × Nat × List Nat)), (rfl : (o1 (.ref 2 2) : PV) = (o1 (.ref 2 2) : PV)), (rfl : (o1 (.ref 2 2) : PV) = (o1 (.ref 2 2) : PV)), (rfl : (o1 (.ref 2 2) : PV) = (o1 (.ref 2 2) : PV)), (rfl : (o1 (.al (.b 2 2)) : PV) = (o1 (.al (.b 2 2)) : PV)), (rfl : (o1 (.al (.b 2 2)) : PV) = (o1 (.al (.b 2 2)) : PV)), (rfl : (o1 (.al (.b 2 2)) : PV) = (o1 (.al (.b 2 2)) : PV)), (rfl : (o1 (.ref 1 0) : PV) = (o1 (.ref 1 0) : PV)), (impl_reader__text_2.fn h30), (rfl : (([some (oS r29.1), some (o1 (.ref 1 0)), some (o1 (.ref 0 0)), some (o1 (.ref 1 0)), some (o1 (.ref 2 0)), some (oI r7.1), some (oI z24), some (oB (decide (z24 < r7.1)))], [[cS (⟨#[]⟩ : ByteArray), cI 0, .nl, .nl, .nl], [cS a0, cI r29.2.1, cB r29.2.2], [cS r3.1, cI r5.1, .own 48 (List.map eSNeed z27), .nl, .nl]], 65, 0, []) : List (Option PV) × List (List PC) × Nat × Nat × List Nat) = (([some (oS r29.1), some (o1 (.ref 1 0)), some (o1 (.ref 0 0)), some (o1 (.ref 1 0)), some (o1 (.ref 2 0)), some (oI r7.1), some (oI z24), some (oB (decide (z24 < r7.1)))], [[cS (⟨#[]⟩ : ByteArray), cI 0, .nl, .nl, .nl], [cS a0, cI r29.2.1, cB r29.2.2], [cS r3.1, cI r5.1, .own 48 (List.map eSNeed z27), .nl, .nl]], 65, 0, []) : List (Option PV) × List (List PC) × Nat × Nat × List Nat)), (rfl : (some [cS r3.1, cI r5.1, .own 48 (List.map eSNeed z27), .nl, .nl] : Option (List PC)) = some [cS r3.1, cI r5.1, .own 48 (List.map eSNeed z27), .nl, .nl]), (rfl : (o1 (.ref 1 0) : PV) = (o1 (.ref 1 0) : PV)), (rfl : (o1 (.ref 1 0) : PV) = (o1 (.ref 1 0) : PV)), (impl_reader__number_2.fn h32), (rfl : (([some (oI r31.1), some (o1 (.ref 1 0)), some (oS r29.1), some (o1 (.ref 1 0)), some (o1 (.ref 0 0)), some (o1 (.ref 1 0)), some (o1 (.ref 2 0)), some (oI r7.1), some (oI z24), some (oB (decide (z24 < r7.1)))], [[cS (⟨#[]⟩ : ByteArray), cI 0, .nl, .nl, .nl], [cS a0, cI r31.2.1, cB r31.2.2], [cS r3.1, cI r5.1, .own 48 (List.map eSNeed z27), .nl, .nl]], 65, 0, []) : List (Option PV) × List (List PC) × Nat × Nat × List Nat) = (([some (oI r31.1), some (o1 (.ref 1 0)), some (oS r29.1), some (o1 (.ref 1 0)), some (o1 (.ref 0 0)), some (o1 (.ref 1 0)), some (o1 (.ref 2 0)), some (oI r7.1), some (oI z24), some (oB (decide (z24 < r7.1)))], [[cS (⟨#[]⟩ : ByteArray), cI 0, .nl, .nl, .nl], [cS a0, cI r31.2.1, cB r31.2.2], [cS r3.1, cI r5.1, .own 48 (List.map eSNeed z27), .nl, .nl]], 65, 0, []) : List (Option PV) × List (List PC) × Nat × Nat × List Nat)), (rfl : (some [cS r3.1, cI r5.1, .own 48 (List.map eSNeed z27), .nl, .nl] : Option (List PC)) = some [cS r3.1, cI r5.1, .own 48 (List.map eSNeed z27), .nl, .nl]), (rfl : (ag [cS r29.1, cI r31.1] : PV) = (ag [cS r29.1, cI r31.1] : PV)), (rfl : (o1 (.own 48 (List.map eSNeed ([(⟨r29.1, r31.1⟩ : SNeed)] : List SNeed))) : PV) = (o1 (.own 48 (List.map eSNeed ([(⟨r29.1, r31.1⟩ : SNeed)] : List SNeed))) : PV)), (app1 (f := eSNeed) (by decide) h33), (app2 (f := eSNeed) h33), (ovapp (e := 48) (f := eSNeed) (l := z27) (m := ([(⟨r29.1, r31.1⟩ : SNeed)] : List SNeed))), trivial⟩ ?_
  refine rl [2, 4, 5, 17, 18] 3 [] [] ?_
  exact lb IH34 (w64 (z24 + 1), r31.2.1, r31.2.2, z27 ++ ([(⟨r29.1, r31.1⟩ : SNeed)] : List SNeed)) h38
 refine fx [2, 4, 5] 3 [] ?_
 refine xi ?_
 exact pf (z25, z26, z27) h38
/-! impl_EntryOK: function 7 -/
def impl_EntryOK.e1 (k : Nat) (a0 : SEntry) : Option Bool := (impl_Entry__sum.f k a0).bind fun r1 => if a0.f4 = r1 then ((impl_isShort_string.f k a0.f3).bind fun r4 => if r4 = true then ((impl_isShort_string.f k a0.f2).bind fun r7 => if r7 = true then (some (decide ((4000 : Int) < (a0.f1.size : Int)))) else (some true)) else (some true)) else (some true)
def impl_EntryOK.e2 (k : Nat) (a0 : SEntry) (r14 : (SObj × Bool × ByteArray × Int × (List SNeed) × (List SNeed) × (List SCode))) : Option Bool := if r14.2.1 = true then (some (decide (r14.1.f0 = a0.f0))) else (some false)
def impl_EntryOK.f (k : Nat) (a0 : SEntry) : Option Bool := (impl_EntryOK.e1 k a0).bind fun y10 => if y10 = true then (some false) else ((impl_readObject.f k a0.f3).bind fun r14 => (impl_EntryOK.e2 k a0 r14).bind fun y17 => some y17)
theorem impl_EntryOK.fn {k : Nat} {a0 : SEntry} {r : Bool} (H : impl_EntryOK.f k a0 = some r) : Fn Tryz.prog 7 [ag (eSEntry a0)] [] (oB r) [] := by
 refine Fn.bd [2] Tryz.func7 ?_
 refine rn [1] 1 [] [] ?_
 refine sq ?_
 refine jo H (fun y10 => ⟨42, [(1, o1 (.ref 0 0)), (27, oB y10)], [eSEntry a0], 0, []⟩) (fun y10 H => ?_) fun v12 h11 H => ?_
 ·refine cb H (fun h13 H => ?_) fun h13 H => ?_
  ·refine rn [2] 0 [] [] ?_
   refine Tri.ret ?_
   cases H;exact eR
  refine sk ?_
  obtain ⟨r14, h15, H⟩ := bs H
  refine rn [1, 3, 4] 2 [] [hS 2 [] (impl_readObject.fn h15)] ?_
  refine jo H (fun y17 => ⟨42, [(2, oB y17)], [], 0, []⟩) (fun y17 H => ?_) fun v19 h18 H => ?_
  ·refine Tri.ret ?_
   cases H;exact eR
  rcases iteb_some h18 with ⟨h16, h18⟩ | ⟨h16, h18⟩
  ·refine rl [2] 0 [] [hB 0 h16] ?_
   exact pf (decide (r14.1.f0 = a0.f0)) h18
  refine rl [2] 0 [] [hB 0 h16] ?_
  exact pf false h18
 obtain ⟨r1, h2, h11⟩ := bs h11
 rcases ite_some h11 with ⟨h3, h11⟩ | ⟨h3, h11⟩
 ·obtain ⟨r4, h5, h11⟩ := bs h11
  rcases iteb_some h11 with ⟨h6, h11⟩ | ⟨h6, h11⟩
  ·obtain ⟨r7, h8, h11⟩ := bs h11
   rcases iteb_some h11 with ⟨h9, h11⟩ | ⟨h9, h11⟩
   ·refine dl hmix 4 [[], [0], [], [2], [0, 1, 2, 3], [0, 1, 2, 3, 4], [0, 1, 2, 3, 4, 5], [0, 1, 2, 3, 4, 5, 6], [0, 1, 2, 3, 4, 5, 6, 7], [0, 1, 2, 3, 4, 5, 6, 7, 8], [0, 1, 2, 3, 4, 5, 6, 7, 8, 9], [0, 1, 2, 3, 4, 5, 6, 7, 8, 9, 10], [0, 1, 2, 3, 4, 5, 6, 7, 8, 9, 10, 11], [0, 1, 2, 3, 4, 5, 6, 7, 8, 9, 10, 11, 12], [0, 1, 2, 3, 4, 5, 6, 7, 8, 9, 10, 11, 12, 13], [0, 1, 2, 3, 4, 5, 6, 7, 8, 9, 10, 11, 12, 13, 14], [0, 1, 2, 3, 4, 5, 6, 7, 8, 9, 10, 11, 12, 13, 14, 15], [0, 1, 2, 3, 4, 5, 6, 7, 8, 9, 10, 11, 12, 13, 14, 15, 16], [0, 1, 2, 3, 4, 5, 6, 7, 8, 9, 10, 11, 12, 13, 14, 15, 16, 17], [0, 1, 2, 3, 4, 5, 6, 7, 8, 9, 10, 11, 12, 13, 14, 15, 16, 17, 18], [0, 1, 2, 3, 4, 5, 6, 7, 8, 9, 10, 11, 12, 13, 14, 15, 16, 17, 18, 19], [0, 1, 2, 3, 4, 5, 6, 7, 8, 9, 10, 11, 12, 13, 14, 15, 16, 17, 18, 19, 20], [0, 1, 2, 3, 4, 5, 6, 7, 8, 9, 10, 11, 12, 13, 14, 15, 16, 17, 18, 19, 20, 21]] [1, 27] 1 [] [hC 3 (impl_Entry__sum.fn h2), hB 4 (nF (decide_eq_true h3)), hC 8 (impl_isShort_string.fn h5), hB 8 h6, hC 14 (impl_isShort_string.fn h8), hB 14 h9] ?_
    exact pf (decide ((4000 : Int) < (a0.f1.size : Int))) h11
   refine dl hmix 4 [[], [0], [], [2], [0, 1, 2, 3], [0, 1, 2, 3, 4], [0, 1, 2, 3, 4, 5], [0, 1, 2, 3, 4, 5, 6], [0, 1, 2, 3, 4, 5, 6, 7], [0, 1, 2, 3, 4, 5, 6, 7, 8], [0, 1, 2, 3, 4, 5, 6, 7, 8, 9], [0, 1, 2, 3, 4, 5, 6, 7, 8, 9, 10], [0, 1, 2, 3, 4, 5, 6, 7, 8, 9, 10, 11], [0, 1, 2, 3, 4, 5, 6, 7, 8, 9, 10, 11, 12], [0, 1, 2, 3, 4, 5, 6, 7, 8, 9, 10, 11, 12, 13], [0, 1, 2, 3, 4, 5, 6, 7, 8, 9, 10, 11, 12, 13, 14], [0, 1, 2, 3, 4, 5, 6, 7, 8, 9, 10, 11, 12, 13, 14, 15], [0, 1, 2, 3, 4, 5, 6, 7, 8, 9, 10, 11, 12, 13, 14, 15, 16], [0, 1, 2, 3, 4, 5, 6, 7, 8, 9, 10, 11, 12, 13, 14, 15, 16, 17], [0, 1, 2, 3, 4, 5, 6, 7, 8, 9, 10, 11, 12, 13, 14, 15, 16, 17, 18], [0, 1, 2, 3, 4, 5, 6, 7, 8, 9, 10, 11, 12, 13, 14, 15, 16, 17, 18, 19], [0, 1, 2, 3, 4, 5, 6, 7, 8, 9, 10, 11, 12, 13, 14, 15, 16, 17, 18, 19, 20], [0, 1, 2, 3, 4, 5, 6, 7, 8, 9, 10, 11, 12, 13, 14, 15, 16, 17, 18, 19, 20, 21]] [1, 27] 1 [] [hC 3 (impl_Entry__sum.fn h2), hB 4 (nF (decide_eq_true h3)), hC 8 (impl_isShort_string.fn h5), hB 8 h6, hC 14 (impl_isShort_string.fn h8), hB 14 h9] ?_
   exact pf true h11
  refine dl hmix 4 [[], [0], [], [2], [0, 1, 2, 3], [0, 1, 2, 3, 4], [0, 1, 2, 3, 4, 5], [0, 1, 2, 3, 4, 5, 6], [0, 1, 2, 3, 4, 5, 6, 7], [0, 1, 2, 3, 4, 5, 6, 7, 8], [0, 1, 2, 3, 4, 5, 6, 7, 8, 9], [0, 1, 2, 3, 4, 5, 6, 7, 8, 9, 10], [0, 1, 2, 3, 4, 5, 6, 7, 8, 9, 10, 11], [0, 1, 2, 3, 4, 5, 6, 7, 8, 9, 10, 11, 12], [0, 1, 2, 3, 4, 5, 6, 7, 8, 9, 10, 11, 12, 13], [0, 1, 2, 3, 4, 5, 6, 7, 8, 9, 10, 11, 12, 13, 14], [0, 1, 2, 3, 4, 5, 6, 7, 8, 9, 10, 11, 12, 13, 14, 15], [0, 1, 2, 3, 4, 5, 6, 7, 8, 9, 10, 11, 12, 13, 14, 15, 16], [0, 1, 2, 3, 4, 5, 6, 7, 8, 9, 10, 11, 12, 13, 14, 15, 16, 17], [0, 1, 2, 3, 4, 5, 6, 7, 8, 9, 10, 11, 12, 13, 14, 15, 16, 17, 18], [0, 1, 2, 3, 4, 5, 6, 7, 8, 9, 10, 11, 12, 13, 14, 15, 16, 17, 18, 19], [0, 1, 2, 3, 4, 5, 6, 7, 8, 9, 10, 11, 12, 13, 14, 15, 16, 17, 18, 19, 20], [0, 1, 2, 3, 4, 5, 6, 7, 8, 9, 10, 11, 12, 13, 14, 15, 16, 17, 18, 19, 20, 21]] [1, 27] 1 [] [hC 3 (impl_Entry__sum.fn h2), hB 4 (nF (decide_eq_true h3)), hC 8 (impl_isShort_string.fn h5), hB 8 h6] ?_
  exact pf true h11
 refine dl hmix 4 [[], [0], [], [2], [0, 1, 2, 3], [0, 1, 2, 3, 4], [0, 1, 2, 3, 4, 5], [0, 1, 2, 3, 4, 5, 6], [0, 1, 2, 3, 4, 5, 6, 7], [0, 1, 2, 3, 4, 5, 6, 7, 8], [0, 1, 2, 3, 4, 5, 6, 7, 8, 9], [0, 1, 2, 3, 4, 5, 6, 7, 8, 9, 10], [0, 1, 2, 3, 4, 5, 6, 7, 8, 9, 10, 11], [0, 1, 2, 3, 4, 5, 6, 7, 8, 9, 10, 11, 12], [0, 1, 2, 3, 4, 5, 6, 7, 8, 9, 10, 11, 12, 13], [0, 1, 2, 3, 4, 5, 6, 7, 8, 9, 10, 11, 12, 13, 14], [0, 1, 2, 3, 4, 5, 6, 7, 8, 9, 10, 11, 12, 13, 14, 15], [0, 1, 2, 3, 4, 5, 6, 7, 8, 9, 10, 11, 12, 13, 14, 15, 16], [0, 1, 2, 3, 4, 5, 6, 7, 8, 9, 10, 11, 12, 13, 14, 15, 16, 17], [0, 1, 2, 3, 4, 5, 6, 7, 8, 9, 10, 11, 12, 13, 14, 15, 16, 17, 18], [0, 1, 2, 3, 4, 5, 6, 7, 8, 9, 10, 11, 12, 13, 14, 15, 16, 17, 18, 19], [0, 1, 2, 3, 4, 5, 6, 7, 8, 9, 10, 11, 12, 13, 14, 15, 16, 17, 18, 19, 20], [0, 1, 2, 3, 4, 5, 6, 7, 8, 9, 10, 11, 12, 13, 14, 15, 16, 17, 18, 19, 20, 21]] [1, 27] 1 [] [hC 3 (impl_Entry__sum.fn h2), hB 4 (nT (decide_eq_false h3))] ?_
 exact pf true h11
/-! laws_FnExactEntryOK: function 3 -/
def laws_FnExactEntryOK.e1 (k : Nat) (r6 : Bool) (r10 : Bool) : Option (Bool ⊕ Unit) := if r10 = true then (if r6 = true then (some (.inr ())) else (some (.inl false))) else (if r6 = true then (some (.inl false)) else (some (.inr ())))
def laws_FnExactEntryOK.f (k : Nat) (a0 : SEntry) : Option Bool := (laws_szEntry.f k a0 1048576).bind fun r1 => if r1 < 0 then (some true) else ((laws_toEntry.f k a0).bind fun r4 => (spec_EntryOK.f k r4.1).bind fun r6 => (laws_toEntry.f k a0).bind fun r8 => (impl_EntryOK.f k r8.1).bind fun r10 => (laws_FnExactEntryOK.e1 k r6 r10).bind fun v => match v with | .inl r => some r | .inr _ => some true)
theorem laws_FnExactEntryOK.fn {k : Nat} {a0 : SEntry} {r : Bool} (H : laws_FnExactEntryOK.f k a0 = some r) : Fn Tryz.prog 3 [ag (eSEntry a0)] [] (oB r) [] := by
 refine Fn.bd [2] Tryz.func3 ?_
 refine rn [1] 1 [] [] ?_
 refine rn [1, 3] 1 [] [] ?_
 obtain ⟨r1, h2, H⟩ := bs H
 refine rn [1, 3] 1 [] [hC 2 (laws_szEntry.fn h2)] ?_
 refine sq ?_
 refine rn [1, 10] 1 [] [] ?_
 refine ci H (fun h3 H => ?_) fun h3 H => ?_
 ·refine rn [2] 0 [] [] ?_
  refine Tri.ret ?_
  cases H;exact eR
 refine sk ?_
 obtain ⟨r4, h5, H⟩ := bs H
 obtain ⟨r6, h7, H⟩ := bs H
 refine rn [1, 4] 1 [] [hC 1 (laws_toEntry.fn h5), hC 2 (spec_EntryOK.fn h7)] ?_
 obtain ⟨r8, h9, H⟩ := bs H
 obtain ⟨r10, h11, H⟩ := bs H
 refine rx [4, 5] 0 [] [hC 1 (laws_toEntry.fn h9), hC 2 (impl_EntryOK.fn h11)] ⟨20, [(4, oB r6), (5, oB r10)], [], 0, []⟩ ?_
 refine jr H (fun _ => ⟨20, [], [], 0, []⟩) (fun _ H => ?_) fun v16 h15 H => ?_
 ·refine rn [2] 0 [] [] ?_
  refine Tri.ret ?_
  cases H;exact eR
 refine rn [19] 0 [] [] ?_
 rcases iteb_some h15 with ⟨h12, h15⟩ | ⟨h12, h15⟩
 ·rcases iteb_some h15 with ⟨h13, h15⟩ | ⟨h13, h15⟩
  ·refine cv (nF (beqv h12 h13)) ?_
   refine fx [] 0 [] ?_
   refine sk ?_
   exact pe () h15
  refine cu (nT (beqv h12 h13)) ?_
  refine rn [2] 0 [] [] ?_
  refine Tri.ret ?_
  cases h15;cases H;exact eR
 rcases iteb_some h15 with ⟨h14, h15⟩ | ⟨h14, h15⟩
 ·refine cu (nT (beqv h12 h14)) ?_
  refine rn [2] 0 [] [] ?_
  refine Tri.ret ?_
  cases h15;cases H;exact eR
 refine cv (nF (beqv h12 h14)) ?_
 refine fx [] 0 [] ?_
 refine sk ?_
 exact pe () h15
end Go.Proofs.YtiphpljonbabjaaGreatDoor.E
