/- Functions of the program and their contracts: printed by ep3.py, a program of this session. -/
import Derived.Test.YtoclajfeeebbbadGreatDoorPFnExactReadObject0
import Derived.Test.YtoclajfeeebbbadGreatDoorProg
set_option maxRecDepth 100000
set_option linter.unusedVariables false
set_option linter.unusedSectionVars false
set_option linter.unusedSimpArgs false
namespace Go.Proofs.YtoclajfeeebbbadGreatDoor.E
open Go.RowKit
variable [Lent]
/-! laws_eqInsS: function 53 -/
def laws_eqInsS.l1 : Nat → (List SIns) → (List SIns) → Int → Option (Bool ⊕ Unit)
  | 0, _, _, _ => none
  | k + 1, a0, a1, z10 => if z10 < (a0.length : Int) then ((at? a0 z10).bind fun x12 => (at? a1 z10).bind fun x14 => (laws_eqIns.f k x12 x14).bind fun r16 => if r16 = true then (laws_eqInsS.l1 k a0 a1 (w64 (z10 + 1))) else (some (.inl false))) else (some (.inr ()))
def laws_eqInsS.e2 (k : Nat) (a0 : (List SIns)) (a1 : (List SIns)) : Option (Bool ⊕ Unit) := laws_eqInsS.l1 k a0 a1 0
def laws_eqInsS.f (k : Nat) (a0 : (List SIns)) (a1 : (List SIns)) : Option Bool := if (a0.length : Int) = (a1.length : Int) then ((laws_eqInsS.e2 k a0 a1).bind fun v => match v with | .inl r => some r | .inr _ => some true) else (some false)
theorem laws_eqInsS.fn {k : Nat} {a0 : (List SIns)} {a1 : (List SIns)} {r : Bool} (H : laws_eqInsS.f k a0 a1 = some r) : Fn Tryz.prog 53 [o1 (.sl 5 (List.map eSIns a0)), o1 (.sl 5 (List.map eSIns a1))] [] (oB r) [] := by
 refine Fn.bd [4] Tryz.func53 ?_
 refine rn [0, 1] 0 [] [] ?_
 refine sq ?_
 refine rn [0, 1, 10] 0 [] [hL 1 eSIns a0, hL 3 eSIns a1] ?_
 refine cn H (fun h1 H => ?_) fun h1 H => ?_
 ·refine sk ?_
  refine jr H (fun _ => ⟨27, [], [], 0, []⟩) (fun _ H => ?_) fun v21 h20 H => ?_
  ·refine rn [4] 0 [] [] ?_
   refine Tri.ret ?_
   obtain rfl := si H;exact eR
  refine rn [0, 1, 5] 0 [] [] ?_
  refine bl ?_
  refine lo Int k (fun k x => laws_eqInsS.l1 k a0 a1 x) (fun x => ⟨27, [(0, o1 (.sl 5 (List.map eSIns a0))), (1, o1 (.sl 5 (List.map eSIns a1))), (5, oI x)], [], 0, []⟩) 0 h20 fun k z10 h20 IH19 => ?_
  rw [laws_eqInsS.l1.eq_2] at h20
  refine sq ?_
  refine rn [0, 1, 5, 14] 0 [] [hL 2 eSIns a0] ?_
  refine ci h20 (fun h11 h20 => ?_) fun h11 h20 => ?_
  ·refine sk ?_
   refine sq ?_
   refine bl ?_
   obtain ⟨x12, h13, h20⟩ := bs h20
   obtain ⟨x14, h15, h20⟩ := bs h20
   obtain ⟨r16, h17, h20⟩ := bs h20
   refine dn hmix 8 [[], [], [0, 1], [0, 1, 2], [], [], [4, 5], [4, 5, 6], [0, 1, 2, 3, 4, 5, 6, 7], [0, 1, 2, 3, 4, 5, 6, 7, 8]] [0, 1, 5, 26] 0 [] [hE 2 eSIns h13, hE 6 eSIns h15, hC 8 (laws_eqIns.fn h17)] ?_
   refine cm h20 (fun h18 h20 => ?_) fun h18 h20 => ?_
   ·refine sk ?_
    refine rl [0, 1, 5] 0 [] [] ?_
    exact lb IH19 (w64 (z10 + 1)) h20
   refine rn [4] 0 [] [] ?_
   refine Tri.ret ?_
   obtain rfl := si h20;obtain rfl := si H;exact eR
  refine fx [] 0 [] ?_
  refine xi ?_
  exact pe () h20
 refine rn [4] 0 [] [] ?_
 refine Tri.ret ?_
 obtain rfl := si H;exact eR
/-! laws_eqCode: function 36 -/
def laws_eqCode.f (k : Nat) (a0 : SCode) (a1 : SCode) : Option Bool := if a0.f0 = a1.f0 then (if a0.f1 = a1.f1 then (if a0.f2 = a1.f2 then (if a0.f3 = a1.f3 then ((laws_eqInsS.f k a0.f4 a1.f4).bind fun r5 => if r5 = true then (some true) else (some false)) else (some false)) else (some false)) else (some false)) else (some false)
theorem laws_eqCode.fn {k : Nat} {a0 : SCode} {a1 : SCode} {r : Bool} (H : laws_eqCode.f k a0 a1 = some r) : Fn Tryz.prog 36 [ag (eSCode a0), ag (eSCode a1)] [] (oB r) [] := by
 refine Fn.bd [4] Tryz.func36 ?_
 refine rn [2, 3] 2 [] [] ?_
 refine sq ?_
 refine rn [2, 3, 9] 2 [] [] ?_
 refine cn H (fun h1 H => ?_) fun h1 H => ?_
 ·refine sk ?_
  refine sq ?_
  refine rn [2, 3, 14] 2 [] [] ?_
  refine cn H (fun h2 H => ?_) fun h2 H => ?_
  ·refine sk ?_
   refine sq ?_
   refine rn [2, 3, 19] 2 [] [] ?_
   refine cn H (fun h3 H => ?_) fun h3 H => ?_
   ·refine sk ?_
    refine sq ?_
    refine rn [2, 3, 24] 2 [] [] ?_
    refine cn H (fun h4 H => ?_) fun h4 H => ?_
    ·refine sk ?_
     refine sq ?_
     obtain ⟨r5, h6, H⟩ := bs H
     refine rx [30] 0 [] [hC 4 (laws_eqInsS.fn h6)] ⟨31, [(30, oB (!r5))], [], 0, []⟩ ?_
     refine cm H (fun h7 H => ?_) fun h7 H => ?_
     ·refine sk ?_
      refine rn [4] 0 [] [] ?_
      refine Tri.ret ?_
      obtain rfl := si H;exact eR
     refine rn [4] 0 [] [] ?_
     refine Tri.ret ?_
     obtain rfl := si H;exact eR
    refine rx [4] 0 [] [] ⟨31, [(4, oB false)], [], 0, []⟩ ?_
    refine Tri.ret ?_
    obtain rfl := si H;exact eR
   refine rn [4] 0 [] [] ?_
   refine Tri.ret ?_
   obtain rfl := si H;exact eR
  refine rn [4] 0 [] [] ?_
  refine Tri.ret ?_
  obtain rfl := si H;exact eR
 refine rn [4] 0 [] [] ?_
 refine Tri.ret ?_
 obtain rfl := si H;exact eR
/-! laws_eqCodeS: function 17 -/
def laws_eqCodeS.l1 : Nat → (List SCode) → (List SCode) → Int → Option (Bool ⊕ Unit)
  | 0, _, _, _ => none
  | k + 1, a0, a1, z10 => if z10 < (a0.length : Int) then ((at? a0 z10).bind fun x12 => (at? a1 z10).bind fun x14 => (laws_eqCode.f k x12 x14).bind fun r16 => if r16 = true then (laws_eqCodeS.l1 k a0 a1 (w64 (z10 + 1))) else (some (.inl false))) else (some (.inr ()))
def laws_eqCodeS.e2 (k : Nat) (a0 : (List SCode)) (a1 : (List SCode)) : Option (Bool ⊕ Unit) := laws_eqCodeS.l1 k a0 a1 0
def laws_eqCodeS.f (k : Nat) (a0 : (List SCode)) (a1 : (List SCode)) : Option Bool := if (a0.length : Int) = (a1.length : Int) then ((laws_eqCodeS.e2 k a0 a1).bind fun v => match v with | .inl r => some r | .inr _ => some true) else (some false)
theorem laws_eqCodeS.fn {k : Nat} {a0 : (List SCode)} {a1 : (List SCode)} {r : Bool} (H : laws_eqCodeS.f k a0 a1 = some r) : Fn Tryz.prog 17 [o1 (.sl 5 (List.map eSCode a0)), o1 (.sl 5 (List.map eSCode a1))] [] (oB r) [] := by
 refine Fn.bd [4] Tryz.func17 ?_
 refine rn [0, 1] 0 [] [] ?_
 refine sq ?_
 refine rn [0, 1, 10] 0 [] [hL 1 eSCode a0, hL 3 eSCode a1] ?_
 refine cn H (fun h1 H => ?_) fun h1 H => ?_
 ·refine sk ?_
  refine jr H (fun _ => ⟨27, [], [], 0, []⟩) (fun _ H => ?_) fun v21 h20 H => ?_
  ·refine rn [4] 0 [] [] ?_
   refine Tri.ret ?_
   obtain rfl := si H;exact eR
  refine rn [0, 1, 5] 0 [] [] ?_
  refine bl ?_
  refine lo Int k (fun k x => laws_eqCodeS.l1 k a0 a1 x) (fun x => ⟨27, [(0, o1 (.sl 5 (List.map eSCode a0))), (1, o1 (.sl 5 (List.map eSCode a1))), (5, oI x)], [], 0, []⟩) 0 h20 fun k z10 h20 IH19 => ?_
  rw [laws_eqCodeS.l1.eq_2] at h20
  refine sq ?_
  refine rn [0, 1, 5, 14] 0 [] [hL 2 eSCode a0] ?_
  refine ci h20 (fun h11 h20 => ?_) fun h11 h20 => ?_
  ·refine sk ?_
   refine sq ?_
   refine bl ?_
   obtain ⟨x12, h13, h20⟩ := bs h20
   obtain ⟨x14, h15, h20⟩ := bs h20
   obtain ⟨r16, h17, h20⟩ := bs h20
   refine dn hmix 8 [[], [], [0, 1], [0, 1, 2], [], [], [4, 5], [4, 5, 6], [0, 1, 2, 3, 4, 5, 6, 7], [0, 1, 2, 3, 4, 5, 6, 7, 8]] [0, 1, 5, 26] 0 [] [hE 2 eSCode h13, hE 6 eSCode h15, hC 8 (laws_eqCode.fn h17)] ?_
   refine cm h20 (fun h18 h20 => ?_) fun h18 h20 => ?_
   ·refine sk ?_
    refine rl [0, 1, 5] 0 [] [] ?_
    exact lb IH19 (w64 (z10 + 1)) h20
   refine rn [4] 0 [] [] ?_
   refine Tri.ret ?_
   obtain rfl := si h20;obtain rfl := si H;exact eR
  refine fx [] 0 [] ?_
  refine xi ?_
  exact pe () h20
 refine rn [4] 0 [] [] ?_
 refine Tri.ret ?_
 obtain rfl := si H;exact eR
/-! laws_eqObject: function 7 -/
def laws_eqObject.f (k : Nat) (a0 : SObj) (a1 : SObj) : Option Bool := if a0.f0 = a1.f0 then (if a0.f1 = a1.f1 then ((laws_eqNeedS.f k a0.f2 a1.f2).bind fun r3 => if r3 = true then ((laws_eqGlobalS.f k a0.f3 a1.f3).bind fun r6 => if r6 = true then ((laws_eqCodeS.f k a0.f4 a1.f4).bind fun r9 => if r9 = true then (some true) else (some false)) else (some false)) else (some false)) else (some false)) else (some false)
theorem laws_eqObject.fn {k : Nat} {a0 : SObj} {a1 : SObj} {r : Bool} (H : laws_eqObject.f k a0 a1 = some r) : Fn Tryz.prog 7 [ag (eSObj a0), ag (eSObj a1)] [] (oB r) [] := by
 refine Fn.bd [4] Tryz.func7 ?_
 refine rn [2, 3] 2 [] [] ?_
 refine sq ?_
 refine rn [2, 3, 9] 2 [] [] ?_
 refine cn H (fun h1 H => ?_) fun h1 H => ?_
 ·refine sk ?_
  refine sq ?_
  refine rn [2, 3, 14] 2 [] [] ?_
  refine cn H (fun h2 H => ?_) fun h2 H => ?_
  ·refine sk ?_
   refine sq ?_
   obtain ⟨r3, h4, H⟩ := bs H
   refine rn [2, 3, 20] 2 [] [hC 4 (laws_eqNeedS.fn h4)] ?_
   refine cm H (fun h5 H => ?_) fun h5 H => ?_
   ·refine sk ?_
    refine sq ?_
    obtain ⟨r6, h7, H⟩ := bs H
    refine rn [2, 3, 26] 2 [] [hC 4 (laws_eqGlobalS.fn h7)] ?_
    refine cm H (fun h8 H => ?_) fun h8 H => ?_
    ·refine sk ?_
     refine sq ?_
     obtain ⟨r9, h10, H⟩ := bs H
     refine rx [32] 0 [] [hC 4 (laws_eqCodeS.fn h10)] ⟨33, [(32, oB (!r9))], [], 0, []⟩ ?_
     refine cm H (fun h11 H => ?_) fun h11 H => ?_
     ·refine sk ?_
      refine rn [4] 0 [] [] ?_
      refine Tri.ret ?_
      obtain rfl := si H;exact eR
     refine rn [4] 0 [] [] ?_
     refine Tri.ret ?_
     obtain rfl := si H;exact eR
    refine rx [4] 0 [] [] ⟨33, [(4, oB false)], [], 0, []⟩ ?_
    refine Tri.ret ?_
    obtain rfl := si H;exact eR
   refine rn [4] 0 [] [] ?_
   refine Tri.ret ?_
   obtain rfl := si H;exact eR
  refine rn [4] 0 [] [] ?_
  refine Tri.ret ?_
  obtain rfl := si H;exact eR
 refine rn [4] 0 [] [] ?_
 refine Tri.ret ?_
 obtain rfl := si H;exact eR
/-! laws_eqByteS: function 8 -/
def laws_eqByteS.l1 : Nat → (List Int) → (List Int) → Int → Option (Bool ⊕ Unit)
  | 0, _, _, _ => none
  | k + 1, a0, a1, z8 => if z8 < (a0.length : Int) then ((at? a0 z8).bind fun x10 => (at? a1 z8).bind fun x12 => if x10 = x12 then (laws_eqByteS.l1 k a0 a1 (w64 (z8 + 1))) else (some (.inl false))) else (some (.inr ()))
def laws_eqByteS.e2 (k : Nat) (a0 : (List Int)) (a1 : (List Int)) : Option (Bool ⊕ Unit) := laws_eqByteS.l1 k a0 a1 0
def laws_eqByteS.f (k : Nat) (a0 : (List Int)) (a1 : (List Int)) : Option Bool := if (a0.length : Int) = (a1.length : Int) then ((laws_eqByteS.e2 k a0 a1).bind fun v => match v with | .inl r => some r | .inr _ => some true) else (some false)
theorem laws_eqByteS.fn {k : Nat} {a0 : (List Int)} {a1 : (List Int)} {r : Bool} (H : laws_eqByteS.f k a0 a1 = some r) : Fn Tryz.prog 8 [o1 (.sl 1 (List.map (eK .u8) a0)), o1 (.sl 1 (List.map (eK .u8) a1))] [] (oB r) [] := by
 refine Fn.bd [4] Tryz.func8 ?_
 refine rn [0, 1] 0 [] [] ?_
 refine sq ?_
 refine rn [0, 1, 10] 0 [] [hL 1 (eK .u8) a0, hL 3 (eK .u8) a1] ?_
 refine cn H (fun h1 H => ?_) fun h1 H => ?_
 ·refine sk ?_
  refine jr H (fun _ => ⟨26, [], [], 0, []⟩) (fun _ H => ?_) fun v17 h16 H => ?_
  ·refine rn [4] 0 [] [] ?_
   refine Tri.ret ?_
   obtain rfl := si H;exact eR
  refine rn [0, 1, 5] 0 [] [] ?_
  refine bl ?_
  refine lo Int k (fun k x => laws_eqByteS.l1 k a0 a1 x) (fun x => ⟨26, [(0, o1 (.sl 1 (List.map (eK .u8) a0))), (1, o1 (.sl 1 (List.map (eK .u8) a1))), (5, oI x)], [], 0, []⟩) 0 h16 fun k z8 h16 IH15 => ?_
  rw [laws_eqByteS.l1.eq_2] at h16
  refine sq ?_
  refine rn [0, 1, 5, 14] 0 [] [hL 2 (eK .u8) a0] ?_
  refine ci h16 (fun h9 h16 => ?_) fun h9 h16 => ?_
  ·refine sk ?_
   refine sq ?_
   refine bl ?_
   obtain ⟨x10, h11, h16⟩ := bs h16
   obtain ⟨x12, h13, h16⟩ := bs h16
   refine dn hmix 8 [[], [], [0, 1], [0, 1, 2], [], [], [4, 5], [4, 5, 6], [0, 1, 2, 3, 4, 5, 6, 7]] [0, 1, 5, 25] 0 [] [hE 2 (eK .u8) h11, hE 6 (eK .u8) h13] ?_
   refine cn h16 (fun h14 h16 => ?_) fun h14 h16 => ?_
   ·refine sk ?_
    refine rl [0, 1, 5] 0 [] [] ?_
    exact lb IH15 (w64 (z8 + 1)) h16
   refine rn [4] 0 [] [] ?_
   refine Tri.ret ?_
   obtain rfl := si h16;obtain rfl := si H;exact eR
  refine fx [] 0 [] ?_
  refine xi ?_
  exact pe () h16
 refine rn [4] 0 [] [] ?_
 refine Tri.ret ?_
 obtain rfl := si H;exact eR
/-! laws_markByteS_1: function 9 -/
def laws_markByteS_1.l1 : Nat → (List Int) → Int → Int → Option ((List Int) × Int)
  | 0, _, _, _ => none
  | k + 1, z4, z5, z6 => if z6 < (z4.length : Int) then ((at? z4 z6).bind fun x8 => laws_markByteS_1.l1 k  (z4.set (Int.toNat z6) (IntKind.u8.wrap (z5))) (w64 (z5 + 1)) (w64 (z6 + 1))) else (some (z4, z5))
def laws_markByteS_1.e2 (k : Nat) (a0_1 : (List Int)) (a1 : Int) : Option ((List Int) × Int) := laws_markByteS_1.l1 k  a0_1 a1 0
def laws_markByteS_1.f (k : Nat) (a0_1 : (List Int)) (a1 : Int) : Option (Int × (List Int)) := (laws_markByteS_1.e2 k a0_1 a1).bind fun v => match v with | (y11, y12) => some (y12, y11)
theorem laws_markByteS_1.fn {k : Nat} {a0_1 : (List Int)} {a1 : Int} {r : (Int × (List Int))} (H : laws_markByteS_1.f k a0_1 a1 = some r) : FnG Tryz.prog 9 [o1 (.own 5 (List.map (eK .u8) a0_1)), oI a1] [0] [] (oI r.1) [.own 5 (List.map (eK .u8) r.2)] [] := by
 refine FnG.body (ts := [4]) Tryz.func9 rfl rfl (by decide) (by decide) (Nat.le_of_ble_eq_true rfl) rfl (Nat.le_of_ble_eq_true rfl) ?_
 refine rn [0, 1] 0 [] [] ?_
 refine jo H (fun w => ⟨20, [(0, o1 (.own 5 (List.map (eK .u8) w.1))), (1, oI w.2)], [], 0, [0]⟩) (fun w H => ?_) fun v14 h13 H => ?_
 ·obtain ⟨y11, y12⟩ := w
  refine rn [0, 4] 0 [] [] ?_
  refine Tri.ret ?_
  obtain rfl := si H;exact endsG (.inr rfl) (by kernel_rfl)
 refine rn [0, 1, 5] 0 [] [] ?_
 refine bl ?_
 refine lo ((List Int) × Int × Int) k (fun k x => laws_markByteS_1.l1 k  x.1 x.2.1 x.2.2) (fun x => ⟨20, [(0, o1 (.own 5 (List.map (eK .u8) x.1))), (1, oI x.2.1), (5, oI x.2.2)], [], 0, [0]⟩) (a0_1, a1, 0) h13 fun k x h13 IH10 => ?_
 obtain ⟨z4, z5, z6⟩ := x
 rw [laws_markByteS_1.l1.eq_2] at h13
 refine sq ?_
 refine rn [0, 1, 5, 9] 0 [] [hL 2 (eK .u8) z4] ?_
 refine ci h13 (fun h7 h13 => ?_) fun h7 h13 => ?_
 ·refine sk ?_
  refine sq ?_
  refine bl ?_
  obtain ⟨x8, h9, h13⟩ := bs h13
  refine rn [0, 1, 5] 0 [] [hE 4 (eK .u8) h9, hW 5 (.t 0 0) 5 (eK .u8) h9 (IntKind.u8.wrap (z5))] ?_
  refine rl [0, 1, 5] 0 [] [] ?_
  refine rl [0, 1, 5] 0 [] [] ?_
  exact lb IH10 (z4.set (Int.toNat z6) (IntKind.u8.wrap (z5)), w64 (z5 + 1), w64 (z6 + 1)) h13
 refine fx [0, 1] 0 [] ?_
 refine xi ?_
 exact pf (z4, z5) h13
/-! laws_markText: function 37 -/
def laws_markText.l1 : Nat → Int → ByteArray → Option ByteArray
  | 0, _, _ => none
  | k + 1, z4, z5 => if (0 : Int) < z4 then (if (strOfNums ([IntKind.u8.wrap (w64 (48 + (Int.tmod z4 10)))] : List Int)).size + z5.size ≤ 9223372036854775807 then (laws_markText.l1 k  (w64 (Int.tdiv z4 10)) ((strOfNums ([IntKind.u8.wrap (w64 (48 + (Int.tmod z4 10)))] : List Int)) ++ z5)) else none) else (some z5)
def laws_markText.e2 (k : Nat) (a0 : Int) : Option ByteArray := laws_markText.l1 k  a0 (⟨#[]⟩ : ByteArray)
def laws_markText.f (k : Nat) (a0 : Int) : Option ByteArray := if a0 ≤ 0 then (some (⟨#[109, 48]⟩ : ByteArray)) else ((laws_markText.e2 k a0).bind fun y9 => if (⟨#[109]⟩ : ByteArray).size + y9.size ≤ 9223372036854775807 then (some ((⟨#[109]⟩ : ByteArray) ++ y9)) else none)
theorem laws_markText.fn {k : Nat} {a0 : Int} {r : ByteArray} (H : laws_markText.f k a0 = some r) : Fn Tryz.prog 37 [oI a0] [] (oS r) [] := by
 refine Fn.bd [2] Tryz.func37 ?_
 refine rn [0] 0 [] [] ?_
 refine sq ?_
 refine rn [0, 5] 0 [] [] ?_
 refine ci H (fun h1 H => ?_) fun h1 H => ?_
 ·refine rn [2] 0 [] [] ?_
  refine Tri.ret ?_
  obtain rfl := si H;exact eR
 refine sk ?_
 refine rn [0, 3] 0 [] [] ?_
 refine jo H (fun y9 => ⟨20, [(3, oS y9)], [], 0, []⟩) (fun y9 H => ?_) fun v11 h10 H => ?_
 ·obtain ⟨h12, H⟩ := nd H
  refine rn [2] 0 [] [p1 h12] ?_
  refine Tri.ret ?_
  obtain rfl := si H;exact eR
 refine bl ?_
 refine lo (Int × ByteArray) k (fun k x => laws_markText.l1 k  x.1 x.2) (fun x => ⟨20, [(0, oI x.1), (3, oS x.2)], [], 0, []⟩) (a0, (⟨#[]⟩ : ByteArray)) h10 fun k x h10 IH8 => ?_
 obtain ⟨z4, z5⟩ := x
 rw [laws_markText.l1.eq_2] at h10
 refine sq ?_
 refine rn [0, 3, 7] 0 [] [] ?_
 refine ci h10 (fun h6 h10 => ?_) fun h6 h10 => ?_
 ·refine sk ?_
  refine bl ?_
  obtain ⟨h7, h10⟩ := nd h10
  refine rn [0, 3] 0 [] [p1 (show (10 : Int) ≠ 0 by decide), q1 5 (.nums ([IntKind.u8.wrap (w64 (48 + (Int.tmod z4 10)))] : List Int)) (rfl : List.map (eK .u8) ([IntKind.u8.wrap (w64 (48 + (Int.tmod z4 10)))] : List Int) = List.map (fun n => [PC.sc (.int .u8 n)]) ([IntKind.u8.wrap (w64 (48 + (Int.tmod z4 10)))] : List Int)), p1 h7] ?_
  refine rl [0, 3] 0 [] [p1 (show (10 : Int) ≠ 0 by decide)] ?_
  exact lb IH8 (w64 (Int.tdiv z4 10), (strOfNums ([IntKind.u8.wrap (w64 (48 + (Int.tmod z4 10)))] : List Int)) ++ z5) h10
 refine fx [3] 0 [] ?_
 refine xi ?_
 exact pf z5 h10
/-! laws_heldNeedS: function 21 -/
def laws_heldNeedS.l1 : Nat → (List SNeed) → Int → Int → Option (Int ⊕ Int)
  | 0, _, _, _ => none
  | k + 1, a0, z8, z9 => if z9 < (a0.length : Int) then ((at? a0 z9).bind fun x11 => (laws_markText.f k z8).bind fun r13 => if x11.f0 = r13 then (if x11.f1 = (w64 (z8 + 1)) then (laws_heldNeedS.l1 k a0 (w64 ((w64 (z8 + 1)) + 1)) (w64 (z9 + 1))) else (some (.inl (-1)))) else (some (.inl (-1)))) else (some (.inr z8))
def laws_heldNeedS.e2 (k : Nat) (a0 : (List SNeed)) (a1 : Int) : Option (Int ⊕ Int) := laws_heldNeedS.l1 k a0 a1 0
def laws_heldNeedS.f (k : Nat) (a0 : (List SNeed)) (a1 : Int) : Option Int := (laws_heldNeedS.e2 k a0 a1).bind fun v => match v with | .inl r => some r | .inr y18 => some y18
theorem laws_heldNeedS.fn {k : Nat} {a0 : (List SNeed)} {a1 : Int} {r : Int} (H : laws_heldNeedS.f k a0 a1 = some r) : Fn Tryz.prog 21 [o1 (.sl 2 (List.map eSNeed a0)), oI a1] [] (oI r) [] := by
 refine Fn.bd [4] Tryz.func21 ?_
 refine rn [0, 1] 0 [] [] ?_
 refine jr H (fun y18 => ⟨32, [(1, oI y18)], [], 0, []⟩) (fun y18 H => ?_) fun v20 h19 H => ?_
 ·refine rn [4] 0 [] [] ?_
  refine Tri.ret ?_
  obtain rfl := si H;exact eR
 refine rn [0, 1, 5] 0 [] [] ?_
 refine bl ?_
 refine lo (Int × Int) k (fun k x => laws_heldNeedS.l1 k a0 x.1 x.2) (fun x => ⟨32, [(0, o1 (.sl 2 (List.map eSNeed a0))), (1, oI x.1), (5, oI x.2)], [], 0, []⟩) (a1, 0) h19 fun k x h19 IH17 => ?_
 obtain ⟨z8, z9⟩ := x
 rw [laws_heldNeedS.l1.eq_2] at h19
 refine sq ?_
 refine rn [0, 1, 5, 9] 0 [] [hL 2 eSNeed a0] ?_
 refine ci h19 (fun h10 h19 => ?_) fun h10 h19 => ?_
 ·refine sk ?_
  refine sq ?_
  refine bl ?_
  refine sq ?_
  obtain ⟨x11, h12, h19⟩ := bs h19
  obtain ⟨r13, h14, h19⟩ := bs h19
  refine dn hmix 7 [[], [], [0, 1], [0, 1, 2], [0, 1, 2, 3], [], [5], [0, 1, 2, 3, 4, 5, 6]] [0, 1, 5, 19] 0 [] [hE 2 eSNeed h12, hC 6 (laws_markText.fn h14)] ?_
  refine cn h19 (fun h15 h19 => ?_) fun h15 h19 => ?_
  ·refine sk ?_
   refine rn [0, 1, 5] 0 [] [] ?_
   refine sq ?_
   refine rn [0, 1, 5, 28] 0 [] [hE 2 eSNeed h12] ?_
   refine cn h19 (fun h16 h19 => ?_) fun h16 h19 => ?_
   ·refine sk ?_
    refine rl [0, 1, 5] 0 [] [] ?_
    refine rl [0, 1, 5] 0 [] [] ?_
    exact lb IH17 (w64 ((w64 (z8 + 1)) + 1), w64 (z9 + 1)) h19
   refine rn [4] 0 [] [] ?_
   refine Tri.ret ?_
   obtain rfl := si h19;obtain rfl := si H;exact eR
  refine rn [4] 0 [] [] ?_
  refine Tri.ret ?_
  obtain rfl := si h19;obtain rfl := si H;exact eR
 refine fx [1] 0 [] ?_
 refine xi ?_
 exact pe z8 h19
/-! laws_heldGlobalS: function 22 -/
def laws_heldGlobalS.l1 : Nat → (List SNeed) → Int → Int → Option (Int ⊕ Int)
  | 0, _, _, _ => none
  | k + 1, a0, z8, z9 => if z9 < (a0.length : Int) then ((at? a0 z9).bind fun x11 => (laws_markText.f k z8).bind fun r13 => if x11.f0 = r13 then (if x11.f1 = (w64 (z8 + 1)) then (laws_heldGlobalS.l1 k a0 (w64 ((w64 (z8 + 1)) + 1)) (w64 (z9 + 1))) else (some (.inl (-1)))) else (some (.inl (-1)))) else (some (.inr z8))
def laws_heldGlobalS.e2 (k : Nat) (a0 : (List SNeed)) (a1 : Int) : Option (Int ⊕ Int) := laws_heldGlobalS.l1 k a0 a1 0
def laws_heldGlobalS.f (k : Nat) (a0 : (List SNeed)) (a1 : Int) : Option Int := (laws_heldGlobalS.e2 k a0 a1).bind fun v => match v with | .inl r => some r | .inr y18 => some y18
theorem laws_heldGlobalS.fn {k : Nat} {a0 : (List SNeed)} {a1 : Int} {r : Int} (H : laws_heldGlobalS.f k a0 a1 = some r) : Fn Tryz.prog 22 [o1 (.sl 2 (List.map eSNeed a0)), oI a1] [] (oI r) [] := by
 refine Fn.bd [4] Tryz.func22 ?_
 refine rn [0, 1] 0 [] [] ?_
 refine jr H (fun y18 => ⟨32, [(1, oI y18)], [], 0, []⟩) (fun y18 H => ?_) fun v20 h19 H => ?_
 ·refine rn [4] 0 [] [] ?_
  refine Tri.ret ?_
  obtain rfl := si H;exact eR
 refine rn [0, 1, 5] 0 [] [] ?_
 refine bl ?_
 refine lo (Int × Int) k (fun k x => laws_heldGlobalS.l1 k a0 x.1 x.2) (fun x => ⟨32, [(0, o1 (.sl 2 (List.map eSNeed a0))), (1, oI x.1), (5, oI x.2)], [], 0, []⟩) (a1, 0) h19 fun k x h19 IH17 => ?_
 obtain ⟨z8, z9⟩ := x
 rw [laws_heldGlobalS.l1.eq_2] at h19
 refine sq ?_
 refine rn [0, 1, 5, 9] 0 [] [hL 2 eSNeed a0] ?_
 refine ci h19 (fun h10 h19 => ?_) fun h10 h19 => ?_
 ·refine sk ?_
  refine sq ?_
  refine bl ?_
  refine sq ?_
  obtain ⟨x11, h12, h19⟩ := bs h19
  obtain ⟨r13, h14, h19⟩ := bs h19
  refine dn hmix 7 [[], [], [0, 1], [0, 1, 2], [0, 1, 2, 3], [], [5], [0, 1, 2, 3, 4, 5, 6]] [0, 1, 5, 19] 0 [] [hE 2 eSNeed h12, hC 6 (laws_markText.fn h14)] ?_
  refine cn h19 (fun h15 h19 => ?_) fun h15 h19 => ?_
  ·refine sk ?_
   refine rn [0, 1, 5] 0 [] [] ?_
   refine sq ?_
   refine rn [0, 1, 5, 28] 0 [] [hE 2 eSNeed h12] ?_
   refine cn h19 (fun h16 h19 => ?_) fun h16 h19 => ?_
   ·refine sk ?_
    refine rl [0, 1, 5] 0 [] [] ?_
    refine rl [0, 1, 5] 0 [] [] ?_
    exact lb IH17 (w64 ((w64 (z8 + 1)) + 1), w64 (z9 + 1)) h19
   refine rn [4] 0 [] [] ?_
   refine Tri.ret ?_
   obtain rfl := si h19;obtain rfl := si H;exact eR
  refine rn [4] 0 [] [] ?_
  refine Tri.ret ?_
  obtain rfl := si h19;obtain rfl := si H;exact eR
 refine fx [1] 0 [] ?_
 refine xi ?_
 exact pe z8 h19
/-! laws_heldInsS: function 39 -/
def laws_heldInsS.l1 : Nat → (List SIns) → Int → Int → Option (Int ⊕ Int)
  | 0, _, _, _ => none
  | k + 1, a0, z13, z14 => if z14 < (a0.length : Int) then ((at? a0 z14).bind fun x16 => if x16.f0 = z13 then (if x16.f1 = (w64 (z13 + 1)) then (if x16.f2 = (w64 ((w64 (z13 + 1)) + 1)) then ((laws_markText.f k (w64 ((w64 ((w64 (z13 + 1)) + 1)) + 1))).bind fun r21 => if x16.f3 = r21 then ((laws_markText.f k (w64 ((w64 ((w64 ((w64 (z13 + 1)) + 1)) + 1)) + 1))).bind fun r24 => if x16.f4 = r24 then (laws_heldInsS.l1 k a0 (w64 ((w64 ((w64 ((w64 ((w64 (z13 + 1)) + 1)) + 1)) + 1)) + 1)) (w64 (z14 + 1))) else (some (.inl (-1)))) else (some (.inl (-1)))) else (some (.inl (-1)))) else (some (.inl (-1)))) else (some (.inl (-1)))) else (some (.inr z13))
def laws_heldInsS.e2 (k : Nat) (a0 : (List SIns)) (a1 : Int) : Option (Int ⊕ Int) := laws_heldInsS.l1 k a0 a1 0
def laws_heldInsS.f (k : Nat) (a0 : (List SIns)) (a1 : Int) : Option Int := (laws_heldInsS.e2 k a0 a1).bind fun v => match v with | .inl r => some r | .inr y28 => some y28
theorem laws_heldInsS.fn {k : Nat} {a0 : (List SIns)} {a1 : Int} {r : Int} (H : laws_heldInsS.f k a0 a1 = some r) : Fn Tryz.prog 39 [o1 (.sl 5 (List.map eSIns a0)), oI a1] [] (oI r) [] := by
 refine Fn.bd [4] Tryz.func39 ?_
 refine rn [0, 1] 0 [] [] ?_
 refine jr H (fun y28 => ⟨60, [(1, oI y28)], [], 0, []⟩) (fun y28 H => ?_) fun v30 h29 H => ?_
 ·refine rn [4] 0 [] [] ?_
  refine Tri.ret ?_
  obtain rfl := si H;exact eR
 refine rn [0, 1, 5] 0 [] [] ?_
 refine bl ?_
 refine lo (Int × Int) k (fun k x => laws_heldInsS.l1 k a0 x.1 x.2) (fun x => ⟨60, [(0, o1 (.sl 5 (List.map eSIns a0))), (1, oI x.1), (5, oI x.2)], [], 0, []⟩) (a1, 0) h29 fun k x h29 IH27 => ?_
 obtain ⟨z13, z14⟩ := x
 rw [laws_heldInsS.l1.eq_2] at h29
 refine sq ?_
 refine rn [0, 1, 5, 9] 0 [] [hL 2 eSIns a0] ?_
 refine ci h29 (fun h15 h29 => ?_) fun h15 h29 => ?_
 ·refine sk ?_
  refine sq ?_
  refine bl ?_
  refine sq ?_
  obtain ⟨x16, h17, h29⟩ := bs h29
  refine rn [0, 1, 5, 18] 0 [] [hE 2 eSIns h17] ?_
  refine cn h29 (fun h18 h29 => ?_) fun h18 h29 => ?_
  ·refine sk ?_
   refine rn [0, 1, 5] 0 [] [] ?_
   refine sq ?_
   refine rn [0, 1, 5, 27] 0 [] [hE 2 eSIns h17] ?_
   refine cn h29 (fun h19 h29 => ?_) fun h19 h29 => ?_
   ·refine sk ?_
    refine rn [0, 1, 5] 0 [] [] ?_
    refine sq ?_
    refine rx [0, 1, 5, 36] 0 [] [hE 2 eSIns h17] ⟨60, [(0, o1 (.sl 5 (List.map eSIns a0))), (1, oI (w64 ((w64 (z13 + 1)) + 1))), (5, oI z14), (36, oB (!(decide (x16.f2 = (w64 ((w64 (z13 + 1)) + 1))))))], [], 0, []⟩ ?_
    refine cn h29 (fun h20 h29 => ?_) fun h20 h29 => ?_
    ·refine sk ?_
     refine rn [0, 1, 5] 0 [] [] ?_
     refine sq ?_
     obtain ⟨r21, h22, h29⟩ := bs h29
     refine dn hmix 7 [[], [], [0, 1], [0, 1, 2], [0, 1, 2, 3], [], [5], [0, 1, 2, 3, 4, 5, 6]] [0, 1, 5, 46] 0 [] [hE 2 eSIns h17, hC 6 (laws_markText.fn h22)] ?_
     refine cn h29 (fun h23 h29 => ?_) fun h23 h29 => ?_
     ·refine sk ?_
      refine rn [0, 1, 5] 0 [] [] ?_
      refine sq ?_
      obtain ⟨r24, h25, h29⟩ := bs h29
      refine dn hmix 7 [[], [], [0, 1], [0, 1, 2], [0, 1, 2, 3], [], [5], [0, 1, 2, 3, 4, 5, 6]] [0, 1, 5, 56] 0 [] [hE 2 eSIns h17, hC 6 (laws_markText.fn h25)] ?_
      refine cn h29 (fun h26 h29 => ?_) fun h26 h29 => ?_
      ·refine sk ?_
       refine rl [0, 1, 5] 0 [] [] ?_
       refine rl [0, 1, 5] 0 [] [] ?_
       exact lb IH27 (w64 ((w64 ((w64 ((w64 ((w64 (z13 + 1)) + 1)) + 1)) + 1)) + 1), w64 (z14 + 1)) h29
      refine rn [4] 0 [] [] ?_
      refine Tri.ret ?_
      obtain rfl := si h29;obtain rfl := si H;exact eR
     refine rn [4] 0 [] [] ?_
     refine Tri.ret ?_
     obtain rfl := si h29;obtain rfl := si H;exact eR
    refine rn [4] 0 [] [] ?_
    refine Tri.ret ?_
    obtain rfl := si h29;obtain rfl := si H;exact eR
   refine rn [4] 0 [] [] ?_
   refine Tri.ret ?_
   obtain rfl := si h29;obtain rfl := si H;exact eR
  refine rn [4] 0 [] [] ?_
  refine Tri.ret ?_
  obtain rfl := si h29;obtain rfl := si H;exact eR
 refine fx [1] 0 [] ?_
 refine xi ?_
 exact pe z13 h29
/-! laws_heldCodeS: function 23 -/
def laws_heldCodeS.l1 : Nat → (List SCode) → Int → Int → Option (Int ⊕ Int)
  | 0, _, _, _ => none
  | k + 1, a0, z13, z14 => if z14 < (a0.length : Int) then ((at? a0 z14).bind fun x16 => (laws_markText.f k z13).bind fun r18 => if x16.f0 = r18 then (if x16.f1 = (w64 (z13 + 1)) then (if x16.f2 = (w64 ((w64 (z13 + 1)) + 1)) then (if x16.f3 = (w64 ((w64 ((w64 (z13 + 1)) + 1)) + 1)) then ((laws_heldInsS.f k x16.f4 (w64 ((w64 ((w64 ((w64 (z13 + 1)) + 1)) + 1)) + 1))).bind fun r24 => if r24 < 0 then (some (.inl (-1))) else (laws_heldCodeS.l1 k a0 r24 (w64 (z14 + 1)))) else (some (.inl (-1)))) else (some (.inl (-1)))) else (some (.inl (-1)))) else (some (.inl (-1)))) else (some (.inr z13))
def laws_heldCodeS.e2 (k : Nat) (a0 : (List SCode)) (a1 : Int) : Option (Int ⊕ Int) := laws_heldCodeS.l1 k a0 a1 0
def laws_heldCodeS.f (k : Nat) (a0 : (List SCode)) (a1 : Int) : Option Int := (laws_heldCodeS.e2 k a0 a1).bind fun v => match v with | .inl r => some r | .inr y28 => some y28
theorem laws_heldCodeS.fn {k : Nat} {a0 : (List SCode)} {a1 : Int} {r : Int} (H : laws_heldCodeS.f k a0 a1 = some r) : Fn Tryz.prog 23 [o1 (.sl 5 (List.map eSCode a0)), oI a1] [] (oI r) [] := by
 refine Fn.bd [4] Tryz.func23 ?_
 refine rn [0, 1] 0 [] [] ?_
 refine jr H (fun y28 => ⟨59, [(1, oI y28)], [], 0, []⟩) (fun y28 H => ?_) fun v30 h29 H => ?_
 ·refine rn [4] 0 [] [] ?_
  refine Tri.ret ?_
  obtain rfl := si H;exact eR
 refine rn [0, 1, 5] 0 [] [] ?_
 refine bl ?_
 refine lo (Int × Int) k (fun k x => laws_heldCodeS.l1 k a0 x.1 x.2) (fun x => ⟨59, [(0, o1 (.sl 5 (List.map eSCode a0))), (1, oI x.1), (5, oI x.2)], [], 0, []⟩) (a1, 0) h29 fun k x h29 IH27 => ?_
 obtain ⟨z13, z14⟩ := x
 rw [laws_heldCodeS.l1.eq_2] at h29
 refine sq ?_
 refine rn [0, 1, 5, 9] 0 [] [hL 2 eSCode a0] ?_
 refine ci h29 (fun h15 h29 => ?_) fun h15 h29 => ?_
 ·refine sk ?_
  refine sq ?_
  refine bl ?_
  refine sq ?_
  obtain ⟨x16, h17, h29⟩ := bs h29
  obtain ⟨r18, h19, h29⟩ := bs h29
  refine dn hmix 7 [[], [], [0, 1], [0, 1, 2], [0, 1, 2, 3], [], [5], [0, 1, 2, 3, 4, 5, 6]] [0, 1, 5, 19] 0 [] [hE 2 eSCode h17, hC 6 (laws_markText.fn h19)] ?_
  refine cn h29 (fun h20 h29 => ?_) fun h20 h29 => ?_
  ·refine sk ?_
   refine rn [0, 1, 5] 0 [] [] ?_
   refine sq ?_
   refine rn [0, 1, 5, 28] 0 [] [hE 2 eSCode h17] ?_
   refine cn h29 (fun h21 h29 => ?_) fun h21 h29 => ?_
   ·refine sk ?_
    refine rn [0, 1, 5] 0 [] [] ?_
    refine sq ?_
    refine rx [0, 1, 5, 37] 0 [] [hE 2 eSCode h17] ⟨59, [(0, o1 (.sl 5 (List.map eSCode a0))), (1, oI (w64 ((w64 (z13 + 1)) + 1))), (5, oI z14), (37, oB (!(decide (x16.f2 = (w64 ((w64 (z13 + 1)) + 1))))))], [], 0, []⟩ ?_
    refine cn h29 (fun h22 h29 => ?_) fun h22 h29 => ?_
    ·refine sk ?_
     refine rn [0, 1, 5] 0 [] [] ?_
     refine sq ?_
     refine rn [0, 1, 5, 46] 0 [] [hE 2 eSCode h17] ?_
     refine cn h29 (fun h23 h29 => ?_) fun h23 h29 => ?_
     ·refine sk ?_
      refine rn [0, 1, 5] 0 [] [] ?_
      obtain ⟨r24, h25, h29⟩ := bs h29
      refine rn [0, 1, 5] 0 [] [hE 2 eSCode h17, hC 6 (laws_heldInsS.fn h25)] ?_
      refine rn [0, 1, 5, 57] 0 [] [] ?_
      refine ci h29 (fun h26 h29 => ?_) fun h26 h29 => ?_
      ·refine rx [4] 0 [] [] ⟨59, [(4, oI (-1))], [], 0, []⟩ ?_
       refine Tri.ret ?_
       obtain rfl := si h29;obtain rfl := si H;exact eR
      refine sk ?_
      refine rl [0, 1, 5] 0 [] [] ?_
      exact lb IH27 (r24, w64 (z14 + 1)) h29
     refine rn [4] 0 [] [] ?_
     refine Tri.ret ?_
     obtain rfl := si h29;obtain rfl := si H;exact eR
    refine rn [4] 0 [] [] ?_
    refine Tri.ret ?_
    obtain rfl := si h29;obtain rfl := si H;exact eR
   refine rn [4] 0 [] [] ?_
   refine Tri.ret ?_
   obtain rfl := si h29;obtain rfl := si H;exact eR
  refine rn [4] 0 [] [] ?_
  refine Tri.ret ?_
  obtain rfl := si h29;obtain rfl := si H;exact eR
 refine fx [1] 0 [] ?_
 refine xi ?_
 exact pe z13 h29
/-! laws_heldObject: function 11 -/
def laws_heldObject.f (k : Nat) (a0 : SObj) (a1 : Int) : Option Int := (laws_heldNeedS.f k a0.f2 a1).bind fun r1 => if r1 < 0 then (some (-1)) else ((laws_heldGlobalS.f k a0.f3 r1).bind fun r4 => if r4 < 0 then (some (-1)) else ((laws_heldCodeS.f k a0.f4 r4).bind fun r7 => if r7 < 0 then (some (-1)) else (some r7)))
theorem laws_heldObject.fn {k : Nat} {a0 : SObj} {a1 : Int} {r : Int} (H : laws_heldObject.f k a0 a1 = some r) : Fn Tryz.prog 11 [ag (eSObj a0), oI a1] [] (oI r) [] := by
 refine Fn.bd [4] Tryz.func11 ?_
 refine rn [1, 2] 1 [] [] ?_
 obtain ⟨r1, h2, H⟩ := bs H
 refine rn [1, 2] 1 [] [hC 3 (laws_heldNeedS.fn h2)] ?_
 refine sq ?_
 refine rn [1, 2, 10] 1 [] [] ?_
 refine ci H (fun h3 H => ?_) fun h3 H => ?_
 ·refine rn [4] 0 [] [] ?_
  refine Tri.ret ?_
  obtain rfl := si H;exact eR
 refine sk ?_
 obtain ⟨r4, h5, H⟩ := bs H
 refine rn [1, 2] 1 [] [hC 3 (laws_heldGlobalS.fn h5)] ?_
 refine sq ?_
 refine rn [1, 2, 16] 1 [] [] ?_
 refine ci H (fun h6 H => ?_) fun h6 H => ?_
 ·refine rx [4] 0 [] [] ⟨24, [(4, oI (-1))], [], 0, []⟩ ?_
  refine Tri.ret ?_
  obtain rfl := si H;exact eR
 refine sk ?_
 obtain ⟨r7, h8, H⟩ := bs H
 refine rx [1] 0 [] [hC 3 (laws_heldCodeS.fn h8)] ⟨24, [(1, oI r7)], [], 0, []⟩ ?_
 refine sq ?_
 refine rn [1, 22] 0 [] [] ?_
 refine ci H (fun h9 H => ?_) fun h9 H => ?_
 ·refine rn [4] 0 [] [] ?_
  refine Tri.ret ?_
  obtain rfl := si H;exact eR
 refine sk ?_
 refine rn [4] 0 [] [] ?_
 refine Tri.ret ?_
 obtain rfl := si H;exact eR
/-! laws_markInsS_1: function 38 -/
def laws_markInsS_1.l1 : Nat → (List SIns) → Int → Int → Option ((List SIns) × Int)
  | 0, _, _, _ => none
  | k + 1, z16, z17, z18 => if z18 < (z16.length : Int) then ((at? z16 z18).bind fun x20 => (at? (z16.set (Int.toNat z18) (⟨z17, x20.f1, x20.f2, x20.f3, x20.f4⟩ : SIns)) z18).bind fun x22 => (at? ((z16.set (Int.toNat z18) (⟨z17, x20.f1, x20.f2, x20.f3, x20.f4⟩ : SIns)).set (Int.toNat z18) (⟨x22.f0, w64 (z17 + 1), x22.f2, x22.f3, x22.f4⟩ : SIns)) z18).bind fun x24 => (laws_markText.f k (w64 ((w64 ((w64 (z17 + 1)) + 1)) + 1))).bind fun r26 => (at? (((z16.set (Int.toNat z18) (⟨z17, x20.f1, x20.f2, x20.f3, x20.f4⟩ : SIns)).set (Int.toNat z18) (⟨x22.f0, w64 (z17 + 1), x22.f2, x22.f3, x22.f4⟩ : SIns)).set (Int.toNat z18) (⟨x24.f0, x24.f1, w64 ((w64 (z17 + 1)) + 1), x24.f3, x24.f4⟩ : SIns)) z18).bind fun x28 => (laws_markText.f k (w64 ((w64 ((w64 ((w64 (z17 + 1)) + 1)) + 1)) + 1))).bind fun r30 => (at? ((((z16.set (Int.toNat z18) (⟨z17, x20.f1, x20.f2, x20.f3, x20.f4⟩ : SIns)).set (Int.toNat z18) (⟨x22.f0, w64 (z17 + 1), x22.f2, x22.f3, x22.f4⟩ : SIns)).set (Int.toNat z18) (⟨x24.f0, x24.f1, w64 ((w64 (z17 + 1)) + 1), x24.f3, x24.f4⟩ : SIns)).set (Int.toNat z18) (⟨x28.f0, x28.f1, x28.f2, r26, x28.f4⟩ : SIns)) z18).bind fun x32 => laws_markInsS_1.l1 k  (((((z16.set (Int.toNat z18) (⟨z17, x20.f1, x20.f2, x20.f3, x20.f4⟩ : SIns)).set (Int.toNat z18) (⟨x22.f0, w64 (z17 + 1), x22.f2, x22.f3, x22.f4⟩ : SIns)).set (Int.toNat z18) (⟨x24.f0, x24.f1, w64 ((w64 (z17 + 1)) + 1), x24.f3, x24.f4⟩ : SIns)).set (Int.toNat z18) (⟨x28.f0, x28.f1, x28.f2, r26, x28.f4⟩ : SIns)).set (Int.toNat z18) (⟨x32.f0, x32.f1, x32.f2, x32.f3, r30⟩ : SIns)) (w64 ((w64 ((w64 ((w64 ((w64 (z17 + 1)) + 1)) + 1)) + 1)) + 1)) (w64 (z18 + 1))) else (some (z16, z17))
def laws_markInsS_1.e2 (k : Nat) (a0_1 : (List SIns)) (a1 : Int) : Option ((List SIns) × Int) := laws_markInsS_1.l1 k  a0_1 a1 0
def laws_markInsS_1.f (k : Nat) (a0_1 : (List SIns)) (a1 : Int) : Option (Int × (List SIns)) := (laws_markInsS_1.e2 k a0_1 a1).bind fun v => match v with | (y35, y36) => some (y36, y35)
theorem laws_markInsS_1.fn {k : Nat} {a0_1 : (List SIns)} {a1 : Int} {r : (Int × (List SIns))} (H : laws_markInsS_1.f k a0_1 a1 = some r) : FnG Tryz.prog 38 [o1 (.own 58 (List.map eSIns a0_1)), oI a1] [0] [] (oI r.1) [.own 58 (List.map eSIns r.2)] [] := by
 refine FnG.body (ts := [4]) Tryz.func38 rfl rfl (by decide) (by decide) (Nat.le_of_ble_eq_true rfl) rfl (Nat.le_of_ble_eq_true rfl) ?_
 refine rn [0, 1] 0 [] [] ?_
 refine jo H (fun w => ⟨50, [(0, o1 (.own 58 (List.map eSIns w.1))), (1, oI w.2)], [], 0, [0]⟩) (fun w H => ?_) fun v38 h37 H => ?_
 ·obtain ⟨y35, y36⟩ := w
  refine rn [0, 4] 0 [] [] ?_
  refine Tri.ret ?_
  obtain rfl := si H;exact endsG (.inr rfl) (by kernel_rfl)
 refine rn [0, 1, 5] 0 [] [] ?_
 refine bl ?_
 refine lo ((List SIns) × Int × Int) k (fun k x => laws_markInsS_1.l1 k  x.1 x.2.1 x.2.2) (fun x => ⟨50, [(0, o1 (.own 58 (List.map eSIns x.1))), (1, oI x.2.1), (5, oI x.2.2)], [], 0, [0]⟩) (a0_1, a1, 0) h37 fun k x h37 IH34 => ?_
 obtain ⟨z16, z17, z18⟩ := x
 rw [laws_markInsS_1.l1.eq_2] at h37
 refine sq ?_
 refine rn [0, 1, 5, 9] 0 [] [hL 2 eSIns z16] ?_
 refine ci h37 (fun h19 h37 => ?_) fun h19 h37 => ?_
 ·refine sk ?_
  refine sq ?_
  refine bl ?_
  obtain ⟨x20, h21, h37⟩ := bs h37
  refine rn [0, 1, 5] 0 [] [hE 3 eSIns h21, hF 4 eSIns h21, hW 5 (.t 0 0) 58 eSIns h21 (⟨z17, x20.f1, x20.f2, x20.f3, x20.f4⟩ : SIns)] ?_
  refine rn [0, 1, 5] 0 [] [] ?_
  obtain ⟨x22, h23, h37⟩ := bs h37
  refine rn [0, 1, 5] 0 [] [hE 3 eSIns h23, hF 4 eSIns h23, hW 5 (.t 0 0) 58 eSIns h23 (⟨x22.f0, w64 (z17 + 1), x22.f2, x22.f3, x22.f4⟩ : SIns)] ?_
  refine rn [0, 1, 5] 0 [] [] ?_
  obtain ⟨x24, h25, h37⟩ := bs h37
  refine rx [0, 1, 5] 0 [] [hE 3 eSIns h25, hF 4 eSIns h25, hW 5 (.t 0 0) 58 eSIns h25 (⟨x24.f0, x24.f1, w64 ((w64 (z17 + 1)) + 1), x24.f3, x24.f4⟩ : SIns)] ⟨50, [(0, o1 (.own 58 (List.map eSIns (((z16.set (Int.toNat z18) (⟨z17, x20.f1, x20.f2, x20.f3, x20.f4⟩ : SIns)).set (Int.toNat z18) (⟨x22.f0, w64 (z17 + 1), x22.f2, x22.f3, x22.f4⟩ : SIns)).set (Int.toNat z18) (⟨x24.f0, x24.f1, w64 ((w64 (z17 + 1)) + 1), x24.f3, x24.f4⟩ : SIns))))), (1, oI (w64 ((w64 (z17 + 1)) + 1))), (5, oI z18)], [], 0, [0]⟩ ?_
  refine rn [0, 1, 5] 0 [] [] ?_
  obtain ⟨r26, h27, h37⟩ := bs h37
  obtain ⟨x28, h29, h37⟩ := bs h37
  refine rn [0, 1, 5] 0 [] [hC 3 (laws_markText.fn h27), hE 4 eSIns h29, hF 5 eSIns h29, hW 6 (.t 0 0) 58 eSIns h29 (⟨x28.f0, x28.f1, x28.f2, r26, x28.f4⟩ : SIns)] ?_
  refine rn [0, 1, 5] 0 [] [] ?_
  obtain ⟨r30, h31, h37⟩ := bs h37
  obtain ⟨x32, h33, h37⟩ := bs h37
  refine rn [0, 1, 5] 0 [] [hC 3 (laws_markText.fn h31), hE 4 eSIns h33, hF 5 eSIns h33, hW 6 (.t 0 0) 58 eSIns h33 (⟨x32.f0, x32.f1, x32.f2, x32.f3, r30⟩ : SIns)] ?_
  refine rl [0, 1, 5] 0 [] [] ?_
  refine rl [0, 1, 5] 0 [] [] ?_
  exact lb IH34 (((((z16.set (Int.toNat z18) (⟨z17, x20.f1, x20.f2, x20.f3, x20.f4⟩ : SIns)).set (Int.toNat z18) (⟨x22.f0, w64 (z17 + 1), x22.f2, x22.f3, x22.f4⟩ : SIns)).set (Int.toNat z18) (⟨x24.f0, x24.f1, w64 ((w64 (z17 + 1)) + 1), x24.f3, x24.f4⟩ : SIns)).set (Int.toNat z18) (⟨x28.f0, x28.f1, x28.f2, r26, x28.f4⟩ : SIns)).set (Int.toNat z18) (⟨x32.f0, x32.f1, x32.f2, x32.f3, r30⟩ : SIns), w64 ((w64 ((w64 ((w64 ((w64 (z17 + 1)) + 1)) + 1)) + 1)) + 1), w64 (z18 + 1)) h37
 refine fx [0, 1] 0 [] ?_
 refine xi ?_
 exact pf (z16, z17) h37
/-! laws_markNeedS_1: function 18 -/
def laws_markNeedS_1.l1 : Nat → (List SNeed) → Int → Int → Option ((List SNeed) × Int)
  | 0, _, _, _ => none
  | k + 1, z8, z9, z10 => if z10 < (z8.length : Int) then ((laws_markText.f k z9).bind fun r12 => (at? z8 z10).bind fun x14 => (at? (z8.set (Int.toNat z10) (⟨r12, x14.f1⟩ : SNeed)) z10).bind fun x16 => laws_markNeedS_1.l1 k  ((z8.set (Int.toNat z10) (⟨r12, x14.f1⟩ : SNeed)).set (Int.toNat z10) (⟨x16.f0, w64 (z9 + 1)⟩ : SNeed)) (w64 ((w64 (z9 + 1)) + 1)) (w64 (z10 + 1))) else (some (z8, z9))
def laws_markNeedS_1.e2 (k : Nat) (a0_1 : (List SNeed)) (a1 : Int) : Option ((List SNeed) × Int) := laws_markNeedS_1.l1 k  a0_1 a1 0
def laws_markNeedS_1.f (k : Nat) (a0_1 : (List SNeed)) (a1 : Int) : Option (Int × (List SNeed)) := (laws_markNeedS_1.e2 k a0_1 a1).bind fun v => match v with | (y19, y20) => some (y20, y19)
theorem laws_markNeedS_1.fn {k : Nat} {a0_1 : (List SNeed)} {a1 : Int} {r : (Int × (List SNeed))} (H : laws_markNeedS_1.f k a0_1 a1 = some r) : FnG Tryz.prog 18 [o1 (.own 51 (List.map eSNeed a0_1)), oI a1] [0] [] (oI r.1) [.own 51 (List.map eSNeed r.2)] [] := by
 refine FnG.body (ts := [4]) Tryz.func18 rfl rfl (by decide) (by decide) (Nat.le_of_ble_eq_true rfl) rfl (Nat.le_of_ble_eq_true rfl) ?_
 refine rn [0, 1] 0 [] [] ?_
 refine jo H (fun w => ⟨28, [(0, o1 (.own 51 (List.map eSNeed w.1))), (1, oI w.2)], [], 0, [0]⟩) (fun w H => ?_) fun v22 h21 H => ?_
 ·obtain ⟨y19, y20⟩ := w
  refine rn [0, 4] 0 [] [] ?_
  refine Tri.ret ?_
  obtain rfl := si H;exact endsG (.inr rfl) (by kernel_rfl)
 refine rn [0, 1, 5] 0 [] [] ?_
 refine bl ?_
 refine lo ((List SNeed) × Int × Int) k (fun k x => laws_markNeedS_1.l1 k  x.1 x.2.1 x.2.2) (fun x => ⟨28, [(0, o1 (.own 51 (List.map eSNeed x.1))), (1, oI x.2.1), (5, oI x.2.2)], [], 0, [0]⟩) (a0_1, a1, 0) h21 fun k x h21 IH18 => ?_
 obtain ⟨z8, z9, z10⟩ := x
 rw [laws_markNeedS_1.l1.eq_2] at h21
 refine sq ?_
 refine rn [0, 1, 5, 9] 0 [] [hL 2 eSNeed z8] ?_
 refine ci h21 (fun h11 h21 => ?_) fun h11 h21 => ?_
 ·refine sk ?_
  refine sq ?_
  refine bl ?_
  obtain ⟨r12, h13, h21⟩ := bs h21
  obtain ⟨x14, h15, h21⟩ := bs h21
  refine rn [0, 1, 5] 0 [] [hC 3 (laws_markText.fn h13), hE 4 eSNeed h15, hF 5 eSNeed h15, hW 6 (.t 0 0) 51 eSNeed h15 (⟨r12, x14.f1⟩ : SNeed)] ?_
  refine rn [0, 1, 5] 0 [] [] ?_
  obtain ⟨x16, h17, h21⟩ := bs h21
  refine rn [0, 1, 5] 0 [] [hE 3 eSNeed h17, hF 4 eSNeed h17, hW 5 (.t 0 0) 51 eSNeed h17 (⟨x16.f0, w64 (z9 + 1)⟩ : SNeed)] ?_
  refine rl [0, 1, 5] 0 [] [] ?_
  refine rl [0, 1, 5] 0 [] [] ?_
  exact lb IH18 ((z8.set (Int.toNat z10) (⟨r12, x14.f1⟩ : SNeed)).set (Int.toNat z10) (⟨x16.f0, w64 (z9 + 1)⟩ : SNeed), w64 ((w64 (z9 + 1)) + 1), w64 (z10 + 1)) h21
 refine fx [0, 1] 0 [] ?_
 refine xi ?_
 exact pf (z8, z9) h21
/-! laws_markGlobalS_1: function 19 -/
def laws_markGlobalS_1.l1 : Nat → (List SNeed) → Int → Int → Option ((List SNeed) × Int)
  | 0, _, _, _ => none
  | k + 1, z8, z9, z10 => if z10 < (z8.length : Int) then ((laws_markText.f k z9).bind fun r12 => (at? z8 z10).bind fun x14 => (at? (z8.set (Int.toNat z10) (⟨r12, x14.f1⟩ : SNeed)) z10).bind fun x16 => laws_markGlobalS_1.l1 k  ((z8.set (Int.toNat z10) (⟨r12, x14.f1⟩ : SNeed)).set (Int.toNat z10) (⟨x16.f0, w64 (z9 + 1)⟩ : SNeed)) (w64 ((w64 (z9 + 1)) + 1)) (w64 (z10 + 1))) else (some (z8, z9))
def laws_markGlobalS_1.e2 (k : Nat) (a0_1 : (List SNeed)) (a1 : Int) : Option ((List SNeed) × Int) := laws_markGlobalS_1.l1 k  a0_1 a1 0
def laws_markGlobalS_1.f (k : Nat) (a0_1 : (List SNeed)) (a1 : Int) : Option (Int × (List SNeed)) := (laws_markGlobalS_1.e2 k a0_1 a1).bind fun v => match v with | (y19, y20) => some (y20, y19)
theorem laws_markGlobalS_1.fn {k : Nat} {a0_1 : (List SNeed)} {a1 : Int} {r : (Int × (List SNeed))} (H : laws_markGlobalS_1.f k a0_1 a1 = some r) : FnG Tryz.prog 19 [o1 (.own 53 (List.map eSNeed a0_1)), oI a1] [0] [] (oI r.1) [.own 53 (List.map eSNeed r.2)] [] := by
 refine FnG.body (ts := [4]) Tryz.func19 rfl rfl (by decide) (by decide) (Nat.le_of_ble_eq_true rfl) rfl (Nat.le_of_ble_eq_true rfl) ?_
 refine rn [0, 1] 0 [] [] ?_
 refine jo H (fun w => ⟨28, [(0, o1 (.own 53 (List.map eSNeed w.1))), (1, oI w.2)], [], 0, [0]⟩) (fun w H => ?_) fun v22 h21 H => ?_
 ·obtain ⟨y19, y20⟩ := w
  refine rn [0, 4] 0 [] [] ?_
  refine Tri.ret ?_
  obtain rfl := si H;exact endsG (.inr rfl) (by kernel_rfl)
 refine rn [0, 1, 5] 0 [] [] ?_
 refine bl ?_
 refine lo ((List SNeed) × Int × Int) k (fun k x => laws_markGlobalS_1.l1 k  x.1 x.2.1 x.2.2) (fun x => ⟨28, [(0, o1 (.own 53 (List.map eSNeed x.1))), (1, oI x.2.1), (5, oI x.2.2)], [], 0, [0]⟩) (a0_1, a1, 0) h21 fun k x h21 IH18 => ?_
 obtain ⟨z8, z9, z10⟩ := x
 rw [laws_markGlobalS_1.l1.eq_2] at h21
 refine sq ?_
 refine rn [0, 1, 5, 9] 0 [] [hL 2 eSNeed z8] ?_
 refine ci h21 (fun h11 h21 => ?_) fun h11 h21 => ?_
 ·refine sk ?_
  refine sq ?_
  refine bl ?_
  obtain ⟨r12, h13, h21⟩ := bs h21
  obtain ⟨x14, h15, h21⟩ := bs h21
  refine rn [0, 1, 5] 0 [] [hC 3 (laws_markText.fn h13), hE 4 eSNeed h15, hF 5 eSNeed h15, hW 6 (.t 0 0) 53 eSNeed h15 (⟨r12, x14.f1⟩ : SNeed)] ?_
  refine rn [0, 1, 5] 0 [] [] ?_
  obtain ⟨x16, h17, h21⟩ := bs h21
  refine rn [0, 1, 5] 0 [] [hE 3 eSNeed h17, hF 4 eSNeed h17, hW 5 (.t 0 0) 53 eSNeed h17 (⟨x16.f0, w64 (z9 + 1)⟩ : SNeed)] ?_
  refine rl [0, 1, 5] 0 [] [] ?_
  refine rl [0, 1, 5] 0 [] [] ?_
  exact lb IH18 ((z8.set (Int.toNat z10) (⟨r12, x14.f1⟩ : SNeed)).set (Int.toNat z10) (⟨x16.f0, w64 (z9 + 1)⟩ : SNeed), w64 ((w64 (z9 + 1)) + 1), w64 (z10 + 1)) h21
 refine fx [0, 1] 0 [] ?_
 refine xi ?_
 exact pf (z8, z9) h21
end Go.Proofs.YtoclajfeeebbbadGreatDoor.E
