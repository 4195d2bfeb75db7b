/- Functions of the program and their contracts: printed by ep3.py, a program of this session. -/
import Derived.Test.YtjgddjmgcffjfaaDoorGFnExactTreeOK
import Derived.Test.YtjgddjmgcffjfaaDoorProg
set_option maxRecDepth 100000
set_option linter.unusedVariables false
set_option linter.unusedSectionVars false
set_option linter.unusedSimpArgs false
namespace Go.Proofs.YtjgddjmgcffjfaaDoor.E
open Go.RowKit
structure SNode where
  f0 : Int
  f1 : Int
  f2 : ByteArray
  f3 : ByteArray
  f4 : (List SNode)
mutual
def eSNode : SNode → List PC
  | ⟨x0, x1, x2, x3, x4⟩ => [cI x0, cI x1, cS x2, cS x3, .sl 5 (eSNodeL x4)]
def eSNodeL : List SNode → List (List PC)
  | [] => []
  | x :: l => eSNode x :: eSNodeL l
end
theorem eSNodeL_eq : ∀ l : List SNode, eSNodeL l = List.map eSNode l
  | [] => rfl
  | x :: l => by rw [eSNodeL, eSNodeL_eq l]; rfl
def vSNode (x : SNode) : List PC := [cI x.f0, cI x.f1, cS x.f2, cS x.f3, .sl 5 (List.map eSNode x.f4)]
theorem eSNode_v : ∀ x, eSNode x = vSNode x := fun ⟨x0, x1, x2, x3, x4⟩ => by rw [eSNode, eSNodeL_eq]; rfl
theorem hmix : Tryd.prog.follows .mixedOrders = true := by kernel_rfl
/-! laws_szNodeS: function 22 -/
def laws_szNodeS.l1 : Nat → (List SNode) → (SNode → Int → Option Int) → Int → Int → Option (Int ⊕ Int)
  | 0, _, _, _, _ => none
  | k + 1, a0, rec_laws_szNode, z8, z9 => if z9 < (a0.length : Int) then ((at? a0 z9).bind fun x11 => (rec_laws_szNode x11 z8).bind fun r13 => if r13 < 0 then (some (.inl (-1))) else (laws_szNodeS.l1 k a0 rec_laws_szNode r13 (w64 (z9 + 1)))) else (some (.inr z8))
def laws_szNodeS.e2 (k : Nat) (a0 : (List SNode)) (a1 : Int) (rec_laws_szNode : (SNode → Int → Option Int)) : Option (Int ⊕ Int) := laws_szNodeS.l1 k a0 rec_laws_szNode (w64 (a1 - (a0.length : Int))) 0
def laws_szNodeS.f (k : Nat) (rec_laws_szNode : (SNode → Int → Option Int)) (a0 : (List SNode)) (a1 : Int) : Option Int := if (w64 (a1 - (a0.length : Int))) < 0 then (some (-1)) else ((laws_szNodeS.e2 k a0 a1 rec_laws_szNode).bind fun v => match v with | .inl r => some r | .inr y17 => some y17)
theorem laws_szNodeS.fn {k : Nat} {rec_laws_szNode : (SNode → Int → Option Int)} (ih_laws_szNode : ∀ {a0 : SNode} {a1 : Int} {r : Int} (H : rec_laws_szNode a0 a1 = some r), Fn Tryd.prog 8 [ag (vSNode a0), oI a1] [] (oI r) []) {a0 : (List SNode)} {a1 : Int} {r : Int} (H : laws_szNodeS.f k rec_laws_szNode a0 a1 = some r) : Fn Tryd.prog 22 [o1 (.sl 5 (List.map eSNode a0)), oI a1] [] (oI r) [] := by
 refine Fn.bd [4] Tryd.func22 ?_
 refine rn [0, 1] 0 [] [] ?_
 refine rn [0, 1] 0 [] [hL 2 eSNode a0] ?_
 refine sq ?_
 refine rn [0, 1, 11] 0 [] [] ?_
 refine ci H (fun h1 H => ?_) fun h1 H => ?_
 ·refine rn [4] 0 [] [] ?_
  refine Tri.ret ?_
  obtain rfl := si H;exact eR
 refine sk ?_
 refine jr H (fun y17 => ⟨27, [(1, oI y17)], [], 0, []⟩) (fun y17 H => ?_) fun v19 h18 H => ?_
 ·refine rn [4] 0 [] [] ?_
  refine Tri.ret ?_
  obtain rfl := si H;exact eR
 refine rn [0, 1, 5] 0 [] [] ?_
 refine bl ?_
 refine lo (Int × Int) k (fun k x => laws_szNodeS.l1 k a0 rec_laws_szNode x.1 x.2) (fun x => ⟨27, [(0, o1 (.sl 5 (List.map eSNode a0))), (1, oI x.1), (5, oI x.2)], [], 0, []⟩) (w64 (a1 - (a0.length : Int)), 0) h18 fun k x h18 IH16 => ?_
 obtain ⟨z8, z9⟩ := x
 rw [laws_szNodeS.l1.eq_2] at h18
 refine sq ?_
 refine rn [0, 1, 5, 15] 0 [] [hL 2 eSNode a0] ?_
 refine ci h18 (fun h10 h18 => ?_) fun h10 h18 => ?_
 ·refine sk ?_
  refine sq ?_
  refine bl ?_
  obtain ⟨x11, h12, h18⟩ := bs h18
  obtain ⟨r13, h14, h18⟩ := bs h18
  refine rn [0, 1, 5] 0 [] [hEv 2 eSNode_v h12, hC 5 (ih_laws_szNode h14)] ?_
  refine rn [0, 1, 5, 25] 0 [] [] ?_
  refine ci h18 (fun h15 h18 => ?_) fun h15 h18 => ?_
  ·refine rn [4] 0 [] [] ?_
   refine Tri.ret ?_
   obtain rfl := si h18;obtain rfl := si H;exact eR
  refine sk ?_
  refine rl [0, 1, 5] 0 [] [] ?_
  exact lb IH16 (r13, w64 (z9 + 1)) h18
 refine fx [1] 0 [] ?_
 refine xi ?_
 exact pe z8 h18
/-! laws_szNode: function 8 -/
def laws_szNode.f : Nat → SNode → Int → Option Int
  | 0, _, _ => none
  | k + 1, a0, a1 => if (w64 (a1 - (a0.f2.size : Int))) < 0 then (some (-1)) else (if (w64 ((w64 (a1 - (a0.f2.size : Int))) - (a0.f3.size : Int))) < 0 then (some (-1)) else ((laws_szNodeS.f k (laws_szNode.f k) a0.f4 (w64 ((w64 (a1 - (a0.f2.size : Int))) - (a0.f3.size : Int)))).bind fun r3 => if r3 < 0 then (some (-1)) else (some r3)))
theorem laws_szNode.fn {k : Nat} : ∀ {a0 : SNode} {a1 : Int} {r : Int} (H : laws_szNode.f k a0 a1 = some r), Fn Tryd.prog 8 [ag (vSNode a0), oI a1] [] (oI r) [] := by
 induction k with
 | zero => intro a0 a1 r H; exact absurd H (by simp [laws_szNode.f])
 | succ k ih_laws_szNode =>
 intro a0 a1 r H
 rw [laws_szNode.f.eq_2] at H
 generalize laws_szNode.f k = rec_laws_szNode at H ih_laws_szNode
 refine Fn.bd [4] Tryd.func8 ?_
 refine rn [1, 2] 1 [] [] ?_
 refine rn [1, 2] 1 [] [] ?_
 refine sq ?_
 refine rn [1, 2, 11] 1 [] [] ?_
 refine ci H (fun h1 H => ?_) fun h1 H => ?_
 ·refine rn [4] 0 [] [] ?_
  refine Tri.ret ?_
  obtain rfl := si H;exact eR
 refine sk ?_
 refine rn [1, 2] 1 [] [] ?_
 refine sq ?_
 refine rn [1, 2, 18] 1 [] [] ?_
 refine ci H (fun h2 H => ?_) fun h2 H => ?_
 ·refine rx [4] 0 [] [] ⟨26, [(4, oI (-1))], [], 0, []⟩ ?_
  refine Tri.ret ?_
  obtain rfl := si H;exact eR
 refine sk ?_
 obtain ⟨r3, h4, H⟩ := bs H
 refine rx [1] 0 [] [hC 3 (laws_szNodeS.fn ih_laws_szNode h4)] ⟨26, [(1, oI r3)], [], 0, []⟩ ?_
 refine sq ?_
 refine rn [1, 24] 0 [] [] ?_
 refine ci H (fun h5 H => ?_) fun h5 H => ?_
 ·refine rn [4] 0 [] [] ?_
  refine Tri.ret ?_
  obtain rfl := si H;exact eR
 refine sk ?_
 refine rn [4] 0 [] [] ?_
 refine Tri.ret ?_
 obtain rfl := si H;exact eR
/-! laws_toNodeS: function 25 -/
def laws_toNodeS.l1 : Nat → (List SNode) → (SNode → Option (SNode × Int × Int × ByteArray × ByteArray × (List SNode) × Int × Int × ByteArray × ByteArray × (List SNode))) → (List SNode) → Int → Option (List SNode)
  | 0, _, _, _, _ => none
  | k + 1, a0, rec_laws_toNode, z9, z10 => if z10 < (a0.length : Int) then ((at? a0 z10).bind fun x12 => (rec_laws_toNode x12).bind fun r14 => (at? z9 z10).bind fun x16 => laws_toNodeS.l1 k a0 rec_laws_toNode (z9.set (Int.toNat z10) r14.1) (w64 (z10 + 1))) else (some z9)
def laws_toNodeS.e2 (k : Nat) (a0 : (List SNode)) (rec_laws_toNode : (SNode → Option (SNode × Int × Int × ByteArray × ByteArray × (List SNode) × Int × Int × ByteArray × ByteArray × (List SNode)))) : Option (List SNode) := laws_toNodeS.l1 k a0 rec_laws_toNode (List.replicate (Int.toNat (a0.length : Int)) (⟨(0 : Int), (0 : Int), (⟨#[]⟩ : ByteArray), (⟨#[]⟩ : ByteArray), ([] : List SNode)⟩ : SNode) : List SNode) 0
def laws_toNodeS.f (k : Nat) (rec_laws_toNode : (SNode → Option (SNode × Int × Int × ByteArray × ByteArray × (List SNode) × Int × Int × ByteArray × ByteArray × (List SNode)))) (a0 : (List SNode)) : Option (List SNode) := if (a0.length : Int) * 72 ≤ 140737488355328 then ((laws_toNodeS.e2 k a0 rec_laws_toNode).bind fun y19 => some y19) else none
theorem laws_toNodeS.fn {k : Nat} {rec_laws_toNode : (SNode → Option (SNode × Int × Int × ByteArray × ByteArray × (List SNode) × Int × Int × ByteArray × ByteArray × (List SNode)))} (ih_laws_toNode : ∀ {a0 : SNode} {r : (SNode × Int × Int × ByteArray × ByteArray × (List SNode) × Int × Int × ByteArray × ByteArray × (List SNode))} (H : rec_laws_toNode a0 = some r), FnG Tryd.prog 10 [ag (vSNode a0)] [] [] (ag (vSNode r.1)) [] [[cI r.2.1, cI r.2.2.1, cS r.2.2.2.1, cS r.2.2.2.2.1, .sl 5 (List.map eSNode r.2.2.2.2.2.1)], [cI r.2.2.2.2.2.2.1, cI r.2.2.2.2.2.2.2.1, cS r.2.2.2.2.2.2.2.2.1, cS r.2.2.2.2.2.2.2.2.2.1, .sl 5 (List.map eSNode r.2.2.2.2.2.2.2.2.2.2)]]) {a0 : (List SNode)} {r : (List SNode)} (H : laws_toNodeS.f k rec_laws_toNode a0 = some r) : Fn Tryd.prog 25 [o1 (.sl 5 (List.map eSNode a0))] [] (o1 (.own 32 (List.map eSNode r))) [] := by
 refine Fn.bd [2] Tryd.func25 ?_
 refine rn [0] 0 [] [] ?_
 obtain ⟨h1, H⟩ := nd H
 refine rn [0, 3] 0 [] [hL 1 eSNode a0, q4 2 (.nz [5]) (rfl : (a0.length : Int) = (a0.length : Int)) (show (0 : Int) ≤ (a0.length : Int) from Int.natCast_nonneg _) (mkN (b := 72) (by decide) (show (0 : Int) ≤ (a0.length : Int) from Int.natCast_nonneg _) h1) h1, q1 2 (.ov [.own 32 (List.map eSNode (List.replicate (Int.toNat (a0.length : Int)) (⟨(0 : Int), (0 : Int), (⟨#[]⟩ : ByteArray), (⟨#[]⟩ : ByteArray), ([] : List SNode)⟩ : SNode) : List SNode))]) (ovrepV eSNode_v (e := 32) (n := Int.toNat (a0.length : Int)) (z := (⟨(0 : Int), (0 : Int), (⟨#[]⟩ : ByteArray), (⟨#[]⟩ : ByteArray), ([] : List SNode)⟩ : SNode)) (f := eSNode))] ?_
 refine jo H (fun y19 => ⟨23, [(3, o1 (.own 32 (List.map eSNode y19)))], [], 0, []⟩) (fun y19 H => ?_) fun v21 h20 H => ?_
 ·refine rn [2] 0 [] [] ?_
  refine Tri.ret ?_
  obtain rfl := si H;exact eR
 refine rn [0, 3, 4] 0 [] [] ?_
 refine bl ?_
 refine lo ((List SNode) × Int) k (fun k x => laws_toNodeS.l1 k a0 rec_laws_toNode x.1 x.2) (fun x => ⟨23, [(0, o1 (.sl 5 (List.map eSNode a0))), (3, o1 (.own 32 (List.map eSNode x.1))), (4, oI x.2)], [], 0, []⟩) ((List.replicate (Int.toNat (a0.length : Int)) (⟨(0 : Int), (0 : Int), (⟨#[]⟩ : ByteArray), (⟨#[]⟩ : ByteArray), ([] : List SNode)⟩ : SNode) : List SNode), 0) h20 fun k x h20 IH18 => ?_
 obtain ⟨z9, z10⟩ := x
 rw [laws_toNodeS.l1.eq_2] at h20
 refine sq ?_
 refine rn [0, 3, 4, 11] 0 [] [hL 2 eSNode a0] ?_
 refine ci h20 (fun h11 h20 => ?_) fun h11 h20 => ?_
 ·refine sk ?_
  refine sq ?_
  refine bl ?_
  obtain ⟨x12, h13, h20⟩ := bs h20
  obtain ⟨r14, h15, h20⟩ := bs h20
  obtain ⟨x16, h17, h20⟩ := bs h20
  refine rl [0, 3, 4] 0 [] [hEv 4 eSNode_v h13, hG 6 [] [] none (ih_laws_toNode h15), hEv 7 eSNode_v h17, hWv 8 (.t 3 0) 32 eSNode_v h17 r14.1] ?_
  refine rl [0, 3, 4] 0 [] [] ?_
  exact lb IH18 (z9.set (Int.toNat z10) r14.1, w64 (z10 + 1)) h20
 refine fx [3] 0 [] ?_
 refine xi ?_
 exact pf z9 h20
/-! laws_toNode: function 10 -/
def laws_toNode.f : Nat → SNode → Option (SNode × Int × Int × ByteArray × ByteArray × (List SNode) × Int × Int × ByteArray × ByteArray × (List SNode))
  | 0, _ => none
  | k + 1, a0 => (laws_toNodeS.f k (laws_toNode.f k) a0.f4).bind fun r1 => some ((⟨a0.f0, a0.f1, a0.f2, a0.f3, r1⟩ : SNode), a0.f0, a0.f1, a0.f2, a0.f3, a0.f4, a0.f0, a0.f1, a0.f2, a0.f3, r1)
theorem laws_toNode.fn {k : Nat} : ∀ {a0 : SNode} {r : (SNode × Int × Int × ByteArray × ByteArray × (List SNode) × Int × Int × ByteArray × ByteArray × (List SNode))} (H : laws_toNode.f k a0 = some r), FnG Tryd.prog 10 [ag (vSNode a0)] [] [] (ag (vSNode r.1)) [] [[cI r.2.1, cI r.2.2.1, cS r.2.2.2.1, cS r.2.2.2.2.1, .sl 5 (List.map eSNode r.2.2.2.2.2.1)], [cI r.2.2.2.2.2.2.1, cI r.2.2.2.2.2.2.2.1, cS r.2.2.2.2.2.2.2.2.1, cS r.2.2.2.2.2.2.2.2.2.1, .sl 5 (List.map eSNode r.2.2.2.2.2.2.2.2.2.2)]] := by
 induction k with
 | zero => intro a0 r H; exact absurd H (by simp [laws_toNode.f])
 | succ k ih_laws_toNode =>
 intro a0 r H
 rw [laws_toNode.f.eq_2] at H
 generalize laws_toNode.f k = rec_laws_toNode at H ih_laws_toNode
 refine FnG.bodyR (rv := [(2, some 32)]) Tryd.func10 rfl rfl (by decide) (by decide) (Nat.le_of_ble_eq_true rfl) rfl (Nat.le_of_ble_eq_true rfl) ?_
 refine rn [1, 2] 2 [] [] ?_
 refine rn [1, 2, 3] 3 [] [] ?_
 refine rn [1, 2, 3] 3 [] [] ?_
 refine rn [1, 2, 3] 3 [] [] ?_
 refine rn [1, 2, 3] 3 [] [] ?_
 refine rx [1, 2, 3] 3 [] [] ⟨21, [(1, o1 (.ref 0 0)), (2, o1 (.ref 1 0)), (3, o1 (.ref 2 0))], [vSNode a0, [cI 0, cI 0, cS (⟨#[]⟩ : ByteArray), cS (⟨#[]⟩ : ByteArray), .nl], [cI a0.f0, cI a0.f1, cS a0.f2, cS a0.f3, .nl]], 0, []⟩ ?_
 obtain ⟨r1, h2, H⟩ := bs H
 refine rn [2, 3] 3 [] [hS 2 [] (laws_toNodeS.fn ih_laws_toNode h2)] ?_
 refine rn [2] 2 [] [q0 1 (.frz (.b 2 4))] ?_
 refine Tri.ret ?_
 obtain rfl := si H;exact endsR (.inr rfl) (by kernel_rfl)
/-! spec_l02Left: function 23 -/
def spec_l02Left.e1 (k : Nat) (a0 : SNode) (z11 : Int) (z12 : Int) : Option Bool := if z12 < (a0.f4.length : Int) then (some (decide ((0 : Int) ≤ z11))) else (some false)
def spec_l02Left.l2 : Nat → SNode → Int → (SNode → Int → Int → Option Int) → Int → Int → Option Int
  | 0, _, _, _, _, _ => none
  | k + 1, a0, a2, rec_spec_l02Left, z11, z12 => (spec_l02Left.e1 k a0 z11 z12).bind fun y14 => if y14 = true then ((at? a0.f4 z12).bind fun x18 => (rec_spec_l02Left x18 z11 (w64 (a2 + 1))).bind fun r20 => spec_l02Left.l2 k a0 a2 rec_spec_l02Left r20 (w64 (z12 + 1))) else (some z11)
def spec_l02Left.e3 (k : Nat) (a0 : SNode) (a1 : Int) (a2 : Int) (rec_spec_l02Left : (SNode → Int → Int → Option Int)) : Option Int := spec_l02Left.l2 k a0 a2 rec_spec_l02Left (w64 (a1 - 1)) 0
def spec_l02Left.f : Nat → SNode → Int → Int → Option Int
  | 0, _, _, _ => none
  | k + 1, a0, a1, a2 => if (40 : Int) < a2 then (some (-1)) else ((spec_l02Left.e3 k a0 a1 a2 (spec_l02Left.f k)).bind fun y23 => some y23)
theorem spec_l02Left.fn {k : Nat} : ∀ {a0 : SNode} {a1 : Int} {a2 : Int} {r : Int} (H : spec_l02Left.f k a0 a1 a2 = some r), Fn Tryd.prog 23 [ag (vSNode a0), oI a1, oI a2] [] (oI r) [] := by
 induction k with
 | zero => intro a0 a1 a2 r H; exact absurd H (by simp [spec_l02Left.f])
 | succ k ih_spec_l02Left =>
 intro a0 a1 a2 r H
 rw [spec_l02Left.f.eq_2] at H
 generalize spec_l02Left.f k = rec_spec_l02Left at H ih_spec_l02Left
 refine Fn.bd [6] Tryd.func23 ?_
 refine rn [1, 2, 3] 1 [] [] ?_
 refine sq ?_
 refine rn [1, 2, 3, 9] 1 [] [] ?_
 refine ci H (fun h1 H => ?_) fun h1 H => ?_
 ·refine rn [6] 0 [] [] ?_
  refine Tri.ret ?_
  obtain rfl := si H;exact eR
 refine sk ?_
 refine rn [1, 2, 3] 1 [] [] ?_
 refine jo H (fun y23 => ⟨33, [(1, oI y23)], [], 0, []⟩) (fun y23 H => ?_) fun v25 h24 H => ?_
 ·refine rn [6] 0 [] [] ?_
  refine Tri.ret ?_
  obtain rfl := si H;exact eR
 refine rn [1, 2, 3, 7] 1 [] [] ?_
 refine bl ?_
 refine lo (Int × Int) k (fun k x => spec_l02Left.l2 k a0 a2 rec_spec_l02Left x.1 x.2) (fun x => ⟨33, [(1, oI x.1), (2, oI a2), (3, o1 (.ref 0 0)), (7, oI x.2)], [vSNode a0], 0, []⟩) (w64 (a1 - 1), 0) h24 fun k x h24 IH22 => ?_
 obtain ⟨z11, z12⟩ := x
 rw [spec_l02Left.l2.eq_2] at h24
 refine sq ?_
 refine jo h24 (fun y14 => ⟨33, [(1, oI z11), (2, oI a2), (3, o1 (.ref 0 0)), (7, oI z12), (20, oB y14)], [vSNode a0], 0, []⟩) (fun y14 h24 => ?_) fun v16 h15 h24 => ?_
 ·refine cb h24 (fun h17 h24 => ?_) fun h17 h24 => ?_
  ·refine sk ?_
   refine sq ?_
   refine bl ?_
   obtain ⟨x18, h19, h24⟩ := bs h24
   obtain ⟨r20, h21, h24⟩ := bs h24
   refine rl [1, 2, 3, 7] 1 [] [hEv 3 eSNode_v h19, hC 8 (ih_spec_l02Left h21)] ?_
   refine rl [1, 2, 3, 7] 1 [] [] ?_
   exact lb IH22 (r20, w64 (z12 + 1)) h24
  refine fx [1] 0 [] ?_
  refine xi ?_
  exact pf z11 h24
 rcases ite_some h15 with ⟨h13, h15⟩ | ⟨h13, h15⟩
 ·refine rl [1, 2, 3, 7, 20] 1 [] [hL 3 eSNode a0.f4, hB 4 (decide_eq_true h13)] ?_
  exact pf (decide ((0 : Int) ≤ z11)) h15
 refine rl [1, 2, 3, 7, 20] 1 [] [hL 3 eSNode a0.f4, hB 4 (decide_eq_false h13)] ?_
 exact pf false h15
/-! spec_l01In: function 29 -/
def spec_l01In.e1 (k : Nat) (a0 : Int) (a1 : Int) (a2 : Int) : Option Bool := if a1 ≤ a0 then (some (decide (a0 ≤ a2))) else (some false)
def spec_l01In.f (k : Nat) (a0 : Int) (a1 : Int) (a2 : Int) : Option Bool := (spec_l01In.e1 k a0 a1 a2).bind fun y2 => some y2
theorem spec_l01In.fn {k : Nat} {a0 : Int} {a1 : Int} {a2 : Int} {r : Bool} (H : spec_l01In.f k a0 a1 a2 = some r) : Fn Tryd.prog 29 [oI a0, oI a1, oI a2] [] (oB r) [] := by
 refine Fn.bd [6] Tryd.func29 ?_
 refine rn [0, 1, 2] 0 [] [] ?_
 refine jo H (fun y2 => ⟨15, [(6, oB y2)], [], 0, []⟩) (fun y2 H => ?_) fun v4 h3 H => ?_
 ·refine Tri.ret ?_
  obtain rfl := si H;exact eR
 rcases ite_some h3 with ⟨h1, h3⟩ | ⟨h1, h3⟩
 ·refine rl [6] 0 [] [hB 2 (decide_eq_true h1)] ?_
  exact pf (decide (a0 ≤ a2)) h3
 refine rl [6] 0 [] [hB 2 (decide_eq_false h1)] ?_
 exact pf false h3
/-! spec_l00Letter: function 133 -/
def spec_l00Letter.e1 (k : Nat) (a0 : Int) : Option Bool := if (97 : Int) ≤ a0 then (if a0 ≤ 122 then (some true) else (if (65 : Int) ≤ a0 then (if a0 ≤ 90 then (some true) else (some (decide (a0 = 95)))) else (some (decide (a0 = 95))))) else (if (65 : Int) ≤ a0 then (if a0 ≤ 90 then (some true) else (some (decide (a0 = 95)))) else (some (decide (a0 = 95))))
def spec_l00Letter.f (k : Nat) (a0 : Int) : Option Bool := (spec_l00Letter.e1 k a0).bind fun y7 => some y7
theorem spec_l00Letter.fn {k : Nat} {a0 : Int} {r : Bool} (H : spec_l00Letter.f k a0 = some r) : Fn Tryd.prog 133 [o1 (cK .u8 a0)] [] (oB r) [] := by
 refine Fn.bd [2] Tryd.func133 ?_
 refine rn [0] 0 [] [] ?_
 refine jo H (fun y7 => ⟨21, [(2, oB y7)], [], 0, []⟩) (fun y7 H => ?_) fun v9 h8 H => ?_
 ·refine Tri.ret ?_
  obtain rfl := si H;exact eR
 rcases ite_some h8 with ⟨h1, h8⟩ | ⟨h1, h8⟩
 ·rcases ite_some h8 with ⟨h2, h8⟩ | ⟨h2, h8⟩
  ·refine rl [2] 0 [] [hB 1 (decide_eq_true h1), hB 4 (decide_eq_true h2)] ?_
   exact pf true h8
  rcases ite_some h8 with ⟨h3, h8⟩ | ⟨h3, h8⟩
  ·rcases ite_some h8 with ⟨h4, h8⟩ | ⟨h4, h8⟩
   ·refine rl [2] 0 [] [hB 1 (decide_eq_true h1), hB 4 (decide_eq_false h2), hB 8 (decide_eq_true h3), hB 11 (decide_eq_true h4)] ?_
    exact pf true h8
   refine rl [2] 0 [] [hB 1 (decide_eq_true h1), hB 4 (decide_eq_false h2), hB 8 (decide_eq_true h3), hB 11 (decide_eq_false h4)] ?_
   exact pf (decide (a0 = 95)) h8
  refine rl [2] 0 [] [hB 1 (decide_eq_true h1), hB 4 (decide_eq_false h2), hB 8 (decide_eq_false h3)] ?_
  exact pf (decide (a0 = 95)) h8
 rcases ite_some h8 with ⟨h5, h8⟩ | ⟨h5, h8⟩
 ·rcases ite_some h8 with ⟨h6, h8⟩ | ⟨h6, h8⟩
  ·refine rl [2] 0 [] [hB 1 (decide_eq_false h1), hB 8 (decide_eq_true h5), hB 11 (decide_eq_true h6)] ?_
   exact pf true h8
  refine rl [2] 0 [] [hB 1 (decide_eq_false h1), hB 8 (decide_eq_true h5), hB 11 (decide_eq_false h6)] ?_
  exact pf (decide (a0 = 95)) h8
 refine rl [2] 0 [] [hB 1 (decide_eq_false h1), hB 8 (decide_eq_false h5)] ?_
 exact pf (decide (a0 = 95)) h8
/-! spec_l00Digit: function 134 -/
def spec_l00Digit.e1 (k : Nat) (a0 : Int) : Option Bool := if (48 : Int) ≤ a0 then (some (decide (a0 ≤ 57))) else (some false)
def spec_l00Digit.f (k : Nat) (a0 : Int) : Option Bool := (spec_l00Digit.e1 k a0).bind fun y2 => some y2
theorem spec_l00Digit.fn {k : Nat} {a0 : Int} {r : Bool} (H : spec_l00Digit.f k a0 = some r) : Fn Tryd.prog 134 [o1 (cK .u8 a0)] [] (oB r) [] := by
 refine Fn.bd [2] Tryd.func134 ?_
 refine rn [0] 0 [] [] ?_
 refine jo H (fun y2 => ⟨9, [(2, oB y2)], [], 0, []⟩) (fun y2 H => ?_) fun v4 h3 H => ?_
 ·refine Tri.ret ?_
  obtain rfl := si H;exact eR
 rcases ite_some h3 with ⟨h1, h3⟩ | ⟨h1, h3⟩
 ·refine rl [2] 0 [] [hB 1 (decide_eq_true h1)] ?_
  exact pf (decide (a0 ≤ 57)) h3
 refine rl [2] 0 [] [hB 1 (decide_eq_false h1)] ?_
 exact pf false h3
/-! spec_l00Word: function 119 -/
def spec_l00Word.e1 (k : Nat) (a0 : ByteArray) : Option Bool := if (a0.size : Int) < 1 then (some true) else (if (40 : Int) < (a0.size : Int) then (some true) else (if (0 : Int) ≤ 0 then (if 0 < (a0.size : Int) then ((spec_l00Letter.f k (byteAt a0 0)).bind fun r5 => some (!r5)) else none) else none))
def spec_l00Word.e2 (k : Nat) (a0 : ByteArray) (z23 : Int) : Option Bool := if (0 : Int) ≤ z23 then ((spec_l00Letter.f k (byteAt a0 z23)).bind fun r26 => if r26 = true then (some false) else ((spec_l00Digit.f k (byteAt a0 z23)).bind fun r29 => some (!r29))) else none
def spec_l00Word.l3 : Nat → ByteArray → Int → Option (Bool ⊕ Unit)
  | 0, _, _ => none
  | k + 1, a0, z23 => if z23 < (a0.size : Int) then ((spec_l00Word.e2 k a0 z23).bind fun y31 => if y31 = true then (some (.inl false)) else (spec_l00Word.l3 k a0 (w64 (z23 + 1)))) else (some (.inr ()))
def spec_l00Word.e4 (k : Nat) (a0 : ByteArray) : Option (Bool ⊕ Unit) := spec_l00Word.l3 k a0 1
def spec_l00Word.f (k : Nat) (a0 : ByteArray) : Option Bool := (spec_l00Word.e1 k a0).bind fun y7 => if y7 = true then (some false) else ((spec_l00Word.e4 k a0).bind fun v => match v with | .inl r => some r | .inr _ => some true)
theorem spec_l00Word.fn {k : Nat} {a0 : ByteArray} {r : Bool} (H : spec_l00Word.f k a0 = some r) : Fn Tryd.prog 119 [oS a0] [] (oB r) [] := by
 refine Fn.bd [2] Tryd.func119 ?_
 refine rn [0] 0 [] [] ?_
 refine sq ?_
 refine jo H (fun y7 => ⟨36, [(0, oS a0), (17, oB y7)], [], 0, []⟩) (fun y7 H => ?_) fun v9 h8 H => ?_
 ·refine cb H (fun h10 H => ?_) fun h10 H => ?_
  ·refine rn [2] 0 [] [] ?_
   refine Tri.ret ?_
   obtain rfl := si H;exact eR
  refine sk ?_
  refine jr H (fun _ => ⟨36, [], [], 0, []⟩) (fun _ H => ?_) fun v37 h36 H => ?_
  ·refine rn [2] 0 [] [] ?_
   refine Tri.ret ?_
   obtain rfl := si H;exact eR
  refine rn [0, 3] 0 [] [] ?_
  refine bl ?_
  refine lo Int k (fun k x => spec_l00Word.l3 k a0 x) (fun x => ⟨36, [(0, oS a0), (3, oI x)], [], 0, []⟩) 1 h36 fun k z23 h36 IH35 => ?_
  rw [spec_l00Word.l3.eq_2] at h36
  refine sq ?_
  refine rn [0, 3, 21] 0 [] [] ?_
  refine ci h36 (fun h24 h36 => ?_) fun h24 h36 => ?_
  ·refine sk ?_
   refine sq ?_
   refine bl ?_
   refine jo h36 (fun y31 => ⟨36, [(0, oS a0), (3, oI z23), (35, oB y31)], [], 0, []⟩) (fun y31 h36 => ?_) fun v33 h32 h36 => ?_
   ·refine cb h36 (fun h34 h36 => ?_) fun h34 h36 => ?_
    ·refine rn [2] 0 [] [] ?_
     refine Tri.ret ?_
     obtain rfl := si h36;obtain rfl := si H;exact eR
    refine sk ?_
    refine rl [0, 3] 0 [] [] ?_
    exact lb IH35 (w64 (z23 + 1)) h36
   obtain ⟨h25, h32⟩ := nd h32
   obtain ⟨r26, h27, h32⟩ := bs h32
   rcases iteb_some h32 with ⟨h28, h32⟩ | ⟨h28, h32⟩
   ·refine rl [0, 3, 35] 0 [] [p2 h25 h24, hC 3 (spec_l00Letter.fn h27), hB 3 h28] ?_
    exact pf false h32
   obtain ⟨r29, h30, h32⟩ := bs h32
   refine rl [0, 3, 35] 0 [] [p2 h25 h24, hC 3 (spec_l00Letter.fn h27), hB 3 h28, p2 h25 h24, hC 9 (spec_l00Digit.fn h30)] ?_
   exact pf (!r29) h32
  refine fx [] 0 [] ?_
  refine xi ?_
  exact pe () h36
 rcases ite_some h8 with ⟨h1, h8⟩ | ⟨h1, h8⟩
 ·refine rl [0, 17] 0 [] [hB 2 (decide_eq_true h1)] ?_
  exact pf true h8
 rcases ite_some h8 with ⟨h2, h8⟩ | ⟨h2, h8⟩
 ·refine rl [0, 17] 0 [] [hB 2 (decide_eq_false h1), hB 6 (decide_eq_true h2)] ?_
  exact pf true h8
 obtain ⟨h3, h8⟩ := nd h8
 obtain ⟨h4, h8⟩ := nd h8
 obtain ⟨r5, h6, h8⟩ := bs h8
 refine rl [0, 17] 0 [] [hB 2 (decide_eq_false h1), hB 6 (decide_eq_false h2), p2 h3 h4, hC 11 (spec_l00Letter.fn h6)] ?_
 exact pf (!r5) h8
/-! spec_NameOK: function 100 -/
def spec_NameOK.f (k : Nat) (a0 : ByteArray) : Option Bool := (spec_l00Word.f k a0).bind fun r1 => some r1
theorem spec_NameOK.fn {k : Nat} {a0 : ByteArray} {r : Bool} (H : spec_NameOK.f k a0 = some r) : Fn Tryd.prog 100 [oS a0] [] (oB r) [] := by
 refine Fn.bd [2] Tryd.func100 ?_
 refine rn [0] 0 [] [] ?_
 obtain ⟨r1, h2, H⟩ := bs H
 refine rn [2] 0 [] [hC 1 (spec_l00Word.fn h2)] ?_
 refine Tri.ret ?_
 obtain rfl := si H;exact eR
/-! spec_l01Keys: function 121 -/
def spec_l01Keys.f (k : Nat) : Option (List ByteArray) := some ([(⟨#[77, 79, 68, 85, 76, 69]⟩ : ByteArray), (⟨#[73, 77, 80, 79, 82, 84]⟩ : ByteArray), (⟨#[67, 79, 78, 83, 84]⟩ : ByteArray), (⟨#[86, 65, 82]⟩ : ByteArray), (⟨#[80, 82, 79, 67, 69, 68, 85, 82, 69]⟩ : ByteArray), (⟨#[66, 69, 71, 73, 78]⟩ : ByteArray), (⟨#[69, 78, 68]⟩ : ByteArray), (⟨#[73, 70]⟩ : ByteArray), (⟨#[84, 72, 69, 78]⟩ : ByteArray), (⟨#[69, 76, 83, 73, 70]⟩ : ByteArray), (⟨#[69, 76, 83, 69]⟩ : ByteArray), (⟨#[87, 72, 73, 76, 69]⟩ : ByteArray), (⟨#[68, 79]⟩ : ByteArray), (⟨#[82, 69, 84, 85, 82, 78]⟩ : ByteArray), (⟨#[79, 82]⟩ : ByteArray), (⟨#[68, 73, 86]⟩ : ByteArray), (⟨#[77, 79, 68]⟩ : ByteArray), (⟨#[84, 82, 85, 69]⟩ : ByteArray), (⟨#[70, 65, 76, 83, 69]⟩ : ByteArray), (⟨#[65, 82, 82, 65, 89]⟩ : ByteArray), (⟨#[79, 70]⟩ : ByteArray), (⟨#[73, 78, 84, 69, 71, 69, 82]⟩ : ByteArray), (⟨#[66, 79, 79, 76, 69, 65, 78]⟩ : ByteArray), (⟨#[67, 72, 65, 82]⟩ : ByteArray), (⟨#[87, 82, 73, 84, 69]⟩ : ByteArray), (⟨#[82, 69, 65, 68]⟩ : ByteArray), (⟨#[79, 82, 68]⟩ : ByteArray), (⟨#[67, 72, 82]⟩ : ByteArray), (⟨#[76, 69, 78]⟩ : ByteArray)] : List ByteArray)
theorem spec_l01Keys.fn {k : Nat} {r : (List ByteArray)} (H : spec_l01Keys.f k  = some r) : Fn Tryd.prog 121 [] [] (o1 (.own 9 (List.map eS r))) [] := by
 refine Fn.bd [0] Tryd.func121 ?_
 refine rn [] 0 [] [] ?_
 refine rn [0] 0 [] [] ?_
 refine Tri.ret ?_
 obtain rfl := si H;exact eR
/-! spec_l01Place: function 120 -/
def spec_l01Place.l1 : Nat → (List ByteArray) → ByteArray → Int → Option (Int ⊕ Unit)
  | 0, _, _, _ => none
  | k + 1, a0, a1, z5 => if z5 < (a0.length : Int) then ((at? a0 z5).bind fun x7 => if x7 = a1 then (some (.inl z5)) else (spec_l01Place.l1 k a0 a1 (w64 (z5 + 1)))) else (some (.inr ()))
def spec_l01Place.e2 (k : Nat) (a0 : (List ByteArray)) (a1 : ByteArray) : Option (Int ⊕ Unit) := spec_l01Place.l1 k a0 a1 0
def spec_l01Place.f (k : Nat) (a0 : (List ByteArray)) (a1 : ByteArray) : Option Int := (spec_l01Place.e2 k a0 a1).bind fun v => match v with | .inl r => some r | .inr _ => some (-1)
theorem spec_l01Place.fn {k : Nat} {a0 : (List ByteArray)} {a1 : ByteArray} {r : Int} (H : spec_l01Place.f k a0 a1 = some r) : Fn Tryd.prog 120 [o1 (.sl 1 (List.map eS a0)), oS a1] [] (oI r) [] := by
 refine Fn.bd [4] Tryd.func120 ?_
 refine rn [0, 1] 0 [] [] ?_
 refine jr H (fun _ => ⟨19, [], [], 0, []⟩) (fun _ H => ?_) fun v12 h11 H => ?_
 ·refine rn [4] 0 [] [] ?_
  refine Tri.ret ?_
  obtain rfl := si H;exact eR
 refine rn [0, 1, 5] 0 [] [] ?_
 refine bl ?_
 refine lo Int k (fun k x => spec_l01Place.l1 k a0 a1 x) (fun x => ⟨19, [(0, o1 (.sl 1 (List.map eS a0))), (1, oS a1), (5, oI x)], [], 0, []⟩) 0 h11 fun k z5 h11 IH10 => ?_
 rw [spec_l01Place.l1.eq_2] at h11
 refine sq ?_
 refine rn [0, 1, 5, 9] 0 [] [hL 2 eS a0] ?_
 refine ci h11 (fun h6 h11 => ?_) fun h6 h11 => ?_
 ·refine sk ?_
  refine sq ?_
  refine bl ?_
  obtain ⟨x7, h8, h11⟩ := bs h11
  refine rn [0, 1, 5, 17] 0 [] [hE 2 eS h8] ?_
  refine ci h11 (fun h9 h11 => ?_) fun h9 h11 => ?_
  ·refine rn [4] 0 [] [] ?_
   refine Tri.ret ?_
   obtain rfl := si h11;obtain rfl := si H;exact eR
  refine sk ?_
  refine rl [0, 1, 5] 0 [] [] ?_
  exact lb IH10 (w64 (z5 + 1)) h11
 refine fx [] 0 [] ?_
 refine xi ?_
 exact pe () h11
/-! spec_IsKey: function 101 -/
def spec_IsKey.f (k : Nat) (a0 : ByteArray) : Option Bool := (spec_l01Keys.f k).bind fun r1 => (spec_l01Place.f k r1 a0).bind fun r3 => some (decide ((0 : Int) ≤ r3))
theorem spec_IsKey.fn {k : Nat} {a0 : ByteArray} {r : Bool} (H : spec_IsKey.f k a0 = some r) : Fn Tryd.prog 101 [oS a0] [] (oB r) [] := by
 refine Fn.bd [2] Tryd.func101 ?_
 refine rn [0] 0 [] [] ?_
 obtain ⟨r1, h2, H⟩ := bs H
 obtain ⟨r3, h4, H⟩ := bs H
 refine rn [2] 0 [] [hC 0 (spec_l01Keys.fn h2) (show (List.all [.own 9 (List.map eS r1)] PC.flatB) = true by simp [PC.flatB, PC.scalar, cI, cK, cB, cS, eS]), hC 2 (spec_l01Place.fn h4)] ?_
 refine Tri.ret ?_
 obtain rfl := si H;exact eR
/-! spec_l02Name: function 62 -/
def spec_l02Name.e1 (k : Nat) (a0 : ByteArray) : Option Bool := (spec_NameOK.f k a0).bind fun r1 => if r1 = true then ((spec_IsKey.f k a0).bind fun r4 => some (!r4)) else (some false)
def spec_l02Name.f (k : Nat) (a0 : ByteArray) : Option Bool := (spec_l02Name.e1 k a0).bind fun y6 => some y6
theorem spec_l02Name.fn {k : Nat} {a0 : ByteArray} {r : Bool} (H : spec_l02Name.f k a0 = some r) : Fn Tryd.prog 62 [oS a0] [] (oB r) [] := by
 refine Fn.bd [2] Tryd.func62 ?_
 refine rn [0] 0 [] [] ?_
 refine jo H (fun y6 => ⟨10, [(2, oB y6)], [], 0, []⟩) (fun y6 H => ?_) fun v8 h7 H => ?_
 ·refine Tri.ret ?_
  obtain rfl := si H;exact eR
 obtain ⟨r1, h2, h7⟩ := bs h7
 rcases iteb_some h7 with ⟨h3, h7⟩ | ⟨h3, h7⟩
 ·obtain ⟨r4, h5, h7⟩ := bs h7
  refine rl [2] 0 [] [hC 1 (spec_NameOK.fn h2), hB 1 h3, hC 4 (spec_IsKey.fn h5)] ?_
  exact pf (!r4) h7
 refine rl [2] 0 [] [hC 1 (spec_NameOK.fn h2), hB 1 h3] ?_
 exact pf false h7
/-! spec_l02Level: function 63 -/
def spec_l02Level.e1 (k : Nat) (a0 : ByteArray) : Option Bool := if a0 = (⟨#[61]⟩ : ByteArray) then (some (decide (a0 = (⟨#[61]⟩ : ByteArray)))) else (if a0 = (⟨#[35]⟩ : ByteArray) then (some (decide (a0 = (⟨#[35]⟩ : ByteArray)))) else (if a0 = (⟨#[60]⟩ : ByteArray) then (some (decide (a0 = (⟨#[60]⟩ : ByteArray)))) else (if a0 = (⟨#[60, 61]⟩ : ByteArray) then (some (decide (a0 = (⟨#[60, 61]⟩ : ByteArray)))) else (if a0 = (⟨#[62]⟩ : ByteArray) then (some (decide (a0 = (⟨#[62]⟩ : ByteArray)))) else (some (decide (a0 = (⟨#[62, 61]⟩ : ByteArray))))))))
def spec_l02Level.e2 (k : Nat) (a0 : ByteArray) : Option Bool := if a0 = (⟨#[43]⟩ : ByteArray) then (some (decide (a0 = (⟨#[43]⟩ : ByteArray)))) else (if a0 = (⟨#[45]⟩ : ByteArray) then (some (decide (a0 = (⟨#[45]⟩ : ByteArray)))) else (some (decide (a0 = (⟨#[79, 82]⟩ : ByteArray)))))
def spec_l02Level.e3 (k : Nat) (a0 : ByteArray) : Option Bool := if a0 = (⟨#[42]⟩ : ByteArray) then (some (decide (a0 = (⟨#[42]⟩ : ByteArray)))) else (if a0 = (⟨#[68, 73, 86]⟩ : ByteArray) then (some (decide (a0 = (⟨#[68, 73, 86]⟩ : ByteArray)))) else (if a0 = (⟨#[77, 79, 68]⟩ : ByteArray) then (some (decide (a0 = (⟨#[77, 79, 68]⟩ : ByteArray)))) else (some (decide (a0 = (⟨#[38]⟩ : ByteArray))))))
def spec_l02Level.f (k : Nat) (a0 : ByteArray) : Option Int := (spec_l02Level.e1 k a0).bind fun y6 => if y6 = true then (some 1) else ((spec_l02Level.e2 k a0).bind fun y12 => if y12 = true then (some 2) else ((spec_l02Level.e3 k a0).bind fun y19 => if y19 = true then (some 3) else (some 0)))
theorem spec_l02Level.fn {k : Nat} {a0 : ByteArray} {r : Int} (H : spec_l02Level.f k a0 = some r) : Fn Tryd.prog 63 [oS a0] [] (oI r) [] := by
 refine Fn.bd [2] Tryd.func63 ?_
 refine rn [0] 0 [] [] ?_
 refine sq ?_
 refine rn [3] 0 [] [] ?_
 refine bl ?_
 refine jo H (fun y6 => ⟨20, [(3, oS a0), (4, oB y6)], [], 0, []⟩) (fun y6 H => ?_) fun v8 h7 H => ?_
 ·refine cb H (fun h9 H => ?_) fun h9 H => ?_
  ·refine rn [2] 0 [] [] ?_
   refine Tri.ret ?_
   obtain rfl := si H;exact eR
  refine jo H (fun y12 => ⟨20, [(3, oS a0), (11, oB y12)], [], 0, []⟩) (fun y12 H => ?_) fun v14 h13 H => ?_
  ·refine cb H (fun h15 H => ?_) fun h15 H => ?_
   ·refine rn [2] 0 [] [] ?_
    refine Tri.ret ?_
    obtain rfl := si H;exact eR
   refine jo H (fun y19 => ⟨20, [(15, oB y19)], [], 0, []⟩) (fun y19 H => ?_) fun v21 h20 H => ?_
   ·refine cb H (fun h22 H => ?_) fun h22 H => ?_
    ·refine rn [2] 0 [] [] ?_
     refine Tri.ret ?_
     obtain rfl := si H;exact eR
    refine sk ?_
    refine rn [2] 0 [] [] ?_
    refine Tri.ret ?_
    obtain rfl := si H;exact eR
   refine rn [3, 15] 0 [] [] ?_
   refine ci h20 (fun h16 h20 => ?_) fun h16 h20 => ?_
   ·refine fx [15] 0 [] ?_
    refine sk ?_
    exact pf (decide (a0 = (⟨#[42]⟩ : ByteArray))) h20
   refine rn [3, 15] 0 [] [] ?_
   refine ci h20 (fun h17 h20 => ?_) fun h17 h20 => ?_
   ·refine fx [15] 0 [] ?_
    refine sk ?_
    exact pf (decide (a0 = (⟨#[68, 73, 86]⟩ : ByteArray))) h20
   refine rn [3, 15] 0 [] [] ?_
   refine ci h20 (fun h18 h20 => ?_) fun h18 h20 => ?_
   ·refine fx [15] 0 [] ?_
    refine sk ?_
    exact pf (decide (a0 = (⟨#[77, 79, 68]⟩ : ByteArray))) h20
   refine rl [15] 0 [] [] ?_
   exact pf (decide (a0 = (⟨#[38]⟩ : ByteArray))) h20
  refine rn [3, 11] 0 [] [] ?_
  refine ci h13 (fun h10 h13 => ?_) fun h10 h13 => ?_
  ·refine sk ?_
   exact pf (decide (a0 = (⟨#[43]⟩ : ByteArray))) h13
  refine rn [3, 11] 0 [] [] ?_
  refine ci h13 (fun h11 h13 => ?_) fun h11 h13 => ?_
  ·refine sk ?_
   exact pf (decide (a0 = (⟨#[45]⟩ : ByteArray))) h13
  refine rl [3, 11] 0 [] [] ?_
  exact pf (decide (a0 = (⟨#[79, 82]⟩ : ByteArray))) h13
 refine rn [3, 4] 0 [] [] ?_
 refine ci h7 (fun h1 h7 => ?_) fun h1 h7 => ?_
 ·refine sk ?_
  exact pf (decide (a0 = (⟨#[61]⟩ : ByteArray))) h7
 refine rn [3, 4] 0 [] [] ?_
 refine ci h7 (fun h2 h7 => ?_) fun h2 h7 => ?_
 ·refine sk ?_
  exact pf (decide (a0 = (⟨#[35]⟩ : ByteArray))) h7
 refine rn [3, 4] 0 [] [] ?_
 refine ci h7 (fun h3 h7 => ?_) fun h3 h7 => ?_
 ·refine sk ?_
  exact pf (decide (a0 = (⟨#[60]⟩ : ByteArray))) h7
 refine rx [3, 4] 0 [] [] ⟨20, [(3, oS a0), (4, oB (decide (a0 = (⟨#[60, 61]⟩ : ByteArray))))], [], 0, []⟩ ?_
 refine ci h7 (fun h4 h7 => ?_) fun h4 h7 => ?_
 ·refine sk ?_
  exact pf (decide (a0 = (⟨#[60, 61]⟩ : ByteArray))) h7
 refine rn [3, 4] 0 [] [] ?_
 refine ci h7 (fun h5 h7 => ?_) fun h5 h7 => ?_
 ·refine sk ?_
  exact pf (decide (a0 = (⟨#[62]⟩ : ByteArray))) h7
 refine rl [3, 4] 0 [] [] ?_
 exact pf (decide (a0 = (⟨#[62, 61]⟩ : ByteArray))) h7
/-! spec_l02Names: function 42 -/
def spec_l02Names.e1 (k : Nat) (a0 : SNode) : Option Bool := if a0.f0 = 1 then (some (decide (a0.f0 = 1))) else (if a0.f0 = 2 then (some (decide (a0.f0 = 2))) else (if a0.f0 = 3 then (some (decide (a0.f0 = 3))) else (if a0.f0 = 4 then (some (decide (a0.f0 = 4))) else (if a0.f0 = 5 then (some (decide (a0.f0 = 5))) else (some (decide (a0.f0 = 6)))))))
def spec_l02Names.e2 (k : Nat) (a0 : SNode) : Option Bool := (spec_l02Name.f k a0.f2).bind fun r10 => if r10 = true then (some (decide (a0.f3 = (⟨#[]⟩ : ByteArray)))) else (some false)
def spec_l02Names.e3 (k : Nat) (a0 : SNode) : Option Bool := if a0.f0 = 12 then (some (decide (a0.f0 = 12))) else (some (decide (a0.f0 = 21)))
def spec_l02Names.e4 (k : Nat) (a0 : SNode) : Option Bool := (spec_l02Name.f k a0.f2).bind fun r21 => if r21 = true then (if a0.f3 = (⟨#[]⟩ : ByteArray) then (some true) else ((spec_l02Name.f k a0.f3).bind fun r25 => some r25)) else (some false)
def spec_l02Names.e5 (k : Nat) (a0 : SNode) : Option Bool := if a0.f3 = (⟨#[]⟩ : ByteArray) then (if a0.f2 = (⟨#[45]⟩ : ByteArray) then (some true) else (some (decide (a0.f2 = (⟨#[126]⟩ : ByteArray))))) else (some false)
def spec_l02Names.e6 (k : Nat) (a0 : SNode) : Option Bool := if a0.f3 = (⟨#[]⟩ : ByteArray) then ((spec_l02Level.f k a0.f2).bind fun r38 => some (decide ((0 : Int) < r38))) else (some false)
def spec_l02Names.e7 (k : Nat) (a0 : SNode) : Option Bool := if a0.f2 = (⟨#[]⟩ : ByteArray) then (some (decide (a0.f3 = (⟨#[]⟩ : ByteArray)))) else (some false)
def spec_l02Names.f (k : Nat) (a0 : SNode) : Option Bool := (spec_l02Names.e1 k a0).bind fun y6 => if y6 = true then ((spec_l02Names.e2 k a0).bind fun y13 => some y13) else ((spec_l02Names.e3 k a0).bind fun y17 => if y17 = true then ((spec_l02Names.e4 k a0).bind fun y27 => some y27) else (if a0.f0 = 23 then ((spec_l02Names.e5 k a0).bind fun y33 => some y33) else (if a0.f0 = 24 then ((spec_l02Names.e6 k a0).bind fun y40 => some y40) else ((spec_l02Names.e7 k a0).bind fun y44 => some y44))))
theorem spec_l02Names.fn {k : Nat} {a0 : SNode} {r : Bool} (H : spec_l02Names.f k a0 = some r) : Fn Tryd.prog 42 [ag (vSNode a0)] [] (oB r) [] := by
 refine Fn.bd [2] Tryd.func42 ?_
 refine rn [1] 1 [] [] ?_
 refine sq ?_
 refine rn [1, 4] 1 [] [] ?_
 refine bl ?_
 refine jo H (fun y6 => ⟨70, [(1, o1 (.ref 0 0)), (4, oI a0.f0), (5, oB y6)], [vSNode a0], 0, []⟩) (fun y6 H => ?_) fun v8 h7 H => ?_
 ·refine cb H (fun h9 H => ?_) fun h9 H => ?_
  ·refine jo H (fun y13 => ⟨70, [(2, oB y13)], [], 0, []⟩) (fun y13 H => ?_) fun v15 h14 H => ?_
   ·refine Tri.ret ?_
    obtain rfl := si H;exact eR
   obtain ⟨r10, h11, h14⟩ := bs h14
   rcases iteb_some h14 with ⟨h12, h14⟩ | ⟨h12, h14⟩
   ·refine rl [2] 0 [] [hC 2 (spec_l02Name.fn h11), hB 2 h12] ?_
    exact pf (decide (a0.f3 = (⟨#[]⟩ : ByteArray))) h14
   refine rl [2] 0 [] [hC 2 (spec_l02Name.fn h11), hB 2 h12] ?_
   exact pf false h14
  refine jo H (fun y17 => ⟨70, [(1, o1 (.ref 0 0)), (4, oI a0.f0), (20, oB y17)], [vSNode a0], 0, []⟩) (fun y17 H => ?_) fun v19 h18 H => ?_
  ·refine cb H (fun h20 H => ?_) fun h20 H => ?_
   ·refine jo H (fun y27 => ⟨70, [(2, oB y27)], [], 0, []⟩) (fun y27 H => ?_) fun v29 h28 H => ?_
    ·refine Tri.ret ?_
     obtain rfl := si H;exact eR
    obtain ⟨r21, h22, h28⟩ := bs h28
    rcases iteb_some h28 with ⟨h23, h28⟩ | ⟨h23, h28⟩
    ·rcases ite_some h28 with ⟨h24, h28⟩ | ⟨h24, h28⟩
     ·refine rl [2] 0 [] [hC 2 (spec_l02Name.fn h22), hB 2 h23, hB 6 (decide_eq_true h24)] ?_
      exact pf true h28
     obtain ⟨r25, h26, h28⟩ := bs h28
     refine rl [2] 0 [] [hC 2 (spec_l02Name.fn h22), hB 2 h23, hB 6 (decide_eq_false h24), hC 10 (spec_l02Name.fn h26)] ?_
     exact pf r25 h28
    refine rl [2] 0 [] [hC 2 (spec_l02Name.fn h22), hB 2 h23] ?_
    exact pf false h28
   refine rn [1, 4, 36] 1 [] [] ?_
   refine ci H (fun h30 H => ?_) fun h30 H => ?_
   ·refine jo H (fun y33 => ⟨70, [(2, oB y33)], [], 0, []⟩) (fun y33 H => ?_) fun v35 h34 H => ?_
    ·refine Tri.ret ?_
     obtain rfl := si H;exact eR
    rcases ite_some h34 with ⟨h31, h34⟩ | ⟨h31, h34⟩
    ·rcases ite_some h34 with ⟨h32, h34⟩ | ⟨h32, h34⟩
     ·refine rl [2] 0 [] [hB 2 (decide_eq_true h31), hB 6 (decide_eq_true h32)] ?_
      exact pf true h34
     refine rl [2] 0 [] [hB 2 (decide_eq_true h31), hB 6 (decide_eq_false h32)] ?_
     exact pf (decide (a0.f2 = (⟨#[126]⟩ : ByteArray))) h34
    refine rl [2] 0 [] [hB 2 (decide_eq_false h31)] ?_
    exact pf false h34
   refine rn [1, 51] 1 [] [] ?_
   refine ci H (fun h36 H => ?_) fun h36 H => ?_
   ·refine jo H (fun y40 => ⟨70, [(2, oB y40)], [], 0, []⟩) (fun y40 H => ?_) fun v42 h41 H => ?_
    ·refine Tri.ret ?_
     obtain rfl := si H;exact eR
    rcases ite_some h41 with ⟨h37, h41⟩ | ⟨h37, h41⟩
    ·obtain ⟨r38, h39, h41⟩ := bs h41
     refine rl [2] 0 [] [hB 2 (decide_eq_true h37), hC 6 (spec_l02Level.fn h39)] ?_
     exact pf (decide ((0 : Int) < r38)) h41
    refine rl [2] 0 [] [hB 2 (decide_eq_false h37)] ?_
    exact pf false h41
   refine sk ?_
   refine jo H (fun y44 => ⟨70, [(2, oB y44)], [], 0, []⟩) (fun y44 H => ?_) fun v46 h45 H => ?_
   ·refine Tri.ret ?_
    obtain rfl := si H;exact eR
   rcases ite_some h45 with ⟨h43, h45⟩ | ⟨h43, h45⟩
   ·refine rl [2] 0 [] [hB 2 (decide_eq_true h43)] ?_
    exact pf (decide (a0.f3 = (⟨#[]⟩ : ByteArray))) h45
   refine rl [2] 0 [] [hB 2 (decide_eq_false h43)] ?_
   exact pf false h45
  refine rn [1, 4, 20] 1 [] [] ?_
  refine ci h18 (fun h16 h18 => ?_) fun h16 h18 => ?_
  ·refine sk ?_
   exact pf (decide (a0.f0 = 12)) h18
  refine rl [1, 4, 20] 1 [] [] ?_
  exact pf (decide (a0.f0 = 21)) h18
 refine rn [1, 4, 5] 1 [] [] ?_
 refine ci h7 (fun h1 h7 => ?_) fun h1 h7 => ?_
 ·refine sk ?_
  exact pf (decide (a0.f0 = 1)) h7
 refine rn [1, 4, 5] 1 [] [] ?_
 refine ci h7 (fun h2 h7 => ?_) fun h2 h7 => ?_
 ·refine sk ?_
  exact pf (decide (a0.f0 = 2)) h7
 refine rn [1, 4, 5] 1 [] [] ?_
 refine ci h7 (fun h3 h7 => ?_) fun h3 h7 => ?_
 ·refine sk ?_
  exact pf (decide (a0.f0 = 3)) h7
 refine rx [1, 4, 5] 1 [] [] ⟨70, [(1, o1 (.ref 0 0)), (4, oI a0.f0), (5, oB (decide (a0.f0 = 4)))], [vSNode a0], 0, []⟩ ?_
 refine ci h7 (fun h4 h7 => ?_) fun h4 h7 => ?_
 ·refine sk ?_
  exact pf (decide (a0.f0 = 4)) h7
 refine rn [1, 4, 5] 1 [] [] ?_
 refine ci h7 (fun h5 h7 => ?_) fun h5 h7 => ?_
 ·refine sk ?_
  exact pf (decide (a0.f0 = 5)) h7
 refine rl [1, 4, 5] 1 [] [] ?_
 exact pf (decide (a0.f0 = 6)) h7
/-! spec_CharOK: function 18 -/
def spec_CharOK.e1 (k : Nat) (a0 : Int) : Option Bool := (spec_l01In.f k a0 0 55295).bind fun r1 => if r1 = true then (some true) else ((spec_l01In.f k a0 57344 1114111).bind fun r4 => some r4)
def spec_CharOK.f (k : Nat) (a0 : Int) : Option Bool := (spec_CharOK.e1 k a0).bind fun y6 => some y6
theorem spec_CharOK.fn {k : Nat} {a0 : Int} {r : Bool} (H : spec_CharOK.f k a0 = some r) : Fn Tryd.prog 18 [oI a0] [] (oB r) [] := by
 refine Fn.bd [2] Tryd.func18 ?_
 refine rn [0] 0 [] [] ?_
 refine jo H (fun y6 => ⟨9, [(2, oB y6)], [], 0, []⟩) (fun y6 H => ?_) fun v8 h7 H => ?_
 ·refine Tri.ret ?_
  obtain rfl := si H;exact eR
 obtain ⟨r1, h2, h7⟩ := bs h7
 rcases iteb_some h7 with ⟨h3, h7⟩ | ⟨h3, h7⟩
 ·refine rl [2] 0 [] [hC 1 (spec_l01In.fn h2), hB 1 h3] ?_
  exact pf true h7
 obtain ⟨r4, h5, h7⟩ := bs h7
 refine rl [2] 0 [] [hC 1 (spec_l01In.fn h2), hB 1 h3, hC 4 (spec_l01In.fn h5)] ?_
 exact pf r4 h7
/-! spec_l02Number: function 43 -/
def spec_l02Number.e1 (k : Nat) (a0 : SNode) : Option Bool := if a0.f0 = 3 then (some (decide (a0.f0 = 3))) else (if a0.f0 = 4 then (some (decide (a0.f0 = 4))) else (if a0.f0 = 5 then (some (decide (a0.f0 = 5))) else (if a0.f0 = 6 then (some (decide (a0.f0 = 6))) else (some (decide (a0.f0 = 20))))))
def spec_l02Number.f (k : Nat) (a0 : SNode) : Option Bool := (spec_l02Number.e1 k a0).bind fun y5 => if y5 = true then ((spec_l01In.f k a0.f1 0 1).bind fun r9 => some r9) else (if a0.f0 = 7 then ((spec_l01In.f k a0.f1 0 3).bind fun r12 => some r12) else (if a0.f0 = 8 then ((spec_l01In.f k a0.f1 1 3).bind fun r15 => some r15) else (if a0.f0 = 9 then ((spec_l01In.f k a0.f1 1 100).bind fun r18 => some r18) else (if a0.f0 = 18 then ((spec_l01In.f k a0.f1 0 999999999999999999).bind fun r21 => some r21) else (if a0.f0 = 19 then ((spec_CharOK.f k a0.f1).bind fun r24 => some r24) else (some (decide (a0.f1 = 0))))))))
theorem spec_l02Number.fn {k : Nat} {a0 : SNode} {r : Bool} (H : spec_l02Number.f k a0 = some r) : Fn Tryd.prog 43 [ag (vSNode a0)] [] (oB r) [] := by
 refine Fn.bd [2] Tryd.func43 ?_
 refine rn [1] 1 [] [] ?_
 refine sq ?_
 refine rn [1, 4] 1 [] [] ?_
 refine bl ?_
 refine jo H (fun y5 => ⟨42, [(1, o1 (.ref 0 0)), (4, oI a0.f0), (5, oB y5)], [vSNode a0], 0, []⟩) (fun y5 H => ?_) fun v7 h6 H => ?_
 ·refine cb H (fun h8 H => ?_) fun h8 H => ?_
  ·obtain ⟨r9, h10, H⟩ := bs H
   refine rn [2] 0 [] [hC 2 (spec_l01In.fn h10)] ?_
   refine Tri.ret ?_
   obtain rfl := si H;exact eR
  refine rn [1, 4, 14] 1 [] [] ?_
  refine ci H (fun h11 H => ?_) fun h11 H => ?_
  ·obtain ⟨r12, h13, H⟩ := bs H
   refine rn [2] 0 [] [hC 2 (spec_l01In.fn h13)] ?_
   refine Tri.ret ?_
   obtain rfl := si H;exact eR
  refine rn [1, 4, 19] 1 [] [] ?_
  refine ci H (fun h14 H => ?_) fun h14 H => ?_
  ·obtain ⟨r15, h16, H⟩ := bs H
   refine rn [2] 0 [] [hC 2 (spec_l01In.fn h16)] ?_
   refine Tri.ret ?_
   obtain rfl := si H;exact eR
  refine rn [1, 4, 24] 1 [] [] ?_
  refine ci H (fun h17 H => ?_) fun h17 H => ?_
  ·obtain ⟨r18, h19, H⟩ := bs H
   refine rn [2] 0 [] [hC 2 (spec_l01In.fn h19)] ?_
   refine Tri.ret ?_
   obtain rfl := si H;exact eR
  refine rn [1, 4, 29] 1 [] [] ?_
  refine ci H (fun h20 H => ?_) fun h20 H => ?_
  ·obtain ⟨r21, h22, H⟩ := bs H
   refine rn [2] 0 [] [hC 2 (spec_l01In.fn h22)] ?_
   refine Tri.ret ?_
   obtain rfl := si H;exact eR
  refine rn [1, 34] 1 [] [] ?_
  refine ci H (fun h23 H => ?_) fun h23 H => ?_
  ·obtain ⟨r24, h25, H⟩ := bs H
   refine rx [2] 0 [] [hC 2 (spec_CharOK.fn h25)] ⟨42, [(2, oB r24)], [], 0, []⟩ ?_
   refine Tri.ret ?_
   obtain rfl := si H;exact eR
  refine sk ?_
  refine rx [2] 0 [] [] ⟨42, [(2, oB (decide (a0.f1 = 0)))], [], 0, []⟩ ?_
  refine Tri.ret ?_
  obtain rfl := si H;exact eR
 refine rn [1, 4, 5] 1 [] [] ?_
 refine ci h6 (fun h1 h6 => ?_) fun h1 h6 => ?_
 ·refine sk ?_
  exact pf (decide (a0.f0 = 3)) h6
 refine rn [1, 4, 5] 1 [] [] ?_
 refine ci h6 (fun h2 h6 => ?_) fun h2 h6 => ?_
 ·refine sk ?_
  exact pf (decide (a0.f0 = 4)) h6
 refine rn [1, 4, 5] 1 [] [] ?_
 refine ci h6 (fun h3 h6 => ?_) fun h3 h6 => ?_
 ·refine sk ?_
  exact pf (decide (a0.f0 = 5)) h6
 refine rx [1, 4, 5] 1 [] [] ⟨42, [(1, o1 (.ref 0 0)), (4, oI a0.f0), (5, oB (decide (a0.f0 = 6)))], [vSNode a0], 0, []⟩ ?_
 refine ci h6 (fun h4 h6 => ?_) fun h4 h6 => ?_
 ·refine sk ?_
  exact pf (decide (a0.f0 = 6)) h6
 refine rl [1, 4, 5] 1 [] [] ?_
 exact pf (decide (a0.f0 = 20)) h6
/-! spec_l02Order: function 64 -/
def spec_l02Order.e1 (k : Nat) (a0 : (List SNode)) (a1 : (List Int)) (z36 : Int) (z47 : Int) : Option Bool := if z47 < (a1.length : Int) then ((at? a1 z47).bind fun x49 => (at? a0 z36).bind fun x51 => some (!(decide (x49 = x51.f0)))) else (some false)
def spec_l02Order.l2 : Nat → (List SNode) → (List Int) → Int → Int → Option Int
  | 0, _, _, _, _ => none
  | k + 1, a0, a1, z36, z47 => (spec_l02Order.e1 k a0 a1 z36 z47).bind fun y53 => if y53 = true then (spec_l02Order.l2 k a0 a1 z36 (w64 (z47 + 1))) else (some z47)
def spec_l02Order.e3 (k : Nat) (a0 : (List SNode)) (a1 : (List Int)) (z35 : Int) (z36 : Int) : Option Int := spec_l02Order.l2 k a0 a1 z36 z35
def spec_l02Order.e4 (k : Nat) (a0 : (List SNode)) (a2 : Int) (z36 : Int) : Option Bool := (at? a0 z36).bind fun x62 => if x62.f0 = a2 then (some (decide (z36 = (w64 ((a0.length : Int) - 1))))) else (some false)
def spec_l02Order.e5 (k : Nat) (a0 : (List SNode)) (a1 : (List Int)) (a2 : Int) (z35 : Int) (z36 : Int) : Option (Bool ⊕ Int) := (spec_l02Order.e3 k a0 a1 z35 z36).bind fun y58 => if y58 = (a1.length : Int) then ((spec_l02Order.e4 k a0 a2 z36).bind fun y65 => some (.inl y65)) else (some (.inr y58))
def spec_l02Order.l6 : Nat → (List SNode) → (List Int) → Int → Int → Int → Option (Bool ⊕ Unit)
  | 0, _, _, _, _, _ => none
  | k + 1, a0, a1, a2, z35, z36 => if z36 < (a0.length : Int) then ((spec_l02Order.e5 k a0 a1 a2 z35 z36).bind fun v => match v with | .inl r => some (.inl r) | .inr y68 => spec_l02Order.l6 k a0 a1 a2 y68 (w64 (z36 + 1))) else (some (.inr ()))
def spec_l02Order.e7 (k : Nat) (a0 : (List SNode)) (a1 : (List Int)) (a2 : Int) : Option (Bool ⊕ Unit) := spec_l02Order.l6 k a0 a1 a2 0 0
def spec_l02Order.f (k : Nat) (a0 : (List SNode)) (a1 : (List Int)) (a2 : Int) : Option Bool := (spec_l02Order.e7 k a0 a1 a2).bind fun v => match v with | .inl r => some r | .inr _ => some false
theorem spec_l02Order.fn {k : Nat} {a0 : (List SNode)} {a1 : (List Int)} {a2 : Int} {r : Bool} (H : spec_l02Order.f k a0 a1 a2 = some r) : Fn Tryd.prog 64 [o1 (.sl 5 (List.map eSNode a0)), o1 (.sl 1 (List.map eI a1)), oI a2] [] (oB r) [] := by
 refine Fn.bd [6] Tryd.func64 ?_
 refine rn [0, 1, 2] 0 [] [] ?_
 refine rn [0, 1, 2, 7] 0 [] [] ?_
 refine jr H (fun _ => ⟨51, [], [], 0, []⟩) (fun _ H => ?_) fun v73 h72 H => ?_
 ·refine rn [6] 0 [] [] ?_
  refine Tri.ret ?_
  obtain rfl := si H;exact eR
 refine rn [0, 1, 2, 7, 8] 0 [] [] ?_
 refine bl ?_
 refine lo (Int × Int) k (fun k x => spec_l02Order.l6 k a0 a1 a2 x.1 x.2) (fun x => ⟨51, [(0, o1 (.sl 5 (List.map eSNode a0))), (1, o1 (.sl 1 (List.map eI a1))), (2, oI a2), (7, oI x.1), (8, oI x.2)], [], 0, []⟩) (0, 0) h72 fun k x h72 IH71 => ?_
 obtain ⟨z35, z36⟩ := x
 rw [spec_l02Order.l6.eq_2] at h72
 refine sq ?_
 refine rn [0, 1, 2, 7, 8, 12] 0 [] [hL 2 eSNode a0] ?_
 refine ci h72 (fun h37 h72 => ?_) fun h37 h72 => ?_
 ·refine sk ?_
  refine jr h72 (fun y68 => ⟨51, [(0, o1 (.sl 5 (List.map eSNode a0))), (1, o1 (.sl 1 (List.map eI a1))), (2, oI a2), (7, oI y68), (8, oI z36)], [], 0, []⟩) (fun y68 h72 => ?_) fun v70 h69 h72 => ?_
  ·refine rl [0, 1, 2, 7, 8] 0 [] [] ?_
   exact lb IH71 (y68, w64 (z36 + 1)) h72
  refine bl ?_
  refine jo h69 (fun y58 => ⟨51, [(0, o1 (.sl 5 (List.map eSNode a0))), (1, o1 (.sl 1 (List.map eI a1))), (2, oI a2), (7, oI y58), (8, oI z36)], [], 0, []⟩) (fun y58 h69 => ?_) fun v60 h59 h69 => ?_
  ·refine rn [0, 1, 2, 7, 8, 36] 0 [] [hL 2 eI a1] ?_
   refine ci h69 (fun h61 h69 => ?_) fun h61 h69 => ?_
   ·refine jo h69 (fun y65 => ⟨51, [(6, oB y65)], [], 0, []⟩) (fun y65 h69 => ?_) fun v67 h66 h69 => ?_
    ·refine Tri.ret ?_
     obtain rfl := si h69;obtain rfl := si h72;obtain rfl := si H;exact eR
    obtain ⟨x62, h63, h66⟩ := bs h66
    rcases ite_some h66 with ⟨h64, h66⟩ | ⟨h64, h66⟩
    ·refine rl [6] 0 [] [hEv 2 eSNode_v h63, hB 6 (decide_eq_true h64), hL 10 eSNode a0] ?_
     exact pf (decide (z36 = (w64 ((a0.length : Int) - 1)))) h66
    refine rl [6] 0 [] [hEv 2 eSNode_v h63, hB 6 (decide_eq_false h64)] ?_
    exact pf false h66
   refine fx [0, 1, 2, 7, 8] 0 [] ?_
   refine sk ?_
   exact pe y58 h69
  refine bl ?_
  refine fx [0, 1, 2, 7, 8] 0 [] ?_
  refine lo Int k (fun k x => spec_l02Order.l2 k a0 a1 z36 x) (fun x => ⟨51, [(0, o1 (.sl 5 (List.map eSNode a0))), (1, o1 (.sl 1 (List.map eI a1))), (2, oI a2), (7, oI x), (8, oI z36)], [], 0, []⟩) z35 h59 fun k z47 h59 IH57 => ?_
  rw [spec_l02Order.l2.eq_2] at h59
  refine sq ?_
  refine jo h59 (fun y53 => ⟨51, [(0, o1 (.sl 5 (List.map eSNode a0))), (1, o1 (.sl 1 (List.map eI a1))), (2, oI a2), (7, oI z47), (8, oI z36), (30, oB y53)], [], 0, []⟩) (fun y53 h59 => ?_) fun v55 h54 h59 => ?_
  ·refine cb h59 (fun h56 h59 => ?_) fun h56 h59 => ?_
   ·refine sk ?_
    refine bl ?_
    refine rl [0, 1, 2, 7, 8] 0 [] [] ?_
    exact lb IH57 (w64 (z47 + 1)) h59
   refine fx [0, 1, 2, 7, 8] 0 [] ?_
   refine xi ?_
   exact pf z47 h59
  rcases ite_some h54 with ⟨h48, h54⟩ | ⟨h48, h54⟩
  ·obtain ⟨x49, h50, h54⟩ := bs h54
   obtain ⟨x51, h52, h54⟩ := bs h54
   refine dl hmix 14 [[], [], [1], [0, 1, 2], [0, 1, 2, 3], [0, 1, 2, 3, 4], [0, 1, 2, 3, 4], [0, 1, 2, 3, 4, 5, 6], [0, 1, 2, 3, 4, 5, 6, 7], [0, 1, 2, 3, 4], [0, 1, 2, 3, 4], [0, 1, 2, 3, 4, 9, 10], [0, 1, 2, 3, 4, 9, 10, 11], [0, 1, 2, 3, 4, 9, 10, 11, 12], [0, 1, 2, 3, 4, 5, 6, 7, 8, 9, 10, 11, 12, 13], [0, 1, 2, 3, 4, 5, 6, 7, 8, 9, 10, 11, 12, 13, 14]] [0, 1, 2, 7, 8, 30] 0 [] [hL 2 eI a1, hB 3 (decide_eq_true h48), hE 7 eI h50, hEv 11 eSNode_v h52] ?_
   exact pf (!(decide (x49 = x51.f0))) h54
  refine dl hmix 14 [[], [], [1], [0, 1, 2], [0, 1, 2, 3], [0, 1, 2, 3, 4], [0, 1, 2, 3, 4], [0, 1, 2, 3, 4, 5, 6], [0, 1, 2, 3, 4, 5, 6, 7], [0, 1, 2, 3, 4], [0, 1, 2, 3, 4], [0, 1, 2, 3, 4, 9, 10], [0, 1, 2, 3, 4, 9, 10, 11], [0, 1, 2, 3, 4, 9, 10, 11, 12], [0, 1, 2, 3, 4, 5, 6, 7, 8, 9, 10, 11, 12, 13], [0, 1, 2, 3, 4, 5, 6, 7, 8, 9, 10, 11, 12, 13, 14]] [0, 1, 2, 7, 8, 30] 0 [] [hL 2 eI a1, hB 3 (decide_eq_false h48)] ?_
  exact pf false h54
 refine fx [] 0 [] ?_
 refine xi ?_
 exact pe () h72
/-! spec_l02IsStatement: function 65 -/
def spec_l02IsStatement.f (k : Nat) (a0 : SNode) : Option Bool := (spec_l01In.f k a0.f0 11 17).bind fun r1 => some r1
theorem spec_l02IsStatement.fn {k : Nat} {a0 : SNode} {r : Bool} (H : spec_l02IsStatement.f k a0 = some r) : Fn Tryd.prog 65 [ag (vSNode a0)] [] (oB r) [] := by
 refine Fn.bd [2] Tryd.func65 ?_
 refine rn [1] 1 [] [] ?_
 obtain ⟨r1, h2, H⟩ := bs H
 refine rn [2] 0 [] [hC 2 (spec_l01In.fn h2)] ?_
 refine Tri.ret ?_
 obtain rfl := si H;exact eR
/-! spec_l02Designator: function 66 -/
def spec_l02Designator.e1 (k : Nat) (a0 : SNode) : Option Bool := if a0.f0 = 21 then (some true) else (some (decide (a0.f0 = 22)))
def spec_l02Designator.f (k : Nat) (a0 : SNode) : Option Bool := (spec_l02Designator.e1 k a0).bind fun y2 => some y2
theorem spec_l02Designator.fn {k : Nat} {a0 : SNode} {r : Bool} (H : spec_l02Designator.f k a0 = some r) : Fn Tryd.prog 66 [ag (vSNode a0)] [] (oB r) [] := by
 refine Fn.bd [2] Tryd.func66 ?_
 refine rn [1] 1 [] [] ?_
 refine jo H (fun y2 => ⟨11, [(2, oB y2)], [], 0, []⟩) (fun y2 H => ?_) fun v4 h3 H => ?_
 ·refine Tri.ret ?_
  obtain rfl := si H;exact eR
 rcases ite_some h3 with ⟨h1, h3⟩ | ⟨h1, h3⟩
 ·refine rl [2] 0 [] [hB 2 (decide_eq_true h1)] ?_
  exact pf true h3
 refine rl [2] 0 [] [hB 2 (decide_eq_false h1)] ?_
 exact pf (decide (a0.f0 = 22)) h3
/-! spec_l02IsExpr: function 67 -/
def spec_l02IsExpr.e1 (k : Nat) (a0 : SNode) : Option Bool := (spec_l01In.f k a0.f0 18 27).bind fun r1 => if r1 = true then (some true) else (some (decide (a0.f0 = 12)))
def spec_l02IsExpr.f (k : Nat) (a0 : SNode) : Option Bool := (spec_l02IsExpr.e1 k a0).bind fun y4 => some y4
theorem spec_l02IsExpr.fn {k : Nat} {a0 : SNode} {r : Bool} (H : spec_l02IsExpr.f k a0 = some r) : Fn Tryd.prog 67 [ag (vSNode a0)] [] (oB r) [] := by
 refine Fn.bd [2] Tryd.func67 ?_
 refine rn [1] 1 [] [] ?_
 refine jo H (fun y4 => ⟨11, [(2, oB y4)], [], 0, []⟩) (fun y4 H => ?_) fun v6 h5 H => ?_
 ·refine Tri.ret ?_
  obtain rfl := si H;exact eR
 obtain ⟨r1, h2, h5⟩ := bs h5
 rcases iteb_some h5 with ⟨h3, h5⟩ | ⟨h3, h5⟩
 ·refine rl [2] 0 [] [hC 2 (spec_l01In.fn h2), hB 2 h3] ?_
  exact pf true h5
 refine rl [2] 0 [] [hC 2 (spec_l01In.fn h2), hB 2 h3] ?_
 exact pf (decide (a0.f0 = 12)) h5
/-! spec_l02Exprs: function 68 -/
def spec_l02Exprs.l1 : Nat → (List SNode) → Int → Option (Bool ⊕ Unit)
  | 0, _, _ => none
  | k + 1, a0, z7 => if z7 < (a0.length : Int) then ((at? a0 z7).bind fun x9 => (spec_l02IsExpr.f k x9).bind fun r11 => if r11 = true then (spec_l02Exprs.l1 k a0 (w64 (z7 + 1))) else (some (.inl false))) else (some (.inr ()))
def spec_l02Exprs.e2 (k : Nat) (a0 : (List SNode)) : Option (Bool ⊕ Unit) := spec_l02Exprs.l1 k a0 0
def spec_l02Exprs.e3 (k : Nat) (a0 : (List SNode)) (a1 : Int) : Option Bool := if a1 < 0 then (some true) else (some (decide ((a0.length : Int) = a1)))
def spec_l02Exprs.f (k : Nat) (a0 : (List SNode)) (a1 : Int) : Option Bool := (spec_l02Exprs.e2 k a0).bind fun v => match v with | .inl r => some r | .inr _ => (spec_l02Exprs.e3 k a0 a1).bind fun y18 => some y18
theorem spec_l02Exprs.fn {k : Nat} {a0 : (List SNode)} {a1 : Int} {r : Bool} (H : spec_l02Exprs.f k a0 a1 = some r) : Fn Tryd.prog 68 [o1 (.sl 5 (List.map eSNode a0)), oI a1] [] (oB r) [] := by
 refine Fn.bd [4] Tryd.func68 ?_
 refine rn [0, 1] 0 [] [] ?_
 refine jr H (fun _ => ⟨26, [(0, o1 (.sl 5 (List.map eSNode a0))), (1, oI a1)], [], 0, []⟩) (fun _ H => ?_) fun v16 h15 H => ?_
 ·refine jo H (fun y18 => ⟨26, [(4, oB y18)], [], 0, []⟩) (fun y18 H => ?_) fun v20 h19 H => ?_
  ·refine Tri.ret ?_
   obtain rfl := si H;exact eR
  rcases ite_some h19 with ⟨h17, h19⟩ | ⟨h17, h19⟩
  ·refine rl [4] 0 [] [hB 1 (decide_eq_true h17)] ?_
   exact pf true h19
  refine rl [4] 0 [] [hB 1 (decide_eq_false h17), hL 4 eSNode a0] ?_
  exact pf (decide ((a0.length : Int) = a1)) h19
 refine rn [0, 1, 5] 0 [] [] ?_
 refine bl ?_
 refine lo Int k (fun k x => spec_l02Exprs.l1 k a0 x) (fun x => ⟨26, [(0, o1 (.sl 5 (List.map eSNode a0))), (1, oI a1), (5, oI x)], [], 0, []⟩) 0 h15 fun k z7 h15 IH14 => ?_
 rw [spec_l02Exprs.l1.eq_2] at h15
 refine sq ?_
 refine rn [0, 1, 5, 9] 0 [] [hL 2 eSNode a0] ?_
 refine ci h15 (fun h8 h15 => ?_) fun h8 h15 => ?_
 ·refine sk ?_
  refine sq ?_
  refine bl ?_
  obtain ⟨x9, h10, h15⟩ := bs h15
  obtain ⟨r11, h12, h15⟩ := bs h15
  refine rn [0, 1, 5, 17] 0 [] [hEv 2 eSNode_v h10, hC 4 (spec_l02IsExpr.fn h12)] ?_
  refine cm h15 (fun h13 h15 => ?_) fun h13 h15 => ?_
  ·refine sk ?_
   refine rl [0, 1, 5] 0 [] [] ?_
   exact lb IH14 (w64 (z7 + 1)) h15
  refine rn [4] 0 [] [] ?_
  refine Tri.ret ?_
  obtain rfl := si h15;obtain rfl := si H;exact eR
 refine fx [0, 1] 0 [] ?_
 refine xi ?_
 exact pe () h15
/-! spec_l02Kids: function 44 -/
def spec_l02Kids.e1 (k : Nat) (a0 : SNode) (z12 : Int) (z13 : Int) : Option Int := (at? a0.f4 z13).bind fun x15 => if x15.f0 = 7 then (some (w64 (z12 + 1))) else (some z12)
def spec_l02Kids.l2 : Nat → SNode → Int → Int → Option Int
  | 0, _, _, _ => none
  | k + 1, a0, z12, z13 => if z13 < (a0.f4.length : Int) then ((spec_l02Kids.e1 k a0 z12 z13).bind fun y18 => spec_l02Kids.l2 k a0 y18 (w64 (z13 + 1))) else (some z12)
def spec_l02Kids.e3 (k : Nat) (a0 : SNode) : Option Int := spec_l02Kids.l2 k a0 0 0
def spec_l02Kids.e4 (k : Nat) (a0 : SNode) (y22 : Int) : Option Bool := if y22 = 1 then ((spec_l02Order.f k a0.f4 ([6, 7, 4] : List Int) 10).bind fun r26 => some r26) else (some false)
def spec_l02Kids.e5 (k : Nat) (a0 : SNode) : Option Bool := if (a0.f4.length : Int) = 1 then ((at? a0.f4 0).bind fun x33 => if x33.f0 = 8 then (some true) else (some (decide (x33.f0 = 9)))) else (some false)
def spec_l02Kids.e6 (k : Nat) (a0 : SNode) : Option Bool := if a0.f0 = 6 then (some (decide (a0.f0 = 6))) else (some (decide (a0.f0 = 9)))
def spec_l02Kids.e7 (k : Nat) (a0 : SNode) : Option Bool := if (a0.f4.length : Int) = 1 then ((at? a0.f4 0).bind fun x45 => some (decide (x45.f0 = 8))) else (some false)
def spec_l02Kids.l8 : Nat → SNode → Int → Option (Bool ⊕ Unit)
  | 0, _, _ => none
  | k + 1, a0, z57 => if z57 < (a0.f4.length : Int) then ((at? a0.f4 z57).bind fun x59 => (spec_l02IsStatement.f k x59).bind fun r61 => if r61 = true then (spec_l02Kids.l8 k a0 (w64 (z57 + 1))) else (some (.inl false))) else (some (.inr ()))
def spec_l02Kids.e9 (k : Nat) (a0 : SNode) : Option (Bool ⊕ Unit) := spec_l02Kids.l8 k a0 0
def spec_l02Kids.e10 (k : Nat) (a0 : SNode) : Option Bool := if (a0.f4.length : Int) = 2 then ((at? a0.f4 0).bind fun x69 => (spec_l02Designator.f k x69).bind fun r71 => if r71 = true then ((at? a0.f4 1).bind fun x74 => (spec_l02IsExpr.f k x74).bind fun r76 => some r76) else (some false)) else (some false)
def spec_l02Kids.e11 (k : Nat) (a0 : SNode) : Option Bool := if (a0.f4.length : Int) = 1 then ((at? a0.f4 0).bind fun x83 => (spec_l02Designator.f k x83).bind fun r85 => some r85) else (some false)
def spec_l02Kids.e12 (k : Nat) (a0 : SNode) : Option Bool := (spec_l01In.f k (a0.f4.length : Int) 2 3).bind fun r91 => if r91 = true then ((at? a0.f4 0).bind fun x94 => (spec_l02IsExpr.f k x94).bind fun r96 => if r96 = true then ((at? a0.f4 1).bind fun x99 => if x99.f0 = 10 then (if (a0.f4.length : Int) = 2 then (some true) else ((at? a0.f4 2).bind fun x103 => some (decide (x103.f0 = 10)))) else (some false)) else (some false)) else (some false)
def spec_l02Kids.e13 (k : Nat) (a0 : SNode) : Option Bool := if (a0.f4.length : Int) = 2 then ((at? a0.f4 0).bind fun x110 => (spec_l02IsExpr.f k x110).bind fun r112 => if r112 = true then ((at? a0.f4 1).bind fun x115 => some (decide (x115.f0 = 10))) else (some false)) else (some false)
def spec_l02Kids.e14 (k : Nat) (a0 : SNode) : Option Bool := if (a0.f4.length : Int) < 2 then ((spec_l02Exprs.f k a0.f4 (-1)).bind fun r122 => some r122) else (some false)
def spec_l02Kids.e15 (k : Nat) (a0 : SNode) : Option Bool := if a0.f0 = 3 then (some (decide (a0.f0 = 3))) else (if a0.f0 = 16 then (some (decide (a0.f0 = 16))) else (if a0.f0 = 23 then (some (decide (a0.f0 = 23))) else (if a0.f0 = 25 then (some (decide (a0.f0 = 25))) else (some (decide (a0.f0 = 26))))))
def spec_l02Kids.e16 (k : Nat) (a0 : SNode) : Option Bool := if (a0.f4.length : Int) = 1 then ((at? a0.f4 0).bind fun x142 => some (decide (x142.f0 = 21))) else (some false)
def spec_l02Kids.e17 (k : Nat) (a0 : SNode) : Option Bool := if (a0.f4.length : Int) = 2 then ((at? a0.f4 0).bind fun x149 => if x149.f0 = 21 then ((at? a0.f4 1).bind fun x152 => (spec_l02IsExpr.f k x152).bind fun r154 => some r154) else (some false)) else (some false)
def spec_l02Kids.e18 (k : Nat) (a0 : SNode) : Option (Bool ⊕ Unit) := if a0.f0 = 1 then ((spec_l02Order.f k a0.f4 ([2, 3, 4, 5] : List Int) 10).bind fun r2 => some (.inl r2)) else (if a0.f0 = 5 then ((spec_l02Kids.e3 k a0).bind fun y22 => (spec_l02Kids.e4 k a0 y22).bind fun y28 => some (.inl y28)) else (if a0.f0 = 4 then ((spec_l02Kids.e5 k a0).bind fun y36 => some (.inl y36)) else ((spec_l02Kids.e6 k a0).bind fun y40 => if y40 = true then ((spec_l02Kids.e7 k a0).bind fun y47 => some (.inl y47)) else (if a0.f0 = 10 then ((spec_l02Kids.e9 k a0).bind fun v => match v with | .inl r => some (.inl r) | .inr _ => some (.inl true)) else (if a0.f0 = 11 then ((spec_l02Kids.e10 k a0).bind fun y78 => some (.inl y78)) else (if a0.f0 = 17 then ((spec_l02Kids.e11 k a0).bind fun y87 => some (.inl y87)) else (if a0.f0 = 13 then ((spec_l02Kids.e12 k a0).bind fun y105 => some (.inl y105)) else (if a0.f0 = 14 then ((spec_l02Kids.e13 k a0).bind fun y117 => some (.inl y117)) else (if a0.f0 = 15 then ((spec_l02Kids.e14 k a0).bind fun y124 => some (.inl y124)) else (if a0.f0 = 12 then ((spec_l02Exprs.f k a0.f4 (-1)).bind fun r128 => some (.inl r128)) else ((spec_l02Kids.e15 k a0).bind fun y134 => if y134 = true then ((spec_l02Exprs.f k a0.f4 1).bind fun r138 => some (.inl r138)) else (if a0.f0 = 27 then ((spec_l02Kids.e16 k a0).bind fun y144 => some (.inl y144)) else (if a0.f0 = 22 then ((spec_l02Kids.e17 k a0).bind fun y156 => some (.inl y156)) else (if a0.f0 = 24 then ((spec_l02Exprs.f k a0.f4 2).bind fun r160 => some (.inl r160)) else (some (.inr ()))))))))))))))))
def spec_l02Kids.f (k : Nat) (a0 : SNode) : Option Bool := (spec_l02Kids.e18 k a0).bind fun v => match v with | .inl r => some r | .inr _ => some (decide ((a0.f4.length : Int) = 0))
theorem spec_l02Kids.fn {k : Nat} {a0 : SNode} {r : Bool} (H : spec_l02Kids.f k a0 = some r) : Fn Tryd.prog 44 [ag (vSNode a0)] [] (oB r) [] := by
 refine Fn.bd [2] Tryd.func44 ?_
 refine rn [1] 1 [] [] ?_
 refine rn [1, 3] 1 [] [] ?_
 refine jr H (fun _ => ⟨219, [(3, o1 (.sl 5 (List.map eSNode a0.f4)))], [], 0, []⟩) (fun _ H => ?_) fun v163 h162 H => ?_
 ·refine rn [2] 0 [] [hL 1 eSNode a0.f4] ?_
  refine Tri.ret ?_
  obtain rfl := si H;exact eR
 refine rn [3, 10] 0 [] [] ?_
 refine bl ?_
 refine rn [3, 10, 11] 0 [] [] ?_
 refine ci h162 (fun h1 h162 => ?_) fun h1 h162 => ?_
 ·obtain ⟨r2, h3, h162⟩ := bs h162
  refine rn [2] 0 [] [hC 2 (spec_l02Order.fn h3)] ?_
  refine Tri.ret ?_
  obtain rfl := si h162;obtain rfl := si H;exact eR
 refine rn [3, 10, 16] 0 [] [] ?_
 refine ci h162 (fun h4 h162 => ?_) fun h4 h162 => ?_
 ·refine rx [3, 4] 0 [] [] ⟨219, [(3, o1 (.sl 5 (List.map eSNode a0.f4))), (4, oI 0)], [], 0, []⟩ ?_
  refine jo h162 (fun y22 => ⟨219, [(3, o1 (.sl 5 (List.map eSNode a0.f4))), (4, oI y22)], [], 0, []⟩) (fun y22 h162 => ?_) fun v24 h23 h162 => ?_
  ·refine jo h162 (fun y28 => ⟨219, [(2, oB y28)], [], 0, []⟩) (fun y28 h162 => ?_) fun v30 h29 h162 => ?_
   ·refine Tri.ret ?_
    obtain rfl := si h162;obtain rfl := si H;exact eR
   rcases ite_some h29 with ⟨h25, h29⟩ | ⟨h25, h29⟩
   ·obtain ⟨r26, h27, h29⟩ := bs h29
    refine rl [2] 0 [] [hB 1 (decide_eq_true h25), hC 5 (spec_l02Order.fn h27)] ?_
    exact pf r26 h29
   refine rl [2] 0 [] [hB 1 (decide_eq_false h25)] ?_
   exact pf false h29
  refine rn [3, 4, 5] 0 [] [] ?_
  refine bl ?_
  refine lo (Int × Int) k (fun k x => spec_l02Kids.l2 k a0 x.1 x.2) (fun x => ⟨219, [(3, o1 (.sl 5 (List.map eSNode a0.f4))), (4, oI x.1), (5, oI x.2)], [], 0, []⟩) (0, 0) h23 fun k x h23 IH21 => ?_
  obtain ⟨z12, z13⟩ := x
  rw [spec_l02Kids.l2.eq_2] at h23
  refine sq ?_
  refine rn [3, 4, 5, 21] 0 [] [hL 2 eSNode a0.f4] ?_
  refine ci h23 (fun h14 h23 => ?_) fun h14 h23 => ?_
  ·refine sk ?_
   refine jo h23 (fun y18 => ⟨219, [(3, o1 (.sl 5 (List.map eSNode a0.f4))), (4, oI y18), (5, oI z13)], [], 0, []⟩) (fun y18 h23 => ?_) fun v20 h19 h23 => ?_
   ·refine rl [3, 4, 5] 0 [] [] ?_
    exact lb IH21 (y18, w64 (z13 + 1)) h23
   refine bl ?_
   obtain ⟨x15, h16, h19⟩ := bs h19
   refine rn [3, 4, 5, 29] 0 [] [hEv 2 eSNode_v h16] ?_
   refine ci h19 (fun h17 h19 => ?_) fun h17 h19 => ?_
   ·refine rl [3, 4, 5] 0 [] [] ?_
    exact pf (w64 (z12 + 1)) h19
   refine fx [3, 4, 5] 0 [] ?_
   refine sk ?_
   exact pf z12 h19
  refine fx [3, 4] 0 [] ?_
  refine xi ?_
  exact pf z12 h23
 refine rx [3, 10, 39] 0 [] [] ⟨219, [(3, o1 (.sl 5 (List.map eSNode a0.f4))), (10, oI a0.f0), (39, oB (decide (a0.f0 = 4)))], [], 0, []⟩ ?_
 refine ci h162 (fun h31 h162 => ?_) fun h31 h162 => ?_
 ·refine jo h162 (fun y36 => ⟨219, [(2, oB y36)], [], 0, []⟩) (fun y36 h162 => ?_) fun v38 h37 h162 => ?_
  ·refine Tri.ret ?_
   obtain rfl := si h162;obtain rfl := si H;exact eR
  rcases ite_some h37 with ⟨h32, h37⟩ | ⟨h32, h37⟩
  ·obtain ⟨x33, h34, h37⟩ := bs h37
   rcases ite_some h37 with ⟨h35, h37⟩ | ⟨h35, h37⟩
   ·refine rl [2] 0 [] [hL 1 eSNode a0.f4, hB 2 (decide_eq_true h32), hEv 5 eSNode_v h34, hB 8 (decide_eq_true h35)] ?_
    exact pf true h37
   refine rl [2] 0 [] [hL 1 eSNode a0.f4, hB 2 (decide_eq_true h32), hEv 5 eSNode_v h34, hB 8 (decide_eq_false h35), hEv 11 eSNode_v h34] ?_
   exact pf (decide (x33.f0 = 9)) h37
  refine rl [2] 0 [] [hL 1 eSNode a0.f4, hB 2 (decide_eq_false h32)] ?_
  exact pf false h37
 refine jo h162 (fun y40 => ⟨219, [(3, o1 (.sl 5 (List.map eSNode a0.f4))), (10, oI a0.f0), (58, oB y40)], [], 0, []⟩) (fun y40 h162 => ?_) fun v42 h41 h162 => ?_
 ·refine cb h162 (fun h43 h162 => ?_) fun h43 h162 => ?_
  ·refine jo h162 (fun y47 => ⟨219, [(2, oB y47)], [], 0, []⟩) (fun y47 h162 => ?_) fun v49 h48 h162 => ?_
   ·refine Tri.ret ?_
    obtain rfl := si h162;obtain rfl := si H;exact eR
   rcases ite_some h48 with ⟨h44, h48⟩ | ⟨h44, h48⟩
   ·obtain ⟨x45, h46, h48⟩ := bs h48
    refine rl [2] 0 [] [hL 1 eSNode a0.f4, hB 2 (decide_eq_true h44), hEv 5 eSNode_v h46] ?_
    exact pf (decide (x45.f0 = 8)) h48
   refine rl [2] 0 [] [hL 1 eSNode a0.f4, hB 2 (decide_eq_false h44)] ?_
   exact pf false h48
  refine rn [3, 10, 71] 0 [] [] ?_
  refine ci h162 (fun h50 h162 => ?_) fun h50 h162 => ?_
  ·refine jr h162 (fun _ => ⟨219, [], [], 0, []⟩) (fun _ h162 => ?_) fun v66 h65 h162 => ?_
   ·refine rn [2] 0 [] [] ?_
    refine Tri.ret ?_
    obtain rfl := si h162;obtain rfl := si H;exact eR
   refine rn [3, 6] 0 [] [] ?_
   refine bl ?_
   refine lo Int k (fun k x => spec_l02Kids.l8 k a0 x) (fun x => ⟨219, [(3, o1 (.sl 5 (List.map eSNode a0.f4))), (6, oI x)], [], 0, []⟩) 0 h65 fun k z57 h65 IH64 => ?_
   rw [spec_l02Kids.l8.eq_2] at h65
   refine sq ?_
   refine rn [3, 6, 76] 0 [] [hL 2 eSNode a0.f4] ?_
   refine ci h65 (fun h58 h65 => ?_) fun h58 h65 => ?_
   ·refine sk ?_
    refine sq ?_
    refine bl ?_
    obtain ⟨x59, h60, h65⟩ := bs h65
    obtain ⟨r61, h62, h65⟩ := bs h65
    refine rn [3, 6, 84] 0 [] [hEv 2 eSNode_v h60, hC 4 (spec_l02IsStatement.fn h62)] ?_
    refine cm h65 (fun h63 h65 => ?_) fun h63 h65 => ?_
    ·refine sk ?_
     refine rl [3, 6] 0 [] [] ?_
     exact lb IH64 (w64 (z57 + 1)) h65
    refine rn [2] 0 [] [] ?_
    refine Tri.ret ?_
    obtain rfl := si h65;obtain rfl := si h162;obtain rfl := si H;exact eR
   refine fx [] 0 [] ?_
   refine xi ?_
   exact pe () h65
  refine rn [3, 10, 85] 0 [] [] ?_
  refine ci h162 (fun h67 h162 => ?_) fun h67 h162 => ?_
  ·refine jo h162 (fun y78 => ⟨219, [(2, oB y78)], [], 0, []⟩) (fun y78 h162 => ?_) fun v80 h79 h162 => ?_
   ·refine Tri.ret ?_
    obtain rfl := si h162;obtain rfl := si H;exact eR
   rcases ite_some h79 with ⟨h68, h79⟩ | ⟨h68, h79⟩
   ·obtain ⟨x69, h70, h79⟩ := bs h79
    obtain ⟨r71, h72, h79⟩ := bs h79
    rcases iteb_some h79 with ⟨h73, h79⟩ | ⟨h73, h79⟩
    ·obtain ⟨x74, h75, h79⟩ := bs h79
     obtain ⟨r76, h77, h79⟩ := bs h79
     refine rl [2] 0 [] [hL 1 eSNode a0.f4, hB 2 (decide_eq_true h68), hEv 5 eSNode_v h70, hC 7 (spec_l02Designator.fn h72), hB 7 h73, hEv 11 eSNode_v h75, hC 13 (spec_l02IsExpr.fn h77)] ?_
     exact pf r76 h79
    refine rl [2] 0 [] [hL 1 eSNode a0.f4, hB 2 (decide_eq_true h68), hEv 5 eSNode_v h70, hC 7 (spec_l02Designator.fn h72), hB 7 h73] ?_
    exact pf false h79
   refine rl [2] 0 [] [hL 1 eSNode a0.f4, hB 2 (decide_eq_false h68)] ?_
   exact pf false h79
  refine rn [3, 10, 102] 0 [] [] ?_
  refine ci h162 (fun h81 h162 => ?_) fun h81 h162 => ?_
  ·refine jo h162 (fun y87 => ⟨219, [(2, oB y87)], [], 0, []⟩) (fun y87 h162 => ?_) fun v89 h88 h162 => ?_
   ·refine Tri.ret ?_
    obtain rfl := si h162;obtain rfl := si H;exact eR
   rcases ite_some h88 with ⟨h82, h88⟩ | ⟨h82, h88⟩
   ·obtain ⟨x83, h84, h88⟩ := bs h88
    obtain ⟨r85, h86, h88⟩ := bs h88
    refine rl [2] 0 [] [hL 1 eSNode a0.f4, hB 2 (decide_eq_true h82), hEv 5 eSNode_v h84, hC 7 (spec_l02Designator.fn h86)] ?_
    exact pf r85 h88
   refine rl [2] 0 [] [hL 1 eSNode a0.f4, hB 2 (decide_eq_false h82)] ?_
   exact pf false h88
  refine rn [3, 10, 113] 0 [] [] ?_
  refine ci h162 (fun h90 h162 => ?_) fun h90 h162 => ?_
  ·refine jo h162 (fun y105 => ⟨219, [(2, oB y105)], [], 0, []⟩) (fun y105 h162 => ?_) fun v107 h106 h162 => ?_
   ·refine Tri.ret ?_
    obtain rfl := si h162;obtain rfl := si H;exact eR
   obtain ⟨r91, h92, h106⟩ := bs h106
   rcases iteb_some h106 with ⟨h93, h106⟩ | ⟨h93, h106⟩
   ·obtain ⟨x94, h95, h106⟩ := bs h106
    obtain ⟨r96, h97, h106⟩ := bs h106
    rcases iteb_some h106 with ⟨h98, h106⟩ | ⟨h98, h106⟩
    ·obtain ⟨x99, h100, h106⟩ := bs h106
     rcases ite_some h106 with ⟨h101, h106⟩ | ⟨h101, h106⟩
     ·rcases ite_some h106 with ⟨h102, h106⟩ | ⟨h102, h106⟩
      ·refine rl [2] 0 [] [hL 1 eSNode a0.f4, hC 2 (spec_l01In.fn h92), hB 2 h93, hEv 5 eSNode_v h95, hC 7 (spec_l02IsExpr.fn h97), hB 7 h98, hEv 11 eSNode_v h100, hB 14 (decide_eq_true h101), hL 18 eSNode a0.f4, hB 19 (decide_eq_true h102)] ?_
       exact pf true h106
      obtain ⟨x103, h104, h106⟩ := bs h106
      refine rl [2] 0 [] [hL 1 eSNode a0.f4, hC 2 (spec_l01In.fn h92), hB 2 h93, hEv 5 eSNode_v h95, hC 7 (spec_l02IsExpr.fn h97), hB 7 h98, hEv 11 eSNode_v h100, hB 14 (decide_eq_true h101), hL 18 eSNode a0.f4, hB 19 (decide_eq_false h102), hEv 22 eSNode_v h104] ?_
      exact pf (decide (x103.f0 = 10)) h106
     refine rl [2] 0 [] [hL 1 eSNode a0.f4, hC 2 (spec_l01In.fn h92), hB 2 h93, hEv 5 eSNode_v h95, hC 7 (spec_l02IsExpr.fn h97), hB 7 h98, hEv 11 eSNode_v h100, hB 14 (decide_eq_false h101)] ?_
     exact pf false h106
    refine rl [2] 0 [] [hL 1 eSNode a0.f4, hC 2 (spec_l01In.fn h92), hB 2 h93, hEv 5 eSNode_v h95, hC 7 (spec_l02IsExpr.fn h97), hB 7 h98] ?_
    exact pf false h106
   refine rl [2] 0 [] [hL 1 eSNode a0.f4, hC 2 (spec_l01In.fn h92), hB 2 h93] ?_
   exact pf false h106
  refine rn [3, 10, 143] 0 [] [] ?_
  refine ci h162 (fun h108 h162 => ?_) fun h108 h162 => ?_
  ·refine jo h162 (fun y117 => ⟨219, [(2, oB y117)], [], 0, []⟩) (fun y117 h162 => ?_) fun v119 h118 h162 => ?_
   ·refine Tri.ret ?_
    obtain rfl := si h162;obtain rfl := si H;exact eR
   rcases ite_some h118 with ⟨h109, h118⟩ | ⟨h109, h118⟩
   ·obtain ⟨x110, h111, h118⟩ := bs h118
    obtain ⟨r112, h113, h118⟩ := bs h118
    rcases iteb_some h118 with ⟨h114, h118⟩ | ⟨h114, h118⟩
    ·obtain ⟨x115, h116, h118⟩ := bs h118
     refine rl [2] 0 [] [hL 1 eSNode a0.f4, hB 2 (decide_eq_true h109), hEv 5 eSNode_v h111, hC 7 (spec_l02IsExpr.fn h113), hB 7 h114, hEv 11 eSNode_v h116] ?_
     exact pf (decide (x115.f0 = 10)) h118
    refine rl [2] 0 [] [hL 1 eSNode a0.f4, hB 2 (decide_eq_true h109), hEv 5 eSNode_v h111, hC 7 (spec_l02IsExpr.fn h113), hB 7 h114] ?_
    exact pf false h118
   refine rl [2] 0 [] [hL 1 eSNode a0.f4, hB 2 (decide_eq_false h109)] ?_
   exact pf false h118
  refine rx [3, 10, 161] 0 [] [] ⟨219, [(3, o1 (.sl 5 (List.map eSNode a0.f4))), (10, oI a0.f0), (161, oB (decide (a0.f0 = 15)))], [], 0, []⟩ ?_
  refine ci h162 (fun h120 h162 => ?_) fun h120 h162 => ?_
  ·refine jo h162 (fun y124 => ⟨219, [(2, oB y124)], [], 0, []⟩) (fun y124 h162 => ?_) fun v126 h125 h162 => ?_
   ·refine Tri.ret ?_
    obtain rfl := si h162;obtain rfl := si H;exact eR
   rcases ite_some h125 with ⟨h121, h125⟩ | ⟨h121, h125⟩
   ·obtain ⟨r122, h123, h125⟩ := bs h125
    refine rl [2] 0 [] [hL 1 eSNode a0.f4, hB 2 (decide_eq_true h121), hC 5 (spec_l02Exprs.fn h123)] ?_
    exact pf r122 h125
   refine rl [2] 0 [] [hL 1 eSNode a0.f4, hB 2 (decide_eq_false h121)] ?_
   exact pf false h125
  refine rn [3, 10, 170] 0 [] [] ?_
  refine ci h162 (fun h127 h162 => ?_) fun h127 h162 => ?_
  ·obtain ⟨r128, h129, h162⟩ := bs h162
   refine rn [2] 0 [] [hC 1 (spec_l02Exprs.fn h129)] ?_
   refine Tri.ret ?_
   obtain rfl := si h162;obtain rfl := si H;exact eR
  refine jo h162 (fun y134 => ⟨219, [(3, o1 (.sl 5 (List.map eSNode a0.f4))), (10, oI a0.f0), (174, oB y134)], [], 0, []⟩) (fun y134 h162 => ?_) fun v136 h135 h162 => ?_
  ·refine cb h162 (fun h137 h162 => ?_) fun h137 h162 => ?_
   ·obtain ⟨r138, h139, h162⟩ := bs h162
    refine rn [2] 0 [] [hC 1 (spec_l02Exprs.fn h139)] ?_
    refine Tri.ret ?_
    obtain rfl := si h162;obtain rfl := si H;exact eR
   refine rn [3, 10, 182] 0 [] [] ?_
   refine ci h162 (fun h140 h162 => ?_) fun h140 h162 => ?_
   ·refine jo h162 (fun y144 => ⟨219, [(2, oB y144)], [], 0, []⟩) (fun y144 h162 => ?_) fun v146 h145 h162 => ?_
    ·refine Tri.ret ?_
     obtain rfl := si h162;obtain rfl := si H;exact eR
    rcases ite_some h145 with ⟨h141, h145⟩ | ⟨h141, h145⟩
    ·obtain ⟨x142, h143, h145⟩ := bs h145
     refine rl [2] 0 [] [hL 1 eSNode a0.f4, hB 2 (decide_eq_true h141), hEv 5 eSNode_v h143] ?_
     exact pf (decide (x142.f0 = 21)) h145
    refine rl [2] 0 [] [hL 1 eSNode a0.f4, hB 2 (decide_eq_false h141)] ?_
    exact pf false h145
   refine rn [3, 10, 194] 0 [] [] ?_
   refine ci h162 (fun h147 h162 => ?_) fun h147 h162 => ?_
   ·refine jo h162 (fun y156 => ⟨219, [(2, oB y156)], [], 0, []⟩) (fun y156 h162 => ?_) fun v158 h157 h162 => ?_
    ·refine Tri.ret ?_
     obtain rfl := si h162;obtain rfl := si H;exact eR
    rcases ite_some h157 with ⟨h148, h157⟩ | ⟨h148, h157⟩
    ·obtain ⟨x149, h150, h157⟩ := bs h157
     rcases ite_some h157 with ⟨h151, h157⟩ | ⟨h151, h157⟩
     ·obtain ⟨x152, h153, h157⟩ := bs h157
      obtain ⟨r154, h155, h157⟩ := bs h157
      refine rl [2] 0 [] [hL 1 eSNode a0.f4, hB 2 (decide_eq_true h148), hEv 5 eSNode_v h150, hB 8 (decide_eq_true h151), hEv 12 eSNode_v h153, hC 14 (spec_l02IsExpr.fn h155)] ?_
      exact pf r154 h157
     refine rl [2] 0 [] [hL 1 eSNode a0.f4, hB 2 (decide_eq_true h148), hEv 5 eSNode_v h150, hB 8 (decide_eq_false h151)] ?_
     exact pf false h157
    refine rl [2] 0 [] [hL 1 eSNode a0.f4, hB 2 (decide_eq_false h148)] ?_
    exact pf false h157
   refine rn [3, 212] 0 [] [] ?_
   refine ci h162 (fun h159 h162 => ?_) fun h159 h162 => ?_
   ·obtain ⟨r160, h161, h162⟩ := bs h162
    refine rn [2] 0 [] [hC 1 (spec_l02Exprs.fn h161)] ?_
    refine Tri.ret ?_
    obtain rfl := si h162;obtain rfl := si H;exact eR
   refine fx [3] 0 [] ?_
   refine sk ?_
   exact pe () h162
  refine rn [3, 10, 174] 0 [] [] ?_
  refine ci h135 (fun h130 h135 => ?_) fun h130 h135 => ?_
  ·refine sk ?_
   exact pf (decide (a0.f0 = 3)) h135
  refine rn [3, 10, 174] 0 [] [] ?_
  refine ci h135 (fun h131 h135 => ?_) fun h131 h135 => ?_
  ·refine sk ?_
   exact pf (decide (a0.f0 = 16)) h135
  refine rn [3, 10, 174] 0 [] [] ?_
  refine ci h135 (fun h132 h135 => ?_) fun h132 h135 => ?_
  ·refine sk ?_
   exact pf (decide (a0.f0 = 23)) h135
  refine rn [3, 10, 174] 0 [] [] ?_
  refine ci h135 (fun h133 h135 => ?_) fun h133 h135 => ?_
  ·refine sk ?_
   exact pf (decide (a0.f0 = 25)) h135
  refine rl [3, 10, 174] 0 [] [] ?_
  exact pf (decide (a0.f0 = 26)) h135
 refine rn [3, 10, 58] 0 [] [] ?_
 refine ci h41 (fun h39 h41 => ?_) fun h39 h41 => ?_
 ·refine sk ?_
  exact pf (decide (a0.f0 = 6)) h41
 refine rl [3, 10, 58] 0 [] [] ?_
 exact pf (decide (a0.f0 = 9)) h41
/-! spec_l02Right: function 24 -/
def spec_l02Right.e1 (k : Nat) (a0 : SNode) : Option Bool := (spec_l01In.f k a0.f0 1 27).bind fun r1 => if r1 = true then ((spec_l02Names.f k a0).bind fun r4 => if r4 = true then ((spec_l02Number.f k a0).bind fun r7 => if r7 = true then ((spec_l02Kids.f k a0).bind fun r10 => some (!r10)) else (some true)) else (some true)) else (some true)
def spec_l02Right.l2 : Nat → SNode → (SNode → Option Bool) → Int → Option (Bool ⊕ Unit)
  | 0, _, _, _ => none
  | k + 1, a0, rec_spec_l02Right, z22 => if z22 < (a0.f4.length : Int) then ((at? a0.f4 z22).bind fun x24 => (rec_spec_l02Right x24).bind fun r26 => if r26 = true then (spec_l02Right.l2 k a0 rec_spec_l02Right (w64 (z22 + 1))) else (some (.inl false))) else (some (.inr ()))
def spec_l02Right.e3 (k : Nat) (a0 : SNode) (rec_spec_l02Right : (SNode → Option Bool)) : Option (Bool ⊕ Unit) := spec_l02Right.l2 k a0 rec_spec_l02Right 0
def spec_l02Right.f : Nat → SNode → Option Bool
  | 0, _ => none
  | k + 1, a0 => (spec_l02Right.e1 k a0).bind fun y12 => if y12 = true then (some false) else ((spec_l02Right.e3 k a0 (spec_l02Right.f k)).bind fun v => match v with | .inl r => some r | .inr _ => some true)
theorem spec_l02Right.fn {k : Nat} : ∀ {a0 : SNode} {r : Bool} (H : spec_l02Right.f k a0 = some r), Fn Tryd.prog 24 [ag (vSNode a0)] [] (oB r) [] := by
 induction k with
 | zero => intro a0 r H; exact absurd H (by simp [spec_l02Right.f])
 | succ k ih_spec_l02Right =>
 intro a0 r H
 rw [spec_l02Right.f.eq_2] at H
 generalize spec_l02Right.f k = rec_spec_l02Right at H ih_spec_l02Right
 refine Fn.bd [2] Tryd.func24 ?_
 refine rn [1] 1 [] [] ?_
 refine sq ?_
 refine jo H (fun y12 => ⟨37, [(1, o1 (.ref 0 0)), (22, oB y12)], [vSNode a0], 0, []⟩) (fun y12 H => ?_) fun v14 h13 H => ?_
 ·refine cb H (fun h15 H => ?_) fun h15 H => ?_
  ·refine rn [2] 0 [] [] ?_
   refine Tri.ret ?_
   obtain rfl := si H;exact eR
  refine sk ?_
  refine jr H (fun _ => ⟨37, [], [], 0, []⟩) (fun _ H => ?_) fun v31 h30 H => ?_
  ·refine rn [2] 0 [] [] ?_
   refine Tri.ret ?_
   obtain rfl := si H;exact eR
  refine rn [1, 3] 1 [] [] ?_
  refine bl ?_
  refine lo Int k (fun k x => spec_l02Right.l2 k a0 rec_spec_l02Right x) (fun x => ⟨37, [(1, o1 (.ref 0 0)), (3, oI x)], [vSNode a0], 0, []⟩) 0 h30 fun k z22 h30 IH29 => ?_
  rw [spec_l02Right.l2.eq_2] at h30
  refine sq ?_
  refine rn [1, 3, 27] 1 [] [hL 3 eSNode a0.f4] ?_
  refine ci h30 (fun h23 h30 => ?_) fun h23 h30 => ?_
  ·refine sk ?_
   refine sq ?_
   refine bl ?_
   obtain ⟨x24, h25, h30⟩ := bs h30
   obtain ⟨r26, h27, h30⟩ := bs h30
   refine rn [1, 3, 36] 1 [] [hEv 3 eSNode_v h25, hC 5 (ih_spec_l02Right h27)] ?_
   refine cm h30 (fun h28 h30 => ?_) fun h28 h30 => ?_
   ·refine sk ?_
    refine rl [1, 3] 1 [] [] ?_
    exact lb IH29 (w64 (z22 + 1)) h30
   refine rn [2] 0 [] [] ?_
   refine Tri.ret ?_
   obtain rfl := si h30;obtain rfl := si H;exact eR
  refine fx [] 0 [] ?_
  refine xi ?_
  exact pe () h30
 obtain ⟨r1, h2, h13⟩ := bs h13
 rcases iteb_some h13 with ⟨h3, h13⟩ | ⟨h3, h13⟩
 ·obtain ⟨r4, h5, h13⟩ := bs h13
  rcases iteb_some h13 with ⟨h6, h13⟩ | ⟨h6, h13⟩
  ·obtain ⟨r7, h8, h13⟩ := bs h13
   rcases iteb_some h13 with ⟨h9, h13⟩ | ⟨h9, h13⟩
   ·obtain ⟨r10, h11, h13⟩ := bs h13
    refine rl [1, 22] 1 [] [hC 2 (spec_l01In.fn h2), hB 2 h3, hC 6 (spec_l02Names.fn h5), hB 6 h6, hC 11 (spec_l02Number.fn h8), hB 11 h9, hC 16 (spec_l02Kids.fn h11)] ?_
    exact pf (!r10) h13
   refine rl [1, 22] 1 [] [hC 2 (spec_l01In.fn h2), hB 2 h3, hC 6 (spec_l02Names.fn h5), hB 6 h6, hC 11 (spec_l02Number.fn h8), hB 11 h9] ?_
   exact pf true h13
  refine rl [1, 22] 1 [] [hC 2 (spec_l01In.fn h2), hB 2 h3, hC 6 (spec_l02Names.fn h5), hB 6 h6] ?_
  exact pf true h13
 refine rl [1, 22] 1 [] [hC 2 (spec_l01In.fn h2), hB 2 h3] ?_
 exact pf true h13
/-! spec_TreeOK: function 9 -/
def spec_TreeOK.e1 (k : Nat) (a0 : SNode) : Option Bool := if a0.f0 = 1 then ((spec_l02Left.f k a0 700 1).bind fun r2 => if (0 : Int) ≤ r2 then ((spec_l02Right.f k a0).bind fun r5 => some r5) else (some false)) else (some false)
def spec_TreeOK.f (k : Nat) (a0 : SNode) : Option Bool := (spec_TreeOK.e1 k a0).bind fun y7 => some y7
theorem spec_TreeOK.fn {k : Nat} {a0 : SNode} {r : Bool} (H : spec_TreeOK.f k a0 = some r) : Fn Tryd.prog 9 [ag (vSNode a0)] [] (oB r) [] := by
 refine Fn.bd [2] Tryd.func9 ?_
 refine rn [1] 1 [] [] ?_
 refine jo H (fun y7 => ⟨15, [(2, oB y7)], [], 0, []⟩) (fun y7 H => ?_) fun v9 h8 H => ?_
 ·refine Tri.ret ?_
  obtain rfl := si H;exact eR
 rcases ite_some h8 with ⟨h1, h8⟩ | ⟨h1, h8⟩
 ·obtain ⟨r2, h3, h8⟩ := bs h8
  rcases ite_some h8 with ⟨h4, h8⟩ | ⟨h4, h8⟩
  ·obtain ⟨r5, h6, h8⟩ := bs h8
   refine rl [2] 0 [] [hB 2 (decide_eq_true h1), hC 5 (spec_l02Left.fn h3), hB 6 (decide_eq_true h4), hC 10 (spec_l02Right.fn h6)] ?_
   exact pf r5 h8
  refine rl [2] 0 [] [hB 2 (decide_eq_true h1), hC 5 (spec_l02Left.fn h3), hB 6 (decide_eq_false h4)] ?_
  exact pf false h8
 refine rl [2] 0 [] [hB 2 (decide_eq_false h1)] ?_
 exact pf false h8
/-! impl_within: function 38 -/
def impl_within.e1 (k : Nat) (a0 : Int) (a1 : Int) (a2 : Int) : Option Bool := if a1 ≤ a0 then (some (decide (a0 ≤ a2))) else (some false)
def impl_within.f (k : Nat) (a0 : Int) (a1 : Int) (a2 : Int) : Option Bool := (impl_within.e1 k a0 a1 a2).bind fun y2 => some y2
theorem impl_within.fn {k : Nat} {a0 : Int} {a1 : Int} {a2 : Int} {r : Bool} (H : impl_within.f k a0 a1 a2 = some r) : Fn Tryd.prog 38 [oI a0, oI a1, oI a2] [] (oB r) [] := by
 refine Fn.bd [6] Tryd.func38 ?_
 refine rn [0, 1, 2] 0 [] [] ?_
 refine jo H (fun y2 => ⟨15, [(6, oB y2)], [], 0, []⟩) (fun y2 H => ?_) fun v4 h3 H => ?_
 ·refine Tri.ret ?_
  obtain rfl := si H;exact eR
 rcases ite_some h3 with ⟨h1, h3⟩ | ⟨h1, h3⟩
 ·refine rl [6] 0 [] [hB 2 (decide_eq_true h1)] ?_
  exact pf (decide (a0 ≤ a2)) h3
 refine rl [6] 0 [] [hB 2 (decide_eq_false h1)] ?_
 exact pf false h3
/-! impl_isType: function 69 -/
def impl_isType.f (k : Nat) (a0 : Int) : Option Bool := (impl_within.f k a0 1 3).bind fun r1 => some r1
theorem impl_isType.fn {k : Nat} {a0 : Int} {r : Bool} (H : impl_isType.f k a0 = some r) : Fn Tryd.prog 69 [oI a0] [] (oB r) [] := by
 refine Fn.bd [2] Tryd.func69 ?_
 refine rn [0] 0 [] [] ?_
 obtain ⟨r1, h2, H⟩ := bs H
 refine rn [2] 0 [] [hC 1 (impl_within.fn h2)] ?_
 refine Tri.ret ?_
 obtain rfl := si H;exact eR
/-! impl_CharOK: function 20 -/
def impl_CharOK.e1 (k : Nat) (a0 : Int) : Option Bool := (impl_within.f k a0 0 1114111).bind fun r1 => if r1 = true then ((impl_within.f k a0 55296 57343).bind fun r4 => some (!r4)) else (some false)
def impl_CharOK.f (k : Nat) (a0 : Int) : Option Bool := (impl_CharOK.e1 k a0).bind fun y6 => some y6
theorem impl_CharOK.fn {k : Nat} {a0 : Int} {r : Bool} (H : impl_CharOK.f k a0 = some r) : Fn Tryd.prog 20 [oI a0] [] (oB r) [] := by
 refine Fn.bd [2] Tryd.func20 ?_
 refine rn [0] 0 [] [] ?_
 refine jo H (fun y6 => ⟨10, [(2, oB y6)], [], 0, []⟩) (fun y6 H => ?_) fun v8 h7 H => ?_
 ·refine Tri.ret ?_
  obtain rfl := si H;exact eR
 obtain ⟨r1, h2, h7⟩ := bs h7
 rcases iteb_some h7 with ⟨h3, h7⟩ | ⟨h3, h7⟩
 ·obtain ⟨r4, h5, h7⟩ := bs h7
  refine rl [2] 0 [] [hC 1 (impl_within.fn h2), hB 1 h3, hC 4 (impl_within.fn h5)] ?_
  exact pf (!r4) h7
 refine rl [2] 0 [] [hC 1 (impl_within.fn h2), hB 1 h3] ?_
 exact pf false h7
/-! impl_Node__hasN: function 45 -/
def impl_Node__hasN.e1 (k : Nat) (a0 : SNode) : Option Bool := if a0.f0 = 3 then (some (decide (a0.f0 = 3))) else (if a0.f0 = 4 then (some (decide (a0.f0 = 4))) else (if a0.f0 = 5 then (some (decide (a0.f0 = 5))) else (if a0.f0 = 6 then (some (decide (a0.f0 = 6))) else (some (decide (a0.f0 = 20))))))
def impl_Node__hasN.f (k : Nat) (a0 : SNode) : Option Bool := (impl_Node__hasN.e1 k a0).bind fun y5 => if y5 = true then ((impl_within.f k a0.f1 0 1).bind fun r9 => some r9) else (if a0.f0 = 7 then ((impl_within.f k a0.f1 0 3).bind fun r12 => some r12) else (if a0.f0 = 8 then ((impl_isType.f k a0.f1).bind fun r15 => some r15) else (if a0.f0 = 9 then ((impl_within.f k a0.f1 1 100).bind fun r18 => some r18) else (if a0.f0 = 18 then ((impl_within.f k a0.f1 0 999999999999999999).bind fun r21 => some r21) else (if a0.f0 = 19 then ((impl_CharOK.f k a0.f1).bind fun r24 => some r24) else (some (decide (a0.f1 = 0))))))))
theorem impl_Node__hasN.fn {k : Nat} {a0 : SNode} {r : Bool} (H : impl_Node__hasN.f k a0 = some r) : Fn Tryd.prog 45 [ag (vSNode a0)] [] (oB r) [] := by
 refine Fn.bd [2] Tryd.func45 ?_
 refine rn [1] 1 [] [] ?_
 refine sq ?_
 refine rn [1, 4] 1 [] [] ?_
 refine bl ?_
 refine jo H (fun y5 => ⟨42, [(1, o1 (.ref 0 0)), (4, oI a0.f0), (5, oB y5)], [vSNode a0], 0, []⟩) (fun y5 H => ?_) fun v7 h6 H => ?_
 ·refine cb H (fun h8 H => ?_) fun h8 H => ?_
  ·obtain ⟨r9, h10, H⟩ := bs H
   refine rn [2] 0 [] [hC 2 (impl_within.fn h10)] ?_
   refine Tri.ret ?_
   obtain rfl := si H;exact eR
  refine rn [1, 4, 14] 1 [] [] ?_
  refine ci H (fun h11 H => ?_) fun h11 H => ?_
  ·obtain ⟨r12, h13, H⟩ := bs H
   refine rn [2] 0 [] [hC 2 (impl_within.fn h13)] ?_
   refine Tri.ret ?_
   obtain rfl := si H;exact eR
  refine rn [1, 4, 19] 1 [] [] ?_
  refine ci H (fun h14 H => ?_) fun h14 H => ?_
  ·obtain ⟨r15, h16, H⟩ := bs H
   refine rn [2] 0 [] [hC 2 (impl_isType.fn h16)] ?_
   refine Tri.ret ?_
   obtain rfl := si H;exact eR
  refine rn [1, 4, 24] 1 [] [] ?_
  refine ci H (fun h17 H => ?_) fun h17 H => ?_
  ·obtain ⟨r18, h19, H⟩ := bs H
   refine rn [2] 0 [] [hC 2 (impl_within.fn h19)] ?_
   refine Tri.ret ?_
   obtain rfl := si H;exact eR
  refine rn [1, 4, 29] 1 [] [] ?_
  refine ci H (fun h20 H => ?_) fun h20 H => ?_
  ·obtain ⟨r21, h22, H⟩ := bs H
   refine rn [2] 0 [] [hC 2 (impl_within.fn h22)] ?_
   refine Tri.ret ?_
   obtain rfl := si H;exact eR
  refine rn [1, 34] 1 [] [] ?_
  refine ci H (fun h23 H => ?_) fun h23 H => ?_
  ·obtain ⟨r24, h25, H⟩ := bs H
   refine rx [2] 0 [] [hC 2 (impl_CharOK.fn h25)] ⟨42, [(2, oB r24)], [], 0, []⟩ ?_
   refine Tri.ret ?_
   obtain rfl := si H;exact eR
  refine sk ?_
  refine rx [2] 0 [] [] ⟨42, [(2, oB (decide (a0.f1 = 0)))], [], 0, []⟩ ?_
  refine Tri.ret ?_
  obtain rfl := si H;exact eR
 refine rn [1, 4, 5] 1 [] [] ?_
 refine ci h6 (fun h1 h6 => ?_) fun h1 h6 => ?_
 ·refine sk ?_
  exact pf (decide (a0.f0 = 3)) h6
 refine rn [1, 4, 5] 1 [] [] ?_
 refine ci h6 (fun h2 h6 => ?_) fun h2 h6 => ?_
 ·refine sk ?_
  exact pf (decide (a0.f0 = 4)) h6
 refine rn [1, 4, 5] 1 [] [] ?_
 refine ci h6 (fun h3 h6 => ?_) fun h3 h6 => ?_
 ·refine sk ?_
  exact pf (decide (a0.f0 = 5)) h6
 refine rx [1, 4, 5] 1 [] [] ⟨42, [(1, o1 (.ref 0 0)), (4, oI a0.f0), (5, oB (decide (a0.f0 = 6)))], [vSNode a0], 0, []⟩ ?_
 refine ci h6 (fun h4 h6 => ?_) fun h4 h6 => ?_
 ·refine sk ?_
  exact pf (decide (a0.f0 = 6)) h6
 refine rl [1, 4, 5] 1 [] [] ?_
 exact pf (decide (a0.f0 = 20)) h6
/-! impl_isLetter: function 122 -/
def impl_isLetter.e1 (k : Nat) (a0 : Int) : Option Bool := if (97 : Int) ≤ a0 then (if a0 ≤ 122 then (some true) else (if (65 : Int) ≤ a0 then (if a0 ≤ 90 then (some true) else (some (decide (a0 = 95)))) else (some (decide (a0 = 95))))) else (if (65 : Int) ≤ a0 then (if a0 ≤ 90 then (some true) else (some (decide (a0 = 95)))) else (some (decide (a0 = 95))))
def impl_isLetter.f (k : Nat) (a0 : Int) : Option Bool := (impl_isLetter.e1 k a0).bind fun y7 => some y7
theorem impl_isLetter.fn {k : Nat} {a0 : Int} {r : Bool} (H : impl_isLetter.f k a0 = some r) : Fn Tryd.prog 122 [o1 (cK .u8 a0)] [] (oB r) [] := by
 refine Fn.bd [2] Tryd.func122 ?_
 refine rn [0] 0 [] [] ?_
 refine jo H (fun y7 => ⟨21, [(2, oB y7)], [], 0, []⟩) (fun y7 H => ?_) fun v9 h8 H => ?_
 ·refine Tri.ret ?_
  obtain rfl := si H;exact eR
 rcases ite_some h8 with ⟨h1, h8⟩ | ⟨h1, h8⟩
 ·rcases ite_some h8 with ⟨h2, h8⟩ | ⟨h2, h8⟩
  ·refine rl [2] 0 [] [hB 1 (decide_eq_true h1), hB 4 (decide_eq_true h2)] ?_
   exact pf true h8
  rcases ite_some h8 with ⟨h3, h8⟩ | ⟨h3, h8⟩
  ·rcases ite_some h8 with ⟨h4, h8⟩ | ⟨h4, h8⟩
   ·refine rl [2] 0 [] [hB 1 (decide_eq_true h1), hB 4 (decide_eq_false h2), hB 8 (decide_eq_true h3), hB 11 (decide_eq_true h4)] ?_
    exact pf true h8
   refine rl [2] 0 [] [hB 1 (decide_eq_true h1), hB 4 (decide_eq_false h2), hB 8 (decide_eq_true h3), hB 11 (decide_eq_false h4)] ?_
   exact pf (decide (a0 = 95)) h8
  refine rl [2] 0 [] [hB 1 (decide_eq_true h1), hB 4 (decide_eq_false h2), hB 8 (decide_eq_false h3)] ?_
  exact pf (decide (a0 = 95)) h8
 rcases ite_some h8 with ⟨h5, h8⟩ | ⟨h5, h8⟩
 ·rcases ite_some h8 with ⟨h6, h8⟩ | ⟨h6, h8⟩
  ·refine rl [2] 0 [] [hB 1 (decide_eq_false h1), hB 8 (decide_eq_true h5), hB 11 (decide_eq_true h6)] ?_
   exact pf true h8
  refine rl [2] 0 [] [hB 1 (decide_eq_false h1), hB 8 (decide_eq_true h5), hB 11 (decide_eq_false h6)] ?_
  exact pf (decide (a0 = 95)) h8
 refine rl [2] 0 [] [hB 1 (decide_eq_false h1), hB 8 (decide_eq_false h5)] ?_
 exact pf (decide (a0 = 95)) h8
/-! impl_isDigit: function 137 -/
def impl_isDigit.e1 (k : Nat) (a0 : Int) : Option Bool := if (48 : Int) ≤ a0 then (some (decide (a0 ≤ 57))) else (some false)
def impl_isDigit.f (k : Nat) (a0 : Int) : Option Bool := (impl_isDigit.e1 k a0).bind fun y2 => some y2
theorem impl_isDigit.fn {k : Nat} {a0 : Int} {r : Bool} (H : impl_isDigit.f k a0 = some r) : Fn Tryd.prog 137 [o1 (cK .u8 a0)] [] (oB r) [] := by
 refine Fn.bd [2] Tryd.func137 ?_
 refine rn [0] 0 [] [] ?_
 refine jo H (fun y2 => ⟨9, [(2, oB y2)], [], 0, []⟩) (fun y2 H => ?_) fun v4 h3 H => ?_
 ·refine Tri.ret ?_
  obtain rfl := si H;exact eR
 rcases ite_some h3 with ⟨h1, h3⟩ | ⟨h1, h3⟩
 ·refine rl [2] 0 [] [hB 1 (decide_eq_true h1)] ?_
  exact pf (decide (a0 ≤ 57)) h3
 refine rl [2] 0 [] [hB 1 (decide_eq_false h1)] ?_
 exact pf false h3
/-! impl_isWordByte: function 124 -/
def impl_isWordByte.e1 (k : Nat) (a0 : Int) : Option Bool := (impl_isLetter.f k a0).bind fun r1 => if r1 = true then (some true) else ((impl_isDigit.f k a0).bind fun r4 => some r4)
def impl_isWordByte.f (k : Nat) (a0 : Int) : Option Bool := (impl_isWordByte.e1 k a0).bind fun y6 => some y6
theorem impl_isWordByte.fn {k : Nat} {a0 : Int} {r : Bool} (H : impl_isWordByte.f k a0 = some r) : Fn Tryd.prog 124 [o1 (cK .u8 a0)] [] (oB r) [] := by
 refine Fn.bd [2] Tryd.func124 ?_
 refine rn [0] 0 [] [] ?_
 refine jo H (fun y6 => ⟨9, [(2, oB y6)], [], 0, []⟩) (fun y6 H => ?_) fun v8 h7 H => ?_
 ·refine Tri.ret ?_
  obtain rfl := si H;exact eR
 obtain ⟨r1, h2, h7⟩ := bs h7
 rcases iteb_some h7 with ⟨h3, h7⟩ | ⟨h3, h7⟩
 ·refine rl [2] 0 [] [hC 1 (impl_isLetter.fn h2), hB 1 h3] ?_
  exact pf true h7
 obtain ⟨r4, h5, h7⟩ := bs h7
 refine rl [2] 0 [] [hC 1 (impl_isLetter.fn h2), hB 1 h3, hC 4 (impl_isDigit.fn h5)] ?_
 exact pf r4 h7
/-! impl_areAll_byte__1_1: function 136 -/
def impl_areAll_byte__1_1.f (k : Nat) (a0 : Int) : Option Bool := (impl_isWordByte.f k a0).bind fun r1 => some (!r1)
theorem impl_areAll_byte__1_1.fn {k : Nat} {a0 : Int} {r : Bool} (H : impl_areAll_byte__1_1.f k a0 = some r) : Fn Tryd.prog 136 [o1 (cK .u8 a0), o1 (.cel ([.sc (.func (.func 124) #[] #[])]) 0)] [] (oB r) [] := by
 refine Fn.bd [3] Tryd.func136 ?_
 refine rn [0, 1] 0 [] [] ?_
 obtain ⟨r1, h2, H⟩ := bs H
 refine rn [3] 0 [] [hC 2 (impl_isWordByte.fn h2)] ?_
 refine Tri.ret ?_
 obtain rfl := si H;exact eR
/-! slices_IndexFunc___byte_byte_1: function 139 -/
def slices_IndexFunc___byte_byte_1.l1 : Nat → (List Int) → Int → Option (Int ⊕ Unit)
  | 0, _, _ => none
  | k + 1, a0, z7 => if z7 < (a0.length : Int) then ((at? a0 z7).bind fun x9 => (impl_areAll_byte__1_1.f k x9).bind fun r11 => if r11 = true then (some (.inl z7)) else (slices_IndexFunc___byte_byte_1.l1 k a0 (w64 (z7 + 1)))) else (some (.inr ()))
def slices_IndexFunc___byte_byte_1.e2 (k : Nat) (a0 : (List Int)) : Option (Int ⊕ Unit) := slices_IndexFunc___byte_byte_1.l1 k a0 0
def slices_IndexFunc___byte_byte_1.f (k : Nat) (a0 : (List Int)) : Option Int := (slices_IndexFunc___byte_byte_1.e2 k a0).bind fun v => match v with | .inl r => some r | .inr _ => some (-1)
theorem slices_IndexFunc___byte_byte_1.fn {k : Nat} {a0 : (List Int)} {r : Int} (H : slices_IndexFunc___byte_byte_1.f k a0 = some r) : Fn Tryd.prog 139 [o1 (.sl 1 (List.map (eK .u8) a0)), o1 (.fn 136 [.cel ([.sc (.func (.func 124) #[] #[])]) 0])] [] (oI r) [] := by
 refine Fn.bd [4] Tryd.func139 ?_
 refine rn [0, 1] 0 [] [] ?_
 refine jr H (fun _ => ⟨19, [], [], 0, []⟩) (fun _ H => ?_) fun v16 h15 H => ?_
 ·refine rn [4] 0 [] [] ?_
  refine Tri.ret ?_
  obtain rfl := si H;exact eR
 refine rn [0, 1, 7, 8] 0 [] [hL 1 (eK .u8) a0] ?_
 refine bl ?_
 refine lo Int k (fun k x => slices_IndexFunc___byte_byte_1.l1 k a0 x) (fun x => ⟨19, [(0, o1 (.sl 1 (List.map (eK .u8) a0))), (1, o1 (.fn 136 [.cel ([.sc (.func (.func 124) #[] #[])]) 0])), (7, oI (a0.length : Int)), (8, oI x)], [], 0, []⟩) 0 h15 fun k z7 h15 IH14 => ?_
 rw [slices_IndexFunc___byte_byte_1.l1.eq_2] at h15
 refine rn [0, 1, 7, 8, 9] 0 [] [] ?_
 refine sq ?_
 refine ci h15 (fun h8 h15 => ?_) fun h8 h15 => ?_
 ·refine sk ?_
  refine sq ?_
  refine bl ?_
  refine rn [0, 1, 5, 7, 8] 0 [] [] ?_
  obtain ⟨x9, h10, h15⟩ := bs h15
  obtain ⟨r11, h12, h15⟩ := bs h15
  refine rn [0, 1, 5, 7, 8, 16] 0 [] [hE 3 (eK .u8) h10, hC 5 (impl_areAll_byte__1_1.fn h12)] ?_
  refine cb h15 (fun h13 h15 => ?_) fun h13 h15 => ?_
  ·refine rn [4] 0 [] [] ?_
   refine Tri.ret ?_
   obtain rfl := si h15;obtain rfl := si H;exact eR
  refine sk ?_
  refine rl [0, 1, 7, 8] 0 [] [] ?_
  exact lb IH14 (w64 (z7 + 1)) h15
 refine fx [] 0 [] ?_
 refine xi ?_
 exact pe () h15
/-! slices_ContainsFunc___byte_byte_1: function 135 -/
def slices_ContainsFunc___byte_byte_1.f (k : Nat) (a0 : (List Int)) : Option Bool := (slices_IndexFunc___byte_byte_1.f k a0).bind fun r1 => some (decide ((0 : Int) ≤ r1))
theorem slices_ContainsFunc___byte_byte_1.fn {k : Nat} {a0 : (List Int)} {r : Bool} (H : slices_ContainsFunc___byte_byte_1.f k a0 = some r) : Fn Tryd.prog 135 [o1 (.sl 1 (List.map (eK .u8) a0)), o1 (.fn 136 [.cel ([.sc (.func (.func 124) #[] #[])]) 0])] [] (oB r) [] := by
 refine Fn.bd [4] Tryd.func135 ?_
 refine rn [0, 1] 0 [] [] ?_
 obtain ⟨r1, h2, H⟩ := bs H
 refine rn [4] 0 [] [hC 2 (slices_IndexFunc___byte_byte_1.fn h2)] ?_
 refine Tri.ret ?_
 obtain rfl := si H;exact eR
/-! impl_areAll_byte_1: function 123 -/
def impl_areAll_byte_1.f (k : Nat) (a0 : (List Int)) : Option Bool := (slices_ContainsFunc___byte_byte_1.f k a0).bind fun r1 => some (!r1)
theorem impl_areAll_byte_1.fn {k : Nat} {a0 : (List Int)} {r : Bool} (H : impl_areAll_byte_1.f k a0 = some r) : Fn Tryd.prog 123 [o1 (.sl 1 (List.map (eK .u8) a0)), o1 (.sc (.func (.func 124) #[] #[]))] [] (oB r) [] := by
 refine Fn.bd [4] Tryd.func123 ?_
 refine rn [0, 3] 1 [] [] ?_
 obtain ⟨r1, h2, H⟩ := bs H
 refine rn [4] 0 [] [hC 2 (slices_ContainsFunc___byte_byte_1.fn h2)] ?_
 refine Tri.ret ?_
 obtain rfl := si H;exact eR
/-! impl_NameOK: function 102 -/
def impl_NameOK.e1 (k : Nat) (a0 : ByteArray) : Option Bool := (impl_within.f k (a0.size : Int) 1 40).bind fun r1 => if r1 = true then (if (0 : Int) ≤ 0 then (if 0 < (a0.size : Int) then ((impl_isLetter.f k (byteAt a0 0)).bind fun r6 => if r6 = true then ((impl_areAll_byte_1.f k (bytesOf a0)).bind fun r9 => some r9) else (some false)) else none) else none) else (some false)
def impl_NameOK.f (k : Nat) (a0 : ByteArray) : Option Bool := (impl_NameOK.e1 k a0).bind fun y11 => some y11
theorem impl_NameOK.fn {k : Nat} {a0 : ByteArray} {r : Bool} (H : impl_NameOK.f k a0 = some r) : Fn Tryd.prog 102 [oS a0] [] (oB r) [] := by
 refine Fn.bd [2] Tryd.func102 ?_
 refine rn [0] 0 [] [] ?_
 refine jo H (fun y11 => ⟨16, [(2, oB y11)], [], 0, []⟩) (fun y11 H => ?_) fun v13 h12 H => ?_
 ·refine Tri.ret ?_
  obtain rfl := si H;exact eR
 obtain ⟨r1, h2, h12⟩ := bs h12
 rcases iteb_some h12 with ⟨h3, h12⟩ | ⟨h3, h12⟩
 ·obtain ⟨h4, h12⟩ := nd h12
  obtain ⟨h5, h12⟩ := nd h12
  obtain ⟨r6, h7, h12⟩ := bs h12
  rcases iteb_some h12 with ⟨h8, h12⟩ | ⟨h8, h12⟩
  ·obtain ⟨r9, h10, h12⟩ := bs h12
   refine rl [2] 0 [] [hC 2 (impl_within.fn h2), hB 2 h3, p2 h4 h5, hC 6 (impl_isLetter.fn h7), hB 6 h8, hC 11 (impl_areAll_byte_1.fn h10)] ?_
   exact pf r9 h12
  refine rl [2] 0 [] [hC 2 (impl_within.fn h2), hB 2 h3, p2 h4 h5, hC 6 (impl_isLetter.fn h7), hB 6 h8] ?_
  exact pf false h12
 refine rl [2] 0 [] [hC 2 (impl_within.fn h2), hB 2 h3] ?_
 exact pf false h12
/-! impl_keys: function 125 -/
def impl_keys.f (k : Nat) : Option (List ByteArray) := (strings_Fields.f k (⟨#[77, 79, 68, 85, 76, 69, 32, 73, 77, 80, 79, 82, 84, 32, 67, 79, 78, 83, 84, 32, 86, 65, 82, 32, 80, 82, 79, 67, 69, 68, 85, 82, 69, 32, 66, 69, 71, 73, 78, 32, 69, 78, 68, 32, 73, 70, 32, 84, 72, 69, 78, 32, 69, 76, 83, 73, 70, 32, 69, 76, 83, 69, 32, 87, 72, 73, 76, 69, 32, 68, 79, 32, 82, 69, 84, 85, 82, 78, 32, 79, 82, 32, 68, 73, 86, 32, 77, 79, 68, 32, 84, 82, 85, 69, 32, 70, 65, 76, 83, 69, 32, 65, 82, 82, 65, 89, 32, 79, 70, 32, 73, 78, 84, 69, 71, 69, 82, 32, 66, 79, 79, 76, 69, 65, 78, 32, 67, 72, 65, 82, 32, 87, 82, 73, 84, 69, 32, 82, 69, 65, 68, 32, 79, 82, 68, 32, 67, 72, 82, 32, 76, 69, 78]⟩ : ByteArray)).bind fun r1 => some r1
theorem impl_keys.fn {k : Nat} {r : (List ByteArray)} (H : impl_keys.f k  = some r) : Fn Tryd.prog 125 [] [] (o1 (.own 9 (List.map eS r))) [] := by
 refine Fn.bd [0] Tryd.func125 ?_
 refine rn [] 0 [] [] ?_
 obtain ⟨r1, h2, H⟩ := bs H
 refine rn [0] 0 [] [hC 0 (strings_Fields.fn k (⟨#[77, 79, 68, 85, 76, 69, 32, 73, 77, 80, 79, 82, 84, 32, 67, 79, 78, 83, 84, 32, 86, 65, 82, 32, 80, 82, 79, 67, 69, 68, 85, 82, 69, 32, 66, 69, 71, 73, 78, 32, 69, 78, 68, 32, 73, 70, 32, 84, 72, 69, 78, 32, 69, 76, 83, 73, 70, 32, 69, 76, 83, 69, 32, 87, 72, 73, 76, 69, 32, 68, 79, 32, 82, 69, 84, 85, 82, 78, 32, 79, 82, 32, 68, 73, 86, 32, 77, 79, 68, 32, 84, 82, 85, 69, 32, 70, 65, 76, 83, 69, 32, 65, 82, 82, 65, 89, 32, 79, 70, 32, 73, 78, 84, 69, 71, 69, 82, 32, 66, 79, 79, 76, 69, 65, 78, 32, 67, 72, 65, 82, 32, 87, 82, 73, 84, 69, 32, 82, 69, 65, 68, 32, 79, 82, 68, 32, 67, 72, 82, 32, 76, 69, 78]⟩ : ByteArray) r1 h2) (show (List.all [.own 9 (List.map eS r1)] PC.flatB) = true by simp [PC.flatB, PC.scalar, cI, cK, cB, cS, eS])] ?_
 refine Tri.ret ?_
 obtain rfl := si H;exact eR
/-! slices_Index___string_string: function 104 -/
def slices_Index___string_string.l1 : Nat → (List ByteArray) → ByteArray → Int → Option (Int ⊕ Unit)
  | 0, _, _, _ => none
  | k + 1, a0, a1, z5 => if z5 < (a0.length : Int) then ((at? a0 z5).bind fun x7 => if a1 = x7 then (some (.inl z5)) else (slices_Index___string_string.l1 k a0 a1 (w64 (z5 + 1)))) else (some (.inr ()))
def slices_Index___string_string.e2 (k : Nat) (a0 : (List ByteArray)) (a1 : ByteArray) : Option (Int ⊕ Unit) := slices_Index___string_string.l1 k a0 a1 0
def slices_Index___string_string.f (k : Nat) (a0 : (List ByteArray)) (a1 : ByteArray) : Option Int := (slices_Index___string_string.e2 k a0 a1).bind fun v => match v with | .inl r => some r | .inr _ => some (-1)
theorem slices_Index___string_string.fn {k : Nat} {a0 : (List ByteArray)} {a1 : ByteArray} {r : Int} (H : slices_Index___string_string.f k a0 a1 = some r) : Fn Tryd.prog 104 [o1 (.sl 1 (List.map eS a0)), oS a1] [] (oI r) [] := by
 refine Fn.bd [4] Tryd.func104 ?_
 refine rn [0, 1] 0 [] [] ?_
 refine jr H (fun _ => ⟨19, [], [], 0, []⟩) (fun _ H => ?_) fun v12 h11 H => ?_
 ·refine rn [4] 0 [] [] ?_
  refine Tri.ret ?_
  obtain rfl := si H;exact eR
 refine rn [0, 1, 7, 8] 0 [] [hL 1 eS a0] ?_
 refine bl ?_
 refine lo Int k (fun k x => slices_Index___string_string.l1 k a0 a1 x) (fun x => ⟨19, [(0, o1 (.sl 1 (List.map eS a0))), (1, oS a1), (7, oI (a0.length : Int)), (8, oI x)], [], 0, []⟩) 0 h11 fun k z5 h11 IH10 => ?_
 rw [slices_Index___string_string.l1.eq_2] at h11
 refine rn [0, 1, 7, 8, 9] 0 [] [] ?_
 refine sq ?_
 refine ci h11 (fun h6 h11 => ?_) fun h6 h11 => ?_
 ·refine sk ?_
  refine sq ?_
  refine bl ?_
  refine rn [0, 1, 5, 7, 8] 0 [] [] ?_
  obtain ⟨x7, h8, h11⟩ := bs h11
  refine rn [0, 1, 5, 7, 8, 16] 0 [] [hE 3 eS h8] ?_
  refine ci h11 (fun h9 h11 => ?_) fun h9 h11 => ?_
  ·refine rn [4] 0 [] [] ?_
   refine Tri.ret ?_
   obtain rfl := si h11;obtain rfl := si H;exact eR
  refine sk ?_
  refine rl [0, 1, 7, 8] 0 [] [] ?_
  exact lb IH10 (w64 (z5 + 1)) h11
 refine fx [] 0 [] ?_
 refine xi ?_
 exact pe () h11
/-! slices_Contains___string_string: function 71 -/
def slices_Contains___string_string.f (k : Nat) (a0 : (List ByteArray)) (a1 : ByteArray) : Option Bool := (slices_Index___string_string.f k a0 a1).bind fun r1 => some (decide ((0 : Int) ≤ r1))
theorem slices_Contains___string_string.fn {k : Nat} {a0 : (List ByteArray)} {a1 : ByteArray} {r : Bool} (H : slices_Contains___string_string.f k a0 a1 = some r) : Fn Tryd.prog 71 [o1 (.sl 1 (List.map eS a0)), oS a1] [] (oB r) [] := by
 refine Fn.bd [4] Tryd.func71 ?_
 refine rn [0, 1] 0 [] [] ?_
 obtain ⟨r1, h2, H⟩ := bs H
 refine rn [4] 0 [] [hC 2 (slices_Index___string_string.fn h2)] ?_
 refine Tri.ret ?_
 obtain rfl := si H;exact eR
/-! impl_IsKey: function 103 -/
def impl_IsKey.f (k : Nat) (a0 : ByteArray) : Option Bool := (impl_keys.f k).bind fun r1 => (slices_Contains___string_string.f k r1 a0).bind fun r3 => some r3
theorem impl_IsKey.fn {k : Nat} {a0 : ByteArray} {r : Bool} (H : impl_IsKey.f k a0 = some r) : Fn Tryd.prog 103 [oS a0] [] (oB r) [] := by
 refine Fn.bd [2] Tryd.func103 ?_
 refine rn [0] 0 [] [] ?_
 obtain ⟨r1, h2, H⟩ := bs H
 obtain ⟨r3, h4, H⟩ := bs H
 refine rn [2] 0 [] [hC 0 (impl_keys.fn h2) (show (List.all [.own 9 (List.map eS r1)] PC.flatB) = true by simp [PC.flatB, PC.scalar, cI, cK, cB, cS, eS]), hC 2 (slices_Contains___string_string.fn h4)] ?_
 refine Tri.ret ?_
 obtain rfl := si H;exact eR
/-! impl_isName: function 70 -/
def impl_isName.e1 (k : Nat) (a0 : ByteArray) : Option Bool := (impl_NameOK.f k a0).bind fun r1 => if r1 = true then ((impl_IsKey.f k a0).bind fun r4 => some (!r4)) else (some false)
def impl_isName.f (k : Nat) (a0 : ByteArray) : Option Bool := (impl_isName.e1 k a0).bind fun y6 => some y6
theorem impl_isName.fn {k : Nat} {a0 : ByteArray} {r : Bool} (H : impl_isName.f k a0 = some r) : Fn Tryd.prog 70 [oS a0] [] (oB r) [] := by
 refine Fn.bd [2] Tryd.func70 ?_
 refine rn [0] 0 [] [] ?_
 refine jo H (fun y6 => ⟨10, [(2, oB y6)], [], 0, []⟩) (fun y6 H => ?_) fun v8 h7 H => ?_
 ·refine Tri.ret ?_
  obtain rfl := si H;exact eR
 obtain ⟨r1, h2, h7⟩ := bs h7
 rcases iteb_some h7 with ⟨h3, h7⟩ | ⟨h3, h7⟩
 ·obtain ⟨r4, h5, h7⟩ := bs h7
  refine rl [2] 0 [] [hC 1 (impl_NameOK.fn h2), hB 1 h3, hC 4 (impl_IsKey.fn h5)] ?_
  exact pf (!r4) h7
 refine rl [2] 0 [] [hC 1 (impl_NameOK.fn h2), hB 1 h3] ?_
 exact pf false h7
/-! impl_binaries: function 72 -/
def impl_binaries.f (k : Nat) : Option (List ByteArray) := (strings_Fields.f k (⟨#[43, 32, 45, 32, 42, 32, 68, 73, 86, 32, 77, 79, 68, 32, 61, 32, 35, 32, 60, 32, 60, 61, 32, 62, 32, 62, 61, 32, 38, 32, 79, 82]⟩ : ByteArray)).bind fun r1 => some r1
theorem impl_binaries.fn {k : Nat} {r : (List ByteArray)} (H : impl_binaries.f k  = some r) : Fn Tryd.prog 72 [] [] (o1 (.own 9 (List.map eS r))) [] := by
 refine Fn.bd [0] Tryd.func72 ?_
 refine rn [] 0 [] [] ?_
 obtain ⟨r1, h2, H⟩ := bs H
 refine rn [0] 0 [] [hC 0 (strings_Fields.fn k (⟨#[43, 32, 45, 32, 42, 32, 68, 73, 86, 32, 77, 79, 68, 32, 61, 32, 35, 32, 60, 32, 60, 61, 32, 62, 32, 62, 61, 32, 38, 32, 79, 82]⟩ : ByteArray) r1 h2) (show (List.all [.own 9 (List.map eS r1)] PC.flatB) = true by simp [PC.flatB, PC.scalar, cI, cK, cB, cS, eS])] ?_
 refine Tri.ret ?_
 obtain rfl := si H;exact eR
/-! impl_Node__hasNames: function 46 -/
def impl_Node__hasNames.e1 (k : Nat) (a0 : SNode) : Option Bool := if a0.f0 = 1 then (some (decide (a0.f0 = 1))) else (if a0.f0 = 2 then (some (decide (a0.f0 = 2))) else (if a0.f0 = 3 then (some (decide (a0.f0 = 3))) else (if a0.f0 = 4 then (some (decide (a0.f0 = 4))) else (if a0.f0 = 5 then (some (decide (a0.f0 = 5))) else (some (decide (a0.f0 = 6)))))))
def impl_Node__hasNames.e2 (k : Nat) (a0 : SNode) : Option Bool := (impl_isName.f k a0.f2).bind fun r10 => if r10 = true then (some (decide (a0.f3 = (⟨#[]⟩ : ByteArray)))) else (some false)
def impl_Node__hasNames.e3 (k : Nat) (a0 : SNode) : Option Bool := if a0.f0 = 12 then (some (decide (a0.f0 = 12))) else (some (decide (a0.f0 = 21)))
def impl_Node__hasNames.e4 (k : Nat) (a0 : SNode) : Option Bool := (impl_isName.f k a0.f2).bind fun r21 => if r21 = true then (if a0.f3 = (⟨#[]⟩ : ByteArray) then (some true) else ((impl_isName.f k a0.f3).bind fun r25 => some r25)) else (some false)
def impl_Node__hasNames.e5 (k : Nat) (a0 : SNode) : Option Bool := if a0.f2 = (⟨#[45]⟩ : ByteArray) then (some (decide (a0.f3 = (⟨#[]⟩ : ByteArray)))) else (if a0.f2 = (⟨#[126]⟩ : ByteArray) then (some (decide (a0.f3 = (⟨#[]⟩ : ByteArray)))) else (some false))
def impl_Node__hasNames.e6 (k : Nat) (a0 : SNode) : Option Bool := (impl_binaries.f k).bind fun r37 => (slices_Contains___string_string.f k r37 a0.f2).bind fun r39 => if r39 = true then (some (decide (a0.f3 = (⟨#[]⟩ : ByteArray)))) else (some false)
def impl_Node__hasNames.e7 (k : Nat) (a0 : SNode) : Option Bool := if a0.f2 = (⟨#[]⟩ : ByteArray) then (some (decide (a0.f3 = (⟨#[]⟩ : ByteArray)))) else (some false)
def impl_Node__hasNames.f (k : Nat) (a0 : SNode) : Option Bool := (impl_Node__hasNames.e1 k a0).bind fun y6 => if y6 = true then ((impl_Node__hasNames.e2 k a0).bind fun y13 => some y13) else ((impl_Node__hasNames.e3 k a0).bind fun y17 => if y17 = true then ((impl_Node__hasNames.e4 k a0).bind fun y27 => some y27) else (if a0.f0 = 23 then ((impl_Node__hasNames.e5 k a0).bind fun y33 => some y33) else (if a0.f0 = 24 then ((impl_Node__hasNames.e6 k a0).bind fun y42 => some y42) else ((impl_Node__hasNames.e7 k a0).bind fun y46 => some y46))))
theorem impl_Node__hasNames.fn {k : Nat} {a0 : SNode} {r : Bool} (H : impl_Node__hasNames.f k a0 = some r) : Fn Tryd.prog 46 [ag (vSNode a0)] [] (oB r) [] := by
 refine Fn.bd [2] Tryd.func46 ?_
 refine rn [1] 1 [] [] ?_
 refine sq ?_
 refine rn [1, 4] 1 [] [] ?_
 refine bl ?_
 refine jo H (fun y6 => ⟨70, [(1, o1 (.ref 0 0)), (4, oI a0.f0), (5, oB y6)], [vSNode a0], 0, []⟩) (fun y6 H => ?_) fun v8 h7 H => ?_
 ·refine cb H (fun h9 H => ?_) fun h9 H => ?_
  ·refine jo H (fun y13 => ⟨70, [(2, oB y13)], [], 0, []⟩) (fun y13 H => ?_) fun v15 h14 H => ?_
   ·refine Tri.ret ?_
    obtain rfl := si H;exact eR
   obtain ⟨r10, h11, h14⟩ := bs h14
   rcases iteb_some h14 with ⟨h12, h14⟩ | ⟨h12, h14⟩
   ·refine rl [2] 0 [] [hC 2 (impl_isName.fn h11), hB 2 h12] ?_
    exact pf (decide (a0.f3 = (⟨#[]⟩ : ByteArray))) h14
   refine rl [2] 0 [] [hC 2 (impl_isName.fn h11), hB 2 h12] ?_
   exact pf false h14
  refine jo H (fun y17 => ⟨70, [(1, o1 (.ref 0 0)), (4, oI a0.f0), (20, oB y17)], [vSNode a0], 0, []⟩) (fun y17 H => ?_) fun v19 h18 H => ?_
  ·refine cb H (fun h20 H => ?_) fun h20 H => ?_
   ·refine jo H (fun y27 => ⟨70, [(2, oB y27)], [], 0, []⟩) (fun y27 H => ?_) fun v29 h28 H => ?_
    ·refine Tri.ret ?_
     obtain rfl := si H;exact eR
    obtain ⟨r21, h22, h28⟩ := bs h28
    rcases iteb_some h28 with ⟨h23, h28⟩ | ⟨h23, h28⟩
    ·rcases ite_some h28 with ⟨h24, h28⟩ | ⟨h24, h28⟩
     ·refine rl [2] 0 [] [hC 2 (impl_isName.fn h22), hB 2 h23, hB 6 (decide_eq_true h24)] ?_
      exact pf true h28
     obtain ⟨r25, h26, h28⟩ := bs h28
     refine rl [2] 0 [] [hC 2 (impl_isName.fn h22), hB 2 h23, hB 6 (decide_eq_false h24), hC 10 (impl_isName.fn h26)] ?_
     exact pf r25 h28
    refine rl [2] 0 [] [hC 2 (impl_isName.fn h22), hB 2 h23] ?_
    exact pf false h28
   refine rn [1, 4, 36] 1 [] [] ?_
   refine ci H (fun h30 H => ?_) fun h30 H => ?_
   ·refine jo H (fun y33 => ⟨70, [(2, oB y33)], [], 0, []⟩) (fun y33 H => ?_) fun v35 h34 H => ?_
    ·refine Tri.ret ?_
     obtain rfl := si H;exact eR
    rcases ite_some h34 with ⟨h31, h34⟩ | ⟨h31, h34⟩
    ·refine rl [2] 0 [] [hB 2 (decide_eq_true h31)] ?_
     exact pf (decide (a0.f3 = (⟨#[]⟩ : ByteArray))) h34
    rcases ite_some h34 with ⟨h32, h34⟩ | ⟨h32, h34⟩
    ·refine rl [2] 0 [] [hB 2 (decide_eq_false h31), hB 6 (decide_eq_true h32)] ?_
     exact pf (decide (a0.f3 = (⟨#[]⟩ : ByteArray))) h34
    refine rl [2] 0 [] [hB 2 (decide_eq_false h31), hB 6 (decide_eq_false h32)] ?_
    exact pf false h34
   refine rn [1, 51] 1 [] [] ?_
   refine ci H (fun h36 H => ?_) fun h36 H => ?_
   ·refine jo H (fun y42 => ⟨70, [(2, oB y42)], [], 0, []⟩) (fun y42 H => ?_) fun v44 h43 H => ?_
    ·refine Tri.ret ?_
     obtain rfl := si H;exact eR
    obtain ⟨r37, h38, h43⟩ := bs h43
    obtain ⟨r39, h40, h43⟩ := bs h43
    rcases iteb_some h43 with ⟨h41, h43⟩ | ⟨h41, h43⟩
    ·refine dl hmix 3 [[], [], [1], [0, 1, 2], [0, 1, 2, 3], [0, 1, 2, 3, 4], [0, 1, 2, 3, 4, 5], [0, 1, 2, 3, 4, 5, 6], [0, 1, 2, 3, 4, 5, 6, 7], [0, 1, 2, 3, 4, 5, 6, 7, 8]] [2] 0 [] [hC 0 (impl_binaries.fn h38) (show (List.all [.own 9 (List.map eS r37)] PC.flatB) = true by simp [PC.flatB, PC.scalar, cI, cK, cB, cS, eS]), hC 3 (slices_Contains___string_string.fn h40), hB 3 h41] ?_
     exact pf (decide (a0.f3 = (⟨#[]⟩ : ByteArray))) h43
    refine dl hmix 3 [[], [], [1], [0, 1, 2], [0, 1, 2, 3], [0, 1, 2, 3, 4], [0, 1, 2, 3, 4, 5], [0, 1, 2, 3, 4, 5, 6], [0, 1, 2, 3, 4, 5, 6, 7], [0, 1, 2, 3, 4, 5, 6, 7, 8]] [2] 0 [] [hC 0 (impl_binaries.fn h38) (show (List.all [.own 9 (List.map eS r37)] PC.flatB) = true by simp [PC.flatB, PC.scalar, cI, cK, cB, cS, eS]), hC 3 (slices_Contains___string_string.fn h40), hB 3 h41] ?_
    exact pf false h43
   refine sk ?_
   refine jo H (fun y46 => ⟨70, [(2, oB y46)], [], 0, []⟩) (fun y46 H => ?_) fun v48 h47 H => ?_
   ·refine Tri.ret ?_
    obtain rfl := si H;exact eR
   rcases ite_some h47 with ⟨h45, h47⟩ | ⟨h45, h47⟩
   ·refine rl [2] 0 [] [hB 2 (decide_eq_true h45)] ?_
    exact pf (decide (a0.f3 = (⟨#[]⟩ : ByteArray))) h47
   refine rl [2] 0 [] [hB 2 (decide_eq_false h45)] ?_
   exact pf false h47
  refine rn [1, 4, 20] 1 [] [] ?_
  refine ci h18 (fun h16 h18 => ?_) fun h16 h18 => ?_
  ·refine sk ?_
   exact pf (decide (a0.f0 = 12)) h18
  refine rl [1, 4, 20] 1 [] [] ?_
  exact pf (decide (a0.f0 = 21)) h18
 refine rn [1, 4, 5] 1 [] [] ?_
 refine ci h7 (fun h1 h7 => ?_) fun h1 h7 => ?_
 ·refine sk ?_
  exact pf (decide (a0.f0 = 1)) h7
 refine rn [1, 4, 5] 1 [] [] ?_
 refine ci h7 (fun h2 h7 => ?_) fun h2 h7 => ?_
 ·refine sk ?_
  exact pf (decide (a0.f0 = 2)) h7
 refine rn [1, 4, 5] 1 [] [] ?_
 refine ci h7 (fun h3 h7 => ?_) fun h3 h7 => ?_
 ·refine sk ?_
  exact pf (decide (a0.f0 = 3)) h7
 refine rx [1, 4, 5] 1 [] [] ⟨70, [(1, o1 (.ref 0 0)), (4, oI a0.f0), (5, oB (decide (a0.f0 = 4)))], [vSNode a0], 0, []⟩ ?_
 refine ci h7 (fun h4 h7 => ?_) fun h4 h7 => ?_
 ·refine sk ?_
  exact pf (decide (a0.f0 = 4)) h7
 refine rn [1, 4, 5] 1 [] [] ?_
 refine ci h7 (fun h5 h7 => ?_) fun h5 h7 => ?_
 ·refine sk ?_
  exact pf (decide (a0.f0 = 5)) h7
 refine rl [1, 4, 5] 1 [] [] ?_
 exact pf (decide (a0.f0 = 6)) h7
/-! impl_areGroups: function 73 -/
def impl_areGroups.e1 (k : Nat) (x28 : Int) (z38 : (List SNode)) : Option Bool := if (0 : Int) < (z38.length : Int) then ((at? z38 0).bind fun x40 => some (decide (x40.f0 = x28))) else (some false)
def impl_areGroups.l2 : Nat → Int → (List SNode) → Option (List SNode)
  | 0, _, _ => none
  | k + 1, x28, z38 => (impl_areGroups.e1 k x28 z38).bind fun y42 => if y42 = true then (if (1 : Int) ≤ (z38.length : Int) then (impl_areGroups.l2 k x28 (List.drop (Int.toNat 1) z38)) else none) else (some z38)
def impl_areGroups.e3 (k : Nat) (a1 : (List Int)) (z25 : (List SNode)) (z26 : Int) : Option (List SNode) := (at? a1 z26).bind fun x28 => impl_areGroups.l2 k x28 z25
def impl_areGroups.l4 : Nat → (List Int) → (List SNode) → Int → Option (List SNode)
  | 0, _, _, _ => none
  | k + 1, a1, z25, z26 => if z26 < (a1.length : Int) then ((impl_areGroups.e3 k a1 z25 z26).bind fun y48 => impl_areGroups.l4 k a1 y48 (w64 (z26 + 1))) else (some z25)
def impl_areGroups.e5 (k : Nat) (a0 : (List SNode)) (a1 : (List Int)) : Option (List SNode) := impl_areGroups.l4 k a1 a0 0
def impl_areGroups.f (k : Nat) (a0 : (List SNode)) (a1 : (List Int)) : Option Bool := (impl_areGroups.e5 k a0 a1).bind fun y52 => some (decide ((y52.length : Int) = 0))
theorem impl_areGroups.fn {k : Nat} {a0 : (List SNode)} {a1 : (List Int)} {r : Bool} (H : impl_areGroups.f k a0 a1 = some r) : Fn Tryd.prog 73 [o1 (.sl 5 (List.map eSNode a0)), o1 (.sl 1 (List.map eI a1))] [] (oB r) [] := by
 refine Fn.bd [4] Tryd.func73 ?_
 refine rn [0, 1] 0 [] [] ?_
 refine jo H (fun y52 => ⟨30, [(0, o1 (.sl 5 (List.map eSNode y52)))], [], 0, []⟩) (fun y52 H => ?_) fun v54 h53 H => ?_
 ·refine rn [4] 0 [] [hL 1 eSNode y52] ?_
  refine Tri.ret ?_
  obtain rfl := si H;exact eR
 refine rn [0, 7, 8, 9] 0 [] [hL 1 eI a1] ?_
 refine bl ?_
 refine lo ((List SNode) × Int) k (fun k x => impl_areGroups.l4 k a1 x.1 x.2) (fun x => ⟨30, [(0, o1 (.sl 5 (List.map eSNode x.1))), (7, o1 (.sl 1 (List.map eI a1))), (8, oI (a1.length : Int)), (9, oI x.2)], [], 0, []⟩) (a0, 0) h53 fun k x h53 IH51 => ?_
 obtain ⟨z25, z26⟩ := x
 rw [impl_areGroups.l4.eq_2] at h53
 refine rn [0, 7, 8, 9, 10] 0 [] [] ?_
 refine sq ?_
 refine ci h53 (fun h27 h53 => ?_) fun h27 h53 => ?_
 ·refine sk ?_
  refine jo h53 (fun y48 => ⟨30, [(0, o1 (.sl 5 (List.map eSNode y48))), (7, o1 (.sl 1 (List.map eI a1))), (8, oI (a1.length : Int)), (9, oI z26)], [], 0, []⟩) (fun y48 h53 => ?_) fun v50 h49 h53 => ?_
  ·refine rl [0, 7, 8, 9] 0 [] [] ?_
   exact lb IH51 (y48, w64 (z26 + 1)) h53
  refine bl ?_
  obtain ⟨x28, h29, h49⟩ := bs h49
  refine rn [0, 6, 7, 8, 9] 0 [] [hE 0 eI h29] ?_
  refine bl ?_
  refine lo (List SNode) k (fun k x => impl_areGroups.l2 k x28 x) (fun x => ⟨30, [(0, o1 (.sl 5 (List.map eSNode x))), (6, oI x28), (7, o1 (.sl 1 (List.map eI a1))), (8, oI (a1.length : Int)), (9, oI z26)], [], 0, []⟩) z25 h49 fun k z38 h49 IH47 => ?_
  rw [impl_areGroups.l2.eq_2] at h49
  refine sq ?_
  refine jo h49 (fun y42 => ⟨30, [(0, o1 (.sl 5 (List.map eSNode z38))), (6, oI x28), (7, o1 (.sl 1 (List.map eI a1))), (8, oI (a1.length : Int)), (9, oI z26), (23, oB y42)], [], 0, []⟩) (fun y42 h49 => ?_) fun v44 h43 h49 => ?_
  ·refine cb h49 (fun h45 h49 => ?_) fun h45 h49 => ?_
   ·refine sk ?_
    refine bl ?_
    obtain ⟨h46, h49⟩ := nd h49
    refine rl [0, 6, 7, 8, 9] 0 [] [p3 (show (0 : Int) ≤ 1 by decide) (lenle (f := eSNode) (l := z38) h46) (Int.le_refl ((List.map eSNode z38).length : Int)), q1 1 (.ov [.sl 5 (List.map eSNode (List.drop (Int.toNat 1) z38))]) (ovcutE (s := 5) (l := z38) (f := eSNode) (show (0 : Int) ≤ 1 by decide))] ?_
    exact lb IH47 (List.drop (Int.toNat 1) z38) h49
   refine fx [0, 7, 8, 9] 0 [] ?_
   refine xi ?_
   exact pf z38 h49
  rcases ite_some h43 with ⟨h39, h43⟩ | ⟨h39, h43⟩
  ·obtain ⟨x40, h41, h43⟩ := bs h43
   refine rl [0, 6, 7, 8, 9, 23] 0 [] [hL 1 eSNode z38, hB 2 (decide_eq_true h39), hEv 5 eSNode_v h41] ?_
   exact pf (decide (x40.f0 = x28)) h43
  refine rl [0, 6, 7, 8, 9, 23] 0 [] [hL 1 eSNode z38, hB 2 (decide_eq_false h39)] ?_
  exact pf false h43
 refine fx [0] 0 [] ?_
 refine xi ?_
 exact pf z25 h53
/-! impl_countOf: function 74 -/
def impl_countOf.e1 (k : Nat) (a0 : (List SNode)) (a1 : Int) (z8 : Int) (z9 : Int) : Option Int := (at? a0 z9).bind fun x11 => if x11.f0 = a1 then (some (w64 (z8 + 1))) else (some z8)
def impl_countOf.l2 : Nat → (List SNode) → Int → Int → Int → Option Int
  | 0, _, _, _, _ => none
  | k + 1, a0, a1, z8, z9 => if z9 < (a0.length : Int) then ((impl_countOf.e1 k a0 a1 z8 z9).bind fun y14 => impl_countOf.l2 k a0 a1 y14 (w64 (z9 + 1))) else (some z8)
def impl_countOf.e3 (k : Nat) (a0 : (List SNode)) (a1 : Int) : Option Int := impl_countOf.l2 k a0 a1 0 0
def impl_countOf.f (k : Nat) (a0 : (List SNode)) (a1 : Int) : Option Int := (impl_countOf.e3 k a0 a1).bind fun y18 => some y18
theorem impl_countOf.fn {k : Nat} {a0 : (List SNode)} {a1 : Int} {r : Int} (H : impl_countOf.f k a0 a1 = some r) : Fn Tryd.prog 74 [o1 (.sl 5 (List.map eSNode a0)), oI a1] [] (oI r) [] := by
 refine Fn.bd [4] Tryd.func74 ?_
 refine rn [0, 1] 0 [] [] ?_
 refine rn [0, 1, 5] 0 [] [] ?_
 refine jo H (fun y18 => ⟨22, [(5, oI y18)], [], 0, []⟩) (fun y18 H => ?_) fun v20 h19 H => ?_
 ·refine rn [4] 0 [] [] ?_
  refine Tri.ret ?_
  obtain rfl := si H;exact eR
 refine rn [1, 5, 8, 9, 10] 0 [] [hL 1 eSNode a0] ?_
 refine bl ?_
 refine lo (Int × Int) k (fun k x => impl_countOf.l2 k a0 a1 x.1 x.2) (fun x => ⟨22, [(1, oI a1), (5, oI x.1), (8, o1 (.sl 5 (List.map eSNode a0))), (9, oI (a0.length : Int)), (10, oI x.2)], [], 0, []⟩) (0, 0) h19 fun k x h19 IH17 => ?_
 obtain ⟨z8, z9⟩ := x
 rw [impl_countOf.l2.eq_2] at h19
 refine rn [1, 5, 8, 9, 10, 11] 0 [] [] ?_
 refine sq ?_
 refine ci h19 (fun h10 h19 => ?_) fun h10 h19 => ?_
 ·refine sk ?_
  refine jo h19 (fun y14 => ⟨22, [(1, oI a1), (5, oI y14), (8, o1 (.sl 5 (List.map eSNode a0))), (9, oI (a0.length : Int)), (10, oI z9)], [], 0, []⟩) (fun y14 h19 => ?_) fun v16 h15 h19 => ?_
  ·refine rl [1, 5, 8, 9, 10] 0 [] [] ?_
   exact lb IH17 (y14, w64 (z9 + 1)) h19
  refine bl ?_
  obtain ⟨x11, h12, h15⟩ := bs h15
  refine rn [1, 5, 7, 8, 9, 10] 1 [] [hEv 0 eSNode_v h12] ?_
  refine rn [1, 5, 8, 9, 10, 17] 0 [] [] ?_
  refine ci h15 (fun h13 h15 => ?_) fun h13 h15 => ?_
  ·refine rl [1, 5, 8, 9, 10] 0 [] [] ?_
   exact pf (w64 (z8 + 1)) h15
  refine fx [1, 5, 8, 9, 10] 0 [] ?_
  refine sk ?_
  exact pf z8 h15
 refine fx [5] 0 [] ?_
 refine xi ?_
 exact pf z8 h19
/-! impl_isExpression: function 76 -/
def impl_isExpression.e1 (k : Nat) (a0 : SNode) : Option Bool := (impl_within.f k a0.f0 18 27).bind fun r1 => if r1 = true then (some true) else (some (decide (a0.f0 = 12)))
def impl_isExpression.f (k : Nat) (a0 : SNode) : Option Bool := (impl_isExpression.e1 k a0).bind fun y4 => some y4
theorem impl_isExpression.fn {k : Nat} {a0 : SNode} {r : Bool} (H : impl_isExpression.f k a0 = some r) : Fn Tryd.prog 76 [ag (vSNode a0)] [] (oB r) [] := by
 refine Fn.bd [2] Tryd.func76 ?_
 refine rn [1] 1 [] [] ?_
 refine jo H (fun y4 => ⟨11, [(2, oB y4)], [], 0, []⟩) (fun y4 H => ?_) fun v6 h5 H => ?_
 ·refine Tri.ret ?_
  obtain rfl := si H;exact eR
 obtain ⟨r1, h2, h5⟩ := bs h5
 rcases iteb_some h5 with ⟨h3, h5⟩ | ⟨h3, h5⟩
 ·refine rl [2] 0 [] [hC 2 (impl_within.fn h2), hB 2 h3] ?_
  exact pf true h5
 refine rl [2] 0 [] [hC 2 (impl_within.fn h2), hB 2 h3] ?_
 exact pf (decide (a0.f0 = 12)) h5
/-! impl_areKids_1: function 75 -/
def impl_areKids_1.l1 : Nat → (List SNode) → Int → Option (Bool ⊕ Unit)
  | 0, _, _ => none
  | k + 1, a0, z9 => if z9 < (a0.length : Int) then ((at? a0 z9).bind fun x11 => if z9 = 0 then ((impl_isExpression.f k x11).bind fun r14 => if r14 = true then (impl_areKids_1.l1 k a0 (w64 (z9 + 1))) else (some (.inl false))) else (none)) else (some (.inr ()))
def impl_areKids_1.e2 (k : Nat) (a0 : (List SNode)) : Option (Bool ⊕ Unit) := impl_areKids_1.l1 k a0 0
def impl_areKids_1.f (k : Nat) (a0 : (List SNode)) : Option Bool := if (a0.length : Int) = 1 then ((impl_areKids_1.e2 k a0).bind fun v => match v with | .inl r => some r | .inr _ => some true) else (some false)
theorem impl_areKids_1.fn {k : Nat} {a0 : (List SNode)} {r : Bool} (H : impl_areKids_1.f k a0 = some r) : Fn Tryd.prog 75 [o1 (.sl 5 (List.map eSNode a0)), o1 (.sl 1 [[.sc (.func (.func 76) #[] #[])]])] [] (oB r) [] := by
 refine Fn.bd [4] Tryd.func75 ?_
 refine rn [0, 1] 0 [] [] ?_
 refine sq ?_
 refine rn [0, 1, 11] 0 [] [hL 1 eSNode a0] ?_
 refine cn H (fun h1 H => ?_) fun h1 H => ?_
 ·refine sk ?_
  refine jr H (fun _ => ⟨27, [], [], 0, []⟩) (fun _ H => ?_) fun v19 h18 H => ?_
  ·refine rn [4] 0 [] [] ?_
   refine Tri.ret ?_
   obtain rfl := si H;exact eR
  refine rn [1, 12, 13, 14] 0 [] [hL 1 eSNode a0] ?_
  refine bl ?_
  refine lo Int k (fun k x => impl_areKids_1.l1 k a0 x) (fun x => ⟨27, [(1, o1 (.sl 1 [[.sc (.func (.func 76) #[] #[])]])), (12, o1 (.sl 5 (List.map eSNode a0))), (13, oI (a0.length : Int)), (14, oI x)], [], 0, []⟩) 0 h18 fun k z9 h18 IH17 => ?_
  rw [impl_areKids_1.l1.eq_2] at h18
  refine rn [1, 12, 13, 14, 15] 0 [] [] ?_
  refine sq ?_
  refine ci h18 (fun h10 h18 => ?_) fun h10 h18 => ?_
  ·refine sk ?_
   refine sq ?_
   refine bl ?_
   obtain ⟨x11, h12, h18⟩ := bs h18
   refine rn [1, 5, 6, 12, 13, 14] 1 [] [hEv 1 eSNode_v h12] ?_
   rcases ite_some h18 with ⟨h13, h18⟩ | ⟨h13, h18⟩
   ·obtain ⟨r14, h15, h18⟩ := bs h18
    refine dn hmix 5 [[], [], [0, 1], [0, 1, 2], [], [0, 1, 2, 3, 4], [0, 1, 2, 3, 4, 5]] [1, 12, 13, 14, 25] 0 [] [q2 2 (.el [.sc (.func (.func 76) #[] #[])]) (ix0 (m := 0) h13) (ix1 (m := 0) (xs := [[.sc (.func (.func 76) #[] #[])]]) h13), hC 5 (impl_isExpression.fn h15)] ?_
    refine cm h18 (fun h16 h18 => ?_) fun h16 h18 => ?_
    ·refine sk ?_
     refine rl [1, 12, 13, 14] 0 [] [] ?_
     exact lb IH17 (w64 (z9 + 1)) h18
    refine rn [4] 0 [] [] ?_
    refine Tri.ret ?_
    obtain rfl := si h18;obtain rfl := si H;exact eR
   cases h18
  refine fx [] 0 [] ?_
  refine xi ?_
  exact pe () h18
 refine rn [4] 0 [] [] ?_
 refine Tri.ret ?_
 obtain rfl := si H;exact eR
/-! impl_isVarType: function 77 -/
def impl_isVarType.e1 (k : Nat) (a0 : SNode) : Option Bool := if a0.f0 = 8 then (some true) else (some (decide (a0.f0 = 9)))
def impl_isVarType.f (k : Nat) (a0 : SNode) : Option Bool := (impl_isVarType.e1 k a0).bind fun y2 => some y2
theorem impl_isVarType.fn {k : Nat} {a0 : SNode} {r : Bool} (H : impl_isVarType.f k a0 = some r) : Fn Tryd.prog 77 [ag (vSNode a0)] [] (oB r) [] := by
 refine Fn.bd [2] Tryd.func77 ?_
 refine rn [1] 1 [] [] ?_
 refine jo H (fun y2 => ⟨11, [(2, oB y2)], [], 0, []⟩) (fun y2 H => ?_) fun v4 h3 H => ?_
 ·refine Tri.ret ?_
  obtain rfl := si H;exact eR
 rcases ite_some h3 with ⟨h1, h3⟩ | ⟨h1, h3⟩
 ·refine rl [2] 0 [] [hB 2 (decide_eq_true h1)] ?_
  exact pf true h3
 refine rl [2] 0 [] [hB 2 (decide_eq_false h1)] ?_
 exact pf (decide (a0.f0 = 9)) h3
/-! impl_areKids_2: function 75 -/
def impl_areKids_2.l1 : Nat → (List SNode) → Int → Option (Bool ⊕ Unit)
  | 0, _, _ => none
  | k + 1, a0, z9 => if z9 < (a0.length : Int) then ((at? a0 z9).bind fun x11 => if z9 = 0 then ((impl_isVarType.f k x11).bind fun r14 => if r14 = true then (impl_areKids_2.l1 k a0 (w64 (z9 + 1))) else (some (.inl false))) else (none)) else (some (.inr ()))
def impl_areKids_2.e2 (k : Nat) (a0 : (List SNode)) : Option (Bool ⊕ Unit) := impl_areKids_2.l1 k a0 0
def impl_areKids_2.f (k : Nat) (a0 : (List SNode)) : Option Bool := if (a0.length : Int) = 1 then ((impl_areKids_2.e2 k a0).bind fun v => match v with | .inl r => some r | .inr _ => some true) else (some false)
theorem impl_areKids_2.fn {k : Nat} {a0 : (List SNode)} {r : Bool} (H : impl_areKids_2.f k a0 = some r) : Fn Tryd.prog 75 [o1 (.sl 5 (List.map eSNode a0)), o1 (.sl 1 [[.sc (.func (.func 77) #[] #[])]])] [] (oB r) [] := by
 refine Fn.bd [4] Tryd.func75 ?_
 refine rn [0, 1] 0 [] [] ?_
 refine sq ?_
 refine rn [0, 1, 11] 0 [] [hL 1 eSNode a0] ?_
 refine cn H (fun h1 H => ?_) fun h1 H => ?_
 ·refine sk ?_
  refine jr H (fun _ => ⟨27, [], [], 0, []⟩) (fun _ H => ?_) fun v19 h18 H => ?_
  ·refine rn [4] 0 [] [] ?_
   refine Tri.ret ?_
   obtain rfl := si H;exact eR
  refine rn [1, 12, 13, 14] 0 [] [hL 1 eSNode a0] ?_
  refine bl ?_
  refine lo Int k (fun k x => impl_areKids_2.l1 k a0 x) (fun x => ⟨27, [(1, o1 (.sl 1 [[.sc (.func (.func 77) #[] #[])]])), (12, o1 (.sl 5 (List.map eSNode a0))), (13, oI (a0.length : Int)), (14, oI x)], [], 0, []⟩) 0 h18 fun k z9 h18 IH17 => ?_
  rw [impl_areKids_2.l1.eq_2] at h18
  refine rn [1, 12, 13, 14, 15] 0 [] [] ?_
  refine sq ?_
  refine ci h18 (fun h10 h18 => ?_) fun h10 h18 => ?_
  ·refine sk ?_
   refine sq ?_
   refine bl ?_
   obtain ⟨x11, h12, h18⟩ := bs h18
   refine rn [1, 5, 6, 12, 13, 14] 1 [] [hEv 1 eSNode_v h12] ?_
   rcases ite_some h18 with ⟨h13, h18⟩ | ⟨h13, h18⟩
   ·obtain ⟨r14, h15, h18⟩ := bs h18
    refine dn hmix 5 [[], [], [0, 1], [0, 1, 2], [], [0, 1, 2, 3, 4], [0, 1, 2, 3, 4, 5]] [1, 12, 13, 14, 25] 0 [] [q2 2 (.el [.sc (.func (.func 77) #[] #[])]) (ix0 (m := 0) h13) (ix1 (m := 0) (xs := [[.sc (.func (.func 77) #[] #[])]]) h13), hC 5 (impl_isVarType.fn h15)] ?_
    refine cm h18 (fun h16 h18 => ?_) fun h16 h18 => ?_
    ·refine sk ?_
     refine rl [1, 12, 13, 14] 0 [] [] ?_
     exact lb IH17 (w64 (z9 + 1)) h18
    refine rn [4] 0 [] [] ?_
    refine Tri.ret ?_
    obtain rfl := si h18;obtain rfl := si H;exact eR
   cases h18
  refine fx [] 0 [] ?_
  refine xi ?_
  exact pe () h18
 refine rn [4] 0 [] [] ?_
 refine Tri.ret ?_
 obtain rfl := si H;exact eR
/-! impl_isOf: function 78 -/
def impl_isOf.f (k : Nat) (a0 : Int) : Option Int := some a0
theorem impl_isOf.fn {k : Nat} {a0 : Int} {r : Int} (H : impl_isOf.f k a0 = some r) : Fn Tryd.prog 78 [oI a0] [] (o1 (.fn 106 [.cel [cI r] 0])) [] := by
 refine Fn.bd [2] Tryd.func78 ?_
 refine rn [1] 1 [] [] ?_
 refine rn [2] 1 [] [] ?_
 refine fb ?_
 refine Tri.ret ?_
 obtain rfl := si H;exact eR
/-! impl_isOf_1_1: function 106 -/
def impl_isOf_1_1.f (k : Nat) (a0 : SNode) (a1_1 : Int) : Option Bool := some (decide (a0.f0 = a1_1))
theorem impl_isOf_1_1.fn {k : Nat} {a0 : SNode} {a1_1 : Int} {r : Bool} (H : impl_isOf_1_1.f k a0 a1_1 = some r) : Fn Tryd.prog 106 [ag (vSNode a0), o1 (.cel [cI a1_1] 0)] [] (oB r) [] := by
 refine Fn.bd [3] Tryd.func106 ?_
 refine rn [1, 2] 1 [] [] ?_
 refine rn [3] 0 [] [] ?_
 refine Tri.ret ?_
 obtain rfl := si H;exact eR
/-! impl_areKids_3: function 75 -/
def impl_areKids_3.l1 : Nat → (List SNode) → Int → Int → Option (Bool ⊕ Unit)
  | 0, _, _, _ => none
  | k + 1, a0, a1_1, z9 => if z9 < (a0.length : Int) then ((at? a0 z9).bind fun x11 => if z9 = 0 then ((impl_isOf_1_1.f k x11 a1_1).bind fun r14 => if r14 = true then (impl_areKids_3.l1 k a0 a1_1 (w64 (z9 + 1))) else (some (.inl false))) else (none)) else (some (.inr ()))
def impl_areKids_3.e2 (k : Nat) (a0 : (List SNode)) (a1_1 : Int) : Option (Bool ⊕ Unit) := impl_areKids_3.l1 k a0 a1_1 0
def impl_areKids_3.f (k : Nat) (a0 : (List SNode)) (a1_1 : Int) : Option Bool := if (a0.length : Int) = 1 then ((impl_areKids_3.e2 k a0 a1_1).bind fun v => match v with | .inl r => some r | .inr _ => some true) else (some false)
theorem impl_areKids_3.fn {k : Nat} {a0 : (List SNode)} {a1_1 : Int} {r : Bool} (H : impl_areKids_3.f k a0 a1_1 = some r) : Fn Tryd.prog 75 [o1 (.sl 5 (List.map eSNode a0)), o1 (.sl 1 [[.fn 106 [.cel [cI a1_1] 0]]])] [] (oB r) [] := by
 refine Fn.bd [4] Tryd.func75 ?_
 refine rn [0, 1] 0 [] [] ?_
 refine sq ?_
 refine rn [0, 1, 11] 0 [] [hL 1 eSNode a0] ?_
 refine cn H (fun h1 H => ?_) fun h1 H => ?_
 ·refine sk ?_
  refine jr H (fun _ => ⟨27, [], [], 0, []⟩) (fun _ H => ?_) fun v19 h18 H => ?_
  ·refine rn [4] 0 [] [] ?_
   refine Tri.ret ?_
   obtain rfl := si H;exact eR
  refine rn [1, 12, 13, 14] 0 [] [hL 1 eSNode a0] ?_
  refine bl ?_
  refine lo Int k (fun k x => impl_areKids_3.l1 k a0 a1_1 x) (fun x => ⟨27, [(1, o1 (.sl 1 [[.fn 106 [.cel [cI a1_1] 0]]])), (12, o1 (.sl 5 (List.map eSNode a0))), (13, oI (a0.length : Int)), (14, oI x)], [], 0, []⟩) 0 h18 fun k z9 h18 IH17 => ?_
  rw [impl_areKids_3.l1.eq_2] at h18
  refine rn [1, 12, 13, 14, 15] 0 [] [] ?_
  refine sq ?_
  refine ci h18 (fun h10 h18 => ?_) fun h10 h18 => ?_
  ·refine sk ?_
   refine sq ?_
   refine bl ?_
   obtain ⟨x11, h12, h18⟩ := bs h18
   refine rn [1, 5, 6, 12, 13, 14] 1 [] [hEv 1 eSNode_v h12] ?_
   rcases ite_some h18 with ⟨h13, h18⟩ | ⟨h13, h18⟩
   ·obtain ⟨r14, h15, h18⟩ := bs h18
    refine dn hmix 5 [[], [], [0, 1], [0, 1, 2], [], [0, 1, 2, 3, 4], [0, 1, 2, 3, 4, 5]] [1, 12, 13, 14, 25] 0 [] [q2 2 (.el [.fn 106 [.cel [cI a1_1] 0]]) (ix0 (m := 0) h13) (ix1 (m := 0) (xs := [[.fn 106 [.cel [cI a1_1] 0]]]) h13), hC 5 (impl_isOf_1_1.fn h15)] ?_
    refine cm h18 (fun h16 h18 => ?_) fun h16 h18 => ?_
    ·refine sk ?_
     refine rl [1, 12, 13, 14] 0 [] [] ?_
     exact lb IH17 (w64 (z9 + 1)) h18
    refine rn [4] 0 [] [] ?_
    refine Tri.ret ?_
    obtain rfl := si h18;obtain rfl := si H;exact eR
   cases h18
  refine fx [] 0 [] ?_
  refine xi ?_
  exact pe () h18
 refine rn [4] 0 [] [] ?_
 refine Tri.ret ?_
 obtain rfl := si H;exact eR
/-! impl_isStatement: function 79 -/
def impl_isStatement.f (k : Nat) (a0 : SNode) : Option Bool := (impl_within.f k a0.f0 11 17).bind fun r1 => some r1
theorem impl_isStatement.fn {k : Nat} {a0 : SNode} {r : Bool} (H : impl_isStatement.f k a0 = some r) : Fn Tryd.prog 79 [ag (vSNode a0)] [] (oB r) [] := by
 refine Fn.bd [2] Tryd.func79 ?_
 refine rn [1] 1 [] [] ?_
 obtain ⟨r1, h2, H⟩ := bs H
 refine rn [2] 0 [] [hC 2 (impl_within.fn h2)] ?_
 refine Tri.ret ?_
 obtain rfl := si H;exact eR
/-! impl_areAll_impl_Node__1_1: function 82 -/
def impl_areAll_impl_Node__1_1.f (k : Nat) (a0 : SNode) : Option Bool := (impl_isStatement.f k a0).bind fun r1 => some (!r1)
theorem impl_areAll_impl_Node__1_1.fn {k : Nat} {a0 : SNode} {r : Bool} (H : impl_areAll_impl_Node__1_1.f k a0 = some r) : Fn Tryd.prog 82 [ag (vSNode a0), o1 (.cel ([.sc (.func (.func 79) #[] #[])]) 0)] [] (oB r) [] := by
 refine Fn.bd [3] Tryd.func82 ?_
 refine rn [1, 2] 1 [] [] ?_
 obtain ⟨r1, h2, H⟩ := bs H
 refine rn [3] 0 [] [hC 2 (impl_isStatement.fn h2)] ?_
 refine Tri.ret ?_
 obtain rfl := si H;exact eR
/-! slices_IndexFunc___impl_Node_impl_Node_1: function 107 -/
def slices_IndexFunc___impl_Node_impl_Node_1.l1 : Nat → (List SNode) → Int → Option (Int ⊕ Unit)
  | 0, _, _ => none
  | k + 1, a0, z7 => if z7 < (a0.length : Int) then ((at? a0 z7).bind fun x9 => (impl_areAll_impl_Node__1_1.f k x9).bind fun r11 => if r11 = true then (some (.inl z7)) else (slices_IndexFunc___impl_Node_impl_Node_1.l1 k a0 (w64 (z7 + 1)))) else (some (.inr ()))
def slices_IndexFunc___impl_Node_impl_Node_1.e2 (k : Nat) (a0 : (List SNode)) : Option (Int ⊕ Unit) := slices_IndexFunc___impl_Node_impl_Node_1.l1 k a0 0
def slices_IndexFunc___impl_Node_impl_Node_1.f (k : Nat) (a0 : (List SNode)) : Option Int := (slices_IndexFunc___impl_Node_impl_Node_1.e2 k a0).bind fun v => match v with | .inl r => some r | .inr _ => some (-1)
theorem slices_IndexFunc___impl_Node_impl_Node_1.fn {k : Nat} {a0 : (List SNode)} {r : Int} (H : slices_IndexFunc___impl_Node_impl_Node_1.f k a0 = some r) : Fn Tryd.prog 107 [o1 (.sl 5 (List.map eSNode a0)), o1 (.fn 82 [.cel ([.sc (.func (.func 79) #[] #[])]) 0])] [] (oI r) [] := by
 refine Fn.bd [4] Tryd.func107 ?_
 refine rn [0, 1] 0 [] [] ?_
 refine jr H (fun _ => ⟨19, [], [], 0, []⟩) (fun _ H => ?_) fun v16 h15 H => ?_
 ·refine rn [4] 0 [] [] ?_
  refine Tri.ret ?_
  obtain rfl := si H;exact eR
 refine rn [0, 1, 7, 8] 0 [] [hL 1 eSNode a0] ?_
 refine bl ?_
 refine lo Int k (fun k x => slices_IndexFunc___impl_Node_impl_Node_1.l1 k a0 x) (fun x => ⟨19, [(0, o1 (.sl 5 (List.map eSNode a0))), (1, o1 (.fn 82 [.cel ([.sc (.func (.func 79) #[] #[])]) 0])), (7, oI (a0.length : Int)), (8, oI x)], [], 0, []⟩) 0 h15 fun k z7 h15 IH14 => ?_
 rw [slices_IndexFunc___impl_Node_impl_Node_1.l1.eq_2] at h15
 refine rn [0, 1, 7, 8, 9] 0 [] [] ?_
 refine sq ?_
 refine ci h15 (fun h8 h15 => ?_) fun h8 h15 => ?_
 ·refine sk ?_
  refine sq ?_
  refine bl ?_
  refine rn [0, 1, 5, 7, 8] 0 [] [] ?_
  obtain ⟨x9, h10, h15⟩ := bs h15
  obtain ⟨r11, h12, h15⟩ := bs h15
  refine rn [0, 1, 5, 7, 8, 16] 0 [] [hEv 3 eSNode_v h10, hC 5 (impl_areAll_impl_Node__1_1.fn h12)] ?_
  refine cb h15 (fun h13 h15 => ?_) fun h13 h15 => ?_
  ·refine rn [4] 0 [] [] ?_
   refine Tri.ret ?_
   obtain rfl := si h15;obtain rfl := si H;exact eR
  refine sk ?_
  refine rl [0, 1, 7, 8] 0 [] [] ?_
  exact lb IH14 (w64 (z7 + 1)) h15
 refine fx [] 0 [] ?_
 refine xi ?_
 exact pe () h15
/-! slices_ContainsFunc___impl_Node_impl_Node_1: function 81 -/
def slices_ContainsFunc___impl_Node_impl_Node_1.f (k : Nat) (a0 : (List SNode)) : Option Bool := (slices_IndexFunc___impl_Node_impl_Node_1.f k a0).bind fun r1 => some (decide ((0 : Int) ≤ r1))
theorem slices_ContainsFunc___impl_Node_impl_Node_1.fn {k : Nat} {a0 : (List SNode)} {r : Bool} (H : slices_ContainsFunc___impl_Node_impl_Node_1.f k a0 = some r) : Fn Tryd.prog 81 [o1 (.sl 5 (List.map eSNode a0)), o1 (.fn 82 [.cel ([.sc (.func (.func 79) #[] #[])]) 0])] [] (oB r) [] := by
 refine Fn.bd [4] Tryd.func81 ?_
 refine rn [0, 1] 0 [] [] ?_
 obtain ⟨r1, h2, H⟩ := bs H
 refine rn [4] 0 [] [hC 2 (slices_IndexFunc___impl_Node_impl_Node_1.fn h2)] ?_
 refine Tri.ret ?_
 obtain rfl := si H;exact eR
/-! impl_areAll_impl_Node_1: function 48 -/
def impl_areAll_impl_Node_1.f (k : Nat) (a0 : (List SNode)) : Option Bool := (slices_ContainsFunc___impl_Node_impl_Node_1.f k a0).bind fun r1 => some (!r1)
theorem impl_areAll_impl_Node_1.fn {k : Nat} {a0 : (List SNode)} {r : Bool} (H : impl_areAll_impl_Node_1.f k a0 = some r) : Fn Tryd.prog 48 [o1 (.sl 5 (List.map eSNode a0)), o1 (.sc (.func (.func 79) #[] #[]))] [] (oB r) [] := by
 refine Fn.bd [4] Tryd.func48 ?_
 refine rn [0, 3] 1 [] [] ?_
 obtain ⟨r1, h2, H⟩ := bs H
 refine rn [4] 0 [] [hC 2 (slices_ContainsFunc___impl_Node_impl_Node_1.fn h2)] ?_
 refine Tri.ret ?_
 obtain rfl := si H;exact eR
/-! impl_isDesignator: function 80 -/
def impl_isDesignator.e1 (k : Nat) (a0 : SNode) : Option Bool := if a0.f0 = 21 then (some true) else (some (decide (a0.f0 = 22)))
def impl_isDesignator.f (k : Nat) (a0 : SNode) : Option Bool := (impl_isDesignator.e1 k a0).bind fun y2 => some y2
theorem impl_isDesignator.fn {k : Nat} {a0 : SNode} {r : Bool} (H : impl_isDesignator.f k a0 = some r) : Fn Tryd.prog 80 [ag (vSNode a0)] [] (oB r) [] := by
 refine Fn.bd [2] Tryd.func80 ?_
 refine rn [1] 1 [] [] ?_
 refine jo H (fun y2 => ⟨11, [(2, oB y2)], [], 0, []⟩) (fun y2 H => ?_) fun v4 h3 H => ?_
 ·refine Tri.ret ?_
  obtain rfl := si H;exact eR
 rcases ite_some h3 with ⟨h1, h3⟩ | ⟨h1, h3⟩
 ·refine rl [2] 0 [] [hB 2 (decide_eq_true h1)] ?_
  exact pf true h3
 refine rl [2] 0 [] [hB 2 (decide_eq_false h1)] ?_
 exact pf (decide (a0.f0 = 22)) h3
/-! impl_areKids_4: function 75 -/
def impl_areKids_4.e1 (k : Nat) (z15 : Int) (x17 : SNode) : Option Bool := if z15 = 0 then ((impl_isDesignator.f k x17).bind fun r20 => some (!r20)) else (if z15 = 1 then ((impl_isExpression.f k x17).bind fun r23 => some (!r23)) else (none))
def impl_areKids_4.l2 : Nat → (List SNode) → Int → Option (Bool ⊕ Unit)
  | 0, _, _ => none
  | k + 1, a0, z15 => if z15 < (a0.length : Int) then ((at? a0 z15).bind fun x17 => (impl_areKids_4.e1 k z15 x17).bind fun y25 => if y25 = true then (some (.inl false)) else (impl_areKids_4.l2 k a0 (w64 (z15 + 1)))) else (some (.inr ()))
def impl_areKids_4.e3 (k : Nat) (a0 : (List SNode)) : Option (Bool ⊕ Unit) := impl_areKids_4.l2 k a0 0
def impl_areKids_4.f (k : Nat) (a0 : (List SNode)) : Option Bool := if (a0.length : Int) = 2 then ((impl_areKids_4.e3 k a0).bind fun v => match v with | .inl r => some r | .inr _ => some true) else (some false)
theorem impl_areKids_4.fn {k : Nat} {a0 : (List SNode)} {r : Bool} (H : impl_areKids_4.f k a0 = some r) : Fn Tryd.prog 75 [o1 (.sl 5 (List.map eSNode a0)), o1 (.sl 1 [[.sc (.func (.func 80) #[] #[])], [.sc (.func (.func 76) #[] #[])]])] [] (oB r) [] := by
 refine Fn.bd [4] Tryd.func75 ?_
 refine rn [0, 1] 0 [] [] ?_
 refine sq ?_
 refine rn [0, 1, 11] 0 [] [hL 1 eSNode a0] ?_
 refine cn H (fun h1 H => ?_) fun h1 H => ?_
 ·refine sk ?_
  refine jr H (fun _ => ⟨27, [], [], 0, []⟩) (fun _ H => ?_) fun v31 h30 H => ?_
  ·refine rn [4] 0 [] [] ?_
   refine Tri.ret ?_
   obtain rfl := si H;exact eR
  refine rn [1, 12, 13, 14] 0 [] [hL 1 eSNode a0] ?_
  refine bl ?_
  refine lo Int k (fun k x => impl_areKids_4.l2 k a0 x) (fun x => ⟨27, [(1, o1 (.sl 1 [[.sc (.func (.func 80) #[] #[])], [.sc (.func (.func 76) #[] #[])]])), (12, o1 (.sl 5 (List.map eSNode a0))), (13, oI (a0.length : Int)), (14, oI x)], [], 0, []⟩) 0 h30 fun k z15 h30 IH29 => ?_
  rw [impl_areKids_4.l2.eq_2] at h30
  refine rn [1, 12, 13, 14, 15] 0 [] [] ?_
  refine sq ?_
  refine ci h30 (fun h16 h30 => ?_) fun h16 h30 => ?_
  ·refine sk ?_
   refine sq ?_
   refine bl ?_
   obtain ⟨x17, h18, h30⟩ := bs h30
   refine rn [1, 5, 6, 12, 13, 14] 1 [] [hEv 1 eSNode_v h18] ?_
   refine jo h30 (fun y25 => ⟨27, [(1, o1 (.sl 1 [[.sc (.func (.func 80) #[] #[])], [.sc (.func (.func 76) #[] #[])]])), (12, o1 (.sl 5 (List.map eSNode a0))), (13, oI (a0.length : Int)), (14, oI z15), (25, oB y25)], [], 0, []⟩) (fun y25 h30 => ?_) fun v27 h26 h30 => ?_
   ·refine cb h30 (fun h28 h30 => ?_) fun h28 h30 => ?_
    ·refine rn [4] 0 [] [] ?_
     refine Tri.ret ?_
     obtain rfl := si h30;obtain rfl := si H;exact eR
    refine sk ?_
    refine rl [1, 12, 13, 14] 0 [] [] ?_
    exact lb IH29 (w64 (z15 + 1)) h30
   rcases ite_some h26 with ⟨h19, h26⟩ | ⟨h19, h26⟩
   ·obtain ⟨r20, h21, h26⟩ := bs h26
    refine dl hmix 5 [[], [], [0, 1], [0, 1, 2], [], [0, 1, 2, 3, 4], [0, 1, 2, 3, 4, 5]] [1, 12, 13, 14, 25] 0 [] [q2 2 (.el [.sc (.func (.func 80) #[] #[])]) (ix0 (m := 0) h19) (ix1 (m := 0) (xs := [[.sc (.func (.func 80) #[] #[])], [.sc (.func (.func 76) #[] #[])]]) h19), hC 5 (impl_isDesignator.fn h21)] ?_
    exact pf (!r20) h26
   rcases ite_some h26 with ⟨h22, h26⟩ | ⟨h22, h26⟩
   ·obtain ⟨r23, h24, h26⟩ := bs h26
    refine dl hmix 5 [[], [], [0, 1], [0, 1, 2], [], [0, 1, 2, 3, 4], [0, 1, 2, 3, 4, 5]] [1, 12, 13, 14, 25] 0 [] [q2 2 (.el [.sc (.func (.func 76) #[] #[])]) (ix0 (m := 1) h22) (ix1 (m := 1) (xs := [[.sc (.func (.func 80) #[] #[])], [.sc (.func (.func 76) #[] #[])]]) h22), hC 5 (impl_isExpression.fn h24)] ?_
    exact pf (!r23) h26
   cases h26
  refine fx [] 0 [] ?_
  refine xi ?_
  exact pe () h30
 refine rn [4] 0 [] [] ?_
 refine Tri.ret ?_
 obtain rfl := si H;exact eR
/-! impl_areAll_impl_Node__1_2: function 82 -/
def impl_areAll_impl_Node__1_2.f (k : Nat) (a0 : SNode) : Option Bool := (impl_isExpression.f k a0).bind fun r1 => some (!r1)
theorem impl_areAll_impl_Node__1_2.fn {k : Nat} {a0 : SNode} {r : Bool} (H : impl_areAll_impl_Node__1_2.f k a0 = some r) : Fn Tryd.prog 82 [ag (vSNode a0), o1 (.cel ([.sc (.func (.func 76) #[] #[])]) 0)] [] (oB r) [] := by
 refine Fn.bd [3] Tryd.func82 ?_
 refine rn [1, 2] 1 [] [] ?_
 obtain ⟨r1, h2, H⟩ := bs H
 refine rn [3] 0 [] [hC 2 (impl_isExpression.fn h2)] ?_
 refine Tri.ret ?_
 obtain rfl := si H;exact eR
/-! slices_IndexFunc___impl_Node_impl_Node_2: function 107 -/
def slices_IndexFunc___impl_Node_impl_Node_2.l1 : Nat → (List SNode) → Int → Option (Int ⊕ Unit)
  | 0, _, _ => none
  | k + 1, a0, z7 => if z7 < (a0.length : Int) then ((at? a0 z7).bind fun x9 => (impl_areAll_impl_Node__1_2.f k x9).bind fun r11 => if r11 = true then (some (.inl z7)) else (slices_IndexFunc___impl_Node_impl_Node_2.l1 k a0 (w64 (z7 + 1)))) else (some (.inr ()))
def slices_IndexFunc___impl_Node_impl_Node_2.e2 (k : Nat) (a0 : (List SNode)) : Option (Int ⊕ Unit) := slices_IndexFunc___impl_Node_impl_Node_2.l1 k a0 0
def slices_IndexFunc___impl_Node_impl_Node_2.f (k : Nat) (a0 : (List SNode)) : Option Int := (slices_IndexFunc___impl_Node_impl_Node_2.e2 k a0).bind fun v => match v with | .inl r => some r | .inr _ => some (-1)
theorem slices_IndexFunc___impl_Node_impl_Node_2.fn {k : Nat} {a0 : (List SNode)} {r : Int} (H : slices_IndexFunc___impl_Node_impl_Node_2.f k a0 = some r) : Fn Tryd.prog 107 [o1 (.sl 5 (List.map eSNode a0)), o1 (.fn 82 [.cel ([.sc (.func (.func 76) #[] #[])]) 0])] [] (oI r) [] := by
 refine Fn.bd [4] Tryd.func107 ?_
 refine rn [0, 1] 0 [] [] ?_
 refine jr H (fun _ => ⟨19, [], [], 0, []⟩) (fun _ H => ?_) fun v16 h15 H => ?_
 ·refine rn [4] 0 [] [] ?_
  refine Tri.ret ?_
  obtain rfl := si H;exact eR
 refine rn [0, 1, 7, 8] 0 [] [hL 1 eSNode a0] ?_
 refine bl ?_
 refine lo Int k (fun k x => slices_IndexFunc___impl_Node_impl_Node_2.l1 k a0 x) (fun x => ⟨19, [(0, o1 (.sl 5 (List.map eSNode a0))), (1, o1 (.fn 82 [.cel ([.sc (.func (.func 76) #[] #[])]) 0])), (7, oI (a0.length : Int)), (8, oI x)], [], 0, []⟩) 0 h15 fun k z7 h15 IH14 => ?_
 rw [slices_IndexFunc___impl_Node_impl_Node_2.l1.eq_2] at h15
 refine rn [0, 1, 7, 8, 9] 0 [] [] ?_
 refine sq ?_
 refine ci h15 (fun h8 h15 => ?_) fun h8 h15 => ?_
 ·refine sk ?_
  refine sq ?_
  refine bl ?_
  refine rn [0, 1, 5, 7, 8] 0 [] [] ?_
  obtain ⟨x9, h10, h15⟩ := bs h15
  obtain ⟨r11, h12, h15⟩ := bs h15
  refine rn [0, 1, 5, 7, 8, 16] 0 [] [hEv 3 eSNode_v h10, hC 5 (impl_areAll_impl_Node__1_2.fn h12)] ?_
  refine cb h15 (fun h13 h15 => ?_) fun h13 h15 => ?_
  ·refine rn [4] 0 [] [] ?_
   refine Tri.ret ?_
   obtain rfl := si h15;obtain rfl := si H;exact eR
  refine sk ?_
  refine rl [0, 1, 7, 8] 0 [] [] ?_
  exact lb IH14 (w64 (z7 + 1)) h15
 refine fx [] 0 [] ?_
 refine xi ?_
 exact pe () h15
/-! slices_ContainsFunc___impl_Node_impl_Node_2: function 81 -/
def slices_ContainsFunc___impl_Node_impl_Node_2.f (k : Nat) (a0 : (List SNode)) : Option Bool := (slices_IndexFunc___impl_Node_impl_Node_2.f k a0).bind fun r1 => some (decide ((0 : Int) ≤ r1))
theorem slices_ContainsFunc___impl_Node_impl_Node_2.fn {k : Nat} {a0 : (List SNode)} {r : Bool} (H : slices_ContainsFunc___impl_Node_impl_Node_2.f k a0 = some r) : Fn Tryd.prog 81 [o1 (.sl 5 (List.map eSNode a0)), o1 (.fn 82 [.cel ([.sc (.func (.func 76) #[] #[])]) 0])] [] (oB r) [] := by
 refine Fn.bd [4] Tryd.func81 ?_
 refine rn [0, 1] 0 [] [] ?_
 obtain ⟨r1, h2, H⟩ := bs H
 refine rn [4] 0 [] [hC 2 (slices_IndexFunc___impl_Node_impl_Node_2.fn h2)] ?_
 refine Tri.ret ?_
 obtain rfl := si H;exact eR
/-! impl_areAll_impl_Node_2: function 48 -/
def impl_areAll_impl_Node_2.f (k : Nat) (a0 : (List SNode)) : Option Bool := (slices_ContainsFunc___impl_Node_impl_Node_2.f k a0).bind fun r1 => some (!r1)
theorem impl_areAll_impl_Node_2.fn {k : Nat} {a0 : (List SNode)} {r : Bool} (H : impl_areAll_impl_Node_2.f k a0 = some r) : Fn Tryd.prog 48 [o1 (.sl 5 (List.map eSNode a0)), o1 (.sc (.func (.func 76) #[] #[]))] [] (oB r) [] := by
 refine Fn.bd [4] Tryd.func48 ?_
 refine rn [0, 3] 1 [] [] ?_
 obtain ⟨r1, h2, H⟩ := bs H
 refine rn [4] 0 [] [hC 2 (slices_ContainsFunc___impl_Node_impl_Node_2.fn h2)] ?_
 refine Tri.ret ?_
 obtain rfl := si H;exact eR
/-! impl_areKids_5: function 75 -/
def impl_areKids_5.e1 (k : Nat) (a1_1 : Int) (z15 : Int) (x17 : SNode) : Option Bool := if z15 = 0 then ((impl_isExpression.f k x17).bind fun r20 => some (!r20)) else (if z15 = 1 then ((impl_isOf_1_1.f k x17 a1_1).bind fun r23 => some (!r23)) else (none))
def impl_areKids_5.l2 : Nat → (List SNode) → Int → Int → Option (Bool ⊕ Unit)
  | 0, _, _, _ => none
  | k + 1, a0, a1_1, z15 => if z15 < (a0.length : Int) then ((at? a0 z15).bind fun x17 => (impl_areKids_5.e1 k a1_1 z15 x17).bind fun y25 => if y25 = true then (some (.inl false)) else (impl_areKids_5.l2 k a0 a1_1 (w64 (z15 + 1)))) else (some (.inr ()))
def impl_areKids_5.e3 (k : Nat) (a0 : (List SNode)) (a1_1 : Int) : Option (Bool ⊕ Unit) := impl_areKids_5.l2 k a0 a1_1 0
def impl_areKids_5.f (k : Nat) (a0 : (List SNode)) (a1_1 : Int) : Option Bool := if (a0.length : Int) = 2 then ((impl_areKids_5.e3 k a0 a1_1).bind fun v => match v with | .inl r => some r | .inr _ => some true) else (some false)
theorem impl_areKids_5.fn {k : Nat} {a0 : (List SNode)} {a1_1 : Int} {r : Bool} (H : impl_areKids_5.f k a0 a1_1 = some r) : Fn Tryd.prog 75 [o1 (.sl 5 (List.map eSNode a0)), o1 (.sl 1 [[.sc (.func (.func 76) #[] #[])], [.fn 106 [.cel [cI a1_1] 0]]])] [] (oB r) [] := by
 refine Fn.bd [4] Tryd.func75 ?_
 refine rn [0, 1] 0 [] [] ?_
 refine sq ?_
 refine rn [0, 1, 11] 0 [] [hL 1 eSNode a0] ?_
 refine cn H (fun h1 H => ?_) fun h1 H => ?_
 ·refine sk ?_
  refine jr H (fun _ => ⟨27, [], [], 0, []⟩) (fun _ H => ?_) fun v31 h30 H => ?_
  ·refine rn [4] 0 [] [] ?_
   refine Tri.ret ?_
   obtain rfl := si H;exact eR
  refine rn [1, 12, 13, 14] 0 [] [hL 1 eSNode a0] ?_
  refine bl ?_
  refine lo Int k (fun k x => impl_areKids_5.l2 k a0 a1_1 x) (fun x => ⟨27, [(1, o1 (.sl 1 [[.sc (.func (.func 76) #[] #[])], [.fn 106 [.cel [cI a1_1] 0]]])), (12, o1 (.sl 5 (List.map eSNode a0))), (13, oI (a0.length : Int)), (14, oI x)], [], 0, []⟩) 0 h30 fun k z15 h30 IH29 => ?_
  rw [impl_areKids_5.l2.eq_2] at h30
  refine rn [1, 12, 13, 14, 15] 0 [] [] ?_
  refine sq ?_
  refine ci h30 (fun h16 h30 => ?_) fun h16 h30 => ?_
  ·refine sk ?_
   refine sq ?_
   refine bl ?_
   obtain ⟨x17, h18, h30⟩ := bs h30
   refine rn [1, 5, 6, 12, 13, 14] 1 [] [hEv 1 eSNode_v h18] ?_
   refine jo h30 (fun y25 => ⟨27, [(1, o1 (.sl 1 [[.sc (.func (.func 76) #[] #[])], [.fn 106 [.cel [cI a1_1] 0]]])), (12, o1 (.sl 5 (List.map eSNode a0))), (13, oI (a0.length : Int)), (14, oI z15), (25, oB y25)], [], 0, []⟩) (fun y25 h30 => ?_) fun v27 h26 h30 => ?_
   ·refine cb h30 (fun h28 h30 => ?_) fun h28 h30 => ?_
    ·refine rn [4] 0 [] [] ?_
     refine Tri.ret ?_
     obtain rfl := si h30;obtain rfl := si H;exact eR
    refine sk ?_
    refine rl [1, 12, 13, 14] 0 [] [] ?_
    exact lb IH29 (w64 (z15 + 1)) h30
   rcases ite_some h26 with ⟨h19, h26⟩ | ⟨h19, h26⟩
   ·obtain ⟨r20, h21, h26⟩ := bs h26
    refine dl hmix 5 [[], [], [0, 1], [0, 1, 2], [], [0, 1, 2, 3, 4], [0, 1, 2, 3, 4, 5]] [1, 12, 13, 14, 25] 0 [] [q2 2 (.el [.sc (.func (.func 76) #[] #[])]) (ix0 (m := 0) h19) (ix1 (m := 0) (xs := [[.sc (.func (.func 76) #[] #[])], [.fn 106 [.cel [cI a1_1] 0]]]) h19), hC 5 (impl_isExpression.fn h21)] ?_
    exact pf (!r20) h26
   rcases ite_some h26 with ⟨h22, h26⟩ | ⟨h22, h26⟩
   ·obtain ⟨r23, h24, h26⟩ := bs h26
    refine dl hmix 5 [[], [], [0, 1], [0, 1, 2], [], [0, 1, 2, 3, 4], [0, 1, 2, 3, 4, 5]] [1, 12, 13, 14, 25] 0 [] [q2 2 (.el [.fn 106 [.cel [cI a1_1] 0]]) (ix0 (m := 1) h22) (ix1 (m := 1) (xs := [[.sc (.func (.func 76) #[] #[])], [.fn 106 [.cel [cI a1_1] 0]]]) h22), hC 5 (impl_isOf_1_1.fn h24)] ?_
    exact pf (!r23) h26
   cases h26
  refine fx [] 0 [] ?_
  refine xi ?_
  exact pe () h30
 refine rn [4] 0 [] [] ?_
 refine Tri.ret ?_
 obtain rfl := si H;exact eR
/-! impl_areKids_6: function 75 -/
def impl_areKids_6.e1 (k : Nat) (a1_1 : Int) (a1_2 : Int) (z18 : Int) (x20 : SNode) : Option Bool := if z18 = 0 then ((impl_isExpression.f k x20).bind fun r23 => some (!r23)) else (if z18 = 1 then ((impl_isOf_1_1.f k x20 a1_1).bind fun r26 => some (!r26)) else (if z18 = 2 then ((impl_isOf_1_1.f k x20 a1_2).bind fun r29 => some (!r29)) else (none)))
def impl_areKids_6.l2 : Nat → (List SNode) → Int → Int → Int → Option (Bool ⊕ Unit)
  | 0, _, _, _, _ => none
  | k + 1, a0, a1_1, a1_2, z18 => if z18 < (a0.length : Int) then ((at? a0 z18).bind fun x20 => (impl_areKids_6.e1 k a1_1 a1_2 z18 x20).bind fun y31 => if y31 = true then (some (.inl false)) else (impl_areKids_6.l2 k a0 a1_1 a1_2 (w64 (z18 + 1)))) else (some (.inr ()))
def impl_areKids_6.e3 (k : Nat) (a0 : (List SNode)) (a1_1 : Int) (a1_2 : Int) : Option (Bool ⊕ Unit) := impl_areKids_6.l2 k a0 a1_1 a1_2 0
def impl_areKids_6.f (k : Nat) (a0 : (List SNode)) (a1_1 : Int) (a1_2 : Int) : Option Bool := if (a0.length : Int) = 3 then ((impl_areKids_6.e3 k a0 a1_1 a1_2).bind fun v => match v with | .inl r => some r | .inr _ => some true) else (some false)
theorem impl_areKids_6.fn {k : Nat} {a0 : (List SNode)} {a1_1 : Int} {a1_2 : Int} {r : Bool} (H : impl_areKids_6.f k a0 a1_1 a1_2 = some r) : Fn Tryd.prog 75 [o1 (.sl 5 (List.map eSNode a0)), o1 (.sl 1 [[.sc (.func (.func 76) #[] #[])], [.fn 106 [.cel [cI a1_1] 0]], [.fn 106 [.cel [cI a1_2] 0]]])] [] (oB r) [] := by
 refine Fn.bd [4] Tryd.func75 ?_
 refine rn [0, 1] 0 [] [] ?_
 refine sq ?_
 refine rn [0, 1, 11] 0 [] [hL 1 eSNode a0] ?_
 refine cn H (fun h1 H => ?_) fun h1 H => ?_
 ·refine sk ?_
  refine jr H (fun _ => ⟨27, [], [], 0, []⟩) (fun _ H => ?_) fun v37 h36 H => ?_
  ·refine rn [4] 0 [] [] ?_
   refine Tri.ret ?_
   obtain rfl := si H;exact eR
  refine rn [1, 12, 13, 14] 0 [] [hL 1 eSNode a0] ?_
  refine bl ?_
  refine lo Int k (fun k x => impl_areKids_6.l2 k a0 a1_1 a1_2 x) (fun x => ⟨27, [(1, o1 (.sl 1 [[.sc (.func (.func 76) #[] #[])], [.fn 106 [.cel [cI a1_1] 0]], [.fn 106 [.cel [cI a1_2] 0]]])), (12, o1 (.sl 5 (List.map eSNode a0))), (13, oI (a0.length : Int)), (14, oI x)], [], 0, []⟩) 0 h36 fun k z18 h36 IH35 => ?_
  rw [impl_areKids_6.l2.eq_2] at h36
  refine rn [1, 12, 13, 14, 15] 0 [] [] ?_
  refine sq ?_
  refine ci h36 (fun h19 h36 => ?_) fun h19 h36 => ?_
  ·refine sk ?_
   refine sq ?_
   refine bl ?_
   obtain ⟨x20, h21, h36⟩ := bs h36
   refine rn [1, 5, 6, 12, 13, 14] 1 [] [hEv 1 eSNode_v h21] ?_
   refine jo h36 (fun y31 => ⟨27, [(1, o1 (.sl 1 [[.sc (.func (.func 76) #[] #[])], [.fn 106 [.cel [cI a1_1] 0]], [.fn 106 [.cel [cI a1_2] 0]]])), (12, o1 (.sl 5 (List.map eSNode a0))), (13, oI (a0.length : Int)), (14, oI z18), (25, oB y31)], [], 0, []⟩) (fun y31 h36 => ?_) fun v33 h32 h36 => ?_
   ·refine cb h36 (fun h34 h36 => ?_) fun h34 h36 => ?_
    ·refine rn [4] 0 [] [] ?_
     refine Tri.ret ?_
     obtain rfl := si h36;obtain rfl := si H;exact eR
    refine sk ?_
    refine rl [1, 12, 13, 14] 0 [] [] ?_
    exact lb IH35 (w64 (z18 + 1)) h36
   rcases ite_some h32 with ⟨h22, h32⟩ | ⟨h22, h32⟩
   ·obtain ⟨r23, h24, h32⟩ := bs h32
    refine dl hmix 5 [[], [], [0, 1], [0, 1, 2], [], [0, 1, 2, 3, 4], [0, 1, 2, 3, 4, 5]] [1, 12, 13, 14, 25] 0 [] [q2 2 (.el [.sc (.func (.func 76) #[] #[])]) (ix0 (m := 0) h22) (ix1 (m := 0) (xs := [[.sc (.func (.func 76) #[] #[])], [.fn 106 [.cel [cI a1_1] 0]], [.fn 106 [.cel [cI a1_2] 0]]]) h22), hC 5 (impl_isExpression.fn h24)] ?_
    exact pf (!r23) h32
   rcases ite_some h32 with ⟨h25, h32⟩ | ⟨h25, h32⟩
   ·obtain ⟨r26, h27, h32⟩ := bs h32
    refine dl hmix 5 [[], [], [0, 1], [0, 1, 2], [], [0, 1, 2, 3, 4], [0, 1, 2, 3, 4, 5]] [1, 12, 13, 14, 25] 0 [] [q2 2 (.el [.fn 106 [.cel [cI a1_1] 0]]) (ix0 (m := 1) h25) (ix1 (m := 1) (xs := [[.sc (.func (.func 76) #[] #[])], [.fn 106 [.cel [cI a1_1] 0]], [.fn 106 [.cel [cI a1_2] 0]]]) h25), hC 5 (impl_isOf_1_1.fn h27)] ?_
    exact pf (!r26) h32
   rcases ite_some h32 with ⟨h28, h32⟩ | ⟨h28, h32⟩
   ·obtain ⟨r29, h30, h32⟩ := bs h32
    refine dl hmix 5 [[], [], [0, 1], [0, 1, 2], [], [0, 1, 2, 3, 4], [0, 1, 2, 3, 4, 5]] [1, 12, 13, 14, 25] 0 [] [q2 2 (.el [.fn 106 [.cel [cI a1_2] 0]]) (ix0 (m := 2) h28) (ix1 (m := 2) (xs := [[.sc (.func (.func 76) #[] #[])], [.fn 106 [.cel [cI a1_1] 0]], [.fn 106 [.cel [cI a1_2] 0]]]) h28), hC 5 (impl_isOf_1_1.fn h30)] ?_
    exact pf (!r29) h32
   cases h32
  refine fx [] 0 [] ?_
  refine xi ?_
  exact pe () h36
 refine rn [4] 0 [] [] ?_
 refine Tri.ret ?_
 obtain rfl := si H;exact eR
/-! impl_areKids_7: function 75 -/
def impl_areKids_7.l1 : Nat → (List SNode) → Int → Option (Bool ⊕ Unit)
  | 0, _, _ => none
  | k + 1, a0, z9 => if z9 < (a0.length : Int) then ((at? a0 z9).bind fun x11 => if z9 = 0 then ((impl_isDesignator.f k x11).bind fun r14 => if r14 = true then (impl_areKids_7.l1 k a0 (w64 (z9 + 1))) else (some (.inl false))) else (none)) else (some (.inr ()))
def impl_areKids_7.e2 (k : Nat) (a0 : (List SNode)) : Option (Bool ⊕ Unit) := impl_areKids_7.l1 k a0 0
def impl_areKids_7.f (k : Nat) (a0 : (List SNode)) : Option Bool := if (a0.length : Int) = 1 then ((impl_areKids_7.e2 k a0).bind fun v => match v with | .inl r => some r | .inr _ => some true) else (some false)
theorem impl_areKids_7.fn {k : Nat} {a0 : (List SNode)} {r : Bool} (H : impl_areKids_7.f k a0 = some r) : Fn Tryd.prog 75 [o1 (.sl 5 (List.map eSNode a0)), o1 (.sl 1 [[.sc (.func (.func 80) #[] #[])]])] [] (oB r) [] := by
 refine Fn.bd [4] Tryd.func75 ?_
 refine rn [0, 1] 0 [] [] ?_
 refine sq ?_
 refine rn [0, 1, 11] 0 [] [hL 1 eSNode a0] ?_
 refine cn H (fun h1 H => ?_) fun h1 H => ?_
 ·refine sk ?_
  refine jr H (fun _ => ⟨27, [], [], 0, []⟩) (fun _ H => ?_) fun v19 h18 H => ?_
  ·refine rn [4] 0 [] [] ?_
   refine Tri.ret ?_
   obtain rfl := si H;exact eR
  refine rn [1, 12, 13, 14] 0 [] [hL 1 eSNode a0] ?_
  refine bl ?_
  refine lo Int k (fun k x => impl_areKids_7.l1 k a0 x) (fun x => ⟨27, [(1, o1 (.sl 1 [[.sc (.func (.func 80) #[] #[])]])), (12, o1 (.sl 5 (List.map eSNode a0))), (13, oI (a0.length : Int)), (14, oI x)], [], 0, []⟩) 0 h18 fun k z9 h18 IH17 => ?_
  rw [impl_areKids_7.l1.eq_2] at h18
  refine rn [1, 12, 13, 14, 15] 0 [] [] ?_
  refine sq ?_
  refine ci h18 (fun h10 h18 => ?_) fun h10 h18 => ?_
  ·refine sk ?_
   refine sq ?_
   refine bl ?_
   obtain ⟨x11, h12, h18⟩ := bs h18
   refine rn [1, 5, 6, 12, 13, 14] 1 [] [hEv 1 eSNode_v h12] ?_
   rcases ite_some h18 with ⟨h13, h18⟩ | ⟨h13, h18⟩
   ·obtain ⟨r14, h15, h18⟩ := bs h18
    refine dn hmix 5 [[], [], [0, 1], [0, 1, 2], [], [0, 1, 2, 3, 4], [0, 1, 2, 3, 4, 5]] [1, 12, 13, 14, 25] 0 [] [q2 2 (.el [.sc (.func (.func 80) #[] #[])]) (ix0 (m := 0) h13) (ix1 (m := 0) (xs := [[.sc (.func (.func 80) #[] #[])]]) h13), hC 5 (impl_isDesignator.fn h15)] ?_
    refine cm h18 (fun h16 h18 => ?_) fun h16 h18 => ?_
    ·refine sk ?_
     refine rl [1, 12, 13, 14] 0 [] [] ?_
     exact lb IH17 (w64 (z9 + 1)) h18
    refine rn [4] 0 [] [] ?_
    refine Tri.ret ?_
    obtain rfl := si h18;obtain rfl := si H;exact eR
   cases h18
  refine fx [] 0 [] ?_
  refine xi ?_
  exact pe () h18
 refine rn [4] 0 [] [] ?_
 refine Tri.ret ?_
 obtain rfl := si H;exact eR
/-! impl_areKids_8: function 75 -/
def impl_areKids_8.e1 (k : Nat) (a1_1 : Int) (z15 : Int) (x17 : SNode) : Option Bool := if z15 = 0 then ((impl_isOf_1_1.f k x17 a1_1).bind fun r20 => some (!r20)) else (if z15 = 1 then ((impl_isExpression.f k x17).bind fun r23 => some (!r23)) else (none))
def impl_areKids_8.l2 : Nat → (List SNode) → Int → Int → Option (Bool ⊕ Unit)
  | 0, _, _, _ => none
  | k + 1, a0, a1_1, z15 => if z15 < (a0.length : Int) then ((at? a0 z15).bind fun x17 => (impl_areKids_8.e1 k a1_1 z15 x17).bind fun y25 => if y25 = true then (some (.inl false)) else (impl_areKids_8.l2 k a0 a1_1 (w64 (z15 + 1)))) else (some (.inr ()))
def impl_areKids_8.e3 (k : Nat) (a0 : (List SNode)) (a1_1 : Int) : Option (Bool ⊕ Unit) := impl_areKids_8.l2 k a0 a1_1 0
def impl_areKids_8.f (k : Nat) (a0 : (List SNode)) (a1_1 : Int) : Option Bool := if (a0.length : Int) = 2 then ((impl_areKids_8.e3 k a0 a1_1).bind fun v => match v with | .inl r => some r | .inr _ => some true) else (some false)
theorem impl_areKids_8.fn {k : Nat} {a0 : (List SNode)} {a1_1 : Int} {r : Bool} (H : impl_areKids_8.f k a0 a1_1 = some r) : Fn Tryd.prog 75 [o1 (.sl 5 (List.map eSNode a0)), o1 (.sl 1 [[.fn 106 [.cel [cI a1_1] 0]], [.sc (.func (.func 76) #[] #[])]])] [] (oB r) [] := by
 refine Fn.bd [4] Tryd.func75 ?_
 refine rn [0, 1] 0 [] [] ?_
 refine sq ?_
 refine rn [0, 1, 11] 0 [] [hL 1 eSNode a0] ?_
 refine cn H (fun h1 H => ?_) fun h1 H => ?_
 ·refine sk ?_
  refine jr H (fun _ => ⟨27, [], [], 0, []⟩) (fun _ H => ?_) fun v31 h30 H => ?_
  ·refine rn [4] 0 [] [] ?_
   refine Tri.ret ?_
   obtain rfl := si H;exact eR
  refine rn [1, 12, 13, 14] 0 [] [hL 1 eSNode a0] ?_
  refine bl ?_
  refine lo Int k (fun k x => impl_areKids_8.l2 k a0 a1_1 x) (fun x => ⟨27, [(1, o1 (.sl 1 [[.fn 106 [.cel [cI a1_1] 0]], [.sc (.func (.func 76) #[] #[])]])), (12, o1 (.sl 5 (List.map eSNode a0))), (13, oI (a0.length : Int)), (14, oI x)], [], 0, []⟩) 0 h30 fun k z15 h30 IH29 => ?_
  rw [impl_areKids_8.l2.eq_2] at h30
  refine rn [1, 12, 13, 14, 15] 0 [] [] ?_
  refine sq ?_
  refine ci h30 (fun h16 h30 => ?_) fun h16 h30 => ?_
  ·refine sk ?_
   refine sq ?_
   refine bl ?_
   obtain ⟨x17, h18, h30⟩ := bs h30
   refine rn [1, 5, 6, 12, 13, 14] 1 [] [hEv 1 eSNode_v h18] ?_
   refine jo h30 (fun y25 => ⟨27, [(1, o1 (.sl 1 [[.fn 106 [.cel [cI a1_1] 0]], [.sc (.func (.func 76) #[] #[])]])), (12, o1 (.sl 5 (List.map eSNode a0))), (13, oI (a0.length : Int)), (14, oI z15), (25, oB y25)], [], 0, []⟩) (fun y25 h30 => ?_) fun v27 h26 h30 => ?_
   ·refine cb h30 (fun h28 h30 => ?_) fun h28 h30 => ?_
    ·refine rn [4] 0 [] [] ?_
     refine Tri.ret ?_
     obtain rfl := si h30;obtain rfl := si H;exact eR
    refine sk ?_
    refine rl [1, 12, 13, 14] 0 [] [] ?_
    exact lb IH29 (w64 (z15 + 1)) h30
   rcases ite_some h26 with ⟨h19, h26⟩ | ⟨h19, h26⟩
   ·obtain ⟨r20, h21, h26⟩ := bs h26
    refine dl hmix 5 [[], [], [0, 1], [0, 1, 2], [], [0, 1, 2, 3, 4], [0, 1, 2, 3, 4, 5]] [1, 12, 13, 14, 25] 0 [] [q2 2 (.el [.fn 106 [.cel [cI a1_1] 0]]) (ix0 (m := 0) h19) (ix1 (m := 0) (xs := [[.fn 106 [.cel [cI a1_1] 0]], [.sc (.func (.func 76) #[] #[])]]) h19), hC 5 (impl_isOf_1_1.fn h21)] ?_
    exact pf (!r20) h26
   rcases ite_some h26 with ⟨h22, h26⟩ | ⟨h22, h26⟩
   ·obtain ⟨r23, h24, h26⟩ := bs h26
    refine dl hmix 5 [[], [], [0, 1], [0, 1, 2], [], [0, 1, 2, 3, 4], [0, 1, 2, 3, 4, 5]] [1, 12, 13, 14, 25] 0 [] [q2 2 (.el [.sc (.func (.func 76) #[] #[])]) (ix0 (m := 1) h22) (ix1 (m := 1) (xs := [[.fn 106 [.cel [cI a1_1] 0]], [.sc (.func (.func 76) #[] #[])]]) h22), hC 5 (impl_isExpression.fn h24)] ?_
    exact pf (!r23) h26
   cases h26
  refine fx [] 0 [] ?_
  refine xi ?_
  exact pe () h30
 refine rn [4] 0 [] [] ?_
 refine Tri.ret ?_
 obtain rfl := si H;exact eR
/-! impl_areKids_9: function 75 -/
def impl_areKids_9.e1 (k : Nat) (z15 : Int) (x17 : SNode) : Option Bool := if z15 = 0 then ((impl_isExpression.f k x17).bind fun r20 => some (!r20)) else (if z15 = 1 then ((impl_isExpression.f k x17).bind fun r23 => some (!r23)) else (none))
def impl_areKids_9.l2 : Nat → (List SNode) → Int → Option (Bool ⊕ Unit)
  | 0, _, _ => none
  | k + 1, a0, z15 => if z15 < (a0.length : Int) then ((at? a0 z15).bind fun x17 => (impl_areKids_9.e1 k z15 x17).bind fun y25 => if y25 = true then (some (.inl false)) else (impl_areKids_9.l2 k a0 (w64 (z15 + 1)))) else (some (.inr ()))
def impl_areKids_9.e3 (k : Nat) (a0 : (List SNode)) : Option (Bool ⊕ Unit) := impl_areKids_9.l2 k a0 0
def impl_areKids_9.f (k : Nat) (a0 : (List SNode)) : Option Bool := if (a0.length : Int) = 2 then ((impl_areKids_9.e3 k a0).bind fun v => match v with | .inl r => some r | .inr _ => some true) else (some false)
theorem impl_areKids_9.fn {k : Nat} {a0 : (List SNode)} {r : Bool} (H : impl_areKids_9.f k a0 = some r) : Fn Tryd.prog 75 [o1 (.sl 5 (List.map eSNode a0)), o1 (.sl 1 [[.sc (.func (.func 76) #[] #[])], [.sc (.func (.func 76) #[] #[])]])] [] (oB r) [] := by
 refine Fn.bd [4] Tryd.func75 ?_
 refine rn [0, 1] 0 [] [] ?_
 refine sq ?_
 refine rn [0, 1, 11] 0 [] [hL 1 eSNode a0] ?_
 refine cn H (fun h1 H => ?_) fun h1 H => ?_
 ·refine sk ?_
  refine jr H (fun _ => ⟨27, [], [], 0, []⟩) (fun _ H => ?_) fun v31 h30 H => ?_
  ·refine rn [4] 0 [] [] ?_
   refine Tri.ret ?_
   obtain rfl := si H;exact eR
  refine rn [1, 12, 13, 14] 0 [] [hL 1 eSNode a0] ?_
  refine bl ?_
  refine lo Int k (fun k x => impl_areKids_9.l2 k a0 x) (fun x => ⟨27, [(1, o1 (.sl 1 [[.sc (.func (.func 76) #[] #[])], [.sc (.func (.func 76) #[] #[])]])), (12, o1 (.sl 5 (List.map eSNode a0))), (13, oI (a0.length : Int)), (14, oI x)], [], 0, []⟩) 0 h30 fun k z15 h30 IH29 => ?_
  rw [impl_areKids_9.l2.eq_2] at h30
  refine rn [1, 12, 13, 14, 15] 0 [] [] ?_
  refine sq ?_
  refine ci h30 (fun h16 h30 => ?_) fun h16 h30 => ?_
  ·refine sk ?_
   refine sq ?_
   refine bl ?_
   obtain ⟨x17, h18, h30⟩ := bs h30
   refine rn [1, 5, 6, 12, 13, 14] 1 [] [hEv 1 eSNode_v h18] ?_
   refine jo h30 (fun y25 => ⟨27, [(1, o1 (.sl 1 [[.sc (.func (.func 76) #[] #[])], [.sc (.func (.func 76) #[] #[])]])), (12, o1 (.sl 5 (List.map eSNode a0))), (13, oI (a0.length : Int)), (14, oI z15), (25, oB y25)], [], 0, []⟩) (fun y25 h30 => ?_) fun v27 h26 h30 => ?_
   ·refine cb h30 (fun h28 h30 => ?_) fun h28 h30 => ?_
    ·refine rn [4] 0 [] [] ?_
     refine Tri.ret ?_
     obtain rfl := si h30;obtain rfl := si H;exact eR
    refine sk ?_
    refine rl [1, 12, 13, 14] 0 [] [] ?_
    exact lb IH29 (w64 (z15 + 1)) h30
   rcases ite_some h26 with ⟨h19, h26⟩ | ⟨h19, h26⟩
   ·obtain ⟨r20, h21, h26⟩ := bs h26
    refine dl hmix 5 [[], [], [0, 1], [0, 1, 2], [], [0, 1, 2, 3, 4], [0, 1, 2, 3, 4, 5]] [1, 12, 13, 14, 25] 0 [] [q2 2 (.el [.sc (.func (.func 76) #[] #[])]) (ix0 (m := 0) h19) (ix1 (m := 0) (xs := [[.sc (.func (.func 76) #[] #[])], [.sc (.func (.func 76) #[] #[])]]) h19), hC 5 (impl_isExpression.fn h21)] ?_
    exact pf (!r20) h26
   rcases ite_some h26 with ⟨h22, h26⟩ | ⟨h22, h26⟩
   ·obtain ⟨r23, h24, h26⟩ := bs h26
    refine dl hmix 5 [[], [], [0, 1], [0, 1, 2], [], [0, 1, 2, 3, 4], [0, 1, 2, 3, 4, 5]] [1, 12, 13, 14, 25] 0 [] [q2 2 (.el [.sc (.func (.func 76) #[] #[])]) (ix0 (m := 1) h22) (ix1 (m := 1) (xs := [[.sc (.func (.func 76) #[] #[])], [.sc (.func (.func 76) #[] #[])]]) h22), hC 5 (impl_isExpression.fn h24)] ?_
    exact pf (!r23) h26
   cases h26
  refine fx [] 0 [] ?_
  refine xi ?_
  exact pe () h30
 refine rn [4] 0 [] [] ?_
 refine Tri.ret ?_
 obtain rfl := si H;exact eR
/-! impl_Node__hasKids: function 47 -/
def impl_Node__hasKids.e1 (k : Nat) (a0 : SNode) : Option Bool := (impl_areGroups.f k a0.f4 ([2, 3, 4, 5, 10] : List Int)).bind fun r2 => if r2 = true then ((impl_countOf.f k a0.f4 10).bind fun r5 => some (decide (r5 = 1))) else (some false)
def impl_Node__hasKids.e2 (k : Nat) (a0 : SNode) : Option Bool := if a0.f0 = 3 then (some (decide (a0.f0 = 3))) else (if a0.f0 = 16 then (some (decide (a0.f0 = 16))) else (if a0.f0 = 23 then (some (decide (a0.f0 = 23))) else (if a0.f0 = 25 then (some (decide (a0.f0 = 25))) else (some (decide (a0.f0 = 26))))))
def impl_Node__hasKids.e3 (k : Nat) (a0 : SNode) : Option Bool := (impl_areGroups.f k a0.f4 ([6, 7, 4, 10] : List Int)).bind fun r24 => if r24 = true then ((impl_countOf.f k a0.f4 10).bind fun r27 => if r27 = 1 then ((impl_countOf.f k a0.f4 7).bind fun r30 => some (decide (r30 = 1))) else (some false)) else (some false)
def impl_Node__hasKids.e4 (k : Nat) (a0 : SNode) : Option Bool := if a0.f0 = 6 then (some (decide (a0.f0 = 6))) else (some (decide (a0.f0 = 9)))
def impl_Node__hasKids.e5 (k : Nat) (a0 : SNode) : Option Bool := (impl_isOf.f k 10).bind fun r54 => (impl_areKids_5.f k a0.f4 r54).bind fun r56 => if r56 = true then (some true) else ((impl_isOf.f k 10).bind fun r59 => (impl_isOf.f k 10).bind fun r61 => (impl_areKids_6.f k a0.f4 r59 r61).bind fun r63 => some r63)
def impl_Node__hasKids.e6 (k : Nat) (a0 : SNode) : Option Bool := if (a0.f4.length : Int) = 0 then (some true) else ((impl_areKids_1.f k a0.f4).bind fun r75 => some r75)
def impl_Node__hasKids.f (k : Nat) (a0 : SNode) : Option Bool := if a0.f0 = 1 then ((impl_Node__hasKids.e1 k a0).bind fun y7 => some y7) else ((impl_Node__hasKids.e2 k a0).bind fun y14 => if y14 = true then ((impl_areKids_1.f k a0.f4).bind fun r18 => some r18) else (if a0.f0 = 4 then ((impl_areKids_2.f k a0.f4).bind fun r21 => some r21) else (if a0.f0 = 5 then ((impl_Node__hasKids.e3 k a0).bind fun y32 => some y32) else ((impl_Node__hasKids.e4 k a0).bind fun y36 => if y36 = true then ((impl_isOf.f k 8).bind fun r40 => (impl_areKids_3.f k a0.f4 r40).bind fun r42 => some r42) else (if a0.f0 = 10 then ((impl_areAll_impl_Node_1.f k a0.f4).bind fun r45 => some r45) else (if a0.f0 = 11 then ((impl_areKids_4.f k a0.f4).bind fun r48 => some r48) else (if a0.f0 = 12 then ((impl_areAll_impl_Node_2.f k a0.f4).bind fun r51 => some r51) else (if a0.f0 = 13 then ((impl_Node__hasKids.e5 k a0).bind fun y65 => some y65) else (if a0.f0 = 14 then ((impl_isOf.f k 10).bind fun r69 => (impl_areKids_5.f k a0.f4 r69).bind fun r71 => some r71) else (if a0.f0 = 15 then ((impl_Node__hasKids.e6 k a0).bind fun y77 => some y77) else (if a0.f0 = 17 then ((impl_areKids_7.f k a0.f4).bind fun r81 => some r81) else (if a0.f0 = 22 then ((impl_isOf.f k 21).bind fun r84 => (impl_areKids_8.f k a0.f4 r84).bind fun r86 => some r86) else (if a0.f0 = 24 then ((impl_areKids_9.f k a0.f4).bind fun r89 => some r89) else (if a0.f0 = 27 then ((impl_isOf.f k 21).bind fun r92 => (impl_areKids_3.f k a0.f4 r92).bind fun r94 => some r94) else (some (decide ((a0.f4.length : Int) = 0)))))))))))))))))
theorem impl_Node__hasKids.fn {k : Nat} {a0 : SNode} {r : Bool} (H : impl_Node__hasKids.f k a0 = some r) : Fn Tryd.prog 47 [ag (vSNode a0)] [] (oB r) [] := by
 refine Fn.bd [2] Tryd.func47 ?_
 refine rn [1] 1 [] [] ?_
 refine sq ?_
 refine rn [1, 4] 1 [] [] ?_
 refine bl ?_
 refine rn [1, 4, 5] 1 [] [] ?_
 refine ci H (fun h1 H => ?_) fun h1 H => ?_
 ·refine jo H (fun y7 => ⟨139, [(2, oB y7)], [], 0, []⟩) (fun y7 H => ?_) fun v9 h8 H => ?_
  ·refine Tri.ret ?_
   obtain rfl := si H;exact eR
  obtain ⟨r2, h3, h8⟩ := bs h8
  rcases iteb_some h8 with ⟨h4, h8⟩ | ⟨h4, h8⟩
  ·obtain ⟨r5, h6, h8⟩ := bs h8
   refine rl [2] 0 [] [hC 3 (impl_areGroups.fn h3), hB 3 h4, hC 7 (impl_countOf.fn h6)] ?_
   exact pf (decide (r5 = 1)) h8
  refine rl [2] 0 [] [hC 3 (impl_areGroups.fn h3), hB 3 h4] ?_
  exact pf false h8
 refine jo H (fun y14 => ⟨139, [(1, o1 (.ref 0 0)), (4, oI a0.f0), (17, oB y14)], [vSNode a0], 0, []⟩) (fun y14 H => ?_) fun v16 h15 H => ?_
 ·refine cb H (fun h17 H => ?_) fun h17 H => ?_
  ·obtain ⟨r18, h19, H⟩ := bs H
   refine rn [2] 0 [] [hC 3 (impl_areKids_1.fn h19)] ?_
   refine Tri.ret ?_
   obtain rfl := si H;exact eR
  refine rn [1, 4, 27] 1 [] [] ?_
  refine ci H (fun h20 H => ?_) fun h20 H => ?_
  ·obtain ⟨r21, h22, H⟩ := bs H
   refine rn [2] 0 [] [hC 3 (impl_areKids_2.fn h22)] ?_
   refine Tri.ret ?_
   obtain rfl := si H;exact eR
  refine rn [1, 4, 33] 1 [] [] ?_
  refine ci H (fun h23 H => ?_) fun h23 H => ?_
  ·refine jo H (fun y32 => ⟨139, [(2, oB y32)], [], 0, []⟩) (fun y32 H => ?_) fun v34 h33 H => ?_
   ·refine Tri.ret ?_
    obtain rfl := si H;exact eR
   obtain ⟨r24, h25, h33⟩ := bs h33
   rcases iteb_some h33 with ⟨h26, h33⟩ | ⟨h26, h33⟩
   ·obtain ⟨r27, h28, h33⟩ := bs h33
    rcases ite_some h33 with ⟨h29, h33⟩ | ⟨h29, h33⟩
    ·obtain ⟨r30, h31, h33⟩ := bs h33
     refine rl [2] 0 [] [hC 3 (impl_areGroups.fn h25), hB 3 h26, hC 7 (impl_countOf.fn h28), hB 8 (decide_eq_true h29), hC 13 (impl_countOf.fn h31)] ?_
     exact pf (decide (r30 = 1)) h33
    refine rl [2] 0 [] [hC 3 (impl_areGroups.fn h25), hB 3 h26, hC 7 (impl_countOf.fn h28), hB 8 (decide_eq_false h29)] ?_
    exact pf false h33
   refine rl [2] 0 [] [hC 3 (impl_areGroups.fn h25), hB 3 h26] ?_
   exact pf false h33
  refine jo H (fun y36 => ⟨139, [(1, o1 (.ref 0 0)), (4, oI a0.f0), (51, oB y36)], [vSNode a0], 0, []⟩) (fun y36 H => ?_) fun v38 h37 H => ?_
  ·refine cb H (fun h39 H => ?_) fun h39 H => ?_
   ·obtain ⟨r40, h41, H⟩ := bs H
    obtain ⟨r42, h43, H⟩ := bs H
    refine dn hmix 4 [[], [0], [], [2], [0, 1, 2, 3], [0, 1, 2, 3, 4]] [2] 0 [] [hS 2 [] (impl_isOf.fn h41), hC 4 (impl_areKids_3.fn h43)] ?_
    refine Tri.ret ?_
    obtain rfl := si H;exact eR
   refine rn [1, 4, 59] 1 [] [] ?_
   refine ci H (fun h44 H => ?_) fun h44 H => ?_
   ·obtain ⟨r45, h46, H⟩ := bs H
    refine rn [2] 0 [] [hC 2 (impl_areAll_impl_Node_1.fn h46)] ?_
    refine Tri.ret ?_
    obtain rfl := si H;exact eR
   refine rn [1, 4, 64] 1 [] [] ?_
   refine ci H (fun h47 H => ?_) fun h47 H => ?_
   ·obtain ⟨r48, h49, H⟩ := bs H
    refine rn [2] 0 [] [hC 3 (impl_areKids_4.fn h49)] ?_
    refine Tri.ret ?_
    obtain rfl := si H;exact eR
   refine rn [1, 4, 70] 1 [] [] ?_
   refine ci H (fun h50 H => ?_) fun h50 H => ?_
   ·obtain ⟨r51, h52, H⟩ := bs H
    refine rn [2] 0 [] [hC 2 (impl_areAll_impl_Node_2.fn h52)] ?_
    refine Tri.ret ?_
    obtain rfl := si H;exact eR
   refine rn [1, 4, 75] 1 [] [] ?_
   refine ci H (fun h53 H => ?_) fun h53 H => ?_
   ·refine jo H (fun y65 => ⟨139, [(2, oB y65)], [], 0, []⟩) (fun y65 H => ?_) fun v67 h66 H => ?_
    ·refine Tri.ret ?_
     obtain rfl := si H;exact eR
    obtain ⟨r54, h55, h66⟩ := bs h66
    obtain ⟨r56, h57, h66⟩ := bs h66
    rcases iteb_some h66 with ⟨h58, h66⟩ | ⟨h58, h66⟩
    ·refine dl hmix 11 [[], [0], [], [2], [0, 1, 2, 3], [0, 1, 2, 3, 4], [0, 1, 2, 3, 4, 5], [0, 1, 2, 3, 4, 5, 6], [0, 1, 2, 3, 4, 5], [0, 1, 2, 3, 4, 5, 8], [0, 1, 2, 3, 4, 5, 8, 9], [0, 1, 2, 3, 4, 5, 6, 7, 8, 9, 10], [0, 1, 2, 3, 4, 5, 6, 7, 8, 9, 10, 11], [0, 1, 2, 3, 4, 5, 6, 7, 8, 9, 10, 11, 12]] [2] 0 [] [hS 2 [] (impl_isOf.fn h55), hC 4 (impl_areKids_5.fn h57), hB 4 h58] ?_
     exact pf true h66
    obtain ⟨r59, h60, h66⟩ := bs h66
    obtain ⟨r61, h62, h66⟩ := bs h66
    obtain ⟨r63, h64, h66⟩ := bs h66
    refine dl hmix 11 [[], [0], [], [2], [0, 1, 2, 3], [0, 1, 2, 3, 4], [0, 1, 2, 3, 4, 5], [0, 1, 2, 3, 4, 5, 6], [0, 1, 2, 3, 4, 5], [0, 1, 2, 3, 4, 5, 8], [0, 1, 2, 3, 4, 5, 8, 9], [0, 1, 2, 3, 4, 5, 6, 7, 8, 9, 10], [0, 1, 2, 3, 4, 5, 6, 7, 8, 9, 10, 11], [0, 1, 2, 3, 4, 5, 6, 7, 8, 9, 10, 11, 12]] [2] 0 [] [hS 2 [] (impl_isOf.fn h55), hC 4 (impl_areKids_5.fn h57), hB 4 h58, hS 8 [] (impl_isOf.fn h60), hS 9 [] (impl_isOf.fn h62), hC 11 (impl_areKids_6.fn h64)] ?_
    exact pf r63 h66
   refine rn [1, 4, 90] 1 [] [] ?_
   refine ci H (fun h68 H => ?_) fun h68 H => ?_
   ·obtain ⟨r69, h70, H⟩ := bs H
    obtain ⟨r71, h72, H⟩ := bs H
    refine dx hmix 4 [[], [0], [], [2], [0, 1, 2, 3], [0, 1, 2, 3, 4]] [2] 0 [] [hS 2 [] (impl_isOf.fn h70), hC 4 (impl_areKids_5.fn h72)] ⟨139, [(2, oB r71)], [], 0, []⟩ ?_
    refine Tri.ret ?_
    obtain rfl := si H;exact eR
   refine rx [1, 4, 97] 1 [] [] ⟨139, [(1, o1 (.ref 0 0)), (4, oI a0.f0), (97, oB (decide (a0.f0 = 15)))], [vSNode a0], 0, []⟩ ?_
   refine ci H (fun h73 H => ?_) fun h73 H => ?_
   ·refine jo H (fun y77 => ⟨139, [(2, oB y77)], [], 0, []⟩) (fun y77 H => ?_) fun v79 h78 H => ?_
    ·refine Tri.ret ?_
     obtain rfl := si H;exact eR
    rcases ite_some h78 with ⟨h74, h78⟩ | ⟨h74, h78⟩
    ·refine rl [2] 0 [] [hL 2 eSNode a0.f4, hB 3 (decide_eq_true h74)] ?_
     exact pf true h78
    obtain ⟨r75, h76, h78⟩ := bs h78
    refine rl [2] 0 [] [hL 2 eSNode a0.f4, hB 3 (decide_eq_false h74), hC 8 (impl_areKids_1.fn h76)] ?_
    exact pf r75 h78
   refine rn [1, 4, 109] 1 [] [] ?_
   refine ci H (fun h80 H => ?_) fun h80 H => ?_
   ·obtain ⟨r81, h82, H⟩ := bs H
    refine rn [2] 0 [] [hC 3 (impl_areKids_7.fn h82)] ?_
    refine Tri.ret ?_
    obtain rfl := si H;exact eR
   refine rn [1, 4, 115] 1 [] [] ?_
   refine ci H (fun h83 H => ?_) fun h83 H => ?_
   ·obtain ⟨r84, h85, H⟩ := bs H
    obtain ⟨r86, h87, H⟩ := bs H
    refine dn hmix 4 [[], [0], [], [2], [0, 1, 2, 3], [0, 1, 2, 3, 4]] [2] 0 [] [hS 2 [] (impl_isOf.fn h85), hC 4 (impl_areKids_8.fn h87)] ?_
    refine Tri.ret ?_
    obtain rfl := si H;exact eR
   refine rn [1, 4, 122] 1 [] [] ?_
   refine ci H (fun h88 H => ?_) fun h88 H => ?_
   ·obtain ⟨r89, h90, H⟩ := bs H
    refine rn [2] 0 [] [hC 3 (impl_areKids_9.fn h90)] ?_
    refine Tri.ret ?_
    obtain rfl := si H;exact eR
   refine rn [1, 128] 1 [] [] ?_
   refine ci H (fun h91 H => ?_) fun h91 H => ?_
   ·obtain ⟨r92, h93, H⟩ := bs H
    obtain ⟨r94, h95, H⟩ := bs H
    refine dn hmix 4 [[], [0], [], [2], [0, 1, 2, 3], [0, 1, 2, 3, 4]] [2] 0 [] [hS 2 [] (impl_isOf.fn h93), hC 4 (impl_areKids_3.fn h95)] ?_
    refine Tri.ret ?_
    obtain rfl := si H;exact eR
   refine sk ?_
   refine rn [2] 0 [] [hL 2 eSNode a0.f4] ?_
   refine Tri.ret ?_
   obtain rfl := si H;exact eR
  refine rn [1, 4, 51] 1 [] [] ?_
  refine ci h37 (fun h35 h37 => ?_) fun h35 h37 => ?_
  ·refine sk ?_
   exact pf (decide (a0.f0 = 6)) h37
  refine rl [1, 4, 51] 1 [] [] ?_
  exact pf (decide (a0.f0 = 9)) h37
 refine rn [1, 4, 17] 1 [] [] ?_
 refine ci h15 (fun h10 h15 => ?_) fun h10 h15 => ?_
 ·refine sk ?_
  exact pf (decide (a0.f0 = 3)) h15
 refine rn [1, 4, 17] 1 [] [] ?_
 refine ci h15 (fun h11 h15 => ?_) fun h11 h15 => ?_
 ·refine sk ?_
  exact pf (decide (a0.f0 = 16)) h15
 refine rx [1, 4, 17] 1 [] [] ⟨139, [(1, o1 (.ref 0 0)), (4, oI a0.f0), (17, oB (decide (a0.f0 = 23)))], [vSNode a0], 0, []⟩ ?_
 refine ci h15 (fun h12 h15 => ?_) fun h12 h15 => ?_
 ·refine sk ?_
  exact pf (decide (a0.f0 = 23)) h15
 refine rn [1, 4, 17] 1 [] [] ?_
 refine ci h15 (fun h13 h15 => ?_) fun h13 h15 => ?_
 ·refine sk ?_
  exact pf (decide (a0.f0 = 25)) h15
 refine rl [1, 4, 17] 1 [] [] ?_
 exact pf (decide (a0.f0 = 26)) h15
/-! impl_Node__fits_1_3: function 49 -/
def impl_Node__fits_1_3.f (k : Nat) (rec_impl_Node__fits_2 : (SNode → Int → Int → Option (Bool × Int))) (a0 : SNode) (b0 : Int) (b2 : Int) : Option (Bool × Int) := (rec_impl_Node__fits_2 a0 (w64 (b0 + 1)) b2).bind fun r1 => some (r1.1, r1.2)
theorem impl_Node__fits_1_3.fn {k : Nat} {rec_impl_Node__fits_2 : (SNode → Int → Int → Option (Bool × Int))} (ih_impl_Node__fits_2 : ∀ {a0 : SNode} {a1 : Int} {b0 : Int} {r : (Bool × Int)} (H : rec_impl_Node__fits_2 a0 a1 b0 = some r), FnG Tryd.prog 26 [ag (vSNode a0), oI a1, o1 (.ref 0 0)] [] [[cI b0]] (oB r.1) [] [[cI r.2]]) {a0 : SNode} {b0 : Int} {b2 : Int} {r : (Bool × Int)} (H : impl_Node__fits_1_3.f k rec_impl_Node__fits_2 a0 b0 b2 = some r) : FnG Tryd.prog 49 [ag (vSNode a0), o1 (.ref 0 0), o1 (.ref 1 0)] [] [[cI b0], [.ref 2 0], [cI b2]] (oB r.1) [] [[cI b0], [.ref 2 0], [cI r.2]] := by
 refine FnG.body (ts := [4]) Tryd.func49 rfl rfl (by decide) (by decide) (Nat.le_of_ble_eq_true rfl) rfl (Nat.le_of_ble_eq_true rfl) ?_
 refine rn [1, 2, 3] 4 [] [] ?_
 obtain ⟨r1, h2, H⟩ := bs H
 refine rn [4] 3 [] [hG 4 [] [2] none (ih_impl_Node__fits_2 h2)] ?_
 refine Tri.ret ?_
 obtain rfl := si H;exact endsG (.inr rfl) (by kernel_rfl)
/-! impl_areAll_impl_Node__1_6: function 82 -/
def impl_areAll_impl_Node__1_6.f (k : Nat) (rec_impl_Node__fits_2 : (SNode → Int → Int → Option (Bool × Int))) (a0 : SNode) (b1 : Int) (b3 : Int) : Option (Bool × Int) := (impl_Node__fits_1_3.f k rec_impl_Node__fits_2 a0 b1 b3).bind fun r1 => some ((!r1.1), r1.2)
theorem impl_areAll_impl_Node__1_6.fn {k : Nat} {rec_impl_Node__fits_2 : (SNode → Int → Int → Option (Bool × Int))} (ih_impl_Node__fits_2 : ∀ {a0 : SNode} {a1 : Int} {b0 : Int} {r : (Bool × Int)} (H : rec_impl_Node__fits_2 a0 a1 b0 = some r), FnG Tryd.prog 26 [ag (vSNode a0), oI a1, o1 (.ref 0 0)] [] [[cI b0]] (oB r.1) [] [[cI r.2]]) {a0 : SNode} {b1 : Int} {b3 : Int} {r : (Bool × Int)} (H : impl_areAll_impl_Node__1_6.f k rec_impl_Node__fits_2 a0 b1 b3 = some r) : FnG Tryd.prog 82 [ag (vSNode a0), o1 (.ref 0 0)] [] [[.fn 49 [.ref 1 0, .ref 2 0]], [cI b1], [.ref 3 0], [cI b3]] (oB r.1) [] [[.fn 49 [.ref 1 0, .ref 2 0]], [cI b1], [.ref 3 0], [cI r.2]] := by
 refine FnG.body (ts := [3]) Tryd.func82 rfl rfl (by decide) (by decide) (Nat.le_of_ble_eq_true rfl) rfl (Nat.le_of_ble_eq_true rfl) ?_
 refine rn [1, 2] 5 [] [] ?_
 obtain ⟨r1, h2, H⟩ := bs H
 refine rn [3] 4 [] [hG 2 [] [1, 2, 3] none (impl_Node__fits_1_3.fn ih_impl_Node__fits_2 h2)] ?_
 refine Tri.ret ?_
 obtain rfl := si H;exact endsG (.inr rfl) (by kernel_rfl)
/-! slices_IndexFunc___impl_Node_impl_Node_6: function 107 -/
def slices_IndexFunc___impl_Node_impl_Node_6.l1 : Nat → (List SNode) → Int → (SNode → Int → Int → Option (Bool × Int)) → Int → Int → Option ((Int × Int) ⊕ Int)
  | 0, _, _, _, _, _ => none
  | k + 1, a0, b1, rec_impl_Node__fits_2, z7, z8 => if z7 < (a0.length : Int) then ((at? a0 z7).bind fun x10 => (impl_areAll_impl_Node__1_6.f k rec_impl_Node__fits_2 x10 b1 z8).bind fun r12 => if r12.1 = true then (some (.inl (z7, r12.2))) else (slices_IndexFunc___impl_Node_impl_Node_6.l1 k a0 b1 rec_impl_Node__fits_2 (w64 (z7 + 1)) r12.2)) else (some (.inr z8))
def slices_IndexFunc___impl_Node_impl_Node_6.e2 (k : Nat) (a0 : (List SNode)) (b1 : Int) (b3 : Int) (rec_impl_Node__fits_2 : (SNode → Int → Int → Option (Bool × Int))) : Option ((Int × Int) ⊕ Int) := slices_IndexFunc___impl_Node_impl_Node_6.l1 k a0 b1 rec_impl_Node__fits_2 0 b3
def slices_IndexFunc___impl_Node_impl_Node_6.f (k : Nat) (rec_impl_Node__fits_2 : (SNode → Int → Int → Option (Bool × Int))) (a0 : (List SNode)) (b1 : Int) (b3 : Int) : Option (Int × Int) := (slices_IndexFunc___impl_Node_impl_Node_6.e2 k a0 b1 b3 rec_impl_Node__fits_2).bind fun v => match v with | .inl r => some r | .inr y16 => some (-1, y16)
theorem slices_IndexFunc___impl_Node_impl_Node_6.fn {k : Nat} {rec_impl_Node__fits_2 : (SNode → Int → Int → Option (Bool × Int))} (ih_impl_Node__fits_2 : ∀ {a0 : SNode} {a1 : Int} {b0 : Int} {r : (Bool × Int)} (H : rec_impl_Node__fits_2 a0 a1 b0 = some r), FnG Tryd.prog 26 [ag (vSNode a0), oI a1, o1 (.ref 0 0)] [] [[cI b0]] (oB r.1) [] [[cI r.2]]) {a0 : (List SNode)} {b1 : Int} {b3 : Int} {r : (Int × Int)} (H : slices_IndexFunc___impl_Node_impl_Node_6.f k rec_impl_Node__fits_2 a0 b1 b3 = some r) : FnG Tryd.prog 107 [o1 (.sl 5 (List.map eSNode a0)), o1 (.fn 82 [.ref 0 0])] [] [[.fn 49 [.ref 1 0, .ref 2 0]], [cI b1], [.ref 3 0], [cI b3]] (oI r.1) [] [[.fn 49 [.ref 1 0, .ref 2 0]], [cI b1], [.ref 3 0], [cI r.2]] := by
 refine FnG.body (ts := [4]) Tryd.func107 rfl rfl (by decide) (by decide) (Nat.le_of_ble_eq_true rfl) rfl (Nat.le_of_ble_eq_true rfl) ?_
 refine rn [0, 1] 4 [] [] ?_
 refine jr H (fun y16 => ⟨19, [], [[.fn 49 [.ref 1 0, .ref 2 0]], [cI b1], [.ref 3 0], [cI y16]], 4, []⟩) (fun y16 H => ?_) fun v18 h17 H => ?_
 ·refine rn [4] 4 [] [] ?_
  refine Tri.ret ?_
  obtain rfl := si H;exact endsG (.inr rfl) (by kernel_rfl)
 refine rn [0, 1, 7, 8] 4 [] [hL 1 eSNode a0] ?_
 refine bl ?_
 refine lo (Int × Int) k (fun k x => slices_IndexFunc___impl_Node_impl_Node_6.l1 k a0 b1 rec_impl_Node__fits_2 x.1 x.2) (fun x => ⟨19, [(0, o1 (.sl 5 (List.map eSNode a0))), (1, o1 (.fn 82 [.ref 0 0])), (7, oI (a0.length : Int)), (8, oI x.1)], [[.fn 49 [.ref 1 0, .ref 2 0]], [cI b1], [.ref 3 0], [cI x.2]], 4, []⟩) (0, b3) h17 fun k x h17 IH15 => ?_
 obtain ⟨z7, z8⟩ := x
 rw [slices_IndexFunc___impl_Node_impl_Node_6.l1.eq_2] at h17
 refine rn [0, 1, 7, 8, 9] 4 [] [] ?_
 refine sq ?_
 refine ci h17 (fun h9 h17 => ?_) fun h9 h17 => ?_
 ·refine sk ?_
  refine sq ?_
  refine bl ?_
  refine rn [0, 1, 5, 7, 8] 4 [] [] ?_
  obtain ⟨x10, h11, h17⟩ := bs h17
  obtain ⟨r12, h13, h17⟩ := bs h17
  refine rn [0, 1, 5, 7, 8, 16] 4 [] [hEv 3 eSNode_v h11, hG 5 [] [0, 1, 2, 3] none (impl_areAll_impl_Node__1_6.fn ih_impl_Node__fits_2 h13)] ?_
  refine cb h17 (fun h14 h17 => ?_) fun h14 h17 => ?_
  ·refine rn [4] 4 [] [] ?_
   refine Tri.ret ?_
   obtain rfl := si h17;obtain rfl := si H;exact endsG (.inr rfl) (by kernel_rfl)
  refine sk ?_
  refine rl [0, 1, 7, 8] 4 [] [] ?_
  exact lb IH15 (w64 (z7 + 1), r12.2) h17
 refine fx [] 4 [] ?_
 refine xi ?_
 exact pe z8 h17
/-! slices_ContainsFunc___impl_Node_impl_Node_6: function 81 -/
def slices_ContainsFunc___impl_Node_impl_Node_6.f (k : Nat) (rec_impl_Node__fits_2 : (SNode → Int → Int → Option (Bool × Int))) (a0 : (List SNode)) (b1 : Int) (b3 : Int) : Option (Bool × Int) := (slices_IndexFunc___impl_Node_impl_Node_6.f k rec_impl_Node__fits_2 a0 b1 b3).bind fun r1 => some ((decide ((0 : Int) ≤ r1.1)), r1.2)
theorem slices_ContainsFunc___impl_Node_impl_Node_6.fn {k : Nat} {rec_impl_Node__fits_2 : (SNode → Int → Int → Option (Bool × Int))} (ih_impl_Node__fits_2 : ∀ {a0 : SNode} {a1 : Int} {b0 : Int} {r : (Bool × Int)} (H : rec_impl_Node__fits_2 a0 a1 b0 = some r), FnG Tryd.prog 26 [ag (vSNode a0), oI a1, o1 (.ref 0 0)] [] [[cI b0]] (oB r.1) [] [[cI r.2]]) {a0 : (List SNode)} {b1 : Int} {b3 : Int} {r : (Bool × Int)} (H : slices_ContainsFunc___impl_Node_impl_Node_6.f k rec_impl_Node__fits_2 a0 b1 b3 = some r) : FnG Tryd.prog 81 [o1 (.sl 5 (List.map eSNode a0)), o1 (.fn 82 [.ref 0 0])] [] [[.fn 49 [.ref 1 0, .ref 2 0]], [cI b1], [.ref 3 0], [cI b3]] (oB r.1) [] [[.fn 49 [.ref 1 0, .ref 2 0]], [cI b1], [.ref 3 0], [cI r.2]] := by
 refine FnG.body (ts := [4]) Tryd.func81 rfl rfl (by decide) (by decide) (Nat.le_of_ble_eq_true rfl) rfl (Nat.le_of_ble_eq_true rfl) ?_
 refine rn [0, 1] 4 [] [] ?_
 obtain ⟨r1, h2, H⟩ := bs H
 refine rn [4] 4 [] [hG 2 [] [0, 1, 2, 3] none (slices_IndexFunc___impl_Node_impl_Node_6.fn ih_impl_Node__fits_2 h2)] ?_
 refine Tri.ret ?_
 obtain rfl := si H;exact endsG (.inr rfl) (by kernel_rfl)
/-! impl_areAll_impl_Node_5: function 48 -/
def impl_areAll_impl_Node_5.f (k : Nat) (rec_impl_Node__fits_2 : (SNode → Int → Int → Option (Bool × Int))) (a0 : (List SNode)) (b0 : Int) (b2 : Int) : Option (Bool × Int) := (slices_ContainsFunc___impl_Node_impl_Node_6.f k rec_impl_Node__fits_2 a0 b0 b2).bind fun r1 => some ((!r1.1), r1.2)
theorem impl_areAll_impl_Node_5.fn {k : Nat} {rec_impl_Node__fits_2 : (SNode → Int → Int → Option (Bool × Int))} (ih_impl_Node__fits_2 : ∀ {a0 : SNode} {a1 : Int} {b0 : Int} {r : (Bool × Int)} (H : rec_impl_Node__fits_2 a0 a1 b0 = some r), FnG Tryd.prog 26 [ag (vSNode a0), oI a1, o1 (.ref 0 0)] [] [[cI b0]] (oB r.1) [] [[cI r.2]]) {a0 : (List SNode)} {b0 : Int} {b2 : Int} {r : (Bool × Int)} (H : impl_areAll_impl_Node_5.f k rec_impl_Node__fits_2 a0 b0 b2 = some r) : FnG Tryd.prog 48 [o1 (.sl 5 (List.map eSNode a0)), o1 (.fn 49 [.ref 0 0, .ref 1 0])] [] [[cI b0], [.ref 2 0], [cI b2]] (oB r.1) [] [[cI b0], [.ref 2 0], [cI r.2]] := by
 refine FnG.body (ts := [4]) Tryd.func48 rfl rfl (by decide) (by decide) (Nat.le_of_ble_eq_true rfl) rfl (Nat.le_of_ble_eq_true rfl) ?_
 refine rn [0, 3] 4 [] [] ?_
 obtain ⟨r1, h2, H⟩ := bs H
 refine rn [4] 3 [] [hG 2 [] [3, 0, 1, 2] none (slices_ContainsFunc___impl_Node_impl_Node_6.fn ih_impl_Node__fits_2 h2)] ?_
 refine Tri.ret ?_
 obtain rfl := si H;exact endsG (.inr rfl) (by kernel_rfl)
/-! impl_Node__fits_2: function 26 -/
def impl_Node__fits_2.e1 (k : Nat) (a0 : SNode) (a1 : Int) (b0 : Int) (rec_impl_Node__fits_2 : (SNode → Int → Int → Option (Bool × Int))) : Option (Bool × Int) := if a1 ≤ 40 then (if (w64 (b0 + 1)) ≤ 700 then ((impl_Node__hasN.f k a0).bind fun r3 => if r3 = true then ((impl_Node__hasNames.f k a0).bind fun r6 => if r6 = true then ((impl_Node__hasKids.f k a0).bind fun r9 => if r9 = true then ((impl_areAll_impl_Node_5.f k rec_impl_Node__fits_2 a0.f4 a1 (w64 (b0 + 1))).bind fun r12 => some (r12.1, r12.2)) else (some (false, w64 (b0 + 1)))) else (some (false, w64 (b0 + 1)))) else (some (false, w64 (b0 + 1)))) else (some (false, w64 (b0 + 1)))) else (some (false, w64 (b0 + 1)))
def impl_Node__fits_2.f : Nat → SNode → Int → Int → Option (Bool × Int)
  | 0, _, _, _ => none
  | k + 1, a0, a1, b0 => (impl_Node__fits_2.e1 k a0 a1 b0 (impl_Node__fits_2.f k)).bind fun v => match v with | (y14, y15) => some (y14, y15)
theorem impl_Node__fits_2.fn {k : Nat} : ∀ {a0 : SNode} {a1 : Int} {b0 : Int} {r : (Bool × Int)} (H : impl_Node__fits_2.f k a0 a1 b0 = some r), FnG Tryd.prog 26 [ag (vSNode a0), oI a1, o1 (.ref 0 0)] [] [[cI b0]] (oB r.1) [] [[cI r.2]] := by
 induction k with
 | zero => intro a0 a1 b0 r H; exact absurd H (by simp [impl_Node__fits_2.f])
 | succ k ih_impl_Node__fits_2 =>
 intro a0 a1 b0 r H
 rw [impl_Node__fits_2.f.eq_2] at H
 generalize impl_Node__fits_2.f k = rec_impl_Node__fits_2 at H ih_impl_Node__fits_2
 refine FnG.body (ts := [6]) Tryd.func26 rfl rfl (by decide) (by decide) (Nat.le_of_ble_eq_true rfl) rfl (Nat.le_of_ble_eq_true rfl) ?_
 refine rn [3, 4, 5] 4 [] [] ?_
 refine rn [3, 4, 5] 4 [] [] ?_
 refine jo H (fun w => ⟨38, [(6, oB w.1)], [[cI w.2]], 1, []⟩) (fun w H => ?_) fun v17 h16 H => ?_
 ·obtain ⟨y14, y15⟩ := w
  refine Tri.ret ?_
  obtain rfl := si H;exact endsG (.inr rfl) (by kernel_rfl)
 rcases ite_some h16 with ⟨h1, h16⟩ | ⟨h1, h16⟩
 ·rcases ite_some h16 with ⟨h2, h16⟩ | ⟨h2, h16⟩
  ·obtain ⟨r3, h4, h16⟩ := bs h16
   rcases iteb_some h16 with ⟨h5, h16⟩ | ⟨h5, h16⟩
   ·obtain ⟨r6, h7, h16⟩ := bs h16
    rcases iteb_some h16 with ⟨h8, h16⟩ | ⟨h8, h16⟩
    ·obtain ⟨r9, h10, h16⟩ := bs h16
     rcases iteb_some h16 with ⟨h11, h16⟩ | ⟨h11, h16⟩
     ·obtain ⟨r12, h13, h16⟩ := bs h16
      refine rl [6] 1 [] [hB 1 (decide_eq_true h1), hB 6 (decide_eq_true h2), hC 10 (impl_Node__hasN.fn h4), hB 10 h5, hC 14 (impl_Node__hasNames.fn h7), hB 14 h8, hC 18 (impl_Node__hasKids.fn h10), hB 18 h11, hG 24 [] [2, 3, 0] none (impl_areAll_impl_Node_5.fn ih_impl_Node__fits_2 h13)] ?_
      exact pf (r12.1, r12.2) h16
     refine rl [6] 1 [] [hB 1 (decide_eq_true h1), hB 6 (decide_eq_true h2), hC 10 (impl_Node__hasN.fn h4), hB 10 h5, hC 14 (impl_Node__hasNames.fn h7), hB 14 h8, hC 18 (impl_Node__hasKids.fn h10), hB 18 h11] ?_
     exact pf (false, w64 (b0 + 1)) h16
    refine rl [6] 1 [] [hB 1 (decide_eq_true h1), hB 6 (decide_eq_true h2), hC 10 (impl_Node__hasN.fn h4), hB 10 h5, hC 14 (impl_Node__hasNames.fn h7), hB 14 h8] ?_
    exact pf (false, w64 (b0 + 1)) h16
   refine rl [6] 1 [] [hB 1 (decide_eq_true h1), hB 6 (decide_eq_true h2), hC 10 (impl_Node__hasN.fn h4), hB 10 h5] ?_
   exact pf (false, w64 (b0 + 1)) h16
  refine rl [6] 1 [] [hB 1 (decide_eq_true h1), hB 6 (decide_eq_false h2)] ?_
  exact pf (false, w64 (b0 + 1)) h16
 refine rl [6] 1 [] [hB 1 (decide_eq_false h1)] ?_
 exact pf (false, w64 (b0 + 1)) h16
/-! impl_TreeOK: function 11 -/
def impl_TreeOK.e1 (k : Nat) (a0 : SNode) : Option Bool := if a0.f0 = 1 then ((impl_Node__fits_2.f k a0 1 0).bind fun r2 => some r2.1) else (some false)
def impl_TreeOK.f (k : Nat) (a0 : SNode) : Option Bool := (impl_TreeOK.e1 k a0).bind fun y4 => some y4
theorem impl_TreeOK.fn {k : Nat} {a0 : SNode} {r : Bool} (H : impl_TreeOK.f k a0 = some r) : Fn Tryd.prog 11 [ag (vSNode a0)] [] (oB r) [] := by
 refine Fn.bd [2] Tryd.func11 ?_
 refine rn [1] 1 [] [] ?_
 refine rn [1, 3] 2 [] [] ?_
 refine jo H (fun y4 => ⟨11, [(2, oB y4)], [], 0, []⟩) (fun y4 H => ?_) fun v6 h5 H => ?_
 ·refine Tri.ret ?_
  obtain rfl := si H;exact eR
 rcases ite_some h5 with ⟨h1, h5⟩ | ⟨h1, h5⟩
 ·obtain ⟨r2, h3, h5⟩ := bs h5
  refine rl [2] 0 [] [hB 2 (decide_eq_true h1), hG 5 [] [1] none (impl_Node__fits_2.fn h3)] ?_
  exact pf r2.1 h5
 refine rl [2] 0 [] [hB 2 (decide_eq_false h1)] ?_
 exact pf false h5
/-! laws_eqNodeS: function 27 -/
def laws_eqNodeS.l1 : Nat → (List SNode) → (List SNode) → (SNode → SNode → Option Bool) → Int → Option (Bool ⊕ Unit)
  | 0, _, _, _, _ => none
  | k + 1, a0, a1, rec_laws_eqNode, z10 => if z10 < (a0.length : Int) then ((at? a0 z10).bind fun x12 => (at? a1 z10).bind fun x14 => (rec_laws_eqNode x12 x14).bind fun r16 => if r16 = true then (laws_eqNodeS.l1 k a0 a1 rec_laws_eqNode (w64 (z10 + 1))) else (some (.inl false))) else (some (.inr ()))
def laws_eqNodeS.e2 (k : Nat) (a0 : (List SNode)) (a1 : (List SNode)) (rec_laws_eqNode : (SNode → SNode → Option Bool)) : Option (Bool ⊕ Unit) := laws_eqNodeS.l1 k a0 a1 rec_laws_eqNode 0
def laws_eqNodeS.f (k : Nat) (rec_laws_eqNode : (SNode → SNode → Option Bool)) (a0 : (List SNode)) (a1 : (List SNode)) : Option Bool := if (a0.length : Int) = (a1.length : Int) then ((laws_eqNodeS.e2 k a0 a1 rec_laws_eqNode).bind fun v => match v with | .inl r => some r | .inr _ => some true) else (some false)
theorem laws_eqNodeS.fn {k : Nat} {rec_laws_eqNode : (SNode → SNode → Option Bool)} (ih_laws_eqNode : ∀ {a0 : SNode} {a1 : SNode} {r : Bool} (H : rec_laws_eqNode a0 a1 = some r), Fn Tryd.prog 12 [ag (vSNode a0), ag (vSNode a1)] [] (oB r) []) {a0 : (List SNode)} {a1 : (List SNode)} {r : Bool} (H : laws_eqNodeS.f k rec_laws_eqNode a0 a1 = some r) : Fn Tryd.prog 27 [o1 (.sl 5 (List.map eSNode a0)), o1 (.sl 5 (List.map eSNode a1))] [] (oB r) [] := by
 refine Fn.bd [4] Tryd.func27 ?_
 refine rn [0, 1] 0 [] [] ?_
 refine sq ?_
 refine rn [0, 1, 10] 0 [] [hL 1 eSNode a0, hL 3 eSNode a1] ?_
 refine cn H (fun h1 H => ?_) fun h1 H => ?_
 ·refine sk ?_
  refine jr H (fun _ => ⟨27, [], [], 0, []⟩) (fun _ H => ?_) fun v21 h20 H => ?_
  ·refine rn [4] 0 [] [] ?_
   refine Tri.ret ?_
   obtain rfl := si H;exact eR
  refine rn [0, 1, 5] 0 [] [] ?_
  refine bl ?_
  refine lo Int k (fun k x => laws_eqNodeS.l1 k a0 a1 rec_laws_eqNode x) (fun x => ⟨27, [(0, o1 (.sl 5 (List.map eSNode a0))), (1, o1 (.sl 5 (List.map eSNode a1))), (5, oI x)], [], 0, []⟩) 0 h20 fun k z10 h20 IH19 => ?_
  rw [laws_eqNodeS.l1.eq_2] at h20
  refine sq ?_
  refine rn [0, 1, 5, 14] 0 [] [hL 2 eSNode a0] ?_
  refine ci h20 (fun h11 h20 => ?_) fun h11 h20 => ?_
  ·refine sk ?_
   refine sq ?_
   refine bl ?_
   obtain ⟨x12, h13, h20⟩ := bs h20
   obtain ⟨x14, h15, h20⟩ := bs h20
   obtain ⟨r16, h17, h20⟩ := bs h20
   refine dn hmix 8 [[], [], [0, 1], [0, 1, 2], [], [], [4, 5], [4, 5, 6], [0, 1, 2, 3, 4, 5, 6, 7], [0, 1, 2, 3, 4, 5, 6, 7, 8]] [0, 1, 5, 26] 0 [] [hEv 2 eSNode_v h13, hEv 6 eSNode_v h15, hC 8 (ih_laws_eqNode h17)] ?_
   refine cm h20 (fun h18 h20 => ?_) fun h18 h20 => ?_
   ·refine sk ?_
    refine rl [0, 1, 5] 0 [] [] ?_
    exact lb IH19 (w64 (z10 + 1)) h20
   refine rn [4] 0 [] [] ?_
   refine Tri.ret ?_
   obtain rfl := si h20;obtain rfl := si H;exact eR
  refine fx [] 0 [] ?_
  refine xi ?_
  exact pe () h20
 refine rn [4] 0 [] [] ?_
 refine Tri.ret ?_
 obtain rfl := si H;exact eR
/-! laws_eqNode: function 12 -/
def laws_eqNode.f : Nat → SNode → SNode → Option Bool
  | 0, _, _ => none
  | k + 1, a0, a1 => if a0.f0 = a1.f0 then (if a0.f1 = a1.f1 then (if a0.f2 = a1.f2 then (if a0.f3 = a1.f3 then ((laws_eqNodeS.f k (laws_eqNode.f k) a0.f4 a1.f4).bind fun r5 => if r5 = true then (some true) else (some false)) else (some false)) else (some false)) else (some false)) else (some false)
theorem laws_eqNode.fn {k : Nat} : ∀ {a0 : SNode} {a1 : SNode} {r : Bool} (H : laws_eqNode.f k a0 a1 = some r), Fn Tryd.prog 12 [ag (vSNode a0), ag (vSNode a1)] [] (oB r) [] := by
 induction k with
 | zero => intro a0 a1 r H; exact absurd H (by simp [laws_eqNode.f])
 | succ k ih_laws_eqNode =>
 intro a0 a1 r H
 rw [laws_eqNode.f.eq_2] at H
 generalize laws_eqNode.f k = rec_laws_eqNode at H ih_laws_eqNode
 refine Fn.bd [4] Tryd.func12 ?_
 refine rn [2, 3] 2 [] [] ?_
 refine sq ?_
 refine rn [2, 3, 9] 2 [] [] ?_
 refine cn H (fun h1 H => ?_) fun h1 H => ?_
 ·refine sk ?_
  refine sq ?_
  refine rn [2, 3, 14] 2 [] [] ?_
  refine cn H (fun h2 H => ?_) fun h2 H => ?_
  ·refine sk ?_
   refine sq ?_
   refine rn [2, 3, 19] 2 [] [] ?_
   refine cn H (fun h3 H => ?_) fun h3 H => ?_
   ·refine sk ?_
    refine sq ?_
    refine rn [2, 3, 24] 2 [] [] ?_
    refine cn H (fun h4 H => ?_) fun h4 H => ?_
    ·refine sk ?_
     refine sq ?_
     obtain ⟨r5, h6, H⟩ := bs H
     refine rx [30] 0 [] [hC 4 (laws_eqNodeS.fn ih_laws_eqNode h6)] ⟨31, [(30, oB (!r5))], [], 0, []⟩ ?_
     refine cm H (fun h7 H => ?_) fun h7 H => ?_
     ·refine sk ?_
      refine rn [4] 0 [] [] ?_
      refine Tri.ret ?_
      obtain rfl := si H;exact eR
     refine rn [4] 0 [] [] ?_
     refine Tri.ret ?_
     obtain rfl := si H;exact eR
    refine rx [4] 0 [] [] ⟨31, [(4, oB false)], [], 0, []⟩ ?_
    refine Tri.ret ?_
    obtain rfl := si H;exact eR
   refine rn [4] 0 [] [] ?_
   refine Tri.ret ?_
   obtain rfl := si H;exact eR
  refine rn [4] 0 [] [] ?_
  refine Tri.ret ?_
  obtain rfl := si H;exact eR
 refine rn [4] 0 [] [] ?_
 refine Tri.ret ?_
 obtain rfl := si H;exact eR
/-! laws_FnExactTreeOK: function 4 -/
def laws_FnExactTreeOK.e1 (k : Nat) (r6 : Bool) (r10 : Bool) : Option (Bool ⊕ Unit) := if r10 = true then (if r6 = true then (some (.inr ())) else (some (.inl false))) else (if r6 = true then (some (.inl false)) else (some (.inr ())))
def laws_FnExactTreeOK.f (k : Nat) (a0 : SNode) : Option Bool := (laws_szNode.f k a0 1048576).bind fun r1 => if r1 < 0 then (some true) else ((laws_toNode.f k a0).bind fun r4 => (spec_TreeOK.f k r4.1).bind fun r6 => (laws_toNode.f k a0).bind fun r8 => (impl_TreeOK.f k r8.1).bind fun r10 => (laws_FnExactTreeOK.e1 k r6 r10).bind fun v => match v with | .inl r => some r | .inr _ => (laws_toNode.f k a0).bind fun r17 => (laws_eqNode.f k r8.1 r17.1).bind fun r19 => if r19 = true then (some true) else (some false))
theorem laws_FnExactTreeOK.fn {k : Nat} {a0 : SNode} {r : Bool} (H : laws_FnExactTreeOK.f k a0 = some r) : Fn Tryd.prog 4 [ag (vSNode a0)] [] (oB r) [] := by
 refine Fn.bd [2] Tryd.func4 ?_
 refine rn [1] 1 [] [] ?_
 refine rn [1, 3] 1 [] [] ?_
 obtain ⟨r1, h2, H⟩ := bs H
 refine rn [1, 3] 1 [] [hC 2 (laws_szNode.fn h2)] ?_
 refine sq ?_
 refine rn [1, 11] 1 [] [] ?_
 refine ci H (fun h3 H => ?_) fun h3 H => ?_
 ·refine rn [2] 0 [] [] ?_
  refine Tri.ret ?_
  obtain rfl := si H;exact eR
 refine sk ?_
 obtain ⟨r4, h5, H⟩ := bs H
 obtain ⟨r6, h7, H⟩ := bs H
 refine rn [1, 4] 1 [] [hG 1 [] [] none (laws_toNode.fn h5), hC 2 (spec_TreeOK.fn h7)] ?_
 obtain ⟨r8, h9, H⟩ := bs H
 refine rx [1, 4, 5] 4 [] [hG 1 [] [] none (laws_toNode.fn h9)] ⟨27, [(1, o1 (.ref 0 0)), (4, oB r6), (5, o1 (.ref 3 0))], [vSNode a0, [cI r8.2.1, cI r8.2.2.1, cS r8.2.2.2.1, cS r8.2.2.2.2.1, .sl 5 (List.map eSNode r8.2.2.2.2.2.1)], [cI r8.2.2.2.2.2.2.1, cI r8.2.2.2.2.2.2.2.1, cS r8.2.2.2.2.2.2.2.2.1, cS r8.2.2.2.2.2.2.2.2.2.1, .sl 5 (List.map eSNode r8.2.2.2.2.2.2.2.2.2.2)], vSNode r8.1], 0, []⟩ ?_
 obtain ⟨r10, h11, H⟩ := bs H
 refine rn [1, 4, 5, 6] 4 [] [hC 1 (impl_TreeOK.fn h11)] ?_
 refine jr H (fun _ => ⟨27, [(1, o1 (.ref 0 0)), (5, o1 (.ref 3 0))], [vSNode a0, [cI r8.2.1, cI r8.2.2.1, cS r8.2.2.2.1, cS r8.2.2.2.2.1, .sl 5 (List.map eSNode r8.2.2.2.2.2.1)], [cI r8.2.2.2.2.2.2.1, cI r8.2.2.2.2.2.2.2.1, cS r8.2.2.2.2.2.2.2.2.1, cS r8.2.2.2.2.2.2.2.2.2.1, .sl 5 (List.map eSNode r8.2.2.2.2.2.2.2.2.2.2)], vSNode r8.1], 0, []⟩) (fun _ H => ?_) fun v16 h15 H => ?_
 ·refine sq ?_
  obtain ⟨r17, h18, H⟩ := bs H
  obtain ⟨r19, h20, H⟩ := bs H
  refine Tri.dEn hmix [[], [], [1], [0, 1, 2], [0, 1, 2, 3]] [2] [⟨27, [(1, o1 (.ref 0 0)), (5, o1 (.ref 3 0))], [vSNode a0, [cI r8.2.1, cI r8.2.2.1, cS r8.2.2.2.1, cS r8.2.2.2.2.1, .sl 5 (List.map eSNode r8.2.2.2.2.2.1)], [cI r8.2.2.2.2.2.2.1, cI r8.2.2.2.2.2.2.2.1, cS r8.2.2.2.2.2.2.2.2.1, cS r8.2.2.2.2.2.2.2.2.2.1, .sl 5 (List.map eSNode r8.2.2.2.2.2.2.2.2.2.2)], vSNode r8.1, [cI r17.2.1, cI r17.2.2.1, cS r17.2.2.2.1, cS r17.2.2.2.2.1, .sl 5 (List.map eSNode r17.2.2.2.2.2.1)], [cI r17.2.2.2.2.2.2.1, cI r17.2.2.2.2.2.2.2.1, cS r17.2.2.2.2.2.2.2.2.1, cS r17.2.2.2.2.2.2.2.2.2.1, .sl 5 (List.map eSNode r17.2.2.2.2.2.2.2.2.2.2)]], 0, []⟩] [(22, ag (vSNode r8.1)), (23, ag (vSNode a0)), (24, ag (vSNode r17.1))] [26] 0 [] [(2, .callB (ag (vSNode r17.1)) [] [] none [] [[cI r17.2.1, cI r17.2.2.1, cS r17.2.2.2.1, cS r17.2.2.2.2.1, .sl 5 (List.map eSNode r17.2.2.2.2.2.1)], [cI r17.2.2.2.2.2.2.1, cI r17.2.2.2.2.2.2.2.1, cS r17.2.2.2.2.2.2.2.2.1, cS r17.2.2.2.2.2.2.2.2.2.1, .sl 5 (List.map eSNode r17.2.2.2.2.2.2.2.2.2.2)]])] [(3, .call (oB r19) [] false)] [_, _, _, _, _, _, _, _] ⟨27, [(26, oB (!r19))], [], 0, []⟩ ⟨(rfl : ((27, 0, []) : Nat × Nat × List Nat) = ((27, 0, []) : Nat × Nat × List Nat)), (rfl : (ag (vSNode r8.1) : PV) = (ag (vSNode r8.1) : PV)), (rfl : (ag (vSNode r8.1) : PV) = (ag (vSNode r8.1) : PV)), (rfl : (ag (vSNode a0) : PV) = (ag (vSNode a0) : PV)), (laws_toNode.fn h18), (rfl : (([some (ag (vSNode r17.1)), some (ag (vSNode a0)), some (o1 (.ref 0 0)), some (o1 (.ref 3 0))], [vSNode a0, [cI r8.2.1, cI r8.2.2.1, cS r8.2.2.2.1, cS r8.2.2.2.2.1, .sl 5 (List.map eSNode r8.2.2.2.2.2.1)], [cI r8.2.2.2.2.2.2.1, cI r8.2.2.2.2.2.2.2.1, cS r8.2.2.2.2.2.2.2.2.1, cS r8.2.2.2.2.2.2.2.2.2.1, .sl 5 (List.map eSNode r8.2.2.2.2.2.2.2.2.2.2)], vSNode r8.1, [cI r17.2.1, cI r17.2.2.1, cS r17.2.2.2.1, cS r17.2.2.2.2.1, .sl 5 (List.map eSNode r17.2.2.2.2.2.1)], [cI r17.2.2.2.2.2.2.1, cI r17.2.2.2.2.2.2.2.1, cS r17.2.2.2.2.2.2.2.2.1, cS r17.2.2.2.2.2.2.2.2.2.1, .sl 5 (List.map eSNode r17.2.2.2.2.2.2.2.2.2.2)]], 27, 0, []) : List (Option PV) × List (List PC) × Nat × Nat × List Nat) = (([some (ag (vSNode r17.1)), some (ag (vSNode a0)), some (o1 (.ref 0 0)), some (o1 (.ref 3 0))], [vSNode a0, [cI r8.2.1, cI r8.2.2.1, cS r8.2.2.2.1, cS r8.2.2.2.2.1, .sl 5 (List.map eSNode r8.2.2.2.2.2.1)], [cI r8.2.2.2.2.2.2.1, cI r8.2.2.2.2.2.2.2.1, cS r8.2.2.2.2.2.2.2.2.1, cS r8.2.2.2.2.2.2.2.2.2.1, .sl 5 (List.map eSNode r8.2.2.2.2.2.2.2.2.2.2)], vSNode r8.1, [cI r17.2.1, cI r17.2.2.1, cS r17.2.2.2.1, cS r17.2.2.2.2.1, .sl 5 (List.map eSNode r17.2.2.2.2.2.1)], [cI r17.2.2.2.2.2.2.1, cI r17.2.2.2.2.2.2.2.1, cS r17.2.2.2.2.2.2.2.2.1, cS r17.2.2.2.2.2.2.2.2.2.1, .sl 5 (List.map eSNode r17.2.2.2.2.2.2.2.2.2.2)]], 27, 0, []) : List (Option PV) × List (List PC) × Nat × Nat × List Nat)), (laws_eqNode.fn h20), (show (List.all [cB r19] PC.flatB) = true from rfl), trivial⟩ ?_
  refine cm H (fun h21 H => ?_) fun h21 H => ?_
  ·refine sk ?_
   refine rn [2] 0 [] [] ?_
   refine Tri.ret ?_
   obtain rfl := si H;exact eR
  refine rn [2] 0 [] [] ?_
  refine Tri.ret ?_
  obtain rfl := si H;exact eR
 refine rn [1, 5, 21] 4 [] [] ?_
 rcases iteb_some h15 with ⟨h12, h15⟩ | ⟨h12, h15⟩
 ·rcases iteb_some h15 with ⟨h13, h15⟩ | ⟨h13, h15⟩
  ·refine cv (nF (beqv h12 h13)) ?_
   refine fx [1, 5] 4 [] ?_
   refine sk ?_
   exact pe () h15
  refine cu (nT (beqv h12 h13)) ?_
  refine rn [2] 0 [] [] ?_
  refine Tri.ret ?_
  obtain rfl := si h15;obtain rfl := si H;exact eR
 rcases iteb_some h15 with ⟨h14, h15⟩ | ⟨h14, h15⟩
 ·refine cu (nT (beqv h12 h14)) ?_
  refine rn [2] 0 [] [] ?_
  refine Tri.ret ?_
  obtain rfl := si h15;obtain rfl := si H;exact eR
 refine cv (nF (beqv h12 h14)) ?_
 refine fx [1, 5] 4 [] ?_
 refine sk ?_
 exact pe () h15
end Go.Proofs.YtjgddjmgcffjfaaDoor.E
