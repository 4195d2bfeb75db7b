/- Functions of the program and their contracts: printed by ep3.py, a program of this session. -/
import Derived.Test.YtaelpeekimbmcaaGreatDoorGFnExactPrint
import Derived.Test.YtaelpeekimbmcaaGreatDoorProg
set_option maxRecDepth 100000
set_option linter.unusedVariables false
set_option linter.unusedSectionVars false
set_option linter.unusedSimpArgs false
namespace Go.Proofs.YtaelpeekimbmcaaGreatDoor.E
open Go.RowKit
structure SNode where
  f0:Int
  f1:Int
  f2:ByteArray
  f3:ByteArray
  f4:(List SNode)
mutual
def eSNode:SNode → List PC
  | ⟨x0,x1,x2,x3,x4⟩=>[cI x0,cI x1,cS x2,cS x3,.sl 5 (eSNodeL x4)]
def eSNodeL:List SNode → List (List PC)
  | []=>[]
  | x :: l=>eSNode x :: eSNodeL l
end
theorem eSNodeL_eq:∀ l:List SNode,eSNodeL l = List.map eSNode l
  | []=>rfl
  | x :: l=>by rw [eSNodeL,eSNodeL_eq l]; rfl
def vSNode (x:SNode):List PC:=[cI x.f0,cI x.f1,cS x.f2,cS x.f3,.sl 5 (List.map eSNode x.f4)]
theorem eSNode_v:∀ x,eSNode x = vSNode x:=fun ⟨x0,x1,x2,x3,x4⟩=>by rw [eSNode,eSNodeL_eq]; rfl
structure Sfffb48 where
  f0:(List Int)
  f1:Int
def eSfffb48 (x:Sfffb48):List PC:=[.sl 1 (List.map (eK .u8) x.f0),cI x.f1]
theorem hmix:Tryz.prog.follows .mixedOrders = true:=by kernel_rfl
def laws_szNodeS.l1:Nat → (List SNode) → (SNode → Int → Option Int) → Int → Int → Option (Int ⊕ Int)
  | 0,_,_,_,_=>none
  | k + 1,a0,rec_laws_szNode,z8,z9=>if z9 < (a0.length:Int) then ((at? a0 z9).bind fun x11=>(rec_laws_szNode x11 z8).bind fun r13=>if r13 < 0 then (some (.inl (-1))) else (laws_szNodeS.l1 k a0 rec_laws_szNode r13 (w64 (z9 + 1)))) else (some (.inr z8))
def laws_szNodeS.e2 (k:Nat) (a0:(List SNode)) (a1:Int) (rec_laws_szNode:(SNode → Int → Option Int)):Option (Int ⊕ Int):=laws_szNodeS.l1 k a0 rec_laws_szNode (w64 (a1 - (a0.length:Int))) 0
def laws_szNodeS.f (k:Nat) (rec_laws_szNode:(SNode → Int → Option Int)) (a0:(List SNode)) (a1:Int):Option Int:=if (w64 (a1 - (a0.length:Int))) < 0 then (some (-1)) else ((laws_szNodeS.e2 k a0 a1 rec_laws_szNode).bind fun v=>match v with | .inl r=>some r | .inr y17=>some y17)
theorem laws_szNodeS.fn {k:Nat} {rec_laws_szNode:(SNode → Int → Option Int)} (ih_laws_szNode:∀ {a0:SNode} {a1:Int} {r:Int} (H:rec_laws_szNode a0 a1 = some r),Fn Tryz.prog 4 [ag (vSNode a0),oI a1] [] (oI r) []) {a0:(List SNode)} {a1:Int} {r:Int} (H:laws_szNodeS.f k rec_laws_szNode a0 a1 = some r):Fn Tryz.prog 9 [o1 (.sl 5 (List.map eSNode a0)),oI a1] [] (oI r) []:=by
 refine Fn.bd [4] Tryz.func9 ?_
 refine rn [0,1] 0 [] [] ?_
 refine rn [0,1] 0 [] [hL 2 eSNode a0] ?_
 refine sq ?_
 refine rn [0,1,11] 0 [] [] ?_
 refine ci H (fun h1 H=>?_) fun h1 H=>?_
 ·refine rn [4] 0 [] [] ?_
  refine Tri.ret ?_
  obtain rfl:=si H;exact eR
 refine sk ?_
 refine jr H (fun y17=>⟨27,[(1,oI y17)],[],0,[]⟩) (fun y17 H=>?_) fun v19 h18 H=>?_
 ·refine rn [4] 0 [] [] ?_
  refine Tri.ret ?_
  obtain rfl:=si H;exact eR
 refine rn [0,1,5] 0 [] [] ?_
 refine bl ?_
 refine lo (Int × Int) k (fun k x=>laws_szNodeS.l1 k a0 rec_laws_szNode x.1 x.2) (fun x=>⟨27,[(0,o1 (.sl 5 (List.map eSNode a0))),(1,oI x.1),(5,oI x.2)],[],0,[]⟩) (w64 (a1 - (a0.length:Int)),0) h18 fun k x h18 IH16=>?_
 obtain ⟨z8,z9⟩:=x
 rw [laws_szNodeS.l1.eq_2] at h18
 refine sq ?_
 refine rn [0,1,5,15] 0 [] [hL 2 eSNode a0] ?_
 refine ci h18 (fun h10 h18=>?_) fun h10 h18=>?_
 ·refine sk ?_
  refine sq ?_
  refine bl ?_
  obtain ⟨x11,h12,h18⟩:=bs h18
  obtain ⟨r13,h14,h18⟩:=bs h18
  refine rn [0,1,5] 0 [] [hEv 2 eSNode_v h12,hC 5 (ih_laws_szNode h14)] ?_
  refine rn [0,1,5,25] 0 [] [] ?_
  refine ci h18 (fun h15 h18=>?_) fun h15 h18=>?_
  ·refine rn [4] 0 [] [] ?_
   refine Tri.ret ?_
   obtain rfl:=si h18;obtain rfl:=si H;exact eR
  refine sk ?_
  refine rl [0,1,5] 0 [] [] ?_
  exact lb IH16 (r13,w64 (z9 + 1)) h18
 refine fx [1] 0 [] ?_
 refine xi ?_
 exact pe z8 h18
def laws_szNode.f:Nat → SNode → Int → Option Int
  | 0,_,_=>none
  | k + 1,a0,a1=>if (w64 (a1 - (a0.f2.size:Int))) < 0 then (some (-1)) else (if (w64 ((w64 (a1 - (a0.f2.size:Int))) - (a0.f3.size:Int))) < 0 then (some (-1)) else ((laws_szNodeS.f k (laws_szNode.f k) a0.f4 (w64 ((w64 (a1 - (a0.f2.size:Int))) - (a0.f3.size:Int)))).bind fun r3=>if r3 < 0 then (some (-1)) else (some r3)))
theorem laws_szNode.fn {k:Nat}:∀ {a0:SNode} {a1:Int} {r:Int} (H:laws_szNode.f k a0 a1 = some r),Fn Tryz.prog 4 [ag (vSNode a0),oI a1] [] (oI r) []:=by
 induction k with
 | zero=>intro a0 a1 r H; exact absurd H (by simp [laws_szNode.f])
 | succ k ih_laws_szNode =>
 intro a0 a1 r H
 rw [laws_szNode.f.eq_2] at H
 generalize laws_szNode.f k = rec_laws_szNode at H ih_laws_szNode
 refine Fn.bd [4] Tryz.func4 ?_
 refine rn [1,2] 1 [] [] ?_
 refine rn [1,2] 1 [] [] ?_
 refine sq ?_
 refine rn [1,2,11] 1 [] [] ?_
 refine ci H (fun h1 H=>?_) fun h1 H=>?_
 ·refine rn [4] 0 [] [] ?_
  refine Tri.ret ?_
  obtain rfl:=si H;exact eR
 refine sk ?_
 refine rn [1,2] 1 [] [] ?_
 refine sq ?_
 refine rn [1,2,18] 1 [] [] ?_
 refine ci H (fun h2 H=>?_) fun h2 H=>?_
 ·refine rx [4] 0 [] [] ⟨26,[(4,oI (-1))],[],0,[]⟩ ?_
  refine Tri.ret ?_
  obtain rfl:=si H;exact eR
 refine sk ?_
 obtain ⟨r3,h4,H⟩:=bs H
 refine rx [1] 0 [] [hC 3 (laws_szNodeS.fn ih_laws_szNode h4)] ⟨26,[(1,oI r3)],[],0,[]⟩ ?_
 refine sq ?_
 refine rn [1,24] 0 [] [] ?_
 refine ci H (fun h5 H=>?_) fun h5 H=>?_
 ·refine rn [4] 0 [] [] ?_
  refine Tri.ret ?_
  obtain rfl:=si H;exact eR
 refine sk ?_
 refine rn [4] 0 [] [] ?_
 refine Tri.ret ?_
 obtain rfl:=si H;exact eR
def laws_toNodeS.l1:Nat → (List SNode) → (SNode → Option (SNode × Int × Int × ByteArray × ByteArray × (List SNode) × Int × Int × ByteArray × ByteArray × (List SNode))) → (List SNode) → Int → Option (List SNode)
  | 0,_,_,_,_=>none
  | k + 1,a0,rec_laws_toNode,z9,z10=>if z10 < (a0.length:Int) then ((at? a0 z10).bind fun x12=>(rec_laws_toNode x12).bind fun r14=>(at? z9 z10).bind fun x16=>laws_toNodeS.l1 k a0 rec_laws_toNode (z9.set (Int.toNat z10) r14.1) (w64 (z10 + 1))) else (some z9)
def laws_toNodeS.e2 (k:Nat) (a0:(List SNode)) (rec_laws_toNode:(SNode → Option (SNode × Int × Int × ByteArray × ByteArray × (List SNode) × Int × Int × ByteArray × ByteArray × (List SNode)))):Option (List SNode):=laws_toNodeS.l1 k a0 rec_laws_toNode (List.replicate (Int.toNat (a0.length:Int)) (⟨(0:Int),(0:Int),(⟨#[]⟩:ByteArray),(⟨#[]⟩:ByteArray),([]:List SNode)⟩:SNode):List SNode) 0
def laws_toNodeS.f (k:Nat) (rec_laws_toNode:(SNode → Option (SNode × Int × Int × ByteArray × ByteArray × (List SNode) × Int × Int × ByteArray × ByteArray × (List SNode)))) (a0:(List SNode)):Option (List SNode):=if (a0.length:Int) * 72 ≤ 140737488355328 then ((laws_toNodeS.e2 k a0 rec_laws_toNode).bind fun y19=>some y19) else none
theorem laws_toNodeS.fn {k:Nat} {rec_laws_toNode:(SNode → Option (SNode × Int × Int × ByteArray × ByteArray × (List SNode) × Int × Int × ByteArray × ByteArray × (List SNode)))} (ih_laws_toNode:∀ {a0:SNode} {r:(SNode × Int × Int × ByteArray × ByteArray × (List SNode) × Int × Int × ByteArray × ByteArray × (List SNode))} (H:rec_laws_toNode a0 = some r),FnG Tryz.prog 6 [ag (vSNode a0)] [] [] (ag (vSNode r.1)) [] [[cI r.2.1,cI r.2.2.1,cS r.2.2.2.1,cS r.2.2.2.2.1,.sl 5 (List.map eSNode r.2.2.2.2.2.1)],[cI r.2.2.2.2.2.2.1,cI r.2.2.2.2.2.2.2.1,cS r.2.2.2.2.2.2.2.2.1,cS r.2.2.2.2.2.2.2.2.2.1,.sl 5 (List.map eSNode r.2.2.2.2.2.2.2.2.2.2)]]) {a0:(List SNode)} {r:(List SNode)} (H:laws_toNodeS.f k rec_laws_toNode a0 = some r):Fn Tryz.prog 12 [o1 (.sl 5 (List.map eSNode a0))] [] (o1 (.own 30 (List.map eSNode r))) []:=by
 refine Fn.bd [2] Tryz.func12 ?_
 refine rn [0] 0 [] [] ?_
 obtain ⟨h1,H⟩:=nd H
 refine rn [0,3] 0 [] [hL 1 eSNode a0,q4 2 (.nz [5]) (rfl:(a0.length:Int) = (a0.length:Int)) (show (0:Int) ≤ (a0.length:Int) from Int.natCast_nonneg _) (mkN (b:=72) (by decide) (show (0:Int) ≤ (a0.length:Int) from Int.natCast_nonneg _) h1) h1,q1 2 (.ov [.own 30 (List.map eSNode (List.replicate (Int.toNat (a0.length:Int)) (⟨(0:Int),(0:Int),(⟨#[]⟩:ByteArray),(⟨#[]⟩:ByteArray),([]:List SNode)⟩:SNode):List SNode))]) (ovrepV eSNode_v (e:=30) (n:=Int.toNat (a0.length:Int)) (z:=(⟨(0:Int),(0:Int),(⟨#[]⟩:ByteArray),(⟨#[]⟩:ByteArray),([]:List SNode)⟩:SNode)) (f:=eSNode))] ?_
 refine jo H (fun y19=>⟨23,[(3,o1 (.own 30 (List.map eSNode y19)))],[],0,[]⟩) (fun y19 H=>?_) fun v21 h20 H=>?_
 ·refine rn [2] 0 [] [] ?_
  refine Tri.ret ?_
  obtain rfl:=si H;exact eR
 refine rn [0,3,4] 0 [] [] ?_
 refine bl ?_
 refine lo ((List SNode) × Int) k (fun k x=>laws_toNodeS.l1 k a0 rec_laws_toNode x.1 x.2) (fun x=>⟨23,[(0,o1 (.sl 5 (List.map eSNode a0))),(3,o1 (.own 30 (List.map eSNode x.1))),(4,oI x.2)],[],0,[]⟩) ((List.replicate (Int.toNat (a0.length:Int)) (⟨(0:Int),(0:Int),(⟨#[]⟩:ByteArray),(⟨#[]⟩:ByteArray),([]:List SNode)⟩:SNode):List SNode),0) h20 fun k x h20 IH18=>?_
 obtain ⟨z9,z10⟩:=x
 rw [laws_toNodeS.l1.eq_2] at h20
 refine sq ?_
 refine rn [0,3,4,11] 0 [] [hL 2 eSNode a0] ?_
 refine ci h20 (fun h11 h20=>?_) fun h11 h20=>?_
 ·refine sk ?_
  refine sq ?_
  refine bl ?_
  obtain ⟨x12,h13,h20⟩:=bs h20
  obtain ⟨r14,h15,h20⟩:=bs h20
  obtain ⟨x16,h17,h20⟩:=bs h20
  refine rl [0,3,4] 0 [] [hEv 4 eSNode_v h13,hG 6 [] [] none (ih_laws_toNode h15),hEv 7 eSNode_v h17,hWv 8 (.t 3 0) 30 eSNode_v h17 r14.1] ?_
  refine rl [0,3,4] 0 [] [] ?_
  exact lb IH18 (z9.set (Int.toNat z10) r14.1,w64 (z10 + 1)) h20
 refine fx [3] 0 [] ?_
 refine xi ?_
 exact pf z9 h20
def laws_toNode.f:Nat → SNode → Option (SNode × Int × Int × ByteArray × ByteArray × (List SNode) × Int × Int × ByteArray × ByteArray × (List SNode))
  | 0,_=>none
  | k + 1,a0=>(laws_toNodeS.f k (laws_toNode.f k) a0.f4).bind fun r1=>some ((⟨a0.f0,a0.f1,a0.f2,a0.f3,r1⟩:SNode),a0.f0,a0.f1,a0.f2,a0.f3,a0.f4,a0.f0,a0.f1,a0.f2,a0.f3,r1)
theorem laws_toNode.fn {k:Nat}:∀ {a0:SNode} {r:(SNode × Int × Int × ByteArray × ByteArray × (List SNode) × Int × Int × ByteArray × ByteArray × (List SNode))} (H:laws_toNode.f k a0 = some r),FnG Tryz.prog 6 [ag (vSNode a0)] [] [] (ag (vSNode r.1)) [] [[cI r.2.1,cI r.2.2.1,cS r.2.2.2.1,cS r.2.2.2.2.1,.sl 5 (List.map eSNode r.2.2.2.2.2.1)],[cI r.2.2.2.2.2.2.1,cI r.2.2.2.2.2.2.2.1,cS r.2.2.2.2.2.2.2.2.1,cS r.2.2.2.2.2.2.2.2.2.1,.sl 5 (List.map eSNode r.2.2.2.2.2.2.2.2.2.2)]]:=by
 induction k with
 | zero=>intro a0 r H; exact absurd H (by simp [laws_toNode.f])
 | succ k ih_laws_toNode =>
 intro a0 r H
 rw [laws_toNode.f.eq_2] at H
 generalize laws_toNode.f k = rec_laws_toNode at H ih_laws_toNode
 refine FnG.bodyR (rv:=[(2,some 30)]) Tryz.func6 rfl rfl (by decide) (by decide) (Nat.le_of_ble_eq_true rfl) rfl (Nat.le_of_ble_eq_true rfl) ?_
 refine rn [1,2] 2 [] [] ?_
 refine rn [1,2,3] 3 [] [] ?_
 refine rn [1,2,3] 3 [] [] ?_
 refine rn [1,2,3] 3 [] [] ?_
 refine rn [1,2,3] 3 [] [] ?_
 refine rx [1,2,3] 3 [] [] ⟨21,[(1,o1 (.ref 0 0)),(2,o1 (.ref 1 0)),(3,o1 (.ref 2 0))],[vSNode a0,[cI 0,cI 0,cS (⟨#[]⟩:ByteArray),cS (⟨#[]⟩:ByteArray),.nl],[cI a0.f0,cI a0.f1,cS a0.f2,cS a0.f3,.nl]],0,[]⟩ ?_
 obtain ⟨r1,h2,H⟩:=bs H
 refine rn [2,3] 3 [] [hS 2 [] (laws_toNodeS.fn ih_laws_toNode h2)] ?_
 refine rn [2] 2 [] [q0 1 (.frz (.b 2 4))] ?_
 refine Tri.ret ?_
 obtain rfl:=si H;exact endsR (.inr rfl) (by kernel_rfl)
def spec_l02Left.e1 (k:Nat) (a0:SNode) (z11:Int) (z12:Int):Option Bool:=if z12 < (a0.f4.length:Int) then (some (decide ((0:Int) ≤ z11))) else (some false)
def spec_l02Left.l2:Nat → SNode → Int → (SNode → Int → Int → Option Int) → Int → Int → Option Int
  | 0,_,_,_,_,_=>none
  | k + 1,a0,a2,rec_spec_l02Left,z11,z12=>(spec_l02Left.e1 k a0 z11 z12).bind fun y14=>if y14 = true then ((at? a0.f4 z12).bind fun x18=>(rec_spec_l02Left x18 z11 (w64 (a2 + 1))).bind fun r20=>spec_l02Left.l2 k a0 a2 rec_spec_l02Left r20 (w64 (z12 + 1))) else (some z11)
def spec_l02Left.e3 (k:Nat) (a0:SNode) (a1:Int) (a2:Int) (rec_spec_l02Left:(SNode → Int → Int → Option Int)):Option Int:=spec_l02Left.l2 k a0 a2 rec_spec_l02Left (w64 (a1 - 1)) 0
def spec_l02Left.f:Nat → SNode → Int → Int → Option Int
  | 0,_,_,_=>none
  | k + 1,a0,a1,a2=>if (40:Int) < a2 then (some (-1)) else ((spec_l02Left.e3 k a0 a1 a2 (spec_l02Left.f k)).bind fun y23=>some y23)
theorem spec_l02Left.fn {k:Nat}:∀ {a0:SNode} {a1:Int} {a2:Int} {r:Int} (H:spec_l02Left.f k a0 a1 a2 = some r),Fn Tryz.prog 22 [ag (vSNode a0),oI a1,oI a2] [] (oI r) []:=by
 induction k with
 | zero=>intro a0 a1 a2 r H; exact absurd H (by simp [spec_l02Left.f])
 | succ k ih_spec_l02Left =>
 intro a0 a1 a2 r H
 rw [spec_l02Left.f.eq_2] at H
 generalize spec_l02Left.f k = rec_spec_l02Left at H ih_spec_l02Left
 refine Fn.bd [6] Tryz.func22 ?_
 refine rn [1,2,3] 1 [] [] ?_
 refine sq ?_
 refine rn [1,2,3,9] 1 [] [] ?_
 refine ci H (fun h1 H=>?_) fun h1 H=>?_
 ·refine rn [6] 0 [] [] ?_
  refine Tri.ret ?_
  obtain rfl:=si H;exact eR
 refine sk ?_
 refine rn [1,2,3] 1 [] [] ?_
 refine jo H (fun y23=>⟨33,[(1,oI y23)],[],0,[]⟩) (fun y23 H=>?_) fun v25 h24 H=>?_
 ·refine rn [6] 0 [] [] ?_
  refine Tri.ret ?_
  obtain rfl:=si H;exact eR
 refine rn [1,2,3,7] 1 [] [] ?_
 refine bl ?_
 refine lo (Int × Int) k (fun k x=>spec_l02Left.l2 k a0 a2 rec_spec_l02Left x.1 x.2) (fun x=>⟨33,[(1,oI x.1),(2,oI a2),(3,o1 (.ref 0 0)),(7,oI x.2)],[vSNode a0],0,[]⟩) (w64 (a1 - 1),0) h24 fun k x h24 IH22=>?_
 obtain ⟨z11,z12⟩:=x
 rw [spec_l02Left.l2.eq_2] at h24
 refine sq ?_
 refine jo h24 (fun y14=>⟨33,[(1,oI z11),(2,oI a2),(3,o1 (.ref 0 0)),(7,oI z12),(20,oB y14)],[vSNode a0],0,[]⟩) (fun y14 h24=>?_) fun v16 h15 h24=>?_
 ·refine cb h24 (fun h17 h24=>?_) fun h17 h24=>?_
  ·refine sk ?_
   refine sq ?_
   refine bl ?_
   obtain ⟨x18,h19,h24⟩:=bs h24
   obtain ⟨r20,h21,h24⟩:=bs h24
   refine rl [1,2,3,7] 1 [] [hEv 3 eSNode_v h19,hC 8 (ih_spec_l02Left h21)] ?_
   refine rl [1,2,3,7] 1 [] [] ?_
   exact lb IH22 (r20,w64 (z12 + 1)) h24
  refine fx [1] 0 [] ?_
  refine xi ?_
  exact pf z11 h24
 rcases ite_some h15 with ⟨h13,h15⟩ | ⟨h13,h15⟩
 ·refine rl [1,2,3,7,20] 1 [] [hL 3 eSNode a0.f4,hB 4 (decide_eq_true h13)] ?_
  exact pf (decide ((0:Int) ≤ z11)) h15
 refine rl [1,2,3,7,20] 1 [] [hL 3 eSNode a0.f4,hB 4 (decide_eq_false h13)] ?_
 exact pf false h15
def spec_l01In.e1 (k:Nat) (a0:Int) (a1:Int) (a2:Int):Option Bool:=if a1 ≤ a0 then (some (decide (a0 ≤ a2))) else (some false)
def spec_l01In.f (k:Nat) (a0:Int) (a1:Int) (a2:Int):Option Bool:=(spec_l01In.e1 k a0 a1 a2).bind fun y2=>some y2
theorem spec_l01In.fn {k:Nat} {a0:Int} {a1:Int} {a2:Int} {r:Bool} (H:spec_l01In.f k a0 a1 a2 = some r):Fn Tryz.prog 43 [oI a0,oI a1,oI a2] [] (oB r) []:=by
 refine Fn.bd [6] Tryz.func43 ?_
 refine rn [0,1,2] 0 [] [] ?_
 refine jo H (fun y2=>⟨15,[(6,oB y2)],[],0,[]⟩) (fun y2 H=>?_) fun v4 h3 H=>?_
 ·refine Tri.ret ?_
  obtain rfl:=si H;exact eR
 rcases ite_some h3 with ⟨h1,h3⟩ | ⟨h1,h3⟩
 ·refine rl [6] 0 [] [hB 2 (decide_eq_true h1)] ?_
  exact pf (decide (a0 ≤ a2)) h3
 refine rl [6] 0 [] [hB 2 (decide_eq_false h1)] ?_
 exact pf false h3
def spec_l00Letter.e1 (k:Nat) (a0:Int):Option Bool:=if (97:Int) ≤ a0 then (if a0 ≤ 122 then (some true) else (if (65:Int) ≤ a0 then (if a0 ≤ 90 then (some true) else (some (decide (a0 = 95)))) else (some (decide (a0 = 95))))) else (if (65:Int) ≤ a0 then (if a0 ≤ 90 then (some true) else (some (decide (a0 = 95)))) else (some (decide (a0 = 95))))
def spec_l00Letter.f (k:Nat) (a0:Int):Option Bool:=(spec_l00Letter.e1 k a0).bind fun y7=>some y7
theorem spec_l00Letter.fn {k:Nat} {a0:Int} {r:Bool} (H:spec_l00Letter.f k a0 = some r):Fn Tryz.prog 140 [o1 (cK .u8 a0)] [] (oB r) []:=by
 refine Fn.bd [2] Tryz.func140 ?_
 refine rn [0] 0 [] [] ?_
 refine jo H (fun y7=>⟨21,[(2,oB y7)],[],0,[]⟩) (fun y7 H=>?_) fun v9 h8 H=>?_
 ·refine Tri.ret ?_
  obtain rfl:=si H;exact eR
 rcases ite_some h8 with ⟨h1,h8⟩ | ⟨h1,h8⟩
 ·rcases ite_some h8 with ⟨h2,h8⟩ | ⟨h2,h8⟩
  ·refine rl [2] 0 [] [hB 1 (decide_eq_true h1),hB 4 (decide_eq_true h2)] ?_
   exact pf true h8
  rcases ite_some h8 with ⟨h3,h8⟩ | ⟨h3,h8⟩
  ·rcases ite_some h8 with ⟨h4,h8⟩ | ⟨h4,h8⟩
   ·refine rl [2] 0 [] [hB 1 (decide_eq_true h1),hB 4 (decide_eq_false h2),hB 8 (decide_eq_true h3),hB 11 (decide_eq_true h4)] ?_
    exact pf true h8
   refine rl [2] 0 [] [hB 1 (decide_eq_true h1),hB 4 (decide_eq_false h2),hB 8 (decide_eq_true h3),hB 11 (decide_eq_false h4)] ?_
   exact pf (decide (a0 = 95)) h8
  refine rl [2] 0 [] [hB 1 (decide_eq_true h1),hB 4 (decide_eq_false h2),hB 8 (decide_eq_false h3)] ?_
  exact pf (decide (a0 = 95)) h8
 rcases ite_some h8 with ⟨h5,h8⟩ | ⟨h5,h8⟩
 ·rcases ite_some h8 with ⟨h6,h8⟩ | ⟨h6,h8⟩
  ·refine rl [2] 0 [] [hB 1 (decide_eq_false h1),hB 8 (decide_eq_true h5),hB 11 (decide_eq_true h6)] ?_
   exact pf true h8
  refine rl [2] 0 [] [hB 1 (decide_eq_false h1),hB 8 (decide_eq_true h5),hB 11 (decide_eq_false h6)] ?_
  exact pf (decide (a0 = 95)) h8
 refine rl [2] 0 [] [hB 1 (decide_eq_false h1),hB 8 (decide_eq_false h5)] ?_
 exact pf (decide (a0 = 95)) h8
def spec_l00Digit.e1 (k:Nat) (a0:Int):Option Bool:=if (48:Int) ≤ a0 then (some (decide (a0 ≤ 57))) else (some false)
def spec_l00Digit.f (k:Nat) (a0:Int):Option Bool:=(spec_l00Digit.e1 k a0).bind fun y2=>some y2
theorem spec_l00Digit.fn {k:Nat} {a0:Int} {r:Bool} (H:spec_l00Digit.f k a0 = some r):Fn Tryz.prog 141 [o1 (cK .u8 a0)] [] (oB r) []:=by
 refine Fn.bd [2] Tryz.func141 ?_
 refine rn [0] 0 [] [] ?_
 refine jo H (fun y2=>⟨9,[(2,oB y2)],[],0,[]⟩) (fun y2 H=>?_) fun v4 h3 H=>?_
 ·refine Tri.ret ?_
  obtain rfl:=si H;exact eR
 rcases ite_some h3 with ⟨h1,h3⟩ | ⟨h1,h3⟩
 ·refine rl [2] 0 [] [hB 1 (decide_eq_true h1)] ?_
  exact pf (decide (a0 ≤ 57)) h3
 refine rl [2] 0 [] [hB 1 (decide_eq_false h1)] ?_
 exact pf false h3
def spec_l00Word.e1 (k:Nat) (a0:ByteArray):Option Bool:=if (a0.size:Int) < 1 then (some true) else (if (40:Int) < (a0.size:Int) then (some true) else (if (0:Int) ≤ 0 then (if 0 < (a0.size:Int) then ((spec_l00Letter.f k (byteAt a0 0)).bind fun r5=>some (!r5)) else none) else none))
def spec_l00Word.e2 (k:Nat) (a0:ByteArray) (z23:Int):Option Bool:=if (0:Int) ≤ z23 then ((spec_l00Letter.f k (byteAt a0 z23)).bind fun r26=>if r26 = true then (some false) else ((spec_l00Digit.f k (byteAt a0 z23)).bind fun r29=>some (!r29))) else none
def spec_l00Word.l3:Nat → ByteArray → Int → Option (Bool ⊕ Unit)
  | 0,_,_=>none
  | k + 1,a0,z23=>if z23 < (a0.size:Int) then ((spec_l00Word.e2 k a0 z23).bind fun y31=>if y31 = true then (some (.inl false)) else (spec_l00Word.l3 k a0 (w64 (z23 + 1)))) else (some (.inr ()))
def spec_l00Word.e4 (k:Nat) (a0:ByteArray):Option (Bool ⊕ Unit):=spec_l00Word.l3 k a0 1
def spec_l00Word.f (k:Nat) (a0:ByteArray):Option Bool:=(spec_l00Word.e1 k a0).bind fun y7=>if y7 = true then (some false) else ((spec_l00Word.e4 k a0).bind fun v=>match v with | .inl r=>some r | .inr _=>some true)
theorem spec_l00Word.fn {k:Nat} {a0:ByteArray} {r:Bool} (H:spec_l00Word.f k a0 = some r):Fn Tryz.prog 122 [oS a0] [] (oB r) []:=by
 refine Fn.bd [2] Tryz.func122 ?_
 refine rn [0] 0 [] [] ?_
 refine sq ?_
 refine jo H (fun y7=>⟨36,[(0,oS a0),(17,oB y7)],[],0,[]⟩) (fun y7 H=>?_) fun v9 h8 H=>?_
 ·refine cb H (fun h10 H=>?_) fun h10 H=>?_
  ·refine rn [2] 0 [] [] ?_
   refine Tri.ret ?_
   obtain rfl:=si H;exact eR
  refine sk ?_
  refine jr H (fun _=>⟨36,[],[],0,[]⟩) (fun _ H=>?_) fun v37 h36 H=>?_
  ·refine rn [2] 0 [] [] ?_
   refine Tri.ret ?_
   obtain rfl:=si H;exact eR
  refine rn [0,3] 0 [] [] ?_
  refine bl ?_
  refine lo Int k (fun k x=>spec_l00Word.l3 k a0 x) (fun x=>⟨36,[(0,oS a0),(3,oI x)],[],0,[]⟩) 1 h36 fun k z23 h36 IH35=>?_
  rw [spec_l00Word.l3.eq_2] at h36
  refine sq ?_
  refine rn [0,3,21] 0 [] [] ?_
  refine ci h36 (fun h24 h36=>?_) fun h24 h36=>?_
  ·refine sk ?_
   refine sq ?_
   refine bl ?_
   refine jo h36 (fun y31=>⟨36,[(0,oS a0),(3,oI z23),(35,oB y31)],[],0,[]⟩) (fun y31 h36=>?_) fun v33 h32 h36=>?_
   ·refine cb h36 (fun h34 h36=>?_) fun h34 h36=>?_
    ·refine rn [2] 0 [] [] ?_
     refine Tri.ret ?_
     obtain rfl:=si h36;obtain rfl:=si H;exact eR
    refine sk ?_
    refine rl [0,3] 0 [] [] ?_
    exact lb IH35 (w64 (z23 + 1)) h36
   obtain ⟨h25,h32⟩:=nd h32
   obtain ⟨r26,h27,h32⟩:=bs h32
   rcases iteb_some h32 with ⟨h28,h32⟩ | ⟨h28,h32⟩
   ·refine rl [0,3,35] 0 [] [p2 h25 h24,hC 3 (spec_l00Letter.fn h27),hB 3 h28] ?_
    exact pf false h32
   obtain ⟨r29,h30,h32⟩:=bs h32
   refine rl [0,3,35] 0 [] [p2 h25 h24,hC 3 (spec_l00Letter.fn h27),hB 3 h28,p2 h25 h24,hC 9 (spec_l00Digit.fn h30)] ?_
   exact pf (!r29) h32
  refine fx [] 0 [] ?_
  refine xi ?_
  exact pe () h36
 rcases ite_some h8 with ⟨h1,h8⟩ | ⟨h1,h8⟩
 ·refine rl [0,17] 0 [] [hB 2 (decide_eq_true h1)] ?_
  exact pf true h8
 rcases ite_some h8 with ⟨h2,h8⟩ | ⟨h2,h8⟩
 ·refine rl [0,17] 0 [] [hB 2 (decide_eq_false h1),hB 6 (decide_eq_true h2)] ?_
  exact pf true h8
 obtain ⟨h3,h8⟩:=nd h8
 obtain ⟨h4,h8⟩:=nd h8
 obtain ⟨r5,h6,h8⟩:=bs h8
 refine rl [0,17] 0 [] [hB 2 (decide_eq_false h1),hB 6 (decide_eq_false h2),p2 h3 h4,hC 11 (spec_l00Letter.fn h6)] ?_
 exact pf (!r5) h8
def spec_NameOK.f (k:Nat) (a0:ByteArray):Option Bool:=(spec_l00Word.f k a0).bind fun r1=>some r1
theorem spec_NameOK.fn {k:Nat} {a0:ByteArray} {r:Bool} (H:spec_NameOK.f k a0 = some r):Fn Tryz.prog 109 [oS a0] [] (oB r) []:=by
 refine Fn.bd [2] Tryz.func109 ?_
 refine rn [0] 0 [] [] ?_
 obtain ⟨r1,h2,H⟩:=bs H
 refine rn [2] 0 [] [hC 1 (spec_l00Word.fn h2)] ?_
 refine Tri.ret ?_
 obtain rfl:=si H;exact eR
def spec_l01Keys.f (k:Nat):Option (List ByteArray):=some ([(⟨#[77,79,68,85,76,69]⟩:ByteArray),(⟨#[73,77,80,79,82,84]⟩:ByteArray),(⟨#[67,79,78,83,84]⟩:ByteArray),(⟨#[86,65,82]⟩:ByteArray),(⟨#[80,82,79,67,69,68,85,82,69]⟩:ByteArray),(⟨#[66,69,71,73,78]⟩:ByteArray),(⟨#[69,78,68]⟩:ByteArray),(⟨#[73,70]⟩:ByteArray),(⟨#[84,72,69,78]⟩:ByteArray),(⟨#[69,76,83,73,70]⟩:ByteArray),(⟨#[69,76,83,69]⟩:ByteArray),(⟨#[87,72,73,76,69]⟩:ByteArray),(⟨#[68,79]⟩:ByteArray),(⟨#[82,69,84,85,82,78]⟩:ByteArray),(⟨#[79,82]⟩:ByteArray),(⟨#[68,73,86]⟩:ByteArray),(⟨#[77,79,68]⟩:ByteArray),(⟨#[84,82,85,69]⟩:ByteArray),(⟨#[70,65,76,83,69]⟩:ByteArray),(⟨#[65,82,82,65,89]⟩:ByteArray),(⟨#[79,70]⟩:ByteArray),(⟨#[73,78,84,69,71,69,82]⟩:ByteArray),(⟨#[66,79,79,76,69,65,78]⟩:ByteArray),(⟨#[67,72,65,82]⟩:ByteArray),(⟨#[87,82,73,84,69]⟩:ByteArray),(⟨#[82,69,65,68]⟩:ByteArray),(⟨#[79,82,68]⟩:ByteArray),(⟨#[67,72,82]⟩:ByteArray),(⟨#[76,69,78]⟩:ByteArray)]:List ByteArray)
theorem spec_l01Keys.fn {k:Nat} {r:(List ByteArray)} (H:spec_l01Keys.f k  = some r):Fn Tryz.prog 124 [] [] (o1 (.own 9 (List.map eS r))) []:=by
 refine Fn.bd [0] Tryz.func124 ?_
 refine rn [] 0 [] [] ?_
 refine rn [0] 0 [] [] ?_
 refine Tri.ret ?_
 obtain rfl:=si H;exact eR
def spec_l01Place.l1:Nat → (List ByteArray) → ByteArray → Int → Option (Int ⊕ Unit)
  | 0,_,_,_=>none
  | k + 1,a0,a1,z5=>if z5 < (a0.length:Int) then ((at? a0 z5).bind fun x7=>if x7 = a1 then (some (.inl z5)) else (spec_l01Place.l1 k a0 a1 (w64 (z5 + 1)))) else (some (.inr ()))
def spec_l01Place.e2 (k:Nat) (a0:(List ByteArray)) (a1:ByteArray):Option (Int ⊕ Unit):=spec_l01Place.l1 k a0 a1 0
def spec_l01Place.f (k:Nat) (a0:(List ByteArray)) (a1:ByteArray):Option Int:=(spec_l01Place.e2 k a0 a1).bind fun v=>match v with | .inl r=>some r | .inr _=>some (-1)
theorem spec_l01Place.fn {k:Nat} {a0:(List ByteArray)} {a1:ByteArray} {r:Int} (H:spec_l01Place.f k a0 a1 = some r):Fn Tryz.prog 123 [o1 (.sl 1 (List.map eS a0)),oS a1] [] (oI r) []:=by
 refine Fn.bd [4] Tryz.func123 ?_
 refine rn [0,1] 0 [] [] ?_
 refine jr H (fun _=>⟨19,[],[],0,[]⟩) (fun _ H=>?_) fun v12 h11 H=>?_
 ·refine rn [4] 0 [] [] ?_
  refine Tri.ret ?_
  obtain rfl:=si H;exact eR
 refine rn [0,1,5] 0 [] [] ?_
 refine bl ?_
 refine lo Int k (fun k x=>spec_l01Place.l1 k a0 a1 x) (fun x=>⟨19,[(0,o1 (.sl 1 (List.map eS a0))),(1,oS a1),(5,oI x)],[],0,[]⟩) 0 h11 fun k z5 h11 IH10=>?_
 rw [spec_l01Place.l1.eq_2] at h11
 refine sq ?_
 refine rn [0,1,5,9] 0 [] [hL 2 eS a0] ?_
 refine ci h11 (fun h6 h11=>?_) fun h6 h11=>?_
 ·refine sk ?_
  refine sq ?_
  refine bl ?_
  obtain ⟨x7,h8,h11⟩:=bs h11
  refine rn [0,1,5,17] 0 [] [hE 2 eS h8] ?_
  refine ci h11 (fun h9 h11=>?_) fun h9 h11=>?_
  ·refine rn [4] 0 [] [] ?_
   refine Tri.ret ?_
   obtain rfl:=si h11;obtain rfl:=si H;exact eR
  refine sk ?_
  refine rl [0,1,5] 0 [] [] ?_
  exact lb IH10 (w64 (z5 + 1)) h11
 refine fx [] 0 [] ?_
 refine xi ?_
 exact pe () h11
def spec_IsKey.f (k:Nat) (a0:ByteArray):Option Bool:=(spec_l01Keys.f k).bind fun r1=>(spec_l01Place.f k r1 a0).bind fun r3=>some (decide ((0:Int) ≤ r3))
theorem spec_IsKey.fn {k:Nat} {a0:ByteArray} {r:Bool} (H:spec_IsKey.f k a0 = some r):Fn Tryz.prog 110 [oS a0] [] (oB r) []:=by
 refine Fn.bd [2] Tryz.func110 ?_
 refine rn [0] 0 [] [] ?_
 obtain ⟨r1,h2,H⟩:=bs H
 obtain ⟨r3,h4,H⟩:=bs H
 refine rn [2] 0 [] [hC 0 (spec_l01Keys.fn h2) (show (List.all [.own 9 (List.map eS r1)] PC.flatB) = true by simp [PC.flatB,PC.scalar,cI,cK,cB,cS,eS]),hC 2 (spec_l01Place.fn h4)] ?_
 refine Tri.ret ?_
 obtain rfl:=si H;exact eR
def spec_l02Name.e1 (k:Nat) (a0:ByteArray):Option Bool:=(spec_NameOK.f k a0).bind fun r1=>if r1 = true then ((spec_IsKey.f k a0).bind fun r4=>some (!r4)) else (some false)
def spec_l02Name.f (k:Nat) (a0:ByteArray):Option Bool:=(spec_l02Name.e1 k a0).bind fun y6=>some y6
theorem spec_l02Name.fn {k:Nat} {a0:ByteArray} {r:Bool} (H:spec_l02Name.f k a0 = some r):Fn Tryz.prog 71 [oS a0] [] (oB r) []:=by
 refine Fn.bd [2] Tryz.func71 ?_
 refine rn [0] 0 [] [] ?_
 refine jo H (fun y6=>⟨10,[(2,oB y6)],[],0,[]⟩) (fun y6 H=>?_) fun v8 h7 H=>?_
 ·refine Tri.ret ?_
  obtain rfl:=si H;exact eR
 obtain ⟨r1,h2,h7⟩:=bs h7
 rcases iteb_some h7 with ⟨h3,h7⟩ | ⟨h3,h7⟩
 ·obtain ⟨r4,h5,h7⟩:=bs h7
  refine rl [2] 0 [] [hC 1 (spec_NameOK.fn h2),hB 1 h3,hC 4 (spec_IsKey.fn h5)] ?_
  exact pf (!r4) h7
 refine rl [2] 0 [] [hC 1 (spec_NameOK.fn h2),hB 1 h3] ?_
 exact pf false h7
def spec_l02Level.e1 (k:Nat) (a0:ByteArray):Option Bool:=if a0 = (⟨#[61]⟩:ByteArray) then (some (decide (a0 = (⟨#[61]⟩:ByteArray)))) else (if a0 = (⟨#[35]⟩:ByteArray) then (some (decide (a0 = (⟨#[35]⟩:ByteArray)))) else (if a0 = (⟨#[60]⟩:ByteArray) then (some (decide (a0 = (⟨#[60]⟩:ByteArray)))) else (if a0 = (⟨#[60,61]⟩:ByteArray) then (some (decide (a0 = (⟨#[60,61]⟩:ByteArray)))) else (if a0 = (⟨#[62]⟩:ByteArray) then (some (decide (a0 = (⟨#[62]⟩:ByteArray)))) else (some (decide (a0 = (⟨#[62,61]⟩:ByteArray))))))))
def spec_l02Level.e2 (k:Nat) (a0:ByteArray):Option Bool:=if a0 = (⟨#[43]⟩:ByteArray) then (some (decide (a0 = (⟨#[43]⟩:ByteArray)))) else (if a0 = (⟨#[45]⟩:ByteArray) then (some (decide (a0 = (⟨#[45]⟩:ByteArray)))) else (some (decide (a0 = (⟨#[79,82]⟩:ByteArray)))))
def spec_l02Level.e3 (k:Nat) (a0:ByteArray):Option Bool:=if a0 = (⟨#[42]⟩:ByteArray) then (some (decide (a0 = (⟨#[42]⟩:ByteArray)))) else (if a0 = (⟨#[68,73,86]⟩:ByteArray) then (some (decide (a0 = (⟨#[68,73,86]⟩:ByteArray)))) else (if a0 = (⟨#[77,79,68]⟩:ByteArray) then (some (decide (a0 = (⟨#[77,79,68]⟩:ByteArray)))) else (some (decide (a0 = (⟨#[38]⟩:ByteArray))))))
def spec_l02Level.f (k:Nat) (a0:ByteArray):Option Int:=(spec_l02Level.e1 k a0).bind fun y6=>if y6 = true then (some 1) else ((spec_l02Level.e2 k a0).bind fun y12=>if y12 = true then (some 2) else ((spec_l02Level.e3 k a0).bind fun y19=>if y19 = true then (some 3) else (some 0)))
theorem spec_l02Level.fn {k:Nat} {a0:ByteArray} {r:Int} (H:spec_l02Level.f k a0 = some r):Fn Tryz.prog 50 [oS a0] [] (oI r) []:=by
 refine Fn.bd [2] Tryz.func50 ?_
 refine rn [0] 0 [] [] ?_
 refine sq ?_
 refine rn [3] 0 [] [] ?_
 refine bl ?_
 refine jo H (fun y6=>⟨20,[(3,oS a0),(4,oB y6)],[],0,[]⟩) (fun y6 H=>?_) fun v8 h7 H=>?_
 ·refine cb H (fun h9 H=>?_) fun h9 H=>?_
  ·refine rn [2] 0 [] [] ?_
   refine Tri.ret ?_
   obtain rfl:=si H;exact eR
  refine jo H (fun y12=>⟨20,[(3,oS a0),(11,oB y12)],[],0,[]⟩) (fun y12 H=>?_) fun v14 h13 H=>?_
  ·refine cb H (fun h15 H=>?_) fun h15 H=>?_
   ·refine rn [2] 0 [] [] ?_
    refine Tri.ret ?_
    obtain rfl:=si H;exact eR
   refine jo H (fun y19=>⟨20,[(15,oB y19)],[],0,[]⟩) (fun y19 H=>?_) fun v21 h20 H=>?_
   ·refine cb H (fun h22 H=>?_) fun h22 H=>?_
    ·refine rn [2] 0 [] [] ?_
     refine Tri.ret ?_
     obtain rfl:=si H;exact eR
    refine sk ?_
    refine rn [2] 0 [] [] ?_
    refine Tri.ret ?_
    obtain rfl:=si H;exact eR
   refine rn [3,15] 0 [] [] ?_
   refine ci h20 (fun h16 h20=>?_) fun h16 h20=>?_
   ·refine fx [15] 0 [] ?_
    refine sk ?_
    exact pf (decide (a0 = (⟨#[42]⟩:ByteArray))) h20
   refine rn [3,15] 0 [] [] ?_
   refine ci h20 (fun h17 h20=>?_) fun h17 h20=>?_
   ·refine fx [15] 0 [] ?_
    refine sk ?_
    exact pf (decide (a0 = (⟨#[68,73,86]⟩:ByteArray))) h20
   refine rn [3,15] 0 [] [] ?_
   refine ci h20 (fun h18 h20=>?_) fun h18 h20=>?_
   ·refine fx [15] 0 [] ?_
    refine sk ?_
    exact pf (decide (a0 = (⟨#[77,79,68]⟩:ByteArray))) h20
   refine rl [15] 0 [] [] ?_
   exact pf (decide (a0 = (⟨#[38]⟩:ByteArray))) h20
  refine rn [3,11] 0 [] [] ?_
  refine ci h13 (fun h10 h13=>?_) fun h10 h13=>?_
  ·refine sk ?_
   exact pf (decide (a0 = (⟨#[43]⟩:ByteArray))) h13
  refine rn [3,11] 0 [] [] ?_
  refine ci h13 (fun h11 h13=>?_) fun h11 h13=>?_
  ·refine sk ?_
   exact pf (decide (a0 = (⟨#[45]⟩:ByteArray))) h13
  refine rl [3,11] 0 [] [] ?_
  exact pf (decide (a0 = (⟨#[79,82]⟩:ByteArray))) h13
 refine rn [3,4] 0 [] [] ?_
 refine ci h7 (fun h1 h7=>?_) fun h1 h7=>?_
 ·refine sk ?_
  exact pf (decide (a0 = (⟨#[61]⟩:ByteArray))) h7
 refine rn [3,4] 0 [] [] ?_
 refine ci h7 (fun h2 h7=>?_) fun h2 h7=>?_
 ·refine sk ?_
  exact pf (decide (a0 = (⟨#[35]⟩:ByteArray))) h7
 refine rn [3,4] 0 [] [] ?_
 refine ci h7 (fun h3 h7=>?_) fun h3 h7=>?_
 ·refine sk ?_
  exact pf (decide (a0 = (⟨#[60]⟩:ByteArray))) h7
 refine rx [3,4] 0 [] [] ⟨20,[(3,oS a0),(4,oB (decide (a0 = (⟨#[60,61]⟩:ByteArray))))],[],0,[]⟩ ?_
 refine ci h7 (fun h4 h7=>?_) fun h4 h7=>?_
 ·refine sk ?_
  exact pf (decide (a0 = (⟨#[60,61]⟩:ByteArray))) h7
 refine rn [3,4] 0 [] [] ?_
 refine ci h7 (fun h5 h7=>?_) fun h5 h7=>?_
 ·refine sk ?_
  exact pf (decide (a0 = (⟨#[62]⟩:ByteArray))) h7
 refine rl [3,4] 0 [] [] ?_
 exact pf (decide (a0 = (⟨#[62,61]⟩:ByteArray))) h7
def spec_l02Names.e1 (k:Nat) (a0:SNode):Option Bool:=if a0.f0 = 1 then (some (decide (a0.f0 = 1))) else (if a0.f0 = 2 then (some (decide (a0.f0 = 2))) else (if a0.f0 = 3 then (some (decide (a0.f0 = 3))) else (if a0.f0 = 4 then (some (decide (a0.f0 = 4))) else (if a0.f0 = 5 then (some (decide (a0.f0 = 5))) else (some (decide (a0.f0 = 6)))))))
def spec_l02Names.e2 (k:Nat) (a0:SNode):Option Bool:=(spec_l02Name.f k a0.f2).bind fun r10=>if r10 = true then (some (decide (a0.f3 = (⟨#[]⟩:ByteArray)))) else (some false)
def spec_l02Names.e3 (k:Nat) (a0:SNode):Option Bool:=if a0.f0 = 12 then (some (decide (a0.f0 = 12))) else (some (decide (a0.f0 = 21)))
def spec_l02Names.e4 (k:Nat) (a0:SNode):Option Bool:=(spec_l02Name.f k a0.f2).bind fun r21=>if r21 = true then (if a0.f3 = (⟨#[]⟩:ByteArray) then (some true) else ((spec_l02Name.f k a0.f3).bind fun r25=>some r25)) else (some false)
def spec_l02Names.e5 (k:Nat) (a0:SNode):Option Bool:=if a0.f3 = (⟨#[]⟩:ByteArray) then (if a0.f2 = (⟨#[45]⟩:ByteArray) then (some true) else (some (decide (a0.f2 = (⟨#[126]⟩:ByteArray))))) else (some false)
def spec_l02Names.e6 (k:Nat) (a0:SNode):Option Bool:=if a0.f3 = (⟨#[]⟩:ByteArray) then ((spec_l02Level.f k a0.f2).bind fun r38=>some (decide ((0:Int) < r38))) else (some false)
def spec_l02Names.e7 (k:Nat) (a0:SNode):Option Bool:=if a0.f2 = (⟨#[]⟩:ByteArray) then (some (decide (a0.f3 = (⟨#[]⟩:ByteArray)))) else (some false)
def spec_l02Names.f (k:Nat) (a0:SNode):Option Bool:=(spec_l02Names.e1 k a0).bind fun y6=>if y6 = true then ((spec_l02Names.e2 k a0).bind fun y13=>some y13) else ((spec_l02Names.e3 k a0).bind fun y17=>if y17 = true then ((spec_l02Names.e4 k a0).bind fun y27=>some y27) else (if a0.f0 = 23 then ((spec_l02Names.e5 k a0).bind fun y33=>some y33) else (if a0.f0 = 24 then ((spec_l02Names.e6 k a0).bind fun y40=>some y40) else ((spec_l02Names.e7 k a0).bind fun y44=>some y44))))
theorem spec_l02Names.fn {k:Nat} {a0:SNode} {r:Bool} (H:spec_l02Names.f k a0 = some r):Fn Tryz.prog 44 [ag (vSNode a0)] [] (oB r) []:=by
 refine Fn.bd [2] Tryz.func44 ?_
 refine rn [1] 1 [] [] ?_
 refine sq ?_
 refine rn [1,4] 1 [] [] ?_
 refine bl ?_
 refine jo H (fun y6=>⟨70,[(1,o1 (.ref 0 0)),(4,oI a0.f0),(5,oB y6)],[vSNode a0],0,[]⟩) (fun y6 H=>?_) fun v8 h7 H=>?_
 ·refine cb H (fun h9 H=>?_) fun h9 H=>?_
  ·refine jo H (fun y13=>⟨70,[(2,oB y13)],[],0,[]⟩) (fun y13 H=>?_) fun v15 h14 H=>?_
   ·refine Tri.ret ?_
    obtain rfl:=si H;exact eR
   obtain ⟨r10,h11,h14⟩:=bs h14
   rcases iteb_some h14 with ⟨h12,h14⟩ | ⟨h12,h14⟩
   ·refine rl [2] 0 [] [hC 2 (spec_l02Name.fn h11),hB 2 h12] ?_
    exact pf (decide (a0.f3 = (⟨#[]⟩:ByteArray))) h14
   refine rl [2] 0 [] [hC 2 (spec_l02Name.fn h11),hB 2 h12] ?_
   exact pf false h14
  refine jo H (fun y17=>⟨70,[(1,o1 (.ref 0 0)),(4,oI a0.f0),(20,oB y17)],[vSNode a0],0,[]⟩) (fun y17 H=>?_) fun v19 h18 H=>?_
  ·refine cb H (fun h20 H=>?_) fun h20 H=>?_
   ·refine jo H (fun y27=>⟨70,[(2,oB y27)],[],0,[]⟩) (fun y27 H=>?_) fun v29 h28 H=>?_
    ·refine Tri.ret ?_
     obtain rfl:=si H;exact eR
    obtain ⟨r21,h22,h28⟩:=bs h28
    rcases iteb_some h28 with ⟨h23,h28⟩ | ⟨h23,h28⟩
    ·rcases ite_some h28 with ⟨h24,h28⟩ | ⟨h24,h28⟩
     ·refine rl [2] 0 [] [hC 2 (spec_l02Name.fn h22),hB 2 h23,hB 6 (decide_eq_true h24)] ?_
      exact pf true h28
     obtain ⟨r25,h26,h28⟩:=bs h28
     refine rl [2] 0 [] [hC 2 (spec_l02Name.fn h22),hB 2 h23,hB 6 (decide_eq_false h24),hC 10 (spec_l02Name.fn h26)] ?_
     exact pf r25 h28
    refine rl [2] 0 [] [hC 2 (spec_l02Name.fn h22),hB 2 h23] ?_
    exact pf false h28
   refine rn [1,4,36] 1 [] [] ?_
   refine ci H (fun h30 H=>?_) fun h30 H=>?_
   ·refine jo H (fun y33=>⟨70,[(2,oB y33)],[],0,[]⟩) (fun y33 H=>?_) fun v35 h34 H=>?_
    ·refine Tri.ret ?_
     obtain rfl:=si H;exact eR
    rcases ite_some h34 with ⟨h31,h34⟩ | ⟨h31,h34⟩
    ·rcases ite_some h34 with ⟨h32,h34⟩ | ⟨h32,h34⟩
     ·refine rl [2] 0 [] [hB 2 (decide_eq_true h31),hB 6 (decide_eq_true h32)] ?_
      exact pf true h34
     refine rl [2] 0 [] [hB 2 (decide_eq_true h31),hB 6 (decide_eq_false h32)] ?_
     exact pf (decide (a0.f2 = (⟨#[126]⟩:ByteArray))) h34
    refine rl [2] 0 [] [hB 2 (decide_eq_false h31)] ?_
    exact pf false h34
   refine rn [1,51] 1 [] [] ?_
   refine ci H (fun h36 H=>?_) fun h36 H=>?_
   ·refine jo H (fun y40=>⟨70,[(2,oB y40)],[],0,[]⟩) (fun y40 H=>?_) fun v42 h41 H=>?_
    ·refine Tri.ret ?_
     obtain rfl:=si H;exact eR
    rcases ite_some h41 with ⟨h37,h41⟩ | ⟨h37,h41⟩
    ·obtain ⟨r38,h39,h41⟩:=bs h41
     refine rl [2] 0 [] [hB 2 (decide_eq_true h37),hC 6 (spec_l02Level.fn h39)] ?_
     exact pf (decide ((0:Int) < r38)) h41
    refine rl [2] 0 [] [hB 2 (decide_eq_false h37)] ?_
    exact pf false h41
   refine sk ?_
   refine jo H (fun y44=>⟨70,[(2,oB y44)],[],0,[]⟩) (fun y44 H=>?_) fun v46 h45 H=>?_
   ·refine Tri.ret ?_
    obtain rfl:=si H;exact eR
   rcases ite_some h45 with ⟨h43,h45⟩ | ⟨h43,h45⟩
   ·refine rl [2] 0 [] [hB 2 (decide_eq_true h43)] ?_
    exact pf (decide (a0.f3 = (⟨#[]⟩:ByteArray))) h45
   refine rl [2] 0 [] [hB 2 (decide_eq_false h43)] ?_
   exact pf false h45
  refine rn [1,4,20] 1 [] [] ?_
  refine ci h18 (fun h16 h18=>?_) fun h16 h18=>?_
  ·refine sk ?_
   exact pf (decide (a0.f0 = 12)) h18
  refine rl [1,4,20] 1 [] [] ?_
  exact pf (decide (a0.f0 = 21)) h18
 refine rn [1,4,5] 1 [] [] ?_
 refine ci h7 (fun h1 h7=>?_) fun h1 h7=>?_
 ·refine sk ?_
  exact pf (decide (a0.f0 = 1)) h7
 refine rn [1,4,5] 1 [] [] ?_
 refine ci h7 (fun h2 h7=>?_) fun h2 h7=>?_
 ·refine sk ?_
  exact pf (decide (a0.f0 = 2)) h7
 refine rn [1,4,5] 1 [] [] ?_
 refine ci h7 (fun h3 h7=>?_) fun h3 h7=>?_
 ·refine sk ?_
  exact pf (decide (a0.f0 = 3)) h7
 refine rx [1,4,5] 1 [] [] ⟨70,[(1,o1 (.ref 0 0)),(4,oI a0.f0),(5,oB (decide (a0.f0 = 4)))],[vSNode a0],0,[]⟩ ?_
 refine ci h7 (fun h4 h7=>?_) fun h4 h7=>?_
 ·refine sk ?_
  exact pf (decide (a0.f0 = 4)) h7
 refine rn [1,4,5] 1 [] [] ?_
 refine ci h7 (fun h5 h7=>?_) fun h5 h7=>?_
 ·refine sk ?_
  exact pf (decide (a0.f0 = 5)) h7
 refine rl [1,4,5] 1 [] [] ?_
 exact pf (decide (a0.f0 = 6)) h7
def spec_CharOK.e1 (k:Nat) (a0:Int):Option Bool:=(spec_l01In.f k a0 0 55295).bind fun r1=>if r1 = true then (some true) else ((spec_l01In.f k a0 57344 1114111).bind fun r4=>some r4)
def spec_CharOK.f (k:Nat) (a0:Int):Option Bool:=(spec_CharOK.e1 k a0).bind fun y6=>some y6
theorem spec_CharOK.fn {k:Nat} {a0:Int} {r:Bool} (H:spec_CharOK.f k a0 = some r):Fn Tryz.prog 72 [oI a0] [] (oB r) []:=by
 refine Fn.bd [2] Tryz.func72 ?_
 refine rn [0] 0 [] [] ?_
 refine jo H (fun y6=>⟨9,[(2,oB y6)],[],0,[]⟩) (fun y6 H=>?_) fun v8 h7 H=>?_
 ·refine Tri.ret ?_
  obtain rfl:=si H;exact eR
 obtain ⟨r1,h2,h7⟩:=bs h7
 rcases iteb_some h7 with ⟨h3,h7⟩ | ⟨h3,h7⟩
 ·refine rl [2] 0 [] [hC 1 (spec_l01In.fn h2),hB 1 h3] ?_
  exact pf true h7
 obtain ⟨r4,h5,h7⟩:=bs h7
 refine rl [2] 0 [] [hC 1 (spec_l01In.fn h2),hB 1 h3,hC 4 (spec_l01In.fn h5)] ?_
 exact pf r4 h7
def spec_l02Number.e1 (k:Nat) (a0:SNode):Option Bool:=if a0.f0 = 3 then (some (decide (a0.f0 = 3))) else (if a0.f0 = 4 then (some (decide (a0.f0 = 4))) else (if a0.f0 = 5 then (some (decide (a0.f0 = 5))) else (if a0.f0 = 6 then (some (decide (a0.f0 = 6))) else (some (decide (a0.f0 = 20))))))
def spec_l02Number.f (k:Nat) (a0:SNode):Option Bool:=(spec_l02Number.e1 k a0).bind fun y5=>if y5 = true then ((spec_l01In.f k a0.f1 0 1).bind fun r9=>some r9) else (if a0.f0 = 7 then ((spec_l01In.f k a0.f1 0 3).bind fun r12=>some r12) else (if a0.f0 = 8 then ((spec_l01In.f k a0.f1 1 3).bind fun r15=>some r15) else (if a0.f0 = 9 then ((spec_l01In.f k a0.f1 1 100).bind fun r18=>some r18) else (if a0.f0 = 18 then ((spec_l01In.f k a0.f1 0 999999999999999999).bind fun r21=>some r21) else (if a0.f0 = 19 then ((spec_CharOK.f k a0.f1).bind fun r24=>some r24) else (some (decide (a0.f1 = 0))))))))
theorem spec_l02Number.fn {k:Nat} {a0:SNode} {r:Bool} (H:spec_l02Number.f k a0 = some r):Fn Tryz.prog 45 [ag (vSNode a0)] [] (oB r) []:=by
 refine Fn.bd [2] Tryz.func45 ?_
 refine rn [1] 1 [] [] ?_
 refine sq ?_
 refine rn [1,4] 1 [] [] ?_
 refine bl ?_
 refine jo H (fun y5=>⟨42,[(1,o1 (.ref 0 0)),(4,oI a0.f0),(5,oB y5)],[vSNode a0],0,[]⟩) (fun y5 H=>?_) fun v7 h6 H=>?_
 ·refine cb H (fun h8 H=>?_) fun h8 H=>?_
  ·obtain ⟨r9,h10,H⟩:=bs H
   refine rn [2] 0 [] [hC 2 (spec_l01In.fn h10)] ?_
   refine Tri.ret ?_
   obtain rfl:=si H;exact eR
  refine rn [1,4,14] 1 [] [] ?_
  refine ci H (fun h11 H=>?_) fun h11 H=>?_
  ·obtain ⟨r12,h13,H⟩:=bs H
   refine rn [2] 0 [] [hC 2 (spec_l01In.fn h13)] ?_
   refine Tri.ret ?_
   obtain rfl:=si H;exact eR
  refine rn [1,4,19] 1 [] [] ?_
  refine ci H (fun h14 H=>?_) fun h14 H=>?_
  ·obtain ⟨r15,h16,H⟩:=bs H
   refine rn [2] 0 [] [hC 2 (spec_l01In.fn h16)] ?_
   refine Tri.ret ?_
   obtain rfl:=si H;exact eR
  refine rn [1,4,24] 1 [] [] ?_
  refine ci H (fun h17 H=>?_) fun h17 H=>?_
  ·obtain ⟨r18,h19,H⟩:=bs H
   refine rn [2] 0 [] [hC 2 (spec_l01In.fn h19)] ?_
   refine Tri.ret ?_
   obtain rfl:=si H;exact eR
  refine rn [1,4,29] 1 [] [] ?_
  refine ci H (fun h20 H=>?_) fun h20 H=>?_
  ·obtain ⟨r21,h22,H⟩:=bs H
   refine rn [2] 0 [] [hC 2 (spec_l01In.fn h22)] ?_
   refine Tri.ret ?_
   obtain rfl:=si H;exact eR
  refine rn [1,34] 1 [] [] ?_
  refine ci H (fun h23 H=>?_) fun h23 H=>?_
  ·obtain ⟨r24,h25,H⟩:=bs H
   refine rx [2] 0 [] [hC 2 (spec_CharOK.fn h25)] ⟨42,[(2,oB r24)],[],0,[]⟩ ?_
   refine Tri.ret ?_
   obtain rfl:=si H;exact eR
  refine sk ?_
  refine rx [2] 0 [] [] ⟨42,[(2,oB (decide (a0.f1 = 0)))],[],0,[]⟩ ?_
  refine Tri.ret ?_
  obtain rfl:=si H;exact eR
 refine rn [1,4,5] 1 [] [] ?_
 refine ci h6 (fun h1 h6=>?_) fun h1 h6=>?_
 ·refine sk ?_
  exact pf (decide (a0.f0 = 3)) h6
 refine rn [1,4,5] 1 [] [] ?_
 refine ci h6 (fun h2 h6=>?_) fun h2 h6=>?_
 ·refine sk ?_
  exact pf (decide (a0.f0 = 4)) h6
 refine rn [1,4,5] 1 [] [] ?_
 refine ci h6 (fun h3 h6=>?_) fun h3 h6=>?_
 ·refine sk ?_
  exact pf (decide (a0.f0 = 5)) h6
 refine rx [1,4,5] 1 [] [] ⟨42,[(1,o1 (.ref 0 0)),(4,oI a0.f0),(5,oB (decide (a0.f0 = 6)))],[vSNode a0],0,[]⟩ ?_
 refine ci h6 (fun h4 h6=>?_) fun h4 h6=>?_
 ·refine sk ?_
  exact pf (decide (a0.f0 = 6)) h6
 refine rl [1,4,5] 1 [] [] ?_
 exact pf (decide (a0.f0 = 20)) h6
def spec_l02Order.e1 (k:Nat) (a0:(List SNode)) (a1:(List Int)) (z36:Int) (z47:Int):Option Bool:=if z47 < (a1.length:Int) then ((at? a1 z47).bind fun x49=>(at? a0 z36).bind fun x51=>some (!(decide (x49 = x51.f0)))) else (some false)
def spec_l02Order.l2:Nat → (List SNode) → (List Int) → Int → Int → Option Int
  | 0,_,_,_,_=>none
  | k + 1,a0,a1,z36,z47=>(spec_l02Order.e1 k a0 a1 z36 z47).bind fun y53=>if y53 = true then (spec_l02Order.l2 k a0 a1 z36 (w64 (z47 + 1))) else (some z47)
def spec_l02Order.e3 (k:Nat) (a0:(List SNode)) (a1:(List Int)) (z35:Int) (z36:Int):Option Int:=spec_l02Order.l2 k a0 a1 z36 z35
def spec_l02Order.e4 (k:Nat) (a0:(List SNode)) (a2:Int) (z36:Int):Option Bool:=(at? a0 z36).bind fun x62=>if x62.f0 = a2 then (some (decide (z36 = (w64 ((a0.length:Int) - 1))))) else (some false)
def spec_l02Order.e5 (k:Nat) (a0:(List SNode)) (a1:(List Int)) (a2:Int) (z35:Int) (z36:Int):Option (Bool ⊕ Int):=(spec_l02Order.e3 k a0 a1 z35 z36).bind fun y58=>if y58 = (a1.length:Int) then ((spec_l02Order.e4 k a0 a2 z36).bind fun y65=>some (.inl y65)) else (some (.inr y58))
def spec_l02Order.l6:Nat → (List SNode) → (List Int) → Int → Int → Int → Option (Bool ⊕ Unit)
  | 0,_,_,_,_,_=>none
  | k + 1,a0,a1,a2,z35,z36=>if z36 < (a0.length:Int) then ((spec_l02Order.e5 k a0 a1 a2 z35 z36).bind fun v=>match v with | .inl r=>some (.inl r) | .inr y68=>spec_l02Order.l6 k a0 a1 a2 y68 (w64 (z36 + 1))) else (some (.inr ()))
def spec_l02Order.e7 (k:Nat) (a0:(List SNode)) (a1:(List Int)) (a2:Int):Option (Bool ⊕ Unit):=spec_l02Order.l6 k a0 a1 a2 0 0
def spec_l02Order.f (k:Nat) (a0:(List SNode)) (a1:(List Int)) (a2:Int):Option Bool:=(spec_l02Order.e7 k a0 a1 a2).bind fun v=>match v with | .inl r=>some r | .inr _=>some false
theorem spec_l02Order.fn {k:Nat} {a0:(List SNode)} {a1:(List Int)} {a2:Int} {r:Bool} (H:spec_l02Order.f k a0 a1 a2 = some r):Fn Tryz.prog 73 [o1 (.sl 5 (List.map eSNode a0)),o1 (.sl 1 (List.map eI a1)),oI a2] [] (oB r) []:=by
 refine Fn.bd [6] Tryz.func73 ?_
 refine rn [0,1,2] 0 [] [] ?_
 refine rn [0,1,2,7] 0 [] [] ?_
 refine jr H (fun _=>⟨51,[],[],0,[]⟩) (fun _ H=>?_) fun v73 h72 H=>?_
 ·refine rn [6] 0 [] [] ?_
  refine Tri.ret ?_
  obtain rfl:=si H;exact eR
 refine rn [0,1,2,7,8] 0 [] [] ?_
 refine bl ?_
 refine lo (Int × Int) k (fun k x=>spec_l02Order.l6 k a0 a1 a2 x.1 x.2) (fun x=>⟨51,[(0,o1 (.sl 5 (List.map eSNode a0))),(1,o1 (.sl 1 (List.map eI a1))),(2,oI a2),(7,oI x.1),(8,oI x.2)],[],0,[]⟩) (0,0) h72 fun k x h72 IH71=>?_
 obtain ⟨z35,z36⟩:=x
 rw [spec_l02Order.l6.eq_2] at h72
 refine sq ?_
 refine rn [0,1,2,7,8,12] 0 [] [hL 2 eSNode a0] ?_
 refine ci h72 (fun h37 h72=>?_) fun h37 h72=>?_
 ·refine sk ?_
  refine jr h72 (fun y68=>⟨51,[(0,o1 (.sl 5 (List.map eSNode a0))),(1,o1 (.sl 1 (List.map eI a1))),(2,oI a2),(7,oI y68),(8,oI z36)],[],0,[]⟩) (fun y68 h72=>?_) fun v70 h69 h72=>?_
  ·refine rl [0,1,2,7,8] 0 [] [] ?_
   exact lb IH71 (y68,w64 (z36 + 1)) h72
  refine bl ?_
  refine jo h69 (fun y58=>⟨51,[(0,o1 (.sl 5 (List.map eSNode a0))),(1,o1 (.sl 1 (List.map eI a1))),(2,oI a2),(7,oI y58),(8,oI z36)],[],0,[]⟩) (fun y58 h69=>?_) fun v60 h59 h69=>?_
  ·refine rn [0,1,2,7,8,36] 0 [] [hL 2 eI a1] ?_
   refine ci h69 (fun h61 h69=>?_) fun h61 h69=>?_
   ·refine jo h69 (fun y65=>⟨51,[(6,oB y65)],[],0,[]⟩) (fun y65 h69=>?_) fun v67 h66 h69=>?_
    ·refine Tri.ret ?_
     obtain rfl:=si h69;obtain rfl:=si h72;obtain rfl:=si H;exact eR
    obtain ⟨x62,h63,h66⟩:=bs h66
    rcases ite_some h66 with ⟨h64,h66⟩ | ⟨h64,h66⟩
    ·refine rl [6] 0 [] [hEv 2 eSNode_v h63,hB 6 (decide_eq_true h64),hL 10 eSNode a0] ?_
     exact pf (decide (z36 = (w64 ((a0.length:Int) - 1)))) h66
    refine rl [6] 0 [] [hEv 2 eSNode_v h63,hB 6 (decide_eq_false h64)] ?_
    exact pf false h66
   refine fx [0,1,2,7,8] 0 [] ?_
   refine sk ?_
   exact pe y58 h69
  refine bl ?_
  refine fx [0,1,2,7,8] 0 [] ?_
  refine lo Int k (fun k x=>spec_l02Order.l2 k a0 a1 z36 x) (fun x=>⟨51,[(0,o1 (.sl 5 (List.map eSNode a0))),(1,o1 (.sl 1 (List.map eI a1))),(2,oI a2),(7,oI x),(8,oI z36)],[],0,[]⟩) z35 h59 fun k z47 h59 IH57=>?_
  rw [spec_l02Order.l2.eq_2] at h59
  refine sq ?_
  refine jo h59 (fun y53=>⟨51,[(0,o1 (.sl 5 (List.map eSNode a0))),(1,o1 (.sl 1 (List.map eI a1))),(2,oI a2),(7,oI z47),(8,oI z36),(30,oB y53)],[],0,[]⟩) (fun y53 h59=>?_) fun v55 h54 h59=>?_
  ·refine cb h59 (fun h56 h59=>?_) fun h56 h59=>?_
   ·refine sk ?_
    refine bl ?_
    refine rl [0,1,2,7,8] 0 [] [] ?_
    exact lb IH57 (w64 (z47 + 1)) h59
   refine fx [0,1,2,7,8] 0 [] ?_
   refine xi ?_
   exact pf z47 h59
  rcases ite_some h54 with ⟨h48,h54⟩ | ⟨h48,h54⟩
  ·obtain ⟨x49,h50,h54⟩:=bs h54
   obtain ⟨x51,h52,h54⟩:=bs h54
   refine dl hmix 14 [[],[],[1],[0,1,2],[0,1,2,3],[0,1,2,3,4],[0,1,2,3,4],[0,1,2,3,4,5,6],[0,1,2,3,4,5,6,7],[0,1,2,3,4],[0,1,2,3,4],[0,1,2,3,4,9,10],[0,1,2,3,4,9,10,11],[0,1,2,3,4,9,10,11,12],[0,1,2,3,4,5,6,7,8,9,10,11,12,13],[0,1,2,3,4,5,6,7,8,9,10,11,12,13,14]] [0,1,2,7,8,30] 0 [] [hL 2 eI a1,hB 3 (decide_eq_true h48),hE 7 eI h50,hEv 11 eSNode_v h52] ?_
   exact pf (!(decide (x49 = x51.f0))) h54
  refine dl hmix 14 [[],[],[1],[0,1,2],[0,1,2,3],[0,1,2,3,4],[0,1,2,3,4],[0,1,2,3,4,5,6],[0,1,2,3,4,5,6,7],[0,1,2,3,4],[0,1,2,3,4],[0,1,2,3,4,9,10],[0,1,2,3,4,9,10,11],[0,1,2,3,4,9,10,11,12],[0,1,2,3,4,5,6,7,8,9,10,11,12,13],[0,1,2,3,4,5,6,7,8,9,10,11,12,13,14]] [0,1,2,7,8,30] 0 [] [hL 2 eI a1,hB 3 (decide_eq_false h48)] ?_
  exact pf false h54
 refine fx [] 0 [] ?_
 refine xi ?_
 exact pe () h72
def spec_l02IsStatement.f (k:Nat) (a0:SNode):Option Bool:=(spec_l01In.f k a0.f0 11 17).bind fun r1=>some r1
theorem spec_l02IsStatement.fn {k:Nat} {a0:SNode} {r:Bool} (H:spec_l02IsStatement.f k a0 = some r):Fn Tryz.prog 74 [ag (vSNode a0)] [] (oB r) []:=by
 refine Fn.bd [2] Tryz.func74 ?_
 refine rn [1] 1 [] [] ?_
 obtain ⟨r1,h2,H⟩:=bs H
 refine rn [2] 0 [] [hC 2 (spec_l01In.fn h2)] ?_
 refine Tri.ret ?_
 obtain rfl:=si H;exact eR
def spec_l02Designator.e1 (k:Nat) (a0:SNode):Option Bool:=if a0.f0 = 21 then (some true) else (some (decide (a0.f0 = 22)))
def spec_l02Designator.f (k:Nat) (a0:SNode):Option Bool:=(spec_l02Designator.e1 k a0).bind fun y2=>some y2
theorem spec_l02Designator.fn {k:Nat} {a0:SNode} {r:Bool} (H:spec_l02Designator.f k a0 = some r):Fn Tryz.prog 75 [ag (vSNode a0)] [] (oB r) []:=by
 refine Fn.bd [2] Tryz.func75 ?_
 refine rn [1] 1 [] [] ?_
 refine jo H (fun y2=>⟨11,[(2,oB y2)],[],0,[]⟩) (fun y2 H=>?_) fun v4 h3 H=>?_
 ·refine Tri.ret ?_
  obtain rfl:=si H;exact eR
 rcases ite_some h3 with ⟨h1,h3⟩ | ⟨h1,h3⟩
 ·refine rl [2] 0 [] [hB 2 (decide_eq_true h1)] ?_
  exact pf true h3
 refine rl [2] 0 [] [hB 2 (decide_eq_false h1)] ?_
 exact pf (decide (a0.f0 = 22)) h3
def spec_l02IsExpr.e1 (k:Nat) (a0:SNode):Option Bool:=(spec_l01In.f k a0.f0 18 27).bind fun r1=>if r1 = true then (some true) else (some (decide (a0.f0 = 12)))
def spec_l02IsExpr.f (k:Nat) (a0:SNode):Option Bool:=(spec_l02IsExpr.e1 k a0).bind fun y4=>some y4
theorem spec_l02IsExpr.fn {k:Nat} {a0:SNode} {r:Bool} (H:spec_l02IsExpr.f k a0 = some r):Fn Tryz.prog 76 [ag (vSNode a0)] [] (oB r) []:=by
 refine Fn.bd [2] Tryz.func76 ?_
 refine rn [1] 1 [] [] ?_
 refine jo H (fun y4=>⟨11,[(2,oB y4)],[],0,[]⟩) (fun y4 H=>?_) fun v6 h5 H=>?_
 ·refine Tri.ret ?_
  obtain rfl:=si H;exact eR
 obtain ⟨r1,h2,h5⟩:=bs h5
 rcases iteb_some h5 with ⟨h3,h5⟩ | ⟨h3,h5⟩
 ·refine rl [2] 0 [] [hC 2 (spec_l01In.fn h2),hB 2 h3] ?_
  exact pf true h5
 refine rl [2] 0 [] [hC 2 (spec_l01In.fn h2),hB 2 h3] ?_
 exact pf (decide (a0.f0 = 12)) h5
def spec_l02Exprs.l1:Nat → (List SNode) → Int → Option (Bool ⊕ Unit)
  | 0,_,_=>none
  | k + 1,a0,z7=>if z7 < (a0.length:Int) then ((at? a0 z7).bind fun x9=>(spec_l02IsExpr.f k x9).bind fun r11=>if r11 = true then (spec_l02Exprs.l1 k a0 (w64 (z7 + 1))) else (some (.inl false))) else (some (.inr ()))
def spec_l02Exprs.e2 (k:Nat) (a0:(List SNode)):Option (Bool ⊕ Unit):=spec_l02Exprs.l1 k a0 0
def spec_l02Exprs.e3 (k:Nat) (a0:(List SNode)) (a1:Int):Option Bool:=if a1 < 0 then (some true) else (some (decide ((a0.length:Int) = a1)))
def spec_l02Exprs.f (k:Nat) (a0:(List SNode)) (a1:Int):Option Bool:=(spec_l02Exprs.e2 k a0).bind fun v=>match v with | .inl r=>some r | .inr _=>(spec_l02Exprs.e3 k a0 a1).bind fun y18=>some y18
theorem spec_l02Exprs.fn {k:Nat} {a0:(List SNode)} {a1:Int} {r:Bool} (H:spec_l02Exprs.f k a0 a1 = some r):Fn Tryz.prog 77 [o1 (.sl 5 (List.map eSNode a0)),oI a1] [] (oB r) []:=by
 refine Fn.bd [4] Tryz.func77 ?_
 refine rn [0,1] 0 [] [] ?_
 refine jr H (fun _=>⟨26,[(0,o1 (.sl 5 (List.map eSNode a0))),(1,oI a1)],[],0,[]⟩) (fun _ H=>?_) fun v16 h15 H=>?_
 ·refine jo H (fun y18=>⟨26,[(4,oB y18)],[],0,[]⟩) (fun y18 H=>?_) fun v20 h19 H=>?_
  ·refine Tri.ret ?_
   obtain rfl:=si H;exact eR
  rcases ite_some h19 with ⟨h17,h19⟩ | ⟨h17,h19⟩
  ·refine rl [4] 0 [] [hB 1 (decide_eq_true h17)] ?_
   exact pf true h19
  refine rl [4] 0 [] [hB 1 (decide_eq_false h17),hL 4 eSNode a0] ?_
  exact pf (decide ((a0.length:Int) = a1)) h19
 refine rn [0,1,5] 0 [] [] ?_
 refine bl ?_
 refine lo Int k (fun k x=>spec_l02Exprs.l1 k a0 x) (fun x=>⟨26,[(0,o1 (.sl 5 (List.map eSNode a0))),(1,oI a1),(5,oI x)],[],0,[]⟩) 0 h15 fun k z7 h15 IH14=>?_
 rw [spec_l02Exprs.l1.eq_2] at h15
 refine sq ?_
 refine rn [0,1,5,9] 0 [] [hL 2 eSNode a0] ?_
 refine ci h15 (fun h8 h15=>?_) fun h8 h15=>?_
 ·refine sk ?_
  refine sq ?_
  refine bl ?_
  obtain ⟨x9,h10,h15⟩:=bs h15
  obtain ⟨r11,h12,h15⟩:=bs h15
  refine rn [0,1,5,17] 0 [] [hEv 2 eSNode_v h10,hC 4 (spec_l02IsExpr.fn h12)] ?_
  refine cm h15 (fun h13 h15=>?_) fun h13 h15=>?_
  ·refine sk ?_
   refine rl [0,1,5] 0 [] [] ?_
   exact lb IH14 (w64 (z7 + 1)) h15
  refine rn [4] 0 [] [] ?_
  refine Tri.ret ?_
  obtain rfl:=si h15;obtain rfl:=si H;exact eR
 refine fx [0,1] 0 [] ?_
 refine xi ?_
 exact pe () h15
def spec_l02Kids.e1 (k:Nat) (a0:SNode) (z12:Int) (z13:Int):Option Int:=(at? a0.f4 z13).bind fun x15=>if x15.f0 = 7 then (some (w64 (z12 + 1))) else (some z12)
def spec_l02Kids.l2:Nat → SNode → Int → Int → Option Int
  | 0,_,_,_=>none
  | k + 1,a0,z12,z13=>if z13 < (a0.f4.length:Int) then ((spec_l02Kids.e1 k a0 z12 z13).bind fun y18=>spec_l02Kids.l2 k a0 y18 (w64 (z13 + 1))) else (some z12)
def spec_l02Kids.e3 (k:Nat) (a0:SNode):Option Int:=spec_l02Kids.l2 k a0 0 0
def spec_l02Kids.e4 (k:Nat) (a0:SNode) (y22:Int):Option Bool:=if y22 = 1 then ((spec_l02Order.f k a0.f4 ([6,7,4]:List Int) 10).bind fun r26=>some r26) else (some false)
def spec_l02Kids.e5 (k:Nat) (a0:SNode):Option Bool:=if (a0.f4.length:Int) = 1 then ((at? a0.f4 0).bind fun x33=>if x33.f0 = 8 then (some true) else (some (decide (x33.f0 = 9)))) else (some false)
def spec_l02Kids.e6 (k:Nat) (a0:SNode):Option Bool:=if a0.f0 = 6 then (some (decide (a0.f0 = 6))) else (some (decide (a0.f0 = 9)))
def spec_l02Kids.e7 (k:Nat) (a0:SNode):Option Bool:=if (a0.f4.length:Int) = 1 then ((at? a0.f4 0).bind fun x45=>some (decide (x45.f0 = 8))) else (some false)
def spec_l02Kids.l8:Nat → SNode → Int → Option (Bool ⊕ Unit)
  | 0,_,_=>none
  | k + 1,a0,z57=>if z57 < (a0.f4.length:Int) then ((at? a0.f4 z57).bind fun x59=>(spec_l02IsStatement.f k x59).bind fun r61=>if r61 = true then (spec_l02Kids.l8 k a0 (w64 (z57 + 1))) else (some (.inl false))) else (some (.inr ()))
def spec_l02Kids.e9 (k:Nat) (a0:SNode):Option (Bool ⊕ Unit):=spec_l02Kids.l8 k a0 0
def spec_l02Kids.e10 (k:Nat) (a0:SNode):Option Bool:=if (a0.f4.length:Int) = 2 then ((at? a0.f4 0).bind fun x69=>(spec_l02Designator.f k x69).bind fun r71=>if r71 = true then ((at? a0.f4 1).bind fun x74=>(spec_l02IsExpr.f k x74).bind fun r76=>some r76) else (some false)) else (some false)
def spec_l02Kids.e11 (k:Nat) (a0:SNode):Option Bool:=if (a0.f4.length:Int) = 1 then ((at? a0.f4 0).bind fun x83=>(spec_l02Designator.f k x83).bind fun r85=>some r85) else (some false)
def spec_l02Kids.e12 (k:Nat) (a0:SNode):Option Bool:=(spec_l01In.f k (a0.f4.length:Int) 2 3).bind fun r91=>if r91 = true then ((at? a0.f4 0).bind fun x94=>(spec_l02IsExpr.f k x94).bind fun r96=>if r96 = true then ((at? a0.f4 1).bind fun x99=>if x99.f0 = 10 then (if (a0.f4.length:Int) = 2 then (some true) else ((at? a0.f4 2).bind fun x103=>some (decide (x103.f0 = 10)))) else (some false)) else (some false)) else (some false)
def spec_l02Kids.e13 (k:Nat) (a0:SNode):Option Bool:=if (a0.f4.length:Int) = 2 then ((at? a0.f4 0).bind fun x110=>(spec_l02IsExpr.f k x110).bind fun r112=>if r112 = true then ((at? a0.f4 1).bind fun x115=>some (decide (x115.f0 = 10))) else (some false)) else (some false)
def spec_l02Kids.e14 (k:Nat) (a0:SNode):Option Bool:=if (a0.f4.length:Int) < 2 then ((spec_l02Exprs.f k a0.f4 (-1)).bind fun r122=>some r122) else (some false)
def spec_l02Kids.e15 (k:Nat) (a0:SNode):Option Bool:=if a0.f0 = 3 then (some (decide (a0.f0 = 3))) else (if a0.f0 = 16 then (some (decide (a0.f0 = 16))) else (if a0.f0 = 23 then (some (decide (a0.f0 = 23))) else (if a0.f0 = 25 then (some (decide (a0.f0 = 25))) else (some (decide (a0.f0 = 26))))))
def spec_l02Kids.e16 (k:Nat) (a0:SNode):Option Bool:=if (a0.f4.length:Int) = 1 then ((at? a0.f4 0).bind fun x142=>some (decide (x142.f0 = 21))) else (some false)
def spec_l02Kids.e17 (k:Nat) (a0:SNode):Option Bool:=if (a0.f4.length:Int) = 2 then ((at? a0.f4 0).bind fun x149=>if x149.f0 = 21 then ((at? a0.f4 1).bind fun x152=>(spec_l02IsExpr.f k x152).bind fun r154=>some r154) else (some false)) else (some false)
def spec_l02Kids.e18 (k:Nat) (a0:SNode):Option (Bool ⊕ Unit):=if a0.f0 = 1 then ((spec_l02Order.f k a0.f4 ([2,3,4,5]:List Int) 10).bind fun r2=>some (.inl r2)) else (if a0.f0 = 5 then ((spec_l02Kids.e3 k a0).bind fun y22=>(spec_l02Kids.e4 k a0 y22).bind fun y28=>some (.inl y28)) else (if a0.f0 = 4 then ((spec_l02Kids.e5 k a0).bind fun y36=>some (.inl y36)) else ((spec_l02Kids.e6 k a0).bind fun y40=>if y40 = true then ((spec_l02Kids.e7 k a0).bind fun y47=>some (.inl y47)) else (if a0.f0 = 10 then ((spec_l02Kids.e9 k a0).bind fun v=>match v with | .inl r=>some (.inl r) | .inr _=>some (.inl true)) else (if a0.f0 = 11 then ((spec_l02Kids.e10 k a0).bind fun y78=>some (.inl y78)) else (if a0.f0 = 17 then ((spec_l02Kids.e11 k a0).bind fun y87=>some (.inl y87)) else (if a0.f0 = 13 then ((spec_l02Kids.e12 k a0).bind fun y105=>some (.inl y105)) else (if a0.f0 = 14 then ((spec_l02Kids.e13 k a0).bind fun y117=>some (.inl y117)) else (if a0.f0 = 15 then ((spec_l02Kids.e14 k a0).bind fun y124=>some (.inl y124)) else (if a0.f0 = 12 then ((spec_l02Exprs.f k a0.f4 (-1)).bind fun r128=>some (.inl r128)) else ((spec_l02Kids.e15 k a0).bind fun y134=>if y134 = true then ((spec_l02Exprs.f k a0.f4 1).bind fun r138=>some (.inl r138)) else (if a0.f0 = 27 then ((spec_l02Kids.e16 k a0).bind fun y144=>some (.inl y144)) else (if a0.f0 = 22 then ((spec_l02Kids.e17 k a0).bind fun y156=>some (.inl y156)) else (if a0.f0 = 24 then ((spec_l02Exprs.f k a0.f4 2).bind fun r160=>some (.inl r160)) else (some (.inr ()))))))))))))))))
def spec_l02Kids.f (k:Nat) (a0:SNode):Option Bool:=(spec_l02Kids.e18 k a0).bind fun v=>match v with | .inl r=>some r | .inr _=>some (decide ((a0.f4.length:Int) = 0))
theorem spec_l02Kids.fn {k:Nat} {a0:SNode} {r:Bool} (H:spec_l02Kids.f k a0 = some r):Fn Tryz.prog 46 [ag (vSNode a0)] [] (oB r) []:=by
 refine Fn.bd [2] Tryz.func46 ?_
 refine rn [1] 1 [] [] ?_
 refine rn [1,3] 1 [] [] ?_
 refine jr H (fun _=>⟨219,[(3,o1 (.sl 5 (List.map eSNode a0.f4)))],[],0,[]⟩) (fun _ H=>?_) fun v163 h162 H=>?_
 ·refine rn [2] 0 [] [hL 1 eSNode a0.f4] ?_
  refine Tri.ret ?_
  obtain rfl:=si H;exact eR
 refine rn [3,10] 0 [] [] ?_
 refine bl ?_
 refine rn [3,10,11] 0 [] [] ?_
 refine ci h162 (fun h1 h162=>?_) fun h1 h162=>?_
 ·obtain ⟨r2,h3,h162⟩:=bs h162
  refine rn [2] 0 [] [hC 2 (spec_l02Order.fn h3)] ?_
  refine Tri.ret ?_
  obtain rfl:=si h162;obtain rfl:=si H;exact eR
 refine rn [3,10,16] 0 [] [] ?_
 refine ci h162 (fun h4 h162=>?_) fun h4 h162=>?_
 ·refine rx [3,4] 0 [] [] ⟨219,[(3,o1 (.sl 5 (List.map eSNode a0.f4))),(4,oI 0)],[],0,[]⟩ ?_
  refine jo h162 (fun y22=>⟨219,[(3,o1 (.sl 5 (List.map eSNode a0.f4))),(4,oI y22)],[],0,[]⟩) (fun y22 h162=>?_) fun v24 h23 h162=>?_
  ·refine jo h162 (fun y28=>⟨219,[(2,oB y28)],[],0,[]⟩) (fun y28 h162=>?_) fun v30 h29 h162=>?_
   ·refine Tri.ret ?_
    obtain rfl:=si h162;obtain rfl:=si H;exact eR
   rcases ite_some h29 with ⟨h25,h29⟩ | ⟨h25,h29⟩
   ·obtain ⟨r26,h27,h29⟩:=bs h29
    refine rl [2] 0 [] [hB 1 (decide_eq_true h25),hC 5 (spec_l02Order.fn h27)] ?_
    exact pf r26 h29
   refine rl [2] 0 [] [hB 1 (decide_eq_false h25)] ?_
   exact pf false h29
  refine rn [3,4,5] 0 [] [] ?_
  refine bl ?_
  refine lo (Int × Int) k (fun k x=>spec_l02Kids.l2 k a0 x.1 x.2) (fun x=>⟨219,[(3,o1 (.sl 5 (List.map eSNode a0.f4))),(4,oI x.1),(5,oI x.2)],[],0,[]⟩) (0,0) h23 fun k x h23 IH21=>?_
  obtain ⟨z12,z13⟩:=x
  rw [spec_l02Kids.l2.eq_2] at h23
  refine sq ?_
  refine rn [3,4,5,21] 0 [] [hL 2 eSNode a0.f4] ?_
  refine ci h23 (fun h14 h23=>?_) fun h14 h23=>?_
  ·refine sk ?_
   refine jo h23 (fun y18=>⟨219,[(3,o1 (.sl 5 (List.map eSNode a0.f4))),(4,oI y18),(5,oI z13)],[],0,[]⟩) (fun y18 h23=>?_) fun v20 h19 h23=>?_
   ·refine rl [3,4,5] 0 [] [] ?_
    exact lb IH21 (y18,w64 (z13 + 1)) h23
   refine bl ?_
   obtain ⟨x15,h16,h19⟩:=bs h19
   refine rn [3,4,5,29] 0 [] [hEv 2 eSNode_v h16] ?_
   refine ci h19 (fun h17 h19=>?_) fun h17 h19=>?_
   ·refine rl [3,4,5] 0 [] [] ?_
    exact pf (w64 (z12 + 1)) h19
   refine fx [3,4,5] 0 [] ?_
   refine sk ?_
   exact pf z12 h19
  refine fx [3,4] 0 [] ?_
  refine xi ?_
  exact pf z12 h23
 refine rx [3,10,39] 0 [] [] ⟨219,[(3,o1 (.sl 5 (List.map eSNode a0.f4))),(10,oI a0.f0),(39,oB (decide (a0.f0 = 4)))],[],0,[]⟩ ?_
 refine ci h162 (fun h31 h162=>?_) fun h31 h162=>?_
 ·refine jo h162 (fun y36=>⟨219,[(2,oB y36)],[],0,[]⟩) (fun y36 h162=>?_) fun v38 h37 h162=>?_
  ·refine Tri.ret ?_
   obtain rfl:=si h162;obtain rfl:=si H;exact eR
  rcases ite_some h37 with ⟨h32,h37⟩ | ⟨h32,h37⟩
  ·obtain ⟨x33,h34,h37⟩:=bs h37
   rcases ite_some h37 with ⟨h35,h37⟩ | ⟨h35,h37⟩
   ·refine rl [2] 0 [] [hL 1 eSNode a0.f4,hB 2 (decide_eq_true h32),hEv 5 eSNode_v h34,hB 8 (decide_eq_true h35)] ?_
    exact pf true h37
   refine rl [2] 0 [] [hL 1 eSNode a0.f4,hB 2 (decide_eq_true h32),hEv 5 eSNode_v h34,hB 8 (decide_eq_false h35),hEv 11 eSNode_v h34] ?_
   exact pf (decide (x33.f0 = 9)) h37
  refine rl [2] 0 [] [hL 1 eSNode a0.f4,hB 2 (decide_eq_false h32)] ?_
  exact pf false h37
 refine jo h162 (fun y40=>⟨219,[(3,o1 (.sl 5 (List.map eSNode a0.f4))),(10,oI a0.f0),(58,oB y40)],[],0,[]⟩) (fun y40 h162=>?_) fun v42 h41 h162=>?_
 ·refine cb h162 (fun h43 h162=>?_) fun h43 h162=>?_
  ·refine jo h162 (fun y47=>⟨219,[(2,oB y47)],[],0,[]⟩) (fun y47 h162=>?_) fun v49 h48 h162=>?_
   ·refine Tri.ret ?_
    obtain rfl:=si h162;obtain rfl:=si H;exact eR
   rcases ite_some h48 with ⟨h44,h48⟩ | ⟨h44,h48⟩
   ·obtain ⟨x45,h46,h48⟩:=bs h48
    refine rl [2] 0 [] [hL 1 eSNode a0.f4,hB 2 (decide_eq_true h44),hEv 5 eSNode_v h46] ?_
    exact pf (decide (x45.f0 = 8)) h48
   refine rl [2] 0 [] [hL 1 eSNode a0.f4,hB 2 (decide_eq_false h44)] ?_
   exact pf false h48
  refine rn [3,10,71] 0 [] [] ?_
  refine ci h162 (fun h50 h162=>?_) fun h50 h162=>?_
  ·refine jr h162 (fun _=>⟨219,[],[],0,[]⟩) (fun _ h162=>?_) fun v66 h65 h162=>?_
   ·refine rn [2] 0 [] [] ?_
    refine Tri.ret ?_
    obtain rfl:=si h162;obtain rfl:=si H;exact eR
   refine rn [3,6] 0 [] [] ?_
   refine bl ?_
   refine lo Int k (fun k x=>spec_l02Kids.l8 k a0 x) (fun x=>⟨219,[(3,o1 (.sl 5 (List.map eSNode a0.f4))),(6,oI x)],[],0,[]⟩) 0 h65 fun k z57 h65 IH64=>?_
   rw [spec_l02Kids.l8.eq_2] at h65
   refine sq ?_
   refine rn [3,6,76] 0 [] [hL 2 eSNode a0.f4] ?_
   refine ci h65 (fun h58 h65=>?_) fun h58 h65=>?_
   ·refine sk ?_
    refine sq ?_
    refine bl ?_
    obtain ⟨x59,h60,h65⟩:=bs h65
    obtain ⟨r61,h62,h65⟩:=bs h65
    refine rn [3,6,84] 0 [] [hEv 2 eSNode_v h60,hC 4 (spec_l02IsStatement.fn h62)] ?_
    refine cm h65 (fun h63 h65=>?_) fun h63 h65=>?_
    ·refine sk ?_
     refine rl [3,6] 0 [] [] ?_
     exact lb IH64 (w64 (z57 + 1)) h65
    refine rn [2] 0 [] [] ?_
    refine Tri.ret ?_
    obtain rfl:=si h65;obtain rfl:=si h162;obtain rfl:=si H;exact eR
   refine fx [] 0 [] ?_
   refine xi ?_
   exact pe () h65
  refine rn [3,10,85] 0 [] [] ?_
  refine ci h162 (fun h67 h162=>?_) fun h67 h162=>?_
  ·refine jo h162 (fun y78=>⟨219,[(2,oB y78)],[],0,[]⟩) (fun y78 h162=>?_) fun v80 h79 h162=>?_
   ·refine Tri.ret ?_
    obtain rfl:=si h162;obtain rfl:=si H;exact eR
   rcases ite_some h79 with ⟨h68,h79⟩ | ⟨h68,h79⟩
   ·obtain ⟨x69,h70,h79⟩:=bs h79
    obtain ⟨r71,h72,h79⟩:=bs h79
    rcases iteb_some h79 with ⟨h73,h79⟩ | ⟨h73,h79⟩
    ·obtain ⟨x74,h75,h79⟩:=bs h79
     obtain ⟨r76,h77,h79⟩:=bs h79
     refine rl [2] 0 [] [hL 1 eSNode a0.f4,hB 2 (decide_eq_true h68),hEv 5 eSNode_v h70,hC 7 (spec_l02Designator.fn h72),hB 7 h73,hEv 11 eSNode_v h75,hC 13 (spec_l02IsExpr.fn h77)] ?_
     exact pf r76 h79
    refine rl [2] 0 [] [hL 1 eSNode a0.f4,hB 2 (decide_eq_true h68),hEv 5 eSNode_v h70,hC 7 (spec_l02Designator.fn h72),hB 7 h73] ?_
    exact pf false h79
   refine rl [2] 0 [] [hL 1 eSNode a0.f4,hB 2 (decide_eq_false h68)] ?_
   exact pf false h79
  refine rn [3,10,102] 0 [] [] ?_
  refine ci h162 (fun h81 h162=>?_) fun h81 h162=>?_
  ·refine jo h162 (fun y87=>⟨219,[(2,oB y87)],[],0,[]⟩) (fun y87 h162=>?_) fun v89 h88 h162=>?_
   ·refine Tri.ret ?_
    obtain rfl:=si h162;obtain rfl:=si H;exact eR
   rcases ite_some h88 with ⟨h82,h88⟩ | ⟨h82,h88⟩
   ·obtain ⟨x83,h84,h88⟩:=bs h88
    obtain ⟨r85,h86,h88⟩:=bs h88
    refine rl [2] 0 [] [hL 1 eSNode a0.f4,hB 2 (decide_eq_true h82),hEv 5 eSNode_v h84,hC 7 (spec_l02Designator.fn h86)] ?_
    exact pf r85 h88
   refine rl [2] 0 [] [hL 1 eSNode a0.f4,hB 2 (decide_eq_false h82)] ?_
   exact pf false h88
  refine rn [3,10,113] 0 [] [] ?_
  refine ci h162 (fun h90 h162=>?_) fun h90 h162=>?_
  ·refine jo h162 (fun y105=>⟨219,[(2,oB y105)],[],0,[]⟩) (fun y105 h162=>?_) fun v107 h106 h162=>?_
   ·refine Tri.ret ?_
    obtain rfl:=si h162;obtain rfl:=si H;exact eR
   obtain ⟨r91,h92,h106⟩:=bs h106
   rcases iteb_some h106 with ⟨h93,h106⟩ | ⟨h93,h106⟩
   ·obtain ⟨x94,h95,h106⟩:=bs h106
    obtain ⟨r96,h97,h106⟩:=bs h106
    rcases iteb_some h106 with ⟨h98,h106⟩ | ⟨h98,h106⟩
    ·obtain ⟨x99,h100,h106⟩:=bs h106
     rcases ite_some h106 with ⟨h101,h106⟩ | ⟨h101,h106⟩
     ·rcases ite_some h106 with ⟨h102,h106⟩ | ⟨h102,h106⟩
      ·refine rl [2] 0 [] [hL 1 eSNode a0.f4,hC 2 (spec_l01In.fn h92),hB 2 h93,hEv 5 eSNode_v h95,hC 7 (spec_l02IsExpr.fn h97),hB 7 h98,hEv 11 eSNode_v h100,hB 14 (decide_eq_true h101),hL 18 eSNode a0.f4,hB 19 (decide_eq_true h102)] ?_
       exact pf true h106
      obtain ⟨x103,h104,h106⟩:=bs h106
      refine rl [2] 0 [] [hL 1 eSNode a0.f4,hC 2 (spec_l01In.fn h92),hB 2 h93,hEv 5 eSNode_v h95,hC 7 (spec_l02IsExpr.fn h97),hB 7 h98,hEv 11 eSNode_v h100,hB 14 (decide_eq_true h101),hL 18 eSNode a0.f4,hB 19 (decide_eq_false h102),hEv 22 eSNode_v h104] ?_
      exact pf (decide (x103.f0 = 10)) h106
     refine rl [2] 0 [] [hL 1 eSNode a0.f4,hC 2 (spec_l01In.fn h92),hB 2 h93,hEv 5 eSNode_v h95,hC 7 (spec_l02IsExpr.fn h97),hB 7 h98,hEv 11 eSNode_v h100,hB 14 (decide_eq_false h101)] ?_
     exact pf false h106
    refine rl [2] 0 [] [hL 1 eSNode a0.f4,hC 2 (spec_l01In.fn h92),hB 2 h93,hEv 5 eSNode_v h95,hC 7 (spec_l02IsExpr.fn h97),hB 7 h98] ?_
    exact pf false h106
   refine rl [2] 0 [] [hL 1 eSNode a0.f4,hC 2 (spec_l01In.fn h92),hB 2 h93] ?_
   exact pf false h106
  refine rn [3,10,143] 0 [] [] ?_
  refine ci h162 (fun h108 h162=>?_) fun h108 h162=>?_
  ·refine jo h162 (fun y117=>⟨219,[(2,oB y117)],[],0,[]⟩) (fun y117 h162=>?_) fun v119 h118 h162=>?_
   ·refine Tri.ret ?_
    obtain rfl:=si h162;obtain rfl:=si H;exact eR
   rcases ite_some h118 with ⟨h109,h118⟩ | ⟨h109,h118⟩
   ·obtain ⟨x110,h111,h118⟩:=bs h118
    obtain ⟨r112,h113,h118⟩:=bs h118
    rcases iteb_some h118 with ⟨h114,h118⟩ | ⟨h114,h118⟩
    ·obtain ⟨x115,h116,h118⟩:=bs h118
     refine rl [2] 0 [] [hL 1 eSNode a0.f4,hB 2 (decide_eq_true h109),hEv 5 eSNode_v h111,hC 7 (spec_l02IsExpr.fn h113),hB 7 h114,hEv 11 eSNode_v h116] ?_
     exact pf (decide (x115.f0 = 10)) h118
    refine rl [2] 0 [] [hL 1 eSNode a0.f4,hB 2 (decide_eq_true h109),hEv 5 eSNode_v h111,hC 7 (spec_l02IsExpr.fn h113),hB 7 h114] ?_
    exact pf false h118
   refine rl [2] 0 [] [hL 1 eSNode a0.f4,hB 2 (decide_eq_false h109)] ?_
   exact pf false h118
  refine rx [3,10,161] 0 [] [] ⟨219,[(3,o1 (.sl 5 (List.map eSNode a0.f4))),(10,oI a0.f0),(161,oB (decide (a0.f0 = 15)))],[],0,[]⟩ ?_
  refine ci h162 (fun h120 h162=>?_) fun h120 h162=>?_
  ·refine jo h162 (fun y124=>⟨219,[(2,oB y124)],[],0,[]⟩) (fun y124 h162=>?_) fun v126 h125 h162=>?_
   ·refine Tri.ret ?_
    obtain rfl:=si h162;obtain rfl:=si H;exact eR
   rcases ite_some h125 with ⟨h121,h125⟩ | ⟨h121,h125⟩
   ·obtain ⟨r122,h123,h125⟩:=bs h125
    refine rl [2] 0 [] [hL 1 eSNode a0.f4,hB 2 (decide_eq_true h121),hC 5 (spec_l02Exprs.fn h123)] ?_
    exact pf r122 h125
   refine rl [2] 0 [] [hL 1 eSNode a0.f4,hB 2 (decide_eq_false h121)] ?_
   exact pf false h125
  refine rn [3,10,170] 0 [] [] ?_
  refine ci h162 (fun h127 h162=>?_) fun h127 h162=>?_
  ·obtain ⟨r128,h129,h162⟩:=bs h162
   refine rn [2] 0 [] [hC 1 (spec_l02Exprs.fn h129)] ?_
   refine Tri.ret ?_
   obtain rfl:=si h162;obtain rfl:=si H;exact eR
  refine jo h162 (fun y134=>⟨219,[(3,o1 (.sl 5 (List.map eSNode a0.f4))),(10,oI a0.f0),(174,oB y134)],[],0,[]⟩) (fun y134 h162=>?_) fun v136 h135 h162=>?_
  ·refine cb h162 (fun h137 h162=>?_) fun h137 h162=>?_
   ·obtain ⟨r138,h139,h162⟩:=bs h162
    refine rn [2] 0 [] [hC 1 (spec_l02Exprs.fn h139)] ?_
    refine Tri.ret ?_
    obtain rfl:=si h162;obtain rfl:=si H;exact eR
   refine rn [3,10,182] 0 [] [] ?_
   refine ci h162 (fun h140 h162=>?_) fun h140 h162=>?_
   ·refine jo h162 (fun y144=>⟨219,[(2,oB y144)],[],0,[]⟩) (fun y144 h162=>?_) fun v146 h145 h162=>?_
    ·refine Tri.ret ?_
     obtain rfl:=si h162;obtain rfl:=si H;exact eR
    rcases ite_some h145 with ⟨h141,h145⟩ | ⟨h141,h145⟩
    ·obtain ⟨x142,h143,h145⟩:=bs h145
     refine rl [2] 0 [] [hL 1 eSNode a0.f4,hB 2 (decide_eq_true h141),hEv 5 eSNode_v h143] ?_
     exact pf (decide (x142.f0 = 21)) h145
    refine rl [2] 0 [] [hL 1 eSNode a0.f4,hB 2 (decide_eq_false h141)] ?_
    exact pf false h145
   refine rn [3,10,194] 0 [] [] ?_
   refine ci h162 (fun h147 h162=>?_) fun h147 h162=>?_
   ·refine jo h162 (fun y156=>⟨219,[(2,oB y156)],[],0,[]⟩) (fun y156 h162=>?_) fun v158 h157 h162=>?_
    ·refine Tri.ret ?_
     obtain rfl:=si h162;obtain rfl:=si H;exact eR
    rcases ite_some h157 with ⟨h148,h157⟩ | ⟨h148,h157⟩
    ·obtain ⟨x149,h150,h157⟩:=bs h157
     rcases ite_some h157 with ⟨h151,h157⟩ | ⟨h151,h157⟩
     ·obtain ⟨x152,h153,h157⟩:=bs h157
      obtain ⟨r154,h155,h157⟩:=bs h157
      refine rl [2] 0 [] [hL 1 eSNode a0.f4,hB 2 (decide_eq_true h148),hEv 5 eSNode_v h150,hB 8 (decide_eq_true h151),hEv 12 eSNode_v h153,hC 14 (spec_l02IsExpr.fn h155)] ?_
      exact pf r154 h157
     refine rl [2] 0 [] [hL 1 eSNode a0.f4,hB 2 (decide_eq_true h148),hEv 5 eSNode_v h150,hB 8 (decide_eq_false h151)] ?_
     exact pf false h157
    refine rl [2] 0 [] [hL 1 eSNode a0.f4,hB 2 (decide_eq_false h148)] ?_
    exact pf false h157
   refine rn [3,212] 0 [] [] ?_
   refine ci h162 (fun h159 h162=>?_) fun h159 h162=>?_
   ·obtain ⟨r160,h161,h162⟩:=bs h162
    refine rn [2] 0 [] [hC 1 (spec_l02Exprs.fn h161)] ?_
    refine Tri.ret ?_
    obtain rfl:=si h162;obtain rfl:=si H;exact eR
   refine fx [3] 0 [] ?_
   refine sk ?_
   exact pe () h162
  refine rn [3,10,174] 0 [] [] ?_
  refine ci h135 (fun h130 h135=>?_) fun h130 h135=>?_
  ·refine sk ?_
   exact pf (decide (a0.f0 = 3)) h135
  refine rn [3,10,174] 0 [] [] ?_
  refine ci h135 (fun h131 h135=>?_) fun h131 h135=>?_
  ·refine sk ?_
   exact pf (decide (a0.f0 = 16)) h135
  refine rn [3,10,174] 0 [] [] ?_
  refine ci h135 (fun h132 h135=>?_) fun h132 h135=>?_
  ·refine sk ?_
   exact pf (decide (a0.f0 = 23)) h135
  refine rn [3,10,174] 0 [] [] ?_
  refine ci h135 (fun h133 h135=>?_) fun h133 h135=>?_
  ·refine sk ?_
   exact pf (decide (a0.f0 = 25)) h135
  refine rl [3,10,174] 0 [] [] ?_
  exact pf (decide (a0.f0 = 26)) h135
 refine rn [3,10,58] 0 [] [] ?_
 refine ci h41 (fun h39 h41=>?_) fun h39 h41=>?_
 ·refine sk ?_
  exact pf (decide (a0.f0 = 6)) h41
 refine rl [3,10,58] 0 [] [] ?_
 exact pf (decide (a0.f0 = 9)) h41
def spec_l02Right.e1 (k:Nat) (a0:SNode):Option Bool:=(spec_l01In.f k a0.f0 1 27).bind fun r1=>if r1 = true then ((spec_l02Names.f k a0).bind fun r4=>if r4 = true then ((spec_l02Number.f k a0).bind fun r7=>if r7 = true then ((spec_l02Kids.f k a0).bind fun r10=>some (!r10)) else (some true)) else (some true)) else (some true)
def spec_l02Right.l2:Nat → SNode → (SNode → Option Bool) → Int → Option (Bool ⊕ Unit)
  | 0,_,_,_=>none
  | k + 1,a0,rec_spec_l02Right,z22=>if z22 < (a0.f4.length:Int) then ((at? a0.f4 z22).bind fun x24=>(rec_spec_l02Right x24).bind fun r26=>if r26 = true then (spec_l02Right.l2 k a0 rec_spec_l02Right (w64 (z22 + 1))) else (some (.inl false))) else (some (.inr ()))
def spec_l02Right.e3 (k:Nat) (a0:SNode) (rec_spec_l02Right:(SNode → Option Bool)):Option (Bool ⊕ Unit):=spec_l02Right.l2 k a0 rec_spec_l02Right 0
def spec_l02Right.f:Nat → SNode → Option Bool
  | 0,_=>none
  | k + 1,a0=>(spec_l02Right.e1 k a0).bind fun y12=>if y12 = true then (some false) else ((spec_l02Right.e3 k a0 (spec_l02Right.f k)).bind fun v=>match v with | .inl r=>some r | .inr _=>some true)
theorem spec_l02Right.fn {k:Nat}:∀ {a0:SNode} {r:Bool} (H:spec_l02Right.f k a0 = some r),Fn Tryz.prog 23 [ag (vSNode a0)] [] (oB r) []:=by
 induction k with
 | zero=>intro a0 r H; exact absurd H (by simp [spec_l02Right.f])
 | succ k ih_spec_l02Right =>
 intro a0 r H
 rw [spec_l02Right.f.eq_2] at H
 generalize spec_l02Right.f k = rec_spec_l02Right at H ih_spec_l02Right
 refine Fn.bd [2] Tryz.func23 ?_
 refine rn [1] 1 [] [] ?_
 refine sq ?_
 refine jo H (fun y12=>⟨37,[(1,o1 (.ref 0 0)),(22,oB y12)],[vSNode a0],0,[]⟩) (fun y12 H=>?_) fun v14 h13 H=>?_
 ·refine cb H (fun h15 H=>?_) fun h15 H=>?_
  ·refine rn [2] 0 [] [] ?_
   refine Tri.ret ?_
   obtain rfl:=si H;exact eR
  refine sk ?_
  refine jr H (fun _=>⟨37,[],[],0,[]⟩) (fun _ H=>?_) fun v31 h30 H=>?_
  ·refine rn [2] 0 [] [] ?_
   refine Tri.ret ?_
   obtain rfl:=si H;exact eR
  refine rn [1,3] 1 [] [] ?_
  refine bl ?_
  refine lo Int k (fun k x=>spec_l02Right.l2 k a0 rec_spec_l02Right x) (fun x=>⟨37,[(1,o1 (.ref 0 0)),(3,oI x)],[vSNode a0],0,[]⟩) 0 h30 fun k z22 h30 IH29=>?_
  rw [spec_l02Right.l2.eq_2] at h30
  refine sq ?_
  refine rn [1,3,27] 1 [] [hL 3 eSNode a0.f4] ?_
  refine ci h30 (fun h23 h30=>?_) fun h23 h30=>?_
  ·refine sk ?_
   refine sq ?_
   refine bl ?_
   obtain ⟨x24,h25,h30⟩:=bs h30
   obtain ⟨r26,h27,h30⟩:=bs h30
   refine rn [1,3,36] 1 [] [hEv 3 eSNode_v h25,hC 5 (ih_spec_l02Right h27)] ?_
   refine cm h30 (fun h28 h30=>?_) fun h28 h30=>?_
   ·refine sk ?_
    refine rl [1,3] 1 [] [] ?_
    exact lb IH29 (w64 (z22 + 1)) h30
   refine rn [2] 0 [] [] ?_
   refine Tri.ret ?_
   obtain rfl:=si h30;obtain rfl:=si H;exact eR
  refine fx [] 0 [] ?_
  refine xi ?_
  exact pe () h30
 obtain ⟨r1,h2,h13⟩:=bs h13
 rcases iteb_some h13 with ⟨h3,h13⟩ | ⟨h3,h13⟩
 ·obtain ⟨r4,h5,h13⟩:=bs h13
  rcases iteb_some h13 with ⟨h6,h13⟩ | ⟨h6,h13⟩
  ·obtain ⟨r7,h8,h13⟩:=bs h13
   rcases iteb_some h13 with ⟨h9,h13⟩ | ⟨h9,h13⟩
   ·obtain ⟨r10,h11,h13⟩:=bs h13
    refine rl [1,22] 1 [] [hC 2 (spec_l01In.fn h2),hB 2 h3,hC 6 (spec_l02Names.fn h5),hB 6 h6,hC 11 (spec_l02Number.fn h8),hB 11 h9,hC 16 (spec_l02Kids.fn h11)] ?_
    exact pf (!r10) h13
   refine rl [1,22] 1 [] [hC 2 (spec_l01In.fn h2),hB 2 h3,hC 6 (spec_l02Names.fn h5),hB 6 h6,hC 11 (spec_l02Number.fn h8),hB 11 h9] ?_
   exact pf true h13
  refine rl [1,22] 1 [] [hC 2 (spec_l01In.fn h2),hB 2 h3,hC 6 (spec_l02Names.fn h5),hB 6 h6] ?_
  exact pf true h13
 refine rl [1,22] 1 [] [hC 2 (spec_l01In.fn h2),hB 2 h3] ?_
 exact pf true h13
def spec_TreeOK.e1 (k:Nat) (a0:SNode):Option Bool:=if a0.f0 = 1 then ((spec_l02Left.f k a0 700 1).bind fun r2=>if (0:Int) ≤ r2 then ((spec_l02Right.f k a0).bind fun r5=>some r5) else (some false)) else (some false)
def spec_TreeOK.f (k:Nat) (a0:SNode):Option Bool:=(spec_TreeOK.e1 k a0).bind fun y7=>some y7
theorem spec_TreeOK.fn {k:Nat} {a0:SNode} {r:Bool} (H:spec_TreeOK.f k a0 = some r):Fn Tryz.prog 10 [ag (vSNode a0)] [] (oB r) []:=by
 refine Fn.bd [2] Tryz.func10 ?_
 refine rn [1] 1 [] [] ?_
 refine jo H (fun y7=>⟨15,[(2,oB y7)],[],0,[]⟩) (fun y7 H=>?_) fun v9 h8 H=>?_
 ·refine Tri.ret ?_
  obtain rfl:=si H;exact eR
 rcases ite_some h8 with ⟨h1,h8⟩ | ⟨h1,h8⟩
 ·obtain ⟨r2,h3,h8⟩:=bs h8
  rcases ite_some h8 with ⟨h4,h8⟩ | ⟨h4,h8⟩
  ·obtain ⟨r5,h6,h8⟩:=bs h8
   refine rl [2] 0 [] [hB 2 (decide_eq_true h1),hC 5 (spec_l02Left.fn h3),hB 6 (decide_eq_true h4),hC 10 (spec_l02Right.fn h6)] ?_
   exact pf r5 h8
  refine rl [2] 0 [] [hB 2 (decide_eq_true h1),hC 5 (spec_l02Left.fn h3),hB 6 (decide_eq_false h4)] ?_
  exact pf false h8
 refine rl [2] 0 [] [hB 2 (decide_eq_false h1)] ?_
 exact pf false h8
def spec_l02Writer__line_2.l1:Nat → Sfffb48 → Int → (List Int) → Option (List Int)
  | 0,_,_,_=>none
  | k + 1,b0,z3,z4=>if z3 < b0.f1 then (if (z4 ++ ([32,32]:List Int)).length * 1 ≤ 140737488355328 then (spec_l02Writer__line_2.l1 k b0 (w64 (z3 + 1)) (z4 ++ ([32,32]:List Int))) else none) else (some z4)
def spec_l02Writer__line_2.e2 (k:Nat) (b0:Sfffb48):Option (List Int):=spec_l02Writer__line_2.l1 k b0 0 b0.f0
def spec_l02Writer__line_2.f (k:Nat) (a1:ByteArray) (b0:Sfffb48):Option (List Int):=(spec_l02Writer__line_2.e2 k b0).bind fun y8=>if (y8 ++ (bytesOf a1)).length * 1 ≤ 140737488355328 then (if ((y8 ++ (bytesOf a1)) ++ ([10]:List Int)).length * 1 ≤ 140737488355328 then (some ((y8 ++ (bytesOf a1)) ++ ([10]:List Int))) else none) else none
theorem spec_l02Writer__line_2.fn {k:Nat} {a1:ByteArray} {b0:Sfffb48} {r:(List Int)} (H:spec_l02Writer__line_2.f k a1 b0 = some r):FnG Tryz.prog 24 [o1 (.ref 0 0),oS a1] [] [[.own 5 (List.map (eK .u8) b0.f0),cI b0.f1]] (tp [] []) [] [[.own 5 (List.map (eK .u8) r),cI b0.f1]]:=by
 refine FnG.body (ts:=[]) Tryz.func24 rfl rfl (by decide) (by decide) (Nat.le_of_ble_eq_true rfl) rfl (Nat.le_of_ble_eq_true rfl) ?_
 refine jo H (fun y8=>⟨33,[(0,o1 (.ref 0 0)),(1,oS a1)],[[.own 5 (List.map (eK .u8) y8),cI b0.f1]],1,[]⟩) (fun y8 H=>?_) fun v10 h9 H=>?_
 ·obtain ⟨h11,H⟩:=nd H
  obtain ⟨h12,H⟩:=nd H
  refine rl [] 1 [] [hT 6 5 h11,hA 8 5 (eK .u8) h12] ?_
  obtain rfl:=si H;exact endsG (.inl rfl) (by kernel_rfl)
 refine rn [0,1,4] 1 [] [] ?_
 refine bl ?_
 refine lo (Int × (List Int)) k (fun k x=>spec_l02Writer__line_2.l1 k b0 x.1 x.2) (fun x=>⟨33,[(0,o1 (.ref 0 0)),(1,oS a1),(4,oI x.1)],[[.own 5 (List.map (eK .u8) x.2),cI b0.f1]],1,[]⟩) (0,b0.f0) h9 fun k x h9 IH7=>?_
 obtain ⟨z3,z4⟩:=x
 rw [spec_l02Writer__line_2.l1.eq_2] at h9
 refine sq ?_
 refine rn [0,1,4,10] 1 [] [] ?_
 refine ci h9 (fun h5 h9=>?_) fun h5 h9=>?_
 ·refine sk ?_
  refine sq ?_
  refine bl ?_
  obtain ⟨h6,h9⟩:=nd h9
  refine rl [0,1,4] 1 [] [hA 6 5 (eK .u8) h6] ?_
  refine rl [0,1,4] 1 [] [] ?_
  exact lb IH7 (w64 (z3 + 1),z4 ++ ([32,32]:List Int)) h9
 refine fx [0,1] 1 [] ?_
 refine xi ?_
 exact pf z4 h9
def spec_l02Star.f (k:Nat) (a0:SNode):Option ByteArray:=if a0.f1 = 1 then (if a0.f2.size + (⟨#[42]⟩:ByteArray).size ≤ 9223372036854775807 then (some (a0.f2 ++ (⟨#[42]⟩:ByteArray))) else none) else (some a0.f2)
theorem spec_l02Star.fn {k:Nat} {a0:SNode} {r:ByteArray} (H:spec_l02Star.f k a0 = some r):Fn Tryz.prog 25 [ag (vSNode a0)] [] (oS r) []:=by
 refine Fn.bd [2] Tryz.func25 ?_
 refine rn [1] 1 [] [] ?_
 refine sq ?_
 refine rn [1,5] 1 [] [] ?_
 refine ci H (fun h1 H=>?_) fun h1 H=>?_
 ·obtain ⟨h2,H⟩:=nd H
  refine rn [2] 0 [] [p1 h2] ?_
  refine Tri.ret ?_
  obtain rfl:=si H;exact eR
 refine sk ?_
 refine rn [2] 0 [] [] ?_
 refine Tri.ret ?_
 obtain rfl:=si H;exact eR
def spec_l00Digits.f:Nat → Int → Option ByteArray
  | 0,_=>none
  | k + 1,a0=>if a0 = (-9223372036854775808) then (some (⟨#[45,57,50,50,51,51,55,50,48,51,54,56,53,52,55,55,53,56,48,56]⟩:ByteArray)) else (if a0 < 0 then (((spec_l00Digits.f k) (w64 (0 - a0))).bind fun r3=>if (⟨#[45]⟩:ByteArray).size + r3.size ≤ 9223372036854775807 then (some ((⟨#[45]⟩:ByteArray) ++ r3)) else none) else (if a0 < 10 then (some (strOfNums ([IntKind.u8.wrap (w64 (48 + a0))]:List Int))) else (((spec_l00Digits.f k) (w64 (Int.tdiv a0 10))).bind fun r7=>if r7.size + (strOfNums ([IntKind.u8.wrap (w64 (48 + (Int.tmod a0 10)))]:List Int)).size ≤ 9223372036854775807 then (some (r7 ++ (strOfNums ([IntKind.u8.wrap (w64 (48 + (Int.tmod a0 10)))]:List Int)))) else none)))
theorem spec_l00Digits.fn {k:Nat}:∀ {a0:Int} {r:ByteArray} (H:spec_l00Digits.f k a0 = some r),Fn Tryz.prog 47 [oI a0] [] (oS r) []:=by
 induction k with
 | zero=>intro a0 r H; exact absurd H (by simp [spec_l00Digits.f])
 | succ k ih_spec_l00Digits =>
 intro a0 r H
 rw [spec_l00Digits.f.eq_2] at H
 generalize spec_l00Digits.f k = rec_spec_l00Digits at H ih_spec_l00Digits
 refine Fn.bd [2] Tryz.func47 ?_
 refine rn [0] 0 [] [] ?_
 refine sq ?_
 refine rn [0,4] 0 [] [] ?_
 refine ci H (fun h1 H=>?_) fun h1 H=>?_
 ·refine rn [2] 0 [] [] ?_
  refine Tri.ret ?_
  obtain rfl:=si H;exact eR
 refine sk ?_
 refine sq ?_
 refine rn [0,6] 0 [] [] ?_
 refine ci H (fun h2 H=>?_) fun h2 H=>?_
 ·obtain ⟨r3,h4,H⟩:=bs H
  obtain ⟨h5,H⟩:=nd H
  refine rn [2] 0 [] [hC 2 (ih_spec_l00Digits h4),p1 h5] ?_
  refine Tri.ret ?_
  obtain rfl:=si H;exact eR
 refine sk ?_
 refine sq ?_
 refine rn [0,12] 0 [] [] ?_
 refine ci H (fun h6 H=>?_) fun h6 H=>?_
 ·refine rn [2] 0 [] [q1 4 (.nums ([IntKind.u8.wrap (w64 (48 + a0))]:List Int)) (rfl:List.map (eK .u8) ([IntKind.u8.wrap (w64 (48 + a0))]:List Int) = List.map (fun n=>[PC.sc (.int .u8 n)]) ([IntKind.u8.wrap (w64 (48 + a0))]:List Int))] ?_
  refine Tri.ret ?_
  obtain rfl:=si H;exact eR
 refine sk ?_
 obtain ⟨r7,h8,H⟩:=bs H
 obtain ⟨h9,H⟩:=nd H
 refine dn hmix 9 [[],[0],[0,1],[],[3],[3,4],[3,4,5],[3,4,5,6],[3,4,5,6,7],[0,1,2,3,4,5,6,7,8],[0,1,2,3,4,5,6,7,8,9]] [2] 0 [] [p1 (show (10:Int) ≠ 0 by decide),hC 2 (ih_spec_l00Digits h8),p1 (show (10:Int) ≠ 0 by decide),q1 8 (.nums ([IntKind.u8.wrap (w64 (48 + (Int.tmod a0 10)))]:List Int)) (rfl:List.map (eK .u8) ([IntKind.u8.wrap (w64 (48 + (Int.tmod a0 10)))]:List Int) = List.map (fun n=>[PC.sc (.int .u8 n)]) ([IntKind.u8.wrap (w64 (48 + (Int.tmod a0 10)))]:List Int)),p1 h9] ?_
 refine Tri.ret ?_
 obtain rfl:=si H;exact eR
def spec_l01Hex.f:Nat → Int → Option ByteArray
  | 0,_=>none
  | k + 1,a0=>if a0 < 16 then (if (0:Int) ≤ a0 then (if a0 < ((⟨#[48,49,50,51,52,53,54,55,56,57,65,66,67,68,69,70]⟩:ByteArray).size:Int) then (some (Utf8.encode (byteAt (⟨#[48,49,50,51,52,53,54,55,56,57,65,66,67,68,69,70]⟩:ByteArray) a0))) else none) else none) else (((spec_l01Hex.f k) (w64 (Int.tdiv a0 16))).bind fun r4=>if (0:Int) ≤ (Int.tmod a0 16) then (if (Int.tmod a0 16) < ((⟨#[48,49,50,51,52,53,54,55,56,57,65,66,67,68,69,70]⟩:ByteArray).size:Int) then (if r4.size + (Utf8.encode (byteAt (⟨#[48,49,50,51,52,53,54,55,56,57,65,66,67,68,69,70]⟩:ByteArray) (Int.tmod a0 16))).size ≤ 9223372036854775807 then (some (r4 ++ (Utf8.encode (byteAt (⟨#[48,49,50,51,52,53,54,55,56,57,65,66,67,68,69,70]⟩:ByteArray) (Int.tmod a0 16))))) else none) else none) else none)
theorem spec_l01Hex.fn {k:Nat}:∀ {a0:Int} {r:ByteArray} (H:spec_l01Hex.f k a0 = some r),Fn Tryz.prog 78 [oI a0] [] (oS r) []:=by
 induction k with
 | zero=>intro a0 r H; exact absurd H (by simp [spec_l01Hex.f])
 | succ k ih_spec_l01Hex =>
 intro a0 r H
 rw [spec_l01Hex.f.eq_2] at H
 generalize spec_l01Hex.f k = rec_spec_l01Hex at H ih_spec_l01Hex
 refine Fn.bd [2] Tryz.func78 ?_
 refine rn [0] 0 [] [] ?_
 refine sq ?_
 refine rn [0,4] 0 [] [] ?_
 refine ci H (fun h1 H=>?_) fun h1 H=>?_
 ·obtain ⟨h2,H⟩:=nd H
  obtain ⟨h3,H⟩:=nd H
  refine rn [2] 0 [] [p2 h2 h3] ?_
  refine Tri.ret ?_
  obtain rfl:=si H;exact eR
 refine sk ?_
 obtain ⟨r4,h5,H⟩:=bs H
 obtain ⟨h6,H⟩:=nd H
 obtain ⟨h7,H⟩:=nd H
 obtain ⟨h8,H⟩:=nd H
 refine dn hmix 7 [[],[0],[0,1],[],[3],[3,4],[3,4,5],[0,1,2,3,4,5,6],[0,1,2,3,4,5,6,7]] [2] 0 [] [p1 (show (16:Int) ≠ 0 by decide),hC 2 (ih_spec_l01Hex h5),p1 (show (16:Int) ≠ 0 by decide),p2 h6 h7,p1 h8] ?_
 refine Tri.ret ?_
 obtain rfl:=si H;exact eR
def spec_l01Utf8.f (k:Nat) (a0:Int):Option ByteArray:=if a0 < 128 then (some (strOfNums ([IntKind.u8.wrap (a0)]:List Int))) else (if a0 < 2048 then (some (strOfNums ([IntKind.u8.wrap (w64 (192 + (w64 (Int.tdiv a0 64)))),IntKind.u8.wrap (w64 (128 + (Int.tmod a0 64)))]:List Int))) else (if a0 < 65536 then (some (strOfNums ([IntKind.u8.wrap (w64 (224 + (w64 (Int.tdiv a0 4096)))),IntKind.u8.wrap (w64 (128 + (Int.tmod (w64 (Int.tdiv a0 64)) 64))),IntKind.u8.wrap (w64 (128 + (Int.tmod a0 64)))]:List Int))) else (some (strOfNums ([IntKind.u8.wrap (w64 (240 + (w64 (Int.tdiv a0 262144)))),IntKind.u8.wrap (w64 (128 + (Int.tmod (w64 (Int.tdiv a0 4096)) 64))),IntKind.u8.wrap (w64 (128 + (Int.tmod (w64 (Int.tdiv a0 64)) 64))),IntKind.u8.wrap (w64 (128 + (Int.tmod a0 64)))]:List Int)))))
theorem spec_l01Utf8.fn {k:Nat} {a0:Int} {r:ByteArray} (H:spec_l01Utf8.f k a0 = some r):Fn Tryz.prog 79 [oI a0] [] (oS r) []:=by
 refine Fn.bd [2] Tryz.func79 ?_
 refine rn [0] 0 [] [] ?_
 refine sq ?_
 refine bl ?_
 refine rn [0,3] 0 [] [] ?_
 refine ci H (fun h1 H=>?_) fun h1 H=>?_
 ·refine rn [2] 0 [] [q1 3 (.nums ([IntKind.u8.wrap (a0)]:List Int)) (rfl:List.map (eK .u8) ([IntKind.u8.wrap (a0)]:List Int) = List.map (fun n=>[PC.sc (.int .u8 n)]) ([IntKind.u8.wrap (a0)]:List Int))] ?_
  refine Tri.ret ?_
  obtain rfl:=si H;exact eR
 refine rn [0,10] 0 [] [] ?_
 refine ci H (fun h2 H=>?_) fun h2 H=>?_
 ·refine rn [2] 0 [] [p1 (show (64:Int) ≠ 0 by decide),p1 (show (64:Int) ≠ 0 by decide),q1 9 (.nums ([IntKind.u8.wrap (w64 (192 + (w64 (Int.tdiv a0 64)))),IntKind.u8.wrap (w64 (128 + (Int.tmod a0 64)))]:List Int)) (rfl:List.map (eK .u8) ([IntKind.u8.wrap (w64 (192 + (w64 (Int.tdiv a0 64)))),IntKind.u8.wrap (w64 (128 + (Int.tmod a0 64)))]:List Int) = List.map (fun n=>[PC.sc (.int .u8 n)]) ([IntKind.u8.wrap (w64 (192 + (w64 (Int.tdiv a0 64)))),IntKind.u8.wrap (w64 (128 + (Int.tmod a0 64)))]:List Int))] ?_
  refine Tri.ret ?_
  obtain rfl:=si H;exact eR
 refine rn [0,23] 0 [] [] ?_
 refine ci H (fun h3 H=>?_) fun h3 H=>?_
 ·refine rn [2] 0 [] [p1 (show (4096:Int) ≠ 0 by decide),p1 (show (64:Int) ≠ 0 by decide),p1 (show (64:Int) ≠ 0 by decide),p1 (show (64:Int) ≠ 0 by decide),q1 14 (.nums ([IntKind.u8.wrap (w64 (224 + (w64 (Int.tdiv a0 4096)))),IntKind.u8.wrap (w64 (128 + (Int.tmod (w64 (Int.tdiv a0 64)) 64))),IntKind.u8.wrap (w64 (128 + (Int.tmod a0 64)))]:List Int)) (rfl:List.map (eK .u8) ([IntKind.u8.wrap (w64 (224 + (w64 (Int.tdiv a0 4096)))),IntKind.u8.wrap (w64 (128 + (Int.tmod (w64 (Int.tdiv a0 64)) 64))),IntKind.u8.wrap (w64 (128 + (Int.tmod a0 64)))]:List Int) = List.map (fun n=>[PC.sc (.int .u8 n)]) ([IntKind.u8.wrap (w64 (224 + (w64 (Int.tdiv a0 4096)))),IntKind.u8.wrap (w64 (128 + (Int.tmod (w64 (Int.tdiv a0 64)) 64))),IntKind.u8.wrap (w64 (128 + (Int.tmod a0 64)))]:List Int))] ?_
  refine Tri.ret ?_
  obtain rfl:=si H;exact eR
 refine sk ?_
 refine rn [2] 0 [] [p1 (show (262144:Int) ≠ 0 by decide),p1 (show (4096:Int) ≠ 0 by decide),p1 (show (64:Int) ≠ 0 by decide),p1 (show (64:Int) ≠ 0 by decide),p1 (show (64:Int) ≠ 0 by decide),p1 (show (64:Int) ≠ 0 by decide),q1 19 (.nums ([IntKind.u8.wrap (w64 (240 + (w64 (Int.tdiv a0 262144)))),IntKind.u8.wrap (w64 (128 + (Int.tmod (w64 (Int.tdiv a0 4096)) 64))),IntKind.u8.wrap (w64 (128 + (Int.tmod (w64 (Int.tdiv a0 64)) 64))),IntKind.u8.wrap (w64 (128 + (Int.tmod a0 64)))]:List Int)) (rfl:List.map (eK .u8) ([IntKind.u8.wrap (w64 (240 + (w64 (Int.tdiv a0 262144)))),IntKind.u8.wrap (w64 (128 + (Int.tmod (w64 (Int.tdiv a0 4096)) 64))),IntKind.u8.wrap (w64 (128 + (Int.tmod (w64 (Int.tdiv a0 64)) 64))),IntKind.u8.wrap (w64 (128 + (Int.tmod a0 64)))]:List Int) = List.map (fun n=>[PC.sc (.int .u8 n)]) ([IntKind.u8.wrap (w64 (240 + (w64 (Int.tdiv a0 262144)))),IntKind.u8.wrap (w64 (128 + (Int.tmod (w64 (Int.tdiv a0 4096)) 64))),IntKind.u8.wrap (w64 (128 + (Int.tmod (w64 (Int.tdiv a0 64)) 64))),IntKind.u8.wrap (w64 (128 + (Int.tmod a0 64)))]:List Int))] ?_
 refine Tri.ret ?_
 obtain rfl:=si H;exact eR
def spec_l01Char.e1 (k:Nat) (a0:Int):Option Bool:=if a0 < 32 then (some true) else (if a0 = 34 then (some true) else (some (decide (a0 = 127))))
def spec_l01Char.f (k:Nat) (a0:Int):Option ByteArray:=(spec_l01Char.e1 k a0).bind fun y3=>if y3 = true then ((spec_l01Hex.f k a0).bind fun r7=>if (⟨#[48]⟩:ByteArray).size + r7.size ≤ 9223372036854775807 then (if ((⟨#[48]⟩:ByteArray) ++ r7).size + (⟨#[88]⟩:ByteArray).size ≤ 9223372036854775807 then (some (((⟨#[48]⟩:ByteArray) ++ r7) ++ (⟨#[88]⟩:ByteArray))) else none) else none) else ((spec_l01Utf8.f k a0).bind fun r11=>if (⟨#[34]⟩:ByteArray).size + r11.size ≤ 9223372036854775807 then (if ((⟨#[34]⟩:ByteArray) ++ r11).size + (⟨#[34]⟩:ByteArray).size ≤ 9223372036854775807 then (some (((⟨#[34]⟩:ByteArray) ++ r11) ++ (⟨#[34]⟩:ByteArray))) else none) else none)
theorem spec_l01Char.fn {k:Nat} {a0:Int} {r:ByteArray} (H:spec_l01Char.f k a0 = some r):Fn Tryz.prog 48 [oI a0] [] (oS r) []:=by
 refine Fn.bd [2] Tryz.func48 ?_
 refine rn [0] 0 [] [] ?_
 refine sq ?_
 refine jo H (fun y3=>⟨21,[(0,oI a0),(12,oB y3)],[],0,[]⟩) (fun y3 H=>?_) fun v5 h4 H=>?_
 ·refine cb H (fun h6 H=>?_) fun h6 H=>?_
  ·obtain ⟨r7,h8,H⟩:=bs H
   obtain ⟨h9,H⟩:=nd H
   obtain ⟨h10,H⟩:=nd H
   refine rn [2] 0 [] [hC 1 (spec_l01Hex.fn h8),p1 h9,p1 h10] ?_
   refine Tri.ret ?_
   obtain rfl:=si H;exact eR
  refine sk ?_
  obtain ⟨r11,h12,H⟩:=bs H
  obtain ⟨h13,H⟩:=nd H
  obtain ⟨h14,H⟩:=nd H
  refine rn [2] 0 [] [hC 1 (spec_l01Utf8.fn h12),p1 h13,p1 h14] ?_
  refine Tri.ret ?_
  obtain rfl:=si H;exact eR
 rcases ite_some h4 with ⟨h1,h4⟩ | ⟨h1,h4⟩
 ·refine rl [0,12] 0 [] [hB 1 (decide_eq_true h1)] ?_
  exact pf true h4
 rcases ite_some h4 with ⟨h2,h4⟩ | ⟨h2,h4⟩
 ·refine rl [0,12] 0 [] [hB 1 (decide_eq_false h1),hB 4 (decide_eq_true h2)] ?_
  exact pf true h4
 refine rl [0,12] 0 [] [hB 1 (decide_eq_false h1),hB 4 (decide_eq_false h2)] ?_
 exact pf (decide (a0 = 127)) h4
def spec_l02Full.f (k:Nat) (a0:SNode):Option ByteArray:=if a0.f3 = (⟨#[]⟩:ByteArray) then (some a0.f2) else (if a0.f3.size + (⟨#[46]⟩:ByteArray).size ≤ 9223372036854775807 then (if (a0.f3 ++ (⟨#[46]⟩:ByteArray)).size + a0.f2.size ≤ 9223372036854775807 then (some ((a0.f3 ++ (⟨#[46]⟩:ByteArray)) ++ a0.f2)) else none) else none)
theorem spec_l02Full.fn {k:Nat} {a0:SNode} {r:ByteArray} (H:spec_l02Full.f k a0 = some r):Fn Tryz.prog 49 [ag (vSNode a0)] [] (oS r) []:=by
 refine Fn.bd [2] Tryz.func49 ?_
 refine rn [1] 1 [] [] ?_
 refine sq ?_
 refine rn [1,5] 1 [] [] ?_
 refine cn H (fun h1 H=>?_) fun h1 H=>?_
 ·refine sk ?_
  refine rn [2] 0 [] [] ?_
  refine Tri.ret ?_
  obtain rfl:=si H;exact eR
 obtain ⟨h2,H⟩:=nd H
 obtain ⟨h3,H⟩:=nd H
 refine rn [2] 0 [] [p1 h2,p1 h3] ?_
 refine Tri.ret ?_
 obtain rfl:=si H;exact eR
def spec_l02Expr.e1 (k:Nat) (a0:SNode):Option Bool:=if a0.f0 = 25 then (some (decide (a0.f0 = 25))) else (if a0.f0 = 26 then (some (decide (a0.f0 = 26))) else (some (decide (a0.f0 = 27))))
def spec_l02Expr.e2 (k:Nat) (z61:ByteArray) (z62:Int):Option ByteArray:=if (0:Int) < z62 then (if z61.size + (⟨#[44,32]⟩:ByteArray).size ≤ 9223372036854775807 then (some (z61 ++ (⟨#[44,32]⟩:ByteArray))) else none) else (some z61)
def spec_l02Expr.l3:Nat → SNode → (SNode → Int → Option ByteArray) → ByteArray → Int → Option ByteArray
  | 0,_,_,_,_=>none
  | k + 1,a0,rec_spec_l02Expr,z61,z62=>if z62 < (a0.f4.length:Int) then ((spec_l02Expr.e2 k z61 z62).bind fun y66=>(at? a0.f4 z62).bind fun x69=>(rec_spec_l02Expr x69 0).bind fun r71=>if y66.size + r71.size ≤ 9223372036854775807 then (spec_l02Expr.l3 k a0 rec_spec_l02Expr (y66 ++ r71) (w64 (z62 + 1))) else none) else (some z61)
def spec_l02Expr.e4 (k:Nat) (a0:SNode) (rec_spec_l02Expr:(SNode → Int → Option ByteArray)) (r47:ByteArray):Option ByteArray:=spec_l02Expr.l3 k a0 rec_spec_l02Expr (r47 ++ (⟨#[40]⟩:ByteArray)) 0
def spec_l02Expr.e5 (k:Nat) (a0:SNode) (rec_spec_l02Expr:(SNode → Int → Option ByteArray)):Option (ByteArray ⊕ Unit):=if a0.f0 = 18 then ((spec_l00Digits.f k a0.f1).bind fun r2=>some (.inl r2)) else (if a0.f0 = 19 then ((spec_l01Char.f k a0.f1).bind fun r5=>some (.inl r5)) else (if a0.f0 = 20 then ((at? ([(⟨#[70,65,76,83,69]⟩:ByteArray),(⟨#[84,82,85,69]⟩:ByteArray)]:List ByteArray) a0.f1).bind fun x8=>some (.inl x8)) else (if a0.f0 = 21 then ((spec_l02Full.f k a0).bind fun r11=>some (.inl r11)) else (if a0.f0 = 22 then ((at? a0.f4 0).bind fun x14=>(spec_l02Full.f k x14).bind fun r16=>if r16.size + (⟨#[91]⟩:ByteArray).size ≤ 9223372036854775807 then ((at? a0.f4 1).bind fun x19=>(rec_spec_l02Expr x19 0).bind fun r21=>if (r16 ++ (⟨#[91]⟩:ByteArray)).size + r21.size ≤ 9223372036854775807 then (if ((r16 ++ (⟨#[91]⟩:ByteArray)) ++ r21).size + (⟨#[93]⟩:ByteArray).size ≤ 9223372036854775807 then (some (.inl (((r16 ++ (⟨#[91]⟩:ByteArray)) ++ r21) ++ (⟨#[93]⟩:ByteArray)))) else none) else none) else none) else (if a0.f0 = 23 then ((at? a0.f4 0).bind fun x26=>(rec_spec_l02Expr x26 4).bind fun r28=>if a0.f2.size + r28.size ≤ 9223372036854775807 then (some (.inl (a0.f2 ++ r28))) else none) else ((spec_l02Expr.e1 k a0).bind fun y33=>if y33 = true then ((at? ([(⟨#[79,82,68]⟩:ByteArray),(⟨#[67,72,82]⟩:ByteArray),(⟨#[76,69,78]⟩:ByteArray)]:List ByteArray) (w64 (a0.f0 - 25))).bind fun x37=>if x37.size + (⟨#[40]⟩:ByteArray).size ≤ 9223372036854775807 then ((at? a0.f4 0).bind fun x40=>(rec_spec_l02Expr x40 0).bind fun r42=>if (x37 ++ (⟨#[40]⟩:ByteArray)).size + r42.size ≤ 9223372036854775807 then (if ((x37 ++ (⟨#[40]⟩:ByteArray)) ++ r42).size + (⟨#[41]⟩:ByteArray).size ≤ 9223372036854775807 then (some (.inl (((x37 ++ (⟨#[40]⟩:ByteArray)) ++ r42) ++ (⟨#[41]⟩:ByteArray)))) else none) else none) else none) else (if a0.f0 = 12 then ((spec_l02Full.f k a0).bind fun r47=>if r47.size + (⟨#[40]⟩:ByteArray).size ≤ 9223372036854775807 then ((spec_l02Expr.e4 k a0 rec_spec_l02Expr r47).bind fun y75=>if y75.size + (⟨#[41]⟩:ByteArray).size ≤ 9223372036854775807 then (some (.inl (y75 ++ (⟨#[41]⟩:ByteArray)))) else none) else none) else (some (.inr ())))))))))
def spec_l02Expr.e6 (k:Nat) (r81:Int):Option Int:=if r81 = 1 then (some 2) else (some r81)
def spec_l02Expr.f:Nat → SNode → Int → Option ByteArray
  | 0,_,_=>none
  | k + 1,a0,a1=>(spec_l02Expr.e5 k a0 (spec_l02Expr.f k)).bind fun v=>match v with | .inl r=>some r | .inr _=>(spec_l02Level.f k a0.f2).bind fun r81=>(spec_l02Expr.e6 k r81).bind fun y84=>(at? a0.f4 0).bind fun x87=>((spec_l02Expr.f k) x87 y84).bind fun r89=>if r89.size + (⟨#[32]⟩:ByteArray).size ≤ 9223372036854775807 then (if (r89 ++ (⟨#[32]⟩:ByteArray)).size + a0.f2.size ≤ 9223372036854775807 then (if ((r89 ++ (⟨#[32]⟩:ByteArray)) ++ a0.f2).size + (⟨#[32]⟩:ByteArray).size ≤ 9223372036854775807 then ((at? a0.f4 1).bind fun x94=>((spec_l02Expr.f k) x94 (w64 (r81 + 1))).bind fun r96=>if (((r89 ++ (⟨#[32]⟩:ByteArray)) ++ a0.f2) ++ (⟨#[32]⟩:ByteArray)).size + r96.size ≤ 9223372036854775807 then (if r81 < a1 then (if (⟨#[40]⟩:ByteArray).size + ((((r89 ++ (⟨#[32]⟩:ByteArray)) ++ a0.f2) ++ (⟨#[32]⟩:ByteArray)) ++ r96).size ≤ 9223372036854775807 then (if ((⟨#[40]⟩:ByteArray) ++ ((((r89 ++ (⟨#[32]⟩:ByteArray)) ++ a0.f2) ++ (⟨#[32]⟩:ByteArray)) ++ r96)).size + (⟨#[41]⟩:ByteArray).size ≤ 9223372036854775807 then (some (((⟨#[40]⟩:ByteArray) ++ ((((r89 ++ (⟨#[32]⟩:ByteArray)) ++ a0.f2) ++ (⟨#[32]⟩:ByteArray)) ++ r96)) ++ (⟨#[41]⟩:ByteArray))) else none) else none) else (some ((((r89 ++ (⟨#[32]⟩:ByteArray)) ++ a0.f2) ++ (⟨#[32]⟩:ByteArray)) ++ r96))) else none) else none) else none) else none
theorem spec_l02Expr.fn {k:Nat}:∀ {a0:SNode} {a1:Int} {r:ByteArray} (H:spec_l02Expr.f k a0 a1 = some r),Fn Tryz.prog 26 [ag (vSNode a0),oI a1] [] (oS r) []:=by
 induction k with
 | zero=>intro a0 a1 r H; exact absurd H (by simp [spec_l02Expr.f])
 | succ k ih_spec_l02Expr =>
 intro a0 a1 r H
 rw [spec_l02Expr.f.eq_2] at H
 generalize spec_l02Expr.f k = rec_spec_l02Expr at H ih_spec_l02Expr
 refine Fn.bd [4] Tryz.func26 ?_
 refine rn [1,2] 1 [] [] ?_
 refine jr H (fun _=>⟨134,[(1,oI a1),(2,o1 (.ref 0 0))],[vSNode a0],0,[]⟩) (fun _ H=>?_) fun v80 h79 H=>?_
 ·obtain ⟨r81,h82,H⟩:=bs H
  refine rn [1,2,7] 1 [] [hC 2 (spec_l02Level.fn h82)] ?_
  refine rn [1,2,7,8] 1 [] [] ?_
  refine jo H (fun y84=>⟨134,[(1,oI a1),(2,o1 (.ref 0 0)),(7,oI r81),(8,oI y84)],[vSNode a0],0,[]⟩) (fun y84 H=>?_) fun v86 h85 H=>?_
  ·obtain ⟨x87,h88,H⟩:=bs H
   obtain ⟨r89,h90,H⟩:=bs H
   obtain ⟨h91,H⟩:=nd H
   obtain ⟨h92,H⟩:=nd H
   obtain ⟨h93,H⟩:=nd H
   obtain ⟨x94,h95,H⟩:=bs H
   obtain ⟨r96,h97,H⟩:=bs H
   obtain ⟨h98,H⟩:=nd H
   refine dn hmix 18 [[],[0],[0,1],[0,1,2],[],[0,1,2,3,4],[0,1,2,3,4,5],[],[7],[0,1,2,3,4,5,6,7,8],[0,1,2,3,4,5,6,7,8,9],[],[11],[11,12],[11,12,13],[],[15],[0,1,2,3,4,5,11,12,13,14,15,16],[0,1,2,3,4,5,6,7,8,9,10,11,12,13,14,15,16,17],[0,1,2,3,4,5,6,7,8,9,10,11,12,13,14,15,16,17,18]] [1,7,9] 0 [] [hEv 2 eSNode_v h88,hC 5 (ih_spec_l02Expr h90),p1 h91,p1 h92,p1 h93,hEv 13 eSNode_v h95,hC 17 (ih_spec_l02Expr h97),p1 h98] ?_
   refine sq ?_
   refine rn [9,129] 0 [] [] ?_
   refine ci H (fun h99 H=>?_) fun h99 H=>?_
   ·obtain ⟨h100,H⟩:=nd H
    obtain ⟨h101,H⟩:=nd H
    refine rn [4] 0 [] [p1 h100,p1 h101] ?_
    refine Tri.ret ?_
    obtain rfl:=si H;exact eR
   refine sk ?_
   refine rn [4] 0 [] [] ?_
   refine Tri.ret ?_
   obtain rfl:=si H;exact eR
  refine rn [1,2,7,8,107] 1 [] [] ?_
  refine ci h85 (fun h83 h85=>?_) fun h83 h85=>?_
  ·refine rl [1,2,7,8] 1 [] [] ?_
   exact pf 2 h85
  refine fx [1,2,7,8] 1 [] ?_
  refine sk ?_
  exact pf r81 h85
 refine rn [1,2,11] 1 [] [] ?_
 refine bl ?_
 refine rn [1,2,11,12] 1 [] [] ?_
 refine ci h79 (fun h1 h79=>?_) fun h1 h79=>?_
 ·obtain ⟨r2,h3,h79⟩:=bs h79
  refine rn [4] 0 [] [hC 2 (spec_l00Digits.fn h3)] ?_
  refine Tri.ret ?_
  obtain rfl:=si h79;obtain rfl:=si H;exact eR
 refine rn [1,2,11,17] 1 [] [] ?_
 refine ci h79 (fun h4 h79=>?_) fun h4 h79=>?_
 ·obtain ⟨r5,h6,h79⟩:=bs h79
  refine rn [4] 0 [] [hC 2 (spec_l01Char.fn h6)] ?_
  refine Tri.ret ?_
  obtain rfl:=si h79;obtain rfl:=si H;exact eR
 refine rn [1,2,11,22] 1 [] [] ?_
 refine ci h79 (fun h7 h79=>?_) fun h7 h79=>?_
 ·obtain ⟨x8,h9,h79⟩:=bs h79
  refine rx [4] 0 [] [hE 3 eS h9,hF 4 eS h9] ⟨134,[(4,oS x8)],[],0,[]⟩ ?_
  refine Tri.ret ?_
  obtain rfl:=si h79;obtain rfl:=si H;exact eR
 refine rx [1,2,11,29] 1 [] [] ⟨134,[(1,oI a1),(2,o1 (.ref 0 0)),(11,oI a0.f0),(29,oB (decide (a0.f0 = 21)))],[vSNode a0],0,[]⟩ ?_
 refine ci h79 (fun h10 h79=>?_) fun h10 h79=>?_
 ·obtain ⟨r11,h12,h79⟩:=bs h79
  refine rn [4] 0 [] [hC 1 (spec_l02Full.fn h12)] ?_
  refine Tri.ret ?_
  obtain rfl:=si h79;obtain rfl:=si H;exact eR
 refine rn [1,2,11,33] 1 [] [] ?_
 refine ci h79 (fun h13 h79=>?_) fun h13 h79=>?_
 ·obtain ⟨x14,h15,h79⟩:=bs h79
  obtain ⟨r16,h17,h79⟩:=bs h79
  obtain ⟨h18,h79⟩:=nd h79
  obtain ⟨x19,h20,h79⟩:=bs h79
  obtain ⟨r21,h22,h79⟩:=bs h79
  obtain ⟨h23,h79⟩:=nd h79
  obtain ⟨h24,h79⟩:=nd h79
  refine dn hmix 11 [[],[0],[0,1],[0,1,2],[0,1,2,3],[0,1,2,3,4],[],[6],[6,7],[6,7,8],[0,1,2,3,4,6,7,8,9],[0,1,2,3,4,5,6,7,8,9,10],[0,1,2,3,4,5,6,7,8,9,10,11],[0,1,2,3,4,5,6,7,8,9,10,11,12]] [4] 0 [] [hEv 2 eSNode_v h15,hC 4 (spec_l02Full.fn h17),p1 h18,hEv 8 eSNode_v h20,hC 10 (ih_spec_l02Expr h22),p1 h23,p1 h24] ?_
  refine Tri.ret ?_
  obtain rfl:=si h79;obtain rfl:=si H;exact eR
 refine rn [1,2,11,48] 1 [] [] ?_
 refine ci h79 (fun h25 h79=>?_) fun h25 h79=>?_
 ·obtain ⟨x26,h27,h79⟩:=bs h79
  obtain ⟨r28,h29,h79⟩:=bs h79
  obtain ⟨h30,h79⟩:=nd h79
  refine dn hmix 7 [[],[0],[],[2],[2,3],[2,3,4],[2,3,4,5],[0,1,2,3,4,5,6],[0,1,2,3,4,5,6,7]] [4] 0 [] [hEv 4 eSNode_v h27,hC 6 (ih_spec_l02Expr h29),p1 h30] ?_
  refine Tri.ret ?_
  obtain rfl:=si h79;obtain rfl:=si H;exact eR
 refine jo h79 (fun y33=>⟨134,[(1,oI a1),(2,o1 (.ref 0 0)),(11,oI a0.f0),(58,oB y33)],[vSNode a0],0,[]⟩) (fun y33 h79=>?_) fun v35 h34 h79=>?_
 ·refine cb h79 (fun h36 h79=>?_) fun h36 h79=>?_
  ·obtain ⟨x37,h38,h79⟩:=bs h79
   obtain ⟨h39,h79⟩:=nd h79
   obtain ⟨x40,h41,h79⟩:=bs h79
   obtain ⟨r42,h43,h79⟩:=bs h79
   obtain ⟨h44,h79⟩:=nd h79
   obtain ⟨h45,h79⟩:=nd h79
   refine dn hmix 12 [[],[],[1],[1,2],[0,1,2,3],[0,1,2,3,4],[0,1,2,3,4,5],[],[7],[7,8],[7,8,9],[7,8,9,10],[0,1,2,3,4,5,6,7,8,9,10,11],[0,1,2,3,4,5,6,7,8,9,10,11,12],[0,1,2,3,4,5,6,7,8,9,10,11,12,13]] [4] 0 [] [hE 4 eS h38,hF 5 eS h38,p1 h39,hEv 9 eSNode_v h41,hC 11 (ih_spec_l02Expr h43),p1 h44,p1 h45] ?_
   refine Tri.ret ?_
   obtain rfl:=si h79;obtain rfl:=si H;exact eR
  refine rn [1,2,76] 1 [] [] ?_
  refine ci h79 (fun h46 h79=>?_) fun h46 h79=>?_
  ·obtain ⟨r47,h48,h79⟩:=bs h79
   obtain ⟨h49,h79⟩:=nd h79
   refine rn [2,5] 1 [] [hC 1 (spec_l02Full.fn h48),p1 h49] ?_
   refine jo h79 (fun y75=>⟨134,[(5,oS y75)],[],0,[]⟩) (fun y75 h79=>?_) fun v77 h76 h79=>?_
   ·obtain ⟨h78,h79⟩:=nd h79
    refine rn [4] 0 [] [p1 h78] ?_
    refine Tri.ret ?_
    obtain rfl:=si h79;obtain rfl:=si H;exact eR
   refine rn [2,5,6] 1 [] [] ?_
   refine bl ?_
   refine lo (ByteArray × Int) k (fun k x=>spec_l02Expr.l3 k a0 rec_spec_l02Expr x.1 x.2) (fun x=>⟨134,[(2,o1 (.ref 0 0)),(5,oS x.1),(6,oI x.2)],[vSNode a0],0,[]⟩) (r47 ++ (⟨#[40]⟩:ByteArray),0) h76 fun k x h76 IH74=>?_
   obtain ⟨z61,z62⟩:=x
   rw [spec_l02Expr.l3.eq_2] at h76
   refine sq ?_
   refine rn [2,5,6,85] 1 [] [hL 3 eSNode a0.f4] ?_
   refine ci h76 (fun h63 h76=>?_) fun h63 h76=>?_
   ·refine sk ?_
    refine sq ?_
    refine bl ?_
    refine jo h76 (fun y66=>⟨134,[(2,o1 (.ref 0 0)),(5,oS y66),(6,oI z62)],[vSNode a0],0,[]⟩) (fun y66 h76=>?_) fun v68 h67 h76=>?_
    ·obtain ⟨x69,h70,h76⟩:=bs h76
     obtain ⟨r71,h72,h76⟩:=bs h76
     obtain ⟨h73,h76⟩:=nd h76
     refine rl [2,5,6] 1 [] [hEv 4 eSNode_v h70,hC 6 (ih_spec_l02Expr h72),p1 h73] ?_
     refine rl [2,5,6] 1 [] [] ?_
     exact lb IH74 (y66 ++ r71,w64 (z62 + 1)) h76
    refine rn [2,5,6,89] 1 [] [] ?_
    refine ci h67 (fun h64 h67=>?_) fun h64 h67=>?_
    ·obtain ⟨h65,h67⟩:=nd h67
     refine rl [2,5,6] 1 [] [p1 h65] ?_
     exact pf (z61 ++ (⟨#[44,32]⟩:ByteArray)) h67
    refine fx [2,5,6] 1 [] ?_
    refine sk ?_
    exact pf z61 h67
   refine fx [5] 0 [] ?_
   refine xi ?_
   exact pf z61 h76
  refine fx [1,2] 1 [] ?_
  refine sk ?_
  exact pe () h79
 refine rn [1,2,11,58] 1 [] [] ?_
 refine ci h34 (fun h31 h34=>?_) fun h31 h34=>?_
 ·refine sk ?_
  exact pf (decide (a0.f0 = 25)) h34
 refine rn [1,2,11,58] 1 [] [] ?_
 refine ci h34 (fun h32 h34=>?_) fun h32 h34=>?_
 ·refine sk ?_
  exact pf (decide (a0.f0 = 26)) h34
 refine rl [1,2,11,58] 1 [] [] ?_
 exact pf (decide (a0.f0 = 27)) h34
def spec_l02Base.f (k:Nat) (a0:Int):Option ByteArray:=(at? ([(⟨#[]⟩:ByteArray),(⟨#[73,78,84,69,71,69,82]⟩:ByteArray),(⟨#[66,79,79,76,69,65,78]⟩:ByteArray),(⟨#[67,72,65,82]⟩:ByteArray)]:List ByteArray) a0).bind fun x1=>some x1
theorem spec_l02Base.fn {k:Nat} {a0:Int} {r:ByteArray} (H:spec_l02Base.f k a0 = some r):Fn Tryz.prog 52 [oI a0] [] (oS r) []:=by
 refine Fn.bd [2] Tryz.func52 ?_
 refine rn [0] 0 [] [] ?_
 obtain ⟨x1,h2,H⟩:=bs H
 refine rn [2] 0 [] [hE 2 eS h2,hF 3 eS h2] ?_
 refine Tri.ret ?_
 obtain rfl:=si H;exact eR
def spec_l02Type.f (k:Nat) (a0:SNode):Option ByteArray:=if a0.f0 = 9 then ((spec_l00Digits.f k a0.f1).bind fun r2=>if (⟨#[65,82,82,65,89,32]⟩:ByteArray).size + r2.size ≤ 9223372036854775807 then (if ((⟨#[65,82,82,65,89,32]⟩:ByteArray) ++ r2).size + (⟨#[32,79,70,32]⟩:ByteArray).size ≤ 9223372036854775807 then ((at? a0.f4 0).bind fun x6=>(spec_l02Base.f k x6.f1).bind fun r8=>if (((⟨#[65,82,82,65,89,32]⟩:ByteArray) ++ r2) ++ (⟨#[32,79,70,32]⟩:ByteArray)).size + r8.size ≤ 9223372036854775807 then (some ((((⟨#[65,82,82,65,89,32]⟩:ByteArray) ++ r2) ++ (⟨#[32,79,70,32]⟩:ByteArray)) ++ r8)) else none) else none) else none) else ((spec_l02Base.f k a0.f1).bind fun r11=>some r11)
theorem spec_l02Type.fn {k:Nat} {a0:SNode} {r:ByteArray} (H:spec_l02Type.f k a0 = some r):Fn Tryz.prog 51 [ag (vSNode a0)] [] (oS r) []:=by
 refine Fn.bd [2] Tryz.func51 ?_
 refine rn [1] 1 [] [] ?_
 refine sq ?_
 refine rn [1,5] 1 [] [] ?_
 refine ci H (fun h1 H=>?_) fun h1 H=>?_
 ·obtain ⟨r2,h3,H⟩:=bs H
  obtain ⟨h4,H⟩:=nd H
  obtain ⟨h5,H⟩:=nd H
  obtain ⟨x6,h7,H⟩:=bs H
  obtain ⟨r8,h9,H⟩:=bs H
  obtain ⟨h10,H⟩:=nd H
  refine dn hmix 11 [[],[0],[0,1],[0,1,2],[0,1,2,3],[],[5],[5,6],[5,6,7],[5,6,7,8],[0,1,2,5,6,7,8,9],[0,1,2,3,4,5,6,7,8,9,10],[0,1,2,3,4,5,6,7,8,9,10,11]] [2] 0 [] [hC 2 (spec_l00Digits.fn h3),p1 h4,p1 h5,hEv 7 eSNode_v h7,hC 10 (spec_l02Base.fn h9),p1 h10] ?_
  refine Tri.ret ?_
  obtain rfl:=si H;exact eR
 refine sk ?_
 obtain ⟨r11,h12,H⟩:=bs H
 refine rn [2] 0 [] [hC 2 (spec_l02Base.fn h12)] ?_
 refine Tri.ret ?_
 obtain rfl:=si H;exact eR
def spec_l02Writer__vars_2.e1 (k:Nat) (b0:Sfffb48) (z23:Bool) (z25:(List Int)):Option (Bool × (List Int)):=if z23 = true then ((spec_l02Writer__line_2.f k (⟨#[86,65,82]⟩:ByteArray) (⟨z25,b0.f1⟩:Sfffb48)).bind fun r31=>some (false,r31)) else (some (z23,z25))
def spec_l02Writer__vars_2.e2 (k:Nat) (a1:(List SNode)) (b0:Sfffb48) (z23:Bool) (z24:Int) (z25:(List Int)):Option (Bool × (List Int)):=(at? a1 z24).bind fun x27=>if x27.f0 = 4 then ((spec_l02Writer__vars_2.e1 k b0 z23 z25).bind fun v=>match v with | (y33,y34)=>(spec_l02Star.f k x27).bind fun r37=>if (⟨#[32,32]⟩:ByteArray).size + r37.size ≤ 9223372036854775807 then (if ((⟨#[32,32]⟩:ByteArray) ++ r37).size + (⟨#[58,32]⟩:ByteArray).size ≤ 9223372036854775807 then ((at? x27.f4 0).bind fun x41=>(spec_l02Type.f k x41).bind fun r43=>if (((⟨#[32,32]⟩:ByteArray) ++ r37) ++ (⟨#[58,32]⟩:ByteArray)).size + r43.size ≤ 9223372036854775807 then (if ((((⟨#[32,32]⟩:ByteArray) ++ r37) ++ (⟨#[58,32]⟩:ByteArray)) ++ r43).size + (⟨#[59]⟩:ByteArray).size ≤ 9223372036854775807 then ((spec_l02Writer__line_2.f k (((((⟨#[32,32]⟩:ByteArray) ++ r37) ++ (⟨#[58,32]⟩:ByteArray)) ++ r43) ++ (⟨#[59]⟩:ByteArray)) (⟨y34,b0.f1⟩:Sfffb48)).bind fun r47=>some (y33,r47)) else none) else none) else none) else none) else (some (z23,z25))
def spec_l02Writer__vars_2.l3:Nat → (List SNode) → Sfffb48 → Bool → Int → (List Int) → Option (List Int)
  | 0,_,_,_,_,_=>none
  | k + 1,a1,b0,z23,z24,z25=>if z24 < (a1.length:Int) then ((spec_l02Writer__vars_2.e2 k a1 b0 z23 z24 z25).bind fun v=>match v with | (y49,y50)=>spec_l02Writer__vars_2.l3 k a1 b0 y49 (w64 (z24 + 1)) y50) else (some z25)
def spec_l02Writer__vars_2.f (k:Nat) (a1:(List SNode)) (b0:Sfffb48):Option (List Int):=spec_l02Writer__vars_2.l3 k a1 b0 true 0 b0.f0
theorem spec_l02Writer__vars_2.fn {k:Nat} {a1:(List SNode)} {b0:Sfffb48} {r:(List Int)} (H:spec_l02Writer__vars_2.f k a1 b0 = some r):FnG Tryz.prog 27 [o1 (.ref 0 0),o1 (.sl 5 (List.map eSNode a1))] [] [[.own 5 (List.map (eK .u8) b0.f0),cI b0.f1]] (tp [] []) [] [[.own 5 (List.map (eK .u8) r),cI b0.f1]]:=by
 refine FnG.body (ts:=[]) Tryz.func27 rfl rfl (by decide) (by decide) (Nat.le_of_ble_eq_true rfl) rfl (Nat.le_of_ble_eq_true rfl) ?_
 refine rn [0,1,4] 1 [] [] ?_
 refine rn [0,1,4,5] 1 [] [] ?_
 refine bl ?_
 refine lo (Bool × Int × (List Int)) k (fun k x=>spec_l02Writer__vars_2.l3 k a1 b0 x.1 x.2.1 x.2.2) (fun x=>⟨40,[(0,o1 (.ref 0 0)),(1,o1 (.sl 5 (List.map eSNode a1))),(4,oB x.1),(5,oI x.2.1)],[[.own 5 (List.map (eK .u8) x.2.2),cI b0.f1]],1,[]⟩) (true,0,b0.f0) H fun k x H IH53=>?_
 obtain ⟨z23,z24,z25⟩:=x
 rw [spec_l02Writer__vars_2.l3.eq_2] at H
 refine sq ?_
 refine rn [0,1,4,5,9] 1 [] [hL 2 eSNode a1] ?_
 refine ci H (fun h26 H=>?_) fun h26 H=>?_
 ·refine sk ?_
  refine jo H (fun w=>⟨40,[(0,o1 (.ref 0 0)),(1,o1 (.sl 5 (List.map eSNode a1))),(4,oB w.1),(5,oI z24)],[[.own 5 (List.map (eK .u8) w.2),cI b0.f1]],1,[]⟩) (fun w H=>?_) fun v52 h51 H=>?_
  ·obtain ⟨y49,y50⟩:=w
   refine rl [0,1,4,5] 1 [] [] ?_
   exact lb IH53 (y49,w64 (z24 + 1),y50) H
  refine bl ?_
  obtain ⟨x27,h28,h51⟩:=bs h51
  refine rn [0,1,4,5,17] 1 [] [hEv 2 eSNode_v h28] ?_
  refine ci h51 (fun h29 h51=>?_) fun h29 h51=>?_
  ·refine jo h51 (fun w=>⟨40,[(0,o1 (.ref 0 0)),(1,o1 (.sl 5 (List.map eSNode a1))),(4,oB w.1),(5,oI z24)],[[.own 5 (List.map (eK .u8) w.2),cI b0.f1]],1,[]⟩) (fun w h51=>?_) fun v36 h35 h51=>?_
   ·obtain ⟨y33,y34⟩:=w
    obtain ⟨r37,h38,h51⟩:=bs h51
    obtain ⟨h39,h51⟩:=nd h51
    obtain ⟨h40,h51⟩:=nd h51
    obtain ⟨x41,h42,h51⟩:=bs h51
    obtain ⟨r43,h44,h51⟩:=bs h51
    obtain ⟨h45,h51⟩:=nd h51
    obtain ⟨h46,h51⟩:=nd h51
    obtain ⟨r47,h48,h51⟩:=bs h51
    refine dl hmix 18 [[],[],[],[1,2],[1,2,3],[1,2,3,4],[1,2,3,4,5],[1,2,3,4,5,6],[],[],[8,9],[8,9,10],[8,9,10,11],[8,9,10,11,12],[8,9,10,11,12,13],[1,2,3,4,5,8,9,10,11,12,13,14],[1,2,3,4,5,6,7,8,9,10,11,12,13,14,15],[1,2,3,4,5,6,7,8,9,10,11,12,13,14,15,16],[0,1,2,3,4,5,6,7,8,9,10,11,12,13,14,15,16,17]] [0,1,4,5] 1 [] [hEv 3 eSNode_v h28,hC 5 (spec_l02Star.fn h38),p1 h39,p1 h40,hEv 10 eSNode_v h28,hEv 13 eSNode_v h42,hC 15 (spec_l02Type.fn h44),p1 h45,p1 h46,hG 18 [] [0] none (spec_l02Writer__line_2.fn h48)] ?_
    exact pf (y33,r47) h51
   refine rn [0,1,4,5,18] 1 [] [] ?_
   refine cb h35 (fun h30 h35=>?_) fun h30 h35=>?_
   ·obtain ⟨r31,h32,h35⟩:=bs h35
    refine rn [0,1,5] 1 [] [hG 1 [] [0] none (spec_l02Writer__line_2.fn h32)] ?_
    refine rl [0,1,4,5] 1 [] [] ?_
    exact pf (false,r31) h35
   refine fx [0,1,4,5] 1 [] ?_
   refine sk ?_
   exact pf (z23,z25) h35
  refine fx [0,1,4,5] 1 [] ?_
  refine sk ?_
  exact pf (z23,z25) h51
 refine xi ?_
 obtain rfl:=si H;exact endsG (.inl rfl) (by kernel_rfl)
def spec_l02End.f (k:Nat) (a0:ByteArray) (a1:Bool):Option ByteArray:=if a1 = true then (if a0.size + (⟨#[59]⟩:ByteArray).size ≤ 9223372036854775807 then (some (a0 ++ (⟨#[59]⟩:ByteArray))) else none) else (some a0)
theorem spec_l02End.fn {k:Nat} {a0:ByteArray} {a1:Bool} {r:ByteArray} (H:spec_l02End.f k a0 a1 = some r):Fn Tryz.prog 111 [oS a0,oB a1] [] (oS r) []:=by
 refine Fn.bd [4] Tryz.func111 ?_
 refine rn [0,1] 0 [] [] ?_
 refine sq ?_
 refine rn [0,5] 0 [] [] ?_
 refine cb H (fun h1 H=>?_) fun h1 H=>?_
 ·obtain ⟨h2,H⟩:=nd H
  refine rn [4] 0 [] [p1 h2] ?_
  refine Tri.ret ?_
  obtain rfl:=si H;exact eR
 refine sk ?_
 refine rn [4] 0 [] [] ?_
 refine Tri.ret ?_
 obtain rfl:=si H;exact eR
def spec_l02Writer__statement_3.e1 (k:Nat) (a1:SNode):Option ByteArray:=if (0:Int) < (a1.f4.length:Int) then ((at? a1.f4 0).bind fun x25=>(spec_l02Expr.f k x25 0).bind fun r27=>if (⟨#[32]⟩:ByteArray).size + r27.size ≤ 9223372036854775807 then (if (⟨#[82,69,84,85,82,78]⟩:ByteArray).size + ((⟨#[32]⟩:ByteArray) ++ r27).size ≤ 9223372036854775807 then (some ((⟨#[82,69,84,85,82,78]⟩:ByteArray) ++ ((⟨#[32]⟩:ByteArray) ++ r27))) else none) else none) else (some (⟨#[82,69,84,85,82,78]⟩:ByteArray))
def spec_l02Writer__statement_3.e2 (k:Nat) (a1:SNode) (rec_spec_l02Writer__block_2:(SNode → Sfffb48 → Option ((List Int) × Int))) (r87:((List Int) × Int)):Option ((List Int) × Int):=if (a1.f4.length:Int) = 3 then ((spec_l02Writer__line_2.f k (⟨#[69,76,83,69]⟩:ByteArray) (⟨r87.1,r87.2⟩:Sfffb48)).bind fun r90=>(at? a1.f4 2).bind fun x92=>(rec_spec_l02Writer__block_2 x92 (⟨r90,r87.2⟩:Sfffb48)).bind fun r94=>some (r94.1,r94.2)) else (some (r87.1,r87.2))
def spec_l02Writer__statement_3.f (k:Nat) (rec_spec_l02Writer__block_2:(SNode → Sfffb48 → Option ((List Int) × Int))) (a1:SNode) (a2:Bool) (b0:Sfffb48):Option ((List Int) × Int):=if a1.f0 = 11 then ((at? a1.f4 0).bind fun x2=>(spec_l02Expr.f k x2 0).bind fun r4=>if r4.size + (⟨#[32,58,61,32]⟩:ByteArray).size ≤ 9223372036854775807 then ((at? a1.f4 1).bind fun x7=>(spec_l02Expr.f k x7 0).bind fun r9=>if (r4 ++ (⟨#[32,58,61,32]⟩:ByteArray)).size + r9.size ≤ 9223372036854775807 then ((spec_l02End.f k ((r4 ++ (⟨#[32,58,61,32]⟩:ByteArray)) ++ r9) a2).bind fun r12=>(spec_l02Writer__line_2.f k r12 (⟨b0.f0,b0.f1⟩:Sfffb48)).bind fun r14=>some (r14,b0.f1)) else none) else none) else (if a1.f0 = 12 then ((spec_l02Expr.f k a1 0).bind fun r17=>(spec_l02End.f k r17 a2).bind fun r19=>(spec_l02Writer__line_2.f k r19 (⟨b0.f0,b0.f1⟩:Sfffb48)).bind fun r21=>some (r21,b0.f1)) else (if a1.f0 = 15 then ((spec_l02Writer__statement_3.e1 k a1).bind fun y31=>(spec_l02End.f k y31 a2).bind fun r34=>(spec_l02Writer__line_2.f k r34 (⟨b0.f0,b0.f1⟩:Sfffb48)).bind fun r36=>some (r36,b0.f1)) else (if a1.f0 = 16 then ((at? a1.f4 0).bind fun x39=>(spec_l02Expr.f k x39 0).bind fun r41=>if (⟨#[87,82,73,84,69,40]⟩:ByteArray).size + r41.size ≤ 9223372036854775807 then (if ((⟨#[87,82,73,84,69,40]⟩:ByteArray) ++ r41).size + (⟨#[41]⟩:ByteArray).size ≤ 9223372036854775807 then ((spec_l02End.f k (((⟨#[87,82,73,84,69,40]⟩:ByteArray) ++ r41) ++ (⟨#[41]⟩:ByteArray)) a2).bind fun r45=>(spec_l02Writer__line_2.f k r45 (⟨b0.f0,b0.f1⟩:Sfffb48)).bind fun r47=>some (r47,b0.f1)) else none) else none) else (if a1.f0 = 17 then ((at? a1.f4 0).bind fun x50=>(spec_l02Expr.f k x50 0).bind fun r52=>if (⟨#[82,69,65,68,40]⟩:ByteArray).size + r52.size ≤ 9223372036854775807 then (if ((⟨#[82,69,65,68,40]⟩:ByteArray) ++ r52).size + (⟨#[41]⟩:ByteArray).size ≤ 9223372036854775807 then ((spec_l02End.f k (((⟨#[82,69,65,68,40]⟩:ByteArray) ++ r52) ++ (⟨#[41]⟩:ByteArray)) a2).bind fun r56=>(spec_l02Writer__line_2.f k r56 (⟨b0.f0,b0.f1⟩:Sfffb48)).bind fun r58=>some (r58,b0.f1)) else none) else none) else (if a1.f0 = 14 then ((at? a1.f4 0).bind fun x61=>(spec_l02Expr.f k x61 0).bind fun r63=>if (⟨#[87,72,73,76,69,32]⟩:ByteArray).size + r63.size ≤ 9223372036854775807 then (if ((⟨#[87,72,73,76,69,32]⟩:ByteArray) ++ r63).size + (⟨#[32,68,79]⟩:ByteArray).size ≤ 9223372036854775807 then ((spec_l02Writer__line_2.f k (((⟨#[87,72,73,76,69,32]⟩:ByteArray) ++ r63) ++ (⟨#[32,68,79]⟩:ByteArray)) (⟨b0.f0,b0.f1⟩:Sfffb48)).bind fun r67=>(at? a1.f4 1).bind fun x69=>(rec_spec_l02Writer__block_2 x69 (⟨r67,b0.f1⟩:Sfffb48)).bind fun r71=>(spec_l02End.f k (⟨#[69,78,68]⟩:ByteArray) a2).bind fun r73=>(spec_l02Writer__line_2.f k r73 (⟨r71.1,r71.2⟩:Sfffb48)).bind fun r75=>some (r75,r71.2)) else none) else none) else ((at? a1.f4 0).bind fun x77=>(spec_l02Expr.f k x77 0).bind fun r79=>if (⟨#[73,70,32]⟩:ByteArray).size + r79.size ≤ 9223372036854775807 then (if ((⟨#[73,70,32]⟩:ByteArray) ++ r79).size + (⟨#[32,84,72,69,78]⟩:ByteArray).size ≤ 9223372036854775807 then ((spec_l02Writer__line_2.f k (((⟨#[73,70,32]⟩:ByteArray) ++ r79) ++ (⟨#[32,84,72,69,78]⟩:ByteArray)) (⟨b0.f0,b0.f1⟩:Sfffb48)).bind fun r83=>(at? a1.f4 1).bind fun x85=>(rec_spec_l02Writer__block_2 x85 (⟨r83,b0.f1⟩:Sfffb48)).bind fun r87=>(spec_l02Writer__statement_3.e2 k a1 rec_spec_l02Writer__block_2 r87).bind fun v=>match v with | (y96,y97)=>(spec_l02End.f k (⟨#[69,78,68]⟩:ByteArray) a2).bind fun r100=>(spec_l02Writer__line_2.f k r100 (⟨y96,y97⟩:Sfffb48)).bind fun r102=>some (r102,y97)) else none) else none))))))
theorem spec_l02Writer__statement_3.fn {k:Nat} {rec_spec_l02Writer__block_2:(SNode → Sfffb48 → Option ((List Int) × Int))} (ih_spec_l02Writer__block_2:∀ {a1:SNode} {b0:Sfffb48} {r:((List Int) × Int)} (H:rec_spec_l02Writer__block_2 a1 b0 = some r),FnG Tryz.prog 53 [o1 (.ref 0 0),ag (vSNode a1)] [] [[.own 5 (List.map (eK .u8) b0.f0),cI b0.f1]] (tp [] []) [] [[.own 5 (List.map (eK .u8) r.1),cI r.2]]) {a1:SNode} {a2:Bool} {b0:Sfffb48} {r:((List Int) × Int)} (H:spec_l02Writer__statement_3.f k rec_spec_l02Writer__block_2 a1 a2 b0 = some r):FnG Tryz.prog 80 [o1 (.ref 0 0),ag (vSNode a1),oB a2] [] [[.own 5 (List.map (eK .u8) b0.f0),cI b0.f1]] (tp [] []) [] [[.own 5 (List.map (eK .u8) r.1),cI r.2]]:=by
 refine FnG.body (ts:=[]) Tryz.func80 rfl rfl (by decide) (by decide) (Nat.le_of_ble_eq_true rfl) rfl (Nat.le_of_ble_eq_true rfl) ?_
 refine rn [0,2,4] 2 [] [] ?_
 refine rn [0,2,4,8] 2 [] [] ?_
 refine bl ?_
 refine rn [0,2,4,8,40] 2 [] [] ?_
 refine ci H (fun h1 H=>?_) fun h1 H=>?_
 ·obtain ⟨x2,h3,H⟩:=bs H
  obtain ⟨r4,h5,H⟩:=bs H
  obtain ⟨h6,H⟩:=nd H
  obtain ⟨x7,h8,H⟩:=bs H
  obtain ⟨r9,h10,H⟩:=bs H
  obtain ⟨h11,H⟩:=nd H
  obtain ⟨r12,h13,H⟩:=bs H
  obtain ⟨r14,h15,H⟩:=bs H
  refine dl hmix 15 [[],[],[1],[1,2],[1,2,3],[1,2,3,4],[1,2,3,4,5],[],[7],[7,8],[7,8,9],[1,2,3,4,5,7,8,9,10],[1,2,3,4,5,6,7,8,9,10,11],[],[1,2,3,4,5,6,7,8,9,10,11,12,13],[0,1,2,3,4,5,6,7,8,9,10,11,12,13,14]] [] 1 [] [hEv 3 eSNode_v h3,hC 5 (spec_l02Expr.fn h5),p1 h6,hEv 9 eSNode_v h8,hC 11 (spec_l02Expr.fn h10),p1 h11,hC 14 (spec_l02End.fn h13),hG 15 [] [0] none (spec_l02Writer__line_2.fn h15)] ?_
  obtain rfl:=si H;exact endsG (.inl rfl) (by kernel_rfl)
 refine rn [0,2,4,8,58] 2 [] [] ?_
 refine ci H (fun h16 H=>?_) fun h16 H=>?_
 ·obtain ⟨r17,h18,H⟩:=bs H
  obtain ⟨r19,h20,H⟩:=bs H
  obtain ⟨r21,h22,H⟩:=bs H
  refine rl [] 1 [] [hC 2 (spec_l02Expr.fn h18),hC 4 (spec_l02End.fn h20),hG 5 [] [0] none (spec_l02Writer__line_2.fn h22)] ?_
  obtain rfl:=si H;exact endsG (.inl rfl) (by kernel_rfl)
 refine rn [0,2,4,8,66] 2 [] [] ?_
 refine ci H (fun h23 H=>?_) fun h23 H=>?_
 ·refine rx [0,2,4,6] 2 [] [] ⟨132,[(0,o1 (.ref 0 0)),(2,oB a2),(4,o1 (.ref 1 0)),(6,oS (⟨#[82,69,84,85,82,78]⟩:ByteArray))],[[.own 5 (List.map (eK .u8) b0.f0),cI b0.f1],vSNode a1],1,[]⟩ ?_
  refine jo H (fun y31=>⟨132,[(0,o1 (.ref 0 0)),(2,oB a2),(6,oS y31)],[[.own 5 (List.map (eK .u8) b0.f0),cI b0.f1]],1,[]⟩) (fun y31 H=>?_) fun v33 h32 H=>?_
  ·obtain ⟨r34,h35,H⟩:=bs H
   obtain ⟨r36,h37,H⟩:=bs H
   refine rl [] 1 [] [hC 3 (spec_l02End.fn h35),hG 4 [] [0] none (spec_l02Writer__line_2.fn h37)] ?_
   obtain rfl:=si H;exact endsG (.inl rfl) (by kernel_rfl)
  refine rn [0,2,4,6,71] 2 [] [hL 2 eSNode a1.f4] ?_
  refine ci h32 (fun h24 h32=>?_) fun h24 h32=>?_
  ·obtain ⟨x25,h26,h32⟩:=bs h32
   obtain ⟨r27,h28,h32⟩:=bs h32
   obtain ⟨h29,h32⟩:=nd h32
   obtain ⟨h30,h32⟩:=nd h32
   refine rl [0,2,6] 1 [] [hEv 3 eSNode_v h26,hC 5 (spec_l02Expr.fn h28),p1 h29,p1 h30] ?_
   exact pf ((⟨#[82,69,84,85,82,78]⟩:ByteArray) ++ ((⟨#[32]⟩:ByteArray) ++ r27)) h32
  refine fx [0,2,6] 1 [] ?_
  refine sk ?_
  exact pf (⟨#[82,69,84,85,82,78]⟩:ByteArray) h32
 refine rx [0,2,4,8,85] 2 [] [] ⟨132,[(0,o1 (.ref 0 0)),(2,oB a2),(4,o1 (.ref 1 0)),(8,oI a1.f0),(85,oB (decide (a1.f0 = 16)))],[[.own 5 (List.map (eK .u8) b0.f0),cI b0.f1],vSNode a1],1,[]⟩ ?_
 refine ci H (fun h38 H=>?_) fun h38 H=>?_
 ·obtain ⟨x39,h40,H⟩:=bs H
  obtain ⟨r41,h42,H⟩:=bs H
  obtain ⟨h43,H⟩:=nd H
  obtain ⟨h44,H⟩:=nd H
  obtain ⟨r45,h46,H⟩:=bs H
  obtain ⟨r47,h48,H⟩:=bs H
  refine rl [] 1 [] [hEv 3 eSNode_v h40,hC 5 (spec_l02Expr.fn h42),p1 h43,p1 h44,hC 9 (spec_l02End.fn h46),hG 10 [] [0] none (spec_l02Writer__line_2.fn h48)] ?_
  obtain rfl:=si H;exact endsG (.inl rfl) (by kernel_rfl)
 refine rn [0,2,4,8,98] 2 [] [] ?_
 refine ci H (fun h49 H=>?_) fun h49 H=>?_
 ·obtain ⟨x50,h51,H⟩:=bs H
  obtain ⟨r52,h53,H⟩:=bs H
  obtain ⟨h54,H⟩:=nd H
  obtain ⟨h55,H⟩:=nd H
  obtain ⟨r56,h57,H⟩:=bs H
  obtain ⟨r58,h59,H⟩:=bs H
  refine rl [] 1 [] [hEv 3 eSNode_v h51,hC 5 (spec_l02Expr.fn h53),p1 h54,p1 h55,hC 9 (spec_l02End.fn h57),hG 10 [] [0] none (spec_l02Writer__line_2.fn h59)] ?_
  obtain rfl:=si H;exact endsG (.inl rfl) (by kernel_rfl)
 refine rn [0,2,4,111] 2 [] [] ?_
 refine ci H (fun h60 H=>?_) fun h60 H=>?_
 ·obtain ⟨x61,h62,H⟩:=bs H
  obtain ⟨r63,h64,H⟩:=bs H
  obtain ⟨h65,H⟩:=nd H
  obtain ⟨h66,H⟩:=nd H
  obtain ⟨r67,h68,H⟩:=bs H
  refine rn [0,2,4] 2 [] [hEv 3 eSNode_v h62,hC 5 (spec_l02Expr.fn h64),p1 h65,p1 h66,hG 8 [] [0] none (spec_l02Writer__line_2.fn h68)] ?_
  obtain ⟨x69,h70,H⟩:=bs H
  obtain ⟨r71,h72,H⟩:=bs H
  refine rn [0,2] 1 [] [hEv 3 eSNode_v h70,hG 5 [] [0] none (ih_spec_l02Writer__block_2 h72)] ?_
  obtain ⟨r73,h74,H⟩:=bs H
  obtain ⟨r75,h76,H⟩:=bs H
  refine rl [] 1 [] [hC 2 (spec_l02End.fn h74),hG 3 [] [0] none (spec_l02Writer__line_2.fn h76)] ?_
  obtain rfl:=si H;exact endsG (.inl rfl) (by kernel_rfl)
 obtain ⟨x77,h78,H⟩:=bs H
 obtain ⟨r79,h80,H⟩:=bs H
 obtain ⟨h81,H⟩:=nd H
 obtain ⟨h82,H⟩:=nd H
 obtain ⟨r83,h84,H⟩:=bs H
 refine rn [0,2,4] 2 [] [hEv 3 eSNode_v h78,hC 5 (spec_l02Expr.fn h80),p1 h81,p1 h82,hG 8 [] [0] none (spec_l02Writer__line_2.fn h84)] ?_
 obtain ⟨x85,h86,H⟩:=bs H
 obtain ⟨r87,h88,H⟩:=bs H
 refine rn [0,2,4] 2 [] [hEv 3 eSNode_v h86,hG 5 [] [0] none (ih_spec_l02Writer__block_2 h88)] ?_
 refine jo H (fun w=>⟨132,[(0,o1 (.ref 0 0)),(2,oB a2)],[[.own 5 (List.map (eK .u8) w.1),cI w.2]],1,[]⟩) (fun w H=>?_) fun v99 h98 H=>?_
 ·obtain ⟨y96,y97⟩:=w
  obtain ⟨r100,h101,H⟩:=bs H
  obtain ⟨r102,h103,H⟩:=bs H
  refine rl [] 1 [] [hC 2 (spec_l02End.fn h101),hG 3 [] [0] none (spec_l02Writer__line_2.fn h103)] ?_
  obtain rfl:=si H;exact endsG (.inl rfl) (by kernel_rfl)
 refine rn [0,2,4,27] 2 [] [hL 2 eSNode a1.f4] ?_
 refine ci h98 (fun h89 h98=>?_) fun h89 h98=>?_
 ·obtain ⟨r90,h91,h98⟩:=bs h98
  refine rx [0,2,4] 2 [] [hG 1 [] [0] none (spec_l02Writer__line_2.fn h91)] ⟨132,[(0,o1 (.ref 0 0)),(2,oB a2),(4,o1 (.ref 1 0))],[[.own 5 (List.map (eK .u8) r90),cI r87.2],vSNode a1],1,[]⟩ ?_
  obtain ⟨x92,h93,h98⟩:=bs h98
  obtain ⟨r94,h95,h98⟩:=bs h98
  refine rl [0,2] 1 [] [hEv 3 eSNode_v h93,hG 5 [] [0] none (ih_spec_l02Writer__block_2 h95)] ?_
  exact pf (r94.1,r94.2) h98
 refine fx [0,2] 1 [] ?_
 refine sk ?_
 exact pf (r87.1,r87.2) h98
def spec_l02Writer__block_2.l1:Nat → SNode → (SNode → Sfffb48 → Option ((List Int) × Int)) → Int → (List Int) → Int → Option ((List Int) × Int)
  | 0,_,_,_,_,_=>none
  | k + 1,a1,rec_spec_l02Writer__block_2,z6,z7,z8=>if z6 < (a1.f4.length:Int) then ((at? a1.f4 z6).bind fun x10=>(spec_l02Writer__statement_3.f k rec_spec_l02Writer__block_2 x10 (decide ((w64 (z6 + 1)) < (a1.f4.length:Int))) (⟨z7,z8⟩:Sfffb48)).bind fun r12=>spec_l02Writer__block_2.l1 k a1 rec_spec_l02Writer__block_2 (w64 (z6 + 1)) r12.1 r12.2) else (some (z7,z8))
def spec_l02Writer__block_2.e2 (k:Nat) (a1:SNode) (b0:Sfffb48) (rec_spec_l02Writer__block_2:(SNode → Sfffb48 → Option ((List Int) × Int))):Option ((List Int) × Int):=spec_l02Writer__block_2.l1 k a1 rec_spec_l02Writer__block_2 0 b0.f0 (w64 (b0.f1 + 1))
def spec_l02Writer__block_2.f:Nat → SNode → Sfffb48 → Option ((List Int) × Int)
  | 0,_,_=>none
  | k + 1,a1,b0=>(spec_l02Writer__block_2.e2 k a1 b0 (spec_l02Writer__block_2.f k)).bind fun v=>match v with | (y15,y16)=>some (y15,w64 (y16 - 1))
theorem spec_l02Writer__block_2.fn {k:Nat}:∀ {a1:SNode} {b0:Sfffb48} {r:((List Int) × Int)} (H:spec_l02Writer__block_2.f k a1 b0 = some r),FnG Tryz.prog 53 [o1 (.ref 0 0),ag (vSNode a1)] [] [[.own 5 (List.map (eK .u8) b0.f0),cI b0.f1]] (tp [] []) [] [[.own 5 (List.map (eK .u8) r.1),cI r.2]]:=by
 induction k with
 | zero=>intro a1 b0 r H; exact absurd H (by simp [spec_l02Writer__block_2.f])
 | succ k ih_spec_l02Writer__block_2 =>
 intro a1 b0 r H
 rw [spec_l02Writer__block_2.f.eq_2] at H
 generalize spec_l02Writer__block_2.f k = rec_spec_l02Writer__block_2 at H ih_spec_l02Writer__block_2
 refine FnG.body (ts:=[]) Tryz.func53 rfl rfl (by decide) (by decide) (Nat.le_of_ble_eq_true rfl) rfl (Nat.le_of_ble_eq_true rfl) ?_
 refine rn [0,3] 2 [] [] ?_
 refine rn [0,3] 2 [] [] ?_
 refine jo H (fun w=>⟨39,[(0,o1 (.ref 0 0))],[[.own 5 (List.map (eK .u8) w.1),cI w.2]],1,[]⟩) (fun w H=>?_) fun v18 h17 H=>?_
 ·obtain ⟨y15,y16⟩:=w
  refine rl [] 1 [] [] ?_
  obtain rfl:=si H;exact endsG (.inl rfl) (by kernel_rfl)
 refine rn [0,3,4] 2 [] [] ?_
 refine bl ?_
 refine lo (Int × (List Int) × Int) k (fun k x=>spec_l02Writer__block_2.l1 k a1 rec_spec_l02Writer__block_2 x.1 x.2.1 x.2.2) (fun x=>⟨39,[(0,o1 (.ref 0 0)),(3,o1 (.ref 1 0)),(4,oI x.1)],[[.own 5 (List.map (eK .u8) x.2.1),cI x.2.2],vSNode a1],1,[]⟩) (0,b0.f0,w64 (b0.f1 + 1)) h17 fun k x h17 IH14=>?_
 obtain ⟨z6,z7,z8⟩:=x
 rw [spec_l02Writer__block_2.l1.eq_2] at h17
 refine sq ?_
 refine rn [0,3,4,16] 2 [] [hL 3 eSNode a1.f4] ?_
 refine ci h17 (fun h9 h17=>?_) fun h9 h17=>?_
 ·refine sk ?_
  refine sq ?_
  refine bl ?_
  obtain ⟨x10,h11,h17⟩:=bs h17
  obtain ⟨r12,h13,h17⟩:=bs h17
  refine dl hmix 12 [[],[],[1],[],[1,2,3],[1,2,3,4],[],[6],[],[8],[8,9],[6,7,8,9,10],[0,1,2,3,4,5,6,7,8,9,10,11]] [0,3,4] 2 [] [hEv 4 eSNode_v h11,hL 10 eSNode a1.f4,hG 12 [] [0] none (spec_l02Writer__statement_3.fn ih_spec_l02Writer__block_2 h13)] ?_
  refine rl [0,3,4] 2 [] [] ?_
  exact lb IH14 (w64 (z6 + 1),r12.1,r12.2) h17
 refine fx [0] 1 [] ?_
 refine xi ?_
 exact pf (z7,z8) h17
def spec_l02Writer__body_2.f (k:Nat) (a1:SNode) (b0:Sfffb48):Option ((List Int) × Int):=if (0:Int) < (a1.f4.length:Int) then ((spec_l02Writer__line_2.f k (⟨#[66,69,71,73,78]⟩:ByteArray) (⟨b0.f0,b0.f1⟩:Sfffb48)).bind fun r2=>(spec_l02Writer__block_2.f k a1 (⟨r2,b0.f1⟩:Sfffb48)).bind fun r4=>some (r4.1,r4.2)) else (some (b0.f0,b0.f1))
theorem spec_l02Writer__body_2.fn {k:Nat} {a1:SNode} {b0:Sfffb48} {r:((List Int) × Int)} (H:spec_l02Writer__body_2.f k a1 b0 = some r):FnG Tryz.prog 29 [o1 (.ref 0 0),ag (vSNode a1)] [] [[.own 5 (List.map (eK .u8) b0.f0),cI b0.f1]] (tp [] []) [] [[.own 5 (List.map (eK .u8) r.1),cI r.2]]:=by
 refine FnG.body (ts:=[]) Tryz.func29 rfl rfl (by decide) (by decide) (Nat.le_of_ble_eq_true rfl) rfl (Nat.le_of_ble_eq_true rfl) ?_
 refine rn [0,3] 2 [] [] ?_
 refine rn [0,3,7] 2 [] [hL 2 eSNode a1.f4] ?_
 refine ci H (fun h1 H=>?_) fun h1 H=>?_
 ·obtain ⟨r2,h3,H⟩:=bs H
  refine rn [0,3] 2 [] [hG 1 [] [0] none (spec_l02Writer__line_2.fn h3)] ?_
  obtain ⟨r4,h5,H⟩:=bs H
  refine rl [] 1 [] [hG 2 [] [0] none (spec_l02Writer__block_2.fn h5)] ?_
  obtain rfl:=si H;exact endsG (.inl rfl) (by kernel_rfl)
 refine sk ?_
 obtain rfl:=si H;exact endsG (.inl rfl) (by kernel_rfl)
def spec_l02Writer__proc_2.e1 (k:Nat) (z41:ByteArray) (z43:Int):Option ByteArray:=if (0:Int) < z43 then (if z41.size + (⟨#[59,32]⟩:ByteArray).size ≤ 9223372036854775807 then (some (z41 ++ (⟨#[59,32]⟩:ByteArray))) else none) else (some z41)
def spec_l02Writer__proc_2.e2 (k:Nat) (x45:SNode) (y50:ByteArray):Option ByteArray:=if x45.f1 = 1 then (if y50.size + (⟨#[86,65,82,32]⟩:ByteArray).size ≤ 9223372036854775807 then (some (y50 ++ (⟨#[86,65,82,32]⟩:ByteArray))) else none) else (some y50)
def spec_l02Writer__proc_2.e3 (k:Nat) (z41:ByteArray) (z43:Int) (x45:SNode):Option ByteArray:=if x45.f0 = 6 then ((spec_l02Writer__proc_2.e1 k z41 z43).bind fun y50=>(spec_l02Writer__proc_2.e2 k x45 y50).bind fun y55=>if x45.f2.size + (⟨#[58,32]⟩:ByteArray).size ≤ 9223372036854775807 then ((at? x45.f4 0).bind fun x59=>(spec_l02Base.f k x59.f1).bind fun r61=>if (x45.f2 ++ (⟨#[58,32]⟩:ByteArray)).size + r61.size ≤ 9223372036854775807 then (if y55.size + ((x45.f2 ++ (⟨#[58,32]⟩:ByteArray)) ++ r61).size ≤ 9223372036854775807 then (some (y55 ++ ((x45.f2 ++ (⟨#[58,32]⟩:ByteArray)) ++ r61))) else none) else none) else none) else (some z41)
def spec_l02Writer__proc_2.e4 (k:Nat) (x45:SNode):Option Bool:=if x45.f0 = 7 then (some (decide ((0:Int) < x45.f1))) else (some false)
def spec_l02Writer__proc_2.e5 (k:Nat) (a1:SNode) (z41:ByteArray) (z42:ByteArray) (z43:Int):Option (ByteArray × ByteArray):=(at? a1.f4 z43).bind fun x45=>(spec_l02Writer__proc_2.e3 k z41 z43 x45).bind fun y65=>(spec_l02Writer__proc_2.e4 k x45).bind fun y69=>if y69 = true then ((spec_l02Base.f k x45.f1).bind fun r73=>if (⟨#[58,32]⟩:ByteArray).size + r73.size ≤ 9223372036854775807 then (some (y65,(⟨#[58,32]⟩:ByteArray) ++ r73)) else none) else (some (y65,z42))
def spec_l02Writer__proc_2.l6:Nat → SNode → ByteArray → ByteArray → Int → Option (ByteArray × ByteArray)
  | 0,_,_,_,_=>none
  | k + 1,a1,z41,z42,z43=>if z43 < (a1.f4.length:Int) then ((spec_l02Writer__proc_2.e5 k a1 z41 z42 z43).bind fun v=>match v with | (y76,y77)=>spec_l02Writer__proc_2.l6 k a1 y76 y77 (w64 (z43 + 1))) else (some (z41,z42))
def spec_l02Writer__proc_2.e7 (k:Nat) (a1:SNode) (r1:ByteArray):Option (ByteArray × ByteArray):=spec_l02Writer__proc_2.l6 k a1 (((⟨#[80,82,79,67,69,68,85,82,69,32]⟩:ByteArray) ++ r1) ++ (⟨#[40]⟩:ByteArray)) (⟨#[]⟩:ByteArray) 0
def spec_l02Writer__proc_2.f (k:Nat) (a1:SNode) (b0:Sfffb48):Option ((List Int) × Int):=(spec_l02Star.f k a1).bind fun r1=>if (⟨#[80,82,79,67,69,68,85,82,69,32]⟩:ByteArray).size + r1.size ≤ 9223372036854775807 then (if ((⟨#[80,82,79,67,69,68,85,82,69,32]⟩:ByteArray) ++ r1).size + (⟨#[40]⟩:ByteArray).size ≤ 9223372036854775807 then ((spec_l02Writer__proc_2.e7 k a1 r1).bind fun v=>match v with | (y81,y82)=>if y81.size + (⟨#[41]⟩:ByteArray).size ≤ 9223372036854775807 then (if (y81 ++ (⟨#[41]⟩:ByteArray)).size + y82.size ≤ 9223372036854775807 then (if ((y81 ++ (⟨#[41]⟩:ByteArray)) ++ y82).size + (⟨#[59]⟩:ByteArray).size ≤ 9223372036854775807 then ((spec_l02Writer__line_2.f k (((y81 ++ (⟨#[41]⟩:ByteArray)) ++ y82) ++ (⟨#[59]⟩:ByteArray)) (⟨b0.f0,b0.f1⟩:Sfffb48)).bind fun r88=>(spec_l02Writer__vars_2.f k a1.f4 (⟨r88,w64 (b0.f1 + 1)⟩:Sfffb48)).bind fun r90=>(at? a1.f4 (w64 ((a1.f4.length:Int) - 1))).bind fun x92=>(spec_l02Writer__body_2.f k x92 (⟨r90,w64 ((w64 (b0.f1 + 1)) - 1)⟩:Sfffb48)).bind fun r94=>if (⟨#[69,78,68,32]⟩:ByteArray).size + a1.f2.size ≤ 9223372036854775807 then (if ((⟨#[69,78,68,32]⟩:ByteArray) ++ a1.f2).size + (⟨#[59]⟩:ByteArray).size ≤ 9223372036854775807 then ((spec_l02Writer__line_2.f k (((⟨#[69,78,68,32]⟩:ByteArray) ++ a1.f2) ++ (⟨#[59]⟩:ByteArray)) (⟨r94.1,r94.2⟩:Sfffb48)).bind fun r98=>some (r98,r94.2)) else none) else none) else none) else none) else none) else none) else none
theorem spec_l02Writer__proc_2.fn {k:Nat} {a1:SNode} {b0:Sfffb48} {r:((List Int) × Int)} (H:spec_l02Writer__proc_2.f k a1 b0 = some r):FnG Tryz.prog 28 [o1 (.ref 0 0),ag (vSNode a1)] [] [[.own 5 (List.map (eK .u8) b0.f0),cI b0.f1]] (tp [] []) [] [[.own 5 (List.map (eK .u8) r.1),cI r.2]]:=by
 refine FnG.body (ts:=[]) Tryz.func28 rfl rfl (by decide) (by decide) (Nat.le_of_ble_eq_true rfl) rfl (Nat.le_of_ble_eq_true rfl) ?_
 refine rn [0,3] 2 [] [] ?_
 obtain ⟨r1,h2,H⟩:=bs H
 obtain ⟨h3,H⟩:=nd H
 obtain ⟨h4,H⟩:=nd H
 refine rn [0,3,4] 2 [] [hC 1 (spec_l02Star.fn h2),p1 h3,p1 h4] ?_
 refine rn [0,3,4,5] 2 [] [] ?_
 refine jo H (fun w=>⟨101,[(0,o1 (.ref 0 0)),(3,o1 (.ref 1 0)),(4,oS w.1),(5,oS w.2)],[[.own 5 (List.map (eK .u8) b0.f0),cI b0.f1],vSNode a1],1,[]⟩) (fun w H=>?_) fun v84 h83 H=>?_
 ·obtain ⟨y81,y82⟩:=w
  obtain ⟨h85,H⟩:=nd H
  obtain ⟨h86,H⟩:=nd H
  obtain ⟨h87,H⟩:=nd H
  obtain ⟨r88,h89,H⟩:=bs H
  refine rn [0,3] 2 [] [p1 h85,p1 h86,p1 h87,hG 6 [] [0] none (spec_l02Writer__line_2.fn h89)] ?_
  refine rn [0,3] 2 [] [] ?_
  obtain ⟨r90,h91,H⟩:=bs H
  refine rn [0,3] 2 [] [hG 3 [] [0] none (spec_l02Writer__vars_2.fn h91)] ?_
  refine rn [0,3] 2 [] [] ?_
  obtain ⟨x92,h93,H⟩:=bs H
  obtain ⟨r94,h95,H⟩:=bs H
  refine rn [0,3] 2 [] [hL 5 eSNode a1.f4,hEv 7 eSNode_v h93,hG 9 [] [0] none (spec_l02Writer__body_2.fn h95)] ?_
  obtain ⟨h96,H⟩:=nd H
  obtain ⟨h97,H⟩:=nd H
  obtain ⟨r98,h99,H⟩:=bs H
  refine rl [] 1 [] [p1 h96,p1 h97,hG 5 [] [0] none (spec_l02Writer__line_2.fn h99)] ?_
  obtain rfl:=si H;exact endsG (.inl rfl) (by kernel_rfl)
 refine rn [0,3,4,5,6] 2 [] [] ?_
 refine bl ?_
 refine lo (ByteArray × ByteArray × Int) k (fun k x=>spec_l02Writer__proc_2.l6 k a1 x.1 x.2.1 x.2.2) (fun x=>⟨101,[(0,o1 (.ref 0 0)),(3,o1 (.ref 1 0)),(4,oS x.1),(5,oS x.2.1),(6,oI x.2.2)],[[.own 5 (List.map (eK .u8) b0.f0),cI b0.f1],vSNode a1],1,[]⟩) (((⟨#[80,82,79,67,69,68,85,82,69,32]⟩:ByteArray) ++ r1) ++ (⟨#[40]⟩:ByteArray),(⟨#[]⟩:ByteArray),0) h83 fun k x h83 IH80=>?_
 obtain ⟨z41,z42,z43⟩:=x
 rw [spec_l02Writer__proc_2.l6.eq_2] at h83
 refine sq ?_
 refine rn [0,3,4,5,6,16] 2 [] [hL 3 eSNode a1.f4] ?_
 refine ci h83 (fun h44 h83=>?_) fun h44 h83=>?_
 ·refine sk ?_
  refine jo h83 (fun w=>⟨101,[(0,o1 (.ref 0 0)),(3,o1 (.ref 1 0)),(4,oS w.1),(5,oS w.2),(6,oI z43)],[[.own 5 (List.map (eK .u8) b0.f0),cI b0.f1],vSNode a1],1,[]⟩) (fun w h83=>?_) fun v79 h78 h83=>?_
  ·obtain ⟨y76,y77⟩:=w
   refine rl [0,3,4,5,6] 2 [] [] ?_
   exact lb IH80 (y76,y77,w64 (z43 + 1)) h83
  refine bl ?_
  obtain ⟨x45,h46,h78⟩:=bs h78
  refine rn [0,3,4,5,6,7] 3 [] [hEv 3 eSNode_v h46] ?_
  refine jo h78 (fun y65=>⟨101,[(0,o1 (.ref 0 0)),(3,o1 (.ref 1 0)),(4,oS y65),(5,oS z42),(6,oI z43),(7,o1 (.ref 2 0))],[[.own 5 (List.map (eK .u8) b0.f0),cI b0.f1],vSNode a1,vSNode x45],1,[]⟩) (fun y65 h78=>?_) fun v67 h66 h78=>?_
  ·refine jo h78 (fun y69=>⟨101,[(0,o1 (.ref 0 0)),(3,o1 (.ref 1 0)),(4,oS y65),(5,oS z42),(6,oI z43),(7,o1 (.ref 2 0)),(55,oB y69)],[[.own 5 (List.map (eK .u8) b0.f0),cI b0.f1],vSNode a1,vSNode x45],1,[]⟩) (fun y69 h78=>?_) fun v71 h70 h78=>?_
   ·refine cb h78 (fun h72 h78=>?_) fun h72 h78=>?_
    ·obtain ⟨r73,h74,h78⟩:=bs h78
     obtain ⟨h75,h78⟩:=nd h78
     refine rl [0,3,4,5,6] 2 [] [hC 2 (spec_l02Base.fn h74),p1 h75] ?_
     exact pf (y65,(⟨#[58,32]⟩:ByteArray) ++ r73) h78
    refine fx [0,3,4,5,6] 2 [] ?_
    refine sk ?_
    exact pf (y65,z42) h78
   rcases ite_some h70 with ⟨h68,h70⟩ | ⟨h68,h70⟩
   ·refine rl [0,3,4,5,6,7,55] 3 [] [hB 2 (decide_eq_true h68)] ?_
    exact pf (decide ((0:Int) < x45.f1)) h70
   refine rl [0,3,4,5,6,7,55] 3 [] [hB 2 (decide_eq_false h68)] ?_
   exact pf false h70
  refine rn [0,3,4,5,6,7,26] 3 [] [] ?_
  refine ci h66 (fun h47 h66=>?_) fun h47 h66=>?_
  ·refine jo h66 (fun y50=>⟨101,[(0,o1 (.ref 0 0)),(3,o1 (.ref 1 0)),(4,oS y50),(5,oS z42),(6,oI z43),(7,o1 (.ref 2 0))],[[.own 5 (List.map (eK .u8) b0.f0),cI b0.f1],vSNode a1,vSNode x45],1,[]⟩) (fun y50 h66=>?_) fun v52 h51 h66=>?_
   ·refine jo h66 (fun y55=>⟨101,[(0,o1 (.ref 0 0)),(3,o1 (.ref 1 0)),(4,oS y55),(5,oS z42),(6,oI z43),(7,o1 (.ref 2 0))],[[.own 5 (List.map (eK .u8) b0.f0),cI b0.f1],vSNode a1,vSNode x45],1,[]⟩) (fun y55 h66=>?_) fun v57 h56 h66=>?_
    ·obtain ⟨h58,h66⟩:=nd h66
     obtain ⟨x59,h60,h66⟩:=bs h66
     obtain ⟨r61,h62,h66⟩:=bs h66
     obtain ⟨h63,h66⟩:=nd h66
     obtain ⟨h64,h66⟩:=nd h66
     refine dl hmix 11 [[],[],[1],[1,2],[],[4],[4,5],[4,5,6],[4,5,6,7],[4,5,6,7,8],[1,2,3,4,5,6,7,8,9],[0,1,2,3,4,5,6,7,8,9,10],[0,1,2,3,4,5,6,7,8,9,10,11]] [0,3,4,5,6,7] 3 [] [p1 h58,hEv 6 eSNode_v h60,hC 9 (spec_l02Base.fn h62),p1 h63,p1 h64] ?_
     exact pf (y55 ++ ((x45.f2 ++ (⟨#[58,32]⟩:ByteArray)) ++ r61)) h66
    refine rn [0,3,4,5,6,7,33] 3 [] [] ?_
    refine ci h56 (fun h53 h56=>?_) fun h53 h56=>?_
    ·obtain ⟨h54,h56⟩:=nd h56
     refine rl [0,3,4,5,6,7] 3 [] [p1 h54] ?_
     exact pf (y50 ++ (⟨#[86,65,82,32]⟩:ByteArray)) h56
    refine fx [0,3,4,5,6,7] 3 [] ?_
    refine sk ?_
    exact pf y50 h56
   refine rn [0,3,4,5,6,7,28] 3 [] [] ?_
   refine ci h51 (fun h48 h51=>?_) fun h48 h51=>?_
   ·obtain ⟨h49,h51⟩:=nd h51
    refine rl [0,3,4,5,6,7] 3 [] [p1 h49] ?_
    exact pf (z41 ++ (⟨#[59,32]⟩:ByteArray)) h51
   refine fx [0,3,4,5,6,7] 3 [] ?_
   refine sk ?_
   exact pf z41 h51
  refine fx [0,3,4,5,6,7] 3 [] ?_
  refine sk ?_
  exact pf z41 h66
 refine fx [0,3,4,5] 2 [] ?_
 refine xi ?_
 exact pf (z41,z42) h83
def spec_l02Print.e1 (k:Nat) (z18:ByteArray):Option ByteArray:=if z18 = (⟨#[]⟩:ByteArray) then (some z18) else (if z18.size + (⟨#[44,32]⟩:ByteArray).size ≤ 9223372036854775807 then (some (z18 ++ (⟨#[44,32]⟩:ByteArray))) else none)
def spec_l02Print.e2 (k:Nat) (a0:SNode) (z18:ByteArray) (z19:Int):Option ByteArray:=(at? a0.f4 z19).bind fun x21=>if x21.f0 = 2 then ((spec_l02Print.e1 k z18).bind fun y26=>if y26.size + x21.f2.size ≤ 9223372036854775807 then (some (y26 ++ x21.f2)) else none) else (some z18)
def spec_l02Print.l3:Nat → SNode → ByteArray → Int → Option ByteArray
  | 0,_,_,_=>none
  | k + 1,a0,z18,z19=>if z19 < (a0.f4.length:Int) then ((spec_l02Print.e2 k a0 z18 z19).bind fun y30=>spec_l02Print.l3 k a0 y30 (w64 (z19 + 1))) else (some z18)
def spec_l02Print.e4 (k:Nat) (a0:SNode):Option ByteArray:=spec_l02Print.l3 k a0 (⟨#[]⟩:ByteArray) 0
def spec_l02Print.e5 (k:Nat) (r3:(List Int)) (y34:ByteArray):Option (List Int):=if y34 = (⟨#[]⟩:ByteArray) then (some r3) else (if (⟨#[73,77,80,79,82,84,32]⟩:ByteArray).size + y34.size ≤ 9223372036854775807 then (if ((⟨#[73,77,80,79,82,84,32]⟩:ByteArray) ++ y34).size + (⟨#[59]⟩:ByteArray).size ≤ 9223372036854775807 then ((spec_l02Writer__line_2.f k (((⟨#[73,77,80,79,82,84,32]⟩:ByteArray) ++ y34) ++ (⟨#[59]⟩:ByteArray)) (⟨r3,0⟩:Sfffb48)).bind fun r40=>some r40) else none) else none)
def spec_l02Print.e6 (k:Nat) (z67:Bool) (z69:(List Int)):Option (Bool × (List Int)):=if z67 = true then (some (z67,z69)) else ((spec_l02Writer__line_2.f k (⟨#[67,79,78,83,84]⟩:ByteArray) (⟨z69,0⟩:Sfffb48)).bind fun r75=>some (true,r75))
def spec_l02Print.e7 (k:Nat) (a0:SNode) (z67:Bool) (z68:Int) (z69:(List Int)):Option (Bool × (List Int)):=(at? a0.f4 z68).bind fun x71=>if x71.f0 = 3 then ((spec_l02Print.e6 k z67 z69).bind fun v=>match v with | (y77,y78)=>(spec_l02Star.f k x71).bind fun r81=>if (⟨#[32,32]⟩:ByteArray).size + r81.size ≤ 9223372036854775807 then (if ((⟨#[32,32]⟩:ByteArray) ++ r81).size + (⟨#[32,61,32]⟩:ByteArray).size ≤ 9223372036854775807 then ((at? x71.f4 0).bind fun x85=>(spec_l02Expr.f k x85 0).bind fun r87=>if (((⟨#[32,32]⟩:ByteArray) ++ r81) ++ (⟨#[32,61,32]⟩:ByteArray)).size + r87.size ≤ 9223372036854775807 then (if ((((⟨#[32,32]⟩:ByteArray) ++ r81) ++ (⟨#[32,61,32]⟩:ByteArray)) ++ r87).size + (⟨#[59]⟩:ByteArray).size ≤ 9223372036854775807 then ((spec_l02Writer__line_2.f k (((((⟨#[32,32]⟩:ByteArray) ++ r81) ++ (⟨#[32,61,32]⟩:ByteArray)) ++ r87) ++ (⟨#[59]⟩:ByteArray)) (⟨y78,0⟩:Sfffb48)).bind fun r91=>some (y77,r91)) else none) else none) else none) else none) else (some (z67,z69))
def spec_l02Print.l8:Nat → SNode → Bool → Int → (List Int) → Option (List Int)
  | 0,_,_,_,_=>none
  | k + 1,a0,z67,z68,z69=>if z68 < (a0.f4.length:Int) then ((spec_l02Print.e7 k a0 z67 z68 z69).bind fun v=>match v with | (y93,y94)=>spec_l02Print.l8 k a0 y93 (w64 (z68 + 1)) y94) else (some z69)
def spec_l02Print.e9 (k:Nat) (a0:SNode) (y42:(List Int)):Option (List Int):=spec_l02Print.l8 k a0 false 0 y42
def spec_l02Print.e10 (k:Nat) (a0:SNode) (z113:Int) (z114:(List Int)) (z115:Int):Option ((List Int) × Int):=(at? a0.f4 z113).bind fun x117=>if x117.f0 = 5 then ((spec_l02Writer__proc_2.f k x117 (⟨z114,z115⟩:Sfffb48)).bind fun r120=>some (r120.1,r120.2)) else (some (z114,z115))
def spec_l02Print.l11:Nat → SNode → Int → (List Int) → Int → Option ((List Int) × Int)
  | 0,_,_,_,_=>none
  | k + 1,a0,z113,z114,z115=>if z113 < (a0.f4.length:Int) then ((spec_l02Print.e10 k a0 z113 z114 z115).bind fun v=>match v with | (y122,y123)=>spec_l02Print.l11 k a0 (w64 (z113 + 1)) y122 y123) else (some (z114,z115))
def spec_l02Print.e12 (k:Nat) (a0:SNode) (r101:(List Int)):Option ((List Int) × Int):=spec_l02Print.l11 k a0 0 r101 0
def spec_l02Print.f (k:Nat) (a0:SNode):Option ByteArray:=if (⟨#[77,79,68,85,76,69,32]⟩:ByteArray).size + a0.f2.size ≤ 9223372036854775807 then (if ((⟨#[77,79,68,85,76,69,32]⟩:ByteArray) ++ a0.f2).size + (⟨#[59]⟩:ByteArray).size ≤ 9223372036854775807 then ((spec_l02Writer__line_2.f k (((⟨#[77,79,68,85,76,69,32]⟩:ByteArray) ++ a0.f2) ++ (⟨#[59]⟩:ByteArray)) (⟨([]:List Int),0⟩:Sfffb48)).bind fun r3=>(spec_l02Print.e4 k a0).bind fun y34=>(spec_l02Print.e5 k r3 y34).bind fun y42=>(spec_l02Print.e9 k a0 y42).bind fun y98=>(spec_l02Writer__vars_2.f k a0.f4 (⟨y98,0⟩:Sfffb48)).bind fun r101=>(spec_l02Print.e12 k a0 r101).bind fun v=>match v with | (y127,y128)=>(at? a0.f4 (w64 ((a0.f4.length:Int) - 1))).bind fun x131=>(spec_l02Writer__body_2.f k x131 (⟨y127,y128⟩:Sfffb48)).bind fun r133=>if (⟨#[69,78,68,32]⟩:ByteArray).size + a0.f2.size ≤ 9223372036854775807 then (if ((⟨#[69,78,68,32]⟩:ByteArray) ++ a0.f2).size + (⟨#[46]⟩:ByteArray).size ≤ 9223372036854775807 then ((spec_l02Writer__line_2.f k (((⟨#[69,78,68,32]⟩:ByteArray) ++ a0.f2) ++ (⟨#[46]⟩:ByteArray)) (⟨r133.1,r133.2⟩:Sfffb48)).bind fun r137=>some (strOfNums r137)) else none) else none) else none) else none
theorem spec_l02Print.fn {k:Nat} {a0:SNode} {r:ByteArray} (H:spec_l02Print.f k a0 = some r):Fn Tryz.prog 11 [ag (vSNode a0)] [] (oS r) []:=by
 refine Fn.bd [2] Tryz.func11 ?_
 refine rn [1] 1 [] [] ?_
 refine rn [1,3] 2 [] [] ?_
 obtain ⟨h1,H⟩:=nd H
 obtain ⟨h2,H⟩:=nd H
 obtain ⟨r3,h4,H⟩:=bs H
 refine rn [1,3] 2 [] [p1 h1,p1 h2,q0 5 (.fix (.own (.b 1 0) 5)),hG 5 [] [1] none (spec_l02Writer__line_2.fn h4)] ?_
 refine rn [1,3,4] 2 [] [] ?_
 refine rn [1,3,4,5] 2 [] [] ?_
 refine jo H (fun y34=>⟨135,[(1,o1 (.ref 0 0)),(3,o1 (.ref 1 0)),(4,oS y34),(5,oB false)],[vSNode a0,[.own 5 (List.map (eK .u8) r3),cI 0]],0,[]⟩) (fun y34 H=>?_) fun v36 h35 H=>?_
 ·refine jo H (fun y42=>⟨135,[(1,o1 (.ref 0 0)),(3,o1 (.ref 1 0)),(5,oB false)],[vSNode a0,[.own 5 (List.map (eK .u8) y42),cI 0]],0,[]⟩) (fun y42 H=>?_) fun v44 h43 H=>?_
  ·refine jo H (fun y98=>⟨135,[(1,o1 (.ref 0 0)),(3,o1 (.ref 1 0))],[vSNode a0,[.own 5 (List.map (eK .u8) y98),cI 0]],0,[]⟩) (fun y98 H=>?_) fun v100 h99 H=>?_
   ·obtain ⟨r101,h102,H⟩:=bs H
    refine rn [1,3] 2 [] [hG 3 [] [1] none (spec_l02Writer__vars_2.fn h102)] ?_
    refine jo H (fun w=>⟨135,[(1,o1 (.ref 0 0)),(3,o1 (.ref 1 0))],[vSNode a0,[.own 5 (List.map (eK .u8) w.1),cI w.2]],0,[]⟩) (fun w H=>?_) fun v130 h129 H=>?_
    ·obtain ⟨y127,y128⟩:=w
     obtain ⟨x131,h132,H⟩:=bs H
     obtain ⟨r133,h134,H⟩:=bs H
     refine rn [1,3] 2 [] [hL 5 eSNode a0.f4,hEv 7 eSNode_v h132,hG 9 [] [1] none (spec_l02Writer__body_2.fn h134)] ?_
     obtain ⟨h135,H⟩:=nd H
     obtain ⟨h136,H⟩:=nd H
     obtain ⟨r137,h138,H⟩:=bs H
     refine rn [3] 2 [] [p1 h135,p1 h136,hG 5 [] [1] none (spec_l02Writer__line_2.fn h138)] ?_
     refine rn [2] 0 [] [q1 4 (.nums r137) (rfl:List.map (eK .u8) r137 = List.map (fun n=>[PC.sc (.int .u8 n)]) r137)] ?_
     refine Tri.ret ?_
     obtain rfl:=si H;exact eR
    refine rn [1,3,8] 2 [] [] ?_
    refine bl ?_
    refine lo (Int × (List Int) × Int) k (fun k x=>spec_l02Print.l11 k a0 x.1 x.2.1 x.2.2) (fun x=>⟨135,[(1,o1 (.ref 0 0)),(3,o1 (.ref 1 0)),(8,oI x.1)],[vSNode a0,[.own 5 (List.map (eK .u8) x.2.1),cI x.2.2]],0,[]⟩) (0,r101,0) h129 fun k x h129 IH126=>?_
    obtain ⟨z113,z114,z115⟩:=x
    rw [spec_l02Print.l11.eq_2] at h129
    refine sq ?_
    refine rn [1,3,8,97] 2 [] [hL 3 eSNode a0.f4] ?_
    refine ci h129 (fun h116 h129=>?_) fun h116 h129=>?_
    ·refine sk ?_
     refine jo h129 (fun w=>⟨135,[(1,o1 (.ref 0 0)),(3,o1 (.ref 1 0)),(8,oI z113)],[vSNode a0,[.own 5 (List.map (eK .u8) w.1),cI w.2]],0,[]⟩) (fun w h129=>?_) fun v125 h124 h129=>?_
     ·obtain ⟨y122,y123⟩:=w
      refine rl [1,3,8] 2 [] [] ?_
      exact lb IH126 (w64 (z113 + 1),y122,y123) h129
     refine bl ?_
     obtain ⟨x117,h118,h124⟩:=bs h124
     refine rn [1,3,8,106] 2 [] [hEv 3 eSNode_v h118] ?_
     refine ci h124 (fun h119 h124=>?_) fun h119 h124=>?_
     ·obtain ⟨r120,h121,h124⟩:=bs h124
      refine rl [1,3,8] 2 [] [hEv 4 eSNode_v h118,hG 6 [] [1] none (spec_l02Writer__proc_2.fn h121)] ?_
      exact pf (r120.1,r120.2) h124
     refine fx [1,3,8] 2 [] ?_
     refine sk ?_
     exact pf (z114,z115) h124
    refine fx [1,3] 2 [] ?_
    refine xi ?_
    exact pf (z114,z115) h129
   refine rn [1,3,5,7] 2 [] [] ?_
   refine bl ?_
   refine lo (Bool × Int × (List Int)) k (fun k x=>spec_l02Print.l8 k a0 x.1 x.2.1 x.2.2) (fun x=>⟨135,[(1,o1 (.ref 0 0)),(3,o1 (.ref 1 0)),(5,oB x.1),(7,oI x.2.1)],[vSNode a0,[.own 5 (List.map (eK .u8) x.2.2),cI 0]],0,[]⟩) (false,0,y42) h99 fun k x h99 IH97=>?_
   obtain ⟨z67,z68,z69⟩:=x
   rw [spec_l02Print.l8.eq_2] at h99
   refine sq ?_
   refine rn [1,3,5,7,54] 2 [] [hL 3 eSNode a0.f4] ?_
   refine ci h99 (fun h70 h99=>?_) fun h70 h99=>?_
   ·refine sk ?_
    refine jo h99 (fun w=>⟨135,[(1,o1 (.ref 0 0)),(3,o1 (.ref 1 0)),(5,oB w.1),(7,oI z68)],[vSNode a0,[.own 5 (List.map (eK .u8) w.2),cI 0]],0,[]⟩) (fun w h99=>?_) fun v96 h95 h99=>?_
    ·obtain ⟨y93,y94⟩:=w
     refine rl [1,3,5,7] 2 [] [] ?_
     exact lb IH97 (y93,w64 (z68 + 1),y94) h99
    refine bl ?_
    obtain ⟨x71,h72,h95⟩:=bs h95
    refine rn [1,3,5,7,63] 2 [] [hEv 3 eSNode_v h72] ?_
    refine ci h95 (fun h73 h95=>?_) fun h73 h95=>?_
    ·refine jo h95 (fun w=>⟨135,[(1,o1 (.ref 0 0)),(3,o1 (.ref 1 0)),(5,oB w.1),(7,oI z68)],[vSNode a0,[.own 5 (List.map (eK .u8) w.2),cI 0]],0,[]⟩) (fun w h95=>?_) fun v80 h79 h95=>?_
     ·obtain ⟨y77,y78⟩:=w
      obtain ⟨r81,h82,h95⟩:=bs h95
      obtain ⟨h83,h95⟩:=nd h95
      obtain ⟨h84,h95⟩:=nd h95
      obtain ⟨x85,h86,h95⟩:=bs h95
      obtain ⟨r87,h88,h95⟩:=bs h95
      obtain ⟨h89,h95⟩:=nd h95
      obtain ⟨h90,h95⟩:=nd h95
      obtain ⟨r91,h92,h95⟩:=bs h95
      refine dl hmix 20 [[],[],[1],[],[1,2,3],[1,2,3,4],[1,2,3,4,5],[1,2,3,4,5,6],[1,2,3,4,5,6,7],[],[9],[],[9,10,11],[9,10,11,12],[9,10,11,12,13],[9,10,11,12,13,14],[9,10,11,12,13,14,15],[1,2,3,4,5,6,9,10,11,12,13,14,15,16],[1,2,3,4,5,6,7,8,9,10,11,12,13,14,15,16,17],[1,2,3,4,5,6,7,8,9,10,11,12,13,14,15,16,17,18],[0,1,2,3,4,5,6,7,8,9,10,11,12,13,14,15,16,17,18,19]] [1,3,5,7] 2 [] [hEv 4 eSNode_v h72,hC 6 (spec_l02Star.fn h82),p1 h83,p1 h84,hEv 12 eSNode_v h72,hEv 15 eSNode_v h86,hC 17 (spec_l02Expr.fn h88),p1 h89,p1 h90,hG 20 [] [1] none (spec_l02Writer__line_2.fn h92)] ?_
      exact pf (y77,r91) h95
     refine rn [1,3,5,7,65] 2 [] [] ?_
     refine cm h79 (fun h74 h79=>?_) fun h74 h79=>?_
     ·refine fx [1,3,5,7] 2 [] ?_
      refine sk ?_
      exact pf (z67,z69) h79
     obtain ⟨r75,h76,h79⟩:=bs h79
     refine rn [1,3,7] 2 [] [hG 1 [] [1] none (spec_l02Writer__line_2.fn h76)] ?_
     refine rl [1,3,5,7] 2 [] [] ?_
     exact pf (true,r75) h79
    refine fx [1,3,5,7] 2 [] ?_
    refine sk ?_
    exact pf (z67,z69) h95
   refine fx [1,3] 2 [] ?_
   refine xi ?_
   exact pf z69 h99
  refine rn [1,3,4,5,44] 2 [] [] ?_
  refine cn h43 (fun h37 h43=>?_) fun h37 h43=>?_
  ·refine fx [1,3,5] 2 [] ?_
   refine sk ?_
   exact pf r3 h43
  obtain ⟨h38,h43⟩:=nd h43
  obtain ⟨h39,h43⟩:=nd h43
  obtain ⟨r40,h41,h43⟩:=bs h43
  refine rl [1,3,5] 2 [] [p1 h38,p1 h39,hG 4 [] [1] none (spec_l02Writer__line_2.fn h41)] ?_
  exact pf r40 h43
 refine rx [1,3,4,5,6] 2 [] [] ⟨135,[(1,o1 (.ref 0 0)),(3,o1 (.ref 1 0)),(4,oS (⟨#[]⟩:ByteArray)),(5,oB false),(6,oI 0)],[vSNode a0,[.own 5 (List.map (eK .u8) r3),cI 0]],0,[]⟩ ?_
 refine bl ?_
 refine lo (ByteArray × Int) k (fun k x=>spec_l02Print.l3 k a0 x.1 x.2) (fun x=>⟨135,[(1,o1 (.ref 0 0)),(3,o1 (.ref 1 0)),(4,oS x.1),(5,oB false),(6,oI x.2)],[vSNode a0,[.own 5 (List.map (eK .u8) r3),cI 0]],0,[]⟩) ((⟨#[]⟩:ByteArray),0) h35 fun k x h35 IH33=>?_
 obtain ⟨z18,z19⟩:=x
 rw [spec_l02Print.l3.eq_2] at h35
 refine sq ?_
 refine rn [1,3,4,5,6,21] 2 [] [hL 3 eSNode a0.f4] ?_
 refine ci h35 (fun h20 h35=>?_) fun h20 h35=>?_
 ·refine sk ?_
  refine jo h35 (fun y30=>⟨135,[(1,o1 (.ref 0 0)),(3,o1 (.ref 1 0)),(4,oS y30),(5,oB false),(6,oI z19)],[vSNode a0,[.own 5 (List.map (eK .u8) r3),cI 0]],0,[]⟩) (fun y30 h35=>?_) fun v32 h31 h35=>?_
  ·refine rl [1,3,4,5,6] 2 [] [] ?_
   exact lb IH33 (y30,w64 (z19 + 1)) h35
  refine bl ?_
  obtain ⟨x21,h22,h31⟩:=bs h31
  refine rn [1,3,4,5,6,30] 2 [] [hEv 3 eSNode_v h22] ?_
  refine ci h31 (fun h23 h31=>?_) fun h23 h31=>?_
  ·refine jo h31 (fun y26=>⟨135,[(1,o1 (.ref 0 0)),(3,o1 (.ref 1 0)),(4,oS y26),(5,oB false),(6,oI z19)],[vSNode a0,[.own 5 (List.map (eK .u8) r3),cI 0]],0,[]⟩) (fun y26 h31=>?_) fun v28 h27 h31=>?_
   ·obtain ⟨h29,h31⟩:=nd h31
    refine rl [1,3,4,5,6] 2 [] [hEv 4 eSNode_v h22,p1 h29] ?_
    exact pf (y26 ++ x21.f2) h31
   refine rn [1,3,4,5,6,32] 2 [] [] ?_
   refine cn h27 (fun h24 h27=>?_) fun h24 h27=>?_
   ·refine fx [1,3,4,5,6] 2 [] ?_
    refine sk ?_
    exact pf z18 h27
   obtain ⟨h25,h27⟩:=nd h27
   refine rl [1,3,4,5,6] 2 [] [p1 h25] ?_
   exact pf (z18 ++ (⟨#[44,32]⟩:ByteArray)) h27
  refine fx [1,3,4,5,6] 2 [] ?_
  refine sk ?_
  exact pf z18 h31
 refine fx [1,3,4,5] 2 [] ?_
 refine xi ?_
 exact pf z18 h35
def spec_Print.f (k:Nat) (a0:SNode):Option (ByteArray × Int):=(spec_TreeOK.f k a0).bind fun r1=>if r1 = true then ((spec_l02Print.f k a0).bind fun r4=>some (r4,0)) else (some ((⟨#[]⟩:ByteArray),1))
theorem spec_Print.fn {k:Nat} {a0:SNode} {r:(ByteArray × Int)} (H:spec_Print.f k a0 = some r):Fn Tryz.prog 5 [ag (vSNode a0)] [] (tp [none,none] [cS r.1,cI r.2]) []:=by
 refine Fn.bd [2,3] Tryz.func5 ?_
 refine rn [1] 1 [] [] ?_
 refine sq ?_
 obtain ⟨r1,h2,H⟩:=bs H
 refine rn [1,6] 1 [] [hC 1 (spec_TreeOK.fn h2)] ?_
 refine cm H (fun h3 H=>?_) fun h3 H=>?_
 ·refine sk ?_
  obtain ⟨r4,h5,H⟩:=bs H
  refine rn [2,3] 0 [] [hC 1 (spec_l02Print.fn h5)] ?_
  refine Tri.ret ?_
  obtain rfl:=si H;exact eR
 refine rn [2,3] 0 [] [] ?_
 refine Tri.ret ?_
 obtain rfl:=si H;exact eR
def impl_within.e1 (k:Nat) (a0:Int) (a1:Int) (a2:Int):Option Bool:=if a1 ≤ a0 then (some (decide (a0 ≤ a2))) else (some false)
def impl_within.f (k:Nat) (a0:Int) (a1:Int) (a2:Int):Option Bool:=(impl_within.e1 k a0 a1 a2).bind fun y2=>some y2
theorem impl_within.fn {k:Nat} {a0:Int} {a1:Int} {a2:Int} {r:Bool} (H:impl_within.f k a0 a1 a2 = some r):Fn Tryz.prog 81 [oI a0,oI a1,oI a2] [] (oB r) []:=by
 refine Fn.bd [6] Tryz.func81 ?_
 refine rn [0,1,2] 0 [] [] ?_
 refine jo H (fun y2=>⟨15,[(6,oB y2)],[],0,[]⟩) (fun y2 H=>?_) fun v4 h3 H=>?_
 ·refine Tri.ret ?_
  obtain rfl:=si H;exact eR
 rcases ite_some h3 with ⟨h1,h3⟩ | ⟨h1,h3⟩
 ·refine rl [6] 0 [] [hB 2 (decide_eq_true h1)] ?_
  exact pf (decide (a0 ≤ a2)) h3
 refine rl [6] 0 [] [hB 2 (decide_eq_false h1)] ?_
 exact pf false h3
def impl_isType.f (k:Nat) (a0:Int):Option Bool:=(impl_within.f k a0 1 3).bind fun r1=>some r1
theorem impl_isType.fn {k:Nat} {a0:Int} {r:Bool} (H:impl_isType.f k a0 = some r):Fn Tryz.prog 82 [oI a0] [] (oB r) []:=by
 refine Fn.bd [2] Tryz.func82 ?_
 refine rn [0] 0 [] [] ?_
 obtain ⟨r1,h2,H⟩:=bs H
 refine rn [2] 0 [] [hC 1 (impl_within.fn h2)] ?_
 refine Tri.ret ?_
 obtain rfl:=si H;exact eR
def impl_CharOK.e1 (k:Nat) (a0:Int):Option Bool:=(impl_within.f k a0 0 1114111).bind fun r1=>if r1 = true then ((impl_within.f k a0 55296 57343).bind fun r4=>some (!r4)) else (some false)
def impl_CharOK.f (k:Nat) (a0:Int):Option Bool:=(impl_CharOK.e1 k a0).bind fun y6=>some y6
theorem impl_CharOK.fn {k:Nat} {a0:Int} {r:Bool} (H:impl_CharOK.f k a0 = some r):Fn Tryz.prog 83 [oI a0] [] (oB r) []:=by
 refine Fn.bd [2] Tryz.func83 ?_
 refine rn [0] 0 [] [] ?_
 refine jo H (fun y6=>⟨10,[(2,oB y6)],[],0,[]⟩) (fun y6 H=>?_) fun v8 h7 H=>?_
 ·refine Tri.ret ?_
  obtain rfl:=si H;exact eR
 obtain ⟨r1,h2,h7⟩:=bs h7
 rcases iteb_some h7 with ⟨h3,h7⟩ | ⟨h3,h7⟩
 ·obtain ⟨r4,h5,h7⟩:=bs h7
  refine rl [2] 0 [] [hC 1 (impl_within.fn h2),hB 1 h3,hC 4 (impl_within.fn h5)] ?_
  exact pf (!r4) h7
 refine rl [2] 0 [] [hC 1 (impl_within.fn h2),hB 1 h3] ?_
 exact pf false h7
def impl_Node__hasN.e1 (k:Nat) (a0:SNode):Option Bool:=if a0.f0 = 3 then (some (decide (a0.f0 = 3))) else (if a0.f0 = 4 then (some (decide (a0.f0 = 4))) else (if a0.f0 = 5 then (some (decide (a0.f0 = 5))) else (if a0.f0 = 6 then (some (decide (a0.f0 = 6))) else (some (decide (a0.f0 = 20))))))
def impl_Node__hasN.f (k:Nat) (a0:SNode):Option Bool:=(impl_Node__hasN.e1 k a0).bind fun y5=>if y5 = true then ((impl_within.f k a0.f1 0 1).bind fun r9=>some r9) else (if a0.f0 = 7 then ((impl_within.f k a0.f1 0 3).bind fun r12=>some r12) else (if a0.f0 = 8 then ((impl_isType.f k a0.f1).bind fun r15=>some r15) else (if a0.f0 = 9 then ((impl_within.f k a0.f1 1 100).bind fun r18=>some r18) else (if a0.f0 = 18 then ((impl_within.f k a0.f1 0 999999999999999999).bind fun r21=>some r21) else (if a0.f0 = 19 then ((impl_CharOK.f k a0.f1).bind fun r24=>some r24) else (some (decide (a0.f1 = 0))))))))
theorem impl_Node__hasN.fn {k:Nat} {a0:SNode} {r:Bool} (H:impl_Node__hasN.f k a0 = some r):Fn Tryz.prog 54 [ag (vSNode a0)] [] (oB r) []:=by
 refine Fn.bd [2] Tryz.func54 ?_
 refine rn [1] 1 [] [] ?_
 refine sq ?_
 refine rn [1,4] 1 [] [] ?_
 refine bl ?_
 refine jo H (fun y5=>⟨42,[(1,o1 (.ref 0 0)),(4,oI a0.f0),(5,oB y5)],[vSNode a0],0,[]⟩) (fun y5 H=>?_) fun v7 h6 H=>?_
 ·refine cb H (fun h8 H=>?_) fun h8 H=>?_
  ·obtain ⟨r9,h10,H⟩:=bs H
   refine rn [2] 0 [] [hC 2 (impl_within.fn h10)] ?_
   refine Tri.ret ?_
   obtain rfl:=si H;exact eR
  refine rn [1,4,14] 1 [] [] ?_
  refine ci H (fun h11 H=>?_) fun h11 H=>?_
  ·obtain ⟨r12,h13,H⟩:=bs H
   refine rn [2] 0 [] [hC 2 (impl_within.fn h13)] ?_
   refine Tri.ret ?_
   obtain rfl:=si H;exact eR
  refine rn [1,4,19] 1 [] [] ?_
  refine ci H (fun h14 H=>?_) fun h14 H=>?_
  ·obtain ⟨r15,h16,H⟩:=bs H
   refine rn [2] 0 [] [hC 2 (impl_isType.fn h16)] ?_
   refine Tri.ret ?_
   obtain rfl:=si H;exact eR
  refine rn [1,4,24] 1 [] [] ?_
  refine ci H (fun h17 H=>?_) fun h17 H=>?_
  ·obtain ⟨r18,h19,H⟩:=bs H
   refine rn [2] 0 [] [hC 2 (impl_within.fn h19)] ?_
   refine Tri.ret ?_
   obtain rfl:=si H;exact eR
  refine rn [1,4,29] 1 [] [] ?_
  refine ci H (fun h20 H=>?_) fun h20 H=>?_
  ·obtain ⟨r21,h22,H⟩:=bs H
   refine rn [2] 0 [] [hC 2 (impl_within.fn h22)] ?_
   refine Tri.ret ?_
   obtain rfl:=si H;exact eR
  refine rn [1,34] 1 [] [] ?_
  refine ci H (fun h23 H=>?_) fun h23 H=>?_
  ·obtain ⟨r24,h25,H⟩:=bs H
   refine rx [2] 0 [] [hC 2 (impl_CharOK.fn h25)] ⟨42,[(2,oB r24)],[],0,[]⟩ ?_
   refine Tri.ret ?_
   obtain rfl:=si H;exact eR
  refine sk ?_
  refine rx [2] 0 [] [] ⟨42,[(2,oB (decide (a0.f1 = 0)))],[],0,[]⟩ ?_
  refine Tri.ret ?_
  obtain rfl:=si H;exact eR
 refine rn [1,4,5] 1 [] [] ?_
 refine ci h6 (fun h1 h6=>?_) fun h1 h6=>?_
 ·refine sk ?_
  exact pf (decide (a0.f0 = 3)) h6
 refine rn [1,4,5] 1 [] [] ?_
 refine ci h6 (fun h2 h6=>?_) fun h2 h6=>?_
 ·refine sk ?_
  exact pf (decide (a0.f0 = 4)) h6
 refine rn [1,4,5] 1 [] [] ?_
 refine ci h6 (fun h3 h6=>?_) fun h3 h6=>?_
 ·refine sk ?_
  exact pf (decide (a0.f0 = 5)) h6
 refine rx [1,4,5] 1 [] [] ⟨42,[(1,o1 (.ref 0 0)),(4,oI a0.f0),(5,oB (decide (a0.f0 = 6)))],[vSNode a0],0,[]⟩ ?_
 refine ci h6 (fun h4 h6=>?_) fun h4 h6=>?_
 ·refine sk ?_
  exact pf (decide (a0.f0 = 6)) h6
 refine rl [1,4,5] 1 [] [] ?_
 exact pf (decide (a0.f0 = 20)) h6
def impl_isLetter.e1 (k:Nat) (a0:Int):Option Bool:=if (97:Int) ≤ a0 then (if a0 ≤ 122 then (some true) else (if (65:Int) ≤ a0 then (if a0 ≤ 90 then (some true) else (some (decide (a0 = 95)))) else (some (decide (a0 = 95))))) else (if (65:Int) ≤ a0 then (if a0 ≤ 90 then (some true) else (some (decide (a0 = 95)))) else (some (decide (a0 = 95))))
def impl_isLetter.f (k:Nat) (a0:Int):Option Bool:=(impl_isLetter.e1 k a0).bind fun y7=>some y7
theorem impl_isLetter.fn {k:Nat} {a0:Int} {r:Bool} (H:impl_isLetter.f k a0 = some r):Fn Tryz.prog 125 [o1 (cK .u8 a0)] [] (oB r) []:=by
 refine Fn.bd [2] Tryz.func125 ?_
 refine rn [0] 0 [] [] ?_
 refine jo H (fun y7=>⟨21,[(2,oB y7)],[],0,[]⟩) (fun y7 H=>?_) fun v9 h8 H=>?_
 ·refine Tri.ret ?_
  obtain rfl:=si H;exact eR
 rcases ite_some h8 with ⟨h1,h8⟩ | ⟨h1,h8⟩
 ·rcases ite_some h8 with ⟨h2,h8⟩ | ⟨h2,h8⟩
  ·refine rl [2] 0 [] [hB 1 (decide_eq_true h1),hB 4 (decide_eq_true h2)] ?_
   exact pf true h8
  rcases ite_some h8 with ⟨h3,h8⟩ | ⟨h3,h8⟩
  ·rcases ite_some h8 with ⟨h4,h8⟩ | ⟨h4,h8⟩
   ·refine rl [2] 0 [] [hB 1 (decide_eq_true h1),hB 4 (decide_eq_false h2),hB 8 (decide_eq_true h3),hB 11 (decide_eq_true h4)] ?_
    exact pf true h8
   refine rl [2] 0 [] [hB 1 (decide_eq_true h1),hB 4 (decide_eq_false h2),hB 8 (decide_eq_true h3),hB 11 (decide_eq_false h4)] ?_
   exact pf (decide (a0 = 95)) h8
  refine rl [2] 0 [] [hB 1 (decide_eq_true h1),hB 4 (decide_eq_false h2),hB 8 (decide_eq_false h3)] ?_
  exact pf (decide (a0 = 95)) h8
 rcases ite_some h8 with ⟨h5,h8⟩ | ⟨h5,h8⟩
 ·rcases ite_some h8 with ⟨h6,h8⟩ | ⟨h6,h8⟩
  ·refine rl [2] 0 [] [hB 1 (decide_eq_false h1),hB 8 (decide_eq_true h5),hB 11 (decide_eq_true h6)] ?_
   exact pf true h8
  refine rl [2] 0 [] [hB 1 (decide_eq_false h1),hB 8 (decide_eq_true h5),hB 11 (decide_eq_false h6)] ?_
  exact pf (decide (a0 = 95)) h8
 refine rl [2] 0 [] [hB 1 (decide_eq_false h1),hB 8 (decide_eq_false h5)] ?_
 exact pf (decide (a0 = 95)) h8
def impl_isDigit.e1 (k:Nat) (a0:Int):Option Bool:=if (48:Int) ≤ a0 then (some (decide (a0 ≤ 57))) else (some false)
def impl_isDigit.f (k:Nat) (a0:Int):Option Bool:=(impl_isDigit.e1 k a0).bind fun y2=>some y2
theorem impl_isDigit.fn {k:Nat} {a0:Int} {r:Bool} (H:impl_isDigit.f k a0 = some r):Fn Tryz.prog 144 [o1 (cK .u8 a0)] [] (oB r) []:=by
 refine Fn.bd [2] Tryz.func144 ?_
 refine rn [0] 0 [] [] ?_
 refine jo H (fun y2=>⟨9,[(2,oB y2)],[],0,[]⟩) (fun y2 H=>?_) fun v4 h3 H=>?_
 ·refine Tri.ret ?_
  obtain rfl:=si H;exact eR
 rcases ite_some h3 with ⟨h1,h3⟩ | ⟨h1,h3⟩
 ·refine rl [2] 0 [] [hB 1 (decide_eq_true h1)] ?_
  exact pf (decide (a0 ≤ 57)) h3
 refine rl [2] 0 [] [hB 1 (decide_eq_false h1)] ?_
 exact pf false h3
def impl_isWordByte.e1 (k:Nat) (a0:Int):Option Bool:=(impl_isLetter.f k a0).bind fun r1=>if r1 = true then (some true) else ((impl_isDigit.f k a0).bind fun r4=>some r4)
def impl_isWordByte.f (k:Nat) (a0:Int):Option Bool:=(impl_isWordByte.e1 k a0).bind fun y6=>some y6
theorem impl_isWordByte.fn {k:Nat} {a0:Int} {r:Bool} (H:impl_isWordByte.f k a0 = some r):Fn Tryz.prog 127 [o1 (cK .u8 a0)] [] (oB r) []:=by
 refine Fn.bd [2] Tryz.func127 ?_
 refine rn [0] 0 [] [] ?_
 refine jo H (fun y6=>⟨9,[(2,oB y6)],[],0,[]⟩) (fun y6 H=>?_) fun v8 h7 H=>?_
 ·refine Tri.ret ?_
  obtain rfl:=si H;exact eR
 obtain ⟨r1,h2,h7⟩:=bs h7
 rcases iteb_some h7 with ⟨h3,h7⟩ | ⟨h3,h7⟩
 ·refine rl [2] 0 [] [hC 1 (impl_isLetter.fn h2),hB 1 h3] ?_
  exact pf true h7
 obtain ⟨r4,h5,h7⟩:=bs h7
 refine rl [2] 0 [] [hC 1 (impl_isLetter.fn h2),hB 1 h3,hC 4 (impl_isDigit.fn h5)] ?_
 exact pf r4 h7
def impl_areAll_byte__1_1.f (k:Nat) (a0:Int):Option Bool:=(impl_isWordByte.f k a0).bind fun r1=>some (!r1)
theorem impl_areAll_byte__1_1.fn {k:Nat} {a0:Int} {r:Bool} (H:impl_areAll_byte__1_1.f k a0 = some r):Fn Tryz.prog 143 [o1 (cK .u8 a0),o1 (.cel ([.sc (.func (.func 127) #[] #[])]) 0)] [] (oB r) []:=by
 refine Fn.bd [3] Tryz.func143 ?_
 refine rn [0,1] 0 [] [] ?_
 obtain ⟨r1,h2,H⟩:=bs H
 refine rn [3] 0 [] [hC 2 (impl_isWordByte.fn h2)] ?_
 refine Tri.ret ?_
 obtain rfl:=si H;exact eR
def slices_IndexFunc___byte_byte_1.l1:Nat → (List Int) → Int → Option (Int ⊕ Unit)
  | 0,_,_=>none
  | k + 1,a0,z7=>if z7 < (a0.length:Int) then ((at? a0 z7).bind fun x9=>(impl_areAll_byte__1_1.f k x9).bind fun r11=>if r11 = true then (some (.inl z7)) else (slices_IndexFunc___byte_byte_1.l1 k a0 (w64 (z7 + 1)))) else (some (.inr ()))
def slices_IndexFunc___byte_byte_1.e2 (k:Nat) (a0:(List Int)):Option (Int ⊕ Unit):=slices_IndexFunc___byte_byte_1.l1 k a0 0
def slices_IndexFunc___byte_byte_1.f (k:Nat) (a0:(List Int)):Option Int:=(slices_IndexFunc___byte_byte_1.e2 k a0).bind fun v=>match v with | .inl r=>some r | .inr _=>some (-1)
theorem slices_IndexFunc___byte_byte_1.fn {k:Nat} {a0:(List Int)} {r:Int} (H:slices_IndexFunc___byte_byte_1.f k a0 = some r):Fn Tryz.prog 154 [o1 (.sl 1 (List.map (eK .u8) a0)),o1 (.fn 143 [.cel ([.sc (.func (.func 127) #[] #[])]) 0])] [] (oI r) []:=by
 refine Fn.bd [4] Tryz.func154 ?_
 refine rn [0,1] 0 [] [] ?_
 refine jr H (fun _=>⟨19,[],[],0,[]⟩) (fun _ H=>?_) fun v16 h15 H=>?_
 ·refine rn [4] 0 [] [] ?_
  refine Tri.ret ?_
  obtain rfl:=si H;exact eR
 refine rn [0,1,7,8] 0 [] [hL 1 (eK .u8) a0] ?_
 refine bl ?_
 refine lo Int k (fun k x=>slices_IndexFunc___byte_byte_1.l1 k a0 x) (fun x=>⟨19,[(0,o1 (.sl 1 (List.map (eK .u8) a0))),(1,o1 (.fn 143 [.cel ([.sc (.func (.func 127) #[] #[])]) 0])),(7,oI (a0.length:Int)),(8,oI x)],[],0,[]⟩) 0 h15 fun k z7 h15 IH14=>?_
 rw [slices_IndexFunc___byte_byte_1.l1.eq_2] at h15
 refine rn [0,1,7,8,9] 0 [] [] ?_
 refine sq ?_
 refine ci h15 (fun h8 h15=>?_) fun h8 h15=>?_
 ·refine sk ?_
  refine sq ?_
  refine bl ?_
  refine rn [0,1,5,7,8] 0 [] [] ?_
  obtain ⟨x9,h10,h15⟩:=bs h15
  obtain ⟨r11,h12,h15⟩:=bs h15
  refine rn [0,1,5,7,8,16] 0 [] [hE 3 (eK .u8) h10,hC 5 (impl_areAll_byte__1_1.fn h12)] ?_
  refine cb h15 (fun h13 h15=>?_) fun h13 h15=>?_
  ·refine rn [4] 0 [] [] ?_
   refine Tri.ret ?_
   obtain rfl:=si h15;obtain rfl:=si H;exact eR
  refine sk ?_
  refine rl [0,1,7,8] 0 [] [] ?_
  exact lb IH14 (w64 (z7 + 1)) h15
 refine fx [] 0 [] ?_
 refine xi ?_
 exact pe () h15
def slices_ContainsFunc___byte_byte_1.f (k:Nat) (a0:(List Int)):Option Bool:=(slices_IndexFunc___byte_byte_1.f k a0).bind fun r1=>some (decide ((0:Int) ≤ r1))
theorem slices_ContainsFunc___byte_byte_1.fn {k:Nat} {a0:(List Int)} {r:Bool} (H:slices_ContainsFunc___byte_byte_1.f k a0 = some r):Fn Tryz.prog 142 [o1 (.sl 1 (List.map (eK .u8) a0)),o1 (.fn 143 [.cel ([.sc (.func (.func 127) #[] #[])]) 0])] [] (oB r) []:=by
 refine Fn.bd [4] Tryz.func142 ?_
 refine rn [0,1] 0 [] [] ?_
 obtain ⟨r1,h2,H⟩:=bs H
 refine rn [4] 0 [] [hC 2 (slices_IndexFunc___byte_byte_1.fn h2)] ?_
 refine Tri.ret ?_
 obtain rfl:=si H;exact eR
def impl_areAll_byte_1.f (k:Nat) (a0:(List Int)):Option Bool:=(slices_ContainsFunc___byte_byte_1.f k a0).bind fun r1=>some (!r1)
theorem impl_areAll_byte_1.fn {k:Nat} {a0:(List Int)} {r:Bool} (H:impl_areAll_byte_1.f k a0 = some r):Fn Tryz.prog 126 [o1 (.sl 1 (List.map (eK .u8) a0)),o1 (.sc (.func (.func 127) #[] #[]))] [] (oB r) []:=by
 refine Fn.bd [4] Tryz.func126 ?_
 refine rn [0,3] 1 [] [] ?_
 obtain ⟨r1,h2,H⟩:=bs H
 refine rn [4] 0 [] [hC 2 (slices_ContainsFunc___byte_byte_1.fn h2)] ?_
 refine Tri.ret ?_
 obtain rfl:=si H;exact eR
def impl_NameOK.e1 (k:Nat) (a0:ByteArray):Option Bool:=(impl_within.f k (a0.size:Int) 1 40).bind fun r1=>if r1 = true then (if (0:Int) ≤ 0 then (if 0 < (a0.size:Int) then ((impl_isLetter.f k (byteAt a0 0)).bind fun r6=>if r6 = true then ((impl_areAll_byte_1.f k (bytesOf a0)).bind fun r9=>some r9) else (some false)) else none) else none) else (some false)
def impl_NameOK.f (k:Nat) (a0:ByteArray):Option Bool:=(impl_NameOK.e1 k a0).bind fun y11=>some y11
theorem impl_NameOK.fn {k:Nat} {a0:ByteArray} {r:Bool} (H:impl_NameOK.f k a0 = some r):Fn Tryz.prog 112 [oS a0] [] (oB r) []:=by
 refine Fn.bd [2] Tryz.func112 ?_
 refine rn [0] 0 [] [] ?_
 refine jo H (fun y11=>⟨16,[(2,oB y11)],[],0,[]⟩) (fun y11 H=>?_) fun v13 h12 H=>?_
 ·refine Tri.ret ?_
  obtain rfl:=si H;exact eR
 obtain ⟨r1,h2,h12⟩:=bs h12
 rcases iteb_some h12 with ⟨h3,h12⟩ | ⟨h3,h12⟩
 ·obtain ⟨h4,h12⟩:=nd h12
  obtain ⟨h5,h12⟩:=nd h12
  obtain ⟨r6,h7,h12⟩:=bs h12
  rcases iteb_some h12 with ⟨h8,h12⟩ | ⟨h8,h12⟩
  ·obtain ⟨r9,h10,h12⟩:=bs h12
   refine rl [2] 0 [] [hC 2 (impl_within.fn h2),hB 2 h3,p2 h4 h5,hC 6 (impl_isLetter.fn h7),hB 6 h8,hC 11 (impl_areAll_byte_1.fn h10)] ?_
   exact pf r9 h12
  refine rl [2] 0 [] [hC 2 (impl_within.fn h2),hB 2 h3,p2 h4 h5,hC 6 (impl_isLetter.fn h7),hB 6 h8] ?_
  exact pf false h12
 refine rl [2] 0 [] [hC 2 (impl_within.fn h2),hB 2 h3] ?_
 exact pf false h12
def impl_keys.f (k:Nat):Option (List ByteArray):=(strings_Fields.f k (⟨#[77,79,68,85,76,69,32,73,77,80,79,82,84,32,67,79,78,83,84,32,86,65,82,32,80,82,79,67,69,68,85,82,69,32,66,69,71,73,78,32,69,78,68,32,73,70,32,84,72,69,78,32,69,76,83,73,70,32,69,76,83,69,32,87,72,73,76,69,32,68,79,32,82,69,84,85,82,78,32,79,82,32,68,73,86,32,77,79,68,32,84,82,85,69,32,70,65,76,83,69,32,65,82,82,65,89,32,79,70,32,73,78,84,69,71,69,82,32,66,79,79,76,69,65,78,32,67,72,65,82,32,87,82,73,84,69,32,82,69,65,68,32,79,82,68,32,67,72,82,32,76,69,78]⟩:ByteArray)).bind fun r1=>some r1
theorem impl_keys.fn {k:Nat} {r:(List ByteArray)} (H:impl_keys.f k  = some r):Fn Tryz.prog 128 [] [] (o1 (.own 9 (List.map eS r))) []:=by
 refine Fn.bd [0] Tryz.func128 ?_
 refine rn [] 0 [] [] ?_
 obtain ⟨r1,h2,H⟩:=bs H
 refine rn [0] 0 [] [hC 0 (strings_Fields.fn k (⟨#[77,79,68,85,76,69,32,73,77,80,79,82,84,32,67,79,78,83,84,32,86,65,82,32,80,82,79,67,69,68,85,82,69,32,66,69,71,73,78,32,69,78,68,32,73,70,32,84,72,69,78,32,69,76,83,73,70,32,69,76,83,69,32,87,72,73,76,69,32,68,79,32,82,69,84,85,82,78,32,79,82,32,68,73,86,32,77,79,68,32,84,82,85,69,32,70,65,76,83,69,32,65,82,82,65,89,32,79,70,32,73,78,84,69,71,69,82,32,66,79,79,76,69,65,78,32,67,72,65,82,32,87,82,73,84,69,32,82,69,65,68,32,79,82,68,32,67,72,82,32,76,69,78]⟩:ByteArray) r1 h2) (show (List.all [.own 9 (List.map eS r1)] PC.flatB) = true by simp [PC.flatB,PC.scalar,cI,cK,cB,cS,eS])] ?_
 refine Tri.ret ?_
 obtain rfl:=si H;exact eR
def slices_Index___string_string.l1:Nat → (List ByteArray) → ByteArray → Int → Option (Int ⊕ Unit)
  | 0,_,_,_=>none
  | k + 1,a0,a1,z5=>if z5 < (a0.length:Int) then ((at? a0 z5).bind fun x7=>if a1 = x7 then (some (.inl z5)) else (slices_Index___string_string.l1 k a0 a1 (w64 (z5 + 1)))) else (some (.inr ()))
def slices_Index___string_string.e2 (k:Nat) (a0:(List ByteArray)) (a1:ByteArray):Option (Int ⊕ Unit):=slices_Index___string_string.l1 k a0 a1 0
def slices_Index___string_string.f (k:Nat) (a0:(List ByteArray)) (a1:ByteArray):Option Int:=(slices_Index___string_string.e2 k a0 a1).bind fun v=>match v with | .inl r=>some r | .inr _=>some (-1)
theorem slices_Index___string_string.fn {k:Nat} {a0:(List ByteArray)} {a1:ByteArray} {r:Int} (H:slices_Index___string_string.f k a0 a1 = some r):Fn Tryz.prog 114 [o1 (.sl 1 (List.map eS a0)),oS a1] [] (oI r) []:=by
 refine Fn.bd [4] Tryz.func114 ?_
 refine rn [0,1] 0 [] [] ?_
 refine jr H (fun _=>⟨19,[],[],0,[]⟩) (fun _ H=>?_) fun v12 h11 H=>?_
 ·refine rn [4] 0 [] [] ?_
  refine Tri.ret ?_
  obtain rfl:=si H;exact eR
 refine rn [0,1,7,8] 0 [] [hL 1 eS a0] ?_
 refine bl ?_
 refine lo Int k (fun k x=>slices_Index___string_string.l1 k a0 a1 x) (fun x=>⟨19,[(0,o1 (.sl 1 (List.map eS a0))),(1,oS a1),(7,oI (a0.length:Int)),(8,oI x)],[],0,[]⟩) 0 h11 fun k z5 h11 IH10=>?_
 rw [slices_Index___string_string.l1.eq_2] at h11
 refine rn [0,1,7,8,9] 0 [] [] ?_
 refine sq ?_
 refine ci h11 (fun h6 h11=>?_) fun h6 h11=>?_
 ·refine sk ?_
  refine sq ?_
  refine bl ?_
  refine rn [0,1,5,7,8] 0 [] [] ?_
  obtain ⟨x7,h8,h11⟩:=bs h11
  refine rn [0,1,5,7,8,16] 0 [] [hE 3 eS h8] ?_
  refine ci h11 (fun h9 h11=>?_) fun h9 h11=>?_
  ·refine rn [4] 0 [] [] ?_
   refine Tri.ret ?_
   obtain rfl:=si h11;obtain rfl:=si H;exact eR
  refine sk ?_
  refine rl [0,1,7,8] 0 [] [] ?_
  exact lb IH10 (w64 (z5 + 1)) h11
 refine fx [] 0 [] ?_
 refine xi ?_
 exact pe () h11
def slices_Contains___string_string.f (k:Nat) (a0:(List ByteArray)) (a1:ByteArray):Option Bool:=(slices_Index___string_string.f k a0 a1).bind fun r1=>some (decide ((0:Int) ≤ r1))
theorem slices_Contains___string_string.fn {k:Nat} {a0:(List ByteArray)} {a1:ByteArray} {r:Bool} (H:slices_Contains___string_string.f k a0 a1 = some r):Fn Tryz.prog 85 [o1 (.sl 1 (List.map eS a0)),oS a1] [] (oB r) []:=by
 refine Fn.bd [4] Tryz.func85 ?_
 refine rn [0,1] 0 [] [] ?_
 obtain ⟨r1,h2,H⟩:=bs H
 refine rn [4] 0 [] [hC 2 (slices_Index___string_string.fn h2)] ?_
 refine Tri.ret ?_
 obtain rfl:=si H;exact eR
def impl_IsKey.f (k:Nat) (a0:ByteArray):Option Bool:=(impl_keys.f k).bind fun r1=>(slices_Contains___string_string.f k r1 a0).bind fun r3=>some r3
theorem impl_IsKey.fn {k:Nat} {a0:ByteArray} {r:Bool} (H:impl_IsKey.f k a0 = some r):Fn Tryz.prog 113 [oS a0] [] (oB r) []:=by
 refine Fn.bd [2] Tryz.func113 ?_
 refine rn [0] 0 [] [] ?_
 obtain ⟨r1,h2,H⟩:=bs H
 obtain ⟨r3,h4,H⟩:=bs H
 refine rn [2] 0 [] [hC 0 (impl_keys.fn h2) (show (List.all [.own 9 (List.map eS r1)] PC.flatB) = true by simp [PC.flatB,PC.scalar,cI,cK,cB,cS,eS]),hC 2 (slices_Contains___string_string.fn h4)] ?_
 refine Tri.ret ?_
 obtain rfl:=si H;exact eR
def impl_isName.e1 (k:Nat) (a0:ByteArray):Option Bool:=(impl_NameOK.f k a0).bind fun r1=>if r1 = true then ((impl_IsKey.f k a0).bind fun r4=>some (!r4)) else (some false)
def impl_isName.f (k:Nat) (a0:ByteArray):Option Bool:=(impl_isName.e1 k a0).bind fun y6=>some y6
theorem impl_isName.fn {k:Nat} {a0:ByteArray} {r:Bool} (H:impl_isName.f k a0 = some r):Fn Tryz.prog 84 [oS a0] [] (oB r) []:=by
 refine Fn.bd [2] Tryz.func84 ?_
 refine rn [0] 0 [] [] ?_
 refine jo H (fun y6=>⟨10,[(2,oB y6)],[],0,[]⟩) (fun y6 H=>?_) fun v8 h7 H=>?_
 ·refine Tri.ret ?_
  obtain rfl:=si H;exact eR
 obtain ⟨r1,h2,h7⟩:=bs h7
 rcases iteb_some h7 with ⟨h3,h7⟩ | ⟨h3,h7⟩
 ·obtain ⟨r4,h5,h7⟩:=bs h7
  refine rl [2] 0 [] [hC 1 (impl_NameOK.fn h2),hB 1 h3,hC 4 (impl_IsKey.fn h5)] ?_
  exact pf (!r4) h7
 refine rl [2] 0 [] [hC 1 (impl_NameOK.fn h2),hB 1 h3] ?_
 exact pf false h7
def impl_binaries.f (k:Nat):Option (List ByteArray):=(strings_Fields.f k (⟨#[43,32,45,32,42,32,68,73,86,32,77,79,68,32,61,32,35,32,60,32,60,61,32,62,32,62,61,32,38,32,79,82]⟩:ByteArray)).bind fun r1=>some r1
theorem impl_binaries.fn {k:Nat} {r:(List ByteArray)} (H:impl_binaries.f k  = some r):Fn Tryz.prog 86 [] [] (o1 (.own 9 (List.map eS r))) []:=by
 refine Fn.bd [0] Tryz.func86 ?_
 refine rn [] 0 [] [] ?_
 obtain ⟨r1,h2,H⟩:=bs H
 refine rn [0] 0 [] [hC 0 (strings_Fields.fn k (⟨#[43,32,45,32,42,32,68,73,86,32,77,79,68,32,61,32,35,32,60,32,60,61,32,62,32,62,61,32,38,32,79,82]⟩:ByteArray) r1 h2) (show (List.all [.own 9 (List.map eS r1)] PC.flatB) = true by simp [PC.flatB,PC.scalar,cI,cK,cB,cS,eS])] ?_
 refine Tri.ret ?_
 obtain rfl:=si H;exact eR
def impl_Node__hasNames.e1 (k:Nat) (a0:SNode):Option Bool:=if a0.f0 = 1 then (some (decide (a0.f0 = 1))) else (if a0.f0 = 2 then (some (decide (a0.f0 = 2))) else (if a0.f0 = 3 then (some (decide (a0.f0 = 3))) else (if a0.f0 = 4 then (some (decide (a0.f0 = 4))) else (if a0.f0 = 5 then (some (decide (a0.f0 = 5))) else (some (decide (a0.f0 = 6)))))))
def impl_Node__hasNames.e2 (k:Nat) (a0:SNode):Option Bool:=(impl_isName.f k a0.f2).bind fun r10=>if r10 = true then (some (decide (a0.f3 = (⟨#[]⟩:ByteArray)))) else (some false)
def impl_Node__hasNames.e3 (k:Nat) (a0:SNode):Option Bool:=if a0.f0 = 12 then (some (decide (a0.f0 = 12))) else (some (decide (a0.f0 = 21)))
def impl_Node__hasNames.e4 (k:Nat) (a0:SNode):Option Bool:=(impl_isName.f k a0.f2).bind fun r21=>if r21 = true then (if a0.f3 = (⟨#[]⟩:ByteArray) then (some true) else ((impl_isName.f k a0.f3).bind fun r25=>some r25)) else (some false)
def impl_Node__hasNames.e5 (k:Nat) (a0:SNode):Option Bool:=if a0.f2 = (⟨#[45]⟩:ByteArray) then (some (decide (a0.f3 = (⟨#[]⟩:ByteArray)))) else (if a0.f2 = (⟨#[126]⟩:ByteArray) then (some (decide (a0.f3 = (⟨#[]⟩:ByteArray)))) else (some false))
def impl_Node__hasNames.e6 (k:Nat) (a0:SNode):Option Bool:=(impl_binaries.f k).bind fun r37=>(slices_Contains___string_string.f k r37 a0.f2).bind fun r39=>if r39 = true then (some (decide (a0.f3 = (⟨#[]⟩:ByteArray)))) else (some false)
def impl_Node__hasNames.e7 (k:Nat) (a0:SNode):Option Bool:=if a0.f2 = (⟨#[]⟩:ByteArray) then (some (decide (a0.f3 = (⟨#[]⟩:ByteArray)))) else (some false)
def impl_Node__hasNames.f (k:Nat) (a0:SNode):Option Bool:=(impl_Node__hasNames.e1 k a0).bind fun y6=>if y6 = true then ((impl_Node__hasNames.e2 k a0).bind fun y13=>some y13) else ((impl_Node__hasNames.e3 k a0).bind fun y17=>if y17 = true then ((impl_Node__hasNames.e4 k a0).bind fun y27=>some y27) else (if a0.f0 = 23 then ((impl_Node__hasNames.e5 k a0).bind fun y33=>some y33) else (if a0.f0 = 24 then ((impl_Node__hasNames.e6 k a0).bind fun y42=>some y42) else ((impl_Node__hasNames.e7 k a0).bind fun y46=>some y46))))
theorem impl_Node__hasNames.fn {k:Nat} {a0:SNode} {r:Bool} (H:impl_Node__hasNames.f k a0 = some r):Fn Tryz.prog 55 [ag (vSNode a0)] [] (oB r) []:=by
 refine Fn.bd [2] Tryz.func55 ?_
 refine rn [1] 1 [] [] ?_
 refine sq ?_
 refine rn [1,4] 1 [] [] ?_
 refine bl ?_
 refine jo H (fun y6=>⟨70,[(1,o1 (.ref 0 0)),(4,oI a0.f0),(5,oB y6)],[vSNode a0],0,[]⟩) (fun y6 H=>?_) fun v8 h7 H=>?_
 ·refine cb H (fun h9 H=>?_) fun h9 H=>?_
  ·refine jo H (fun y13=>⟨70,[(2,oB y13)],[],0,[]⟩) (fun y13 H=>?_) fun v15 h14 H=>?_
   ·refine Tri.ret ?_
    obtain rfl:=si H;exact eR
   obtain ⟨r10,h11,h14⟩:=bs h14
   rcases iteb_some h14 with ⟨h12,h14⟩ | ⟨h12,h14⟩
   ·refine rl [2] 0 [] [hC 2 (impl_isName.fn h11),hB 2 h12] ?_
    exact pf (decide (a0.f3 = (⟨#[]⟩:ByteArray))) h14
   refine rl [2] 0 [] [hC 2 (impl_isName.fn h11),hB 2 h12] ?_
   exact pf false h14
  refine jo H (fun y17=>⟨70,[(1,o1 (.ref 0 0)),(4,oI a0.f0),(20,oB y17)],[vSNode a0],0,[]⟩) (fun y17 H=>?_) fun v19 h18 H=>?_
  ·refine cb H (fun h20 H=>?_) fun h20 H=>?_
   ·refine jo H (fun y27=>⟨70,[(2,oB y27)],[],0,[]⟩) (fun y27 H=>?_) fun v29 h28 H=>?_
    ·refine Tri.ret ?_
     obtain rfl:=si H;exact eR
    obtain ⟨r21,h22,h28⟩:=bs h28
    rcases iteb_some h28 with ⟨h23,h28⟩ | ⟨h23,h28⟩
    ·rcases ite_some h28 with ⟨h24,h28⟩ | ⟨h24,h28⟩
     ·refine rl [2] 0 [] [hC 2 (impl_isName.fn h22),hB 2 h23,hB 6 (decide_eq_true h24)] ?_
      exact pf true h28
     obtain ⟨r25,h26,h28⟩:=bs h28
     refine rl [2] 0 [] [hC 2 (impl_isName.fn h22),hB 2 h23,hB 6 (decide_eq_false h24),hC 10 (impl_isName.fn h26)] ?_
     exact pf r25 h28
    refine rl [2] 0 [] [hC 2 (impl_isName.fn h22),hB 2 h23] ?_
    exact pf false h28
   refine rn [1,4,36] 1 [] [] ?_
   refine ci H (fun h30 H=>?_) fun h30 H=>?_
   ·refine jo H (fun y33=>⟨70,[(2,oB y33)],[],0,[]⟩) (fun y33 H=>?_) fun v35 h34 H=>?_
    ·refine Tri.ret ?_
     obtain rfl:=si H;exact eR
    rcases ite_some h34 with ⟨h31,h34⟩ | ⟨h31,h34⟩
    ·refine rl [2] 0 [] [hB 2 (decide_eq_true h31)] ?_
     exact pf (decide (a0.f3 = (⟨#[]⟩:ByteArray))) h34
    rcases ite_some h34 with ⟨h32,h34⟩ | ⟨h32,h34⟩
    ·refine rl [2] 0 [] [hB 2 (decide_eq_false h31),hB 6 (decide_eq_true h32)] ?_
     exact pf (decide (a0.f3 = (⟨#[]⟩:ByteArray))) h34
    refine rl [2] 0 [] [hB 2 (decide_eq_false h31),hB 6 (decide_eq_false h32)] ?_
    exact pf false h34
   refine rn [1,51] 1 [] [] ?_
   refine ci H (fun h36 H=>?_) fun h36 H=>?_
   ·refine jo H (fun y42=>⟨70,[(2,oB y42)],[],0,[]⟩) (fun y42 H=>?_) fun v44 h43 H=>?_
    ·refine Tri.ret ?_
     obtain rfl:=si H;exact eR
    obtain ⟨r37,h38,h43⟩:=bs h43
    obtain ⟨r39,h40,h43⟩:=bs h43
    rcases iteb_some h43 with ⟨h41,h43⟩ | ⟨h41,h43⟩
    ·refine dl hmix 3 [[],[],[1],[0,1,2],[0,1,2,3],[0,1,2,3,4],[0,1,2,3,4,5],[0,1,2,3,4,5,6],[0,1,2,3,4,5,6,7],[0,1,2,3,4,5,6,7,8]] [2] 0 [] [hC 0 (impl_binaries.fn h38) (show (List.all [.own 9 (List.map eS r37)] PC.flatB) = true by simp [PC.flatB,PC.scalar,cI,cK,cB,cS,eS]),hC 3 (slices_Contains___string_string.fn h40),hB 3 h41] ?_
     exact pf (decide (a0.f3 = (⟨#[]⟩:ByteArray))) h43
    refine dl hmix 3 [[],[],[1],[0,1,2],[0,1,2,3],[0,1,2,3,4],[0,1,2,3,4,5],[0,1,2,3,4,5,6],[0,1,2,3,4,5,6,7],[0,1,2,3,4,5,6,7,8]] [2] 0 [] [hC 0 (impl_binaries.fn h38) (show (List.all [.own 9 (List.map eS r37)] PC.flatB) = true by simp [PC.flatB,PC.scalar,cI,cK,cB,cS,eS]),hC 3 (slices_Contains___string_string.fn h40),hB 3 h41] ?_
    exact pf false h43
   refine sk ?_
   refine jo H (fun y46=>⟨70,[(2,oB y46)],[],0,[]⟩) (fun y46 H=>?_) fun v48 h47 H=>?_
   ·refine Tri.ret ?_
    obtain rfl:=si H;exact eR
   rcases ite_some h47 with ⟨h45,h47⟩ | ⟨h45,h47⟩
   ·refine rl [2] 0 [] [hB 2 (decide_eq_true h45)] ?_
    exact pf (decide (a0.f3 = (⟨#[]⟩:ByteArray))) h47
   refine rl [2] 0 [] [hB 2 (decide_eq_false h45)] ?_
   exact pf false h47
  refine rn [1,4,20] 1 [] [] ?_
  refine ci h18 (fun h16 h18=>?_) fun h16 h18=>?_
  ·refine sk ?_
   exact pf (decide (a0.f0 = 12)) h18
  refine rl [1,4,20] 1 [] [] ?_
  exact pf (decide (a0.f0 = 21)) h18
 refine rn [1,4,5] 1 [] [] ?_
 refine ci h7 (fun h1 h7=>?_) fun h1 h7=>?_
 ·refine sk ?_
  exact pf (decide (a0.f0 = 1)) h7
 refine rn [1,4,5] 1 [] [] ?_
 refine ci h7 (fun h2 h7=>?_) fun h2 h7=>?_
 ·refine sk ?_
  exact pf (decide (a0.f0 = 2)) h7
 refine rn [1,4,5] 1 [] [] ?_
 refine ci h7 (fun h3 h7=>?_) fun h3 h7=>?_
 ·refine sk ?_
  exact pf (decide (a0.f0 = 3)) h7
 refine rx [1,4,5] 1 [] [] ⟨70,[(1,o1 (.ref 0 0)),(4,oI a0.f0),(5,oB (decide (a0.f0 = 4)))],[vSNode a0],0,[]⟩ ?_
 refine ci h7 (fun h4 h7=>?_) fun h4 h7=>?_
 ·refine sk ?_
  exact pf (decide (a0.f0 = 4)) h7
 refine rn [1,4,5] 1 [] [] ?_
 refine ci h7 (fun h5 h7=>?_) fun h5 h7=>?_
 ·refine sk ?_
  exact pf (decide (a0.f0 = 5)) h7
 refine rl [1,4,5] 1 [] [] ?_
 exact pf (decide (a0.f0 = 6)) h7
def impl_areGroups.e1 (k:Nat) (x28:Int) (z38:(List SNode)):Option Bool:=if (0:Int) < (z38.length:Int) then ((at? z38 0).bind fun x40=>some (decide (x40.f0 = x28))) else (some false)
def impl_areGroups.l2:Nat → Int → (List SNode) → Option (List SNode)
  | 0,_,_=>none
  | k + 1,x28,z38=>(impl_areGroups.e1 k x28 z38).bind fun y42=>if y42 = true then (if (1:Int) ≤ (z38.length:Int) then (impl_areGroups.l2 k x28 (List.drop (Int.toNat 1) z38)) else none) else (some z38)
def impl_areGroups.e3 (k:Nat) (a1:(List Int)) (z25:(List SNode)) (z26:Int):Option (List SNode):=(at? a1 z26).bind fun x28=>impl_areGroups.l2 k x28 z25
def impl_areGroups.l4:Nat → (List Int) → (List SNode) → Int → Option (List SNode)
  | 0,_,_,_=>none
  | k + 1,a1,z25,z26=>if z26 < (a1.length:Int) then ((impl_areGroups.e3 k a1 z25 z26).bind fun y48=>impl_areGroups.l4 k a1 y48 (w64 (z26 + 1))) else (some z25)
def impl_areGroups.e5 (k:Nat) (a0:(List SNode)) (a1:(List Int)):Option (List SNode):=impl_areGroups.l4 k a1 a0 0
def impl_areGroups.f (k:Nat) (a0:(List SNode)) (a1:(List Int)):Option Bool:=(impl_areGroups.e5 k a0 a1).bind fun y52=>some (decide ((y52.length:Int) = 0))
theorem impl_areGroups.fn {k:Nat} {a0:(List SNode)} {a1:(List Int)} {r:Bool} (H:impl_areGroups.f k a0 a1 = some r):Fn Tryz.prog 87 [o1 (.sl 5 (List.map eSNode a0)),o1 (.sl 1 (List.map eI a1))] [] (oB r) []:=by
 refine Fn.bd [4] Tryz.func87 ?_
 refine rn [0,1] 0 [] [] ?_
 refine jo H (fun y52=>⟨30,[(0,o1 (.sl 5 (List.map eSNode y52)))],[],0,[]⟩) (fun y52 H=>?_) fun v54 h53 H=>?_
 ·refine rn [4] 0 [] [hL 1 eSNode y52] ?_
  refine Tri.ret ?_
  obtain rfl:=si H;exact eR
 refine rn [0,7,8,9] 0 [] [hL 1 eI a1] ?_
 refine bl ?_
 refine lo ((List SNode) × Int) k (fun k x=>impl_areGroups.l4 k a1 x.1 x.2) (fun x=>⟨30,[(0,o1 (.sl 5 (List.map eSNode x.1))),(7,o1 (.sl 1 (List.map eI a1))),(8,oI (a1.length:Int)),(9,oI x.2)],[],0,[]⟩) (a0,0) h53 fun k x h53 IH51=>?_
 obtain ⟨z25,z26⟩:=x
 rw [impl_areGroups.l4.eq_2] at h53
 refine rn [0,7,8,9,10] 0 [] [] ?_
 refine sq ?_
 refine ci h53 (fun h27 h53=>?_) fun h27 h53=>?_
 ·refine sk ?_
  refine jo h53 (fun y48=>⟨30,[(0,o1 (.sl 5 (List.map eSNode y48))),(7,o1 (.sl 1 (List.map eI a1))),(8,oI (a1.length:Int)),(9,oI z26)],[],0,[]⟩) (fun y48 h53=>?_) fun v50 h49 h53=>?_
  ·refine rl [0,7,8,9] 0 [] [] ?_
   exact lb IH51 (y48,w64 (z26 + 1)) h53
  refine bl ?_
  obtain ⟨x28,h29,h49⟩:=bs h49
  refine rn [0,6,7,8,9] 0 [] [hE 0 eI h29] ?_
  refine bl ?_
  refine lo (List SNode) k (fun k x=>impl_areGroups.l2 k x28 x) (fun x=>⟨30,[(0,o1 (.sl 5 (List.map eSNode x))),(6,oI x28),(7,o1 (.sl 1 (List.map eI a1))),(8,oI (a1.length:Int)),(9,oI z26)],[],0,[]⟩) z25 h49 fun k z38 h49 IH47=>?_
  rw [impl_areGroups.l2.eq_2] at h49
  refine sq ?_
  refine jo h49 (fun y42=>⟨30,[(0,o1 (.sl 5 (List.map eSNode z38))),(6,oI x28),(7,o1 (.sl 1 (List.map eI a1))),(8,oI (a1.length:Int)),(9,oI z26),(23,oB y42)],[],0,[]⟩) (fun y42 h49=>?_) fun v44 h43 h49=>?_
  ·refine cb h49 (fun h45 h49=>?_) fun h45 h49=>?_
   ·refine sk ?_
    refine bl ?_
    obtain ⟨h46,h49⟩:=nd h49
    refine rl [0,6,7,8,9] 0 [] [p3 (show (0:Int) ≤ 1 by decide) (lenle (f:=eSNode) (l:=z38) h46) (Int.le_refl ((List.map eSNode z38).length:Int)),q1 1 (.ov [.sl 5 (List.map eSNode (List.drop (Int.toNat 1) z38))]) (ovcutE (s:=5) (l:=z38) (f:=eSNode) (show (0:Int) ≤ 1 by decide))] ?_
    exact lb IH47 (List.drop (Int.toNat 1) z38) h49
   refine fx [0,7,8,9] 0 [] ?_
   refine xi ?_
   exact pf z38 h49
  rcases ite_some h43 with ⟨h39,h43⟩ | ⟨h39,h43⟩
  ·obtain ⟨x40,h41,h43⟩:=bs h43
   refine rl [0,6,7,8,9,23] 0 [] [hL 1 eSNode z38,hB 2 (decide_eq_true h39),hEv 5 eSNode_v h41] ?_
   exact pf (decide (x40.f0 = x28)) h43
  refine rl [0,6,7,8,9,23] 0 [] [hL 1 eSNode z38,hB 2 (decide_eq_false h39)] ?_
  exact pf false h43
 refine fx [0] 0 [] ?_
 refine xi ?_
 exact pf z25 h53
def impl_countOf.e1 (k:Nat) (a0:(List SNode)) (a1:Int) (z8:Int) (z9:Int):Option Int:=(at? a0 z9).bind fun x11=>if x11.f0 = a1 then (some (w64 (z8 + 1))) else (some z8)
def impl_countOf.l2:Nat → (List SNode) → Int → Int → Int → Option Int
  | 0,_,_,_,_=>none
  | k + 1,a0,a1,z8,z9=>if z9 < (a0.length:Int) then ((impl_countOf.e1 k a0 a1 z8 z9).bind fun y14=>impl_countOf.l2 k a0 a1 y14 (w64 (z9 + 1))) else (some z8)
def impl_countOf.e3 (k:Nat) (a0:(List SNode)) (a1:Int):Option Int:=impl_countOf.l2 k a0 a1 0 0
def impl_countOf.f (k:Nat) (a0:(List SNode)) (a1:Int):Option Int:=(impl_countOf.e3 k a0 a1).bind fun y18=>some y18
theorem impl_countOf.fn {k:Nat} {a0:(List SNode)} {a1:Int} {r:Int} (H:impl_countOf.f k a0 a1 = some r):Fn Tryz.prog 88 [o1 (.sl 5 (List.map eSNode a0)),oI a1] [] (oI r) []:=by
 refine Fn.bd [4] Tryz.func88 ?_
 refine rn [0,1] 0 [] [] ?_
 refine rn [0,1,5] 0 [] [] ?_
 refine jo H (fun y18=>⟨22,[(5,oI y18)],[],0,[]⟩) (fun y18 H=>?_) fun v20 h19 H=>?_
 ·refine rn [4] 0 [] [] ?_
  refine Tri.ret ?_
  obtain rfl:=si H;exact eR
 refine rn [1,5,8,9,10] 0 [] [hL 1 eSNode a0] ?_
 refine bl ?_
 refine lo (Int × Int) k (fun k x=>impl_countOf.l2 k a0 a1 x.1 x.2) (fun x=>⟨22,[(1,oI a1),(5,oI x.1),(8,o1 (.sl 5 (List.map eSNode a0))),(9,oI (a0.length:Int)),(10,oI x.2)],[],0,[]⟩) (0,0) h19 fun k x h19 IH17=>?_
 obtain ⟨z8,z9⟩:=x
 rw [impl_countOf.l2.eq_2] at h19
 refine rn [1,5,8,9,10,11] 0 [] [] ?_
 refine sq ?_
 refine ci h19 (fun h10 h19=>?_) fun h10 h19=>?_
 ·refine sk ?_
  refine jo h19 (fun y14=>⟨22,[(1,oI a1),(5,oI y14),(8,o1 (.sl 5 (List.map eSNode a0))),(9,oI (a0.length:Int)),(10,oI z9)],[],0,[]⟩) (fun y14 h19=>?_) fun v16 h15 h19=>?_
  ·refine rl [1,5,8,9,10] 0 [] [] ?_
   exact lb IH17 (y14,w64 (z9 + 1)) h19
  refine bl ?_
  obtain ⟨x11,h12,h15⟩:=bs h15
  refine rn [1,5,7,8,9,10] 1 [] [hEv 0 eSNode_v h12] ?_
  refine rn [1,5,8,9,10,17] 0 [] [] ?_
  refine ci h15 (fun h13 h15=>?_) fun h13 h15=>?_
  ·refine rl [1,5,8,9,10] 0 [] [] ?_
   exact pf (w64 (z8 + 1)) h15
  refine fx [1,5,8,9,10] 0 [] ?_
  refine sk ?_
  exact pf z8 h15
 refine fx [5] 0 [] ?_
 refine xi ?_
 exact pf z8 h19
def impl_isExpression.e1 (k:Nat) (a0:SNode):Option Bool:=(impl_within.f k a0.f0 18 27).bind fun r1=>if r1 = true then (some true) else (some (decide (a0.f0 = 12)))
def impl_isExpression.f (k:Nat) (a0:SNode):Option Bool:=(impl_isExpression.e1 k a0).bind fun y4=>some y4
theorem impl_isExpression.fn {k:Nat} {a0:SNode} {r:Bool} (H:impl_isExpression.f k a0 = some r):Fn Tryz.prog 90 [ag (vSNode a0)] [] (oB r) []:=by
 refine Fn.bd [2] Tryz.func90 ?_
 refine rn [1] 1 [] [] ?_
 refine jo H (fun y4=>⟨11,[(2,oB y4)],[],0,[]⟩) (fun y4 H=>?_) fun v6 h5 H=>?_
 ·refine Tri.ret ?_
  obtain rfl:=si H;exact eR
 obtain ⟨r1,h2,h5⟩:=bs h5
 rcases iteb_some h5 with ⟨h3,h5⟩ | ⟨h3,h5⟩
 ·refine rl [2] 0 [] [hC 2 (impl_within.fn h2),hB 2 h3] ?_
  exact pf true h5
 refine rl [2] 0 [] [hC 2 (impl_within.fn h2),hB 2 h3] ?_
 exact pf (decide (a0.f0 = 12)) h5
def impl_areKids_1.l1:Nat → (List SNode) → Int → Option (Bool ⊕ Unit)
  | 0,_,_=>none
  | k + 1,a0,z9=>if z9 < (a0.length:Int) then ((at? a0 z9).bind fun x11=>if z9 = 0 then ((impl_isExpression.f k x11).bind fun r14=>if r14 = true then (impl_areKids_1.l1 k a0 (w64 (z9 + 1))) else (some (.inl false))) else (none)) else (some (.inr ()))
def impl_areKids_1.e2 (k:Nat) (a0:(List SNode)):Option (Bool ⊕ Unit):=impl_areKids_1.l1 k a0 0
def impl_areKids_1.f (k:Nat) (a0:(List SNode)):Option Bool:=if (a0.length:Int) = 1 then ((impl_areKids_1.e2 k a0).bind fun v=>match v with | .inl r=>some r | .inr _=>some true) else (some false)
theorem impl_areKids_1.fn {k:Nat} {a0:(List SNode)} {r:Bool} (H:impl_areKids_1.f k a0 = some r):Fn Tryz.prog 89 [o1 (.sl 5 (List.map eSNode a0)),o1 (.sl 1 [[.sc (.func (.func 90) #[] #[])]])] [] (oB r) []:=by
 refine Fn.bd [4] Tryz.func89 ?_
 refine rn [0,1] 0 [] [] ?_
 refine sq ?_
 refine rn [0,1,11] 0 [] [hL 1 eSNode a0] ?_
 refine cn H (fun h1 H=>?_) fun h1 H=>?_
 ·refine sk ?_
  refine jr H (fun _=>⟨27,[],[],0,[]⟩) (fun _ H=>?_) fun v19 h18 H=>?_
  ·refine rn [4] 0 [] [] ?_
   refine Tri.ret ?_
   obtain rfl:=si H;exact eR
  refine rn [1,12,13,14] 0 [] [hL 1 eSNode a0] ?_
  refine bl ?_
  refine lo Int k (fun k x=>impl_areKids_1.l1 k a0 x) (fun x=>⟨27,[(1,o1 (.sl 1 [[.sc (.func (.func 90) #[] #[])]])),(12,o1 (.sl 5 (List.map eSNode a0))),(13,oI (a0.length:Int)),(14,oI x)],[],0,[]⟩) 0 h18 fun k z9 h18 IH17=>?_
  rw [impl_areKids_1.l1.eq_2] at h18
  refine rn [1,12,13,14,15] 0 [] [] ?_
  refine sq ?_
  refine ci h18 (fun h10 h18=>?_) fun h10 h18=>?_
  ·refine sk ?_
   refine sq ?_
   refine bl ?_
   obtain ⟨x11,h12,h18⟩:=bs h18
   refine rn [1,5,6,12,13,14] 1 [] [hEv 1 eSNode_v h12] ?_
   rcases ite_some h18 with ⟨h13,h18⟩ | ⟨h13,h18⟩
   ·obtain ⟨r14,h15,h18⟩:=bs h18
    refine dn hmix 5 [[],[],[0,1],[0,1,2],[],[0,1,2,3,4],[0,1,2,3,4,5]] [1,12,13,14,25] 0 [] [q2 2 (.el [.sc (.func (.func 90) #[] #[])]) (ix0 (m:=0) h13) (ix1 (m:=0) (xs:=[[.sc (.func (.func 90) #[] #[])]]) h13),hC 5 (impl_isExpression.fn h15)] ?_
    refine cm h18 (fun h16 h18=>?_) fun h16 h18=>?_
    ·refine sk ?_
     refine rl [1,12,13,14] 0 [] [] ?_
     exact lb IH17 (w64 (z9 + 1)) h18
    refine rn [4] 0 [] [] ?_
    refine Tri.ret ?_
    obtain rfl:=si h18;obtain rfl:=si H;exact eR
   cases h18
  refine fx [] 0 [] ?_
  refine xi ?_
  exact pe () h18
 refine rn [4] 0 [] [] ?_
 refine Tri.ret ?_
 obtain rfl:=si H;exact eR
def impl_isVarType.e1 (k:Nat) (a0:SNode):Option Bool:=if a0.f0 = 8 then (some true) else (some (decide (a0.f0 = 9)))
def impl_isVarType.f (k:Nat) (a0:SNode):Option Bool:=(impl_isVarType.e1 k a0).bind fun y2=>some y2
theorem impl_isVarType.fn {k:Nat} {a0:SNode} {r:Bool} (H:impl_isVarType.f k a0 = some r):Fn Tryz.prog 91 [ag (vSNode a0)] [] (oB r) []:=by
 refine Fn.bd [2] Tryz.func91 ?_
 refine rn [1] 1 [] [] ?_
 refine jo H (fun y2=>⟨11,[(2,oB y2)],[],0,[]⟩) (fun y2 H=>?_) fun v4 h3 H=>?_
 ·refine Tri.ret ?_
  obtain rfl:=si H;exact eR
 rcases ite_some h3 with ⟨h1,h3⟩ | ⟨h1,h3⟩
 ·refine rl [2] 0 [] [hB 2 (decide_eq_true h1)] ?_
  exact pf true h3
 refine rl [2] 0 [] [hB 2 (decide_eq_false h1)] ?_
 exact pf (decide (a0.f0 = 9)) h3
def impl_areKids_2.l1:Nat → (List SNode) → Int → Option (Bool ⊕ Unit)
  | 0,_,_=>none
  | k + 1,a0,z9=>if z9 < (a0.length:Int) then ((at? a0 z9).bind fun x11=>if z9 = 0 then ((impl_isVarType.f k x11).bind fun r14=>if r14 = true then (impl_areKids_2.l1 k a0 (w64 (z9 + 1))) else (some (.inl false))) else (none)) else (some (.inr ()))
def impl_areKids_2.e2 (k:Nat) (a0:(List SNode)):Option (Bool ⊕ Unit):=impl_areKids_2.l1 k a0 0
def impl_areKids_2.f (k:Nat) (a0:(List SNode)):Option Bool:=if (a0.length:Int) = 1 then ((impl_areKids_2.e2 k a0).bind fun v=>match v with | .inl r=>some r | .inr _=>some true) else (some false)
theorem impl_areKids_2.fn {k:Nat} {a0:(List SNode)} {r:Bool} (H:impl_areKids_2.f k a0 = some r):Fn Tryz.prog 89 [o1 (.sl 5 (List.map eSNode a0)),o1 (.sl 1 [[.sc (.func (.func 91) #[] #[])]])] [] (oB r) []:=by
 refine Fn.bd [4] Tryz.func89 ?_
 refine rn [0,1] 0 [] [] ?_
 refine sq ?_
 refine rn [0,1,11] 0 [] [hL 1 eSNode a0] ?_
 refine cn H (fun h1 H=>?_) fun h1 H=>?_
 ·refine sk ?_
  refine jr H (fun _=>⟨27,[],[],0,[]⟩) (fun _ H=>?_) fun v19 h18 H=>?_
  ·refine rn [4] 0 [] [] ?_
   refine Tri.ret ?_
   obtain rfl:=si H;exact eR
  refine rn [1,12,13,14] 0 [] [hL 1 eSNode a0] ?_
  refine bl ?_
  refine lo Int k (fun k x=>impl_areKids_2.l1 k a0 x) (fun x=>⟨27,[(1,o1 (.sl 1 [[.sc (.func (.func 91) #[] #[])]])),(12,o1 (.sl 5 (List.map eSNode a0))),(13,oI (a0.length:Int)),(14,oI x)],[],0,[]⟩) 0 h18 fun k z9 h18 IH17=>?_
  rw [impl_areKids_2.l1.eq_2] at h18
  refine rn [1,12,13,14,15] 0 [] [] ?_
  refine sq ?_
  refine ci h18 (fun h10 h18=>?_) fun h10 h18=>?_
  ·refine sk ?_
   refine sq ?_
   refine bl ?_
   obtain ⟨x11,h12,h18⟩:=bs h18
   refine rn [1,5,6,12,13,14] 1 [] [hEv 1 eSNode_v h12] ?_
   rcases ite_some h18 with ⟨h13,h18⟩ | ⟨h13,h18⟩
   ·obtain ⟨r14,h15,h18⟩:=bs h18
    refine dn hmix 5 [[],[],[0,1],[0,1,2],[],[0,1,2,3,4],[0,1,2,3,4,5]] [1,12,13,14,25] 0 [] [q2 2 (.el [.sc (.func (.func 91) #[] #[])]) (ix0 (m:=0) h13) (ix1 (m:=0) (xs:=[[.sc (.func (.func 91) #[] #[])]]) h13),hC 5 (impl_isVarType.fn h15)] ?_
    refine cm h18 (fun h16 h18=>?_) fun h16 h18=>?_
    ·refine sk ?_
     refine rl [1,12,13,14] 0 [] [] ?_
     exact lb IH17 (w64 (z9 + 1)) h18
    refine rn [4] 0 [] [] ?_
    refine Tri.ret ?_
    obtain rfl:=si h18;obtain rfl:=si H;exact eR
   cases h18
  refine fx [] 0 [] ?_
  refine xi ?_
  exact pe () h18
 refine rn [4] 0 [] [] ?_
 refine Tri.ret ?_
 obtain rfl:=si H;exact eR
def impl_isOf.f (k:Nat) (a0:Int):Option Int:=some a0
theorem impl_isOf.fn {k:Nat} {a0:Int} {r:Int} (H:impl_isOf.f k a0 = some r):Fn Tryz.prog 92 [oI a0] [] (o1 (.fn 116 [.cel [cI r] 0])) []:=by
 refine Fn.bd [2] Tryz.func92 ?_
 refine rn [1] 1 [] [] ?_
 refine rn [2] 1 [] [] ?_
 refine fb ?_
 refine Tri.ret ?_
 obtain rfl:=si H;exact eR
def impl_isOf_1_1.f (k:Nat) (a0:SNode) (a1_1:Int):Option Bool:=some (decide (a0.f0 = a1_1))
theorem impl_isOf_1_1.fn {k:Nat} {a0:SNode} {a1_1:Int} {r:Bool} (H:impl_isOf_1_1.f k a0 a1_1 = some r):Fn Tryz.prog 116 [ag (vSNode a0),o1 (.cel [cI a1_1] 0)] [] (oB r) []:=by
 refine Fn.bd [3] Tryz.func116 ?_
 refine rn [1,2] 1 [] [] ?_
 refine rn [3] 0 [] [] ?_
 refine Tri.ret ?_
 obtain rfl:=si H;exact eR
def impl_areKids_3.l1:Nat → (List SNode) → Int → Int → Option (Bool ⊕ Unit)
  | 0,_,_,_=>none
  | k + 1,a0,a1_1,z9=>if z9 < (a0.length:Int) then ((at? a0 z9).bind fun x11=>if z9 = 0 then ((impl_isOf_1_1.f k x11 a1_1).bind fun r14=>if r14 = true then (impl_areKids_3.l1 k a0 a1_1 (w64 (z9 + 1))) else (some (.inl false))) else (none)) else (some (.inr ()))
def impl_areKids_3.e2 (k:Nat) (a0:(List SNode)) (a1_1:Int):Option (Bool ⊕ Unit):=impl_areKids_3.l1 k a0 a1_1 0
def impl_areKids_3.f (k:Nat) (a0:(List SNode)) (a1_1:Int):Option Bool:=if (a0.length:Int) = 1 then ((impl_areKids_3.e2 k a0 a1_1).bind fun v=>match v with | .inl r=>some r | .inr _=>some true) else (some false)
theorem impl_areKids_3.fn {k:Nat} {a0:(List SNode)} {a1_1:Int} {r:Bool} (H:impl_areKids_3.f k a0 a1_1 = some r):Fn Tryz.prog 89 [o1 (.sl 5 (List.map eSNode a0)),o1 (.sl 1 [[.fn 116 [.cel [cI a1_1] 0]]])] [] (oB r) []:=by
 refine Fn.bd [4] Tryz.func89 ?_
 refine rn [0,1] 0 [] [] ?_
 refine sq ?_
 refine rn [0,1,11] 0 [] [hL 1 eSNode a0] ?_
 refine cn H (fun h1 H=>?_) fun h1 H=>?_
 ·refine sk ?_
  refine jr H (fun _=>⟨27,[],[],0,[]⟩) (fun _ H=>?_) fun v19 h18 H=>?_
  ·refine rn [4] 0 [] [] ?_
   refine Tri.ret ?_
   obtain rfl:=si H;exact eR
  refine rn [1,12,13,14] 0 [] [hL 1 eSNode a0] ?_
  refine bl ?_
  refine lo Int k (fun k x=>impl_areKids_3.l1 k a0 a1_1 x) (fun x=>⟨27,[(1,o1 (.sl 1 [[.fn 116 [.cel [cI a1_1] 0]]])),(12,o1 (.sl 5 (List.map eSNode a0))),(13,oI (a0.length:Int)),(14,oI x)],[],0,[]⟩) 0 h18 fun k z9 h18 IH17=>?_
  rw [impl_areKids_3.l1.eq_2] at h18
  refine rn [1,12,13,14,15] 0 [] [] ?_
  refine sq ?_
  refine ci h18 (fun h10 h18=>?_) fun h10 h18=>?_
  ·refine sk ?_
   refine sq ?_
   refine bl ?_
   obtain ⟨x11,h12,h18⟩:=bs h18
   refine rn [1,5,6,12,13,14] 1 [] [hEv 1 eSNode_v h12] ?_
   rcases ite_some h18 with ⟨h13,h18⟩ | ⟨h13,h18⟩
   ·obtain ⟨r14,h15,h18⟩:=bs h18
    refine dn hmix 5 [[],[],[0,1],[0,1,2],[],[0,1,2,3,4],[0,1,2,3,4,5]] [1,12,13,14,25] 0 [] [q2 2 (.el [.fn 116 [.cel [cI a1_1] 0]]) (ix0 (m:=0) h13) (ix1 (m:=0) (xs:=[[.fn 116 [.cel [cI a1_1] 0]]]) h13),hC 5 (impl_isOf_1_1.fn h15)] ?_
    refine cm h18 (fun h16 h18=>?_) fun h16 h18=>?_
    ·refine sk ?_
     refine rl [1,12,13,14] 0 [] [] ?_
     exact lb IH17 (w64 (z9 + 1)) h18
    refine rn [4] 0 [] [] ?_
    refine Tri.ret ?_
    obtain rfl:=si h18;obtain rfl:=si H;exact eR
   cases h18
  refine fx [] 0 [] ?_
  refine xi ?_
  exact pe () h18
 refine rn [4] 0 [] [] ?_
 refine Tri.ret ?_
 obtain rfl:=si H;exact eR
def impl_isStatement.f (k:Nat) (a0:SNode):Option Bool:=(impl_within.f k a0.f0 11 17).bind fun r1=>some r1
theorem impl_isStatement.fn {k:Nat} {a0:SNode} {r:Bool} (H:impl_isStatement.f k a0 = some r):Fn Tryz.prog 93 [ag (vSNode a0)] [] (oB r) []:=by
 refine Fn.bd [2] Tryz.func93 ?_
 refine rn [1] 1 [] [] ?_
 obtain ⟨r1,h2,H⟩:=bs H
 refine rn [2] 0 [] [hC 2 (impl_within.fn h2)] ?_
 refine Tri.ret ?_
 obtain rfl:=si H;exact eR
def impl_areAll_impl_Node__1_1.f (k:Nat) (a0:SNode):Option Bool:=(impl_isStatement.f k a0).bind fun r1=>some (!r1)
theorem impl_areAll_impl_Node__1_1.fn {k:Nat} {a0:SNode} {r:Bool} (H:impl_areAll_impl_Node__1_1.f k a0 = some r):Fn Tryz.prog 96 [ag (vSNode a0),o1 (.cel ([.sc (.func (.func 93) #[] #[])]) 0)] [] (oB r) []:=by
 refine Fn.bd [3] Tryz.func96 ?_
 refine rn [1,2] 1 [] [] ?_
 obtain ⟨r1,h2,H⟩:=bs H
 refine rn [3] 0 [] [hC 2 (impl_isStatement.fn h2)] ?_
 refine Tri.ret ?_
 obtain rfl:=si H;exact eR
def slices_IndexFunc___impl_Node_impl_Node_1.l1:Nat → (List SNode) → Int → Option (Int ⊕ Unit)
  | 0,_,_=>none
  | k + 1,a0,z7=>if z7 < (a0.length:Int) then ((at? a0 z7).bind fun x9=>(impl_areAll_impl_Node__1_1.f k x9).bind fun r11=>if r11 = true then (some (.inl z7)) else (slices_IndexFunc___impl_Node_impl_Node_1.l1 k a0 (w64 (z7 + 1)))) else (some (.inr ()))
def slices_IndexFunc___impl_Node_impl_Node_1.e2 (k:Nat) (a0:(List SNode)):Option (Int ⊕ Unit):=slices_IndexFunc___impl_Node_impl_Node_1.l1 k a0 0
def slices_IndexFunc___impl_Node_impl_Node_1.f (k:Nat) (a0:(List SNode)):Option Int:=(slices_IndexFunc___impl_Node_impl_Node_1.e2 k a0).bind fun v=>match v with | .inl r=>some r | .inr _=>some (-1)
theorem slices_IndexFunc___impl_Node_impl_Node_1.fn {k:Nat} {a0:(List SNode)} {r:Int} (H:slices_IndexFunc___impl_Node_impl_Node_1.f k a0 = some r):Fn Tryz.prog 117 [o1 (.sl 5 (List.map eSNode a0)),o1 (.fn 96 [.cel ([.sc (.func (.func 93) #[] #[])]) 0])] [] (oI r) []:=by
 refine Fn.bd [4] Tryz.func117 ?_
 refine rn [0,1] 0 [] [] ?_
 refine jr H (fun _=>⟨19,[],[],0,[]⟩) (fun _ H=>?_) fun v16 h15 H=>?_
 ·refine rn [4] 0 [] [] ?_
  refine Tri.ret ?_
  obtain rfl:=si H;exact eR
 refine rn [0,1,7,8] 0 [] [hL 1 eSNode a0] ?_
 refine bl ?_
 refine lo Int k (fun k x=>slices_IndexFunc___impl_Node_impl_Node_1.l1 k a0 x) (fun x=>⟨19,[(0,o1 (.sl 5 (List.map eSNode a0))),(1,o1 (.fn 96 [.cel ([.sc (.func (.func 93) #[] #[])]) 0])),(7,oI (a0.length:Int)),(8,oI x)],[],0,[]⟩) 0 h15 fun k z7 h15 IH14=>?_
 rw [slices_IndexFunc___impl_Node_impl_Node_1.l1.eq_2] at h15
 refine rn [0,1,7,8,9] 0 [] [] ?_
 refine sq ?_
 refine ci h15 (fun h8 h15=>?_) fun h8 h15=>?_
 ·refine sk ?_
  refine sq ?_
  refine bl ?_
  refine rn [0,1,5,7,8] 0 [] [] ?_
  obtain ⟨x9,h10,h15⟩:=bs h15
  obtain ⟨r11,h12,h15⟩:=bs h15
  refine rn [0,1,5,7,8,16] 0 [] [hEv 3 eSNode_v h10,hC 5 (impl_areAll_impl_Node__1_1.fn h12)] ?_
  refine cb h15 (fun h13 h15=>?_) fun h13 h15=>?_
  ·refine rn [4] 0 [] [] ?_
   refine Tri.ret ?_
   obtain rfl:=si h15;obtain rfl:=si H;exact eR
  refine sk ?_
  refine rl [0,1,7,8] 0 [] [] ?_
  exact lb IH14 (w64 (z7 + 1)) h15
 refine fx [] 0 [] ?_
 refine xi ?_
 exact pe () h15
def slices_ContainsFunc___impl_Node_impl_Node_1.f (k:Nat) (a0:(List SNode)):Option Bool:=(slices_IndexFunc___impl_Node_impl_Node_1.f k a0).bind fun r1=>some (decide ((0:Int) ≤ r1))
theorem slices_ContainsFunc___impl_Node_impl_Node_1.fn {k:Nat} {a0:(List SNode)} {r:Bool} (H:slices_ContainsFunc___impl_Node_impl_Node_1.f k a0 = some r):Fn Tryz.prog 95 [o1 (.sl 5 (List.map eSNode a0)),o1 (.fn 96 [.cel ([.sc (.func (.func 93) #[] #[])]) 0])] [] (oB r) []:=by
 refine Fn.bd [4] Tryz.func95 ?_
 refine rn [0,1] 0 [] [] ?_
 obtain ⟨r1,h2,H⟩:=bs H
 refine rn [4] 0 [] [hC 2 (slices_IndexFunc___impl_Node_impl_Node_1.fn h2)] ?_
 refine Tri.ret ?_
 obtain rfl:=si H;exact eR
def impl_areAll_impl_Node_1.f (k:Nat) (a0:(List SNode)):Option Bool:=(slices_ContainsFunc___impl_Node_impl_Node_1.f k a0).bind fun r1=>some (!r1)
theorem impl_areAll_impl_Node_1.fn {k:Nat} {a0:(List SNode)} {r:Bool} (H:impl_areAll_impl_Node_1.f k a0 = some r):Fn Tryz.prog 57 [o1 (.sl 5 (List.map eSNode a0)),o1 (.sc (.func (.func 93) #[] #[]))] [] (oB r) []:=by
 refine Fn.bd [4] Tryz.func57 ?_
 refine rn [0,3] 1 [] [] ?_
 obtain ⟨r1,h2,H⟩:=bs H
 refine rn [4] 0 [] [hC 2 (slices_ContainsFunc___impl_Node_impl_Node_1.fn h2)] ?_
 refine Tri.ret ?_
 obtain rfl:=si H;exact eR
def impl_isDesignator.e1 (k:Nat) (a0:SNode):Option Bool:=if a0.f0 = 21 then (some true) else (some (decide (a0.f0 = 22)))
def impl_isDesignator.f (k:Nat) (a0:SNode):Option Bool:=(impl_isDesignator.e1 k a0).bind fun y2=>some y2
theorem impl_isDesignator.fn {k:Nat} {a0:SNode} {r:Bool} (H:impl_isDesignator.f k a0 = some r):Fn Tryz.prog 94 [ag (vSNode a0)] [] (oB r) []:=by
 refine Fn.bd [2] Tryz.func94 ?_
 refine rn [1] 1 [] [] ?_
 refine jo H (fun y2=>⟨11,[(2,oB y2)],[],0,[]⟩) (fun y2 H=>?_) fun v4 h3 H=>?_
 ·refine Tri.ret ?_
  obtain rfl:=si H;exact eR
 rcases ite_some h3 with ⟨h1,h3⟩ | ⟨h1,h3⟩
 ·refine rl [2] 0 [] [hB 2 (decide_eq_true h1)] ?_
  exact pf true h3
 refine rl [2] 0 [] [hB 2 (decide_eq_false h1)] ?_
 exact pf (decide (a0.f0 = 22)) h3
def impl_areKids_4.e1 (k:Nat) (z15:Int) (x17:SNode):Option Bool:=if z15 = 0 then ((impl_isDesignator.f k x17).bind fun r20=>some (!r20)) else (if z15 = 1 then ((impl_isExpression.f k x17).bind fun r23=>some (!r23)) else (none))
def impl_areKids_4.l2:Nat → (List SNode) → Int → Option (Bool ⊕ Unit)
  | 0,_,_=>none
  | k + 1,a0,z15=>if z15 < (a0.length:Int) then ((at? a0 z15).bind fun x17=>(impl_areKids_4.e1 k z15 x17).bind fun y25=>if y25 = true then (some (.inl false)) else (impl_areKids_4.l2 k a0 (w64 (z15 + 1)))) else (some (.inr ()))
def impl_areKids_4.e3 (k:Nat) (a0:(List SNode)):Option (Bool ⊕ Unit):=impl_areKids_4.l2 k a0 0
def impl_areKids_4.f (k:Nat) (a0:(List SNode)):Option Bool:=if (a0.length:Int) = 2 then ((impl_areKids_4.e3 k a0).bind fun v=>match v with | .inl r=>some r | .inr _=>some true) else (some false)
theorem impl_areKids_4.fn {k:Nat} {a0:(List SNode)} {r:Bool} (H:impl_areKids_4.f k a0 = some r):Fn Tryz.prog 89 [o1 (.sl 5 (List.map eSNode a0)),o1 (.sl 1 [[.sc (.func (.func 94) #[] #[])],[.sc (.func (.func 90) #[] #[])]])] [] (oB r) []:=by
 refine Fn.bd [4] Tryz.func89 ?_
 refine rn [0,1] 0 [] [] ?_
 refine sq ?_
 refine rn [0,1,11] 0 [] [hL 1 eSNode a0] ?_
 refine cn H (fun h1 H=>?_) fun h1 H=>?_
 ·refine sk ?_
  refine jr H (fun _=>⟨27,[],[],0,[]⟩) (fun _ H=>?_) fun v31 h30 H=>?_
  ·refine rn [4] 0 [] [] ?_
   refine Tri.ret ?_
   obtain rfl:=si H;exact eR
  refine rn [1,12,13,14] 0 [] [hL 1 eSNode a0] ?_
  refine bl ?_
  refine lo Int k (fun k x=>impl_areKids_4.l2 k a0 x) (fun x=>⟨27,[(1,o1 (.sl 1 [[.sc (.func (.func 94) #[] #[])],[.sc (.func (.func 90) #[] #[])]])),(12,o1 (.sl 5 (List.map eSNode a0))),(13,oI (a0.length:Int)),(14,oI x)],[],0,[]⟩) 0 h30 fun k z15 h30 IH29=>?_
  rw [impl_areKids_4.l2.eq_2] at h30
  refine rn [1,12,13,14,15] 0 [] [] ?_
  refine sq ?_
  refine ci h30 (fun h16 h30=>?_) fun h16 h30=>?_
  ·refine sk ?_
   refine sq ?_
   refine bl ?_
   obtain ⟨x17,h18,h30⟩:=bs h30
   refine rn [1,5,6,12,13,14] 1 [] [hEv 1 eSNode_v h18] ?_
   refine jo h30 (fun y25=>⟨27,[(1,o1 (.sl 1 [[.sc (.func (.func 94) #[] #[])],[.sc (.func (.func 90) #[] #[])]])),(12,o1 (.sl 5 (List.map eSNode a0))),(13,oI (a0.length:Int)),(14,oI z15),(25,oB y25)],[],0,[]⟩) (fun y25 h30=>?_) fun v27 h26 h30=>?_
   ·refine cb h30 (fun h28 h30=>?_) fun h28 h30=>?_
    ·refine rn [4] 0 [] [] ?_
     refine Tri.ret ?_
     obtain rfl:=si h30;obtain rfl:=si H;exact eR
    refine sk ?_
    refine rl [1,12,13,14] 0 [] [] ?_
    exact lb IH29 (w64 (z15 + 1)) h30
   rcases ite_some h26 with ⟨h19,h26⟩ | ⟨h19,h26⟩
   ·obtain ⟨r20,h21,h26⟩:=bs h26
    refine dl hmix 5 [[],[],[0,1],[0,1,2],[],[0,1,2,3,4],[0,1,2,3,4,5]] [1,12,13,14,25] 0 [] [q2 2 (.el [.sc (.func (.func 94) #[] #[])]) (ix0 (m:=0) h19) (ix1 (m:=0) (xs:=[[.sc (.func (.func 94) #[] #[])],[.sc (.func (.func 90) #[] #[])]]) h19),hC 5 (impl_isDesignator.fn h21)] ?_
    exact pf (!r20) h26
   rcases ite_some h26 with ⟨h22,h26⟩ | ⟨h22,h26⟩
   ·obtain ⟨r23,h24,h26⟩:=bs h26
    refine dl hmix 5 [[],[],[0,1],[0,1,2],[],[0,1,2,3,4],[0,1,2,3,4,5]] [1,12,13,14,25] 0 [] [q2 2 (.el [.sc (.func (.func 90) #[] #[])]) (ix0 (m:=1) h22) (ix1 (m:=1) (xs:=[[.sc (.func (.func 94) #[] #[])],[.sc (.func (.func 90) #[] #[])]]) h22),hC 5 (impl_isExpression.fn h24)] ?_
    exact pf (!r23) h26
   cases h26
  refine fx [] 0 [] ?_
  refine xi ?_
  exact pe () h30
 refine rn [4] 0 [] [] ?_
 refine Tri.ret ?_
 obtain rfl:=si H;exact eR
def impl_areAll_impl_Node__1_2.f (k:Nat) (a0:SNode):Option Bool:=(impl_isExpression.f k a0).bind fun r1=>some (!r1)
theorem impl_areAll_impl_Node__1_2.fn {k:Nat} {a0:SNode} {r:Bool} (H:impl_areAll_impl_Node__1_2.f k a0 = some r):Fn Tryz.prog 96 [ag (vSNode a0),o1 (.cel ([.sc (.func (.func 90) #[] #[])]) 0)] [] (oB r) []:=by
 refine Fn.bd [3] Tryz.func96 ?_
 refine rn [1,2] 1 [] [] ?_
 obtain ⟨r1,h2,H⟩:=bs H
 refine rn [3] 0 [] [hC 2 (impl_isExpression.fn h2)] ?_
 refine Tri.ret ?_
 obtain rfl:=si H;exact eR
def slices_IndexFunc___impl_Node_impl_Node_2.l1:Nat → (List SNode) → Int → Option (Int ⊕ Unit)
  | 0,_,_=>none
  | k + 1,a0,z7=>if z7 < (a0.length:Int) then ((at? a0 z7).bind fun x9=>(impl_areAll_impl_Node__1_2.f k x9).bind fun r11=>if r11 = true then (some (.inl z7)) else (slices_IndexFunc___impl_Node_impl_Node_2.l1 k a0 (w64 (z7 + 1)))) else (some (.inr ()))
def slices_IndexFunc___impl_Node_impl_Node_2.e2 (k:Nat) (a0:(List SNode)):Option (Int ⊕ Unit):=slices_IndexFunc___impl_Node_impl_Node_2.l1 k a0 0
def slices_IndexFunc___impl_Node_impl_Node_2.f (k:Nat) (a0:(List SNode)):Option Int:=(slices_IndexFunc___impl_Node_impl_Node_2.e2 k a0).bind fun v=>match v with | .inl r=>some r | .inr _=>some (-1)
theorem slices_IndexFunc___impl_Node_impl_Node_2.fn {k:Nat} {a0:(List SNode)} {r:Int} (H:slices_IndexFunc___impl_Node_impl_Node_2.f k a0 = some r):Fn Tryz.prog 117 [o1 (.sl 5 (List.map eSNode a0)),o1 (.fn 96 [.cel ([.sc (.func (.func 90) #[] #[])]) 0])] [] (oI r) []:=by
 refine Fn.bd [4] Tryz.func117 ?_
 refine rn [0,1] 0 [] [] ?_
 refine jr H (fun _=>⟨19,[],[],0,[]⟩) (fun _ H=>?_) fun v16 h15 H=>?_
 ·refine rn [4] 0 [] [] ?_
  refine Tri.ret ?_
  obtain rfl:=si H;exact eR
 refine rn [0,1,7,8] 0 [] [hL 1 eSNode a0] ?_
 refine bl ?_
 refine lo Int k (fun k x=>slices_IndexFunc___impl_Node_impl_Node_2.l1 k a0 x) (fun x=>⟨19,[(0,o1 (.sl 5 (List.map eSNode a0))),(1,o1 (.fn 96 [.cel ([.sc (.func (.func 90) #[] #[])]) 0])),(7,oI (a0.length:Int)),(8,oI x)],[],0,[]⟩) 0 h15 fun k z7 h15 IH14=>?_
 rw [slices_IndexFunc___impl_Node_impl_Node_2.l1.eq_2] at h15
 refine rn [0,1,7,8,9] 0 [] [] ?_
 refine sq ?_
 refine ci h15 (fun h8 h15=>?_) fun h8 h15=>?_
 ·refine sk ?_
  refine sq ?_
  refine bl ?_
  refine rn [0,1,5,7,8] 0 [] [] ?_
  obtain ⟨x9,h10,h15⟩:=bs h15
  obtain ⟨r11,h12,h15⟩:=bs h15
  refine rn [0,1,5,7,8,16] 0 [] [hEv 3 eSNode_v h10,hC 5 (impl_areAll_impl_Node__1_2.fn h12)] ?_
  refine cb h15 (fun h13 h15=>?_) fun h13 h15=>?_
  ·refine rn [4] 0 [] [] ?_
   refine Tri.ret ?_
   obtain rfl:=si h15;obtain rfl:=si H;exact eR
  refine sk ?_
  refine rl [0,1,7,8] 0 [] [] ?_
  exact lb IH14 (w64 (z7 + 1)) h15
 refine fx [] 0 [] ?_
 refine xi ?_
 exact pe () h15
def slices_ContainsFunc___impl_Node_impl_Node_2.f (k:Nat) (a0:(List SNode)):Option Bool:=(slices_IndexFunc___impl_Node_impl_Node_2.f k a0).bind fun r1=>some (decide ((0:Int) ≤ r1))
theorem slices_ContainsFunc___impl_Node_impl_Node_2.fn {k:Nat} {a0:(List SNode)} {r:Bool} (H:slices_ContainsFunc___impl_Node_impl_Node_2.f k a0 = some r):Fn Tryz.prog 95 [o1 (.sl 5 (List.map eSNode a0)),o1 (.fn 96 [.cel ([.sc (.func (.func 90) #[] #[])]) 0])] [] (oB r) []:=by
 refine Fn.bd [4] Tryz.func95 ?_
 refine rn [0,1] 0 [] [] ?_
 obtain ⟨r1,h2,H⟩:=bs H
 refine rn [4] 0 [] [hC 2 (slices_IndexFunc___impl_Node_impl_Node_2.fn h2)] ?_
 refine Tri.ret ?_
 obtain rfl:=si H;exact eR
def impl_areAll_impl_Node_2.f (k:Nat) (a0:(List SNode)):Option Bool:=(slices_ContainsFunc___impl_Node_impl_Node_2.f k a0).bind fun r1=>some (!r1)
theorem impl_areAll_impl_Node_2.fn {k:Nat} {a0:(List SNode)} {r:Bool} (H:impl_areAll_impl_Node_2.f k a0 = some r):Fn Tryz.prog 57 [o1 (.sl 5 (List.map eSNode a0)),o1 (.sc (.func (.func 90) #[] #[]))] [] (oB r) []:=by
 refine Fn.bd [4] Tryz.func57 ?_
 refine rn [0,3] 1 [] [] ?_
 obtain ⟨r1,h2,H⟩:=bs H
 refine rn [4] 0 [] [hC 2 (slices_ContainsFunc___impl_Node_impl_Node_2.fn h2)] ?_
 refine Tri.ret ?_
 obtain rfl:=si H;exact eR
def impl_areKids_5.e1 (k:Nat) (a1_1:Int) (z15:Int) (x17:SNode):Option Bool:=if z15 = 0 then ((impl_isExpression.f k x17).bind fun r20=>some (!r20)) else (if z15 = 1 then ((impl_isOf_1_1.f k x17 a1_1).bind fun r23=>some (!r23)) else (none))
def impl_areKids_5.l2:Nat → (List SNode) → Int → Int → Option (Bool ⊕ Unit)
  | 0,_,_,_=>none
  | k + 1,a0,a1_1,z15=>if z15 < (a0.length:Int) then ((at? a0 z15).bind fun x17=>(impl_areKids_5.e1 k a1_1 z15 x17).bind fun y25=>if y25 = true then (some (.inl false)) else (impl_areKids_5.l2 k a0 a1_1 (w64 (z15 + 1)))) else (some (.inr ()))
def impl_areKids_5.e3 (k:Nat) (a0:(List SNode)) (a1_1:Int):Option (Bool ⊕ Unit):=impl_areKids_5.l2 k a0 a1_1 0
def impl_areKids_5.f (k:Nat) (a0:(List SNode)) (a1_1:Int):Option Bool:=if (a0.length:Int) = 2 then ((impl_areKids_5.e3 k a0 a1_1).bind fun v=>match v with | .inl r=>some r | .inr _=>some true) else (some false)
theorem impl_areKids_5.fn {k:Nat} {a0:(List SNode)} {a1_1:Int} {r:Bool} (H:impl_areKids_5.f k a0 a1_1 = some r):Fn Tryz.prog 89 [o1 (.sl 5 (List.map eSNode a0)),o1 (.sl 1 [[.sc (.func (.func 90) #[] #[])],[.fn 116 [.cel [cI a1_1] 0]]])] [] (oB r) []:=by
 refine Fn.bd [4] Tryz.func89 ?_
 refine rn [0,1] 0 [] [] ?_
 refine sq ?_
 refine rn [0,1,11] 0 [] [hL 1 eSNode a0] ?_
 refine cn H (fun h1 H=>?_) fun h1 H=>?_
 ·refine sk ?_
  refine jr H (fun _=>⟨27,[],[],0,[]⟩) (fun _ H=>?_) fun v31 h30 H=>?_
  ·refine rn [4] 0 [] [] ?_
   refine Tri.ret ?_
   obtain rfl:=si H;exact eR
  refine rn [1,12,13,14] 0 [] [hL 1 eSNode a0] ?_
  refine bl ?_
  refine lo Int k (fun k x=>impl_areKids_5.l2 k a0 a1_1 x) (fun x=>⟨27,[(1,o1 (.sl 1 [[.sc (.func (.func 90) #[] #[])],[.fn 116 [.cel [cI a1_1] 0]]])),(12,o1 (.sl 5 (List.map eSNode a0))),(13,oI (a0.length:Int)),(14,oI x)],[],0,[]⟩) 0 h30 fun k z15 h30 IH29=>?_
  rw [impl_areKids_5.l2.eq_2] at h30
  refine rn [1,12,13,14,15] 0 [] [] ?_
  refine sq ?_
  refine ci h30 (fun h16 h30=>?_) fun h16 h30=>?_
  ·refine sk ?_
   refine sq ?_
   refine bl ?_
   obtain ⟨x17,h18,h30⟩:=bs h30
   refine rn [1,5,6,12,13,14] 1 [] [hEv 1 eSNode_v h18] ?_
   refine jo h30 (fun y25=>⟨27,[(1,o1 (.sl 1 [[.sc (.func (.func 90) #[] #[])],[.fn 116 [.cel [cI a1_1] 0]]])),(12,o1 (.sl 5 (List.map eSNode a0))),(13,oI (a0.length:Int)),(14,oI z15),(25,oB y25)],[],0,[]⟩) (fun y25 h30=>?_) fun v27 h26 h30=>?_
   ·refine cb h30 (fun h28 h30=>?_) fun h28 h30=>?_
    ·refine rn [4] 0 [] [] ?_
     refine Tri.ret ?_
     obtain rfl:=si h30;obtain rfl:=si H;exact eR
    refine sk ?_
    refine rl [1,12,13,14] 0 [] [] ?_
    exact lb IH29 (w64 (z15 + 1)) h30
   rcases ite_some h26 with ⟨h19,h26⟩ | ⟨h19,h26⟩
   ·obtain ⟨r20,h21,h26⟩:=bs h26
    refine dl hmix 5 [[],[],[0,1],[0,1,2],[],[0,1,2,3,4],[0,1,2,3,4,5]] [1,12,13,14,25] 0 [] [q2 2 (.el [.sc (.func (.func 90) #[] #[])]) (ix0 (m:=0) h19) (ix1 (m:=0) (xs:=[[.sc (.func (.func 90) #[] #[])],[.fn 116 [.cel [cI a1_1] 0]]]) h19),hC 5 (impl_isExpression.fn h21)] ?_
    exact pf (!r20) h26
   rcases ite_some h26 with ⟨h22,h26⟩ | ⟨h22,h26⟩
   ·obtain ⟨r23,h24,h26⟩:=bs h26
    refine dl hmix 5 [[],[],[0,1],[0,1,2],[],[0,1,2,3,4],[0,1,2,3,4,5]] [1,12,13,14,25] 0 [] [q2 2 (.el [.fn 116 [.cel [cI a1_1] 0]]) (ix0 (m:=1) h22) (ix1 (m:=1) (xs:=[[.sc (.func (.func 90) #[] #[])],[.fn 116 [.cel [cI a1_1] 0]]]) h22),hC 5 (impl_isOf_1_1.fn h24)] ?_
    exact pf (!r23) h26
   cases h26
  refine fx [] 0 [] ?_
  refine xi ?_
  exact pe () h30
 refine rn [4] 0 [] [] ?_
 refine Tri.ret ?_
 obtain rfl:=si H;exact eR
def impl_areKids_6.e1 (k:Nat) (a1_1:Int) (a1_2:Int) (z18:Int) (x20:SNode):Option Bool:=if z18 = 0 then ((impl_isExpression.f k x20).bind fun r23=>some (!r23)) else (if z18 = 1 then ((impl_isOf_1_1.f k x20 a1_1).bind fun r26=>some (!r26)) else (if z18 = 2 then ((impl_isOf_1_1.f k x20 a1_2).bind fun r29=>some (!r29)) else (none)))
def impl_areKids_6.l2:Nat → (List SNode) → Int → Int → Int → Option (Bool ⊕ Unit)
  | 0,_,_,_,_=>none
  | k + 1,a0,a1_1,a1_2,z18=>if z18 < (a0.length:Int) then ((at? a0 z18).bind fun x20=>(impl_areKids_6.e1 k a1_1 a1_2 z18 x20).bind fun y31=>if y31 = true then (some (.inl false)) else (impl_areKids_6.l2 k a0 a1_1 a1_2 (w64 (z18 + 1)))) else (some (.inr ()))
def impl_areKids_6.e3 (k:Nat) (a0:(List SNode)) (a1_1:Int) (a1_2:Int):Option (Bool ⊕ Unit):=impl_areKids_6.l2 k a0 a1_1 a1_2 0
def impl_areKids_6.f (k:Nat) (a0:(List SNode)) (a1_1:Int) (a1_2:Int):Option Bool:=if (a0.length:Int) = 3 then ((impl_areKids_6.e3 k a0 a1_1 a1_2).bind fun v=>match v with | .inl r=>some r | .inr _=>some true) else (some false)
theorem impl_areKids_6.fn {k:Nat} {a0:(List SNode)} {a1_1:Int} {a1_2:Int} {r:Bool} (H:impl_areKids_6.f k a0 a1_1 a1_2 = some r):Fn Tryz.prog 89 [o1 (.sl 5 (List.map eSNode a0)),o1 (.sl 1 [[.sc (.func (.func 90) #[] #[])],[.fn 116 [.cel [cI a1_1] 0]],[.fn 116 [.cel [cI a1_2] 0]]])] [] (oB r) []:=by
 refine Fn.bd [4] Tryz.func89 ?_
 refine rn [0,1] 0 [] [] ?_
 refine sq ?_
 refine rn [0,1,11] 0 [] [hL 1 eSNode a0] ?_
 refine cn H (fun h1 H=>?_) fun h1 H=>?_
 ·refine sk ?_
  refine jr H (fun _=>⟨27,[],[],0,[]⟩) (fun _ H=>?_) fun v37 h36 H=>?_
  ·refine rn [4] 0 [] [] ?_
   refine Tri.ret ?_
   obtain rfl:=si H;exact eR
  refine rn [1,12,13,14] 0 [] [hL 1 eSNode a0] ?_
  refine bl ?_
  refine lo Int k (fun k x=>impl_areKids_6.l2 k a0 a1_1 a1_2 x) (fun x=>⟨27,[(1,o1 (.sl 1 [[.sc (.func (.func 90) #[] #[])],[.fn 116 [.cel [cI a1_1] 0]],[.fn 116 [.cel [cI a1_2] 0]]])),(12,o1 (.sl 5 (List.map eSNode a0))),(13,oI (a0.length:Int)),(14,oI x)],[],0,[]⟩) 0 h36 fun k z18 h36 IH35=>?_
  rw [impl_areKids_6.l2.eq_2] at h36
  refine rn [1,12,13,14,15] 0 [] [] ?_
  refine sq ?_
  refine ci h36 (fun h19 h36=>?_) fun h19 h36=>?_
  ·refine sk ?_
   refine sq ?_
   refine bl ?_
   obtain ⟨x20,h21,h36⟩:=bs h36
   refine rn [1,5,6,12,13,14] 1 [] [hEv 1 eSNode_v h21] ?_
   refine jo h36 (fun y31=>⟨27,[(1,o1 (.sl 1 [[.sc (.func (.func 90) #[] #[])],[.fn 116 [.cel [cI a1_1] 0]],[.fn 116 [.cel [cI a1_2] 0]]])),(12,o1 (.sl 5 (List.map eSNode a0))),(13,oI (a0.length:Int)),(14,oI z18),(25,oB y31)],[],0,[]⟩) (fun y31 h36=>?_) fun v33 h32 h36=>?_
   ·refine cb h36 (fun h34 h36=>?_) fun h34 h36=>?_
    ·refine rn [4] 0 [] [] ?_
     refine Tri.ret ?_
     obtain rfl:=si h36;obtain rfl:=si H;exact eR
    refine sk ?_
    refine rl [1,12,13,14] 0 [] [] ?_
    exact lb IH35 (w64 (z18 + 1)) h36
   rcases ite_some h32 with ⟨h22,h32⟩ | ⟨h22,h32⟩
   ·obtain ⟨r23,h24,h32⟩:=bs h32
    refine dl hmix 5 [[],[],[0,1],[0,1,2],[],[0,1,2,3,4],[0,1,2,3,4,5]] [1,12,13,14,25] 0 [] [q2 2 (.el [.sc (.func (.func 90) #[] #[])]) (ix0 (m:=0) h22) (ix1 (m:=0) (xs:=[[.sc (.func (.func 90) #[] #[])],[.fn 116 [.cel [cI a1_1] 0]],[.fn 116 [.cel [cI a1_2] 0]]]) h22),hC 5 (impl_isExpression.fn h24)] ?_
    exact pf (!r23) h32
   rcases ite_some h32 with ⟨h25,h32⟩ | ⟨h25,h32⟩
   ·obtain ⟨r26,h27,h32⟩:=bs h32
    refine dl hmix 5 [[],[],[0,1],[0,1,2],[],[0,1,2,3,4],[0,1,2,3,4,5]] [1,12,13,14,25] 0 [] [q2 2 (.el [.fn 116 [.cel [cI a1_1] 0]]) (ix0 (m:=1) h25) (ix1 (m:=1) (xs:=[[.sc (.func (.func 90) #[] #[])],[.fn 116 [.cel [cI a1_1] 0]],[.fn 116 [.cel [cI a1_2] 0]]]) h25),hC 5 (impl_isOf_1_1.fn h27)] ?_
    exact pf (!r26) h32
   rcases ite_some h32 with ⟨h28,h32⟩ | ⟨h28,h32⟩
   ·obtain ⟨r29,h30,h32⟩:=bs h32
    refine dl hmix 5 [[],[],[0,1],[0,1,2],[],[0,1,2,3,4],[0,1,2,3,4,5]] [1,12,13,14,25] 0 [] [q2 2 (.el [.fn 116 [.cel [cI a1_2] 0]]) (ix0 (m:=2) h28) (ix1 (m:=2) (xs:=[[.sc (.func (.func 90) #[] #[])],[.fn 116 [.cel [cI a1_1] 0]],[.fn 116 [.cel [cI a1_2] 0]]]) h28),hC 5 (impl_isOf_1_1.fn h30)] ?_
    exact pf (!r29) h32
   cases h32
  refine fx [] 0 [] ?_
  refine xi ?_
  exact pe () h36
 refine rn [4] 0 [] [] ?_
 refine Tri.ret ?_
 obtain rfl:=si H;exact eR
def impl_areKids_7.l1:Nat → (List SNode) → Int → Option (Bool ⊕ Unit)
  | 0,_,_=>none
  | k + 1,a0,z9=>if z9 < (a0.length:Int) then ((at? a0 z9).bind fun x11=>if z9 = 0 then ((impl_isDesignator.f k x11).bind fun r14=>if r14 = true then (impl_areKids_7.l1 k a0 (w64 (z9 + 1))) else (some (.inl false))) else (none)) else (some (.inr ()))
def impl_areKids_7.e2 (k:Nat) (a0:(List SNode)):Option (Bool ⊕ Unit):=impl_areKids_7.l1 k a0 0
def impl_areKids_7.f (k:Nat) (a0:(List SNode)):Option Bool:=if (a0.length:Int) = 1 then ((impl_areKids_7.e2 k a0).bind fun v=>match v with | .inl r=>some r | .inr _=>some true) else (some false)
theorem impl_areKids_7.fn {k:Nat} {a0:(List SNode)} {r:Bool} (H:impl_areKids_7.f k a0 = some r):Fn Tryz.prog 89 [o1 (.sl 5 (List.map eSNode a0)),o1 (.sl 1 [[.sc (.func (.func 94) #[] #[])]])] [] (oB r) []:=by
 refine Fn.bd [4] Tryz.func89 ?_
 refine rn [0,1] 0 [] [] ?_
 refine sq ?_
 refine rn [0,1,11] 0 [] [hL 1 eSNode a0] ?_
 refine cn H (fun h1 H=>?_) fun h1 H=>?_
 ·refine sk ?_
  refine jr H (fun _=>⟨27,[],[],0,[]⟩) (fun _ H=>?_) fun v19 h18 H=>?_
  ·refine rn [4] 0 [] [] ?_
   refine Tri.ret ?_
   obtain rfl:=si H;exact eR
  refine rn [1,12,13,14] 0 [] [hL 1 eSNode a0] ?_
  refine bl ?_
  refine lo Int k (fun k x=>impl_areKids_7.l1 k a0 x) (fun x=>⟨27,[(1,o1 (.sl 1 [[.sc (.func (.func 94) #[] #[])]])),(12,o1 (.sl 5 (List.map eSNode a0))),(13,oI (a0.length:Int)),(14,oI x)],[],0,[]⟩) 0 h18 fun k z9 h18 IH17=>?_
  rw [impl_areKids_7.l1.eq_2] at h18
  refine rn [1,12,13,14,15] 0 [] [] ?_
  refine sq ?_
  refine ci h18 (fun h10 h18=>?_) fun h10 h18=>?_
  ·refine sk ?_
   refine sq ?_
   refine bl ?_
   obtain ⟨x11,h12,h18⟩:=bs h18
   refine rn [1,5,6,12,13,14] 1 [] [hEv 1 eSNode_v h12] ?_
   rcases ite_some h18 with ⟨h13,h18⟩ | ⟨h13,h18⟩
   ·obtain ⟨r14,h15,h18⟩:=bs h18
    refine dn hmix 5 [[],[],[0,1],[0,1,2],[],[0,1,2,3,4],[0,1,2,3,4,5]] [1,12,13,14,25] 0 [] [q2 2 (.el [.sc (.func (.func 94) #[] #[])]) (ix0 (m:=0) h13) (ix1 (m:=0) (xs:=[[.sc (.func (.func 94) #[] #[])]]) h13),hC 5 (impl_isDesignator.fn h15)] ?_
    refine cm h18 (fun h16 h18=>?_) fun h16 h18=>?_
    ·refine sk ?_
     refine rl [1,12,13,14] 0 [] [] ?_
     exact lb IH17 (w64 (z9 + 1)) h18
    refine rn [4] 0 [] [] ?_
    refine Tri.ret ?_
    obtain rfl:=si h18;obtain rfl:=si H;exact eR
   cases h18
  refine fx [] 0 [] ?_
  refine xi ?_
  exact pe () h18
 refine rn [4] 0 [] [] ?_
 refine Tri.ret ?_
 obtain rfl:=si H;exact eR
def impl_areKids_8.e1 (k:Nat) (a1_1:Int) (z15:Int) (x17:SNode):Option Bool:=if z15 = 0 then ((impl_isOf_1_1.f k x17 a1_1).bind fun r20=>some (!r20)) else (if z15 = 1 then ((impl_isExpression.f k x17).bind fun r23=>some (!r23)) else (none))
def impl_areKids_8.l2:Nat → (List SNode) → Int → Int → Option (Bool ⊕ Unit)
  | 0,_,_,_=>none
  | k + 1,a0,a1_1,z15=>if z15 < (a0.length:Int) then ((at? a0 z15).bind fun x17=>(impl_areKids_8.e1 k a1_1 z15 x17).bind fun y25=>if y25 = true then (some (.inl false)) else (impl_areKids_8.l2 k a0 a1_1 (w64 (z15 + 1)))) else (some (.inr ()))
def impl_areKids_8.e3 (k:Nat) (a0:(List SNode)) (a1_1:Int):Option (Bool ⊕ Unit):=impl_areKids_8.l2 k a0 a1_1 0
def impl_areKids_8.f (k:Nat) (a0:(List SNode)) (a1_1:Int):Option Bool:=if (a0.length:Int) = 2 then ((impl_areKids_8.e3 k a0 a1_1).bind fun v=>match v with | .inl r=>some r | .inr _=>some true) else (some false)
theorem impl_areKids_8.fn {k:Nat} {a0:(List SNode)} {a1_1:Int} {r:Bool} (H:impl_areKids_8.f k a0 a1_1 = some r):Fn Tryz.prog 89 [o1 (.sl 5 (List.map eSNode a0)),o1 (.sl 1 [[.fn 116 [.cel [cI a1_1] 0]],[.sc (.func (.func 90) #[] #[])]])] [] (oB r) []:=by
 refine Fn.bd [4] Tryz.func89 ?_
 refine rn [0,1] 0 [] [] ?_
 refine sq ?_
 refine rn [0,1,11] 0 [] [hL 1 eSNode a0] ?_
 refine cn H (fun h1 H=>?_) fun h1 H=>?_
 ·refine sk ?_
  refine jr H (fun _=>⟨27,[],[],0,[]⟩) (fun _ H=>?_) fun v31 h30 H=>?_
  ·refine rn [4] 0 [] [] ?_
   refine Tri.ret ?_
   obtain rfl:=si H;exact eR
  refine rn [1,12,13,14] 0 [] [hL 1 eSNode a0] ?_
  refine bl ?_
  refine lo Int k (fun k x=>impl_areKids_8.l2 k a0 a1_1 x) (fun x=>⟨27,[(1,o1 (.sl 1 [[.fn 116 [.cel [cI a1_1] 0]],[.sc (.func (.func 90) #[] #[])]])),(12,o1 (.sl 5 (List.map eSNode a0))),(13,oI (a0.length:Int)),(14,oI x)],[],0,[]⟩) 0 h30 fun k z15 h30 IH29=>?_
  rw [impl_areKids_8.l2.eq_2] at h30
  refine rn [1,12,13,14,15] 0 [] [] ?_
  refine sq ?_
  refine ci h30 (fun h16 h30=>?_) fun h16 h30=>?_
  ·refine sk ?_
   refine sq ?_
   refine bl ?_
   obtain ⟨x17,h18,h30⟩:=bs h30
   refine rn [1,5,6,12,13,14] 1 [] [hEv 1 eSNode_v h18] ?_
   refine jo h30 (fun y25=>⟨27,[(1,o1 (.sl 1 [[.fn 116 [.cel [cI a1_1] 0]],[.sc (.func (.func 90) #[] #[])]])),(12,o1 (.sl 5 (List.map eSNode a0))),(13,oI (a0.length:Int)),(14,oI z15),(25,oB y25)],[],0,[]⟩) (fun y25 h30=>?_) fun v27 h26 h30=>?_
   ·refine cb h30 (fun h28 h30=>?_) fun h28 h30=>?_
    ·refine rn [4] 0 [] [] ?_
     refine Tri.ret ?_
     obtain rfl:=si h30;obtain rfl:=si H;exact eR
    refine sk ?_
    refine rl [1,12,13,14] 0 [] [] ?_
    exact lb IH29 (w64 (z15 + 1)) h30
   rcases ite_some h26 with ⟨h19,h26⟩ | ⟨h19,h26⟩
   ·obtain ⟨r20,h21,h26⟩:=bs h26
    refine dl hmix 5 [[],[],[0,1],[0,1,2],[],[0,1,2,3,4],[0,1,2,3,4,5]] [1,12,13,14,25] 0 [] [q2 2 (.el [.fn 116 [.cel [cI a1_1] 0]]) (ix0 (m:=0) h19) (ix1 (m:=0) (xs:=[[.fn 116 [.cel [cI a1_1] 0]],[.sc (.func (.func 90) #[] #[])]]) h19),hC 5 (impl_isOf_1_1.fn h21)] ?_
    exact pf (!r20) h26
   rcases ite_some h26 with ⟨h22,h26⟩ | ⟨h22,h26⟩
   ·obtain ⟨r23,h24,h26⟩:=bs h26
    refine dl hmix 5 [[],[],[0,1],[0,1,2],[],[0,1,2,3,4],[0,1,2,3,4,5]] [1,12,13,14,25] 0 [] [q2 2 (.el [.sc (.func (.func 90) #[] #[])]) (ix0 (m:=1) h22) (ix1 (m:=1) (xs:=[[.fn 116 [.cel [cI a1_1] 0]],[.sc (.func (.func 90) #[] #[])]]) h22),hC 5 (impl_isExpression.fn h24)] ?_
    exact pf (!r23) h26
   cases h26
  refine fx [] 0 [] ?_
  refine xi ?_
  exact pe () h30
 refine rn [4] 0 [] [] ?_
 refine Tri.ret ?_
 obtain rfl:=si H;exact eR
def impl_areKids_9.e1 (k:Nat) (z15:Int) (x17:SNode):Option Bool:=if z15 = 0 then ((impl_isExpression.f k x17).bind fun r20=>some (!r20)) else (if z15 = 1 then ((impl_isExpression.f k x17).bind fun r23=>some (!r23)) else (none))
def impl_areKids_9.l2:Nat → (List SNode) → Int → Option (Bool ⊕ Unit)
  | 0,_,_=>none
  | k + 1,a0,z15=>if z15 < (a0.length:Int) then ((at? a0 z15).bind fun x17=>(impl_areKids_9.e1 k z15 x17).bind fun y25=>if y25 = true then (some (.inl false)) else (impl_areKids_9.l2 k a0 (w64 (z15 + 1)))) else (some (.inr ()))
def impl_areKids_9.e3 (k:Nat) (a0:(List SNode)):Option (Bool ⊕ Unit):=impl_areKids_9.l2 k a0 0
def impl_areKids_9.f (k:Nat) (a0:(List SNode)):Option Bool:=if (a0.length:Int) = 2 then ((impl_areKids_9.e3 k a0).bind fun v=>match v with | .inl r=>some r | .inr _=>some true) else (some false)
theorem impl_areKids_9.fn {k:Nat} {a0:(List SNode)} {r:Bool} (H:impl_areKids_9.f k a0 = some r):Fn Tryz.prog 89 [o1 (.sl 5 (List.map eSNode a0)),o1 (.sl 1 [[.sc (.func (.func 90) #[] #[])],[.sc (.func (.func 90) #[] #[])]])] [] (oB r) []:=by
 refine Fn.bd [4] Tryz.func89 ?_
 refine rn [0,1] 0 [] [] ?_
 refine sq ?_
 refine rn [0,1,11] 0 [] [hL 1 eSNode a0] ?_
 refine cn H (fun h1 H=>?_) fun h1 H=>?_
 ·refine sk ?_
  refine jr H (fun _=>⟨27,[],[],0,[]⟩) (fun _ H=>?_) fun v31 h30 H=>?_
  ·refine rn [4] 0 [] [] ?_
   refine Tri.ret ?_
   obtain rfl:=si H;exact eR
  refine rn [1,12,13,14] 0 [] [hL 1 eSNode a0] ?_
  refine bl ?_
  refine lo Int k (fun k x=>impl_areKids_9.l2 k a0 x) (fun x=>⟨27,[(1,o1 (.sl 1 [[.sc (.func (.func 90) #[] #[])],[.sc (.func (.func 90) #[] #[])]])),(12,o1 (.sl 5 (List.map eSNode a0))),(13,oI (a0.length:Int)),(14,oI x)],[],0,[]⟩) 0 h30 fun k z15 h30 IH29=>?_
  rw [impl_areKids_9.l2.eq_2] at h30
  refine rn [1,12,13,14,15] 0 [] [] ?_
  refine sq ?_
  refine ci h30 (fun h16 h30=>?_) fun h16 h30=>?_
  ·refine sk ?_
   refine sq ?_
   refine bl ?_
   obtain ⟨x17,h18,h30⟩:=bs h30
   refine rn [1,5,6,12,13,14] 1 [] [hEv 1 eSNode_v h18] ?_
   refine jo h30 (fun y25=>⟨27,[(1,o1 (.sl 1 [[.sc (.func (.func 90) #[] #[])],[.sc (.func (.func 90) #[] #[])]])),(12,o1 (.sl 5 (List.map eSNode a0))),(13,oI (a0.length:Int)),(14,oI z15),(25,oB y25)],[],0,[]⟩) (fun y25 h30=>?_) fun v27 h26 h30=>?_
   ·refine cb h30 (fun h28 h30=>?_) fun h28 h30=>?_
    ·refine rn [4] 0 [] [] ?_
     refine Tri.ret ?_
     obtain rfl:=si h30;obtain rfl:=si H;exact eR
    refine sk ?_
    refine rl [1,12,13,14] 0 [] [] ?_
    exact lb IH29 (w64 (z15 + 1)) h30
   rcases ite_some h26 with ⟨h19,h26⟩ | ⟨h19,h26⟩
   ·obtain ⟨r20,h21,h26⟩:=bs h26
    refine dl hmix 5 [[],[],[0,1],[0,1,2],[],[0,1,2,3,4],[0,1,2,3,4,5]] [1,12,13,14,25] 0 [] [q2 2 (.el [.sc (.func (.func 90) #[] #[])]) (ix0 (m:=0) h19) (ix1 (m:=0) (xs:=[[.sc (.func (.func 90) #[] #[])],[.sc (.func (.func 90) #[] #[])]]) h19),hC 5 (impl_isExpression.fn h21)] ?_
    exact pf (!r20) h26
   rcases ite_some h26 with ⟨h22,h26⟩ | ⟨h22,h26⟩
   ·obtain ⟨r23,h24,h26⟩:=bs h26
    refine dl hmix 5 [[],[],[0,1],[0,1,2],[],[0,1,2,3,4],[0,1,2,3,4,5]] [1,12,13,14,25] 0 [] [q2 2 (.el [.sc (.func (.func 90) #[] #[])]) (ix0 (m:=1) h22) (ix1 (m:=1) (xs:=[[.sc (.func (.func 90) #[] #[])],[.sc (.func (.func 90) #[] #[])]]) h22),hC 5 (impl_isExpression.fn h24)] ?_
    exact pf (!r23) h26
   cases h26
  refine fx [] 0 [] ?_
  refine xi ?_
  exact pe () h30
 refine rn [4] 0 [] [] ?_
 refine Tri.ret ?_
 obtain rfl:=si H;exact eR
end Go.Proofs.YtaelpeekimbmcaaGreatDoor.E
