/- Functions of the program and their contracts: printed by ep3.py, a program of this session. -/
import Derived.Test.YtaelpeekimbmcaaGreatDoorPFnExactPrint0
import Derived.Test.YtaelpeekimbmcaaGreatDoorProg
set_option maxRecDepth 100000
set_option linter.unusedVariables false
set_option linter.unusedSectionVars false
set_option linter.unusedSimpArgs false
namespace Go.Proofs.YtaelpeekimbmcaaGreatDoor.E
open Go.RowKit
def impl_Node__hasKids.e1 (k:Nat) (a0:SNode):Option Bool:=(impl_areGroups.f k a0.f4 ([2,3,4,5,10]:List Int)).bind fun r2=>if r2 = true then ((impl_countOf.f k a0.f4 10).bind fun r5=>some (decide (r5 = 1))) else (some false)
def impl_Node__hasKids.e2 (k:Nat) (a0:SNode):Option Bool:=if a0.f0 = 3 then (some (decide (a0.f0 = 3))) else (if a0.f0 = 16 then (some (decide (a0.f0 = 16))) else (if a0.f0 = 23 then (some (decide (a0.f0 = 23))) else (if a0.f0 = 25 then (some (decide (a0.f0 = 25))) else (some (decide (a0.f0 = 26))))))
def impl_Node__hasKids.e3 (k:Nat) (a0:SNode):Option Bool:=(impl_areGroups.f k a0.f4 ([6,7,4,10]:List Int)).bind fun r24=>if r24 = true then ((impl_countOf.f k a0.f4 10).bind fun r27=>if r27 = 1 then ((impl_countOf.f k a0.f4 7).bind fun r30=>some (decide (r30 = 1))) else (some false)) else (some false)
def impl_Node__hasKids.e4 (k:Nat) (a0:SNode):Option Bool:=if a0.f0 = 6 then (some (decide (a0.f0 = 6))) else (some (decide (a0.f0 = 9)))
def impl_Node__hasKids.e5 (k:Nat) (a0:SNode):Option Bool:=(impl_isOf.f k 10).bind fun r54=>(impl_areKids_5.f k a0.f4 r54).bind fun r56=>if r56 = true then (some true) else ((impl_isOf.f k 10).bind fun r59=>(impl_isOf.f k 10).bind fun r61=>(impl_areKids_6.f k a0.f4 r59 r61).bind fun r63=>some r63)
def impl_Node__hasKids.e6 (k:Nat) (a0:SNode):Option Bool:=if (a0.f4.length:Int) = 0 then (some true) else ((impl_areKids_1.f k a0.f4).bind fun r75=>some r75)
def impl_Node__hasKids.f (k:Nat) (a0:SNode):Option Bool:=if a0.f0 = 1 then ((impl_Node__hasKids.e1 k a0).bind fun y7=>some y7) else ((impl_Node__hasKids.e2 k a0).bind fun y14=>if y14 = true then ((impl_areKids_1.f k a0.f4).bind fun r18=>some r18) else (if a0.f0 = 4 then ((impl_areKids_2.f k a0.f4).bind fun r21=>some r21) else (if a0.f0 = 5 then ((impl_Node__hasKids.e3 k a0).bind fun y32=>some y32) else ((impl_Node__hasKids.e4 k a0).bind fun y36=>if y36 = true then ((impl_isOf.f k 8).bind fun r40=>(impl_areKids_3.f k a0.f4 r40).bind fun r42=>some r42) else (if a0.f0 = 10 then ((impl_areAll_impl_Node_1.f k a0.f4).bind fun r45=>some r45) else (if a0.f0 = 11 then ((impl_areKids_4.f k a0.f4).bind fun r48=>some r48) else (if a0.f0 = 12 then ((impl_areAll_impl_Node_2.f k a0.f4).bind fun r51=>some r51) else (if a0.f0 = 13 then ((impl_Node__hasKids.e5 k a0).bind fun y65=>some y65) else (if a0.f0 = 14 then ((impl_isOf.f k 10).bind fun r69=>(impl_areKids_5.f k a0.f4 r69).bind fun r71=>some r71) else (if a0.f0 = 15 then ((impl_Node__hasKids.e6 k a0).bind fun y77=>some y77) else (if a0.f0 = 17 then ((impl_areKids_7.f k a0.f4).bind fun r81=>some r81) else (if a0.f0 = 22 then ((impl_isOf.f k 21).bind fun r84=>(impl_areKids_8.f k a0.f4 r84).bind fun r86=>some r86) else (if a0.f0 = 24 then ((impl_areKids_9.f k a0.f4).bind fun r89=>some r89) else (if a0.f0 = 27 then ((impl_isOf.f k 21).bind fun r92=>(impl_areKids_3.f k a0.f4 r92).bind fun r94=>some r94) else (some (decide ((a0.f4.length:Int) = 0)))))))))))))))))
theorem impl_Node__hasKids.fn {k:Nat} {a0:SNode} {r:Bool} (H:impl_Node__hasKids.f k a0 = some r):Fn Tryz.prog 56 [ag (vSNode a0)] [] (oB r) []:=by
 refine Fn.bd [2] Tryz.func56 ?_
 refine rn [1] 1 [] [] ?_
 refine sq ?_
 refine rn [1,4] 1 [] [] ?_
 refine bl ?_
 refine rn [1,4,5] 1 [] [] ?_
 refine ci H (fun h1 H=>?_) fun h1 H=>?_
 ·refine jo H (fun y7=>⟨139,[(2,oB y7)],[],0,[]⟩) (fun y7 H=>?_) fun v9 h8 H=>?_
  ·refine Tri.ret ?_
   obtain rfl:=si H;exact eR
  obtain ⟨r2,h3,h8⟩:=bs h8
  rcases iteb_some h8 with ⟨h4,h8⟩ | ⟨h4,h8⟩
  ·obtain ⟨r5,h6,h8⟩:=bs h8
   refine rl [2] 0 [] [hC 3 (impl_areGroups.fn h3),hB 3 h4,hC 7 (impl_countOf.fn h6)] ?_
   exact pf (decide (r5 = 1)) h8
  refine rl [2] 0 [] [hC 3 (impl_areGroups.fn h3),hB 3 h4] ?_
  exact pf false h8
 refine jo H (fun y14=>⟨139,[(1,o1 (.ref 0 0)),(4,oI a0.f0),(17,oB y14)],[vSNode a0],0,[]⟩) (fun y14 H=>?_) fun v16 h15 H=>?_
 ·refine cb H (fun h17 H=>?_) fun h17 H=>?_
  ·obtain ⟨r18,h19,H⟩:=bs H
   refine rn [2] 0 [] [hC 3 (impl_areKids_1.fn h19)] ?_
   refine Tri.ret ?_
   obtain rfl:=si H;exact eR
  refine rn [1,4,27] 1 [] [] ?_
  refine ci H (fun h20 H=>?_) fun h20 H=>?_
  ·obtain ⟨r21,h22,H⟩:=bs H
   refine rn [2] 0 [] [hC 3 (impl_areKids_2.fn h22)] ?_
   refine Tri.ret ?_
   obtain rfl:=si H;exact eR
  refine rn [1,4,33] 1 [] [] ?_
  refine ci H (fun h23 H=>?_) fun h23 H=>?_
  ·refine jo H (fun y32=>⟨139,[(2,oB y32)],[],0,[]⟩) (fun y32 H=>?_) fun v34 h33 H=>?_
   ·refine Tri.ret ?_
    obtain rfl:=si H;exact eR
   obtain ⟨r24,h25,h33⟩:=bs h33
   rcases iteb_some h33 with ⟨h26,h33⟩ | ⟨h26,h33⟩
   ·obtain ⟨r27,h28,h33⟩:=bs h33
    rcases ite_some h33 with ⟨h29,h33⟩ | ⟨h29,h33⟩
    ·obtain ⟨r30,h31,h33⟩:=bs h33
     refine rl [2] 0 [] [hC 3 (impl_areGroups.fn h25),hB 3 h26,hC 7 (impl_countOf.fn h28),hB 8 (decide_eq_true h29),hC 13 (impl_countOf.fn h31)] ?_
     exact pf (decide (r30 = 1)) h33
    refine rl [2] 0 [] [hC 3 (impl_areGroups.fn h25),hB 3 h26,hC 7 (impl_countOf.fn h28),hB 8 (decide_eq_false h29)] ?_
    exact pf false h33
   refine rl [2] 0 [] [hC 3 (impl_areGroups.fn h25),hB 3 h26] ?_
   exact pf false h33
  refine jo H (fun y36=>⟨139,[(1,o1 (.ref 0 0)),(4,oI a0.f0),(51,oB y36)],[vSNode a0],0,[]⟩) (fun y36 H=>?_) fun v38 h37 H=>?_
  ·refine cb H (fun h39 H=>?_) fun h39 H=>?_
   ·obtain ⟨r40,h41,H⟩:=bs H
    obtain ⟨r42,h43,H⟩:=bs H
    refine dn hmix 4 [[],[0],[],[2],[0,1,2,3],[0,1,2,3,4]] [2] 0 [] [hS 2 [] (impl_isOf.fn h41),hC 4 (impl_areKids_3.fn h43)] ?_
    refine Tri.ret ?_
    obtain rfl:=si H;exact eR
   refine rn [1,4,59] 1 [] [] ?_
   refine ci H (fun h44 H=>?_) fun h44 H=>?_
   ·obtain ⟨r45,h46,H⟩:=bs H
    refine rn [2] 0 [] [hC 2 (impl_areAll_impl_Node_1.fn h46)] ?_
    refine Tri.ret ?_
    obtain rfl:=si H;exact eR
   refine rn [1,4,64] 1 [] [] ?_
   refine ci H (fun h47 H=>?_) fun h47 H=>?_
   ·obtain ⟨r48,h49,H⟩:=bs H
    refine rn [2] 0 [] [hC 3 (impl_areKids_4.fn h49)] ?_
    refine Tri.ret ?_
    obtain rfl:=si H;exact eR
   refine rn [1,4,70] 1 [] [] ?_
   refine ci H (fun h50 H=>?_) fun h50 H=>?_
   ·obtain ⟨r51,h52,H⟩:=bs H
    refine rn [2] 0 [] [hC 2 (impl_areAll_impl_Node_2.fn h52)] ?_
    refine Tri.ret ?_
    obtain rfl:=si H;exact eR
   refine rn [1,4,75] 1 [] [] ?_
   refine ci H (fun h53 H=>?_) fun h53 H=>?_
   ·refine jo H (fun y65=>⟨139,[(2,oB y65)],[],0,[]⟩) (fun y65 H=>?_) fun v67 h66 H=>?_
    ·refine Tri.ret ?_
     obtain rfl:=si H;exact eR
    obtain ⟨r54,h55,h66⟩:=bs h66
    obtain ⟨r56,h57,h66⟩:=bs h66
    rcases iteb_some h66 with ⟨h58,h66⟩ | ⟨h58,h66⟩
    ·refine dl hmix 11 [[],[0],[],[2],[0,1,2,3],[0,1,2,3,4],[0,1,2,3,4,5],[0,1,2,3,4,5,6],[0,1,2,3,4,5],[0,1,2,3,4,5,8],[0,1,2,3,4,5,8,9],[0,1,2,3,4,5,6,7,8,9,10],[0,1,2,3,4,5,6,7,8,9,10,11],[0,1,2,3,4,5,6,7,8,9,10,11,12]] [2] 0 [] [hS 2 [] (impl_isOf.fn h55),hC 4 (impl_areKids_5.fn h57),hB 4 h58] ?_
     exact pf true h66
    obtain ⟨r59,h60,h66⟩:=bs h66
    obtain ⟨r61,h62,h66⟩:=bs h66
    obtain ⟨r63,h64,h66⟩:=bs h66
    refine dl hmix 11 [[],[0],[],[2],[0,1,2,3],[0,1,2,3,4],[0,1,2,3,4,5],[0,1,2,3,4,5,6],[0,1,2,3,4,5],[0,1,2,3,4,5,8],[0,1,2,3,4,5,8,9],[0,1,2,3,4,5,6,7,8,9,10],[0,1,2,3,4,5,6,7,8,9,10,11],[0,1,2,3,4,5,6,7,8,9,10,11,12]] [2] 0 [] [hS 2 [] (impl_isOf.fn h55),hC 4 (impl_areKids_5.fn h57),hB 4 h58,hS 8 [] (impl_isOf.fn h60),hS 9 [] (impl_isOf.fn h62),hC 11 (impl_areKids_6.fn h64)] ?_
    exact pf r63 h66
   refine rn [1,4,90] 1 [] [] ?_
   refine ci H (fun h68 H=>?_) fun h68 H=>?_
   ·obtain ⟨r69,h70,H⟩:=bs H
    obtain ⟨r71,h72,H⟩:=bs H
    refine dx hmix 4 [[],[0],[],[2],[0,1,2,3],[0,1,2,3,4]] [2] 0 [] [hS 2 [] (impl_isOf.fn h70),hC 4 (impl_areKids_5.fn h72)] ⟨139,[(2,oB r71)],[],0,[]⟩ ?_
    refine Tri.ret ?_
    obtain rfl:=si H;exact eR
   refine rx [1,4,97] 1 [] [] ⟨139,[(1,o1 (.ref 0 0)),(4,oI a0.f0),(97,oB (decide (a0.f0 = 15)))],[vSNode a0],0,[]⟩ ?_
   refine ci H (fun h73 H=>?_) fun h73 H=>?_
   ·refine jo H (fun y77=>⟨139,[(2,oB y77)],[],0,[]⟩) (fun y77 H=>?_) fun v79 h78 H=>?_
    ·refine Tri.ret ?_
     obtain rfl:=si H;exact eR
    rcases ite_some h78 with ⟨h74,h78⟩ | ⟨h74,h78⟩
    ·refine rl [2] 0 [] [hL 2 eSNode a0.f4,hB 3 (decide_eq_true h74)] ?_
     exact pf true h78
    obtain ⟨r75,h76,h78⟩:=bs h78
    refine rl [2] 0 [] [hL 2 eSNode a0.f4,hB 3 (decide_eq_false h74),hC 8 (impl_areKids_1.fn h76)] ?_
    exact pf r75 h78
   refine rn [1,4,109] 1 [] [] ?_
   refine ci H (fun h80 H=>?_) fun h80 H=>?_
   ·obtain ⟨r81,h82,H⟩:=bs H
    refine rn [2] 0 [] [hC 3 (impl_areKids_7.fn h82)] ?_
    refine Tri.ret ?_
    obtain rfl:=si H;exact eR
   refine rn [1,4,115] 1 [] [] ?_
   refine ci H (fun h83 H=>?_) fun h83 H=>?_
   ·obtain ⟨r84,h85,H⟩:=bs H
    obtain ⟨r86,h87,H⟩:=bs H
    refine dn hmix 4 [[],[0],[],[2],[0,1,2,3],[0,1,2,3,4]] [2] 0 [] [hS 2 [] (impl_isOf.fn h85),hC 4 (impl_areKids_8.fn h87)] ?_
    refine Tri.ret ?_
    obtain rfl:=si H;exact eR
   refine rn [1,4,122] 1 [] [] ?_
   refine ci H (fun h88 H=>?_) fun h88 H=>?_
   ·obtain ⟨r89,h90,H⟩:=bs H
    refine rn [2] 0 [] [hC 3 (impl_areKids_9.fn h90)] ?_
    refine Tri.ret ?_
    obtain rfl:=si H;exact eR
   refine rn [1,128] 1 [] [] ?_
   refine ci H (fun h91 H=>?_) fun h91 H=>?_
   ·obtain ⟨r92,h93,H⟩:=bs H
    obtain ⟨r94,h95,H⟩:=bs H
    refine dn hmix 4 [[],[0],[],[2],[0,1,2,3],[0,1,2,3,4]] [2] 0 [] [hS 2 [] (impl_isOf.fn h93),hC 4 (impl_areKids_3.fn h95)] ?_
    refine Tri.ret ?_
    obtain rfl:=si H;exact eR
   refine sk ?_
   refine rn [2] 0 [] [hL 2 eSNode a0.f4] ?_
   refine Tri.ret ?_
   obtain rfl:=si H;exact eR
  refine rn [1,4,51] 1 [] [] ?_
  refine ci h37 (fun h35 h37=>?_) fun h35 h37=>?_
  ·refine sk ?_
   exact pf (decide (a0.f0 = 6)) h37
  refine rl [1,4,51] 1 [] [] ?_
  exact pf (decide (a0.f0 = 9)) h37
 refine rn [1,4,17] 1 [] [] ?_
 refine ci h15 (fun h10 h15=>?_) fun h10 h15=>?_
 ·refine sk ?_
  exact pf (decide (a0.f0 = 3)) h15
 refine rn [1,4,17] 1 [] [] ?_
 refine ci h15 (fun h11 h15=>?_) fun h11 h15=>?_
 ·refine sk ?_
  exact pf (decide (a0.f0 = 16)) h15
 refine rx [1,4,17] 1 [] [] ⟨139,[(1,o1 (.ref 0 0)),(4,oI a0.f0),(17,oB (decide (a0.f0 = 23)))],[vSNode a0],0,[]⟩ ?_
 refine ci h15 (fun h12 h15=>?_) fun h12 h15=>?_
 ·refine sk ?_
  exact pf (decide (a0.f0 = 23)) h15
 refine rn [1,4,17] 1 [] [] ?_
 refine ci h15 (fun h13 h15=>?_) fun h13 h15=>?_
 ·refine sk ?_
  exact pf (decide (a0.f0 = 25)) h15
 refine rl [1,4,17] 1 [] [] ?_
 exact pf (decide (a0.f0 = 26)) h15
def impl_Node__fits_1_3.f (k:Nat) (rec_impl_Node__fits_2:(SNode → Int → Int → Option (Bool × Int))) (a0:SNode) (b0:Int) (b2:Int):Option (Bool × Int):=(rec_impl_Node__fits_2 a0 (w64 (b0 + 1)) b2).bind fun r1=>some (r1.1,r1.2)
theorem impl_Node__fits_1_3.fn {k:Nat} {rec_impl_Node__fits_2:(SNode → Int → Int → Option (Bool × Int))} (ih_impl_Node__fits_2:∀ {a0:SNode} {a1:Int} {b0:Int} {r:(Bool × Int)} (H:rec_impl_Node__fits_2 a0 a1 b0 = some r),FnG Tryz.prog 30 [ag (vSNode a0),oI a1,o1 (.ref 0 0)] [] [[cI b0]] (oB r.1) [] [[cI r.2]]) {a0:SNode} {b0:Int} {b2:Int} {r:(Bool × Int)} (H:impl_Node__fits_1_3.f k rec_impl_Node__fits_2 a0 b0 b2 = some r):FnG Tryz.prog 58 [ag (vSNode a0),o1 (.ref 0 0),o1 (.ref 1 0)] [] [[cI b0],[.ref 2 0],[cI b2]] (oB r.1) [] [[cI b0],[.ref 2 0],[cI r.2]]:=by
 refine FnG.body (ts:=[4]) Tryz.func58 rfl rfl (by decide) (by decide) (Nat.le_of_ble_eq_true rfl) rfl (Nat.le_of_ble_eq_true rfl) ?_
 refine rn [1,2,3] 4 [] [] ?_
 obtain ⟨r1,h2,H⟩:=bs H
 refine rn [4] 3 [] [hG 4 [] [2] none (ih_impl_Node__fits_2 h2)] ?_
 refine Tri.ret ?_
 obtain rfl:=si H;exact endsG (.inr rfl) (by kernel_rfl)
def impl_areAll_impl_Node__1_6.f (k:Nat) (rec_impl_Node__fits_2:(SNode → Int → Int → Option (Bool × Int))) (a0:SNode) (b1:Int) (b3:Int):Option (Bool × Int):=(impl_Node__fits_1_3.f k rec_impl_Node__fits_2 a0 b1 b3).bind fun r1=>some ((!r1.1),r1.2)
theorem impl_areAll_impl_Node__1_6.fn {k:Nat} {rec_impl_Node__fits_2:(SNode → Int → Int → Option (Bool × Int))} (ih_impl_Node__fits_2:∀ {a0:SNode} {a1:Int} {b0:Int} {r:(Bool × Int)} (H:rec_impl_Node__fits_2 a0 a1 b0 = some r),FnG Tryz.prog 30 [ag (vSNode a0),oI a1,o1 (.ref 0 0)] [] [[cI b0]] (oB r.1) [] [[cI r.2]]) {a0:SNode} {b1:Int} {b3:Int} {r:(Bool × Int)} (H:impl_areAll_impl_Node__1_6.f k rec_impl_Node__fits_2 a0 b1 b3 = some r):FnG Tryz.prog 96 [ag (vSNode a0),o1 (.ref 0 0)] [] [[.fn 58 [.ref 1 0,.ref 2 0]],[cI b1],[.ref 3 0],[cI b3]] (oB r.1) [] [[.fn 58 [.ref 1 0,.ref 2 0]],[cI b1],[.ref 3 0],[cI r.2]]:=by
 refine FnG.body (ts:=[3]) Tryz.func96 rfl rfl (by decide) (by decide) (Nat.le_of_ble_eq_true rfl) rfl (Nat.le_of_ble_eq_true rfl) ?_
 refine rn [1,2] 5 [] [] ?_
 obtain ⟨r1,h2,H⟩:=bs H
 refine rn [3] 4 [] [hG 2 [] [1,2,3] none (impl_Node__fits_1_3.fn ih_impl_Node__fits_2 h2)] ?_
 refine Tri.ret ?_
 obtain rfl:=si H;exact endsG (.inr rfl) (by kernel_rfl)
def slices_IndexFunc___impl_Node_impl_Node_6.l1:Nat → (List SNode) → Int → (SNode → Int → Int → Option (Bool × Int)) → Int → Int → Option ((Int × Int) ⊕ Int)
  | 0,_,_,_,_,_=>none
  | k + 1,a0,b1,rec_impl_Node__fits_2,z7,z8=>if z7 < (a0.length:Int) then ((at? a0 z7).bind fun x10=>(impl_areAll_impl_Node__1_6.f k rec_impl_Node__fits_2 x10 b1 z8).bind fun r12=>if r12.1 = true then (some (.inl (z7,r12.2))) else (slices_IndexFunc___impl_Node_impl_Node_6.l1 k a0 b1 rec_impl_Node__fits_2 (w64 (z7 + 1)) r12.2)) else (some (.inr z8))
def slices_IndexFunc___impl_Node_impl_Node_6.e2 (k:Nat) (a0:(List SNode)) (b1:Int) (b3:Int) (rec_impl_Node__fits_2:(SNode → Int → Int → Option (Bool × Int))):Option ((Int × Int) ⊕ Int):=slices_IndexFunc___impl_Node_impl_Node_6.l1 k a0 b1 rec_impl_Node__fits_2 0 b3
def slices_IndexFunc___impl_Node_impl_Node_6.f (k:Nat) (rec_impl_Node__fits_2:(SNode → Int → Int → Option (Bool × Int))) (a0:(List SNode)) (b1:Int) (b3:Int):Option (Int × Int):=(slices_IndexFunc___impl_Node_impl_Node_6.e2 k a0 b1 b3 rec_impl_Node__fits_2).bind fun v=>match v with | .inl r=>some r | .inr y16=>some (-1,y16)
theorem slices_IndexFunc___impl_Node_impl_Node_6.fn {k:Nat} {rec_impl_Node__fits_2:(SNode → Int → Int → Option (Bool × Int))} (ih_impl_Node__fits_2:∀ {a0:SNode} {a1:Int} {b0:Int} {r:(Bool × Int)} (H:rec_impl_Node__fits_2 a0 a1 b0 = some r),FnG Tryz.prog 30 [ag (vSNode a0),oI a1,o1 (.ref 0 0)] [] [[cI b0]] (oB r.1) [] [[cI r.2]]) {a0:(List SNode)} {b1:Int} {b3:Int} {r:(Int × Int)} (H:slices_IndexFunc___impl_Node_impl_Node_6.f k rec_impl_Node__fits_2 a0 b1 b3 = some r):FnG Tryz.prog 117 [o1 (.sl 5 (List.map eSNode a0)),o1 (.fn 96 [.ref 0 0])] [] [[.fn 58 [.ref 1 0,.ref 2 0]],[cI b1],[.ref 3 0],[cI b3]] (oI r.1) [] [[.fn 58 [.ref 1 0,.ref 2 0]],[cI b1],[.ref 3 0],[cI r.2]]:=by
 refine FnG.body (ts:=[4]) Tryz.func117 rfl rfl (by decide) (by decide) (Nat.le_of_ble_eq_true rfl) rfl (Nat.le_of_ble_eq_true rfl) ?_
 refine rn [0,1] 4 [] [] ?_
 refine jr H (fun y16=>⟨19,[],[[.fn 58 [.ref 1 0,.ref 2 0]],[cI b1],[.ref 3 0],[cI y16]],4,[]⟩) (fun y16 H=>?_) fun v18 h17 H=>?_
 ·refine rn [4] 4 [] [] ?_
  refine Tri.ret ?_
  obtain rfl:=si H;exact endsG (.inr rfl) (by kernel_rfl)
 refine rn [0,1,7,8] 4 [] [hL 1 eSNode a0] ?_
 refine bl ?_
 refine lo (Int × Int) k (fun k x=>slices_IndexFunc___impl_Node_impl_Node_6.l1 k a0 b1 rec_impl_Node__fits_2 x.1 x.2) (fun x=>⟨19,[(0,o1 (.sl 5 (List.map eSNode a0))),(1,o1 (.fn 96 [.ref 0 0])),(7,oI (a0.length:Int)),(8,oI x.1)],[[.fn 58 [.ref 1 0,.ref 2 0]],[cI b1],[.ref 3 0],[cI x.2]],4,[]⟩) (0,b3) h17 fun k x h17 IH15=>?_
 obtain ⟨z7,z8⟩:=x
 rw [slices_IndexFunc___impl_Node_impl_Node_6.l1.eq_2] at h17
 refine rn [0,1,7,8,9] 4 [] [] ?_
 refine sq ?_
 refine ci h17 (fun h9 h17=>?_) fun h9 h17=>?_
 ·refine sk ?_
  refine sq ?_
  refine bl ?_
  refine rn [0,1,5,7,8] 4 [] [] ?_
  obtain ⟨x10,h11,h17⟩:=bs h17
  obtain ⟨r12,h13,h17⟩:=bs h17
  refine rn [0,1,5,7,8,16] 4 [] [hEv 3 eSNode_v h11,hG 5 [] [0,1,2,3] none (impl_areAll_impl_Node__1_6.fn ih_impl_Node__fits_2 h13)] ?_
  refine cb h17 (fun h14 h17=>?_) fun h14 h17=>?_
  ·refine rn [4] 4 [] [] ?_
   refine Tri.ret ?_
   obtain rfl:=si h17;obtain rfl:=si H;exact endsG (.inr rfl) (by kernel_rfl)
  refine sk ?_
  refine rl [0,1,7,8] 4 [] [] ?_
  exact lb IH15 (w64 (z7 + 1),r12.2) h17
 refine fx [] 4 [] ?_
 refine xi ?_
 exact pe z8 h17
def slices_ContainsFunc___impl_Node_impl_Node_6.f (k:Nat) (rec_impl_Node__fits_2:(SNode → Int → Int → Option (Bool × Int))) (a0:(List SNode)) (b1:Int) (b3:Int):Option (Bool × Int):=(slices_IndexFunc___impl_Node_impl_Node_6.f k rec_impl_Node__fits_2 a0 b1 b3).bind fun r1=>some ((decide ((0:Int) ≤ r1.1)),r1.2)
theorem slices_ContainsFunc___impl_Node_impl_Node_6.fn {k:Nat} {rec_impl_Node__fits_2:(SNode → Int → Int → Option (Bool × Int))} (ih_impl_Node__fits_2:∀ {a0:SNode} {a1:Int} {b0:Int} {r:(Bool × Int)} (H:rec_impl_Node__fits_2 a0 a1 b0 = some r),FnG Tryz.prog 30 [ag (vSNode a0),oI a1,o1 (.ref 0 0)] [] [[cI b0]] (oB r.1) [] [[cI r.2]]) {a0:(List SNode)} {b1:Int} {b3:Int} {r:(Bool × Int)} (H:slices_ContainsFunc___impl_Node_impl_Node_6.f k rec_impl_Node__fits_2 a0 b1 b3 = some r):FnG Tryz.prog 95 [o1 (.sl 5 (List.map eSNode a0)),o1 (.fn 96 [.ref 0 0])] [] [[.fn 58 [.ref 1 0,.ref 2 0]],[cI b1],[.ref 3 0],[cI b3]] (oB r.1) [] [[.fn 58 [.ref 1 0,.ref 2 0]],[cI b1],[.ref 3 0],[cI r.2]]:=by
 refine FnG.body (ts:=[4]) Tryz.func95 rfl rfl (by decide) (by decide) (Nat.le_of_ble_eq_true rfl) rfl (Nat.le_of_ble_eq_true rfl) ?_
 refine rn [0,1] 4 [] [] ?_
 obtain ⟨r1,h2,H⟩:=bs H
 refine rn [4] 4 [] [hG 2 [] [0,1,2,3] none (slices_IndexFunc___impl_Node_impl_Node_6.fn ih_impl_Node__fits_2 h2)] ?_
 refine Tri.ret ?_
 obtain rfl:=si H;exact endsG (.inr rfl) (by kernel_rfl)
def impl_areAll_impl_Node_5.f (k:Nat) (rec_impl_Node__fits_2:(SNode → Int → Int → Option (Bool × Int))) (a0:(List SNode)) (b0:Int) (b2:Int):Option (Bool × Int):=(slices_ContainsFunc___impl_Node_impl_Node_6.f k rec_impl_Node__fits_2 a0 b0 b2).bind fun r1=>some ((!r1.1),r1.2)
theorem impl_areAll_impl_Node_5.fn {k:Nat} {rec_impl_Node__fits_2:(SNode → Int → Int → Option (Bool × Int))} (ih_impl_Node__fits_2:∀ {a0:SNode} {a1:Int} {b0:Int} {r:(Bool × Int)} (H:rec_impl_Node__fits_2 a0 a1 b0 = some r),FnG Tryz.prog 30 [ag (vSNode a0),oI a1,o1 (.ref 0 0)] [] [[cI b0]] (oB r.1) [] [[cI r.2]]) {a0:(List SNode)} {b0:Int} {b2:Int} {r:(Bool × Int)} (H:impl_areAll_impl_Node_5.f k rec_impl_Node__fits_2 a0 b0 b2 = some r):FnG Tryz.prog 57 [o1 (.sl 5 (List.map eSNode a0)),o1 (.fn 58 [.ref 0 0,.ref 1 0])] [] [[cI b0],[.ref 2 0],[cI b2]] (oB r.1) [] [[cI b0],[.ref 2 0],[cI r.2]]:=by
 refine FnG.body (ts:=[4]) Tryz.func57 rfl rfl (by decide) (by decide) (Nat.le_of_ble_eq_true rfl) rfl (Nat.le_of_ble_eq_true rfl) ?_
 refine rn [0,3] 4 [] [] ?_
 obtain ⟨r1,h2,H⟩:=bs H
 refine rn [4] 3 [] [hG 2 [] [3,0,1,2] none (slices_ContainsFunc___impl_Node_impl_Node_6.fn ih_impl_Node__fits_2 h2)] ?_
 refine Tri.ret ?_
 obtain rfl:=si H;exact endsG (.inr rfl) (by kernel_rfl)
def impl_Node__fits_2.e1 (k:Nat) (a0:SNode) (a1:Int) (b0:Int) (rec_impl_Node__fits_2:(SNode → Int → Int → Option (Bool × Int))):Option (Bool × Int):=if a1 ≤ 40 then (if (w64 (b0 + 1)) ≤ 700 then ((impl_Node__hasN.f k a0).bind fun r3=>if r3 = true then ((impl_Node__hasNames.f k a0).bind fun r6=>if r6 = true then ((impl_Node__hasKids.f k a0).bind fun r9=>if r9 = true then ((impl_areAll_impl_Node_5.f k rec_impl_Node__fits_2 a0.f4 a1 (w64 (b0 + 1))).bind fun r12=>some (r12.1,r12.2)) else (some (false,w64 (b0 + 1)))) else (some (false,w64 (b0 + 1)))) else (some (false,w64 (b0 + 1)))) else (some (false,w64 (b0 + 1)))) else (some (false,w64 (b0 + 1)))
def impl_Node__fits_2.f:Nat → SNode → Int → Int → Option (Bool × Int)
  | 0,_,_,_=>none
  | k + 1,a0,a1,b0=>(impl_Node__fits_2.e1 k a0 a1 b0 (impl_Node__fits_2.f k)).bind fun v=>match v with | (y14,y15)=>some (y14,y15)
theorem impl_Node__fits_2.fn {k:Nat}:∀ {a0:SNode} {a1:Int} {b0:Int} {r:(Bool × Int)} (H:impl_Node__fits_2.f k a0 a1 b0 = some r),FnG Tryz.prog 30 [ag (vSNode a0),oI a1,o1 (.ref 0 0)] [] [[cI b0]] (oB r.1) [] [[cI r.2]]:=by
 induction k with
 | zero=>intro a0 a1 b0 r H; exact absurd H (by simp [impl_Node__fits_2.f])
 | succ k ih_impl_Node__fits_2 =>
 intro a0 a1 b0 r H
 rw [impl_Node__fits_2.f.eq_2] at H
 generalize impl_Node__fits_2.f k = rec_impl_Node__fits_2 at H ih_impl_Node__fits_2
 refine FnG.body (ts:=[6]) Tryz.func30 rfl rfl (by decide) (by decide) (Nat.le_of_ble_eq_true rfl) rfl (Nat.le_of_ble_eq_true rfl) ?_
 refine rn [3,4,5] 4 [] [] ?_
 refine rn [3,4,5] 4 [] [] ?_
 refine jo H (fun w=>⟨38,[(6,oB w.1)],[[cI w.2]],1,[]⟩) (fun w H=>?_) fun v17 h16 H=>?_
 ·obtain ⟨y14,y15⟩:=w
  refine Tri.ret ?_
  obtain rfl:=si H;exact endsG (.inr rfl) (by kernel_rfl)
 rcases ite_some h16 with ⟨h1,h16⟩ | ⟨h1,h16⟩
 ·rcases ite_some h16 with ⟨h2,h16⟩ | ⟨h2,h16⟩
  ·obtain ⟨r3,h4,h16⟩:=bs h16
   rcases iteb_some h16 with ⟨h5,h16⟩ | ⟨h5,h16⟩
   ·obtain ⟨r6,h7,h16⟩:=bs h16
    rcases iteb_some h16 with ⟨h8,h16⟩ | ⟨h8,h16⟩
    ·obtain ⟨r9,h10,h16⟩:=bs h16
     rcases iteb_some h16 with ⟨h11,h16⟩ | ⟨h11,h16⟩
     ·obtain ⟨r12,h13,h16⟩:=bs h16
      refine rl [6] 1 [] [hB 1 (decide_eq_true h1),hB 6 (decide_eq_true h2),hC 10 (impl_Node__hasN.fn h4),hB 10 h5,hC 14 (impl_Node__hasNames.fn h7),hB 14 h8,hC 18 (impl_Node__hasKids.fn h10),hB 18 h11,hG 24 [] [2,3,0] none (impl_areAll_impl_Node_5.fn ih_impl_Node__fits_2 h13)] ?_
      exact pf (r12.1,r12.2) h16
     refine rl [6] 1 [] [hB 1 (decide_eq_true h1),hB 6 (decide_eq_true h2),hC 10 (impl_Node__hasN.fn h4),hB 10 h5,hC 14 (impl_Node__hasNames.fn h7),hB 14 h8,hC 18 (impl_Node__hasKids.fn h10),hB 18 h11] ?_
     exact pf (false,w64 (b0 + 1)) h16
    refine rl [6] 1 [] [hB 1 (decide_eq_true h1),hB 6 (decide_eq_true h2),hC 10 (impl_Node__hasN.fn h4),hB 10 h5,hC 14 (impl_Node__hasNames.fn h7),hB 14 h8] ?_
    exact pf (false,w64 (b0 + 1)) h16
   refine rl [6] 1 [] [hB 1 (decide_eq_true h1),hB 6 (decide_eq_true h2),hC 10 (impl_Node__hasN.fn h4),hB 10 h5] ?_
   exact pf (false,w64 (b0 + 1)) h16
  refine rl [6] 1 [] [hB 1 (decide_eq_true h1),hB 6 (decide_eq_false h2)] ?_
  exact pf (false,w64 (b0 + 1)) h16
 refine rl [6] 1 [] [hB 1 (decide_eq_false h1)] ?_
 exact pf (false,w64 (b0 + 1)) h16
def impl_TreeOK.e1 (k:Nat) (a0:SNode):Option Bool:=if a0.f0 = 1 then ((impl_Node__fits_2.f k a0 1 0).bind fun r2=>some r2.1) else (some false)
def impl_TreeOK.f (k:Nat) (a0:SNode):Option Bool:=(impl_TreeOK.e1 k a0).bind fun y4=>some y4
theorem impl_TreeOK.fn {k:Nat} {a0:SNode} {r:Bool} (H:impl_TreeOK.f k a0 = some r):Fn Tryz.prog 13 [ag (vSNode a0)] [] (oB r) []:=by
 refine Fn.bd [2] Tryz.func13 ?_
 refine rn [1] 1 [] [] ?_
 refine rn [1,3] 2 [] [] ?_
 refine jo H (fun y4=>⟨11,[(2,oB y4)],[],0,[]⟩) (fun y4 H=>?_) fun v6 h5 H=>?_
 ·refine Tri.ret ?_
  obtain rfl:=si H;exact eR
 rcases ite_some h5 with ⟨h1,h5⟩ | ⟨h1,h5⟩
 ·obtain ⟨r2,h3,h5⟩:=bs h5
  refine rl [2] 0 [] [hB 2 (decide_eq_true h1),hG 5 [] [1] none (impl_Node__fits_2.fn h3)] ?_
  exact pf r2.1 h5
 refine rl [2] 0 [] [hB 2 (decide_eq_false h1)] ?_
 exact pf false h5
def strings_Builder__copyCheck_2.f (k:Nat) (b0_1:Bool) (b0_2:(List Int)) (b0_3:Int):Option Bool:=if b0_1 = true then (some b0_1) else (some true)
theorem strings_Builder__copyCheck_2.fn {k:Nat} {b0_1:Bool} {b0_2:(List Int)} {b0_3:Int} {r:Bool} (H:strings_Builder__copyCheck_2.f k b0_1 b0_2 b0_3 = some r):FnG Tryz.prog 59 [o1 (.ref 0 0)] [] [[.opt 44 b0_1 0 0,.own 5 (List.map (eK .u8) b0_2),cI b0_3]] (tp [] []) [] [[.opt 44 r 0 0,.own 5 (List.map (eK .u8) b0_2),cI b0_3]]:=by
 refine FnG.body (ts:=[]) Tryz.func59 rfl rfl (by decide) (by decide) (Nat.le_of_ble_eq_true rfl) rfl (Nat.le_of_ble_eq_true rfl) ?_
 refine rn [0,6] 1 [] [] ?_
 refine cm H (fun h1 H=>?_) fun h1 H=>?_
 ·refine rn [19] 1 [] [hB 5 (nF h1)] ?_
  refine cf ?_
  refine sk ?_
  obtain rfl:=si H;exact endsG (.inl rfl) (by kernel_rfl)
 refine rl [] 1 [] [p1 (⟨_,Tryz.func97,by kernel_rfl,by kernel_rfl,by kernel_rfl,by kernel_rfl⟩:isSame Tryz.prog 97)] ?_
 obtain rfl:=si H;exact endsG (.inl rfl) (by kernel_rfl)
def strings_Builder__WriteString_2.f (k:Nat) (a1:ByteArray) (b0_1:Bool) (b0_2:(List Int)) (b0_3:Int):Option (Int × Bool × (List Int)):=(strings_Builder__copyCheck_2.f k b0_1 b0_2 b0_3).bind fun r1=>if (b0_2 ++ (bytesOf a1)).length * 1 ≤ 140737488355328 then (some ((a1.size:Int),r1,b0_2 ++ (bytesOf a1))) else none
theorem strings_Builder__WriteString_2.fn {k:Nat} {a1:ByteArray} {b0_1:Bool} {b0_2:(List Int)} {b0_3:Int} {r:(Int × Bool × (List Int))} (H:strings_Builder__WriteString_2.f k a1 b0_1 b0_2 b0_3 = some r):FnG Tryz.prog 31 [o1 (.ref 0 0),oS a1] [] [[.opt 44 b0_1 0 0,.own 5 (List.map (eK .u8) b0_2),cI b0_3]] (tp [none,none] [cI r.1,.sc .nilIface]) [] [[.opt 44 r.2.1 0 0,.own 5 (List.map (eK .u8) r.2.2),cI b0_3]]:=by
 refine FnG.body (ts:=[4,5]) Tryz.func31 rfl rfl (by decide) (by decide) (Nat.le_of_ble_eq_true rfl) rfl (Nat.le_of_ble_eq_true rfl) ?_
 refine rn [0,1] 1 [] [] ?_
 obtain ⟨r1,h2,H⟩:=bs H
 refine rn [0,1] 1 [] [hG 1 [] [0] none (strings_Builder__copyCheck_2.fn h2)] ?_
 obtain ⟨h3,H⟩:=nd H
 refine rn [1] 1 [] [hT 6 5 h3] ?_
 refine rn [4,5] 1 [] [] ?_
 refine Tri.ret ?_
 obtain rfl:=si H;exact endsG (.inr rfl) (by kernel_rfl)
def impl_printer__line_1.f (k:Nat) (a1:ByteArray) (b0_1:Bool) (b0_2:(List Int)) (b0_3:Int):Option (Bool × (List Int)):=(strings_Repeat.f k (⟨#[32,32]⟩:ByteArray) b0_3).bind fun r1=>if r1.size + a1.size ≤ 9223372036854775807 then (if (r1 ++ a1).size + (⟨#[10]⟩:ByteArray).size ≤ 9223372036854775807 then ((strings_Builder__WriteString_2.f k ((r1 ++ a1) ++ (⟨#[10]⟩:ByteArray)) b0_1 b0_2 b0_3).bind fun r5=>some (r5.2.1,r5.2.2)) else none) else none
theorem impl_printer__line_1.fn {k:Nat} {a1:ByteArray} {b0_1:Bool} {b0_2:(List Int)} {b0_3:Int} {r:(Bool × (List Int))} (H:impl_printer__line_1.f k a1 b0_1 b0_2 b0_3 = some r):FnG Tryz.prog 14 [o1 (.ref 0 0),oS a1] [] [[.opt 44 b0_1 0 0,.own 5 (List.map (eK .u8) b0_2),cI b0_3]] (tp [] []) [] [[.opt 44 r.1 0 0,.own 5 (List.map (eK .u8) r.2),cI b0_3]]:=by
 refine FnG.body (ts:=[]) Tryz.func14 rfl rfl (by decide) (by decide) (Nat.le_of_ble_eq_true rfl) rfl (Nat.le_of_ble_eq_true rfl) ?_
 obtain ⟨r1,h2,H⟩:=bs H
 obtain ⟨h3,H⟩:=nd H
 obtain ⟨h4,H⟩:=nd H
 obtain ⟨r5,h6,H⟩:=bs H
 refine dl hmix 11 [[],[0],[0,1],[],[3],[3,4],[3,4,5],[3,4,5,6],[],[3,4,5,6,7,8],[3,4,5,6,7,8,9],[0,1,2,3,4,5,6,7,8,9,10]] [] 1 [] [hC 7 (strings_Repeat.fn k (⟨#[32,32]⟩:ByteArray) b0_3 r1 h2),p1 h3,p1 h4,hG 11 [] [0] none (strings_Builder__WriteString_2.fn h6)] ?_
 obtain rfl:=si H;exact endsG (.inl rfl) (by kernel_rfl)
def impl_Node__starred.f (k:Nat) (a0:SNode):Option ByteArray:=if a0.f1 = 1 then (if a0.f2.size + (⟨#[42]⟩:ByteArray).size ≤ 9223372036854775807 then (some (a0.f2 ++ (⟨#[42]⟩:ByteArray))) else none) else (some a0.f2)
theorem impl_Node__starred.fn {k:Nat} {a0:SNode} {r:ByteArray} (H:impl_Node__starred.f k a0 = some r):Fn Tryz.prog 33 [ag (vSNode a0)] [] (oS r) []:=by
 refine Fn.bd [2] Tryz.func33 ?_
 refine rn [1] 1 [] [] ?_
 refine sq ?_
 refine rn [1,5] 1 [] [] ?_
 refine ci H (fun h1 H=>?_) fun h1 H=>?_
 ·obtain ⟨h2,H⟩:=nd H
  refine rn [2] 0 [] [p1 h2] ?_
  refine Tri.ret ?_
  obtain rfl:=si H;exact eR
 refine sk ?_
 refine rn [2] 0 [] [] ?_
 refine Tri.ret ?_
 obtain rfl:=si H;exact eR
def impl_isPlain.e1 (k:Nat) (a0:Int):Option Bool:=if (32:Int) ≤ a0 then (if a0 = 127 then (some false) else (some (!(decide (a0 = 34))))) else (some false)
def impl_isPlain.f (k:Nat) (a0:Int):Option Bool:=(impl_isPlain.e1 k a0).bind fun y3=>some y3
theorem impl_isPlain.fn {k:Nat} {a0:Int} {r:Bool} (H:impl_isPlain.f k a0 = some r):Fn Tryz.prog 102 [oI a0] [] (oB r) []:=by
 refine Fn.bd [2] Tryz.func102 ?_
 refine rn [0] 0 [] [] ?_
 refine jo H (fun y3=>⟨13,[(2,oB y3)],[],0,[]⟩) (fun y3 H=>?_) fun v5 h4 H=>?_
 ·refine Tri.ret ?_
  obtain rfl:=si H;exact eR
 rcases ite_some h4 with ⟨h1,h4⟩ | ⟨h1,h4⟩
 ·rcases ite_some h4 with ⟨h2,h4⟩ | ⟨h2,h4⟩
  ·refine rl [2] 0 [] [hB 1 (decide_eq_true h1),hB 4 (nF (decide_eq_true h2))] ?_
   exact pf false h4
  refine rl [2] 0 [] [hB 1 (decide_eq_true h1),hB 4 (nT (decide_eq_false h2))] ?_
  exact pf (!(decide (a0 = 34))) h4
 refine rl [2] 0 [] [hB 1 (decide_eq_false h1)] ?_
 exact pf false h4
def impl_charText.f (k:Nat) (a0:Int):Option ByteArray:=(impl_isPlain.f k a0).bind fun r1=>if r1 = true then (if (⟨#[34]⟩:ByteArray).size + (Utf8.encode (IntKind.i32.wrap (a0))).size ≤ 9223372036854775807 then (if ((⟨#[34]⟩:ByteArray) ++ (Utf8.encode (IntKind.i32.wrap (a0)))).size + (⟨#[34]⟩:ByteArray).size ≤ 9223372036854775807 then (some (((⟨#[34]⟩:ByteArray) ++ (Utf8.encode (IntKind.i32.wrap (a0)))) ++ (⟨#[34]⟩:ByteArray))) else none) else none) else ((strconv_FormatInt.f k a0 16).bind fun r6=>(strings_ToUpper.f k r6).bind fun r8=>if (⟨#[48]⟩:ByteArray).size + r8.size ≤ 9223372036854775807 then (if ((⟨#[48]⟩:ByteArray) ++ r8).size + (⟨#[88]⟩:ByteArray).size ≤ 9223372036854775807 then (some (((⟨#[48]⟩:ByteArray) ++ r8) ++ (⟨#[88]⟩:ByteArray))) else none) else none)
theorem impl_charText.fn {k:Nat} {a0:Int} {r:ByteArray} (H:impl_charText.f k a0 = some r):Fn Tryz.prog 64 [oI a0] [] (oS r) []:=by
 refine Fn.bd [2] Tryz.func64 ?_
 refine rn [0] 0 [] [] ?_
 refine sq ?_
 obtain ⟨r1,h2,H⟩:=bs H
 refine rn [0,4] 0 [] [hC 1 (impl_isPlain.fn h2)] ?_
 refine cb H (fun h3 H=>?_) fun h3 H=>?_
 ·obtain ⟨h4,H⟩:=nd H
  obtain ⟨h5,H⟩:=nd H
  refine rn [2] 0 [] [p1 h4,p1 h5] ?_
  refine Tri.ret ?_
  obtain rfl:=si H;exact eR
 refine sk ?_
 obtain ⟨r6,h7,H⟩:=bs H
 obtain ⟨r8,h9,H⟩:=bs H
 obtain ⟨h10,H⟩:=nd H
 obtain ⟨h11,H⟩:=nd H
 refine rn [2] 0 [] [hC 1 (strconv_FormatInt.fn k a0 16 r6 h7),hC 2 (strings_ToUpper.fn k r6 r8 h9),p1 h10,p1 h11] ?_
 refine Tri.ret ?_
 obtain rfl:=si H;exact eR
def impl_Node__full.f (k:Nat) (a0:SNode):Option ByteArray:=if a0.f3 = (⟨#[]⟩:ByteArray) then (some a0.f2) else (if a0.f3.size + (⟨#[46]⟩:ByteArray).size ≤ 9223372036854775807 then (if (a0.f3 ++ (⟨#[46]⟩:ByteArray)).size + a0.f2.size ≤ 9223372036854775807 then (some ((a0.f3 ++ (⟨#[46]⟩:ByteArray)) ++ a0.f2)) else none) else none)
theorem impl_Node__full.fn {k:Nat} {a0:SNode} {r:ByteArray} (H:impl_Node__full.f k a0 = some r):Fn Tryz.prog 65 [ag (vSNode a0)] [] (oS r) []:=by
 refine Fn.bd [2] Tryz.func65 ?_
 refine rn [1] 1 [] [] ?_
 refine sq ?_
 refine rn [1,5] 1 [] [] ?_
 refine ci H (fun h1 H=>?_) fun h1 H=>?_
 ·refine rn [2] 0 [] [] ?_
  refine Tri.ret ?_
  obtain rfl:=si H;exact eR
 refine sk ?_
 obtain ⟨h2,H⟩:=nd H
 obtain ⟨h3,H⟩:=nd H
 refine rn [2] 0 [] [p1 h2,p1 h3] ?_
 refine Tri.ret ?_
 obtain rfl:=si H;exact eR
def impl_side.e1 (k:Nat) (a0:SNode) (a1:Bool):Option Bool:=if a0.f0 = 24 then (some a1) else (some false)
def impl_side.f (k:Nat) (rec_impl_Node__text:(SNode → Option ByteArray)) (a0:SNode) (a1:Bool):Option ByteArray:=(impl_side.e1 k a0 a1).bind fun y2=>if y2 = true then ((rec_impl_Node__text a0).bind fun r6=>if (⟨#[40]⟩:ByteArray).size + r6.size ≤ 9223372036854775807 then (if ((⟨#[40]⟩:ByteArray) ++ r6).size + (⟨#[41]⟩:ByteArray).size ≤ 9223372036854775807 then (some (((⟨#[40]⟩:ByteArray) ++ r6) ++ (⟨#[41]⟩:ByteArray))) else none) else none) else ((rec_impl_Node__text a0).bind fun r10=>some r10)
theorem impl_side.fn {k:Nat} {rec_impl_Node__text:(SNode → Option ByteArray)} (ih_impl_Node__text:∀ {a0:SNode} {r:ByteArray} (H:rec_impl_Node__text a0 = some r),Fn Tryz.prog 34 [ag (vSNode a0)] [] (oS r) []) {a0:SNode} {a1:Bool} {r:ByteArray} (H:impl_side.f k rec_impl_Node__text a0 a1 = some r):Fn Tryz.prog 66 [ag (vSNode a0),oB a1] [] (oS r) []:=by
 refine Fn.bd [4] Tryz.func66 ?_
 refine rn [1,2] 1 [] [] ?_
 refine sq ?_
 refine jo H (fun y2=>⟨17,[(2,o1 (.ref 0 0)),(10,oB y2)],[vSNode a0],0,[]⟩) (fun y2 H=>?_) fun v4 h3 H=>?_
 ·refine cb H (fun h5 H=>?_) fun h5 H=>?_
  ·obtain ⟨r6,h7,H⟩:=bs H
   obtain ⟨h8,H⟩:=nd H
   obtain ⟨h9,H⟩:=nd H
   refine rn [4] 0 [] [hC 1 (ih_impl_Node__text h7),p1 h8,p1 h9] ?_
   refine Tri.ret ?_
   obtain rfl:=si H;exact eR
  refine sk ?_
  obtain ⟨r10,h11,H⟩:=bs H
  refine rn [4] 0 [] [hC 1 (ih_impl_Node__text h11)] ?_
  refine Tri.ret ?_
  obtain rfl:=si H;exact eR
 rcases ite_some h3 with ⟨h1,h3⟩ | ⟨h1,h3⟩
 ·refine rl [2,10] 1 [] [hB 2 (decide_eq_true h1)] ?_
  exact pf a1 h3
 refine rl [2,10] 1 [] [hB 2 (decide_eq_false h1)] ?_
 exact pf false h3
def impl_rankOf.e1 (k:Nat) (a0:ByteArray):Option Bool:=if a0 = (⟨#[43]⟩:ByteArray) then (some (decide (a0 = (⟨#[43]⟩:ByteArray)))) else (if a0 = (⟨#[45]⟩:ByteArray) then (some (decide (a0 = (⟨#[45]⟩:ByteArray)))) else (some (decide (a0 = (⟨#[79,82]⟩:ByteArray)))))
def impl_rankOf.e2 (k:Nat) (a0:ByteArray):Option Bool:=if a0 = (⟨#[42]⟩:ByteArray) then (some (decide (a0 = (⟨#[42]⟩:ByteArray)))) else (if a0 = (⟨#[68,73,86]⟩:ByteArray) then (some (decide (a0 = (⟨#[68,73,86]⟩:ByteArray)))) else (if a0 = (⟨#[77,79,68]⟩:ByteArray) then (some (decide (a0 = (⟨#[77,79,68]⟩:ByteArray)))) else (some (decide (a0 = (⟨#[38]⟩:ByteArray))))))
def impl_rankOf.f (k:Nat) (a0:ByteArray):Option Int:=(impl_rankOf.e1 k a0).bind fun y3=>if y3 = true then (some 2) else ((impl_rankOf.e2 k a0).bind fun y10=>if y10 = true then (some 3) else (some 1))
theorem impl_rankOf.fn {k:Nat} {a0:ByteArray} {r:Int} (H:impl_rankOf.f k a0 = some r):Fn Tryz.prog 67 [oS a0] [] (oI r) []:=by
 refine Fn.bd [2] Tryz.func67 ?_
 refine rn [0] 0 [] [] ?_
 refine sq ?_
 refine rn [3] 0 [] [] ?_
 refine bl ?_
 refine jo H (fun y3=>⟨13,[(3,oS a0),(4,oB y3)],[],0,[]⟩) (fun y3 H=>?_) fun v5 h4 H=>?_
 ·refine cb H (fun h6 H=>?_) fun h6 H=>?_
  ·refine rn [2] 0 [] [] ?_
   refine Tri.ret ?_
   obtain rfl:=si H;exact eR
  refine jo H (fun y10=>⟨13,[(8,oB y10)],[],0,[]⟩) (fun y10 H=>?_) fun v12 h11 H=>?_
  ·refine cb H (fun h13 H=>?_) fun h13 H=>?_
   ·refine rn [2] 0 [] [] ?_
    refine Tri.ret ?_
    obtain rfl:=si H;exact eR
   refine sk ?_
   refine rn [2] 0 [] [] ?_
   refine Tri.ret ?_
   obtain rfl:=si H;exact eR
  refine rn [3,8] 0 [] [] ?_
  refine ci h11 (fun h7 h11=>?_) fun h7 h11=>?_
  ·refine fx [8] 0 [] ?_
   refine sk ?_
   exact pf (decide (a0 = (⟨#[42]⟩:ByteArray))) h11
  refine rn [3,8] 0 [] [] ?_
  refine ci h11 (fun h8 h11=>?_) fun h8 h11=>?_
  ·refine fx [8] 0 [] ?_
   refine sk ?_
   exact pf (decide (a0 = (⟨#[68,73,86]⟩:ByteArray))) h11
  refine rn [3,8] 0 [] [] ?_
  refine ci h11 (fun h9 h11=>?_) fun h9 h11=>?_
  ·refine fx [8] 0 [] ?_
   refine sk ?_
   exact pf (decide (a0 = (⟨#[77,79,68]⟩:ByteArray))) h11
  refine rl [8] 0 [] [] ?_
  exact pf (decide (a0 = (⟨#[38]⟩:ByteArray))) h11
 refine rn [3,4] 0 [] [] ?_
 refine ci h4 (fun h1 h4=>?_) fun h1 h4=>?_
 ·refine sk ?_
  exact pf (decide (a0 = (⟨#[43]⟩:ByteArray))) h4
 refine rn [3,4] 0 [] [] ?_
 refine ci h4 (fun h2 h4=>?_) fun h2 h4=>?_
 ·refine sk ?_
  exact pf (decide (a0 = (⟨#[45]⟩:ByteArray))) h4
 refine rl [3,4] 0 [] [] ?_
 exact pf (decide (a0 = (⟨#[79,82]⟩:ByteArray))) h4
def impl_texts.l1:Nat → (List SNode) → (SNode → Option ByteArray) → (List ByteArray) → Int → Option (List ByteArray)
  | 0,_,_,_,_=>none
  | k + 1,a0,rec_impl_Node__text,z13,z14=>if z14 < (a0.length:Int) then ((at? a0 z14).bind fun x16=>(rec_impl_Node__text x16).bind fun r18=>if (z13 ++ ([r18]:List ByteArray)).length * 16 ≤ 140737488355328 then (impl_texts.l1 k a0 rec_impl_Node__text (z13 ++ ([r18]:List ByteArray)) (w64 (z14 + 1))) else none) else (some z13)
def impl_texts.e2 (k:Nat) (a0:(List SNode)) (rec_impl_Node__text:(SNode → Option ByteArray)):Option (List ByteArray):=impl_texts.l1 k a0 rec_impl_Node__text ([]:List ByteArray) 0
def impl_texts.f (k:Nat) (rec_impl_Node__text:(SNode → Option ByteArray)) (a0:(List SNode)):Option ByteArray:=(impl_texts.e2 k a0 rec_impl_Node__text).bind fun y22=>(strings_Join.f k y22 (⟨#[44,32]⟩:ByteArray)).bind fun r25=>some r25
theorem impl_texts.fn {k:Nat} {rec_impl_Node__text:(SNode → Option ByteArray)} (ih_impl_Node__text:∀ {a0:SNode} {r:ByteArray} (H:rec_impl_Node__text a0 = some r),Fn Tryz.prog 34 [ag (vSNode a0)] [] (oS r) []) {a0:(List SNode)} {r:ByteArray} (H:impl_texts.f k rec_impl_Node__text a0 = some r):Fn Tryz.prog 68 [o1 (.sl 5 (List.map eSNode a0))] [] (oS r) []:=by
 refine Fn.bd [2] Tryz.func68 ?_
 refine rn [0] 0 [] [] ?_
 refine rn [0,3] 0 [] [] ?_
 refine jo H (fun y22=>⟨20,[(3,o1 (.own 9 (List.map eS y22)))],[],0,[]⟩) (fun y22 H=>?_) fun v24 h23 H=>?_
 ·obtain ⟨r25,h26,H⟩:=bs H
  refine rn [2] 0 [] [hC 1 (strings_Join.fn k y22 (⟨#[44,32]⟩:ByteArray) r25 h26)] ?_
  refine Tri.ret ?_
  obtain rfl:=si H;exact eR
 refine rn [3,6,7,8] 0 [] [hL 1 eSNode a0] ?_
 refine bl ?_
 refine fx [3,6,7,8] 0 [.own (.t 3 0) 9] ?_
 refine lo ((List ByteArray) × Int) k (fun k x=>impl_texts.l1 k a0 rec_impl_Node__text x.1 x.2) (fun x=>⟨20,[(3,o1 (.own 9 (List.map eS x.1))),(6,o1 (.sl 5 (List.map eSNode a0))),(7,oI (a0.length:Int)),(8,oI x.2)],[],0,[]⟩) (([]:List ByteArray),0) h23 fun k x h23 IH21=>?_
 obtain ⟨z13,z14⟩:=x
 rw [impl_texts.l1.eq_2] at h23
 refine rn [3,6,7,8,9] 0 [] [] ?_
 refine sq ?_
 refine ci h23 (fun h15 h23=>?_) fun h15 h23=>?_
 ·refine sk ?_
  refine sq ?_
  refine bl ?_
  obtain ⟨x16,h17,h23⟩:=bs h23
  refine rn [3,5,6,7,8] 1 [] [hEv 0 eSNode_v h17] ?_
  obtain ⟨r18,h19,h23⟩:=bs h23
  obtain ⟨h20,h23⟩:=nd h23
  refine rl [3,6,7,8] 0 [] [hC 2 (ih_impl_Node__text h19),hA 4 9 eS h20] ?_
  refine rl [3,6,7,8] 0 [] [] ?_
  exact lb IH21 (z13 ++ ([r18]:List ByteArray),w64 (z14 + 1)) h23
 refine fx [3] 0 [] ?_
 refine xi ?_
 exact pf z13 h23
def impl_Node__text.e1 (k:Nat) (a0:SNode) (rec_impl_Node__text:(SNode → Option ByteArray)) (r31:Int) (x33:SNode) (r35:Int) (x37:SNode) (r39:Int):Option ByteArray:=if r35 < r31 then ((impl_side.f k rec_impl_Node__text x33 true).bind fun r42=>if r42.size + (⟨#[32]⟩:ByteArray).size ≤ 9223372036854775807 then (if (r42 ++ (⟨#[32]⟩:ByteArray)).size + a0.f2.size ≤ 9223372036854775807 then (if ((r42 ++ (⟨#[32]⟩:ByteArray)) ++ a0.f2).size + (⟨#[32]⟩:ByteArray).size ≤ 9223372036854775807 then ((impl_side.f k rec_impl_Node__text x37 (decide (r39 ≤ r31))).bind fun r47=>if (((r42 ++ (⟨#[32]⟩:ByteArray)) ++ a0.f2) ++ (⟨#[32]⟩:ByteArray)).size + r47.size ≤ 9223372036854775807 then (some ((((r42 ++ (⟨#[32]⟩:ByteArray)) ++ a0.f2) ++ (⟨#[32]⟩:ByteArray)) ++ r47)) else none) else none) else none) else none) else (if r35 = r31 then ((impl_side.f k rec_impl_Node__text x33 (decide (r31 = 1))).bind fun r51=>if r51.size + (⟨#[32]⟩:ByteArray).size ≤ 9223372036854775807 then (if (r51 ++ (⟨#[32]⟩:ByteArray)).size + a0.f2.size ≤ 9223372036854775807 then (if ((r51 ++ (⟨#[32]⟩:ByteArray)) ++ a0.f2).size + (⟨#[32]⟩:ByteArray).size ≤ 9223372036854775807 then ((impl_side.f k rec_impl_Node__text x37 (decide (r39 ≤ r31))).bind fun r56=>if (((r51 ++ (⟨#[32]⟩:ByteArray)) ++ a0.f2) ++ (⟨#[32]⟩:ByteArray)).size + r56.size ≤ 9223372036854775807 then (some ((((r51 ++ (⟨#[32]⟩:ByteArray)) ++ a0.f2) ++ (⟨#[32]⟩:ByteArray)) ++ r56)) else none) else none) else none) else none) else ((impl_side.f k rec_impl_Node__text x33 false).bind fun r59=>if r59.size + (⟨#[32]⟩:ByteArray).size ≤ 9223372036854775807 then (if (r59 ++ (⟨#[32]⟩:ByteArray)).size + a0.f2.size ≤ 9223372036854775807 then (if ((r59 ++ (⟨#[32]⟩:ByteArray)) ++ a0.f2).size + (⟨#[32]⟩:ByteArray).size ≤ 9223372036854775807 then ((impl_side.f k rec_impl_Node__text x37 (decide (r39 ≤ r31))).bind fun r64=>if (((r59 ++ (⟨#[32]⟩:ByteArray)) ++ a0.f2) ++ (⟨#[32]⟩:ByteArray)).size + r64.size ≤ 9223372036854775807 then (some ((((r59 ++ (⟨#[32]⟩:ByteArray)) ++ a0.f2) ++ (⟨#[32]⟩:ByteArray)) ++ r64)) else none) else none) else none) else none))
def impl_Node__text.f:Nat → SNode → Option ByteArray
  | 0,_=>none
  | k + 1,a0=>if a0.f0 = 18 then ((strconv_Itoa.f k a0.f1).bind fun r2=>some r2) else (if a0.f0 = 19 then ((impl_charText.f k a0.f1).bind fun r5=>some r5) else (if a0.f0 = 20 then (if a0.f1 = 1 then (some (⟨#[84,82,85,69]⟩:ByteArray)) else (some (⟨#[70,65,76,83,69]⟩:ByteArray))) else (if a0.f0 = 21 then ((impl_Node__full.f k a0).bind fun r10=>some r10) else (if a0.f0 = 22 then ((at? a0.f4 0).bind fun x13=>((impl_Node__text.f k) x13).bind fun r15=>if r15.size + (⟨#[91]⟩:ByteArray).size ≤ 9223372036854775807 then ((at? a0.f4 1).bind fun x18=>((impl_Node__text.f k) x18).bind fun r20=>if (r15 ++ (⟨#[91]⟩:ByteArray)).size + r20.size ≤ 9223372036854775807 then (if ((r15 ++ (⟨#[91]⟩:ByteArray)) ++ r20).size + (⟨#[93]⟩:ByteArray).size ≤ 9223372036854775807 then (some (((r15 ++ (⟨#[91]⟩:ByteArray)) ++ r20) ++ (⟨#[93]⟩:ByteArray))) else none) else none) else none) else (if a0.f0 = 23 then ((at? a0.f4 0).bind fun x25=>(impl_side.f k (impl_Node__text.f k) x25 true).bind fun r27=>if a0.f2.size + r27.size ≤ 9223372036854775807 then (some (a0.f2 ++ r27)) else none) else (if a0.f0 = 24 then ((impl_rankOf.f k a0.f2).bind fun r31=>(at? a0.f4 0).bind fun x33=>(impl_rankOf.f k x33.f2).bind fun r35=>(at? a0.f4 1).bind fun x37=>(impl_rankOf.f k x37.f2).bind fun r39=>(impl_Node__text.e1 k a0 (impl_Node__text.f k) r31 x33 r35 x37 r39).bind fun y67=>some y67) else (if a0.f0 = 25 then ((at? a0.f4 0).bind fun x71=>((impl_Node__text.f k) x71).bind fun r73=>if (⟨#[79,82,68,40]⟩:ByteArray).size + r73.size ≤ 9223372036854775807 then (if ((⟨#[79,82,68,40]⟩:ByteArray) ++ r73).size + (⟨#[41]⟩:ByteArray).size ≤ 9223372036854775807 then (some (((⟨#[79,82,68,40]⟩:ByteArray) ++ r73) ++ (⟨#[41]⟩:ByteArray))) else none) else none) else (if a0.f0 = 26 then ((at? a0.f4 0).bind fun x78=>((impl_Node__text.f k) x78).bind fun r80=>if (⟨#[67,72,82,40]⟩:ByteArray).size + r80.size ≤ 9223372036854775807 then (if ((⟨#[67,72,82,40]⟩:ByteArray) ++ r80).size + (⟨#[41]⟩:ByteArray).size ≤ 9223372036854775807 then (some (((⟨#[67,72,82,40]⟩:ByteArray) ++ r80) ++ (⟨#[41]⟩:ByteArray))) else none) else none) else (if a0.f0 = 27 then ((at? a0.f4 0).bind fun x85=>((impl_Node__text.f k) x85).bind fun r87=>if (⟨#[76,69,78,40]⟩:ByteArray).size + r87.size ≤ 9223372036854775807 then (if ((⟨#[76,69,78,40]⟩:ByteArray) ++ r87).size + (⟨#[41]⟩:ByteArray).size ≤ 9223372036854775807 then (some (((⟨#[76,69,78,40]⟩:ByteArray) ++ r87) ++ (⟨#[41]⟩:ByteArray))) else none) else none) else ((impl_Node__full.f k a0).bind fun r91=>if r91.size + (⟨#[40]⟩:ByteArray).size ≤ 9223372036854775807 then ((impl_texts.f k (impl_Node__text.f k) a0.f4).bind fun r94=>if (r91 ++ (⟨#[40]⟩:ByteArray)).size + r94.size ≤ 9223372036854775807 then (if ((r91 ++ (⟨#[40]⟩:ByteArray)) ++ r94).size + (⟨#[41]⟩:ByteArray).size ≤ 9223372036854775807 then (some (((r91 ++ (⟨#[40]⟩:ByteArray)) ++ r94) ++ (⟨#[41]⟩:ByteArray))) else none) else none) else none))))))))))
theorem impl_Node__text.fn {k:Nat}:∀ {a0:SNode} {r:ByteArray} (H:impl_Node__text.f k a0 = some r),Fn Tryz.prog 34 [ag (vSNode a0)] [] (oS r) []:=by
 induction k with
 | zero=>intro a0 r H; exact absurd H (by simp [impl_Node__text.f])
 | succ k ih_impl_Node__text =>
 intro a0 r H
 rw [impl_Node__text.f.eq_2] at H
 generalize impl_Node__text.f k = rec_impl_Node__text at H ih_impl_Node__text
 refine Fn.bd [2] Tryz.func34 ?_
 refine rn [1] 1 [] [] ?_
 refine sq ?_
 refine rn [1,7] 1 [] [] ?_
 refine bl ?_
 refine rn [1,7,8] 1 [] [] ?_
 refine ci H (fun h1 H=>?_) fun h1 H=>?_
 ·obtain ⟨r2,h3,H⟩:=bs H
  refine rn [2] 0 [] [hC 2 (strconv_Itoa.fn k a0.f1 r2 h3)] ?_
  refine Tri.ret ?_
  obtain rfl:=si H;exact eR
 refine rn [1,7,13] 1 [] [] ?_
 refine ci H (fun h4 H=>?_) fun h4 H=>?_
 ·obtain ⟨r5,h6,H⟩:=bs H
  refine rn [2] 0 [] [hC 2 (impl_charText.fn h6)] ?_
  refine Tri.ret ?_
  obtain rfl:=si H;exact eR
 refine rn [1,7,18] 1 [] [] ?_
 refine ci H (fun h7 H=>?_) fun h7 H=>?_
 ·refine sq ?_
  refine rx [22] 0 [] [] ⟨135,[(22,oB (decide (a0.f1 = 1)))],[],0,[]⟩ ?_
  refine ci H (fun h8 H=>?_) fun h8 H=>?_
  ·refine rn [2] 0 [] [] ?_
   refine Tri.ret ?_
   obtain rfl:=si H;exact eR
  refine sk ?_
  refine rn [2] 0 [] [] ?_
  refine Tri.ret ?_
  obtain rfl:=si H;exact eR
 refine rx [1,7,23] 1 [] [] ⟨135,[(1,o1 (.ref 0 0)),(7,oI a0.f0),(23,oB (decide (a0.f0 = 21)))],[vSNode a0],0,[]⟩ ?_
 refine ci H (fun h9 H=>?_) fun h9 H=>?_
 ·obtain ⟨r10,h11,H⟩:=bs H
  refine rn [2] 0 [] [hC 1 (impl_Node__full.fn h11)] ?_
  refine Tri.ret ?_
  obtain rfl:=si H;exact eR
 refine rn [1,7,27] 1 [] [] ?_
 refine ci H (fun h12 H=>?_) fun h12 H=>?_
 ·obtain ⟨x13,h14,H⟩:=bs H
  obtain ⟨r15,h16,H⟩:=bs H
  obtain ⟨h17,H⟩:=nd H
  obtain ⟨x18,h19,H⟩:=bs H
  obtain ⟨r20,h21,H⟩:=bs H
  obtain ⟨h22,H⟩:=nd H
  obtain ⟨h23,H⟩:=nd H
  refine dn hmix 11 [[],[0],[0,1],[0,1,2],[0,1,2,3],[0,1,2,3,4],[],[6],[6,7],[6,7,8],[0,1,2,3,4,6,7,8,9],[0,1,2,3,4,5,6,7,8,9,10],[0,1,2,3,4,5,6,7,8,9,10,11],[0,1,2,3,4,5,6,7,8,9,10,11,12]] [2] 0 [] [hEv 2 eSNode_v h14,hC 4 (ih_impl_Node__text h16),p1 h17,hEv 8 eSNode_v h19,hC 10 (ih_impl_Node__text h21),p1 h22,p1 h23] ?_
  refine Tri.ret ?_
  obtain rfl:=si H;exact eR
 refine rn [1,7,42] 1 [] [] ?_
 refine ci H (fun h24 H=>?_) fun h24 H=>?_
 ·obtain ⟨x25,h26,H⟩:=bs H
  obtain ⟨r27,h28,H⟩:=bs H
  obtain ⟨h29,H⟩:=nd H
  refine dn hmix 7 [[],[0],[],[2],[2,3],[2,3,4],[2,3,4,5],[0,1,2,3,4,5,6],[0,1,2,3,4,5,6,7]] [2] 0 [] [hEv 4 eSNode_v h26,hC 6 (impl_side.fn ih_impl_Node__text h28),p1 h29] ?_
  refine Tri.ret ?_
  obtain rfl:=si H;exact eR
 refine rn [1,7,52] 1 [] [] ?_
 refine ci H (fun h30 H=>?_) fun h30 H=>?_
 ·obtain ⟨r31,h32,H⟩:=bs H
  obtain ⟨x33,h34,H⟩:=bs H
  obtain ⟨r35,h36,H⟩:=bs H
  obtain ⟨x37,h38,H⟩:=bs H
  obtain ⟨r39,h40,H⟩:=bs H
  refine dn hmix 14 [[],[0],[0,1],[],[3],[3,4],[3,4,5],[3,4,5,6],[0,1,2,3,4,5,6,7],[],[9],[9,10],[9,10,11],[9,10,11,12],[0,1,2,3,4,5,6,7,8,9,10,11,12,13],[0,1,2,3,4,5,6,7,8,9,10,11,12,13,14],[0,1,2,3,4,5,6,7,8,9,10,11,12,13,14,15],[0,1,2,3,4,5,6,7,8,9,10,11,12,13,14,15,16]] [1,3,4,5] 1 [] [hC 2 (impl_rankOf.fn h32),hEv 5 eSNode_v h34,hC 8 (impl_rankOf.fn h36),hEv 11 eSNode_v h38,hC 14 (impl_rankOf.fn h40)] ?_
  refine jo H (fun y67=>⟨135,[(2,oS y67)],[],0,[]⟩) (fun y67 H=>?_) fun v69 h68 H=>?_
  ·refine Tri.ret ?_
   obtain rfl:=si H;exact eR
  rcases ite_some h68 with ⟨h41,h68⟩ | ⟨h41,h68⟩
  ·obtain ⟨r42,h43,h68⟩:=bs h68
   obtain ⟨h44,h68⟩:=nd h68
   obtain ⟨h45,h68⟩:=nd h68
   obtain ⟨h46,h68⟩:=nd h68
   obtain ⟨r47,h48,h68⟩:=bs h68
   obtain ⟨h49,h68⟩:=nd h68
   refine dl hmix 30 [[],[0],[0,1],[0,1,2],[],[],[4,5],[4,5,6],[4,5,6,7],[4,5,6,7],[4,5,6,7,8,9],[4,5,6,7,8,9,10],[4,5,6,7,8,9,10,11],[4,5,6,7,8,9,10,11,12],[4,5,6,7,8,9,10,11,12,13],[4,5,6,7,8,9,10,11,12,13,14],[0,1,2,3,4,5,6,7,8,9,10,11,12,13,14,15],[0,1,2,3,4,5,6,7,8,9,10,11,12,13,14,15,16],[],[18],[0,1,2,3,4,5,6,7,8,9,10,11,12,13,14,15,16,17,18,19],[0,1,2,3,4,5,6,7,8,9,10,11,12,13,14,15,16,17,18,19,20],[],[22],[22,23],[22,23,24],[],[],[26,27],[0,1,2,3,4,5,6,7,8,9,10,11,12,13,14,15,16,22,23,24,25,26,27,28],[0,1,2,3,4,5,6,7,8,9,10,11,12,13,14,15,16,17,18,19,20,21,22,23,24,25,26,27,28,29],[0,1,2,3,4,5,6,7,8,9,10,11,12,13,14,15,16,17,18,19,20,21,22,23,24,25,26,27,28,29,30]] [2] 0 [] [hEv 2 eSNode_v h34,hB 6 (decide_eq_true h41),hC 16 (impl_side.fn ih_impl_Node__text h43),p1 h44,p1 h45,p1 h46,hEv 24 eSNode_v h38,hC 29 (impl_side.fn ih_impl_Node__text h48),p1 h49] ?_
   exact pf ((((r42 ++ (⟨#[32]⟩:ByteArray)) ++ a0.f2) ++ (⟨#[32]⟩:ByteArray)) ++ r47) h68
  rcases ite_some h68 with ⟨h50,h68⟩ | ⟨h50,h68⟩
  ·obtain ⟨r51,h52,h68⟩:=bs h68
   obtain ⟨h53,h68⟩:=nd h68
   obtain ⟨h54,h68⟩:=nd h68
   obtain ⟨h55,h68⟩:=nd h68
   obtain ⟨r56,h57,h68⟩:=bs h68
   obtain ⟨h58,h68⟩:=nd h68
   refine dl hmix 30 [[],[0],[0,1],[0,1,2],[],[],[4,5],[4,5,6],[4,5,6,7],[4,5,6,7],[4,5,6,7,8,9],[4,5,6,7,8,9,10],[4,5,6,7,8,9,10,11],[4,5,6,7,8,9,10,11,12],[4,5,6,7,8,9,10,11,12,13],[4,5,6,7,8,9,10,11,12,13,14],[0,1,2,3,4,5,6,7,8,9,10,11,12,13,14,15],[0,1,2,3,4,5,6,7,8,9,10,11,12,13,14,15,16],[],[18],[0,1,2,3,4,5,6,7,8,9,10,11,12,13,14,15,16,17,18,19],[0,1,2,3,4,5,6,7,8,9,10,11,12,13,14,15,16,17,18,19,20],[],[22],[22,23],[22,23,24],[],[],[26,27],[0,1,2,3,4,5,6,7,8,9,10,11,12,13,14,15,16,22,23,24,25,26,27,28],[0,1,2,3,4,5,6,7,8,9,10,11,12,13,14,15,16,17,18,19,20,21,22,23,24,25,26,27,28,29],[0,1,2,3,4,5,6,7,8,9,10,11,12,13,14,15,16,17,18,19,20,21,22,23,24,25,26,27,28,29,30]] [2] 0 [] [hEv 2 eSNode_v h34,hB 6 (decide_eq_false h41),hB 10 (decide_eq_true h50),hC 16 (impl_side.fn ih_impl_Node__text h52),p1 h53,p1 h54,p1 h55,hEv 24 eSNode_v h38,hC 29 (impl_side.fn ih_impl_Node__text h57),p1 h58] ?_
   exact pf ((((r51 ++ (⟨#[32]⟩:ByteArray)) ++ a0.f2) ++ (⟨#[32]⟩:ByteArray)) ++ r56) h68
  obtain ⟨r59,h60,h68⟩:=bs h68
  obtain ⟨h61,h68⟩:=nd h68
  obtain ⟨h62,h68⟩:=nd h68
  obtain ⟨h63,h68⟩:=nd h68
  obtain ⟨r64,h65,h68⟩:=bs h68
  obtain ⟨h66,h68⟩:=nd h68
  refine dl hmix 30 [[],[0],[0,1],[0,1,2],[],[],[4,5],[4,5,6],[4,5,6,7],[4,5,6,7],[4,5,6,7,8,9],[4,5,6,7,8,9,10],[4,5,6,7,8,9,10,11],[4,5,6,7,8,9,10,11,12],[4,5,6,7,8,9,10,11,12,13],[4,5,6,7,8,9,10,11,12,13,14],[0,1,2,3,4,5,6,7,8,9,10,11,12,13,14,15],[0,1,2,3,4,5,6,7,8,9,10,11,12,13,14,15,16],[],[18],[0,1,2,3,4,5,6,7,8,9,10,11,12,13,14,15,16,17,18,19],[0,1,2,3,4,5,6,7,8,9,10,11,12,13,14,15,16,17,18,19,20],[],[22],[22,23],[22,23,24],[],[],[26,27],[0,1,2,3,4,5,6,7,8,9,10,11,12,13,14,15,16,22,23,24,25,26,27,28],[0,1,2,3,4,5,6,7,8,9,10,11,12,13,14,15,16,17,18,19,20,21,22,23,24,25,26,27,28,29],[0,1,2,3,4,5,6,7,8,9,10,11,12,13,14,15,16,17,18,19,20,21,22,23,24,25,26,27,28,29,30]] [2] 0 [] [hEv 2 eSNode_v h34,hB 6 (decide_eq_false h41),hB 10 (decide_eq_false h50),hC 16 (impl_side.fn ih_impl_Node__text h60),p1 h61,p1 h62,p1 h63,hEv 24 eSNode_v h38,hC 29 (impl_side.fn ih_impl_Node__text h65),p1 h66] ?_
  exact pf ((((r59 ++ (⟨#[32]⟩:ByteArray)) ++ a0.f2) ++ (⟨#[32]⟩:ByteArray)) ++ r64) h68
 refine rn [1,7,100] 1 [] [] ?_
 refine ci H (fun h70 H=>?_) fun h70 H=>?_
 ·obtain ⟨x71,h72,H⟩:=bs H
  obtain ⟨r73,h74,H⟩:=bs H
  obtain ⟨h75,H⟩:=nd H
  obtain ⟨h76,H⟩:=nd H
  refine rn [2] 0 [] [hEv 2 eSNode_v h72,hC 4 (ih_impl_Node__text h74),p1 h75,p1 h76] ?_
  refine Tri.ret ?_
  obtain rfl:=si H;exact eR
 refine rn [1,7,109] 1 [] [] ?_
 refine ci H (fun h77 H=>?_) fun h77 H=>?_
 ·obtain ⟨x78,h79,H⟩:=bs H
  obtain ⟨r80,h81,H⟩:=bs H
  obtain ⟨h82,H⟩:=nd H
  obtain ⟨h83,H⟩:=nd H
  refine rx [2] 0 [] [hEv 2 eSNode_v h79,hC 4 (ih_impl_Node__text h81),p1 h82,p1 h83] ⟨135,[(2,oS (((⟨#[67,72,82,40]⟩:ByteArray) ++ r80) ++ (⟨#[41]⟩:ByteArray)))],[],0,[]⟩ ?_
  refine Tri.ret ?_
  obtain rfl:=si H;exact eR
 refine rx [1,118] 1 [] [] ⟨135,[(1,o1 (.ref 0 0)),(118,oB (decide (a0.f0 = 27)))],[vSNode a0],0,[]⟩ ?_
 refine ci H (fun h84 H=>?_) fun h84 H=>?_
 ·obtain ⟨x85,h86,H⟩:=bs H
  obtain ⟨r87,h88,H⟩:=bs H
  obtain ⟨h89,H⟩:=nd H
  obtain ⟨h90,H⟩:=nd H
  refine rn [2] 0 [] [hEv 2 eSNode_v h86,hC 4 (ih_impl_Node__text h88),p1 h89,p1 h90] ?_
  refine Tri.ret ?_
  obtain rfl:=si H;exact eR
 refine sk ?_
 obtain ⟨r91,h92,H⟩:=bs H
 obtain ⟨h93,H⟩:=nd H
 obtain ⟨r94,h95,H⟩:=bs H
 obtain ⟨h96,H⟩:=nd H
 obtain ⟨h97,H⟩:=nd H
 refine dn hmix 6 [[],[0],[0,1],[],[3],[0,1,3,4],[0,1,2,3,4,5],[0,1,2,3,4,5,6],[0,1,2,3,4,5,6,7]] [2] 0 [] [hC 1 (impl_Node__full.fn h92),p1 h93,hC 5 (impl_texts.fn ih_impl_Node__text h95),p1 h96,p1 h97] ?_
 refine Tri.ret ?_
 obtain rfl:=si H;exact eR
def impl_typeWords.f (k:Nat):Option (List ByteArray):=some ([(⟨#[]⟩:ByteArray),(⟨#[73,78,84,69,71,69,82]⟩:ByteArray),(⟨#[66,79,79,76,69,65,78]⟩:ByteArray),(⟨#[67,72,65,82]⟩:ByteArray)]:List ByteArray)
theorem impl_typeWords.fn {k:Nat} {r:(List ByteArray)} (H:impl_typeWords.f k  = some r):Fn Tryz.prog 39 [] [] (o1 (.own 9 (List.map eS r))) []:=by
 refine Fn.bd [0] Tryz.func39 ?_
 refine rn [] 0 [] [] ?_
 refine rn [0] 0 [] [] ?_
 refine Tri.ret ?_
 obtain rfl:=si H;exact eR
def impl_typeText.f:Nat → SNode → Option ByteArray
  | 0,_=>none
  | k + 1,a0=>if a0.f0 = 9 then ((strconv_Itoa.f k a0.f1).bind fun r2=>if (⟨#[65,82,82,65,89,32]⟩:ByteArray).size + r2.size ≤ 9223372036854775807 then (if ((⟨#[65,82,82,65,89,32]⟩:ByteArray) ++ r2).size + (⟨#[32,79,70,32]⟩:ByteArray).size ≤ 9223372036854775807 then ((at? a0.f4 0).bind fun x6=>((impl_typeText.f k) x6).bind fun r8=>if (((⟨#[65,82,82,65,89,32]⟩:ByteArray) ++ r2) ++ (⟨#[32,79,70,32]⟩:ByteArray)).size + r8.size ≤ 9223372036854775807 then (some ((((⟨#[65,82,82,65,89,32]⟩:ByteArray) ++ r2) ++ (⟨#[32,79,70,32]⟩:ByteArray)) ++ r8)) else none) else none) else none) else ((impl_typeWords.f k).bind fun r11=>(at? r11 a0.f1).bind fun x13=>some x13)
theorem impl_typeText.fn {k:Nat}:∀ {a0:SNode} {r:ByteArray} (H:impl_typeText.f k a0 = some r),Fn Tryz.prog 35 [ag (vSNode a0)] [] (oS r) []:=by
 induction k with
 | zero=>intro a0 r H; exact absurd H (by simp [impl_typeText.f])
 | succ k ih_impl_typeText =>
 intro a0 r H
 rw [impl_typeText.f.eq_2] at H
 generalize impl_typeText.f k = rec_impl_typeText at H ih_impl_typeText
 refine Fn.bd [2] Tryz.func35 ?_
 refine rn [1] 1 [] [] ?_
 refine sq ?_
 refine rn [1,5] 1 [] [] ?_
 refine ci H (fun h1 H=>?_) fun h1 H=>?_
 ·obtain ⟨r2,h3,H⟩:=bs H
  obtain ⟨h4,H⟩:=nd H
  obtain ⟨h5,H⟩:=nd H
  obtain ⟨x6,h7,H⟩:=bs H
  obtain ⟨r8,h9,H⟩:=bs H
  obtain ⟨h10,H⟩:=nd H
  refine dn hmix 10 [[],[0],[0,1],[0,1,2],[0,1,2,3],[],[5],[5,6],[5,6,7],[0,1,2,5,6,7,8],[0,1,2,3,4,5,6,7,8,9],[0,1,2,3,4,5,6,7,8,9,10]] [2] 0 [] [hC 2 (strconv_Itoa.fn k a0.f1 r2 h3),p1 h4,p1 h5,hEv 7 eSNode_v h7,hC 9 (ih_impl_typeText h9),p1 h10] ?_
  refine Tri.ret ?_
  obtain rfl:=si H;exact eR
 refine sk ?_
 obtain ⟨r11,h12,H⟩:=bs H
 obtain ⟨x13,h14,H⟩:=bs H
 refine dn hmix 3 [[],[],[1],[0,1,2],[0,1,2,3],[0,1,2,3,4]] [2] 0 [] [hC 0 (impl_typeWords.fn h12) (show (List.all [.own 9 (List.map eS r11)] PC.flatB) = true by simp [PC.flatB,PC.scalar,cI,cK,cB,cS,eS]),hE 3 eS h14,hF 4 eS h14] ?_
 refine Tri.ret ?_
 obtain rfl:=si H;exact eR
def impl_Node__linesOf.e1 (k:Nat) (a0:SNode) (a1:Int) (z61:(List ByteArray)) (z62:Int):Option (List ByteArray):=(at? a0.f4 z62).bind fun x64=>if x64.f0 = a1 then (if a1 = 3 then ((impl_Node__starred.f k x64).bind fun r68=>if r68.size + (⟨#[32,61,32]⟩:ByteArray).size ≤ 9223372036854775807 then ((at? x64.f4 0).bind fun x71=>(impl_Node__text.f k x71).bind fun r73=>if (r68 ++ (⟨#[32,61,32]⟩:ByteArray)).size + r73.size ≤ 9223372036854775807 then (if ((r68 ++ (⟨#[32,61,32]⟩:ByteArray)) ++ r73).size + (⟨#[59]⟩:ByteArray).size ≤ 9223372036854775807 then (if (z61 ++ ([((r68 ++ (⟨#[32,61,32]⟩:ByteArray)) ++ r73) ++ (⟨#[59]⟩:ByteArray)]:List ByteArray)).length * 16 ≤ 140737488355328 then (some (z61 ++ ([((r68 ++ (⟨#[32,61,32]⟩:ByteArray)) ++ r73) ++ (⟨#[59]⟩:ByteArray)]:List ByteArray))) else none) else none) else none) else none) else (if a1 = 4 then ((impl_Node__starred.f k x64).bind fun r79=>if r79.size + (⟨#[58,32]⟩:ByteArray).size ≤ 9223372036854775807 then ((at? x64.f4 0).bind fun x82=>(impl_typeText.f k x82).bind fun r84=>if (r79 ++ (⟨#[58,32]⟩:ByteArray)).size + r84.size ≤ 9223372036854775807 then (if ((r79 ++ (⟨#[58,32]⟩:ByteArray)) ++ r84).size + (⟨#[59]⟩:ByteArray).size ≤ 9223372036854775807 then (if (z61 ++ ([((r79 ++ (⟨#[58,32]⟩:ByteArray)) ++ r84) ++ (⟨#[59]⟩:ByteArray)]:List ByteArray)).length * 16 ≤ 140737488355328 then (some (z61 ++ ([((r79 ++ (⟨#[58,32]⟩:ByteArray)) ++ r84) ++ (⟨#[59]⟩:ByteArray)]:List ByteArray))) else none) else none) else none) else none) else (if (z61 ++ ([x64.f2]:List ByteArray)).length * 16 ≤ 140737488355328 then (some (z61 ++ ([x64.f2]:List ByteArray))) else none))) else (some z61)
def impl_Node__linesOf.l2:Nat → SNode → Int → (List ByteArray) → Int → Option (List ByteArray)
  | 0,_,_,_,_=>none
  | k + 1,a0,a1,z61,z62=>if z62 < (a0.f4.length:Int) then ((impl_Node__linesOf.e1 k a0 a1 z61 z62).bind fun y90=>impl_Node__linesOf.l2 k a0 a1 y90 (w64 (z62 + 1))) else (some z61)
def impl_Node__linesOf.e3 (k:Nat) (a0:SNode) (a1:Int):Option (List ByteArray):=impl_Node__linesOf.l2 k a0 a1 ([]:List ByteArray) 0
def impl_Node__linesOf.f (k:Nat) (a0:SNode) (a1:Int):Option (List ByteArray):=(impl_Node__linesOf.e3 k a0 a1).bind fun y94=>some y94
theorem impl_Node__linesOf.fn {k:Nat} {a0:SNode} {a1:Int} {r:(List ByteArray)} (H:impl_Node__linesOf.f k a0 a1 = some r):Fn Tryz.prog 15 [ag (vSNode a0),oI a1] [] (o1 (.own 9 (List.map eS r))) []:=by
 refine Fn.bd [4] Tryz.func15 ?_
 refine rn [1,2] 1 [] [] ?_
 refine rn [1,2,5] 1 [] [] ?_
 refine jo H (fun y94=>⟨59,[(5,o1 (.own 9 (List.map eS y94)))],[],0,[]⟩) (fun y94 H=>?_) fun v96 h95 H=>?_
 ·refine rn [4] 0 [] [] ?_
  refine Tri.ret ?_
  obtain rfl:=si H;exact eR
 refine rn [1,5,9,10,11] 0 [] [hL 2 eSNode a0.f4] ?_
 refine bl ?_
 refine fx [1,5,9,10,11] 0 [.own (.t 5 0) 9] ?_
 refine lo ((List ByteArray) × Int) k (fun k x=>impl_Node__linesOf.l2 k a0 a1 x.1 x.2) (fun x=>⟨59,[(1,oI a1),(5,o1 (.own 9 (List.map eS x.1))),(9,o1 (.sl 5 (List.map eSNode a0.f4))),(10,oI (a0.f4.length:Int)),(11,oI x.2)],[],0,[]⟩) (([]:List ByteArray),0) h95 fun k x h95 IH93=>?_
 obtain ⟨z61,z62⟩:=x
 rw [impl_Node__linesOf.l2.eq_2] at h95
 refine rn [1,5,9,10,11,12] 0 [] [] ?_
 refine sq ?_
 refine ci h95 (fun h63 h95=>?_) fun h63 h95=>?_
 ·refine sk ?_
  refine jo h95 (fun y90=>⟨59,[(1,oI a1),(5,o1 (.own 9 (List.map eS y90))),(9,o1 (.sl 5 (List.map eSNode a0.f4))),(10,oI (a0.f4.length:Int)),(11,oI z62)],[],0,[]⟩) (fun y90 h95=>?_) fun v92 h91 h95=>?_
  ·refine rl [1,5,9,10,11] 0 [] [] ?_
   exact lb IH93 (y90,w64 (z62 + 1)) h95
  refine bl ?_
  obtain ⟨x64,h65,h91⟩:=bs h91
  refine rn [1,5,7,9,10,11] 1 [] [hEv 0 eSNode_v h65] ?_
  refine bl ?_
  refine rn [1,5,7,9,10,11,20] 1 [] [] ?_
  refine cn h91 (fun h66 h91=>?_) fun h66 h91=>?_
  ·refine rn [1,5,7,9,10,11,25] 1 [] [] ?_
   refine ci h91 (fun h67 h91=>?_) fun h67 h91=>?_
   ·obtain ⟨r68,h69,h91⟩:=bs h91
    obtain ⟨h70,h91⟩:=nd h91
    obtain ⟨x71,h72,h91⟩:=bs h91
    obtain ⟨r73,h74,h91⟩:=bs h91
    obtain ⟨h75,h91⟩:=nd h91
    obtain ⟨h76,h91⟩:=nd h91
    obtain ⟨h77,h91⟩:=nd h91
    refine dl hmix 12 [[],[],[1],[1,2],[],[4],[4,5],[4,5,6],[1,2,4,5,6,7],[1,2,3,4,5,6,7,8],[1,2,3,4,5,6,7,8,9],[1,2,3,4,5,6,7,8,9,10],[0,1,2,3,4,5,6,7,8,9,10,11],[0,1,2,3,4,5,6,7,8,9,10,11,12]] [1,5,9,10,11] 0 [] [hC 2 (impl_Node__starred.fn h69),p1 h70,hEv 6 eSNode_v h72,hC 8 (impl_Node__text.fn h74),p1 h75,p1 h76,hA 12 9 eS h77] ?_
    exact pf (z61 ++ ([((r68 ++ (⟨#[32,61,32]⟩:ByteArray)) ++ r73) ++ (⟨#[59]⟩:ByteArray)]:List ByteArray)) h91
   refine rn [1,5,7,9,10,11,41] 1 [] [] ?_
   refine ci h91 (fun h78 h91=>?_) fun h78 h91=>?_
   ·obtain ⟨r79,h80,h91⟩:=bs h91
    obtain ⟨h81,h91⟩:=nd h91
    obtain ⟨x82,h83,h91⟩:=bs h91
    obtain ⟨r84,h85,h91⟩:=bs h91
    obtain ⟨h86,h91⟩:=nd h91
    obtain ⟨h87,h91⟩:=nd h91
    obtain ⟨h88,h91⟩:=nd h91
    refine dl hmix 12 [[],[],[1],[1,2],[],[4],[4,5],[4,5,6],[1,2,4,5,6,7],[1,2,3,4,5,6,7,8],[1,2,3,4,5,6,7,8,9],[1,2,3,4,5,6,7,8,9,10],[0,1,2,3,4,5,6,7,8,9,10,11],[0,1,2,3,4,5,6,7,8,9,10,11,12]] [1,5,9,10,11] 0 [] [hC 2 (impl_Node__starred.fn h80),p1 h81,hEv 6 eSNode_v h83,hC 8 (impl_typeText.fn h85),p1 h86,p1 h87,hA 12 9 eS h88] ?_
    exact pf (z61 ++ ([((r79 ++ (⟨#[58,32]⟩:ByteArray)) ++ r84) ++ (⟨#[59]⟩:ByteArray)]:List ByteArray)) h91
   obtain ⟨h89,h91⟩:=nd h91
   refine rl [1,5,9,10,11] 0 [] [hA 4 9 eS h89] ?_
   exact pf (z61 ++ ([x64.f2]:List ByteArray)) h91
  refine fx [1,5,9,10,11] 0 [] ?_
  refine sk ?_
  exact pf z61 h91
 refine fx [5] 0 [] ?_
 refine xi ?_
 exact pf z61 h95
def impl_printer__group_1_2.l1:Nat → (List ByteArray) → Int → Int → Bool → (List Int) → Option (Bool × (List Int))
  | 0,_,_,_,_,_=>none
  | k + 1,b0,b2_3,z6,z7,z8=>if z6 < (b0.length:Int) then ((at? b0 z6).bind fun x10=>(impl_printer__line_1.f k x10 z7 z8 b2_3).bind fun r12=>impl_printer__group_1_2.l1 k b0 b2_3 (w64 (z6 + 1)) r12.1 r12.2) else (some (z7,z8))
def impl_printer__group_1_2.f (k:Nat) (b0:(List ByteArray)) (b2_1:Bool) (b2_2:(List Int)) (b2_3:Int):Option (Bool × (List Int)):=impl_printer__group_1_2.l1 k b0 b2_3 0 b2_1 b2_2
theorem impl_printer__group_1_2.fn {k:Nat} {b0:(List ByteArray)} {b2_1:Bool} {b2_2:(List Int)} {b2_3:Int} {r:(Bool × (List Int))} (H:impl_printer__group_1_2.f k b0 b2_1 b2_2 b2_3 = some r):FnG Tryz.prog 38 [o1 (.ref 0 0),o1 (.ref 1 0)] [] [[.sl 1 (List.map eS b0)],[.ref 2 0],[.opt 44 b2_1 2 0,.own 5 (List.map (eK .u8) b2_2),cI b2_3]] (tp [] []) [] [[.sl 1 (List.map eS b0)],[.ref 2 0],[.opt 44 r.1 2 0,.own 5 (List.map (eK .u8) r.2),cI b2_3]]:=by
 refine FnG.body (ts:=[]) Tryz.func38 rfl rfl (by decide) (by decide) (Nat.le_of_ble_eq_true rfl) rfl (Nat.le_of_ble_eq_true rfl) ?_
 refine rn [1,4,5,6] 3 [] [hL 1 eS b0] ?_
 refine bl ?_
 refine lo (Int × Bool × (List Int)) k (fun k x=>impl_printer__group_1_2.l1 k b0 b2_3 x.1 x.2.1 x.2.2) (fun x=>⟨14,[(1,o1 (.ref 1 0)),(4,o1 (.sl 1 (List.map eS b0))),(5,oI (b0.length:Int)),(6,oI x.1)],[[.sl 1 (List.map eS b0)],[.ref 2 0],[.opt 44 x.2.1 2 0,.own 5 (List.map (eK .u8) x.2.2),cI b2_3]],3,[]⟩) (0,b2_1,b2_2) H fun k x H IH14=>?_
 obtain ⟨z6,z7,z8⟩:=x
 rw [impl_printer__group_1_2.l1.eq_2] at H
 refine rn [1,4,5,6,7] 3 [] [] ?_
 refine sq ?_
 refine ci H (fun h9 H=>?_) fun h9 H=>?_
 ·refine sk ?_
  refine sq ?_
  refine bl ?_
  obtain ⟨x10,h11,H⟩:=bs H
  refine rn [1,3,4,5,6] 3 [] [hE 0 eS h11] ?_
  obtain ⟨r12,h13,H⟩:=bs H
  refine rl [1,4,5,6] 3 [] [hG 2 [] [2] none (impl_printer__line_1.fn h13)] ?_
  refine rl [1,4,5,6] 3 [] [] ?_
  exact lb IH14 (w64 (z6 + 1),r12.1,r12.2) H
 refine xi ?_
 obtain rfl:=si H;exact endsG (.inl rfl) (by kernel_rfl)
def impl_printer__deeper_2.f (k:Nat) (b0_1:Bool) (b0_2:(List Int)) (b0_3:Int) (b1:(List ByteArray)):Option (Bool × (List Int) × Int):=(impl_printer__group_1_2.f k b1 b0_1 b0_2 (w64 (b0_3 + 1))).bind fun r1=>some (r1.1,r1.2,w64 ((w64 (b0_3 + 1)) - 1))
theorem impl_printer__deeper_2.fn {k:Nat} {b0_1:Bool} {b0_2:(List Int)} {b0_3:Int} {b1:(List ByteArray)} {r:(Bool × (List Int) × Int)} (H:impl_printer__deeper_2.f k b0_1 b0_2 b0_3 b1 = some r):FnG Tryz.prog 37 [o1 (.ref 0 0),o1 (.fn 38 [.ref 1 0,.ref 2 0])] [] [[.opt 44 b0_1 0 0,.own 5 (List.map (eK .u8) b0_2),cI b0_3],[.sl 1 (List.map eS b1)],[.ref 0 0]] (tp [] []) [] [[.opt 44 r.1 0 0,.own 5 (List.map (eK .u8) r.2.1),cI r.2.2],[.sl 1 (List.map eS b1)],[.ref 0 0]]:=by
 refine FnG.body (ts:=[]) Tryz.func37 rfl rfl (by decide) (by decide) (Nat.le_of_ble_eq_true rfl) rfl (Nat.le_of_ble_eq_true rfl) ?_
 refine rn [0,1] 3 [] [] ?_
 obtain ⟨r1,h2,H⟩:=bs H
 refine rn [0] 3 [] [hG 1 [] [1,2,0] none (impl_printer__group_1_2.fn h2)] ?_
 refine rl [] 3 [] [] ?_
 obtain rfl:=si H;exact endsG (.inl rfl) (by kernel_rfl)
def impl_printer__group_2.f (k:Nat) (a1:ByteArray) (a2:(List ByteArray)) (b0_1:Bool) (b0_2:(List Int)) (b0_3:Int):Option (Bool × (List Int) × Int):=if (a2.length:Int) = 0 then (some (b0_1,b0_2,b0_3)) else ((impl_printer__line_1.f k a1 b0_1 b0_2 b0_3).bind fun r2=>(impl_printer__deeper_2.f k r2.1 r2.2 b0_3 a2).bind fun r4=>some (r4.1,r4.2.1,r4.2.2))
theorem impl_printer__group_2.fn {k:Nat} {a1:ByteArray} {a2:(List ByteArray)} {b0_1:Bool} {b0_2:(List Int)} {b0_3:Int} {r:(Bool × (List Int) × Int)} (H:impl_printer__group_2.f k a1 a2 b0_1 b0_2 b0_3 = some r):FnG Tryz.prog 17 [o1 (.ref 0 0),oS a1,o1 (.sl 1 (List.map eS a2))] [] [[.opt 44 b0_1 0 0,.own 5 (List.map (eK .u8) b0_2),cI b0_3]] (tp [] []) [] [[.opt 44 r.1 0 0,.own 5 (List.map (eK .u8) r.2.1),cI r.2.2]]:=by
 refine FnG.body (ts:=[]) Tryz.func17 rfl rfl (by decide) (by decide) (Nat.le_of_ble_eq_true rfl) rfl (Nat.le_of_ble_eq_true rfl) ?_
 refine rn [1,3,5] 3 [] [] ?_
 refine sq ?_
 refine rn [1,3,5,8] 3 [] [hL 1 eS a2] ?_
 refine ci H (fun h1 H=>?_) fun h1 H=>?_
 ·refine Tri.ret ?_
  obtain rfl:=si H;exact endsG (.inr rfl) (by kernel_rfl)
 refine sk ?_
 obtain ⟨r2,h3,H⟩:=bs H
 refine rn [3,5] 3 [] [hG 2 [] [0] none (impl_printer__line_1.fn h3)] ?_
 obtain ⟨r4,h5,H⟩:=bs H
 refine rl [] 1 [] [hG 2 [] [0,2,1] none (impl_printer__deeper_2.fn h5)] ?_
 obtain rfl:=si H;exact endsG (.inl rfl) (by kernel_rfl)
def impl_printer__proc_1_2.f (k:Nat) (b1_1:Bool) (b1_2:(List Int)) (b1_3:Int) (b2:SNode):Option (Bool × (List Int) × Int):=(impl_Node__linesOf.f k b2 4).bind fun r1=>(impl_printer__group_2.f k (⟨#[86,65,82]⟩:ByteArray) r1 b1_1 b1_2 b1_3).bind fun r3=>some (r3.1,r3.2.1,r3.2.2)
theorem impl_printer__proc_1_2.fn {k:Nat} {b1_1:Bool} {b1_2:(List Int)} {b1_3:Int} {b2:SNode} {r:(Bool × (List Int) × Int)} (H:impl_printer__proc_1_2.f k b1_1 b1_2 b1_3 b2 = some r):FnG Tryz.prog 40 [o1 (.ref 0 0),o1 (.ref 2 0)] [] [[.ref 1 0],[.opt 44 b1_1 1 0,.own 5 (List.map (eK .u8) b1_2),cI b1_3],vSNode b2] (tp [] []) [] [[.ref 1 0],[.opt 44 r.1 1 0,.own 5 (List.map (eK .u8) r.2.1),cI r.2.2],vSNode b2]:=by
 refine FnG.body (ts:=[]) Tryz.func40 rfl rfl (by decide) (by decide) (Nat.le_of_ble_eq_true rfl) rfl (Nat.le_of_ble_eq_true rfl) ?_
 obtain ⟨r1,h2,H⟩:=bs H
 obtain ⟨r3,h4,H⟩:=bs H
 refine dl hmix 3 [[],[],[1],[0,1,2]] [] 3 [] [hC 2 (impl_Node__linesOf.fn h2) (show (List.all [.own 9 (List.map eS r1)] PC.flatB) = true by simp [PC.flatB,PC.scalar,cI,cK,cB,cS,eS]),q0 3 (.frz (.t 4 0)),hG 3 [] [1] none (impl_printer__group_2.fn h4)] ?_
 obtain rfl:=si H;exact endsG (.inl rfl) (by kernel_rfl)
def impl_printer__deeper_4.f (k:Nat) (b0_1:Bool) (b0_2:(List Int)) (b0_3:Int) (b2:SNode):Option (Bool × (List Int) × Int):=(impl_printer__proc_1_2.f k b0_1 b0_2 (w64 (b0_3 + 1)) b2).bind fun r1=>some (r1.1,r1.2.1,w64 (r1.2.2 - 1))
theorem impl_printer__deeper_4.fn {k:Nat} {b0_1:Bool} {b0_2:(List Int)} {b0_3:Int} {b2:SNode} {r:(Bool × (List Int) × Int)} (H:impl_printer__deeper_4.f k b0_1 b0_2 b0_3 b2 = some r):FnG Tryz.prog 37 [o1 (.ref 0 0),o1 (.fn 40 [.ref 1 0,.ref 2 0])] [] [[.opt 44 b0_1 0 0,.own 5 (List.map (eK .u8) b0_2),cI b0_3],[.ref 0 0],vSNode b2] (tp [] []) [] [[.opt 44 r.1 0 0,.own 5 (List.map (eK .u8) r.2.1),cI r.2.2],[.ref 0 0],vSNode b2]:=by
 refine FnG.body (ts:=[]) Tryz.func37 rfl rfl (by decide) (by decide) (Nat.le_of_ble_eq_true rfl) rfl (Nat.le_of_ble_eq_true rfl) ?_
 refine rn [0,1] 3 [] [] ?_
 obtain ⟨r1,h2,H⟩:=bs H
 refine rn [0] 3 [] [hG 1 [] [1,0,2] none (impl_printer__proc_1_2.fn h2)] ?_
 refine rl [] 3 [] [] ?_
 obtain rfl:=si H;exact endsG (.inl rfl) (by kernel_rfl)
def impl_printer__statement_1_3.f (k:Nat) (rec_impl_printer__block_3:(SNode → Bool → (List Int) → Int → Option (Bool × (List Int) × Int))) (b1_1:Bool) (b1_2:(List Int)) (b1_3:Int) (b2:SNode):Option (Bool × (List Int) × Int):=(at? b2.f4 1).bind fun x1=>(rec_impl_printer__block_3 x1 b1_1 b1_2 b1_3).bind fun r3=>some (r3.1,r3.2.1,r3.2.2)
theorem impl_printer__statement_1_3.fn {k:Nat} {rec_impl_printer__block_3:(SNode → Bool → (List Int) → Int → Option (Bool × (List Int) × Int))} (ih_impl_printer__block_3:∀ {a1:SNode} {b0_1:Bool} {b0_2:(List Int)} {b0_3:Int} {r:(Bool × (List Int) × Int)} (H:rec_impl_printer__block_3 a1 b0_1 b0_2 b0_3 = some r),FnG Tryz.prog 42 [o1 (.ref 0 0),ag (vSNode a1)] [] [[.opt 44 b0_1 0 0,.own 5 (List.map (eK .u8) b0_2),cI b0_3]] (tp [] []) [] [[.opt 44 r.1 0 0,.own 5 (List.map (eK .u8) r.2.1),cI r.2.2]]) {b1_1:Bool} {b1_2:(List Int)} {b1_3:Int} {b2:SNode} {r:(Bool × (List Int) × Int)} (H:impl_printer__statement_1_3.f k rec_impl_printer__block_3 b1_1 b1_2 b1_3 b2 = some r):FnG Tryz.prog 106 [o1 (.ref 0 0),o1 (.ref 2 0)] [] [[.ref 1 0],[.opt 44 b1_1 1 0,.own 5 (List.map (eK .u8) b1_2),cI b1_3],vSNode b2] (tp [] []) [] [[.ref 1 0],[.opt 44 r.1 1 0,.own 5 (List.map (eK .u8) r.2.1),cI r.2.2],vSNode b2]:=by
 refine FnG.body (ts:=[]) Tryz.func106 rfl rfl (by decide) (by decide) (Nat.le_of_ble_eq_true rfl) rfl (Nat.le_of_ble_eq_true rfl) ?_
 obtain ⟨x1,h2,H⟩:=bs H
 obtain ⟨r3,h4,H⟩:=bs H
 refine dl hmix 5 [[],[],[1],[1,2],[1,2,3],[0,1,2,3,4]] [] 3 [] [hEv 3 eSNode_v h2,hG 5 [] [1] none (ih_impl_printer__block_3 h4)] ?_
 obtain rfl:=si H;exact endsG (.inl rfl) (by kernel_rfl)
def impl_printer__deeper_13.f (k:Nat) (rec_impl_printer__block_3:(SNode → Bool → (List Int) → Int → Option (Bool × (List Int) × Int))) (b0_1:Bool) (b0_2:(List Int)) (b0_3:Int) (b2:SNode):Option (Bool × (List Int) × Int):=(impl_printer__statement_1_3.f k rec_impl_printer__block_3 b0_1 b0_2 (w64 (b0_3 + 1)) b2).bind fun r1=>some (r1.1,r1.2.1,w64 (r1.2.2 - 1))
theorem impl_printer__deeper_13.fn {k:Nat} {rec_impl_printer__block_3:(SNode → Bool → (List Int) → Int → Option (Bool × (List Int) × Int))} (ih_impl_printer__block_3:∀ {a1:SNode} {b0_1:Bool} {b0_2:(List Int)} {b0_3:Int} {r:(Bool × (List Int) × Int)} (H:rec_impl_printer__block_3 a1 b0_1 b0_2 b0_3 = some r),FnG Tryz.prog 42 [o1 (.ref 0 0),ag (vSNode a1)] [] [[.opt 44 b0_1 0 0,.own 5 (List.map (eK .u8) b0_2),cI b0_3]] (tp [] []) [] [[.opt 44 r.1 0 0,.own 5 (List.map (eK .u8) r.2.1),cI r.2.2]]) {b0_1:Bool} {b0_2:(List Int)} {b0_3:Int} {b2:SNode} {r:(Bool × (List Int) × Int)} (H:impl_printer__deeper_13.f k rec_impl_printer__block_3 b0_1 b0_2 b0_3 b2 = some r):FnG Tryz.prog 37 [o1 (.ref 0 0),o1 (.fn 106 [.ref 1 0,.ref 2 0])] [] [[.opt 44 b0_1 0 0,.own 5 (List.map (eK .u8) b0_2),cI b0_3],[.ref 0 0],vSNode b2] (tp [] []) [] [[.opt 44 r.1 0 0,.own 5 (List.map (eK .u8) r.2.1),cI r.2.2],[.ref 0 0],vSNode b2]:=by
 refine FnG.body (ts:=[]) Tryz.func37 rfl rfl (by decide) (by decide) (Nat.le_of_ble_eq_true rfl) rfl (Nat.le_of_ble_eq_true rfl) ?_
 refine rn [0,1] 3 [] [] ?_
 obtain ⟨r1,h2,H⟩:=bs H
 refine rn [0] 3 [] [hG 1 [] [1,0,2] none (impl_printer__statement_1_3.fn ih_impl_printer__block_3 h2)] ?_
 refine rl [] 3 [] [] ?_
 obtain rfl:=si H;exact endsG (.inl rfl) (by kernel_rfl)
def impl_printer__statement_2_3.f (k:Nat) (rec_impl_printer__block_3:(SNode → Bool → (List Int) → Int → Option (Bool × (List Int) × Int))) (b1_1:Bool) (b1_2:(List Int)) (b1_3:Int) (b2:SNode):Option (Bool × (List Int) × Int):=(at? b2.f4 1).bind fun x1=>(rec_impl_printer__block_3 x1 b1_1 b1_2 b1_3).bind fun r3=>some (r3.1,r3.2.1,r3.2.2)
theorem impl_printer__statement_2_3.fn {k:Nat} {rec_impl_printer__block_3:(SNode → Bool → (List Int) → Int → Option (Bool × (List Int) × Int))} (ih_impl_printer__block_3:∀ {a1:SNode} {b0_1:Bool} {b0_2:(List Int)} {b0_3:Int} {r:(Bool × (List Int) × Int)} (H:rec_impl_printer__block_3 a1 b0_1 b0_2 b0_3 = some r),FnG Tryz.prog 42 [o1 (.ref 0 0),ag (vSNode a1)] [] [[.opt 44 b0_1 0 0,.own 5 (List.map (eK .u8) b0_2),cI b0_3]] (tp [] []) [] [[.opt 44 r.1 0 0,.own 5 (List.map (eK .u8) r.2.1),cI r.2.2]]) {b1_1:Bool} {b1_2:(List Int)} {b1_3:Int} {b2:SNode} {r:(Bool × (List Int) × Int)} (H:impl_printer__statement_2_3.f k rec_impl_printer__block_3 b1_1 b1_2 b1_3 b2 = some r):FnG Tryz.prog 107 [o1 (.ref 0 0),o1 (.ref 2 0)] [] [[.ref 1 0],[.opt 44 b1_1 1 0,.own 5 (List.map (eK .u8) b1_2),cI b1_3],vSNode b2] (tp [] []) [] [[.ref 1 0],[.opt 44 r.1 1 0,.own 5 (List.map (eK .u8) r.2.1),cI r.2.2],vSNode b2]:=by
 refine FnG.body (ts:=[]) Tryz.func107 rfl rfl (by decide) (by decide) (Nat.le_of_ble_eq_true rfl) rfl (Nat.le_of_ble_eq_true rfl) ?_
 obtain ⟨x1,h2,H⟩:=bs H
 obtain ⟨r3,h4,H⟩:=bs H
 refine dl hmix 5 [[],[],[1],[1,2],[1,2,3],[0,1,2,3,4]] [] 3 [] [hEv 3 eSNode_v h2,hG 5 [] [1] none (ih_impl_printer__block_3 h4)] ?_
 obtain rfl:=si H;exact endsG (.inl rfl) (by kernel_rfl)
def impl_printer__deeper_14.f (k:Nat) (rec_impl_printer__block_3:(SNode → Bool → (List Int) → Int → Option (Bool × (List Int) × Int))) (b0_1:Bool) (b0_2:(List Int)) (b0_3:Int) (b2:SNode):Option (Bool × (List Int) × Int):=(impl_printer__statement_2_3.f k rec_impl_printer__block_3 b0_1 b0_2 (w64 (b0_3 + 1)) b2).bind fun r1=>some (r1.1,r1.2.1,w64 (r1.2.2 - 1))
theorem impl_printer__deeper_14.fn {k:Nat} {rec_impl_printer__block_3:(SNode → Bool → (List Int) → Int → Option (Bool × (List Int) × Int))} (ih_impl_printer__block_3:∀ {a1:SNode} {b0_1:Bool} {b0_2:(List Int)} {b0_3:Int} {r:(Bool × (List Int) × Int)} (H:rec_impl_printer__block_3 a1 b0_1 b0_2 b0_3 = some r),FnG Tryz.prog 42 [o1 (.ref 0 0),ag (vSNode a1)] [] [[.opt 44 b0_1 0 0,.own 5 (List.map (eK .u8) b0_2),cI b0_3]] (tp [] []) [] [[.opt 44 r.1 0 0,.own 5 (List.map (eK .u8) r.2.1),cI r.2.2]]) {b0_1:Bool} {b0_2:(List Int)} {b0_3:Int} {b2:SNode} {r:(Bool × (List Int) × Int)} (H:impl_printer__deeper_14.f k rec_impl_printer__block_3 b0_1 b0_2 b0_3 b2 = some r):FnG Tryz.prog 37 [o1 (.ref 0 0),o1 (.fn 107 [.ref 1 0,.ref 2 0])] [] [[.opt 44 b0_1 0 0,.own 5 (List.map (eK .u8) b0_2),cI b0_3],[.ref 0 0],vSNode b2] (tp [] []) [] [[.opt 44 r.1 0 0,.own 5 (List.map (eK .u8) r.2.1),cI r.2.2],[.ref 0 0],vSNode b2]:=by
 refine FnG.body (ts:=[]) Tryz.func37 rfl rfl (by decide) (by decide) (Nat.le_of_ble_eq_true rfl) rfl (Nat.le_of_ble_eq_true rfl) ?_
 refine rn [0,1] 3 [] [] ?_
 obtain ⟨r1,h2,H⟩:=bs H
 refine rn [0] 3 [] [hG 1 [] [1,0,2] none (impl_printer__statement_2_3.fn ih_impl_printer__block_3 h2)] ?_
 refine rl [] 3 [] [] ?_
 obtain rfl:=si H;exact endsG (.inl rfl) (by kernel_rfl)
def impl_printer__statement_3_3.f (k:Nat) (rec_impl_printer__block_3:(SNode → Bool → (List Int) → Int → Option (Bool × (List Int) × Int))) (b1_1:Bool) (b1_2:(List Int)) (b1_3:Int) (b2:SNode):Option (Bool × (List Int) × Int):=(at? b2.f4 2).bind fun x1=>(rec_impl_printer__block_3 x1 b1_1 b1_2 b1_3).bind fun r3=>some (r3.1,r3.2.1,r3.2.2)
theorem impl_printer__statement_3_3.fn {k:Nat} {rec_impl_printer__block_3:(SNode → Bool → (List Int) → Int → Option (Bool × (List Int) × Int))} (ih_impl_printer__block_3:∀ {a1:SNode} {b0_1:Bool} {b0_2:(List Int)} {b0_3:Int} {r:(Bool × (List Int) × Int)} (H:rec_impl_printer__block_3 a1 b0_1 b0_2 b0_3 = some r),FnG Tryz.prog 42 [o1 (.ref 0 0),ag (vSNode a1)] [] [[.opt 44 b0_1 0 0,.own 5 (List.map (eK .u8) b0_2),cI b0_3]] (tp [] []) [] [[.opt 44 r.1 0 0,.own 5 (List.map (eK .u8) r.2.1),cI r.2.2]]) {b1_1:Bool} {b1_2:(List Int)} {b1_3:Int} {b2:SNode} {r:(Bool × (List Int) × Int)} (H:impl_printer__statement_3_3.f k rec_impl_printer__block_3 b1_1 b1_2 b1_3 b2 = some r):FnG Tryz.prog 108 [o1 (.ref 0 0),o1 (.ref 2 0)] [] [[.ref 1 0],[.opt 44 b1_1 1 0,.own 5 (List.map (eK .u8) b1_2),cI b1_3],vSNode b2] (tp [] []) [] [[.ref 1 0],[.opt 44 r.1 1 0,.own 5 (List.map (eK .u8) r.2.1),cI r.2.2],vSNode b2]:=by
 refine FnG.body (ts:=[]) Tryz.func108 rfl rfl (by decide) (by decide) (Nat.le_of_ble_eq_true rfl) rfl (Nat.le_of_ble_eq_true rfl) ?_
 obtain ⟨x1,h2,H⟩:=bs H
 obtain ⟨r3,h4,H⟩:=bs H
 refine dl hmix 5 [[],[],[1],[1,2],[1,2,3],[0,1,2,3,4]] [] 3 [] [hEv 3 eSNode_v h2,hG 5 [] [1] none (ih_impl_printer__block_3 h4)] ?_
 obtain rfl:=si H;exact endsG (.inl rfl) (by kernel_rfl)
def impl_printer__deeper_15.f (k:Nat) (rec_impl_printer__block_3:(SNode → Bool → (List Int) → Int → Option (Bool × (List Int) × Int))) (b0_1:Bool) (b0_2:(List Int)) (b0_3:Int) (b2:SNode):Option (Bool × (List Int) × Int):=(impl_printer__statement_3_3.f k rec_impl_printer__block_3 b0_1 b0_2 (w64 (b0_3 + 1)) b2).bind fun r1=>some (r1.1,r1.2.1,w64 (r1.2.2 - 1))
theorem impl_printer__deeper_15.fn {k:Nat} {rec_impl_printer__block_3:(SNode → Bool → (List Int) → Int → Option (Bool × (List Int) × Int))} (ih_impl_printer__block_3:∀ {a1:SNode} {b0_1:Bool} {b0_2:(List Int)} {b0_3:Int} {r:(Bool × (List Int) × Int)} (H:rec_impl_printer__block_3 a1 b0_1 b0_2 b0_3 = some r),FnG Tryz.prog 42 [o1 (.ref 0 0),ag (vSNode a1)] [] [[.opt 44 b0_1 0 0,.own 5 (List.map (eK .u8) b0_2),cI b0_3]] (tp [] []) [] [[.opt 44 r.1 0 0,.own 5 (List.map (eK .u8) r.2.1),cI r.2.2]]) {b0_1:Bool} {b0_2:(List Int)} {b0_3:Int} {b2:SNode} {r:(Bool × (List Int) × Int)} (H:impl_printer__deeper_15.f k rec_impl_printer__block_3 b0_1 b0_2 b0_3 b2 = some r):FnG Tryz.prog 37 [o1 (.ref 0 0),o1 (.fn 108 [.ref 1 0,.ref 2 0])] [] [[.opt 44 b0_1 0 0,.own 5 (List.map (eK .u8) b0_2),cI b0_3],[.ref 0 0],vSNode b2] (tp [] []) [] [[.opt 44 r.1 0 0,.own 5 (List.map (eK .u8) r.2.1),cI r.2.2],[.ref 0 0],vSNode b2]:=by
 refine FnG.body (ts:=[]) Tryz.func37 rfl rfl (by decide) (by decide) (Nat.le_of_ble_eq_true rfl) rfl (Nat.le_of_ble_eq_true rfl) ?_
 refine rn [0,1] 3 [] [] ?_
 obtain ⟨r1,h2,H⟩:=bs H
 refine rn [0] 3 [] [hG 1 [] [1,0,2] none (impl_printer__statement_3_3.fn ih_impl_printer__block_3 h2)] ?_
 refine rl [] 3 [] [] ?_
 obtain rfl:=si H;exact endsG (.inl rfl) (by kernel_rfl)
def impl_printer__statement_4.e1 (k:Nat) (a1:SNode) (a2:ByteArray):Option ByteArray:=if (0:Int) < (a1.f4.length:Int) then ((at? a1.f4 0).bind fun x23=>(impl_Node__text.f k x23).bind fun r25=>if (⟨#[32]⟩:ByteArray).size + r25.size ≤ 9223372036854775807 then (if ((⟨#[32]⟩:ByteArray) ++ r25).size + a2.size ≤ 9223372036854775807 then (some (((⟨#[32]⟩:ByteArray) ++ r25) ++ a2)) else none) else none) else (some a2)
def impl_printer__statement_4.e2 (k:Nat) (a1:SNode) (rec_impl_printer__block_3:(SNode → Bool → (List Int) → Int → Option (Bool × (List Int) × Int))) (r77:(Bool × (List Int) × Int)):Option (Bool × (List Int) × Int):=if (2:Int) < (a1.f4.length:Int) then ((impl_printer__line_1.f k (⟨#[69,76,83,69]⟩:ByteArray) r77.1 r77.2.1 r77.2.2).bind fun r80=>(impl_printer__deeper_15.f k rec_impl_printer__block_3 r80.1 r80.2 r77.2.2 a1).bind fun r82=>some (r82.1,r82.2.1,r82.2.2)) else (some (r77.1,r77.2.1,r77.2.2))
def impl_printer__statement_4.f (k:Nat) (rec_impl_printer__block_3:(SNode → Bool → (List Int) → Int → Option (Bool × (List Int) × Int))) (a1:SNode) (a2:ByteArray) (b0_1:Bool) (b0_2:(List Int)) (b0_3:Int):Option (Bool × (List Int) × Int):=if a1.f0 = 11 then ((at? a1.f4 0).bind fun x2=>(impl_Node__text.f k x2).bind fun r4=>if r4.size + (⟨#[32,58,61,32]⟩:ByteArray).size ≤ 9223372036854775807 then ((at? a1.f4 1).bind fun x7=>(impl_Node__text.f k x7).bind fun r9=>if (r4 ++ (⟨#[32,58,61,32]⟩:ByteArray)).size + r9.size ≤ 9223372036854775807 then (if ((r4 ++ (⟨#[32,58,61,32]⟩:ByteArray)) ++ r9).size + a2.size ≤ 9223372036854775807 then ((impl_printer__line_1.f k (((r4 ++ (⟨#[32,58,61,32]⟩:ByteArray)) ++ r9) ++ a2) b0_1 b0_2 b0_3).bind fun r13=>some (r13.1,r13.2,b0_3)) else none) else none) else none) else (if a1.f0 = 12 then ((impl_Node__text.f k a1).bind fun r16=>if r16.size + a2.size ≤ 9223372036854775807 then ((impl_printer__line_1.f k (r16 ++ a2) b0_1 b0_2 b0_3).bind fun r19=>some (r19.1,r19.2,b0_3)) else none) else (if a1.f0 = 15 then ((impl_printer__statement_4.e1 k a1 a2).bind fun y29=>if (⟨#[82,69,84,85,82,78]⟩:ByteArray).size + y29.size ≤ 9223372036854775807 then ((impl_printer__line_1.f k ((⟨#[82,69,84,85,82,78]⟩:ByteArray) ++ y29) b0_1 b0_2 b0_3).bind fun r33=>some (r33.1,r33.2,b0_3)) else none) else (if a1.f0 = 16 then ((at? a1.f4 0).bind fun x36=>(impl_Node__text.f k x36).bind fun r38=>if (⟨#[87,82,73,84,69,40]⟩:ByteArray).size + r38.size ≤ 9223372036854775807 then (if ((⟨#[87,82,73,84,69,40]⟩:ByteArray) ++ r38).size + (⟨#[41]⟩:ByteArray).size ≤ 9223372036854775807 then (if (((⟨#[87,82,73,84,69,40]⟩:ByteArray) ++ r38) ++ (⟨#[41]⟩:ByteArray)).size + a2.size ≤ 9223372036854775807 then ((impl_printer__line_1.f k ((((⟨#[87,82,73,84,69,40]⟩:ByteArray) ++ r38) ++ (⟨#[41]⟩:ByteArray)) ++ a2) b0_1 b0_2 b0_3).bind fun r43=>some (r43.1,r43.2,b0_3)) else none) else none) else none) else (if a1.f0 = 17 then ((at? a1.f4 0).bind fun x46=>(impl_Node__text.f k x46).bind fun r48=>if (⟨#[82,69,65,68,40]⟩:ByteArray).size + r48.size ≤ 9223372036854775807 then (if ((⟨#[82,69,65,68,40]⟩:ByteArray) ++ r48).size + (⟨#[41]⟩:ByteArray).size ≤ 9223372036854775807 then (if (((⟨#[82,69,65,68,40]⟩:ByteArray) ++ r48) ++ (⟨#[41]⟩:ByteArray)).size + a2.size ≤ 9223372036854775807 then ((impl_printer__line_1.f k ((((⟨#[82,69,65,68,40]⟩:ByteArray) ++ r48) ++ (⟨#[41]⟩:ByteArray)) ++ a2) b0_1 b0_2 b0_3).bind fun r53=>some (r53.1,r53.2,b0_3)) else none) else none) else none) else (if a1.f0 = 14 then ((at? a1.f4 0).bind fun x56=>(impl_Node__text.f k x56).bind fun r58=>if (⟨#[87,72,73,76,69,32]⟩:ByteArray).size + r58.size ≤ 9223372036854775807 then (if ((⟨#[87,72,73,76,69,32]⟩:ByteArray) ++ r58).size + (⟨#[32,68,79]⟩:ByteArray).size ≤ 9223372036854775807 then ((impl_printer__line_1.f k (((⟨#[87,72,73,76,69,32]⟩:ByteArray) ++ r58) ++ (⟨#[32,68,79]⟩:ByteArray)) b0_1 b0_2 b0_3).bind fun r62=>(impl_printer__deeper_13.f k rec_impl_printer__block_3 r62.1 r62.2 b0_3 a1).bind fun r64=>if (⟨#[69,78,68]⟩:ByteArray).size + a2.size ≤ 9223372036854775807 then ((impl_printer__line_1.f k ((⟨#[69,78,68]⟩:ByteArray) ++ a2) r64.1 r64.2.1 r64.2.2).bind fun r67=>some (r67.1,r67.2,r64.2.2)) else none) else none) else none) else ((at? a1.f4 0).bind fun x69=>(impl_Node__text.f k x69).bind fun r71=>if (⟨#[73,70,32]⟩:ByteArray).size + r71.size ≤ 9223372036854775807 then (if ((⟨#[73,70,32]⟩:ByteArray) ++ r71).size + (⟨#[32,84,72,69,78]⟩:ByteArray).size ≤ 9223372036854775807 then ((impl_printer__line_1.f k (((⟨#[73,70,32]⟩:ByteArray) ++ r71) ++ (⟨#[32,84,72,69,78]⟩:ByteArray)) b0_1 b0_2 b0_3).bind fun r75=>(impl_printer__deeper_14.f k rec_impl_printer__block_3 r75.1 r75.2 b0_3 a1).bind fun r77=>(impl_printer__statement_4.e2 k a1 rec_impl_printer__block_3 r77).bind fun v=>match v with | (y84,y85,y86)=>if (⟨#[69,78,68]⟩:ByteArray).size + a2.size ≤ 9223372036854775807 then ((impl_printer__line_1.f k ((⟨#[69,78,68]⟩:ByteArray) ++ a2) y84 y85 y86).bind fun r90=>some (r90.1,r90.2,y86)) else none) else none) else none))))))
theorem impl_printer__statement_4.fn {k:Nat} {rec_impl_printer__block_3:(SNode → Bool → (List Int) → Int → Option (Bool × (List Int) × Int))} (ih_impl_printer__block_3:∀ {a1:SNode} {b0_1:Bool} {b0_2:(List Int)} {b0_3:Int} {r:(Bool × (List Int) × Int)} (H:rec_impl_printer__block_3 a1 b0_1 b0_2 b0_3 = some r),FnG Tryz.prog 42 [o1 (.ref 0 0),ag (vSNode a1)] [] [[.opt 44 b0_1 0 0,.own 5 (List.map (eK .u8) b0_2),cI b0_3]] (tp [] []) [] [[.opt 44 r.1 0 0,.own 5 (List.map (eK .u8) r.2.1),cI r.2.2]]) {a1:SNode} {a2:ByteArray} {b0_1:Bool} {b0_2:(List Int)} {b0_3:Int} {r:(Bool × (List Int) × Int)} (H:impl_printer__statement_4.f k rec_impl_printer__block_3 a1 a2 b0_1 b0_2 b0_3 = some r):FnG Tryz.prog 70 [o1 (.ref 0 0),ag (vSNode a1),oS a2] [] [[.opt 44 b0_1 0 0,.own 5 (List.map (eK .u8) b0_2),cI b0_3]] (tp [] []) [] [[.opt 44 r.1 0 0,.own 5 (List.map (eK .u8) r.2.1),cI r.2.2]]:=by
 refine FnG.body (ts:=[]) Tryz.func70 rfl rfl (by decide) (by decide) (Nat.le_of_ble_eq_true rfl) rfl (Nat.le_of_ble_eq_true rfl) ?_
 refine rn [2,3,4] 3 [] [] ?_
 refine rn [2,3,4,7] 3 [] [] ?_
 refine bl ?_
 refine rn [2,3,4,7,33] 3 [] [] ?_
 refine ci H (fun h1 H=>?_) fun h1 H=>?_
 ·obtain ⟨x2,h3,H⟩:=bs H
  obtain ⟨r4,h5,H⟩:=bs H
  obtain ⟨h6,H⟩:=nd H
  obtain ⟨x7,h8,H⟩:=bs H
  obtain ⟨r9,h10,H⟩:=bs H
  obtain ⟨h11,H⟩:=nd H
  obtain ⟨h12,H⟩:=nd H
  obtain ⟨r13,h14,H⟩:=bs H
  refine dl hmix 15 [[],[],[1],[1,2],[1,2,3],[1,2,3,4],[1,2,3,4,5],[],[7],[7,8],[7,8,9],[1,2,3,4,5,7,8,9,10],[1,2,3,4,5,6,7,8,9,10,11],[],[1,2,3,4,5,6,7,8,9,10,11,12,13],[0,1,2,3,4,5,6,7,8,9,10,11,12,13,14]] [] 1 [] [hEv 3 eSNode_v h3,hC 5 (impl_Node__text.fn h5),p1 h6,hEv 9 eSNode_v h8,hC 11 (impl_Node__text.fn h10),p1 h11,p1 h12,hG 15 [] [0] none (impl_printer__line_1.fn h14)] ?_
  obtain rfl:=si H;exact endsG (.inl rfl) (by kernel_rfl)
 refine rn [2,3,4,7,51] 3 [] [] ?_
 refine ci H (fun h15 H=>?_) fun h15 H=>?_
 ·obtain ⟨r16,h17,H⟩:=bs H
  obtain ⟨h18,H⟩:=nd H
  obtain ⟨r19,h20,H⟩:=bs H
  refine dl hmix 5 [[],[],[1],[],[1,2,3],[0,1,2,3,4]] [] 1 [] [hC 2 (impl_Node__text.fn h17),p1 h18,hG 5 [] [0] none (impl_printer__line_1.fn h20)] ?_
  obtain rfl:=si H;exact endsG (.inl rfl) (by kernel_rfl)
 refine rn [2,3,4,7,59] 3 [] [] ?_
 refine ci H (fun h21 H=>?_) fun h21 H=>?_
 ·refine jo H (fun y29=>⟨121,[(2,oS y29),(3,o1 (.ref 1 0))],[[.opt 44 b0_1 0 0,.own 5 (List.map (eK .u8) b0_2),cI b0_3],[.ref 0 0]],1,[]⟩) (fun y29 H=>?_) fun v31 h30 H=>?_
  ·obtain ⟨h32,H⟩:=nd H
   obtain ⟨r33,h34,H⟩:=bs H
   refine rl [] 1 [] [p1 h32,hG 3 [] [0] none (impl_printer__line_1.fn h34)] ?_
   obtain rfl:=si H;exact endsG (.inl rfl) (by kernel_rfl)
  refine rx [2,3,4,64] 3 [] [hL 2 eSNode a1.f4] ⟨121,[(2,oS a2),(3,o1 (.ref 1 0)),(4,o1 (.ref 2 0)),(64,oB (decide ((0:Int) < (a1.f4.length:Int))))],[[.opt 44 b0_1 0 0,.own 5 (List.map (eK .u8) b0_2),cI b0_3],[.ref 0 0],vSNode a1],1,[]⟩ ?_
  refine ci h30 (fun h22 h30=>?_) fun h22 h30=>?_
  ·obtain ⟨x23,h24,h30⟩:=bs h30
   obtain ⟨r25,h26,h30⟩:=bs h30
   obtain ⟨h27,h30⟩:=nd h30
   obtain ⟨h28,h30⟩:=nd h30
   refine rl [2,3] 2 [] [hEv 2 eSNode_v h24,hC 4 (impl_Node__text.fn h26),p1 h27,p1 h28] ?_
   exact pf (((⟨#[32]⟩:ByteArray) ++ r25) ++ a2) h30
  refine fx [2,3] 2 [] ?_
  refine sk ?_
  exact pf a2 h30
 refine rx [2,3,4,7,77] 3 [] [] ⟨121,[(2,oS a2),(3,o1 (.ref 1 0)),(4,o1 (.ref 2 0)),(7,oI a1.f0),(77,oB (decide (a1.f0 = 16)))],[[.opt 44 b0_1 0 0,.own 5 (List.map (eK .u8) b0_2),cI b0_3],[.ref 0 0],vSNode a1],1,[]⟩ ?_
 refine ci H (fun h35 H=>?_) fun h35 H=>?_
 ·obtain ⟨x36,h37,H⟩:=bs H
  obtain ⟨r38,h39,H⟩:=bs H
  obtain ⟨h40,H⟩:=nd H
  obtain ⟨h41,H⟩:=nd H
  obtain ⟨h42,H⟩:=nd H
  obtain ⟨r43,h44,H⟩:=bs H
  refine dl hmix 10 [[],[],[1],[1,2],[1,2,3],[1,2,3,4],[1,2,3,4,5],[1,2,3,4,5,6],[],[1,2,3,4,5,6,7,8],[0,1,2,3,4,5,6,7,8,9]] [] 1 [] [hEv 3 eSNode_v h37,hC 5 (impl_Node__text.fn h39),p1 h40,p1 h41,p1 h42,hG 10 [] [0] none (impl_printer__line_1.fn h44)] ?_
  obtain rfl:=si H;exact endsG (.inl rfl) (by kernel_rfl)
 refine rn [2,3,4,7,90] 3 [] [] ?_
 refine ci H (fun h45 H=>?_) fun h45 H=>?_
 ·obtain ⟨x46,h47,H⟩:=bs H
  obtain ⟨r48,h49,H⟩:=bs H
  obtain ⟨h50,H⟩:=nd H
  obtain ⟨h51,H⟩:=nd H
  obtain ⟨h52,H⟩:=nd H
  obtain ⟨r53,h54,H⟩:=bs H
  refine dl hmix 10 [[],[],[1],[1,2],[1,2,3],[1,2,3,4],[1,2,3,4,5],[1,2,3,4,5,6],[],[1,2,3,4,5,6,7,8],[0,1,2,3,4,5,6,7,8,9]] [] 1 [] [hEv 3 eSNode_v h47,hC 5 (impl_Node__text.fn h49),p1 h50,p1 h51,p1 h52,hG 10 [] [0] none (impl_printer__line_1.fn h54)] ?_
  obtain rfl:=si H;exact endsG (.inl rfl) (by kernel_rfl)
 refine rn [2,3,4,103] 3 [] [] ?_
 refine ci H (fun h55 H=>?_) fun h55 H=>?_
 ·obtain ⟨x56,h57,H⟩:=bs H
  obtain ⟨r58,h59,H⟩:=bs H
  obtain ⟨h60,H⟩:=nd H
  obtain ⟨h61,H⟩:=nd H
  obtain ⟨r62,h63,H⟩:=bs H
  refine dn hmix 8 [[],[],[1],[1,2],[1,2,3],[1,2,3,4],[1,2,3,4,5],[1,2,3,4,5,6],[0,1,2,3,4,5,6,7]] [2,3,4] 3 [] [hEv 3 eSNode_v h57,hC 5 (impl_Node__text.fn h59),p1 h60,p1 h61,hG 8 [] [0] none (impl_printer__line_1.fn h63)] ?_
  obtain ⟨r64,h65,H⟩:=bs H
  refine rn [2,3] 2 [] [hG 2 [] [0,1,2] none (impl_printer__deeper_13.fn ih_impl_printer__block_3 h65)] ?_
  obtain ⟨h66,H⟩:=nd H
  obtain ⟨r67,h68,H⟩:=bs H
  refine rl [] 1 [] [p1 h66,hG 3 [] [0] none (impl_printer__line_1.fn h68)] ?_
  obtain rfl:=si H;exact endsG (.inl rfl) (by kernel_rfl)
 obtain ⟨x69,h70,H⟩:=bs H
 obtain ⟨r71,h72,H⟩:=bs H
 obtain ⟨h73,H⟩:=nd H
 obtain ⟨h74,H⟩:=nd H
 obtain ⟨r75,h76,H⟩:=bs H
 refine dn hmix 8 [[],[],[1],[1,2],[1,2,3],[1,2,3,4],[1,2,3,4,5],[1,2,3,4,5,6],[0,1,2,3,4,5,6,7]] [2,3,4] 3 [] [hEv 3 eSNode_v h70,hC 5 (impl_Node__text.fn h72),p1 h73,p1 h74,hG 8 [] [0] none (impl_printer__line_1.fn h76)] ?_
 obtain ⟨r77,h78,H⟩:=bs H
 refine rn [2,3,4] 3 [] [hG 2 [] [0,1,2] none (impl_printer__deeper_14.fn ih_impl_printer__block_3 h78)] ?_
 refine jo H (fun w=>⟨121,[(2,oS a2),(3,o1 (.ref 1 0))],[[.opt 44 w.1 0 0,.own 5 (List.map (eK .u8) w.2.1),cI w.2.2],[.ref 0 0]],1,[]⟩) (fun w H=>?_) fun v88 h87 H=>?_
 ·obtain ⟨y84,y85,y86⟩:=w
  obtain ⟨h89,H⟩:=nd H
  obtain ⟨r90,h91,H⟩:=bs H
  refine rl [] 1 [] [p1 h89,hG 3 [] [0] none (impl_printer__line_1.fn h91)] ?_
  obtain rfl:=si H;exact endsG (.inl rfl) (by kernel_rfl)
 refine rn [2,3,4,23] 3 [] [hL 2 eSNode a1.f4] ?_
 refine ci h87 (fun h79 h87=>?_) fun h79 h87=>?_
 ·obtain ⟨r80,h81,h87⟩:=bs h87
  refine rx [2,3,4] 3 [] [hG 1 [] [0] none (impl_printer__line_1.fn h81)] ⟨121,[(2,oS a2),(3,o1 (.ref 1 0)),(4,o1 (.ref 2 0))],[[.opt 44 r80.1 0 0,.own 5 (List.map (eK .u8) r80.2),cI r77.2.2],[.ref 0 0],vSNode a1],1,[]⟩ ?_
  obtain ⟨r82,h83,h87⟩:=bs h87
  refine rl [2,3] 2 [] [hG 2 [] [0,1,2] none (impl_printer__deeper_15.fn ih_impl_printer__block_3 h83)] ?_
  exact pf (r82.1,r82.2.1,r82.2.2) h87
 refine fx [2,3] 2 [] ?_
 refine sk ?_
 exact pf (r77.1,r77.2.1,r77.2.2) h87
def impl_printer__block_3.e1 (k:Nat) (a1:SNode) (z10:Int):Option ByteArray:=if (w64 (z10 + 1)) = (a1.f4.length:Int) then (some (⟨#[]⟩:ByteArray)) else (some (⟨#[59]⟩:ByteArray))
def impl_printer__block_3.l2:Nat → SNode → (SNode → Bool → (List Int) → Int → Option (Bool × (List Int) × Int)) → Int → Bool → (List Int) → Int → Option (Bool × (List Int) × Int)
  | 0,_,_,_,_,_,_=>none
  | k + 1,a1,rec_impl_printer__block_3,z10,z11,z12,z13=>if z10 < (a1.f4.length:Int) then ((at? a1.f4 z10).bind fun x15=>(impl_printer__block_3.e1 k a1 z10).bind fun y18=>(impl_printer__statement_4.f k rec_impl_printer__block_3 x15 y18 z11 z12 z13).bind fun r21=>impl_printer__block_3.l2 k a1 rec_impl_printer__block_3 (w64 (z10 + 1)) r21.1 r21.2.1 r21.2.2) else (some (z11,z12,z13))
def impl_printer__block_3.f:Nat → SNode → Bool → (List Int) → Int → Option (Bool × (List Int) × Int)
  | 0,_,_,_,_=>none
  | k + 1,a1,b0_1,b0_2,b0_3=>impl_printer__block_3.l2 k a1 (impl_printer__block_3.f k) 0 b0_1 b0_2 b0_3
theorem impl_printer__block_3.fn {k:Nat}:∀ {a1:SNode} {b0_1:Bool} {b0_2:(List Int)} {b0_3:Int} {r:(Bool × (List Int) × Int)} (H:impl_printer__block_3.f k a1 b0_1 b0_2 b0_3 = some r),FnG Tryz.prog 42 [o1 (.ref 0 0),ag (vSNode a1)] [] [[.opt 44 b0_1 0 0,.own 5 (List.map (eK .u8) b0_2),cI b0_3]] (tp [] []) [] [[.opt 44 r.1 0 0,.own 5 (List.map (eK .u8) r.2.1),cI r.2.2]]:=by
 induction k with
 | zero=>intro a1 b0_1 b0_2 b0_3 r H; exact absurd H (by simp [impl_printer__block_3.f])
 | succ k ih_impl_printer__block_3 =>
 intro a1 b0_1 b0_2 b0_3 r H
 rw [impl_printer__block_3.f.eq_2] at H
 generalize impl_printer__block_3.f k = rec_impl_printer__block_3 at H ih_impl_printer__block_3
 refine FnG.body (ts:=[]) Tryz.func42 rfl rfl (by decide) (by decide) (Nat.le_of_ble_eq_true rfl) rfl (Nat.le_of_ble_eq_true rfl) ?_
 refine rn [0,3] 2 [] [] ?_
 refine rn [0,3,8,9,10] 2 [] [hL 2 eSNode a1.f4] ?_
 refine bl ?_
 refine lo (Int × Bool × (List Int) × Int) k (fun k x=>impl_printer__block_3.l2 k a1 rec_impl_printer__block_3 x.1 x.2.1 x.2.2.1 x.2.2.2) (fun x=>⟨26,[(0,o1 (.ref 0 0)),(3,o1 (.ref 1 0)),(8,o1 (.sl 5 (List.map eSNode a1.f4))),(9,oI (a1.f4.length:Int)),(10,oI x.1)],[[.opt 44 x.2.1 0 0,.own 5 (List.map (eK .u8) x.2.2.1),cI x.2.2.2],vSNode a1],1,[]⟩) (0,b0_1,b0_2,b0_3) H fun k x H IH23=>?_
 obtain ⟨z10,z11,z12,z13⟩:=x
 rw [impl_printer__block_3.l2.eq_2] at H
 refine rn [0,3,8,9,10,11] 2 [] [] ?_
 refine sq ?_
 refine ci H (fun h14 H=>?_) fun h14 H=>?_
 ·refine sk ?_
  refine sq ?_
  refine bl ?_
  obtain ⟨x15,h16,H⟩:=bs H
  refine rn [0,3,4,5,8,9,10] 3 [] [hEv 1 eSNode_v h16] ?_
  refine rn [0,3,4,5,6,8,9,10] 3 [] [] ?_
  refine jo H (fun y18=>⟨26,[(0,o1 (.ref 0 0)),(3,o1 (.ref 1 0)),(5,o1 (.ref 2 0)),(6,oS y18),(8,o1 (.sl 5 (List.map eSNode a1.f4))),(9,oI (a1.f4.length:Int)),(10,oI z10)],[[.opt 44 z11 0 0,.own 5 (List.map (eK .u8) z12),cI z13],vSNode a1,vSNode x15],1,[]⟩) (fun y18 H=>?_) fun v20 h19 H=>?_
  ·obtain ⟨r21,h22,H⟩:=bs H
   refine rl [0,3,8,9,10] 2 [] [hG 3 [] [0] none (impl_printer__statement_4.fn ih_impl_printer__block_3 h22)] ?_
   refine rl [0,3,8,9,10] 2 [] [] ?_
   exact lb IH23 (w64 (z10 + 1),r21.1,r21.2.1,r21.2.2) H
  refine rn [0,3,5,6,8,9,10,20] 3 [] [hL 4 eSNode a1.f4] ?_
  refine ci h19 (fun h17 h19=>?_) fun h17 h19=>?_
  ·refine rl [0,3,5,6,8,9,10] 3 [] [] ?_
   exact pf (⟨#[]⟩:ByteArray) h19
  refine fx [0,3,5,6,8,9,10] 3 [] ?_
  refine sk ?_
  exact pf (⟨#[59]⟩:ByteArray) h19
 refine xi ?_
 obtain rfl:=si H;exact endsG (.inl rfl) (by kernel_rfl)
def impl_printer__body_1_2.f (k:Nat) (b1_1:Bool) (b1_2:(List Int)) (b1_3:Int) (b2:SNode):Option (Bool × (List Int) × Int):=(impl_printer__block_3.f k b2 b1_1 b1_2 b1_3).bind fun r1=>some (r1.1,r1.2.1,r1.2.2)
theorem impl_printer__body_1_2.fn {k:Nat} {b1_1:Bool} {b1_2:(List Int)} {b1_3:Int} {b2:SNode} {r:(Bool × (List Int) × Int)} (H:impl_printer__body_1_2.f k b1_1 b1_2 b1_3 b2 = some r):FnG Tryz.prog 41 [o1 (.ref 0 0),o1 (.ref 2 0)] [] [[.ref 1 0],[.opt 44 b1_1 1 0,.own 5 (List.map (eK .u8) b1_2),cI b1_3],vSNode b2] (tp [] []) [] [[.ref 1 0],[.opt 44 r.1 1 0,.own 5 (List.map (eK .u8) r.2.1),cI r.2.2],vSNode b2]:=by
 refine FnG.body (ts:=[]) Tryz.func41 rfl rfl (by decide) (by decide) (Nat.le_of_ble_eq_true rfl) rfl (Nat.le_of_ble_eq_true rfl) ?_
 obtain ⟨r1,h2,H⟩:=bs H
 refine rl [] 3 [] [hG 2 [] [1] none (impl_printer__block_3.fn h2)] ?_
 obtain rfl:=si H;exact endsG (.inl rfl) (by kernel_rfl)
def impl_printer__deeper_6.f (k:Nat) (b0_1:Bool) (b0_2:(List Int)) (b0_3:Int) (b2:SNode):Option (Bool × (List Int) × Int):=(impl_printer__body_1_2.f k b0_1 b0_2 (w64 (b0_3 + 1)) b2).bind fun r1=>some (r1.1,r1.2.1,w64 (r1.2.2 - 1))
theorem impl_printer__deeper_6.fn {k:Nat} {b0_1:Bool} {b0_2:(List Int)} {b0_3:Int} {b2:SNode} {r:(Bool × (List Int) × Int)} (H:impl_printer__deeper_6.f k b0_1 b0_2 b0_3 b2 = some r):FnG Tryz.prog 37 [o1 (.ref 0 0),o1 (.fn 41 [.ref 1 0,.ref 2 0])] [] [[.opt 44 b0_1 0 0,.own 5 (List.map (eK .u8) b0_2),cI b0_3],[.ref 0 0],vSNode b2] (tp [] []) [] [[.opt 44 r.1 0 0,.own 5 (List.map (eK .u8) r.2.1),cI r.2.2],[.ref 0 0],vSNode b2]:=by
 refine FnG.body (ts:=[]) Tryz.func37 rfl rfl (by decide) (by decide) (Nat.le_of_ble_eq_true rfl) rfl (Nat.le_of_ble_eq_true rfl) ?_
 refine rn [0,1] 3 [] [] ?_
 obtain ⟨r1,h2,H⟩:=bs H
 refine rn [0] 3 [] [hG 1 [] [1,0,2] none (impl_printer__body_1_2.fn h2)] ?_
 refine rl [] 3 [] [] ?_
 obtain rfl:=si H;exact endsG (.inl rfl) (by kernel_rfl)
def impl_printer__body_2.e1 (k:Nat) (b0_1:Bool) (b0_2:(List Int)) (b0_3:Int) (x1:SNode):Option (Bool × (List Int) × Int):=if (0:Int) < (x1.f4.length:Int) then ((impl_printer__line_1.f k (⟨#[66,69,71,73,78]⟩:ByteArray) b0_1 b0_2 b0_3).bind fun r4=>(impl_printer__deeper_6.f k r4.1 r4.2 b0_3 x1).bind fun r6=>some (r6.1,r6.2.1,r6.2.2)) else (some (b0_1,b0_2,b0_3))
def impl_printer__body_2.f (k:Nat) (a1:SNode) (a2:ByteArray) (b0_1:Bool) (b0_2:(List Int)) (b0_3:Int):Option (Bool × (List Int) × Int):=(at? a1.f4 (w64 ((a1.f4.length:Int) - 1))).bind fun x1=>(impl_printer__body_2.e1 k b0_1 b0_2 b0_3 x1).bind fun v=>match v with | (y8,y9,y10)=>if (⟨#[69,78,68,32]⟩:ByteArray).size + a1.f2.size ≤ 9223372036854775807 then (if ((⟨#[69,78,68,32]⟩:ByteArray) ++ a1.f2).size + a2.size ≤ 9223372036854775807 then ((impl_printer__line_1.f k (((⟨#[69,78,68,32]⟩:ByteArray) ++ a1.f2) ++ a2) y8 y9 y10).bind fun r15=>some (r15.1,r15.2,y10)) else none) else none
theorem impl_printer__body_2.fn {k:Nat} {a1:SNode} {a2:ByteArray} {b0_1:Bool} {b0_2:(List Int)} {b0_3:Int} {r:(Bool × (List Int) × Int)} (H:impl_printer__body_2.f k a1 a2 b0_1 b0_2 b0_3 = some r):FnG Tryz.prog 19 [o1 (.ref 0 0),ag (vSNode a1),oS a2] [] [[.opt 44 b0_1 0 0,.own 5 (List.map (eK .u8) b0_2),cI b0_3]] (tp [] []) [] [[.opt 44 r.1 0 0,.own 5 (List.map (eK .u8) r.2.1),cI r.2.2]]:=by
 refine FnG.body (ts:=[]) Tryz.func19 rfl rfl (by decide) (by decide) (Nat.le_of_ble_eq_true rfl) rfl (Nat.le_of_ble_eq_true rfl) ?_
 refine rn [2,3,4] 3 [] [] ?_
 obtain ⟨x1,h2,H⟩:=bs H
 refine rn [2,3,4,6] 4 [] [hL 4 eSNode a1.f4,hEv 6 eSNode_v h2] ?_
 refine jo H (fun w=>⟨31,[(2,oS a2),(3,o1 (.ref 1 0)),(4,o1 (.ref 2 0))],[[.opt 44 w.1 0 0,.own 5 (List.map (eK .u8) w.2.1),cI w.2.2],[.ref 0 0],vSNode a1],1,[]⟩) (fun w H=>?_) fun v12 h11 H=>?_
 ·obtain ⟨y8,y9,y10⟩:=w
  obtain ⟨h13,H⟩:=nd H
  obtain ⟨h14,H⟩:=nd H
  obtain ⟨r15,h16,H⟩:=bs H
  refine rl [] 1 [] [p1 h13,p1 h14,hG 6 [] [0] none (impl_printer__line_1.fn h16)] ?_
  obtain rfl:=si H;exact endsG (.inl rfl) (by kernel_rfl)
 refine rn [2,3,4,6,18] 4 [] [hL 2 eSNode x1.f4] ?_
 refine ci h11 (fun h3 h11=>?_) fun h3 h11=>?_
 ·obtain ⟨r4,h5,h11⟩:=bs h11
  refine rn [2,3,4,6] 4 [] [hG 1 [] [0] none (impl_printer__line_1.fn h5)] ?_
  obtain ⟨r6,h7,h11⟩:=bs h11
  refine rl [2,3,4] 3 [] [hG 2 [] [0,1,3] none (impl_printer__deeper_6.fn h7)] ?_
  exact pf (r6.1,r6.2.1,r6.2.2) h11
 refine fx [2,3,4] 3 [] ?_
 refine sk ?_
 exact pf (b0_1,b0_2,b0_3) h11
def impl_printer__proc_2.e1 (k:Nat) (x59:SNode) (r65:ByteArray):Option ByteArray:=if x59.f1 = 1 then (if (⟨#[86,65,82,32]⟩:ByteArray).size + ((x59.f2 ++ (⟨#[58,32]⟩:ByteArray)) ++ r65).size ≤ 9223372036854775807 then (some ((⟨#[86,65,82,32]⟩:ByteArray) ++ ((x59.f2 ++ (⟨#[58,32]⟩:ByteArray)) ++ r65))) else none) else (some ((x59.f2 ++ (⟨#[58,32]⟩:ByteArray)) ++ r65))
def impl_printer__proc_2.e2 (k:Nat) (a1:SNode) (z55:(List ByteArray)) (z56:ByteArray) (z57:Int):Option ((List ByteArray) × ByteArray):=(at? a1.f4 z57).bind fun x59=>if x59.f0 = 6 then (if x59.f2.size + (⟨#[58,32]⟩:ByteArray).size ≤ 9223372036854775807 then ((at? x59.f4 0).bind fun x63=>(impl_typeText.f k x63).bind fun r65=>if (x59.f2 ++ (⟨#[58,32]⟩:ByteArray)).size + r65.size ≤ 9223372036854775807 then ((impl_printer__proc_2.e1 k x59 r65).bind fun y70=>if (z55 ++ ([y70]:List ByteArray)).length * 16 ≤ 140737488355328 then (some (z55 ++ ([y70]:List ByteArray),z56)) else none) else none) else none) else (if x59.f0 = 7 then (if x59.f1 = 0 then (some (z55,z56)) else ((impl_typeWords.f k).bind fun r76=>(at? r76 x59.f1).bind fun x78=>if (⟨#[58,32]⟩:ByteArray).size + x78.size ≤ 9223372036854775807 then (some (z55,(⟨#[58,32]⟩:ByteArray) ++ x78)) else none)) else (some (z55,z56)))
def impl_printer__proc_2.l3:Nat → SNode → (List ByteArray) → ByteArray → Int → Option ((List ByteArray) × ByteArray)
  | 0,_,_,_,_=>none
  | k + 1,a1,z55,z56,z57=>if z57 < (a1.f4.length:Int) then ((impl_printer__proc_2.e2 k a1 z55 z56 z57).bind fun v=>match v with | (y81,y82)=>impl_printer__proc_2.l3 k a1 y81 y82 (w64 (z57 + 1))) else (some (z55,z56))
def impl_printer__proc_2.e4 (k:Nat) (a1:SNode):Option ((List ByteArray) × ByteArray):=impl_printer__proc_2.l3 k a1 ([]:List ByteArray) (⟨#[]⟩:ByteArray) 0
def impl_printer__proc_2.f (k:Nat) (a1:SNode) (b0_1:Bool) (b0_2:(List Int)) (b0_3:Int):Option (Bool × (List Int) × Int):=(impl_printer__proc_2.e4 k a1).bind fun v=>match v with | (y86,y87)=>(impl_Node__starred.f k a1).bind fun r90=>if (⟨#[80,82,79,67,69,68,85,82,69,32]⟩:ByteArray).size + r90.size ≤ 9223372036854775807 then (if ((⟨#[80,82,79,67,69,68,85,82,69,32]⟩:ByteArray) ++ r90).size + (⟨#[40]⟩:ByteArray).size ≤ 9223372036854775807 then ((strings_Join.f k y86 (⟨#[59,32]⟩:ByteArray)).bind fun r94=>if (((⟨#[80,82,79,67,69,68,85,82,69,32]⟩:ByteArray) ++ r90) ++ (⟨#[40]⟩:ByteArray)).size + r94.size ≤ 9223372036854775807 then (if ((((⟨#[80,82,79,67,69,68,85,82,69,32]⟩:ByteArray) ++ r90) ++ (⟨#[40]⟩:ByteArray)) ++ r94).size + (⟨#[41]⟩:ByteArray).size ≤ 9223372036854775807 then (if (((((⟨#[80,82,79,67,69,68,85,82,69,32]⟩:ByteArray) ++ r90) ++ (⟨#[40]⟩:ByteArray)) ++ r94) ++ (⟨#[41]⟩:ByteArray)).size + y87.size ≤ 9223372036854775807 then (if ((((((⟨#[80,82,79,67,69,68,85,82,69,32]⟩:ByteArray) ++ r90) ++ (⟨#[40]⟩:ByteArray)) ++ r94) ++ (⟨#[41]⟩:ByteArray)) ++ y87).size + (⟨#[59]⟩:ByteArray).size ≤ 9223372036854775807 then ((impl_printer__line_1.f k (((((((⟨#[80,82,79,67,69,68,85,82,69,32]⟩:ByteArray) ++ r90) ++ (⟨#[40]⟩:ByteArray)) ++ r94) ++ (⟨#[41]⟩:ByteArray)) ++ y87) ++ (⟨#[59]⟩:ByteArray)) b0_1 b0_2 b0_3).bind fun r100=>(impl_printer__deeper_4.f k r100.1 r100.2 b0_3 a1).bind fun r102=>(impl_printer__body_2.f k a1 (⟨#[59]⟩:ByteArray) r102.1 r102.2.1 r102.2.2).bind fun r104=>some (r104.1,r104.2.1,r104.2.2)) else none) else none) else none) else none) else none) else none
theorem impl_printer__proc_2.fn {k:Nat} {a1:SNode} {b0_1:Bool} {b0_2:(List Int)} {b0_3:Int} {r:(Bool × (List Int) × Int)} (H:impl_printer__proc_2.f k a1 b0_1 b0_2 b0_3 = some r):FnG Tryz.prog 18 [o1 (.ref 0 0),ag (vSNode a1)] [] [[.opt 44 b0_1 0 0,.own 5 (List.map (eK .u8) b0_2),cI b0_3]] (tp [] []) [] [[.opt 44 r.1 0 0,.own 5 (List.map (eK .u8) r.2.1),cI r.2.2]]:=by
 refine FnG.body (ts:=[]) Tryz.func18 rfl rfl (by decide) (by decide) (Nat.le_of_ble_eq_true rfl) rfl (Nat.le_of_ble_eq_true rfl) ?_
 refine rn [2,3] 3 [] [] ?_
 refine rn [2,3,4] 3 [] [] ?_
 refine rn [2,3,4,5] 3 [] [] ?_
 refine jo H (fun w=>⟨69,[(2,o1 (.ref 1 0)),(3,o1 (.ref 2 0)),(4,o1 (.own 9 (List.map eS w.1))),(5,oS w.2)],[[.opt 44 b0_1 0 0,.own 5 (List.map (eK .u8) b0_2),cI b0_3],[.ref 0 0],vSNode a1],1,[]⟩) (fun w H=>?_) fun v89 h88 H=>?_
 ·obtain ⟨y86,y87⟩:=w
  obtain ⟨r90,h91,H⟩:=bs H
  obtain ⟨h92,H⟩:=nd H
  obtain ⟨h93,H⟩:=nd H
  obtain ⟨r94,h95,H⟩:=bs H
  obtain ⟨h96,H⟩:=nd H
  obtain ⟨h97,H⟩:=nd H
  obtain ⟨h98,H⟩:=nd H
  obtain ⟨h99,H⟩:=nd H
  obtain ⟨r100,h101,H⟩:=bs H
  refine dn hmix 12 [[],[],[1],[1,2],[1,2,3],[],[1,2,5],[1,2,3,4,5,6],[1,2,3,4,5,6,7],[],[1,2,3,4,5,6,7,8,9],[1,2,3,4,5,6,7,8,9,10],[0,1,2,3,4,5,6,7,8,9,10,11]] [2,3] 3 [] [hC 2 (impl_Node__starred.fn h91),p1 h92,p1 h93,hC 6 (strings_Join.fn k y86 (⟨#[59,32]⟩:ByteArray) r94 h95),p1 h96,p1 h97,p1 h98,p1 h99,hG 12 [] [0] none (impl_printer__line_1.fn h101)] ?_
  obtain ⟨r102,h103,H⟩:=bs H
  refine rn [2,3] 3 [] [hG 2 [] [0,1,2] none (impl_printer__deeper_4.fn h103)] ?_
  obtain ⟨r104,h105,H⟩:=bs H
  refine rl [] 1 [] [hG 2 [] [0] none (impl_printer__body_2.fn h105)] ?_
  obtain rfl:=si H;exact endsG (.inl rfl) (by kernel_rfl)
 refine rn [2,3,4,5,10,11,12] 3 [] [hL 2 eSNode a1.f4] ?_
 refine bl ?_
 refine fx [2,3,4,5,10,11,12] 3 [.own (.t 4 0) 9] ?_
 refine lo ((List ByteArray) × ByteArray × Int) k (fun k x=>impl_printer__proc_2.l3 k a1 x.1 x.2.1 x.2.2) (fun x=>⟨69,[(2,o1 (.ref 1 0)),(3,o1 (.ref 2 0)),(4,o1 (.own 9 (List.map eS x.1))),(5,oS x.2.1),(10,o1 (.sl 5 (List.map eSNode a1.f4))),(11,oI (a1.f4.length:Int)),(12,oI x.2.2)],[[.opt 44 b0_1 0 0,.own 5 (List.map (eK .u8) b0_2),cI b0_3],[.ref 0 0],vSNode a1],1,[]⟩) (([]:List ByteArray),(⟨#[]⟩:ByteArray),0) h88 fun k x h88 IH85=>?_
 obtain ⟨z55,z56,z57⟩:=x
 rw [impl_printer__proc_2.l3.eq_2] at h88
 refine rn [2,3,4,5,10,11,12,13] 3 [] [] ?_
 refine sq ?_
 refine ci h88 (fun h58 h88=>?_) fun h58 h88=>?_
 ·refine sk ?_
  refine jo h88 (fun w=>⟨69,[(2,o1 (.ref 1 0)),(3,o1 (.ref 2 0)),(4,o1 (.own 9 (List.map eS w.1))),(5,oS w.2),(10,o1 (.sl 5 (List.map eSNode a1.f4))),(11,oI (a1.f4.length:Int)),(12,oI z57)],[[.opt 44 b0_1 0 0,.own 5 (List.map (eK .u8) b0_2),cI b0_3],[.ref 0 0],vSNode a1],1,[]⟩) (fun w h88=>?_) fun v84 h83 h88=>?_
  ·obtain ⟨y81,y82⟩:=w
   refine rl [2,3,4,5,10,11,12] 3 [] [] ?_
   exact lb IH85 (y81,y82,w64 (z57 + 1)) h88
  refine bl ?_
  obtain ⟨x59,h60,h83⟩:=bs h83
  refine rn [2,3,4,5,7,10,11,12] 4 [] [hEv 0 eSNode_v h60] ?_
  refine rn [2,3,4,5,7,10,11,12,17] 4 [] [] ?_
  refine bl ?_
  refine rn [2,3,4,5,7,10,11,12,17,18] 4 [] [] ?_
  refine ci h83 (fun h61 h83=>?_) fun h61 h83=>?_
  ·obtain ⟨h62,h83⟩:=nd h83
   obtain ⟨x63,h64,h83⟩:=bs h83
   obtain ⟨r65,h66,h83⟩:=bs h83
   obtain ⟨h67,h83⟩:=nd h83
   refine dn hmix 8 [[],[0],[0,1],[],[3],[3,4],[3,4,5],[3,4,5,6],[0,1,2,3,4,5,6,7],[0,1,2,3,4,5,6,7,8]] [2,3,4,5,7,8,10,11,12] 4 [] [p1 h62,hEv 5 eSNode_v h64,hC 7 (impl_typeText.fn h66),p1 h67] ?_
   refine jo h83 (fun y70=>⟨69,[(2,o1 (.ref 1 0)),(3,o1 (.ref 2 0)),(4,o1 (.own 9 (List.map eS z55))),(5,oS z56),(8,oS y70),(10,o1 (.sl 5 (List.map eSNode a1.f4))),(11,oI (a1.f4.length:Int)),(12,oI z57)],[[.opt 44 b0_1 0 0,.own 5 (List.map (eK .u8) b0_2),cI b0_3],[.ref 0 0],vSNode a1],1,[]⟩) (fun y70 h83=>?_) fun v72 h71 h83=>?_
   ·obtain ⟨h73,h83⟩:=nd h83
    refine rl [2,3,4,5,10,11,12] 3 [] [hA 3 9 eS h73] ?_
    exact pf (z55 ++ ([y70]:List ByteArray),z56) h83
   refine rx [2,3,4,5,8,10,11,12,31] 3 [] [] ⟨69,[(2,o1 (.ref 1 0)),(3,o1 (.ref 2 0)),(4,o1 (.own 9 (List.map eS z55))),(5,oS z56),(8,oS ((x59.f2 ++ (⟨#[58,32]⟩:ByteArray)) ++ r65)),(10,o1 (.sl 5 (List.map eSNode a1.f4))),(11,oI (a1.f4.length:Int)),(12,oI z57),(31,oB (decide (x59.f1 = 1)))],[[.opt 44 b0_1 0 0,.own 5 (List.map (eK .u8) b0_2),cI b0_3],[.ref 0 0],vSNode a1],1,[]⟩ ?_
   refine ci h71 (fun h68 h71=>?_) fun h68 h71=>?_
   ·obtain ⟨h69,h71⟩:=nd h71
    refine rl [2,3,4,5,8,10,11,12] 3 [] [p1 h69] ?_
    exact pf ((⟨#[86,65,82,32]⟩:ByteArray) ++ ((x59.f2 ++ (⟨#[58,32]⟩:ByteArray)) ++ r65)) h71
   refine fx [2,3,4,5,8,10,11,12] 3 [] ?_
   refine sk ?_
   exact pf ((x59.f2 ++ (⟨#[58,32]⟩:ByteArray)) ++ r65) h71
  refine rn [2,3,4,5,7,10,11,12,38] 4 [] [] ?_
  refine ci h83 (fun h74 h83=>?_) fun h74 h83=>?_
  ·refine rx [2,3,4,5,7,10,11,12,42] 4 [] [] ⟨69,[(2,o1 (.ref 1 0)),(3,o1 (.ref 2 0)),(4,o1 (.own 9 (List.map eS z55))),(5,oS z56),(7,o1 (.ref 3 0)),(10,o1 (.sl 5 (List.map eSNode a1.f4))),(11,oI (a1.f4.length:Int)),(12,oI z57),(42,oB (!(decide (x59.f1 = 0))))],[[.opt 44 b0_1 0 0,.own 5 (List.map (eK .u8) b0_2),cI b0_3],[.ref 0 0],vSNode a1,vSNode x59],1,[]⟩ ?_
   refine cn h83 (fun h75 h83=>?_) fun h75 h83=>?_
   ·refine fx [2,3,4,5,10,11,12] 3 [] ?_
    refine sk ?_
    exact pf (z55,z56) h83
   obtain ⟨r76,h77,h83⟩:=bs h83
   obtain ⟨x78,h79,h83⟩:=bs h83
   obtain ⟨h80,h83⟩:=nd h83
   refine dl hmix 3 [[],[],[1],[0,1,2],[0,1,2,3],[0,1,2,3,4],[0,1,2,3,4,5]] [2,3,4,5,10,11,12] 3 [] [hC 0 (impl_typeWords.fn h77) (show (List.all [.own 9 (List.map eS r76)] PC.flatB) = true by simp [PC.flatB,PC.scalar,cI,cK,cB,cS,eS]),hE 3 eS h79,hF 4 eS h79,p1 h80] ?_
   exact pf (z55,(⟨#[58,32]⟩:ByteArray) ++ x78) h83
  refine fx [2,3,4,5,10,11,12] 3 [] ?_
  refine sk ?_
  exact pf (z55,z56) h83
 refine fx [2,3,4,5] 3 [] ?_
 refine xi ?_
 exact pf (z55,z56) h88
def strings_Builder_String_2.f (k:Nat) (b0_1:Bool) (b0_2:(List Int)) (b0_3:Int):Option ByteArray:=strings_Builder_String.f k b0_2
theorem strings_Builder_String_2.fn (k:Nat) (b0_1:Bool) (b0_2:(List Int)) (b0_3:Int) (r:ByteArray) (H:strings_Builder_String_2.f k b0_1 b0_2 b0_3 = some r):FnG Tryz.prog 20 [o1 (.ref 0 0)] [] [[.opt 44 b0_1 0 0,.own 5 (List.map (eK .u8) b0_2),cI b0_3]] (oS r) [] [[.opt 44 b0_1 0 0,.dead,cI b0_3]]:=strings_Builder_String.fn k b0_1 b0_2 [cI b0_3] r H
def impl_Print.e1 (k:Nat) (a0:SNode) (r6:(Bool × (List Int))):Option (Bool × (List Int)):=(impl_Node__linesOf.f k a0 2).bind fun r8=>if (0:Int) < (r8.length:Int) then ((strings_Join.f k r8 (⟨#[44,32]⟩:ByteArray)).bind fun r11=>if (⟨#[73,77,80,79,82,84,32]⟩:ByteArray).size + r11.size ≤ 9223372036854775807 then (if ((⟨#[73,77,80,79,82,84,32]⟩:ByteArray) ++ r11).size + (⟨#[59]⟩:ByteArray).size ≤ 9223372036854775807 then ((impl_printer__line_1.f k (((⟨#[73,77,80,79,82,84,32]⟩:ByteArray) ++ r11) ++ (⟨#[59]⟩:ByteArray)) r6.1 r6.2 0).bind fun r15=>some (r15.1,r15.2)) else none) else none) else (some (r6.1,r6.2))
def impl_Print.e2 (k:Nat) (a0:SNode) (z40:Int) (z41:Bool) (z42:(List Int)) (z43:Int):Option (Bool × (List Int) × Int):=(at? a0.f4 z40).bind fun x45=>if x45.f0 = 5 then ((impl_printer__proc_2.f k x45 z41 z42 z43).bind fun r48=>some (r48.1,r48.2.1,r48.2.2)) else (some (z41,z42,z43))
def impl_Print.l3:Nat → SNode → Int → Bool → (List Int) → Int → Option (Bool × (List Int) × Int)
  | 0,_,_,_,_,_=>none
  | k + 1,a0,z40,z41,z42,z43=>if z40 < (a0.f4.length:Int) then ((impl_Print.e2 k a0 z40 z41 z42 z43).bind fun v=>match v with | (y50,y51,y52)=>impl_Print.l3 k a0 (w64 (z40 + 1)) y50 y51 y52) else (some (z41,z42,z43))
def impl_Print.e4 (k:Nat) (a0:SNode) (r27:(Bool × (List Int) × Int)):Option (Bool × (List Int) × Int):=impl_Print.l3 k a0 0 r27.1 r27.2.1 r27.2.2
def impl_Print.f (k:Nat) (a0:SNode):Option (ByteArray × Int):=(impl_TreeOK.f k a0).bind fun r1=>if r1 = true then (if (⟨#[77,79,68,85,76,69,32]⟩:ByteArray).size + a0.f2.size ≤ 9223372036854775807 then (if ((⟨#[77,79,68,85,76,69,32]⟩:ByteArray) ++ a0.f2).size + (⟨#[59]⟩:ByteArray).size ≤ 9223372036854775807 then ((impl_printer__line_1.f k (((⟨#[77,79,68,85,76,69,32]⟩:ByteArray) ++ a0.f2) ++ (⟨#[59]⟩:ByteArray)) false ([]:List Int) 0).bind fun r6=>(impl_Print.e1 k a0 r6).bind fun v=>match v with | (y17,y18)=>(impl_Node__linesOf.f k a0 3).bind fun r21=>(impl_printer__group_2.f k (⟨#[67,79,78,83,84]⟩:ByteArray) r21 y17 y18 0).bind fun r23=>(impl_Node__linesOf.f k a0 4).bind fun r25=>(impl_printer__group_2.f k (⟨#[86,65,82]⟩:ByteArray) r25 r23.1 r23.2.1 r23.2.2).bind fun r27=>(impl_Print.e4 k a0 r27).bind fun v=>match v with | (y56,y57,y58)=>(impl_printer__body_2.f k a0 (⟨#[46]⟩:ByteArray) y56 y57 y58).bind fun r61=>(strings_Builder_String_2.f k r61.1 r61.2.1 r61.2.2).bind fun r63=>some (r63,0)) else none) else none) else (some ((⟨#[]⟩:ByteArray),1))
theorem impl_Print.fn {k:Nat} {a0:SNode} {r:(ByteArray × Int)} (H:impl_Print.f k a0 = some r):Fn Tryz.prog 7 [ag (vSNode a0)] [] (tp [none,none] [cS r.1,cI r.2]) []:=by
 refine Fn.bd [2,3] Tryz.func7 ?_
 refine rn [1] 1 [] [] ?_
 refine sq ?_
 obtain ⟨r1,h2,H⟩:=bs H
 refine rn [1,10] 1 [] [hC 1 (impl_TreeOK.fn h2)] ?_
 refine cm H (fun h3 H=>?_) fun h3 H=>?_
 ·refine sk ?_
  refine rn [1,4] 2 [] [q0 1 (.nz [0])] ?_
  obtain ⟨h4,H⟩:=nd H
  obtain ⟨h5,H⟩:=nd H
  obtain ⟨r6,h7,H⟩:=bs H
  refine rn [1,4] 2 [] [p1 h4,p1 h5,q0 5 (.fix (.own (.b 1 1) 5)),hG 5 [] [1] none (impl_printer__line_1.fn h7)] ?_
  refine jo H (fun w=>⟨59,[(1,o1 (.ref 0 0)),(4,o1 (.ref 1 0))],[vSNode a0,[.opt 44 w.1 1 0,.own 5 (List.map (eK .u8) w.2),cI 0]],0,[]⟩) (fun w H=>?_) fun v20 h19 H=>?_
  ·obtain ⟨y17,y18⟩:=w
   obtain ⟨r21,h22,H⟩:=bs H
   obtain ⟨r23,h24,H⟩:=bs H
   refine rn [1,4] 2 [] [hC 2 (impl_Node__linesOf.fn h22) (show (List.all [.own 9 (List.map eS r21)] PC.flatB) = true by simp [PC.flatB,PC.scalar,cI,cK,cB,cS,eS]),q0 3 (.frz (.t 32 0)),hG 3 [] [1] none (impl_printer__group_2.fn h24)] ?_
   obtain ⟨r25,h26,H⟩:=bs H
   obtain ⟨r27,h28,H⟩:=bs H
   refine rn [1,4] 2 [] [hC 2 (impl_Node__linesOf.fn h26) (show (List.all [.own 9 (List.map eS r25)] PC.flatB) = true by simp [PC.flatB,PC.scalar,cI,cK,cB,cS,eS]),q0 3 (.frz (.t 36 0)),hG 3 [] [1] none (impl_printer__group_2.fn h28)] ?_
   refine jo H (fun w=>⟨59,[(1,o1 (.ref 0 0)),(4,o1 (.ref 1 0))],[vSNode a0,[.opt 44 w.1 1 0,.own 5 (List.map (eK .u8) w.2.1),cI w.2.2]],0,[]⟩) (fun w H=>?_) fun v60 h59 H=>?_
   ·obtain ⟨y56,y57,y58⟩:=w
    obtain ⟨r61,h62,H⟩:=bs H
    refine rn [4] 2 [] [hG 2 [] [1] none (impl_printer__body_2.fn h62)] ?_
    obtain ⟨r63,h64,H⟩:=bs H
    refine rn [2,3] 0 [] [hG 3 [] [1] none (strings_Builder_String_2.fn k r61.1 r61.2.1 r61.2.2 r63 h64)] ?_
    refine Tri.ret ?_
    obtain rfl:=si H;exact eR
   refine rn [1,4,39,40,41] 2 [] [hL 2 eSNode a0.f4] ?_
   refine bl ?_
   refine lo (Int × Bool × (List Int) × Int) k (fun k x=>impl_Print.l3 k a0 x.1 x.2.1 x.2.2.1 x.2.2.2) (fun x=>⟨59,[(1,o1 (.ref 0 0)),(4,o1 (.ref 1 0)),(39,o1 (.sl 5 (List.map eSNode a0.f4))),(40,oI (a0.f4.length:Int)),(41,oI x.1)],[vSNode a0,[.opt 44 x.2.1 1 0,.own 5 (List.map (eK .u8) x.2.2.1),cI x.2.2.2]],0,[]⟩) (0,r27.1,r27.2.1,r27.2.2) h59 fun k x h59 IH55=>?_
   obtain ⟨z40,z41,z42,z43⟩:=x
   rw [impl_Print.l3.eq_2] at h59
   refine rn [1,4,39,40,41,42] 2 [] [] ?_
   refine sq ?_
   refine ci h59 (fun h44 h59=>?_) fun h44 h59=>?_
   ·refine sk ?_
    refine jo h59 (fun w=>⟨59,[(1,o1 (.ref 0 0)),(4,o1 (.ref 1 0)),(39,o1 (.sl 5 (List.map eSNode a0.f4))),(40,oI (a0.f4.length:Int)),(41,oI z40)],[vSNode a0,[.opt 44 w.1 1 0,.own 5 (List.map (eK .u8) w.2.1),cI w.2.2]],0,[]⟩) (fun w h59=>?_) fun v54 h53 h59=>?_
    ·obtain ⟨y50,y51,y52⟩:=w
     refine rl [1,4,39,40,41] 2 [] [] ?_
     exact lb IH55 (w64 (z40 + 1),y50,y51,y52) h59
    refine bl ?_
    obtain ⟨x45,h46,h53⟩:=bs h53
    refine rn [1,4,7,39,40,41] 3 [] [hEv 0 eSNode_v h46] ?_
    refine rn [1,4,7,39,40,41,47] 3 [] [] ?_
    refine ci h53 (fun h47 h53=>?_) fun h47 h53=>?_
    ·obtain ⟨r48,h49,h53⟩:=bs h53
     refine rl [1,4,39,40,41] 2 [] [hG 2 [] [1] none (impl_printer__proc_2.fn h49)] ?_
     exact pf (r48.1,r48.2.1,r48.2.2) h53
    refine fx [1,4,39,40,41] 2 [] ?_
    refine sk ?_
    exact pf (z41,z42,z43) h53
   refine fx [1,4] 2 [] ?_
   refine xi ?_
   exact pf (z41,z42,z43) h59
  obtain ⟨r8,h9,h19⟩:=bs h19
  refine rn [1,4,5] 2 [] [hC 1 (impl_Node__linesOf.fn h9) (show (List.all [.own 9 (List.map eS r8)] PC.flatB) = true by simp [PC.flatB,PC.scalar,cI,cK,cB,cS,eS])] ?_
  refine rx [1,4,5,23] 2 [] [hL 1 eS r8] ⟨59,[(1,o1 (.ref 0 0)),(4,o1 (.ref 1 0)),(5,o1 (.own 9 (List.map eS r8))),(23,oB (decide ((0:Int) < (r8.length:Int))))],[vSNode a0,[.opt 44 r6.1 1 0,.own 5 (List.map (eK .u8) r6.2),cI 0]],0,[]⟩ ?_
  refine ci h19 (fun h10 h19=>?_) fun h10 h19=>?_
  ·obtain ⟨r11,h12,h19⟩:=bs h19
   obtain ⟨h13,h19⟩:=nd h19
   obtain ⟨h14,h19⟩:=nd h19
   obtain ⟨r15,h16,h19⟩:=bs h19
   refine rl [1,4] 2 [] [hC 2 (strings_Join.fn k r8 (⟨#[44,32]⟩:ByteArray) r11 h12),p1 h13,p1 h14,hG 5 [] [1] none (impl_printer__line_1.fn h16)] ?_
   exact pf (r15.1,r15.2) h19
  refine fx [1,4] 2 [] ?_
  refine sk ?_
  exact pf (r6.1,r6.2) h19
 refine rn [2,3] 0 [] [] ?_
 refine Tri.ret ?_
 obtain rfl:=si H;exact eR
def laws_eqNodeS.l1:Nat → (List SNode) → (List SNode) → (SNode → SNode → Option Bool) → Int → Option (Bool ⊕ Unit)
  | 0,_,_,_,_=>none
  | k + 1,a0,a1,rec_laws_eqNode,z10=>if z10 < (a0.length:Int) then ((at? a0 z10).bind fun x12=>(at? a1 z10).bind fun x14=>(rec_laws_eqNode x12 x14).bind fun r16=>if r16 = true then (laws_eqNodeS.l1 k a0 a1 rec_laws_eqNode (w64 (z10 + 1))) else (some (.inl false))) else (some (.inr ()))
def laws_eqNodeS.e2 (k:Nat) (a0:(List SNode)) (a1:(List SNode)) (rec_laws_eqNode:(SNode → SNode → Option Bool)):Option (Bool ⊕ Unit):=laws_eqNodeS.l1 k a0 a1 rec_laws_eqNode 0
def laws_eqNodeS.f (k:Nat) (rec_laws_eqNode:(SNode → SNode → Option Bool)) (a0:(List SNode)) (a1:(List SNode)):Option Bool:=if (a0.length:Int) = (a1.length:Int) then ((laws_eqNodeS.e2 k a0 a1 rec_laws_eqNode).bind fun v=>match v with | .inl r=>some r | .inr _=>some true) else (some false)
theorem laws_eqNodeS.fn {k:Nat} {rec_laws_eqNode:(SNode → SNode → Option Bool)} (ih_laws_eqNode:∀ {a0:SNode} {a1:SNode} {r:Bool} (H:rec_laws_eqNode a0 a1 = some r),Fn Tryz.prog 8 [ag (vSNode a0),ag (vSNode a1)] [] (oB r) []) {a0:(List SNode)} {a1:(List SNode)} {r:Bool} (H:laws_eqNodeS.f k rec_laws_eqNode a0 a1 = some r):Fn Tryz.prog 21 [o1 (.sl 5 (List.map eSNode a0)),o1 (.sl 5 (List.map eSNode a1))] [] (oB r) []:=by
 refine Fn.bd [4] Tryz.func21 ?_
 refine rn [0,1] 0 [] [] ?_
 refine sq ?_
 refine rn [0,1,10] 0 [] [hL 1 eSNode a0,hL 3 eSNode a1] ?_
 refine cn H (fun h1 H=>?_) fun h1 H=>?_
 ·refine sk ?_
  refine jr H (fun _=>⟨27,[],[],0,[]⟩) (fun _ H=>?_) fun v21 h20 H=>?_
  ·refine rn [4] 0 [] [] ?_
   refine Tri.ret ?_
   obtain rfl:=si H;exact eR
  refine rn [0,1,5] 0 [] [] ?_
  refine bl ?_
  refine lo Int k (fun k x=>laws_eqNodeS.l1 k a0 a1 rec_laws_eqNode x) (fun x=>⟨27,[(0,o1 (.sl 5 (List.map eSNode a0))),(1,o1 (.sl 5 (List.map eSNode a1))),(5,oI x)],[],0,[]⟩) 0 h20 fun k z10 h20 IH19=>?_
  rw [laws_eqNodeS.l1.eq_2] at h20
  refine sq ?_
  refine rn [0,1,5,14] 0 [] [hL 2 eSNode a0] ?_
  refine ci h20 (fun h11 h20=>?_) fun h11 h20=>?_
  ·refine sk ?_
   refine sq ?_
   refine bl ?_
   obtain ⟨x12,h13,h20⟩:=bs h20
   obtain ⟨x14,h15,h20⟩:=bs h20
   obtain ⟨r16,h17,h20⟩:=bs h20
   refine dn hmix 8 [[],[],[0,1],[0,1,2],[],[],[4,5],[4,5,6],[0,1,2,3,4,5,6,7],[0,1,2,3,4,5,6,7,8]] [0,1,5,26] 0 [] [hEv 2 eSNode_v h13,hEv 6 eSNode_v h15,hC 8 (ih_laws_eqNode h17)] ?_
   refine cm h20 (fun h18 h20=>?_) fun h18 h20=>?_
   ·refine sk ?_
    refine rl [0,1,5] 0 [] [] ?_
    exact lb IH19 (w64 (z10 + 1)) h20
   refine rn [4] 0 [] [] ?_
   refine Tri.ret ?_
   obtain rfl:=si h20;obtain rfl:=si H;exact eR
  refine fx [] 0 [] ?_
  refine xi ?_
  exact pe () h20
 refine rn [4] 0 [] [] ?_
 refine Tri.ret ?_
 obtain rfl:=si H;exact eR
def laws_eqNode.f:Nat → SNode → SNode → Option Bool
  | 0,_,_=>none
  | k + 1,a0,a1=>if a0.f0 = a1.f0 then (if a0.f1 = a1.f1 then (if a0.f2 = a1.f2 then (if a0.f3 = a1.f3 then ((laws_eqNodeS.f k (laws_eqNode.f k) a0.f4 a1.f4).bind fun r5=>if r5 = true then (some true) else (some false)) else (some false)) else (some false)) else (some false)) else (some false)
theorem laws_eqNode.fn {k:Nat}:∀ {a0:SNode} {a1:SNode} {r:Bool} (H:laws_eqNode.f k a0 a1 = some r),Fn Tryz.prog 8 [ag (vSNode a0),ag (vSNode a1)] [] (oB r) []:=by
 induction k with
 | zero=>intro a0 a1 r H; exact absurd H (by simp [laws_eqNode.f])
 | succ k ih_laws_eqNode =>
 intro a0 a1 r H
 rw [laws_eqNode.f.eq_2] at H
 generalize laws_eqNode.f k = rec_laws_eqNode at H ih_laws_eqNode
 refine Fn.bd [4] Tryz.func8 ?_
 refine rn [2,3] 2 [] [] ?_
 refine sq ?_
 refine rn [2,3,9] 2 [] [] ?_
 refine cn H (fun h1 H=>?_) fun h1 H=>?_
 ·refine sk ?_
  refine sq ?_
  refine rn [2,3,14] 2 [] [] ?_
  refine cn H (fun h2 H=>?_) fun h2 H=>?_
  ·refine sk ?_
   refine sq ?_
   refine rn [2,3,19] 2 [] [] ?_
   refine cn H (fun h3 H=>?_) fun h3 H=>?_
   ·refine sk ?_
    refine sq ?_
    refine rn [2,3,24] 2 [] [] ?_
    refine cn H (fun h4 H=>?_) fun h4 H=>?_
    ·refine sk ?_
     refine sq ?_
     obtain ⟨r5,h6,H⟩:=bs H
     refine rx [30] 0 [] [hC 4 (laws_eqNodeS.fn ih_laws_eqNode h6)] ⟨31,[(30,oB (!r5))],[],0,[]⟩ ?_
     refine cm H (fun h7 H=>?_) fun h7 H=>?_
     ·refine sk ?_
      refine rn [4] 0 [] [] ?_
      refine Tri.ret ?_
      obtain rfl:=si H;exact eR
     refine rn [4] 0 [] [] ?_
     refine Tri.ret ?_
     obtain rfl:=si H;exact eR
    refine rx [4] 0 [] [] ⟨31,[(4,oB false)],[],0,[]⟩ ?_
    refine Tri.ret ?_
    obtain rfl:=si H;exact eR
   refine rn [4] 0 [] [] ?_
   refine Tri.ret ?_
   obtain rfl:=si H;exact eR
  refine rn [4] 0 [] [] ?_
  refine Tri.ret ?_
  obtain rfl:=si H;exact eR
 refine rn [4] 0 [] [] ?_
 refine Tri.ret ?_
 obtain rfl:=si H;exact eR
def laws_FnExactPrint.e1 (k:Nat) (r6:(ByteArray × Int)) (r10:(ByteArray × Int)):Option Bool:=if r10.1 = r6.1 then (some (!(decide (r10.2 = r6.2)))) else (some true)
def laws_FnExactPrint.f (k:Nat) (a0:SNode):Option Bool:=(laws_szNode.f k a0 1048576).bind fun r1=>if r1 < 0 then (some true) else ((laws_toNode.f k a0).bind fun r4=>(spec_Print.f k r4.1).bind fun r6=>(laws_toNode.f k a0).bind fun r8=>(impl_Print.f k r8.1).bind fun r10=>(laws_FnExactPrint.e1 k r6 r10).bind fun y13=>if y13 = true then (some false) else ((laws_toNode.f k a0).bind fun r17=>(laws_eqNode.f k r8.1 r17.1).bind fun r19=>if r19 = true then (some true) else (some false)))
theorem laws_FnExactPrint.fn {k:Nat} {a0:SNode} {r:Bool} (H:laws_FnExactPrint.f k a0 = some r):Fn Tryz.prog 3 [ag (vSNode a0)] [] (oB r) []:=by
 refine Fn.bd [2] Tryz.func3 ?_
 refine rn [1] 1 [] [] ?_
 refine rn [1,3] 1 [] [] ?_
 obtain ⟨r1,h2,H⟩:=bs H
 refine rn [1,3] 1 [] [hC 2 (laws_szNode.fn h2)] ?_
 refine sq ?_
 refine rn [1,13] 1 [] [] ?_
 refine ci H (fun h3 H=>?_) fun h3 H=>?_
 ·refine rn [2] 0 [] [] ?_
  refine Tri.ret ?_
  obtain rfl:=si H;exact eR
 refine sk ?_
 obtain ⟨r4,h5,H⟩:=bs H
 obtain ⟨r6,h7,H⟩:=bs H
 refine rn [1,4,5] 1 [] [hG 1 [] [] none (laws_toNode.fn h5),hC 2 (spec_Print.fn h7)] ?_
 obtain ⟨r8,h9,H⟩:=bs H
 refine rx [1,4,5,6] 4 [] [hG 1 [] [] none (laws_toNode.fn h9)] ⟨40,[(1,o1 (.ref 0 0)),(4,oS r6.1),(5,oI r6.2),(6,o1 (.ref 3 0))],[vSNode a0,[cI r8.2.1,cI r8.2.2.1,cS r8.2.2.2.1,cS r8.2.2.2.2.1,.sl 5 (List.map eSNode r8.2.2.2.2.2.1)],[cI r8.2.2.2.2.2.2.1,cI r8.2.2.2.2.2.2.2.1,cS r8.2.2.2.2.2.2.2.2.1,cS r8.2.2.2.2.2.2.2.2.2.1,.sl 5 (List.map eSNode r8.2.2.2.2.2.2.2.2.2.2)],vSNode r8.1],0,[]⟩ ?_
 obtain ⟨r10,h11,H⟩:=bs H
 refine rn [1,4,5,6,7,8] 4 [] [hC 1 (impl_Print.fn h11)] ?_
 refine sq ?_
 refine jo H (fun y13=>⟨40,[(1,o1 (.ref 0 0)),(6,o1 (.ref 3 0)),(34,oB y13)],[vSNode a0,[cI r8.2.1,cI r8.2.2.1,cS r8.2.2.2.1,cS r8.2.2.2.2.1,.sl 5 (List.map eSNode r8.2.2.2.2.2.1)],[cI r8.2.2.2.2.2.2.1,cI r8.2.2.2.2.2.2.2.1,cS r8.2.2.2.2.2.2.2.2.1,cS r8.2.2.2.2.2.2.2.2.2.1,.sl 5 (List.map eSNode r8.2.2.2.2.2.2.2.2.2.2)],vSNode r8.1],0,[]⟩) (fun y13 H=>?_) fun v15 h14 H=>?_
 ·refine cb H (fun h16 H=>?_) fun h16 H=>?_
  ·refine rn [2] 0 [] [] ?_
   refine Tri.ret ?_
   obtain rfl:=si H;exact eR
  refine sk ?_
  refine sq ?_
  obtain ⟨r17,h18,H⟩:=bs H
  obtain ⟨r19,h20,H⟩:=bs H
  refine deN hmix [[],[],[1],[0,1,2],[0,1,2,3]] [2] [⟨40,[(1,o1 (.ref 0 0)),(6,o1 (.ref 3 0)),(34,oB y13)],[vSNode a0,[cI r8.2.1,cI r8.2.2.1,cS r8.2.2.2.1,cS r8.2.2.2.2.1,.sl 5 (List.map eSNode r8.2.2.2.2.2.1)],[cI r8.2.2.2.2.2.2.1,cI r8.2.2.2.2.2.2.2.1,cS r8.2.2.2.2.2.2.2.2.1,cS r8.2.2.2.2.2.2.2.2.2.1,.sl 5 (List.map eSNode r8.2.2.2.2.2.2.2.2.2.2)],vSNode r8.1,[cI r17.2.1,cI r17.2.2.1,cS r17.2.2.2.1,cS r17.2.2.2.2.1,.sl 5 (List.map eSNode r17.2.2.2.2.2.1)],[cI r17.2.2.2.2.2.2.1,cI r17.2.2.2.2.2.2.2.1,cS r17.2.2.2.2.2.2.2.2.1,cS r17.2.2.2.2.2.2.2.2.2.1,.sl 5 (List.map eSNode r17.2.2.2.2.2.2.2.2.2.2)]],0,[]⟩] [(35,ag (vSNode r8.1)),(36,ag (vSNode a0)),(37,ag (vSNode r17.1))] [39] 0 [] (fun A D B=>([hz B 1,ht D 0,ht D 0,ht D 1,hG 2 [] [] none (laws_toNode.fn h18),hm A D B 0 2 [37,36,1,6,34]],[hC 3 (laws_eqNode.fn h20)])) ?_
  refine cm H (fun h21 H=>?_) fun h21 H=>?_
  ·refine sk ?_
   refine rn [2] 0 [] [] ?_
   refine Tri.ret ?_
   obtain rfl:=si H;exact eR
  refine rn [2] 0 [] [] ?_
  refine Tri.ret ?_
  obtain rfl:=si H;exact eR
 rcases ite_some h14 with ⟨h12,h14⟩ | ⟨h12,h14⟩
 ·refine rl [1,6,34] 4 [] [hB 2 (nF (decide_eq_true h12))] ?_
  exact pf (!(decide (r10.2 = r6.2))) h14
 refine rl [1,6,34] 4 [] [hB 2 (nT (decide_eq_false h12))] ?_
 exact pf true h14
end Go.Proofs.YtaelpeekimbmcaaGreatDoor.E
