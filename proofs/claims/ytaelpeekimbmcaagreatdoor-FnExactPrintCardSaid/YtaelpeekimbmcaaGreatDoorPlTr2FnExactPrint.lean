/- The kids of a node: the program's and the reference's answers as one. -/
import Derived.Test.YtaelpeekimbmcaaGreatDoorPlTr1FnExactPrint
set_option linter.unusedVariables false
set_option linter.unusedSimpArgs false
namespace Go.Proofs.YtaelpeekimbmcaaGreatDoor.T
open Go.RowKit Go.Proofs.YtaelpeekimbmcaaGreatDoor.E Go.Proofs.YtaelpeekimbmcaaGreatDoor.V
def exprB (x:SNode):Bool:=btw x.f0 18 27 || decide (x.f0 = 12)
def stmtB (x:SNode):Bool:=btw x.f0 11 17
def desB (x:SNode):Bool:=decide (x.f0 = 21) || decide (x.f0 = 22)
def varB (x:SNode):Bool:=decide (x.f0 = 8) || decide (x.f0 = 9)
def ofB (n:Int) (x:SNode):Bool:=decide (x.f0 = n)
theorem iexpr (k:Nat) (x:SNode):impl_isExpression.f k x = some (exprB x):=by
  unfold impl_isExpression.f impl_isExpression.e1 exprB btw
  rw [within_eq]
  cases (decide ((18:Int) ≤ x.f0) && decide (x.f0 ≤ 27)) <;> rfl
theorem sexpr (k:Nat) (x:SNode):spec_l02IsExpr.f k x = some (exprB x):=by
  unfold spec_l02IsExpr.f spec_l02IsExpr.e1 exprB btw
  rw [in_eq]
  cases (decide ((18:Int) ≤ x.f0) && decide (x.f0 ≤ 27)) <;> rfl
theorem istmt (k:Nat) (x:SNode):impl_isStatement.f k x = some (stmtB x):=by unfold impl_isStatement.f; rw [within_eq]; rfl
theorem sstmt (k:Nat) (x:SNode):spec_l02IsStatement.f k x = some (stmtB x):=by unfold spec_l02IsStatement.f; rw [in_eq]; rfl
theorem ides (k:Nat) (x:SNode):impl_isDesignator.f k x = some (desB x):=by
  unfold impl_isDesignator.f impl_isDesignator.e1 desB
  by_cases h:x.f0 = 21 <;> simp [h]
theorem sdes (k:Nat) (x:SNode):spec_l02Designator.f k x = some (desB x):=by
  unfold spec_l02Designator.f spec_l02Designator.e1 desB
  by_cases h:x.f0 = 21 <;> simp [h]
theorem ivar (k:Nat) (x:SNode):impl_isVarType.f k x = some (varB x):=by
  unfold impl_isVarType.f impl_isVarType.e1 varB
  by_cases h:x.f0 = 8 <;> simp [h]
theorem iof (k:Nat) (x:SNode) (n:Int):impl_isOf_1_1.f k x n = some (ofB n x):=rfl
def k1 (p:SNode → Bool):List SNode → Bool
  | [a]=>p a
  | _=>false
def k2 (p q:SNode → Bool):List SNode → Bool
  | [a,b]=>p a && q b
  | _=>false
def k3 (p q r:SNode → Bool):List SNode → Bool
  | [a,b,c]=>p a && q b && r c
  | _=>false
theorem kid1 {L : Nat → Int → Option (Bool ⊕ Unit)} {p : Bool} (h0 : ∀ k, L (k + 1) 0 = if p = true then L k (w64 (0 + 1)) else some (.inl false)) (h1 : ∀ k, L (k + 1) 1 = some (.inr ())) :
    Evr (fun k=>(L k 0).bind fun v=>match v with | .inl r=>some r | .inr _=>some true) p:=by
  have e:w64 (0 + 1) = 1:=rfl
  refine ev_bind (if p = true then .inr () else .inl false) (ev_step _ h0 ?_) ?_
  · rw [e]
    cases p
    · exact ev_neg (by simp) ev_some
    · exact ev_pos rfl (ev_step _ h1 ev_some)
  · cases p <;> exact ev_some
theorem kid2 {L : Nat → Int → Option (Bool ⊕ Unit)} {p q : Bool} (h0 : ∀ k, L (k + 1) 0 = if (!p) = true then some (.inl false) else L k (w64 (0 + 1))) (h1 : ∀ k, L (k + 1) 1 = if (!q) = true then some (.inl false) else L k (w64 (1 + 1))) (h2 : ∀ k, L (k + 1) 2 = some (.inr ())) :
    Evr (fun k=>(L k 0).bind fun v=>match v with | .inl r=>some r | .inr _=>some true) (p && q):=by
  have e:w64 (0 + 1) = 1:=rfl
  have e2:w64 (1 + 1) = 2:=rfl
  refine ev_bind (if (p && q) = true then .inr () else .inl false) (ev_step _ h0 ?_) ?_
  · rw [e]
    cases p
    · exact ev_pos rfl ev_some
    · refine ev_neg (by simp) (ev_step _ h1 ?_)
      rw [e2]
      cases q
      · exact ev_pos rfl ev_some
      · exact ev_neg (by simp) (ev_step _ h2 ev_some)
  · cases p <;> cases q <;> exact ev_some
theorem kid3 {L : Nat → Int → Option (Bool ⊕ Unit)} {p q s : Bool} (h0 : ∀ k, L (k + 1) 0 = if (!p) = true then some (.inl false) else L k (w64 (0 + 1))) (h1 : ∀ k, L (k + 1) 1 = if (!q) = true then some (.inl false) else L k (w64 (1 + 1))) (h2 : ∀ k, L (k + 1) 2 = if (!s) = true then some (.inl false) else L k (w64 (2 + 1))) (h3 : ∀ k, L (k + 1) 3 = some (.inr ())) :
    Evr (fun k=>(L k 0).bind fun v=>match v with | .inl r=>some r | .inr _=>some true) (p && q && s):=by
  have e:w64 (0 + 1) = 1:=rfl
  have e2:w64 (1 + 1) = 2:=rfl
  have e3:w64 (2 + 1) = 3:=rfl
  refine ev_bind (if (p && q && s) = true then .inr () else .inl false) (ev_step _ h0 ?_) ?_
  · rw [e]
    cases p
    · exact ev_pos rfl ev_some
    · refine ev_neg (by simp) (ev_step _ h1 ?_)
      rw [e2]
      cases q
      · exact ev_pos rfl ev_some
      · refine ev_neg (by simp) (ev_step _ h2 ?_)
        rw [e3]
        cases s
        · exact ev_pos rfl ev_some
        · exact ev_neg (by simp) (ev_step _ h3 ev_some)
  · cases p <;> cases q <;> cases s <;> exact ev_some
theorem a1 (l:List SNode):Evr (fun k=>impl_areKids_1.f k l) (k1 exprB l):=by
  unfold impl_areKids_1.f impl_areKids_1.e2
  match l with
  | []=>exact ev_neg (by simp) ev_some
  | [a]=>exact ev_pos rfl (kid1 (L:=fun k i=>impl_areKids_1.l1 k [a] i) (fun k=>by simp [impl_areKids_1.l1,at?,k1,iexpr]) (fun k=>by simp [impl_areKids_1.l1]))
  | a :: b :: t=>exact ev_neg (by simp; omega) ev_some
theorem a2 (l:List SNode):Evr (fun k=>impl_areKids_2.f k l) (k1 varB l):=by
  unfold impl_areKids_2.f impl_areKids_2.e2
  match l with
  | []=>exact ev_neg (by simp) ev_some
  | [a]=>exact ev_pos rfl (kid1 (L:=fun k i=>impl_areKids_2.l1 k [a] i) (fun k=>by simp [impl_areKids_2.l1,at?,k1,ivar]) (fun k=>by simp [impl_areKids_2.l1]))
  | a :: b :: t=>exact ev_neg (by simp; omega) ev_some
theorem a3 (l:List SNode) (n:Int):Evr (fun k=>impl_areKids_3.f k l n) (k1 (ofB n) l):=by
  unfold impl_areKids_3.f impl_areKids_3.e2
  match l with
  | []=>exact ev_neg (by simp) ev_some
  | [a]=>exact ev_pos rfl (kid1 (L:=fun k i=>impl_areKids_3.l1 k [a] n i) (fun k=>by simp [impl_areKids_3.l1,at?,k1,iof]) (fun k=>by simp [impl_areKids_3.l1]))
  | a :: b :: t=>exact ev_neg (by simp; omega) ev_some
theorem a7 (l:List SNode):Evr (fun k=>impl_areKids_7.f k l) (k1 desB l):=by
  unfold impl_areKids_7.f impl_areKids_7.e2
  match l with
  | []=>exact ev_neg (by simp) ev_some
  | [a]=>exact ev_pos rfl (kid1 (L:=fun k i=>impl_areKids_7.l1 k [a] i) (fun k=>by simp [impl_areKids_7.l1,at?,k1,ides]) (fun k=>by simp [impl_areKids_7.l1]))
  | a :: b :: t=>exact ev_neg (by simp; omega) ev_some
theorem a4 (l:List SNode):Evr (fun k=>impl_areKids_4.f k l) (k2 desB exprB l):=by
  unfold impl_areKids_4.f impl_areKids_4.e3
  match l with
  | []=>exact ev_neg (by simp) ev_some
  | [a]=>exact ev_neg (by simp) ev_some
  | [a,b]=>exact ev_pos rfl (kid2 (L:=fun k i=>impl_areKids_4.l2 k [a,b] i) (fun k=>by simp [impl_areKids_4.l2,impl_areKids_4.e1,at?,ides]) (fun k=>by simp [impl_areKids_4.l2,impl_areKids_4.e1,at?,iexpr]) (fun k=>by simp [impl_areKids_4.l2]))
  | a :: b :: c :: t=>exact ev_neg (by simp; omega) ev_some
theorem a5 (l:List SNode) (n:Int):Evr (fun k=>impl_areKids_5.f k l n) (k2 exprB (ofB n) l):=by
  unfold impl_areKids_5.f impl_areKids_5.e3
  match l with
  | []=>exact ev_neg (by simp) ev_some
  | [a]=>exact ev_neg (by simp) ev_some
  | [a,b]=>exact ev_pos rfl (kid2 (L:=fun k i=>impl_areKids_5.l2 k [a,b] n i) (fun k=>by simp [impl_areKids_5.l2,impl_areKids_5.e1,at?,iexpr]) (fun k=>by simp [impl_areKids_5.l2,impl_areKids_5.e1,at?,iof]) (fun k=>by simp [impl_areKids_5.l2]))
  | a :: b :: c :: t=>exact ev_neg (by simp; omega) ev_some
theorem a8 (l:List SNode) (n:Int):Evr (fun k=>impl_areKids_8.f k l n) (k2 (ofB n) exprB l):=by
  unfold impl_areKids_8.f impl_areKids_8.e3
  match l with
  | []=>exact ev_neg (by simp) ev_some
  | [a]=>exact ev_neg (by simp) ev_some
  | [a,b]=>exact ev_pos rfl (kid2 (L:=fun k i=>impl_areKids_8.l2 k [a,b] n i) (fun k=>by simp [impl_areKids_8.l2,impl_areKids_8.e1,at?,iof]) (fun k=>by simp [impl_areKids_8.l2,impl_areKids_8.e1,at?,iexpr]) (fun k=>by simp [impl_areKids_8.l2]))
  | a :: b :: c :: t=>exact ev_neg (by simp; omega) ev_some
theorem a9 (l:List SNode):Evr (fun k=>impl_areKids_9.f k l) (k2 exprB exprB l):=by
  unfold impl_areKids_9.f impl_areKids_9.e3
  match l with
  | []=>exact ev_neg (by simp) ev_some
  | [a]=>exact ev_neg (by simp) ev_some
  | [a,b]=>exact ev_pos rfl (kid2 (L:=fun k i=>impl_areKids_9.l2 k [a,b] i) (fun k=>by simp [impl_areKids_9.l2,impl_areKids_9.e1,at?,iexpr]) (fun k=>by simp [impl_areKids_9.l2,impl_areKids_9.e1,at?,iexpr]) (fun k=>by simp [impl_areKids_9.l2]))
  | a :: b :: c :: t=>exact ev_neg (by simp; omega) ev_some
theorem a6 (l:List SNode) (n m:Int):Evr (fun k=>impl_areKids_6.f k l n m) (k3 exprB (ofB n) (ofB m) l):=by
  unfold impl_areKids_6.f impl_areKids_6.e3
  match l with
  | []=>exact ev_neg (by simp) ev_some
  | [a]=>exact ev_neg (by simp) ev_some
  | [a,b]=>exact ev_neg (by simp) ev_some
  | [a,b,c]=>exact ev_pos rfl (kid3 (L:=fun k i=>impl_areKids_6.l2 k [a,b,c] n m i) (fun k=>by simp [impl_areKids_6.l2,impl_areKids_6.e1,at?,iexpr]) (fun k=>by simp [impl_areKids_6.l2,impl_areKids_6.e1,at?,iof]) (fun k=>by simp [impl_areKids_6.l2,impl_areKids_6.e1,at?,iof]) (fun k=>by simp [impl_areKids_6.l2]))
  | a :: b :: c :: d :: t=>exact ev_neg (by simp; omega) ev_some
theorem iall1 (l:List SNode) (hn:l.length ≤ 1048576):Evr (fun k=>impl_areAll_impl_Node_1.f k l) (l.all stmtB):=by
  unfold impl_areAll_impl_Node_1.f slices_ContainsFunc___impl_Node_impl_Node_1.f slices_IndexFunc___impl_Node_impl_Node_1.f slices_IndexFunc___impl_Node_impl_Node_1.e2
  exact ev_allInt (L:=fun k i=>slices_IndexFunc___impl_Node_impl_Node_1.l1 k l i) (g:=fun k x=>impl_areAll_impl_Node__1_1.f k x) (by omega) (fun k=>if_neg (by omega)) (fun x _=>ev_of fun k=>by
    unfold impl_areAll_impl_Node__1_1.f; rw [istmt]; rfl) (fun k i hi=>by
    show (if _ then _ else _) = _
    rw [if_pos (by omega),at?_nat hi]; rfl)
theorem iall2 (l:List SNode) (hn:l.length ≤ 1048576):Evr (fun k=>impl_areAll_impl_Node_2.f k l) (l.all exprB):=by
  unfold impl_areAll_impl_Node_2.f slices_ContainsFunc___impl_Node_impl_Node_2.f slices_IndexFunc___impl_Node_impl_Node_2.f slices_IndexFunc___impl_Node_impl_Node_2.e2
  exact ev_allInt (L:=fun k i=>slices_IndexFunc___impl_Node_impl_Node_2.l1 k l i) (g:=fun k x=>impl_areAll_impl_Node__1_2.f k x) (by omega) (fun k=>if_neg (by omega)) (fun x _=>ev_of fun k=>by
    unfold impl_areAll_impl_Node__1_2.f; rw [iexpr]; rfl) (fun k i hi=>by
    show (if _ then _ else _) = _
    rw [if_pos (by omega),at?_nat hi]; rfl)
/-! Groups. -/
def grp:List Int → List SNode → List SNode
  | [],l=>l
  | o :: os,l=>grp os (l.dropWhile (ofB o))
theorem drop_ev (n:Int):∀ (l:List SNode),Evr (fun k=>impl_areGroups.l2 k n l) (l.dropWhile (ofB n))
  | []=>ev_step _ (fun k=>impl_areGroups.l2.eq_2 _ _ k) (by simp [impl_areGroups.e1]; exact ev_some)
  | x :: l=>by
    refine ev_step _ (fun k=>impl_areGroups.l2.eq_2 _ _ k) (ev_bind (ofB n x) (ev_of fun k=>?_) ?_)
    · simp [impl_areGroups.e1,at?,ofB]
    · cases h:ofB n x with
      | false=>rw [List.dropWhile_cons_of_neg (by simp [h])]; exact ev_neg (by simp) ev_some
      | true=>rw [List.dropWhile_cons_of_pos h]; exact ev_pos rfl (ev_pos (by simp only [List.length_cons]; omega) (drop_ev n l))
theorem grp_ev (os:List Int) (ho:os.length ≤ 100) (l:List SNode):Evr (fun k=>impl_areGroups.f k l os) (grp os l).isEmpty:=by
  have main:∀ (m i:Nat) (l:List SNode),i + m = os.length → Evr (fun k=>impl_areGroups.l4 k os l (i:Int)) (grp (os.drop i) l):=by
    intro m
    induction m with
    | zero =>
      intro i l hi
      rw [List.drop_eq_nil_of_le (by omega)]
      exact ev_step _ (fun k=>impl_areGroups.l4.eq_2 _ _ _ k) (ev_neg (by omega) ev_some)
    | succ m ih =>
      intro i l hi
      have hlt:i < os.length:=by omega
      rw [List.drop_eq_getElem_cons hlt]
      refine ev_step _ (fun k=>impl_areGroups.l4.eq_2 _ _ _ k) (ev_pos (by omega) (ev_bind (l.dropWhile (ofB os[i])) ?_ ?_))
      · unfold impl_areGroups.e3
        simp only [at?_nat hlt,Option.bind_some]
        exact drop_ev _ _
      · rw [w64_next (by omega)]
        exact ih (i + 1) _ (by omega)
  unfold impl_areGroups.f impl_areGroups.e5
  refine ev_bind _ (main os.length 0 l (by omega)) (ev_of fun k=>?_)
  rw [List.drop_zero]
  cases grp os l <;> simp
  omega
theorem count_ev (n:Int) (l:List SNode) (hn:l.length ≤ 1048576):Evr (fun k=>impl_countOf.f k l n) ((l.countP (ofB n):Nat):Int):=by
  have main:∀ (m i c:Nat),i + m = l.length → c ≤ i → Evr (fun k=>impl_countOf.l2 k l n (c:Int) (i:Int)) ((c + (l.drop i).countP (ofB n):Nat):Int):=by
    intro m
    induction m with
    | zero =>
      intro i c hi hc
      rw [List.drop_eq_nil_of_le (by omega)]
      exact ev_step _ (fun k=>impl_countOf.l2.eq_2 _ _ _ _ k) (ev_neg (by omega) (by simp; exact ev_some))
    | succ m ih =>
      intro i c hi hc
      have hlt:i < l.length:=by omega
      rw [List.drop_eq_getElem_cons hlt,List.countP_cons]
      refine ev_step _ (fun k=>impl_countOf.l2.eq_2 _ _ _ _ k) (ev_pos (by omega) (ev_bind (((if ofB n l[i] = true then c + 1 else c:Nat)):Int) (ev_of fun k=>?_) ?_))
      · unfold impl_countOf.e1
        rw [at?_nat hlt,Option.bind_some,w64_next (by omega)]
        by_cases h:l[i].f0 = n
        · rw [if_pos h,if_pos (show ofB n l[i] = true from decide_eq_true h)]
        · rw [if_neg h,if_neg (show ¬ ofB n l[i] = true by simpa [ofB] using h)]
      · rw [w64_next (by omega)]
        have:=ih (i + 1) (if ofB n l[i] = true then c + 1 else c) (by omega) (by split <;> omega)
        refine ev_eq this ?_
        split <;> omega
  unfold impl_countOf.f impl_countOf.e3
  refine ev_bind _ (main l.length 0 0 (by omega) (by omega)) ?_
  rw [List.drop_zero,Nat.zero_add]
  exact ev_some
def ordB:List SNode → List Int → Int → Bool
  | [],_,_=>false
  | x :: xs,os,b=>match os.dropWhile (fun o=>!decide (o = x.f0)) with
    | []=>decide (x.f0 = b) && xs.isEmpty
    | o :: os'=>ordB xs (o :: os') b
theorem ord_grp (b:Int):∀ (l:List SNode) (os:List Int),b ∉ os → ((grp (os ++ [b]) l).isEmpty && decide (l.countP (ofB b) = 1)) = ordB l os b
  | [],os,_=>by simp [ordB]
  | x :: xs,[],_=>by
    simp only [List.nil_append,grp,ordB,List.dropWhile_nil]
    by_cases h:x.f0 = b
    · have h1:ofB b x = true:=decide_eq_true h
      rw [List.dropWhile_cons_of_pos h1,List.countP_cons_of_pos h1,decide_eq_true h,Bool.true_and]
      cases xs with
      | nil=>rfl
      | cons y ys =>
        cases h2:ofB b y with
        | true=>rw [List.countP_cons_of_pos h2]; simp
        | false=>rw [List.dropWhile_cons_of_neg (by simp [h2])]; simp
    · have h1:ofB b x = false:=decide_eq_false h
      rw [List.dropWhile_cons_of_neg (by simp [h1]),decide_eq_false h]; simp
  | x :: xs,o :: os,hb=>by
    have hb':b ≠ o ∧ b ∉ os:=by simpa using hb
    by_cases h:x.f0 = o
    · have h1:ofB o x = true:=decide_eq_true h
      have h2:ofB b x = false:=decide_eq_false (by rw [h]; exact hb'.1.symm)
      have ih:=ord_grp b xs (o :: os) hb
      simp only [List.cons_append,grp,ordB] at ih ⊢
      rw [List.dropWhile_cons_of_pos h1,List.countP_cons_of_neg (by simp [h2]),List.dropWhile_cons_of_neg (by simp [h])]
      exact ih
    · have h1:ofB o x = false:=decide_eq_false h
      have ih:=ord_grp b (x :: xs) os hb'.2
      simp only [List.cons_append,grp,ordB] at ih ⊢
      rw [List.dropWhile_cons_of_neg (by simp [h1]),List.dropWhile_cons_of_pos (by simpa using fun e=>h e.symm)]
      exact ih
termination_by l os=>(l.length,os.length)
theorem seek_ev (l:List SNode) (os:List Int) (ho:os.length ≤ 100) (i:Nat) (hi:i < l.length):∀ (m at_:Nat),at_ + m = os.length → ∃ at':Nat,at' ≤ os.length ∧ os.drop at' = (os.drop at_).dropWhile (fun o=>!decide (o = l[i].f0)) ∧ Evr (fun k=>spec_l02Order.l2 k l os (i:Int) (at_:Int)) (at':Int)
  | 0,at_,hm=>by
    refine ⟨at_,by omega,by rw [List.drop_eq_nil_of_le (by omega)]; rfl,ev_step _ (fun k=>spec_l02Order.l2.eq_2 _ _ _ _ k) (ev_bind false (ev_of fun k=>?_) (ev_neg (by simp) ev_some))⟩
    exact if_neg (by omega)
  | m + 1,at_,hm=>by
    have hlt:at_ < os.length:=by omega
    have h1:∀ k,spec_l02Order.e1 k l os (i:Int) (at_:Int) = some (!decide (os[at_] = l[i].f0)):=fun k=>by
      unfold spec_l02Order.e1
      rw [if_pos (by omega),at?_nat hlt,at?_nat hi]; rfl
    cases h:decide (os[at_] = l[i].f0) with
    | true =>
      refine ⟨at_,by omega,by rw [List.drop_eq_getElem_cons hlt,List.dropWhile_cons_of_neg (by simp [h])],ev_step _ (fun k=>spec_l02Order.l2.eq_2 _ _ _ _ k) (ev_bind _ (ev_of h1) (ev_neg (by simp [h]) ev_some))⟩
    | false =>
      obtain ⟨at',g1,g2,g3⟩:=seek_ev l os ho i hi m (at_ + 1) (by omega)
      refine ⟨at',g1,by rw [List.drop_eq_getElem_cons hlt,List.dropWhile_cons_of_pos (by simp [h])]; exact g2,ev_step _ (fun k=>spec_l02Order.l2.eq_2 _ _ _ _ k) (ev_bind _ (ev_of h1) (ev_pos (by simp [h]) ?_))⟩
      rw [w64_next (by omega)]
      exact g3
theorem order_ev (l:List SNode) (hn:l.length ≤ 1048576) (os:List Int) (ho:os.length ≤ 100) (b:Int):Evr (fun k=>spec_l02Order.f k l os b) (ordB l os b):=by
  have main:∀ (m i at_:Nat),i + m = l.length → at_ ≤ os.length → ∃ v,Evr (fun k=>spec_l02Order.l6 k l os b (at_:Int) (i:Int)) v ∧ (match v with | .inl r=>r | .inr _=>false) = ordB (l.drop i) (os.drop at_) b:=by
    intro m
    induction m with
    | zero =>
      intro i at_ hi _
      rw [List.drop_eq_nil_of_le (by omega)]
      exact ⟨.inr (),ev_step _ (fun k=>spec_l02Order.l6.eq_2 _ _ _ _ _ k) (ev_neg (by omega) ev_some),rfl⟩
    | succ m ih =>
      intro i at_ hi ha
      have hlt:i < l.length:=by omega
      obtain ⟨at',g1,g2,g3⟩:=seek_ev l os ho i hlt (os.length - at_) at_ (by omega)
      rw [List.drop_eq_getElem_cons hlt]
      have hord:ordB (l[i] :: l.drop (i + 1)) (os.drop at_) b = match os.drop at' with | []=>decide (l[i].f0 = b) && (l.drop (i + 1)).isEmpty | o :: os'=>ordB (l.drop (i + 1)) (o :: os') b:=by
        rw [ordB,g2]
      rw [hord]
      by_cases he:at' = os.length
      · have hd:os.drop at' = []:=List.drop_eq_nil_of_le (by omega)
        rw [hd]
        have hw:w64 ((l.length:Int) - 1) = ((l.length - 1:Nat):Int):=by rw [w64_id (by omega) (by omega)]; omega
        refine ⟨.inl (decide (l[i].f0 = b) && (l.drop (i + 1)).isEmpty),ev_step _ (fun k=>spec_l02Order.l6.eq_2 _ _ _ _ _ k) (ev_pos (by omega) (ev_bind (.inl (decide (l[i].f0 = b) && (l.drop (i + 1)).isEmpty)) ?_ ev_some)),rfl⟩
        unfold spec_l02Order.e5 spec_l02Order.e3
        refine ev_bind _ g3 (ev_pos (by omega) (ev_bind (decide (l[i].f0 = b) && (l.drop (i + 1)).isEmpty) (ev_of fun k=>?_) ev_some))
        unfold spec_l02Order.e4
        rw [at?_nat hlt,Option.bind_some,hw]
        by_cases h:l[i].f0 = b
        · rw [if_pos h,decide_eq_true h,Bool.true_and,Option.some.injEq]
          by_cases h2:i + 1 = l.length
          · rw [decide_eq_true (by omega),List.drop_eq_nil_of_le (by omega)]; rfl
          · rw [decide_eq_false (by omega),List.drop_eq_getElem_cons (by omega)]; rfl
        · rw [if_neg h,decide_eq_false h,Bool.false_and]
      · have hlt2:at' < os.length:=by omega
        obtain ⟨v,h1,h2⟩:=ih (i + 1) at' (by omega) g1
        have hd:os.drop at' = os[at'] :: os.drop (at' + 1):=List.drop_eq_getElem_cons hlt2
        refine ⟨v,ev_step _ (fun k=>spec_l02Order.l6.eq_2 _ _ _ _ _ k) (ev_pos (by omega) (ev_bind (.inr (at':Int)) ?_ ?_)),?_⟩
        · unfold spec_l02Order.e5 spec_l02Order.e3
          exact ev_bind _ g3 (ev_neg (by omega) ev_some)
        · rw [w64_next (by omega)]
          exact h1
        · rw [h2,hd]
  obtain ⟨v,h1,h2⟩:=main l.length 0 0 (by omega) (by omega)
  rw [List.drop_zero,List.drop_zero] at h2
  unfold spec_l02Order.f spec_l02Order.e7
  refine ev_bind v h1 ?_
  rw [← h2]
  cases v <;> exact ev_some
theorem sexprs_ev (l:List SNode) (hn:l.length ≤ 1048576) (n:Int):Evr (fun k=>spec_l02Exprs.f k l n) (l.all exprB && (decide (n < 0) || decide ((l.length:Int) = n))):=by
  unfold spec_l02Exprs.f spec_l02Exprs.e2
  refine ev_bind _ (ev_allUnit (l:=l) (p:=exprB) (L:=fun k i=>spec_l02Exprs.l1 k l i) (g:=fun k i=>some (!exprB (l.getD i ⟨0,0,⟨#[]⟩,⟨#[]⟩,[]⟩))) (by omega) (fun k=>if_neg (by omega)) (fun i hi=>by simp [hi]; exact ev_some) (fun k i hi=>by
    show (if _ then _ else _) = _
    rw [if_pos (by omega),at?_nat hi,Option.bind_some,sexpr,Option.bind_some]
    simp only [hi,List.getD_eq_getElem?_getD,List.getElem?_eq_getElem,Option.getD_some,Option.bind_some]
    cases exprB l[i] <;> rfl)) ?_
  cases l.all exprB with
  | false=>exact ev_some
  | true =>
    refine ev_bind _ (ev_of fun k=>?_) ev_some
    unfold spec_l02Exprs.e3
    by_cases h:n < 0
    · rw [if_pos h]; simp [h]
    · rw [if_neg h]; simp [h]
end Go.Proofs.YtaelpeekimbmcaaGreatDoor.T
