/- A node is right: the program's and the reference's answers as one. -/
import Derived.Test.YtaelpeekimbmcaaGreatDoorPlTr2FnExactPrint
set_option linter.unusedVariables false
set_option linter.unusedSimpArgs false
namespace Go.Proofs.YtaelpeekimbmcaaGreatDoor.T
open Go.RowKit Go.Proofs.YtaelpeekimbmcaaGreatDoor.E Go.Proofs.YtaelpeekimbmcaaGreatDoor.V
theorem k1_ne {p:SNode → Bool} {l:List SNode} (h:l.length ≠ 1):k1 p l = false:=by
  match l,h with
  | [],_=>rfl
  | [_],h=>exact absurd rfl h
  | _ :: _ :: _,_=>rfl
theorem k2_ne {p q:SNode → Bool} {l:List SNode} (h:l.length ≠ 2):k2 p q l = false:=by
  match l,h with
  | [],_=>rfl
  | [_],_=>rfl
  | [_,_],h=>exact absurd rfl h
  | _ :: _ :: _ :: _,_=>rfl
theorem k3_ne {p q r:SNode → Bool} {l:List SNode} (h:l.length ≠ 3):k3 p q r l = false:=by
  match l,h with
  | [],_=>rfl
  | [_],_=>rfl
  | [_,_],_=>rfl
  | [_,_,_],h=>exact absurd rfl h
  | _ :: _ :: _ :: _ :: _,_=>rfl
theorem two {l:List SNode} (h:l.length = 2):∃ a b,l = [a,b]:=by
  match l,h with
  | [a,b],_=>exact ⟨a,b,rfl⟩
theorem three {l:List SNode} (h:l.length = 3):∃ a b c,l = [a,b,c]:=by
  match l,h with
  | [a,b,c],_=>exact ⟨a,b,c,rfl⟩
theorem s5 (k:Nat) (x:SNode):spec_l02Kids.e5 k x = some (k1 varB x.f4):=by
  unfold spec_l02Kids.e5
  by_cases h:x.f4.length = 1
  · obtain ⟨a,ha⟩:=List.length_eq_one_iff.1 h
    by_cases h8:a.f0 = 8 <;> simp [ha,at?,k1,varB,h8]
  · rw [if_neg (by omega),k1_ne h]
theorem s7 (k:Nat) (x:SNode):spec_l02Kids.e7 k x = some (k1 (ofB 8) x.f4):=by
  unfold spec_l02Kids.e7
  by_cases h:x.f4.length = 1
  · obtain ⟨a,ha⟩:=List.length_eq_one_iff.1 h
    simp [ha,at?,k1,ofB]
  · rw [if_neg (by omega),k1_ne h]
theorem s10 (k:Nat) (x:SNode):spec_l02Kids.e10 k x = some (k2 desB exprB x.f4):=by
  unfold spec_l02Kids.e10
  by_cases h:x.f4.length = 2
  · obtain ⟨a,b,ha⟩:=two h
    cases hd:desB a <;> simp [ha,at?,k2,sdes,sexpr,hd]
  · rw [if_neg (by omega),k2_ne h]
theorem s11 (k:Nat) (x:SNode):spec_l02Kids.e11 k x = some (k1 desB x.f4):=by
  unfold spec_l02Kids.e11
  by_cases h:x.f4.length = 1
  · obtain ⟨a,ha⟩:=List.length_eq_one_iff.1 h
    simp [ha,at?,k1,sdes]
  · rw [if_neg (by omega),k1_ne h]
theorem s12 (k:Nat) (x:SNode):spec_l02Kids.e12 k x = some (k2 exprB (ofB 10) x.f4 || k3 exprB (ofB 10) (ofB 10) x.f4):=by
  unfold spec_l02Kids.e12
  rw [in_eq,Option.bind_some]
  by_cases h:x.f4.length = 2
  · obtain ⟨a,b,ha⟩:=two h
    cases hd:exprB a <;> by_cases hb:b.f0 = 10 <;> simp [ha,at?,k2,k3,sexpr,hd,ofB,hb]
  · rw [k2_ne h,Bool.false_or]
    by_cases h3:x.f4.length = 3
    · obtain ⟨a,b,c,ha⟩:=three h3
      cases hd:exprB a <;> by_cases hb:b.f0 = 10 <;> simp [ha,at?,k3,sexpr,hd,ofB,hb]
    · rw [k3_ne h3,if_neg (by simp; omega)]
theorem s13 (k:Nat) (x:SNode):spec_l02Kids.e13 k x = some (k2 exprB (ofB 10) x.f4):=by
  unfold spec_l02Kids.e13
  by_cases h:x.f4.length = 2
  · obtain ⟨a,b,ha⟩:=two h
    cases hd:exprB a <;> simp [ha,at?,k2,sexpr,hd,ofB]
  · rw [if_neg (by omega),k2_ne h]
theorem s16 (k:Nat) (x:SNode):spec_l02Kids.e16 k x = some (k1 (ofB 21) x.f4):=by
  unfold spec_l02Kids.e16
  by_cases h:x.f4.length = 1
  · obtain ⟨a,ha⟩:=List.length_eq_one_iff.1 h
    simp [ha,at?,k1,ofB]
  · rw [if_neg (by omega),k1_ne h]
theorem s17 (k:Nat) (x:SNode):spec_l02Kids.e17 k x = some (k2 (ofB 21) exprB x.f4):=by
  unfold spec_l02Kids.e17
  by_cases h:x.f4.length = 2
  · obtain ⟨a,b,ha⟩:=two h
    by_cases hd:a.f0 = 21 <;> simp [ha,at?,k2,sexpr,hd,ofB]
  · rw [if_neg (by omega),k2_ne h]
theorem all1 (l:List SNode):(l.all exprB && decide ((l.length:Int) = 1)) = k1 exprB l:=by
  match l with
  | []=>rfl
  | [a]=>simp [k1]
  | a :: b :: t=>rw [k1_ne (by simp),decide_eq_false (by simp only [List.length_cons]; omega),Bool.and_false]
theorem all2 (l:List SNode):(l.all exprB && decide ((l.length:Int) = 2)) = k2 exprB exprB l:=by
  match l with
  | []=>rfl
  | [a]=>rw [k2_ne (by simp),decide_eq_false (by simp),Bool.and_false]
  | [a,b]=>simp [k2]
  | a :: b :: c :: t=>rw [k2_ne (by simp),decide_eq_false (by simp only [List.length_cons]; omega),Bool.and_false]
theorem s14 (x:SNode) (hn:x.f4.length ≤ 1048576):Evr (fun k=>spec_l02Kids.e14 k x) (x.f4.isEmpty || k1 exprB x.f4):=by
  unfold spec_l02Kids.e14
  by_cases h:x.f4.length < 2
  · refine ev_pos (by omega) (ev_bind _ (sexprs_ev x.f4 hn (-1)) (ev_eq ev_some ?_))
    match hl:x.f4,h with
    | [],_=>rfl
    | [a],_=>simp [k1]
  · refine ev_neg (by omega) (ev_eq ev_some ?_)
    rw [k1_ne (by omega)]
    cases hl:x.f4 with
    | nil=>rw [hl] at h; simp at h
    | cons a t=>rfl
theorem s9 (x:SNode) (hn:x.f4.length ≤ 1048576):Evr (fun k=>spec_l02Kids.e9 k x) (if x.f4.all stmtB then .inr () else .inl false):=by
  unfold spec_l02Kids.e9
  exact ev_allUnit (l:=x.f4) (p:=stmtB) (L:=fun k i=>spec_l02Kids.l8 k x i) (g:=fun k i=>some (!stmtB (x.f4.getD i ⟨0,0,⟨#[]⟩,⟨#[]⟩,[]⟩))) (by omega) (fun k=>if_neg (by omega)) (fun i hi=>by simp [hi]; exact ev_some) (fun k i hi=>by
    show (if _ then _ else _) = _
    rw [if_pos (by omega),at?_nat hi,Option.bind_some,sstmt,Option.bind_some]
    simp only [hi,List.getD_eq_getElem?_getD,List.getElem?_eq_getElem,Option.getD_some,Option.bind_some]
    cases stmtB x.f4[i] <;> rfl)
theorem s3 (x:SNode) (hn:x.f4.length ≤ 1048576):Evr (fun k=>spec_l02Kids.e3 k x) ((x.f4.countP (ofB 7):Nat):Int):=by
  have main:∀ (m i c:Nat),i + m = x.f4.length → c ≤ i → Evr (fun k=>spec_l02Kids.l2 k x (c:Int) (i:Int)) ((c + (x.f4.drop i).countP (ofB 7):Nat):Int):=by
    intro m
    induction m with
    | zero =>
      intro i c hi hc
      rw [List.drop_eq_nil_of_le (by omega)]
      exact ev_step _ (fun k=>spec_l02Kids.l2.eq_2 _ _ _ k) (ev_neg (by omega) (by simp; exact ev_some))
    | succ m ih =>
      intro i c hi hc
      have hlt:i < x.f4.length:=by omega
      rw [List.drop_eq_getElem_cons hlt,List.countP_cons]
      refine ev_step _ (fun k=>spec_l02Kids.l2.eq_2 _ _ _ k) (ev_pos (by omega) (ev_bind (((if ofB 7 x.f4[i] = true then c + 1 else c:Nat)):Int) (ev_of fun k=>?_) ?_))
      · unfold spec_l02Kids.e1
        rw [at?_nat hlt,Option.bind_some,w64_next (by omega)]
        by_cases h:x.f4[i].f0 = 7
        · rw [if_pos h,if_pos (show ofB 7 x.f4[i] = true from decide_eq_true h)]
        · rw [if_neg h,if_neg (show ¬ ofB 7 x.f4[i] = true by simpa [ofB] using h)]
      · rw [w64_next (by omega)]
        have:=ih (i + 1) (if ofB 7 x.f4[i] = true then c + 1 else c) (by omega) (by split <;> omega)
        refine ev_eq this ?_
        split <;> omega
  unfold spec_l02Kids.e3
  have:=main x.f4.length 0 0 (by omega) (by omega)
  rwa [List.drop_zero,Nat.zero_add] at this
def kidsB (x:SNode):Bool :=
  if x.f0 = 1 then ordB x.f4 [2,3,4,5] 10
  else if x.f0 = 5 then decide (x.f4.countP (ofB 7) = 1) && ordB x.f4 [6,7,4] 10
  else if x.f0 = 4 then k1 varB x.f4
  else if isIn [6,9] x.f0 then k1 (ofB 8) x.f4
  else if x.f0 = 10 then x.f4.all stmtB
  else if x.f0 = 11 then k2 desB exprB x.f4
  else if x.f0 = 17 then k1 desB x.f4
  else if x.f0 = 13 then k2 exprB (ofB 10) x.f4 || k3 exprB (ofB 10) (ofB 10) x.f4
  else if x.f0 = 14 then k2 exprB (ofB 10) x.f4
  else if x.f0 = 15 then x.f4.isEmpty || k1 exprB x.f4
  else if x.f0 = 12 then x.f4.all exprB
  else if isIn [3,16,23,25,26] x.f0 then k1 exprB x.f4
  else if x.f0 = 27 then k1 (ofB 21) x.f4
  else if x.f0 = 22 then k2 (ofB 21) exprB x.f4
  else if x.f0 = 24 then k2 exprB exprB x.f4
  else x.f4.isEmpty
theorem skids (x:SNode) (hn:x.f4.length ≤ 1048576):Evr (fun k=>spec_l02Kids.f k x) (kidsB x):=by
  unfold spec_l02Kids.f spec_l02Kids.e18 kidsB
  have inl:∀ {b:Bool} {g:Nat → Option Bool},Evr g b → Evr (fun k=>((g k).bind fun r=>some (.inl r:Bool ⊕ Unit))) (.inl b):=fun h=>ev_bind _ h ev_some
  have out:∀ {b:Bool} {g:Nat → Option (Bool ⊕ Unit)},Evr g (.inl b) → Evr (fun k=>(g k).bind fun v=>match v with | .inl r=>some r | .inr _=>some (decide ((x.f4.length:Int) = 0))) b:=fun h=>ev_bind _ h ev_some
  by_cases h:x.f0 = 1
  · rw [if_pos h]; exact out (ev_pos h (inl (order_ev _ hn _ (by decide) _)))
  rw [if_neg h]
  by_cases h5:x.f0 = 5
  · rw [if_pos h5]
    refine out (ev_neg h (ev_pos h5 (ev_bind _ (s3 x hn) (inl ?_))))
    unfold spec_l02Kids.e4
    by_cases hc:x.f4.countP (ofB 7) = 1
    · rw [decide_eq_true hc,Bool.true_and]
      exact ev_pos (by omega) (ev_bind _ (order_ev _ hn _ (by decide) _) ev_some)
    · rw [decide_eq_false hc,Bool.false_and]
      exact ev_neg (by omega) ev_some
  rw [if_neg h5]
  by_cases h4:x.f0 = 4
  · rw [if_pos h4]; exact out (ev_neg h (ev_neg h5 (ev_pos h4 (inl (ev_of fun k=>s5 k x)))))
  rw [if_neg h4]
  by_cases h6:isIn [6,9] x.f0 = true
  · rw [if_pos h6]; exact out (ev_neg h (ev_neg h5 (ev_neg h4 (ev_bind _ (ev_of fun k=>orc [6,9] x.f0) (ev_pos h6 (inl (ev_of fun k=>s7 k x)))))))
  rw [if_neg h6]
  by_cases h10:x.f0 = 10
  · rw [if_pos h10]
    refine out (ev_neg h (ev_neg h5 (ev_neg h4 (ev_bind _ (ev_of fun k=>orc [6,9] x.f0) (ev_neg h6 (ev_pos h10 (ev_bind _ (s9 x hn) ?_)))))))
    cases x.f4.all stmtB <;> exact ev_some
  rw [if_neg h10]
  by_cases h11:x.f0 = 11
  · rw [if_pos h11]; exact out (ev_neg h (ev_neg h5 (ev_neg h4 (ev_bind _ (ev_of fun k=>orc [6,9] x.f0) (ev_neg h6 (ev_neg h10 (ev_pos h11 (inl (ev_of fun k=>s10 k x)))))))))
  rw [if_neg h11]
  by_cases h17:x.f0 = 17
  · rw [if_pos h17]; exact out (ev_neg h (ev_neg h5 (ev_neg h4 (ev_bind _ (ev_of fun k=>orc [6,9] x.f0) (ev_neg h6 (ev_neg h10 (ev_neg h11 (ev_pos h17 (inl (ev_of fun k=>s11 k x))))))))))
  rw [if_neg h17]
  by_cases h13:x.f0 = 13
  · rw [if_pos h13]; exact out (ev_neg h (ev_neg h5 (ev_neg h4 (ev_bind _ (ev_of fun k=>orc [6,9] x.f0) (ev_neg h6 (ev_neg h10 (ev_neg h11 (ev_neg h17 (ev_pos h13 (inl (ev_of fun k=>s12 k x)))))))))))
  rw [if_neg h13]
  by_cases h14:x.f0 = 14
  · rw [if_pos h14]; exact out (ev_neg h (ev_neg h5 (ev_neg h4 (ev_bind _ (ev_of fun k=>orc [6,9] x.f0) (ev_neg h6 (ev_neg h10 (ev_neg h11 (ev_neg h17 (ev_neg h13 (ev_pos h14 (inl (ev_of fun k=>s13 k x))))))))))))
  rw [if_neg h14]
  by_cases h15:x.f0 = 15
  · rw [if_pos h15]; exact out (ev_neg h (ev_neg h5 (ev_neg h4 (ev_bind _ (ev_of fun k=>orc [6,9] x.f0) (ev_neg h6 (ev_neg h10 (ev_neg h11 (ev_neg h17 (ev_neg h13 (ev_neg h14 (ev_pos h15 (inl (s14 x hn)))))))))))))
  rw [if_neg h15]
  have pre:∀ {b:Bool} {g:Nat → Option (Bool ⊕ Unit)},Evr g (.inl b) → True:=fun _=>trivial
  by_cases h12:x.f0 = 12
  · rw [if_pos h12]
    refine out (ev_neg h (ev_neg h5 (ev_neg h4 (ev_bind _ (ev_of fun k=>orc [6,9] x.f0) (ev_neg h6 (ev_neg h10 (ev_neg h11 (ev_neg h17 (ev_neg h13 (ev_neg h14 (ev_neg h15 (ev_pos h12 (inl ?_)))))))))))))
    have:=sexprs_ev x.f4 hn (-1)
    simpa using this
  rw [if_neg h12]
  refine ev_bind (α:=Bool ⊕ Unit) (if isIn [3,16,23,25,26] x.f0 = true then .inl (k1 exprB x.f4) else if x.f0 = 27 then .inl (k1 (ofB 21) x.f4) else if x.f0 = 22 then .inl (k2 (ofB 21) exprB x.f4) else if x.f0 = 24 then .inl (k2 exprB exprB x.f4) else .inr ()) (ev_neg h (ev_neg h5 (ev_neg h4 (ev_bind _ (ev_of fun k=>orc [6,9] x.f0) (ev_neg h6 (ev_neg h10 (ev_neg h11 (ev_neg h17 (ev_neg h13 (ev_neg h14 (ev_neg h15 (ev_neg h12 (ev_bind _ (ev_of fun k=>orc [3,16,23,25,26] x.f0) ?_))))))))))))) ?_
  · by_cases h3:isIn [3,16,23,25,26] x.f0 = true
    · rw [if_pos h3]
      refine ev_pos h3 (inl (ev_eq (sexprs_ev x.f4 hn 1) ?_))
      rw [← all1]; simp
    rw [if_neg h3]
    refine ev_neg h3 ?_
    by_cases h27:x.f0 = 27
    · rw [if_pos h27]; exact ev_pos h27 (inl (ev_of fun k=>s16 k x))
    rw [if_neg h27]
    refine ev_neg h27 ?_
    by_cases h22:x.f0 = 22
    · rw [if_pos h22]; exact ev_pos h22 (inl (ev_of fun k=>s17 k x))
    rw [if_neg h22]
    refine ev_neg h22 ?_
    by_cases h24:x.f0 = 24
    · rw [if_pos h24]
      refine ev_pos h24 (inl (ev_eq (sexprs_ev x.f4 hn 2) ?_))
      rw [← all2]; simp
    · rw [if_neg h24]; exact ev_neg h24 ev_some
  · by_cases h3:isIn [3,16,23,25,26] x.f0 = true
    · simp only [if_pos h3]; exact ev_some
    · simp only [if_neg h3]
      by_cases h27:x.f0 = 27
      · simp only [if_pos h27]; exact ev_some
      · simp only [if_neg h27]
        by_cases h22:x.f0 = 22
        · simp only [if_pos h22]; exact ev_some
        · simp only [if_neg h22]
          by_cases h24:x.f0 = 24
          · simp only [if_pos h24]; exact ev_some
          · simp only [if_neg h24]
            refine ev_eq ev_some ?_
            cases x.f4 with
            | nil=>rfl
            | cons a t=>exact decide_eq_false (by simp only [List.length_cons]; omega)
theorem ikids (x:SNode) (hn:x.f4.length ≤ 1048576):Evr (fun k=>impl_Node__hasKids.f k x) (kidsB x):=by
  have kk (n:Int):∀ k,impl_isOf.f k n = some n:=fun _=>rfl
  have one:∀ {b:Bool} {g:Nat → Option Bool},Evr g b → Evr (fun k=>((g k).bind fun r=>some r)) b:=fun h=>ev_bind _ h ev_some
  unfold impl_Node__hasKids.f
  by_cases h:x.f0 = 1
  · have e:kidsB x = ordB x.f4 [2,3,4,5] 10:=by simp [kidsB,h]
    rw [e]
    refine ev_pos h (one ?_)
    unfold impl_Node__hasKids.e1
    rw [← ord_grp 10 x.f4 [2,3,4,5] (by decide)]
    refine ev_bind _ (grp_ev [2,3,4,5,10] (by decide) x.f4) ?_
    show Evr _ ((grp [2,3,4,5,10] x.f4).isEmpty && _)
    cases (grp [2,3,4,5,10] x.f4).isEmpty with
    | false=>exact ev_neg (by simp) ev_some
    | true =>
      refine ev_pos rfl (ev_bind _ (count_ev 10 x.f4 hn) (ev_eq ev_some ?_))
      rw [Bool.true_and,decide_eq_decide]; omega
  refine ev_neg h (ev_bind _ (ev_of fun k=>orc [3,16,23,25,26] x.f0) ?_)
  by_cases h3:isIn [3,16,23,25,26] x.f0 = true
  · refine ev_pos h3 (one (ev_eq (a1 x.f4) ?_))
    have h3':x.f0 = 3 ∨ x.f0 = 16 ∨ x.f0 = 23 ∨ x.f0 = 25 ∨ x.f0 = 26:=by simpa [isIn] using h3
    rcases h3' with e | e | e | e | e <;> simp [kidsB,isIn,e]
  refine ev_neg h3 ?_
  by_cases h4:x.f0 = 4
  · exact ev_pos h4 (one (ev_eq (a2 x.f4) (by simp [kidsB,isIn,h4])))
  refine ev_neg h4 ?_
  by_cases h5:x.f0 = 5
  · refine ev_pos h5 (one ?_)
    have e:kidsB x = (decide (x.f4.countP (ofB 7) = 1) && ordB x.f4 [6,7,4] 10):=by simp [kidsB,h5]
    rw [e]
    unfold impl_Node__hasKids.e3
    rw [← ord_grp 10 x.f4 [6,7,4] (by decide)]
    refine ev_bind _ (grp_ev [6,7,4,10] (by decide) x.f4) ?_
    show Evr _ (_ && ((grp [6,7,4,10] x.f4).isEmpty && _))
    cases (grp [6,7,4,10] x.f4).isEmpty with
    | false=>exact ev_neg (by simp) (ev_eq ev_some (by simp))
    | true =>
      refine ev_pos rfl (ev_bind _ (count_ev 10 x.f4 hn) ?_)
      by_cases hc:x.f4.countP (ofB 10) = 1
      · refine ev_pos (by omega) (ev_bind _ (count_ev 7 x.f4 hn) (ev_eq ev_some ?_))
        rw [decide_eq_true hc,Bool.true_and,Bool.and_true,decide_eq_decide]; omega
      · exact ev_neg (by omega) (ev_eq ev_some (by rw [decide_eq_false hc]; simp))
  refine ev_neg h5 (ev_bind _ (ev_of fun k=>orc [6,9] x.f0) ?_)
  by_cases h6:isIn [6,9] x.f0 = true
  · refine ev_pos h6 (ev_bind _ (ev_of (kk 8)) (one (ev_eq (a3 x.f4 8) ?_)))
    simp [kidsB,h,h5,h4,h6]
  refine ev_neg h6 ?_
  by_cases h10:x.f0 = 10
  · exact ev_pos h10 (one (ev_eq (iall1 x.f4 hn) (by simp [kidsB,isIn,h10])))
  refine ev_neg h10 ?_
  by_cases h11:x.f0 = 11
  · exact ev_pos h11 (one (ev_eq (a4 x.f4) (by simp [kidsB,isIn,h11])))
  refine ev_neg h11 ?_
  by_cases h12:x.f0 = 12
  · exact ev_pos h12 (one (ev_eq (iall2 x.f4 hn) (by simp [kidsB,isIn,h12])))
  refine ev_neg h12 ?_
  by_cases h13:x.f0 = 13
  · refine ev_pos h13 (one ?_)
    have e:kidsB x = (k2 exprB (ofB 10) x.f4 || k3 exprB (ofB 10) (ofB 10) x.f4):=by simp [kidsB,isIn,h13]
    rw [e]
    unfold impl_Node__hasKids.e5
    refine ev_bind _ (ev_of (kk 10)) (ev_bind _ (a5 x.f4 10) ?_)
    cases k2 exprB (ofB 10) x.f4 with
    | true=>exact ev_some
    | false=>exact ev_neg (by simp) (ev_bind _ (ev_of (kk 10)) (ev_bind _ (ev_of (kk 10)) (one (ev_eq (a6 x.f4 10 10) (by simp)))))
  refine ev_neg h13 ?_
  by_cases h14:x.f0 = 14
  · exact ev_pos h14 (ev_bind _ (ev_of (kk 10)) (one (ev_eq (a5 x.f4 10) (by simp [kidsB,isIn,h14]))))
  refine ev_neg h14 ?_
  by_cases h15:x.f0 = 15
  · refine ev_pos h15 (one ?_)
    have e:kidsB x = (x.f4.isEmpty || k1 exprB x.f4):=by simp [kidsB,isIn,h15]
    rw [e]
    unfold impl_Node__hasKids.e6
    by_cases h0:x.f4.length = 0
    · exact ev_pos (by omega) (ev_eq ev_some (by rw [List.length_eq_zero_iff.1 h0]; rfl))
    · refine ev_neg (by omega) (one (ev_eq (a1 x.f4) ?_))
      cases hl:x.f4 with
      | nil=>rw [hl] at h0; exact absurd rfl h0
      | cons a t=>simp
  refine ev_neg h15 ?_
  by_cases h17:x.f0 = 17
  · exact ev_pos h17 (one (ev_eq (a7 x.f4) (by simp [kidsB,isIn,h17])))
  refine ev_neg h17 ?_
  by_cases h22:x.f0 = 22
  · exact ev_pos h22 (ev_bind _ (ev_of (kk 21)) (one (ev_eq (a8 x.f4 21) (by simp [kidsB,isIn,h22]))))
  refine ev_neg h22 ?_
  by_cases h24:x.f0 = 24
  · exact ev_pos h24 (one (ev_eq (a9 x.f4) (by simp [kidsB,isIn,h24])))
  refine ev_neg h24 ?_
  by_cases h27:x.f0 = 27
  · exact ev_pos h27 (ev_bind _ (ev_of (kk 21)) (one (ev_eq (a3 x.f4 21) (by simp [kidsB,isIn,h27]))))
  refine ev_neg h27 (ev_eq ev_some ?_)
  simp only [kidsB,h,h5,h4,h6,h10,h11,h17,h13,h14,h15,h12,h3,h27,h22,h24,if_false,Bool.false_eq_true]
  cases x.f4 <;> simp
  omega
end Go.Proofs.YtaelpeekimbmcaaGreatDoor.T
