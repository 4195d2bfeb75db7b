/- The engine, part V: regions whose order is drawn. Plain lemmas; no program. -/
import Derived.Test.YtoclajfeeebbbadGreatDoorEng10
set_option linter.unusedVariables false
set_option linter.unusedSectionVars false
set_option linter.unusedSimpArgs false
namespace Go.Proofs.YtoclajfeeebbbadGreatDoor.E
open Go.RowKit
variable [LaidFacts]
/-- An operation that makes one new value, or is not wanted. -/
def WOp (P:Program) (ops:Array Oper) (o:Oper) (st:St) (pv:PV):Prop :=
 ∀ a w r,Inv P st a w r → ∀ (K:Act → World → Prop) (Q:Exit → Act → World → Prop),
  (∀ v w' Sn γd,News P st a w r pv v w' Sn γd → K (a.put o.dst v) w') →
  if Region.wanted o (yielded ops a.tmps) then o.wp P a w K Q else K (a.put o.dst undef) w
/-! What comes behind all that floats, at the level of the kit. -/
section
variable {P:Program} {ops:Array Oper} {Q:Exit → Act → World → Prop}
theorem wpOp_of_list {l:List Oper} {i:Nat} {o:Oper} {K:Act → World → Prop} {a:Act} {w:World} (hi:l.toArray[i]? = some o) (h:if Region.wanted o (yielded l.toArray a.tmps) then o.wp P a w K Q ∨ (o.asks P a w ∧ LetsOut Q) else K (a.put o.dst undef) w):wpOp P l.toArray Q i K a w:=by
 unfold wpOp
 simp only [hi]
 exact h
theorem draw_tail {l:List Oper} {k:Nat} (hon:∀ i o,l[i]? = some o → ∀ e ∈ o.after,Region.binds .any e = true → e.on < i)
  (hall:∀ (f:Nat → Bool),(∀ i o,l[i]? = some o → f i = true → ∀ e ∈ o.after,Region.binds .any e = true → f e.on = true) → ∀ i o,l[i]? = some o → k ≤ i → (∀ e ∈ o.after,Region.binds .any e = true → f e.on = true) → ∀ j,j < i → f j = true) :
  ∀ (fuel i:Nat) (listed:Array Bool) (a:Act) (w:World),k ≤ i → i ≤ l.length → listed.size = l.length → (∀ j,listed.getD j false = decide (j < i)) → l.length - i ≤ fuel → wpList P l.toArray Q (l.drop i) a w → wpAny P .any l.toArray Q fuel listed a w:=by
 intro fuel
 induction fuel with
 | zero =>
  intro i listed a w hk hi hsz hl hf h
  have:i = l.length:=by omega
  subst this
  rw [List.drop_length] at h
  refine ⟨?_,h⟩
  refine List.eq_nil_iff_forall_not_mem.2 fun j hj=>?_
  obtain ⟨h1,o,ho,_⟩:=mem_ready.1 hj
  have hj':j < l.length:=by simpa using (Array.getElem?_eq_some_iff.1 ho).1
  have h2:=hl j
  rw [decide_eq_true hj'] at h2
  have:listed.getD j true = listed.getD j false:=by simp [hsz,hj']
  rw [h1,h2] at this; cases this
 | succ fuel ih =>
  intro i listed a w hk hi hsz hl hf h
  have hd:∀ j,j < l.length → listed.getD j true = listed.getD j false:=fun j hj=>by simp [hsz,hj]
  have hclo:∀ i' o,l[i']? = some o → listed.getD i' false = true → ∀ e ∈ o.after,Region.binds .any e = true → listed.getD e.on false = true:=by
   intro i' o ho h' e he hb
   rw [hl] at h' ⊢
   have:=hon i' o ho e he hb
   have:=of_decide_eq_true h'
   exact decide_eq_true (by omega)
  have hready:∀ j,j ∈ Region.ready .any l.toArray listed → j = i ∧ i < l.length:=by
   intro j hj
   obtain ⟨h1,o,ho,h2⟩:=mem_ready.1 hj
   have hj':j < l.length:=by simpa using (Array.getElem?_eq_some_iff.1 ho).1
   rw [hd j hj',hl] at h1
   have h3:=of_decide_eq_false h1
   rcases Nat.lt_or_ge i j with h4 | h4
   ·have:=hall (fun j=>listed.getD j false) hclo j o (by simpa using ho) (by omega) h2 i h4
    simp only [hl] at this
    have:=of_decide_eq_true this
    omega
   ·exact ⟨by omega,by omega⟩
  by_cases he:i = l.length
  ·subst he
   rw [List.drop_length] at h
   exact ⟨fun _=>h,fun j hj=>by have:=hready j hj; omega⟩
  ·have hlt:i < l.length:=by omega
   have hin:i ∈ Region.ready .any l.toArray listed:=by
    refine mem_ready.2 ⟨by rw [hd i hlt,hl]; simp,l[i],by simp [hlt],fun e he hb=>?_⟩
    rw [hl]
    exact decide_eq_true (hon i l[i] (List.getElem?_eq_getElem hlt) e he hb)
   refine ⟨fun h0=>(by rw [h0] at hin; cases hin),fun j hj=>?_⟩
   obtain ⟨rfl,_⟩:=hready j hj
   rw [List.drop_eq_getElem_cons hlt] at h
   have hK:∀ a w,wpList P l.toArray Q (l.drop (j + 1)) a w → wpAny P .any l.toArray Q fuel (listed.setIfInBounds j true) a w:=fun a w h' =>
    ih (j + 1) _ a w (by omega) hlt (by simpa using hsz) (fun q=>by
     by_cases hq:j = q
     ·subst hq; simp [hsz,hlt]
     ·rw [getD_set_ne false hq,hl]
      simp only [decide_eq_decide]; omega) (by omega) h'
   refine wpOp_mono hK (wpOp_of_list (o:=l[j]) (by simp [hlt]) ?_)
   simpa only [wpList] using h
end
/-! The pure states on the way. -/
def pick (f:Nat → Bool):Nat → List (Nat × PV) → List (Nat × PV)
 | _,[]=>[]
 | i,x :: D=>match f i with
  | true=>x :: pick f (i + 1) D
  | false=>pick f (i + 1) D
def St.sig (st:St) (D:List (Nat × PV)) (f:Nat → Bool):St:={ st with tm:=pick f 0 D ++ st.tm }
def keyIn (d:Nat):List (Nat × PV) → Bool
 | []=>false
 | x :: D=>match Nat.beq x.1 d with
  | true=>true
  | false=>keyIn d D
def freshB (tm:List (Nat × PV)) (n:Nat):List (Nat × PV) → Bool
 | []=>true
 | x :: D=>match keyIn x.1 tm,keyIn x.1 D,Nat.ble (x.1 + 1) n with
  | false,false,true=>freshB tm n D
  | _,_,_=>false
theorem keyIn_false {d:Nat}:∀ {D:List (Nat × PV)},keyIn d D = false → (∀ x ∈ D,x.1 ≠ d) ∧ look D d = none
 | [],_=>⟨fun x hx=>(by cases hx),rfl⟩
 | x :: D,h=>by
  simp only [keyIn] at h
  split at h
  ·cases h
  ·rename_i hb
   have hne:x.1 ≠ d:=fun e=>by rw [e,Nat.beq_refl] at hb; cases hb
   obtain ⟨h1,h2⟩:=keyIn_false h
   refine ⟨fun y hy=>?_,?_⟩
   ·rcases List.mem_cons.1 hy with rfl | hy
    ·exact hne
    ·exact h1 y hy
   ·obtain ⟨k,v⟩:=x
    simp only [look,if_neg hne,h2]
theorem look_append {t:Nat} {m:List (Nat × PV)}:∀ {l:List (Nat × PV)},look (l ++ m) t = match look l t with | some v=>some v | none=>look m t
 | []=>rfl
 | (k,v) :: l=>by
  simp only [List.cons_append,look]
  split
  ·rfl
  ·exact look_append
theorem look_mem {t:Nat} {v:PV}:∀ {l:List (Nat × PV)},look l t = some v → (t,v) ∈ l
 | [],h=>by cases h
 | (k,u) :: l,h=>by
  simp only [look] at h
  split at h
  ·rename_i e; subst e; cases h; exact List.mem_cons_self ..
  ·exact List.mem_cons_of_mem _ (look_mem h)
theorem pick_mem {f:Nat → Bool} {x:Nat × PV}:∀ {D:List (Nat × PV)} {i:Nat},x ∈ pick f i D → ∃ j,D[j]? = some x ∧ f (i + j) = true
 | [],i,h=>by simp [pick] at h
 | y :: D,i,h=>by
  simp only [pick] at h
  split at h
  ·rename_i hf
   rcases List.mem_cons.1 h with rfl | h
   ·exact ⟨0,rfl,hf⟩
   ·obtain ⟨j,h1,h2⟩:=pick_mem h
    exact ⟨j + 1,h1,by rw [← h2]; congr 1; omega⟩
  ·obtain ⟨j,h1,h2⟩:=pick_mem h
   exact ⟨j + 1,h1,by rw [← h2]; congr 1; omega⟩
theorem fresh_at {tm:List (Nat × PV)} {n:Nat}:∀ {D:List (Nat × PV)},freshB tm n D = true → ∀ (j:Nat) (x:Nat × PV),D[j]? = some x → look tm x.1 = none ∧ x.1 < n ∧ ∀ (j':Nat) (y:Nat × PV),D[j']? = some y → y.1 = x.1 → j' = j
 | [],_,j,x,hx=>by simp at hx
 | y :: D,h,j,x,hx=>by
  simp only [freshB] at h
  split at h
  ·rename_i h1 h2 h3
   have h2':=(keyIn_false h2).1
   cases j with
   | zero =>
    simp only [List.getElem?_cons_zero,Option.some.injEq] at hx
    subst hx
    refine ⟨(keyIn_false h1).2,Nat.le_of_ble_eq_true h3,fun j' z hz he=>?_⟩
    cases j' with
    | zero=>rfl
    | succ j'=>exact absurd he (h2' z (List.mem_of_getElem? (by simpa using hz)))
   | succ j =>
    simp only [List.getElem?_cons_succ] at hx
    obtain ⟨k1,k2,k3⟩:=fresh_at h j x hx
    refine ⟨k1,k2,fun j' z hz he=>?_⟩
    cases j' with
    | zero =>
     simp only [List.getElem?_cons_zero,Option.some.injEq] at hz
     subst hz
     exact absurd he.symm (h2' x (List.mem_of_getElem? hx))
    | succ j'=>rw [k3 j' z (by simpa using hz) he]
  ·cases h
theorem look_pick {f:Nat → Bool} {tm:List (Nat × PV)} {n:Nat}:∀ {D:List (Nat × PV)},freshB tm n D = true → ∀ (i j:Nat) (x:Nat × PV),D[j]? = some x → look (pick f i D) x.1 = if f (i + j) then some x.2 else none
 | [],_,i,j,x,hx=>by simp at hx
 | y :: D,h,i,j,x,hx=>by
  have h':=h
  simp only [freshB] at h
  split at h
  ·rename_i h1 h2 h3
   have hD:∀ (j:Nat) (z:Nat × PV),D[j]? = some z → z.1 ≠ y.1:=fun j z hz=>(keyIn_false h2).1 z (List.mem_of_getElem? hz)
   cases j with
   | zero =>
    simp only [List.getElem?_cons_zero,Option.some.injEq] at hx
    subst hx
    simp only [pick,Nat.add_zero]
    split
    ·rename_i hf
     obtain ⟨k,v⟩:=y
     simp [look,hf]
    ·rename_i hf
     simp only [hf,Bool.false_eq_true,if_false]
     cases hl:look (pick f (i + 1) D) y.1 with
     | none=>rfl
     | some v =>
      obtain ⟨j,h4,_⟩:=pick_mem (look_mem hl)
      exact absurd rfl (hD j (y.1,v) h4)
   | succ j =>
    simp only [List.getElem?_cons_succ] at hx
    have ih:=look_pick (f:=f) h (i + 1) j x hx
    rw [show i + 1 + j = i + (j + 1) by omega] at ih
    simp only [pick]
    split
    ·obtain ⟨k,v⟩:=y
     simp only [look,if_neg (fun e:k = x.1=>hD j x hx e.symm)]
     exact ih
    ·exact ih
  ·cases h
theorem St.get_sig {st:St} {D:List (Nat × PV)} {f:Nat → Bool} (h:freshB st.tm st.n D = true) (t:Nat) :
  (∃ (j:Nat) (x:Nat × PV),D[j]? = some x ∧ x.1 = t ∧ st.get t = none ∧ (st.sig D f).get t = if f j then some x.2 else none) ∨ ((∀ (j:Nat) (x:Nat × PV),D[j]? = some x → x.1 ≠ t) ∧ (st.sig D f).get t = st.get t):=by
 by_cases hx:∃ (j:Nat) (x:Nat × PV),D[j]? = some x ∧ x.1 = t
 ·obtain ⟨j,x,h1,rfl⟩:=hx
  refine .inl ⟨j,x,h1,rfl,(fresh_at h j x h1).1,?_⟩
  simp only [St.get,St.sig,look_append,look_pick h 0 j x h1,Nat.zero_add]
  split
  ·rename_i v hv
   split at hv <;> simp_all
  ·rename_i hv
   rw [(fresh_at h j x h1).1]
   split at hv <;> simp_all
 ·have hx':∀ (j:Nat) (x:Nat × PV),D[j]? = some x → x.1 ≠ t:=fun j x h1 h2=>hx ⟨j,x,h1,h2⟩
  refine .inr ⟨hx',?_⟩
  simp only [St.get,St.sig,look_append]
  cases hl:look (pick f 0 D) t with
  | none=>rfl
  | some v =>
   obtain ⟨j,h1,_⟩:=pick_mem (look_mem hl)
   exact absurd rfl (hx' j _ h1)
/-- Every place that is named is there. -/
def nmOk (st:St) (x:PC):Bool :=
 match x.names with
 | none=>true
 | some (.t t _)=>keyIn t st.tm
 | some (.b b _)=>Nat.ble (b + 1) st.bx.length
def closedB (st:St):Bool:=st.tm.all (fun x=>x.2.cs.all (nmOk st)) && st.bx.all fun cs=>cs.all (nmOk st)
theorem keyIn_true {d:Nat}:∀ {D:List (Nat × PV)},keyIn d D = true → ∃ v,look D d = some v
 | [],h=>by cases h
 | x :: D,h=>by
  obtain ⟨k,v⟩:=x
  simp only [look]
  by_cases hk:k = d
  ·exact ⟨v,by rw [if_pos hk]⟩
  ·rw [if_neg hk]
   refine keyIn_true ?_
   simp only [keyIn] at h
   split at h
   ·rename_i hb; exact absurd (Nat.eq_of_beq_eq_true hb) hk
   ·exact h
theorem closedB_spec {st:St} (h:closedB st = true):∀ p x q,st.at p = some x → x.names = some q → st.ex q:=by
 intro p x q hx hq
 simp only [closedB,Bool.and_eq_true] at h
 have hok:nmOk st x = true:=by
  cases p with
  | t t c =>
   obtain ⟨pv,h1,h2⟩:=St.at_tmp hx
   exact List.all_eq_true.1 (List.all_eq_true.1 h.1 _ (look_mem h1)) x (List.mem_of_getElem? h2)
  | b b c =>
   obtain ⟨_,cs,h1,h2⟩:=St.at_box hx
   exact List.all_eq_true.1 (List.all_eq_true.1 h.2 _ (List.mem_of_getElem? h1)) x (List.mem_of_getElem? h2)
 unfold nmOk at hok
 rw [hq] at hok
 cases q with
 | t t c=>exact keyIn_true hok
 | b b c=>exact Nat.le_of_ble_eq_true hok
theorem Sub.sig {st:St} {D:List (Nat × PV)} {f g:Nat → Bool} (h:freshB st.tm st.n D = true) (hc:closedB (st.sig D f) = true) (hfg:∀ j,f j = true → g j = true):Sub (st.sig D f) (st.sig D g):=by
 refine ⟨rfl,rfl,rfl,rfl,fun t pv ht=>?_,closedB_spec hc⟩
 rcases St.get_sig (f:=f) h t with ⟨j,x,h1,rfl,h2,h3⟩ | ⟨h1,h2⟩
 ·rcases St.get_sig (f:=g) h x.1 with ⟨j',x',h1',h4,h2',h3'⟩ | ⟨h1',_⟩
  ·obtain rfl:=(fresh_at h j x h1).2.2 j' x' h1' h4
   rw [h1] at h1'; cases h1'
   rw [ht] at h3
   split at h3
   ·rename_i hf
    rw [h3',hfg _ hf,if_pos rfl,h3]
   ·cases h3
  ·exact absurd rfl (h1' j x h1)
 ·rcases St.get_sig (f:=g) h t with ⟨j',x',h1',h4,_⟩ | ⟨_,h2'⟩
  ·exact absurd h4 (h1 j' x' h1')
  ·rw [h2',← h2]; exact ht
/-- The lists are what goes before. -/
def ancB (l:List Oper) (A:List (List Nat)):Bool :=
 (List.range l.length).all fun i=>match l[i]? with
  | none=>false
  | some o=>o.after.toList.all (fun e=>!Region.binds .any e || Nat.ble (e.on + 1) i) && (A.getD i []).all fun j=>o.after.toList.any fun e=>Region.binds .any e && (Nat.beq e.on j || inB j (A.getD e.on []))
theorem ancB_on {l:List Oper} {A:List (List Nat)} (h:ancB l A = true):∀ i o,l[i]? = some o → ∀ e ∈ o.after,Region.binds .any e = true → e.on < i:=by
 intro i o ho e he hb
 have h1:=List.all_eq_true.1 h i (List.mem_range.2 (List.getElem?_eq_some_iff.1 ho).1)
 simp only [ho,Bool.and_eq_true] at h1
 have h2:=List.all_eq_true.1 h1.1 e (by simpa using he)
 rw [hb] at h2
 exact Nat.le_of_ble_eq_true (by simpa using h2)
theorem ancB_in {l:List Oper} {A:List (List Nat)} (h:ancB l A = true) {f:Nat → Bool} (hf:∀ i o,l[i]? = some o → f i = true → ∀ e ∈ o.after,Region.binds .any e = true → f e.on = true) :
  ∀ (i:Nat) (o:Oper),l[i]? = some o → (∀ e ∈ o.after,Region.binds .any e = true → f e.on = true) → ∀ j ∈ A.getD i [],f j = true:=by
 intro i
 induction i using Nat.strongRecOn with
 | _ i ih =>
  intro o ho hon j hj
  have h1:=List.all_eq_true.1 h i (List.mem_range.2 (List.getElem?_eq_some_iff.1 ho).1)
  simp only [ho,Bool.and_eq_true] at h1
  obtain ⟨e,he,hb⟩:=List.any_eq_true.1 (List.all_eq_true.1 h1.2 j hj)
  simp only [Bool.and_eq_true,Bool.or_eq_true] at hb
  have he':e ∈ o.after:=by simpa using he
  rcases hb with ⟨hb,hb' | hb'⟩
  ·rw [← Nat.eq_of_beq_eq_true hb']; exact hon e he' hb
  ·have hlt:=ancB_on h i o ho e he' hb
   have hl:e.on < l.length:=Nat.lt_trans hlt (List.getElem?_eq_some_iff.1 ho).1
   exact ih e.on hlt l[e.on] (List.getElem?_eq_getElem hl) (fun e2 he2 hb2=>hf e.on l[e.on] (List.getElem?_eq_getElem hl) (hon e he' hb) e2 he2 hb2) j (inB_spec hb')
/-- Behind k all that comes earlier is waited for. -/
def tailB (l:List Oper) (A:List (List Nat)) (k:Nat):Bool:=(List.range l.length).all fun i=>Nat.ble (i + 1) k || (List.range i).all fun j=>inB j (A.getD i [])
theorem tailB_spec {l:List Oper} {A:List (List Nat)} {k:Nat} (h:tailB l A k = true) {i:Nat} (hi:i < l.length) (hk:k ≤ i) (j:Nat) (hj:j < i):j ∈ A.getD i []:=by
 have h1:=List.all_eq_true.1 h i (List.mem_range.2 hi)
 simp only [Bool.or_eq_true] at h1
 rcases h1 with h1 | h1
 ·have:=Nat.le_of_ble_eq_true h1; omega
 ·exact inB_spec (List.all_eq_true.1 h1 j (List.mem_range.2 hj))
section
variable {P:Program} {st:St}
theorem WOp.up {ops:Array Oper} {o:Oper} {s:St} {pv:PV} (h:WOp P ops o s pv) (hs:Sub s st):WOp P ops o st pv:=by
 intro a w r hi K Q hK
 exact h a w _ (hi.sub hs) K Q fun v w' Sn γd hn=>hK v w' Sn γd (hn.up hs)
/-- The operations that float, each where only what goes before it is known. -/
def AllW (P:Program) (ops:Array Oper) (st:St) (D:List (Nat × PV)):List Oper → List (Nat × PV) → List (List Nat) → Prop
 | o :: l,x :: m,A :: n=>(o.dst = some x.1 ∧ closedB (st.sig D fun j=>inB j A) = true) ∧ WOp P ops o (st.sig D fun j=>inB j A) x.2 ∧ AllW P ops st D l m n
 | _,[],_=>True
 | _,_,_=>False
theorem AllW.at {ops:Array Oper} {D:List (Nat × PV)}:∀ {l:List Oper} {m:List (Nat × PV)} {A:List (List Nat)},AllW P ops st D l m A → ∀ (i:Nat) (x:Nat × PV),m[i]? = some x → ∃ o,l[i]? = some o ∧ o.dst = some x.1 ∧
  closedB (st.sig D fun j=>inB j (A.getD i [])) = true ∧ WOp P ops o (st.sig D fun j=>inB j (A.getD i [])) x.2
 | o :: l,x :: m,B :: A,h,0,y,hy=>by
  simp only [List.getElem?_cons_zero,Option.some.injEq] at hy
  subst hy
  exact ⟨o,rfl,h.1.1,h.1.2,h.2.1⟩
 | o :: l,x :: m,B :: A,h,i + 1,y,hy=>by
  simp only [List.getElem?_cons_succ] at hy
  obtain ⟨o',h1,h2⟩:=h.2.2.at i y hy
  exact ⟨o',h1,h2⟩
 | _,[],_,_,i,y,hy=>by simp at hy
 | [],_ :: _,_,h,_,_,_=>h.elim
 | _ :: _,_ :: _,[],h,_,_,_=>h.elim
theorem pick_true:∀ (D:List (Nat × PV)) (i:Nat),pick (fun _=>true) i D = D
 | [],_=>rfl
 | x :: D,i=>by simp [pick,pick_true D (i + 1)]
theorem full_turn {D:List (Nat × PV)} {g:Nat → Bool} (hfr:freshB st.tm st.n D = true) (hno:∀ j,j < D.length → g j = true):Turns P (st.sig D g) { st with tm:=D ++ st.tm }:=by
 refine Turns.ext (fun t=>?_) rfl rfl rfl
 have hf:=St.get_sig (st:=st) (f:=fun _=>true) hfr t
 have hs:(st.sig D fun _=>true) = { st with tm:=D ++ st.tm }:=by simp only [St.sig,pick_true]
 rw [hs] at hf
 rcases hf with ⟨j,x,h1,rfl,h2,h3⟩ | ⟨h1,h2⟩
 ·rcases St.get_sig (st:=st) (f:=g) hfr x.1 with ⟨j',x',h1',h4,h2',h3'⟩ | ⟨h1',_⟩
  ·obtain rfl:=(fresh_at hfr j x h1).2.2 j' x' h1' h4
   rw [h1] at h1'; cases h1'
   rw [h3,h3',hno j' (List.getElem?_eq_some_iff.1 h1).1]
  ·exact absurd rfl (h1' j x h1)
 ·rcases St.get_sig (st:=st) (f:=g) hfr t with ⟨j',x',h1',h4,_⟩ | ⟨_,h2'⟩
  ·exact absurd h4 (h1 j' x' h1')
  ·rw [h2,h2']
theorem Tri.draw {id:Nat} {l:List Oper} {Q:Exit → St → Prop} (hm:P.follows .mixedOrders = true) (D:List (Nat × PV)) (A:List (List Nat)) (hfx:(D.all fun x=>!inB x.1 st.fx) = true) (hc:(freshB st.tm st.n D && Nat.ble D.length l.length && ancB l A && tailB l A D.length) = true)
  (hw:AllW P l.toArray st D l D A) (ht:TriO P l.toArray (l.drop D.length) (Q .normal) { st with tm:=D ++ st.tm }):Tri P (.region id l.toArray true) Q st:=by
 simp only [Bool.and_eq_true] at hc
 obtain ⟨⟨⟨hfr,hle⟩,hanc⟩,htl⟩:=hc
 have hle:=Nat.le_of_ble_eq_true hle
 have hon:=ancB_on hanc
 have hin:=fun f hf=>ancB_in (f:=f) hanc hf
 have hall:∀ (f:Nat → Bool),(∀ i o,l[i]? = some o → f i = true → ∀ e ∈ o.after,Region.binds .any e = true → f e.on = true) → ∀ i o,l[i]? = some o → D.length ≤ i → (∀ e ∈ o.after,Region.binds .any e = true → f e.on = true) → ∀ j,j < i → f j = true :=
  fun f hf i o ho hk he j hj=>hin f hf i o ho he j (tailB_spec htl (List.getElem?_eq_some_iff.1 ho).1 hk j hj)
 intro a₀ w₀ r₀ hi₀
 let QQ:=Post P st.m w₀ r₀ st.bx.length (fun e st'=>e = .normal ∧ Q .normal st')
 have key:∀ (fuel:Nat) (listed:Array Bool) (a:Act) (w:World) (r:Rs),listed.size = l.length → (∀ j,listed.getD j false = true → j < D.length) →
   (∀ i o,l[i]? = some o → listed.getD i false = true → ∀ e ∈ o.after,Region.binds .any e = true → listed.getD e.on false = true) → (listed.toList.count false) ≤ fuel →
   Inv P (st.sig D fun j=>listed.getD j false) a w r → Step st.m w₀ r₀ st.bx.length w r st.bx.length → wpAny P .any l.toArray QQ fuel listed a w:=by
  intro fuel
  induction fuel with
  | zero =>
   intro listed a w r hsz hlt hclo hcnt hi hst
   have hno:∀ j,j < l.length → listed.getD j false = true:=by
    intro j hj
    have h0:listed.toList.count false = 0:=by omega
    have h1:=List.count_eq_zero.1 h0
    have hj':j < listed.size:=by omega
    have:listed.getD j false = listed[j]:=by simp [hj']
    rw [this]
    cases hb:listed[j] with
    | true=>rfl
    | false=>exact absurd (by rw [← hb]; simp) h1
   have hD:D.length = l.length:=by
    rcases Nat.lt_or_ge D.length l.length with h | h
    ·have:=hlt _ (hno _ h); omega
    ·omega
   refine draw_tail (k:=D.length) hon hall 0 D.length listed a w (Nat.le_refl _) hle hsz (fun j=>?_) (by omega) ?_
   ·by_cases hj:j < D.length
    ·rw [decide_eq_true hj]; exact hno j (by omega)
    ·rw [decide_eq_false hj]
     cases hb:listed.getD j false with
     | false=>rfl
     | true=>exact absurd (hlt j hb) hj
   ·obtain ⟨r',h1,h2,h3⟩:=full_turn hfr (fun j hj=>hno j (by omega)) a w r hi
    refine wpList_mono (fun e a' w' q=>?_) _ _ _ (ht a w r' h2)
    exact Post.step (hst.trans h3) q
  | succ fuel ih =>
   intro listed a w r hsz hlt hclo hcnt hi hst
   by_cases hfull:∀ j,j < D.length → listed.getD j false = true
   ·refine draw_tail (k:=D.length) hon hall (fuel + 1) D.length listed a w (Nat.le_refl _) hle hsz (fun j=>?_) ?_ ?_
    ·by_cases hj:j < D.length
     ·rw [decide_eq_true hj]; exact hfull j hj
     ·rw [decide_eq_false hj]
      cases hb:listed.getD j false with
      | false=>rfl
      | true=>exact absurd (hlt j hb) hj
    ·refine Nat.le_trans ?_ hcnt
     have hdrop:listed.toList.count false = (listed.toList.take D.length).count false + (listed.toList.drop D.length).count false:=by rw [← List.count_append,List.take_append_drop]
     have hrep:listed.toList.drop D.length = List.replicate (l.length - D.length) false:=by
      refine List.eq_replicate_iff.2 ⟨by simp [hsz],fun b hb=>?_⟩
      obtain ⟨i,hi',rfl⟩:=List.getElem_of_mem hb
      simp only [List.getElem_drop]
      simp only [List.length_drop,Array.length_toList] at hi'
      have hlt':D.length + i < listed.size:=by omega
      cases hb:listed.toList[D.length + i]'(by simpa using hlt') with
      | false=>rfl
      | true =>
       have h2:listed.getD (D.length + i) false = true:=by
        simp only [Array.getElem_toList] at hb
        simp [hlt',hb]
       have:=hlt _ h2; omega
     rw [hdrop,hrep,List.count_replicate_self]
     omega
    ·obtain ⟨r',h1,h2,h3⟩:=full_turn hfr hfull a w r hi
     refine wpList_mono (fun e a' w' q=>?_) _ _ _ (ht a w r' h2)
     exact Post.step (hst.trans h3) q
   ·have hex:∃ j,j < D.length ∧ listed.getD j false = false:=by
     refine Classical.byContradiction fun hn=>hfull fun j hj=>?_
     cases hb:listed.getD j false with
     | true=>rfl
     | false=>exact absurd ⟨j,hj,hb⟩ hn
    have hd:∀ j,j < l.length → listed.getD j true = listed.getD j false:=fun j hj=>by simp [hsz,hj]
    have hne:Region.ready .any l.toArray listed ≠ []:=by
     obtain ⟨j,hj,hb⟩:=hex
     have hmin:∀ n j,j ≤ n → j < D.length → listed.getD j false = false → Region.ready .any l.toArray listed ≠ []:=by
      intro n
      induction n using Nat.strongRecOn with
      | _ n ihn =>
       intro j hjn hj hb
       have hjl:j < l.length:=by omega
       by_cases hr:∀ e ∈ (l[j]).after,Region.binds .any e = true → listed.getD e.on false = true
       ·exact List.ne_nil_of_mem (mem_ready.2 ⟨by rw [hd j hjl]; exact hb,l[j],by simp [hjl],hr⟩)
       ·obtain ⟨e,he,hbe,hne⟩:∃ e ∈ (l[j]).after,Region.binds .any e = true ∧ listed.getD e.on false = false:=by
         refine Classical.byContradiction fun hn=>hr fun e he hbe=>?_
         cases hb2:listed.getD e.on false with
         | true=>rfl
         | false=>exact absurd ⟨e,he,hbe,hb2⟩ hn
        have:=hon j l[j] (List.getElem?_eq_getElem hjl) e he hbe
        exact ihn e.on (by omega) e.on (Nat.le_refl _) (by omega) hne
     exact hmin j j (Nat.le_refl _) hj hb
    refine ⟨fun h=>absurd h hne,fun i hi'=>?_⟩
    obtain ⟨h1,o,ho,h2⟩:=mem_ready.1 hi'
    have ho':l[i]? = some o:=by simpa using ho
    have hil:i < l.length:=(List.getElem?_eq_some_iff.1 ho').1
    have hiD:i < D.length:=by
     refine Nat.lt_of_not_le fun hge=>?_
     obtain ⟨j,hj,hb⟩:=hex
     have:=hall (fun j=>listed.getD j false) hclo i o ho' hge h2 j (by omega)
     rw [hb] at this; cases this
    obtain ⟨o',k1,k2,k3,k4⟩:=hw.at i D[i] (List.getElem?_eq_getElem hiD)
    rw [ho'] at k1; cases k1
    have hsub:Sub (st.sig D fun j=>inB j (A.getD i [])) (st.sig D fun j=>listed.getD j false) :=
     Sub.sig hfr k3 fun j hj=>hin (fun j=>listed.getD j false) hclo i o ho' h2 j (inB_spec hj)
    have hun:listed.getD i false = false:=by rw [← hd i hil]; exact h1
    have hno:(st.sig D fun j=>listed.getD j false).get (D[i]).1 = none:=by
     rcases St.get_sig (st:=st) (f:=fun j=>listed.getD j false) hfr (D[i]).1 with ⟨j',x',h1',h4,h2',h3'⟩ | ⟨h1',_⟩
     ·obtain rfl:=(fresh_at hfr i D[i] (List.getElem?_eq_getElem hiD)).2.2 j' x' h1' h4
      rw [h3',hun]; rfl
     ·exact absurd rfl (h1' i D[i] (List.getElem?_eq_getElem hiD))
    have hgo:=(k4.up hsub) a w r hi (wpAny P .any l.toArray QQ fuel (listed.setIfInBounds i true)) QQ ?_
    ·refine wpOp_of_list (o:=o) ho ?_
     split at hgo
     ·rename_i hwt; rw [if_pos hwt]; exact .inl hgo
     ·rename_i hwt; rw [if_neg hwt]; exact hgo
    ·intro v w' Sn γd hnews
     rw [k2]
     obtain ⟨r'',q1,q2⟩:=hi.news (d:=(D[i]).1) ⟨(fresh_at hfr i D[i] (List.getElem?_eq_getElem hiD)).2.1,(show inB (D[i]).1 st.fx = false by simpa using List.all_eq_true.1 hfx D[i] (List.getElem_mem hiD))⟩ hno hnews
     have hext:Turns P ((st.sig D fun j=>listed.getD j false).put (D[i]).1 (D[i]).2) (st.sig D fun j=>(listed.setIfInBounds i true).getD j false):=by
      refine Turns.ext (fun t=>?_) rfl rfl rfl
      rw [St.get_put]
      rcases St.get_sig (st:=st) (f:=fun j=>(listed.setIfInBounds i true).getD j false) hfr t with ⟨j,x,g1,rfl,g2,g3⟩ | ⟨g1,g2⟩
      ·rw [g3]
       by_cases hji:j = i
       ·subst hji
        have:D[j] = x:=by have:=List.getElem?_eq_getElem hiD; rw [g1] at this; exact (Option.some.inj this).symm
        subst this
        have:(listed.setIfInBounds j true).getD j false = true:=by simp [hsz,hil]
        rw [this]; simp
       ·have hne1:x.1 ≠ (D[i]).1:=fun e=>hji ((fresh_at hfr i D[i] (List.getElem?_eq_getElem hiD)).2.2 j x g1 e)
        rw [if_neg hne1,getD_set_ne false (fun e=>hji e.symm)]
        rcases St.get_sig (st:=st) (f:=fun j=>listed.getD j false) hfr x.1 with ⟨j',x',h1',h4,h2',h3'⟩ | ⟨h1',_⟩
        ·obtain rfl:=(fresh_at hfr j x g1).2.2 j' x' h1' h4
         rw [g1] at h1'; cases h1'
         exact h3'.symm
        ·exact absurd rfl (h1' j x g1)
      ·rw [g2,if_neg (fun e=>g1 i D[i] (List.getElem?_eq_getElem hiD) e.symm)]
       rcases St.get_sig (st:=st) (f:=fun j=>listed.getD j false) hfr t with ⟨j',x',h1',h4,_⟩ | ⟨_,h2'⟩
       ·exact absurd h4 (g1 j' x' h1')
       ·exact h2'.symm
     obtain ⟨r3,e1,e2,e3⟩:=hext _ _ _ q1
     refine ih (listed.setIfInBounds i true) _ w' r3 (by simpa using hsz) (fun j hj=>?_) (fun i' o' ho'' hb e he hbe=>?_) ?_ e2 (hst.trans (q2.trans e3))
     ·by_cases hji:i = j
      ·omega
      ·rw [getD_set_ne false hji] at hj; exact hlt j hj
     ·by_cases hji:i = i'
      ·subst hji
       rw [ho'] at ho''; cases ho''
       exact getD_set_true (h2 e he hbe)
      ·rw [getD_set_ne false hji] at hb
       exact getD_set_true (hclo i' o' ho'' hb e he hbe)
     ·have hil':i < listed.toList.length:=by simpa [hsz] using hil
      have hset:(listed.setIfInBounds i true).toList = listed.toList.set i true:=by simp
      rw [hset,List.count_set hil']
      have hget:listed.toList[i] = false:=by
       have h3:i < listed.size:=by omega
       have:listed.getD i false = listed[i]:=by simp [h3]
       rw [this] at hun
       simpa using hun
      have hpos:0 < listed.toList.count false:=List.count_pos_iff.2 (hget ▸ List.getElem_mem hil')
      rw [hget]
      have hbf:(false == false) = true:=rfl
      have hbt:(true == false) = false:=rfl
      simp only [hbf,hbt,if_true,Bool.false_eq_true,if_false]
      omega
 have hw0:w₀.heap = ({ w₀ with drawn:=w₀.drawn + 1 }:World).heap:=rfl
 have hi1:Inv P st a₀ { w₀ with drawn:=w₀.drawn + 1 } r₀:=hi₀.world (fun _ _=>rfl) (Nat.le_refl _) (fun _ _ h=>h)
 have hst1:Step st.m w₀ r₀ st.bx.length { w₀ with drawn:=w₀.drawn + 1 } r₀ st.bx.length:=⟨rfl,rfl,rfl,Nat.le_refl _,fun _ _ _=>rfl,fun _ h=>h,fun _ h=>.inl h,fun _ h=>.inl h,fun _ _=>rfl,rfl,fun _ _ h=>h⟩
 obtain ⟨r1,e1,e2,e3⟩:=Turns.ext (P:=P) (st:=st) (st':=st.sig D fun j=>(Array.replicate l.length false).getD j false) (fun t=>by
  have hrep:∀ j,(Array.replicate l.length false).getD j false = false:=fun j=>by simp [Array.getD_eq_getD_getElem?,Array.getElem?_replicate]; split <;> rfl
  rcases St.get_sig (st:=st) (f:=fun j=>(Array.replicate l.length false).getD j false) hfr t with ⟨j,x,g1,rfl,g2,g3⟩ | ⟨g1,g2⟩
  ·rw [g3,hrep,g2]; rfl
  ·exact g2) rfl rfl rfl rfl _ _ _ hi1
 have hfin:=key l.length (Array.replicate l.length false) a₀ _ r1 (by simp) (fun j hj=>by
   have hrep:(Array.replicate l.length false).getD j false = false:=by simp [Array.getD_eq_getD_getElem?,Array.getElem?_replicate]; split <;> rfl
   rw [hrep] at hj; cases hj) (fun i o _ hb=>by
   have hrep:(Array.replicate l.length false).getD i false = false:=by simp [Array.getD_eq_getD_getElem?,Array.getElem?_replicate]; split <;> rfl
   rw [hrep] at hb; cases hb) (by simp) e2 (hst1.trans e3)
 refine Code.wp_mono (fun e a' w' k=>?_) (wp_region_any hm (by simpa using hfin))
 obtain ⟨st',r',⟨rfl,h1⟩,h2⟩:=k
 exact ⟨st',r',h1,h2⟩
end
end Go.Proofs.YtoclajfeeebbbadGreatDoor.E
