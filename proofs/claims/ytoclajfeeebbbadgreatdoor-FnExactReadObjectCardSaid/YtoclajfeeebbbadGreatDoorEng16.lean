/- The engine, part X: regions by computation, with hints. Plain lemmas; no program. -/
import Derived.Test.YtoclajfeeebbbadGreatDoorEng15
set_option linter.unusedVariables false
set_option linter.unusedSectionVars false
set_option linter.unusedSimpArgs false
namespace Go.Proofs.YtoclajfeeebbbadGreatDoor.E
open Go.RowKit
variable [LaidFacts]
inductive Fix where
  | own (p:Place) (e:TypeId)
  | sl (p:Place) (s:Nat)
  | frz (p:Place)
/-- What the evaluator is told: an element that is met, a new value's cells told otherwise, a call's result. -/
inductive Hint where
  | el (l:List PC)
  | ov (l:List PC)
  | call (res:PV) (ns:List Nat) (share:Bool)
  | ovp (p:Place) (c:PC)
  | frz (p:Place)
  | nz (ss:List Nat)
  | nums (ns:List Int)
  | callB (res:PV) (ns bs:List Nat) (ko:Option (Nat × Place)) (kcs:List PC) (bx':List (List PC))
  | fix (f:Fix)
abbrev Hs:=List (Nat × Hint)
def elsOf (i:Nat):Hs → List (List PC) × Hs
  | (j,.el l) :: hs=>match Nat.beq i j with
    | true=>(l :: (elsOf i hs).1,(elsOf i hs).2)
    | false=>([],(j,.el l) :: hs)
  | hs=>([],hs)
section
variable {P:Program} {o:Oper}
/-- What a function value may hold. -/
def capB:PC → Bool
  | .al _ | .vw .. | .el .. | .own .. | .dead=>false
  | _=>true
def capsOf (st:St):List Operand → Option (List PC)
  | []=>some []
  | x :: l=>match one? (st.use x),capsOf st l with
    | some c,some cs=>match capB c with
      | true=>some (c :: cs)
      | false=>none
    | _,_=>none
theorem capsOf_spec {st:St} {a:Act} {w:World} {r:Rs} (hi:Inv P st a w r):∀ {l:List Operand} {cs:List PC},capsOf st l = some cs → l.length = cs.length ∧ ∀ (j:Nat) (x:Operand) (c:PC),l[j]? = some x → cs[j]? = some c → RepF w r.Sh r.β st.bx.length c (a.eval x)
  | [],cs,h=>by simp only [capsOf,Option.some.injEq] at h; subst h; exact ⟨rfl,fun j x c hx=>by simp at hx⟩
  | y :: l,cs,h=>by
    simp only [capsOf] at h
    split at h
    · rename_i c cs' h1 h2
      split at h
      · rename_i hc
        simp only [Option.some.injEq] at h
        subst h
        obtain ⟨h3,h4⟩:=capsOf_spec hi h2
        refine ⟨by simp [h3],fun j x d hx hd=>?_⟩
        cases j with
        | zero =>
          simp only [List.getElem?_cons_zero,Option.some.injEq] at hx hd
          subst hx; subst hd
          obtain ⟨_,h5,_⟩:=(hi.use (one?_eq h1)).out
          cases c <;> simp only [capB] at hc <;> first | (cases hc; done) | exact h5.2
        | succ j=>exact h4 j x d (by simpa using hx) (by simpa using hd)
      · cases h
    · cases h
theorem Reads.makeFunc {st:St} {f:FuncId} {caps:Array Operand} {cs:List PC} (ho:o.op = .makeFunc (.func f) #[] caps) (hc:capsOf st caps.toList = some cs):Reads P o st ⟨.one,[.fn f cs]⟩:=fun a w r hi=>by
  obtain ⟨h1,h2⟩:=capsOf_spec hi hc
  refine ⟨.func (.func f) #[] (caps.map a.eval),by simp [execOp,ho,Instr.makeFunc],Has.one rfl ⟨rfl,.fn (by simpa using h1) fun j c v hj hv=>?_⟩ (fun _ h=>by simp [PC.names] at h)⟩
  simp only [Array.getElem?_map] at hv
  obtain ⟨x,hx,rfl⟩:=Option.map_eq_some_iff.1 hv
  exact h2 j x c (by simpa using hx) hj
theorem shX_plain {st:St} {x:PC} (h:x.plain = true):E.shX st x = some x:=by
  cases x <;> first | rfl | (simp [PC.plain] at h)
theorem Reads.makeBnd {st:St} {f:FuncId} {x:Operand} {cs:List PC} (ho:o.op = .makeFunc (.func f) ⟨[x]⟩ ⟨[]⟩) (hx:st.use x = some ⟨.agg,cs⟩) (hp:cs.all PC.plain = true):Reads P o st ⟨.one,[.bnd f cs]⟩:=fun a w r hi=>by
  have hh:=hi.use hx
  obtain ⟨vs,hv,hn,_⟩:=hh.1
  refine ⟨.func (.func f) #[a.eval x] #[],by simp [execOp,ho,Instr.makeFunc],Has.one rfl ⟨rfl,.s ?_⟩ (fun _ h=>by simp [PC.names] at h)⟩
  rw [hv]
  refine .bnd hn fun j y u hj hu=>?_
  have h2:=(hh.2 j y hj).1
  have hf:(flat (a.eval x)).getD j undef = u:=by
    rw [hv]
    simp [flat,List.getD_eq_getElem?_getD,hu]
  rw [hf] at h2
  exact (hi.shX h2 (shX_plain (List.all_eq_true.1 hp y (List.mem_of_getElem? hj)))).1
/-- A new value: what must hold, the value. -/
def evV0 (P:Program) (i:Nat) (st:St) (hs:Hs) (o:Oper):Option (List Prop × PV × Hs) :=
  match o.op with
  | .call { callee:=.value x,args:=as,argTypes:=ts }=>match hs with
    | (j,.call res ns sh) :: hs'=>match Nat.beq i j,one? (st.use x),usesB st as.toList with
      | true,some c,some pvs=>match calleeOf c with
        | some (f,caps)=>match okFn P f,sh with
          | true,false=>match passPVs (passX P st 4) (pvs ++ ones caps) ns with
            | some args=>some ([Fn P f args [] res [],res.cs.all PC.flatB = true],res,hs')
            | none=>none
          | true,true=>match passPVs (shX st) (pvs ++ ones caps) ns,res.cs.all (fun x=>x.free 0) with
            | some args,true=>some ([Fn P f args [] res []],res,hs')
            | _,_=>none
          | _,_=>none
        | none=>match c with
          | .bnd f cs=>match okFn P f,passPVs (passX P st 4) (⟨.agg,cs⟩ :: pvs) ns with
            | true,some args=>some ([Fn P f args [] res [],res.cs.all PC.flatB = true],res,hs')
            | _,_=>none
          | _=>none
      | _,_,_=>none
    | _=>none
  | .makeFunc (.func f) ⟨[x]⟩ ⟨[]⟩=>match st.use x with
    | some ⟨.agg,cs⟩=>match cs.all PC.plain with
      | true=>some ([],⟨.one,[.bnd f cs]⟩,hs)
      | false=>none
    | _=>none
  | .makeFunc (.func f) ⟨[]⟩ caps=>match capsOf st caps.toList with
    | some cs=>some ([],⟨.one,[.fn f cs]⟩,hs)
    | none=>none
  | .buildSlice t n parts=>match P.underlying t with
    | some (.slice e)=>match P.elem? e,partsB parts.toList 0 with
      | some (s + 1,_),some xs=>match usesB st xs with
        | some ps=>match Nat.beq n xs.length,Nat.ble (n * (s + 1)) (2 ^ 24),ps.all (fun pv=>notTup pv.sh && Nat.beq pv.cs.length (s + 1) && pv.cs.all PC.plain2) with
          | true,true,true=>some ([],⟨.one,[.own e (ps.map (·.cs))]⟩,hs)
          | _,_,_=>none
        | none=>none
      | _,_=>none
    | _=>none
  | .convert s t x=>match P.underlying s,P.underlying t,one? (st.use x) with
    | some _,some (.slice e),some (.sc (.string b))=>match P.underlying e with
      | some (.int .u8)=>match hs with
        | (j,.nz _) :: hs'=>match Nat.beq i j,Nat.beq (P.cellsOf e) 1 with
          | true,true=>some ([b.size ≤ 9223372036854775807],⟨.one,[.own e (strRow b)]⟩,hs')
          | true,false=>none
          | false,_=>some ([],⟨.one,[.sl 1 ((bytesOf b).map fun n=>[.sc (.int .u8 n)])]⟩,hs)
        | _=>some ([],⟨.one,[.sl 1 ((bytesOf b).map fun n=>[.sc (.int .u8 n)])]⟩,hs)
      | _=>none
    | some (.slice e),some .string,some c=>match hs,P.underlying e,St.row P st 4 c with
      | (j,.nums ns) :: hs',some (.int .u8),some (1,xs)=>match Nat.beq i j with
        | true=>some ([xs = ns.map fun n=>[PC.sc (.int .u8 n)]],⟨.one,[.sc (.string (strOfNums ns))]⟩,hs')
        | false=>none
      | _,_,_=>none
    | _,_,_=>match evRd P st [] o with
      | some (c,pv,[])=>some (c,pv,hs)
      | _=>none
  | _=>match evRd2 P st o with
    | some (c,pv)=>some (c,pv,hs)
    | none=>match evRd P st (elsOf i hs).1 o with
      | some (c,pv,[])=>some (c,pv,(elsOf i hs).2)
      | _=>none
theorem evV0_spec {i:Nat} {st:St} {hs hs':Hs} {q:List Prop} {pv:PV} (h:evV0 P i st hs o = some (q,pv,hs')) (hq:AllP q):DOp P o st pv:=by
  unfold evV0 at h
  split at h
  · rename_i x as ts ho
    split at h
    · rename_i j res ns sh hs1
      split at h
      · rename_i c pvs h1 h2 h3
        split at h
        · rename_i f caps hc
          split at h
          · rename_i hf
            split at h
            · rename_i args hp
              simp only [Option.some.injEq,Prod.mk.injEq] at h
              obtain ⟨rfl,rfl,_⟩:=h
              exact DOp.callV ho (one?_eq h2) hc hf (usesB_spec h3) hp hq.1 hq.2.1
            · cases h
          · rename_i hf
            split at h
            · rename_i args hp hfl
              simp only [Option.some.injEq,Prod.mk.injEq] at h
              obtain ⟨rfl,rfl,_⟩:=h
              exact DOp.callVS ho (one?_eq h2) hc hf (usesB_spec h3) hp hq.1 hfl
            · cases h
          · cases h
        · split at h
          · rename_i f cs _
            split at h
            · rename_i args hf hp
              simp only [Option.some.injEq,Prod.mk.injEq] at h
              obtain ⟨rfl,rfl,_⟩:=h
              exact DOp.callBnd ho (one?_eq h2) hf (usesB_spec h3) hp hq.1 hq.2.1
            · cases h
          · cases h
      · cases h
    · cases h
  · rename_i f x ho
    split at h
    · rename_i cs hu
      split at h
      · rename_i hpl
        simp only [Option.some.injEq,Prod.mk.injEq] at h
        obtain ⟨_,rfl,_⟩:=h
        exact (Reads.makeBnd ho hu hpl).dop
      · cases h
    · cases h
  · rename_i f caps ho
    split at h
    · rename_i cs hcs
      simp only [Option.some.injEq,Prod.mk.injEq] at h
      obtain ⟨_,rfl,_⟩:=h
      exact (Reads.makeFunc ho hcs).dop
    · cases h
  · rename_i t n parts ho
    split at h
    · rename_i e ht
      split at h
      · rename_i s by' xs h1 h2
        split at h
        · rename_i ps h3
          split at h
          · rename_i h5 h6 h7
            simp only [Option.some.injEq,Prod.mk.injEq] at h
            obtain ⟨_,rfl,_⟩:=h
            exact DOp.rowOf ho ht h1 (by omega) (partsB_spec h2) (Nat.eq_of_beq_eq_true h5) (Nat.le_of_ble_eq_true h6) (usesB_spec h3) h7
          · cases h
        · cases h
      · cases h
    · cases h
  · rename_i s t x ho
    split at h
    · rename_i d e b h1 h2 h3
      split at h
      · rename_i h4
        split at h
        · split at h
          · rename_i _ hc
            simp only [Option.some.injEq,Prod.mk.injEq] at h
            obtain ⟨rfl,rfl,_⟩:=h
            exact DOp.strOwn ho h1 h2 h4 (Nat.eq_of_beq_eq_true hc) (one?_eq h3) hq.1
          · cases h
          · simp only [Option.some.injEq,Prod.mk.injEq] at h
            obtain ⟨_,rfl,_⟩:=h
            exact DOp.strBytes ho h1 h2 h4 (one?_eq h3)
        · simp only [Option.some.injEq,Prod.mk.injEq] at h
          obtain ⟨_,rfl,_⟩:=h
          exact DOp.strBytes ho h1 h2 h4 (one?_eq h3)
      · cases h
    · rename_i e c h1 h2 h3
      split at h
      · rename_i j ns hs1 xs h4 h5
        split at h
        · simp only [Option.some.injEq,Prod.mk.injEq] at h
          obtain ⟨rfl,rfl,_⟩:=h
          exact (Reads.bytesStr ho h1 h4 h2 (one?_eq h3) h5 rfl hq.1).dop
        · cases h
      · cases h
    · split at h
      · rename_i c pv1 h1
        simp only [Option.some.injEq,Prod.mk.injEq] at h
        obtain ⟨rfl,rfl,_⟩:=h
        exact (evRd_spec h1 hq).dop
      · cases h
  · split at h
    · rename_i c pv1 h1
      simp only [Option.some.injEq,Prod.mk.injEq] at h
      obtain ⟨rfl,rfl,_⟩:=h
      exact (evRd2_spec h1 hq).dop
    · split at h
      · rename_i c pv1 h1
        simp only [Option.some.injEq,Prod.mk.injEq] at h
        obtain ⟨rfl,rfl,_⟩:=h
        exact (evRd_spec h1 hq).dop
      · cases h
/-- A value's cells, told otherwise. -/
def ovV (i:Nat) (x:Option (List Prop × PV × Hs)):Option (List Prop × PV × Hs) :=
  match x with
  | some (c,pv,(j,.ov l) :: hs)=>match Nat.beq i j with
    | true=>some (c ++ [pv.cs = l],⟨pv.sh,l⟩,hs)
    | false=>some (c,pv,(j,.ov l) :: hs)
  | x=>x
theorem ovV_spec {i:Nat} {x:Option (List Prop × PV × Hs)} {q:List Prop} {pv:PV} {hs:Hs} (h:ovV i x = some (q,pv,hs)) (hq:AllP q):∃ q' hs',x = some (q',pv,hs') ∧ AllP q':=by
  unfold ovV at h
  split at h
  · rename_i c pv1 j l hs1
    split at h
    · simp only [Option.some.injEq,Prod.mk.injEq] at h
      obtain ⟨rfl,rfl,_⟩:=h
      obtain ⟨h1,h2⟩:=AllP_append hq
      have:=h2.1
      subst this
      exact ⟨_,_,rfl,h1⟩
    · simp only [Option.some.injEq,Prod.mk.injEq] at h
      obtain ⟨rfl,rfl,_⟩:=h
      exact ⟨_,_,rfl,hq⟩
  · exact ⟨q,hs,h,hq⟩
def evV (P:Program) (i:Nat) (st:St) (hs:Hs) (o:Oper):Option (List Prop × PV × Hs):=ovV i (evV0 P i st hs o)
theorem evV_spec {i:Nat} {st:St} {hs hs':Hs} {q:List Prop} {pv:PV} (h:evV P i st hs o = some (q,pv,hs')) (hq:AllP q):DOp P o st pv:=by
  obtain ⟨q',hs1,h1,h2⟩:=ovV_spec h hq
  exact evV0_spec h1 h2
/-- Is the operation a call of a function? -/
def isV (o:Oper):Bool :=
  match o.op with
  | .call { callee:=.value _,args:=_,argTypes:=_ }=>true
  | .makeFunc ..=>true
  | .convert ..=>true
  | _=>false
theorem St.assign_fx {st:St} {d:Nat} {pv:PV}:(st.assign d pv).fx = st.fx:=by unfold St.assign; split <;> rfl
/-! A row made of a length: its nil rows may be of any kind. -/
def nzs:List Nat → List PC → List PC
  | _,[]=>[]
  | s :: ss,.nl :: l=>.sl s [] :: nzs ss l
  | ss,x :: l=>x :: nzs ss l
def NRel (l m:List PC):Prop:=l.length = m.length ∧ ∀ (i:Nat) (y:PC),m[i]? = some y → ∃ x,l[i]? = some x ∧ (x = y ∨ (x = .nl ∧ ∃ s,y = .sl s []))
theorem NRel.cons {x y:PC} {l m:List PC} (h:x = y ∨ (x = .nl ∧ ∃ s,y = .sl s [])) (k:NRel l m):NRel (x :: l) (y :: m):=by
  refine ⟨by simp [k.1],fun i z hz=>?_⟩
  cases i with
  | zero=>simp only [List.getElem?_cons_zero,Option.some.injEq] at hz; subst hz; exact ⟨x,rfl,h⟩
  | succ i=>exact k.2 i z (by simpa using hz)
theorem NRel.append {l m l' m':List PC} (h:NRel l m) (k:NRel l' m'):NRel (l ++ l') (m ++ m'):=by
  refine ⟨by simp [h.1,k.1],fun i z hz=>?_⟩
  by_cases hi:i < m.length
  · rw [List.getElem?_append_left hi] at hz
    rw [List.getElem?_append_left (by rw [h.1]; exact hi)]
    exact h.2 i z hz
  · rw [List.getElem?_append_right (by omega)] at hz
    rw [List.getElem?_append_right (by rw [h.1]; omega),h.1]
    exact k.2 _ z hz
theorem NRel.flat {l m:List PC} (h:NRel l m):∀ n,NRel (List.replicate n l).flatten (List.replicate n m).flatten
  | 0=>⟨rfl,fun i y hy=>by simp at hy⟩
  | n + 1=>by
    rw [List.replicate_succ,List.replicate_succ,List.flatten_cons,List.flatten_cons]
    exact h.append (NRel.flat h n)
theorem nzs_rel:∀ (l:List PC) (ss:List Nat),NRel l (nzs ss l)
  | [],ss=>by cases ss <;> exact ⟨rfl,fun i y hy=>by simp [nzs] at hy⟩
  | x :: l,[]=>by
    have:nzs [] (x :: l) = x :: nzs [] l:=by cases x <;> rfl
    rw [this]
    exact (nzs_rel l []).cons (.inl rfl)
  | x :: l,s :: ss=>by
    by_cases hx:x = .nl
    · subst hx; exact (nzs_rel l ss).cons (.inr ⟨rfl,s,rfl⟩)
    · have:nzs (s :: ss) (x :: l) = x :: nzs (s :: ss) l:=by cases x <;> first | rfl | exact absurd rfl hx
      rw [this]
      exact (nzs_rel l (s :: ss)).cons (.inl rfl)
theorem Turns.nz {st:St} {p:Place} {e:TypeId} {n:Nat} {cs cs':List PC} (hp:st.at p = some (.own e (List.replicate n cs))) (h:NRel cs cs'):Turns P st (st.setAt p (.own e (List.replicate n cs'))):=by
  intro a w r hi
  refine ⟨r,St.setAt_m,hi.reown hp ?_ (fun _ _ _=>rfl) (Nat.le_refl _),by rw [St.setAt_len]; exact Step.refl ..⟩
  obtain ⟨vals,ho,hb,hl,hr⟩:=hi.cell p _ hp
  refine ⟨vals,by simpa using ho,hb,fun el hel=>?_,fun i y hy=>?_⟩
  · obtain ⟨hn,rfl⟩:=List.mem_replicate.1 hel
    rw [← h.1]
    exact hl cs (List.mem_replicate.2 ⟨hn,rfl⟩)
  · obtain ⟨x,hx,hxy⟩:=(h.flat n).2 i y hy
    obtain ⟨u,hu,hru⟩:=hr i x hx
    refine ⟨u,hu,?_⟩
    rcases hxy with rfl | ⟨rfl,s,rfl⟩
    · exact hru
    · cases hru; exact .nil
def evMk (P:Program) (st:St) (ss:List Nat) (o:Oper):Option (List Prop × St) :=
  match o.op with
  | .makeSlice t x y=>match o.dst,P.underlying t with
    | some d,some (.slice e)=>match P.elem? e,P.zero? e,one? (st.use x),one? (st.use y) with
      | some (s + 1,by'),some z,some (.sc (.int _ n)),some (.sc (.int _ n'))=>match st.okB d,z.all (·.oneCell') with
        | true,true=>some ([n' = n,0 ≤ n,n ≤ 9223372036854775807,n * by' ≤ 140737488355328],st.assign d ⟨.one,[.own e (List.replicate n.toNat (nzs ss (z.map zeroPC)))]⟩)
        | _,_=>none
      | _,_,_,_=>none
    | _,_=>none
  | _=>none
theorem evMk_spec {st st':St} {ss:List Nat} {q:List Prop} (h:evMk P st ss o = some (q,st')) (hq:AllP q):OpOK P o st st':=by
  unfold evMk at h
  split at h
  · rename_i t x y ho
    split at h
    · rename_i d e hd ht
      split at h
      · rename_i s by' z k n k' n' h1 h2 h3 h4
        split at h
        · rename_i h5 h6
          simp only [Option.some.injEq,Prod.mk.injEq] at h
          obtain ⟨rfl,rfl⟩:=h
          obtain ⟨q1,q2,q3,q4,_⟩:=hq
          subst q1
          have h7:=OpOK.make ho hd (St.okB_spec h5) ht h1 (by omega) h2 h6 (one?_eq h3) (one?_eq h4) q2 q3 q4
          have hg:∀ pv,(st.assign d pv).get d = some pv:=fun pv=>by unfold St.assign; split <;> (rw [St.get_put]; simp)
          have hat:(st.assign d ⟨.one,[.own e (List.replicate n'.toNat (z.map zeroPC))]⟩).at (.t d 0) = some (.own e (List.replicate n'.toNat (z.map zeroPC))):=by simp [St.at,hg]
          refine h7.turn ((Turns.nz hat (nzs_rel (z.map zeroPC) ss)).trans (Turns.ext (fun t'=>?_) ?_ ?_ ?_ (by rw [St.setAt_fx,St.assign_fx,St.assign_fx])))
          · simp only [St.setAt,hg]
            rw [St.get_rep]
            split
            · rename_i e'; subst e'; rw [hg]; rfl
            · rename_i e'
              unfold St.assign
              split
              · rw [St.get_put,St.get_put,if_neg e',if_neg e']
              · rw [St.get_put,St.get_put,if_neg e',if_neg e']
          · simp only [St.setAt,hg,St.rep,St.assign_bx]
          · simp only [St.setAt,hg,St.rep,St.assign_n]
          · simp only [St.setAt,hg,St.rep,St.assign_m]
        · cases h
      · cases h
    · cases h
  · cases h
def doFix (P:Program) (st:St):Fix → Option St
  | .own p e=>match st.at p with
    | some .nl=>some (st.setAt p (.own e []))
    | _=>none
  | .sl p s=>match st.at p with
    | some .nl=>some (st.setAt p (.sl s []))
    | _=>none
  | .frz p=>match st.at p with
    | some (.own e xs)=>some (st.setAt p (.sl (P.cellsOf e) xs))
    | _=>none
def doFixes (P:Program):St → List Fix → Option St
  | st,[]=>some st
  | st,f :: l=>match doFix P st f with
    | some st'=>doFixes P st' l
    | none=>none
theorem doFix_turns {st st':St} {f:Fix} (h:doFix P st f = some st'):Turns P st st':=by
  cases f <;> simp only [doFix] at h <;> split at h <;> try (cases h; done)
  · cases h; exact Turns.ownNil _ ‹_›
  · cases h; exact Turns.slNil _ ‹_›
  · cases h; exact Turns.freeze ‹_›
theorem doFixes_turns:∀ (l:List Fix) {st st':St},doFixes P st l = some st' → Turns P st st'
  | [],st,st',h=>by simp only [doFixes,Option.some.injEq] at h; subst h; exact Turns.refl _
  | f :: l,st,st',h=>by
    simp only [doFixes] at h
    split at h
    · exact (doFix_turns ‹_›).trans (doFixes_turns l h)
    · cases h
/-- A call that takes boxes along, or a row. -/
def evCB (P:Program) (i:Nat) (st:St) (hs:Hs) (o:Oper):Option (List Prop × St × Hs) :=
  match o.op with
  | .call { callee:=.value x,args:=as,argTypes:=ts }=>match hs with
    | (j,.callB res ns bs ko kcs bx') :: hs'=>match Nat.beq i j,one? (st.use x),usesB st as.toList with
      | true,some c,some pvs=>match calleeOf c with
        | some (f,caps)=>match okFn P f && nodupB bs && bs.all (fun b=>Nat.ble (b + 1) st.bx.length) && Nat.ble bs.length bx'.length && kcs.all (fun c=>!notOwn c) && Nat.beq kcs.length (keepOf ko).length,passPVs (passB st bs (mvOf ko)) (pvs ++ ones caps) ns,mapO (boxIn st bs) bs with
          | true,some args,some bxc=>match koB st bs ko (pvs ++ ones caps) args,mapO (mapO (ren (backB bs st.bx.length) 4)) bx',mapO (ren (backB bs st.bx.length) 4) res.cs with
            | true,some bxb,some rcs=>match o.dst with
              | some d=>match st.okB d with
                | true=>some ([FnG P f args (keepOf ko) bxc res kcs bx'],((st.behind bs bxb).keptAt ko kcs).assign d ⟨res.sh,rcs⟩,hs')
                | false=>none
              | none=>some ([FnG P f args (keepOf ko) bxc res kcs bx'],(st.behind bs bxb).keptAt ko kcs,hs')
            | _,_,_=>none
          | _,_,_=>none
        | none=>none
      | _,_,_=>none
    | _=>none
  | _=>none
/-- The boxes that the call of the operation does not touch. -/
def frameOf (i:Nat):Hs → Nat → Bool
  | (_,.callB _ _ bs _ _ _) :: _=>fun b=>!inB b bs
  | _=>fun _=>false
theorem evCBF_spec {i:Nat} {st st':St} {hs hs':Hs} {q:List Prop} (h:evCB P i st hs o = some (q,st',hs')) (hq:AllP q):OpEF P o st st' (frameOf i hs):=by
  unfold evCB at h
  split at h
  · rename_i x as ts ho
    split at h
    · rename_i j res ns bs ko kcs bx' hs1
      split at h
      · rename_i c pvs h1 h2 h3
        split at h
        · rename_i f caps hc
          split at h
          · rename_i args bxc h4 h5 h6
            split at h
            · rename_i bxb rcs h7 h8 h9
              simp only [Bool.and_eq_true] at h4
              obtain ⟨⟨⟨⟨⟨k1,k2⟩,k3⟩,k4⟩,k5⟩,k6⟩:=h4
              have hp:PassB st bs ko (pvs ++ ones caps) args ns bxc:=⟨fun b hb=>Nat.le_of_ble_eq_true (List.all_eq_true.1 k3 b hb),nodupB_spec k2,h5,h6,h7⟩
              have key:=fun hF=>OpEF.callB ho (one?_eq h2) hc k1 (usesB_spec h3) hp hF (Nat.le_of_ble_eq_true k4) (Nat.eq_of_beq_eq_true k6) k5 h8 h9 (res:=res)
              split at h
              · rename_i d hd
                split at h
                · rename_i h10
                  simp only [Option.some.injEq,Prod.mk.injEq] at h
                  obtain ⟨rfl,rfl,_⟩:=h
                  exact (key hq.1).1 d hd (St.okB_spec h10)
                · cases h
              · rename_i hd
                simp only [Option.some.injEq,Prod.mk.injEq] at h
                obtain ⟨rfl,rfl,_⟩:=h
                exact (key hq.1).2 hd
            · cases h
          · cases h
        · cases h
      · cases h
    · cases h
  · cases h
theorem evCB_spec {i:Nat} {st st':St} {hs hs':Hs} {q:List Prop} (h:evCB P i st hs o = some (q,st',hs')) (hq:AllP q):OpE P o st st':=(evCBF_spec h hq).e
/-- Where a copy comes from. -/
def cpFrom (P:Program) (st:St):PC → Option (List Prop × Nat × List (List PC))
  | .vw q lo n s=>match (st.at q).bind (St.row P st 3) with
    | some (s0,xs)=>match Nat.beq s0 s with
      | true=>some ([lo + n ≤ xs.length],s,(xs.drop lo).take n)
      | false=>none
    | none=>none
  | c=>match St.row P st 4 c with
    | some (s,xs)=>some ([],s,xs)
    | none=>none
theorem cpFrom_spec {st:St} {c:PC} {q:List Prop} {s:Nat} {xs:List (List PC)} (h:cpFrom P st c = some (q,s,xs)) (hq:AllP q):St.row P st 4 c = some (s,xs):=by
  unfold cpFrom at h
  split at h
  · rename_i p lo n s'
    split at h
    · rename_i s0 xs0 h1
      split at h
      · rename_i hb
        simp only [Option.some.injEq,Prod.mk.injEq] at h
        obtain ⟨rfl,rfl,rfl⟩:=h
        obtain rfl:=Nat.eq_of_beq_eq_true hb
        have:=hq.1
        simp only [St.row,h1]
        rw [if_pos (by simp [this])]
      · cases h
    · cases h
  · split at h
    · rename_i h1
      simp only [Option.some.injEq,Prod.mk.injEq] at h
      obtain ⟨_,rfl,rfl⟩:=h
      exact h1
    · cases h
/-- A copy into a row of ours. -/
def evCp (P:Program) (st:St) (hs:Hs) (o:Oper):Option (List Prop × St × Hs) :=
  match o.op with
  | .call { callee:=.builtin .copy,args:=⟨[x,y]⟩,argTypes:=⟨[t,_]⟩ }=>match P.underlying t,one? (st.use x),one? (st.use y),o.dst with
    | some (.slice e),some c,some c2,some d=>match (P.info? e).map (·.size),Nat.beq (P.cellsOf e) 1,cpTo st c,cpFrom P st c2 with
      | some 1,true,some (p,lo,n),some (q2,1,ys)=>match st.at p,st.okB d with
        | some (.own e' xs),true=>match Nat.beq e e' with
          | true=>some (q2 ++ [lo + n ≤ xs.length],(st.setAt p (.own e (cpRow xs ys lo (Nat.min ys.length n)))).assign d ⟨.one,[.sc (.int .i64 ((Nat.min ys.length n:Nat):Int))]⟩,hs)
          | false=>none
        | _,_=>none
      | _,_,_,_=>none
    | _,_,_,_=>none
  | _=>none
theorem evCp_spec {st st':St} {hs hs':Hs} {q:List Prop} (h:evCp P st hs o = some (q,st',hs')) (hq:AllP q):OpE P o st st':=by
  unfold evCp at h
  split at h
  · rename_i x y t t' ho
    split at h
    · rename_i e c c2 d h1 h2 h3 h4
      split at h
      · rename_i p lo n q2 ys h5 h6 h7 h8
        split at h
        · rename_i e' xs h9 h10
          split at h
          · rename_i h11
            simp only [Option.some.injEq,Prod.mk.injEq] at h
            obtain ⟨rfl,rfl,_⟩:=h
            obtain rfl:=Nat.eq_of_beq_eq_true h11
            obtain ⟨hq1,hq2⟩:=AllP_append hq
            exact OpE.copy ho h4 (St.okB_spec h10) h1 h5 (Nat.eq_of_beq_eq_true h6) (one?_eq h2) h7 h9 hq2.1 (one?_eq h3) (cpFrom_spec h8 hq1) rfl
          · cases h
        · cases h
      · cases h
    · cases h
  · cases h
def isCp (o:Oper):Bool :=
  match o.op with
  | .call { callee:=.builtin .copy,args:=_,argTypes:=_ }=>true
  | _=>false
/-- Is the hint that of such a call? -/
def isCB (i:Nat):Hs → Bool
  | (j,.callB ..) :: _=>Nat.beq i j
  | _=>false
abbrev Ez:=Option (List Prop × St × Hs)
/-- One operation: what must hold, the state behind it. -/
def evZ1 (P:Program) (i:Nat) (st:St) (hs:Hs) (o:Oper):Ez :=
  match isV o with
  | true=>match evV0 P i st hs o,o.dst with
    | some (c,pv,hs'),some d=>match st.okB d,keyIn d st.tm with
      | true,false=>some (c,st.put d pv,hs')
      | _,_=>none
    | _,_=>none
  | false=>match hs with
    | (j,.nz ss) :: hs'=>match Nat.beq i j with
      | true=>match evMk P st ss o with
        | some (c,st')=>some (c,st',hs')
        | none=>none
      | false=>match evOp2 P st [] o with
        | some (c,st',[])=>some (c,st',hs)
        | _=>none
    | _=>match evOp2 P st (elsOf i hs).1 o with
      | some (c,st',[])=>some (c,st',(elsOf i hs).2)
      | _=>none
theorem evZ1_spec {i:Nat} {st st':St} {hs hs':Hs} {q:List Prop} (h:evZ1 P i st hs o = some (q,st',hs')) (hq:AllP q):OpOK P o st st':=by
  unfold evZ1 at h
  split at h
  · split at h
    · rename_i c pv hs1 d h1 hd
      split at h
      · rename_i h2 h3
        simp only [Option.some.injEq,Prod.mk.injEq] at h
        obtain ⟨rfl,rfl,_⟩:=h
        exact (evV0_spec h1 hq).ok hd (St.okB_spec h2) (keyIn_false h3).2
      · cases h
    · cases h
  · split at h
    · split at h
      · split at h
        · rename_i c st1 h1
          simp only [Option.some.injEq,Prod.mk.injEq] at h
          obtain ⟨rfl,rfl,_⟩:=h
          exact evMk_spec h1 hq
        · cases h
      · split at h
        · rename_i c st1 h1
          simp only [Option.some.injEq,Prod.mk.injEq] at h
          obtain ⟨rfl,rfl,_⟩:=h
          exact evOp2_spec h1 hq
        · cases h
    · split at h
      · rename_i c st1 h1
        simp only [Option.some.injEq,Prod.mk.injEq] at h
        obtain ⟨rfl,rfl,_⟩:=h
        exact evOp2_spec h1 hq
      · cases h
/-- Boxes that are made with optional pointers. -/
def evAlo (P:Program) (i:Nat) (st:St) (hs:Hs) (o:Oper):Option (St × Hs) :=
  match o.op,hs,o.dst with
  | .alloc t,(j,.nz ns) :: hs',some d=>match Nat.beq i j,P.zero? t,st.okB d with
    | true,some l,true=>match l.all (·.oneCell'),optAll t st.bx.length ns ((st.addBox (l.map zeroPC)).assign d ⟨.one,[.ref st.bx.length 0]⟩) with
      | true,some st'=>some (st',hs')
      | _,_=>none
    | _,_,_=>none
  | .box t x,(j,.nz ns) :: hs',some d=>match Nat.beq i j,st.use x,st.okB d with
    | true,some pv,true=>match pv.cs.all (·.boxable),notTup pv.sh,optAll t st.bx.length ns ((st.addBox pv.cs).assign d ⟨.one,[.ref st.bx.length 0]⟩) with
      | true,true,some st'=>some (st',hs')
      | _,_,_=>none
    | _,_,_=>none
  | _,_,_=>none
theorem evAlo_spec {i:Nat} {st st':St} {hs hs':Hs} (h:evAlo P i st hs o = some (st',hs')):OpE P o st st':=by
  unfold evAlo at h
  split at h
  · rename_i t j ns hs1 d ho hd
    split at h
    · rename_i l _ h2 h3
      split at h
      · rename_i st1 h4 h5
        simp only [Option.some.injEq,Prod.mk.injEq] at h
        obtain ⟨rfl,_⟩:=h
        exact OpE.allocO ho hd (St.okB_spec h3) h2 h4 h5
      · cases h
    · cases h
  · rename_i t x j ns hs1 d ho hd
    split at h
    · rename_i pv _ h2 h3
      split at h
      · rename_i st1 h4 h5 h6
        simp only [Option.some.injEq,Prod.mk.injEq] at h
        obtain ⟨rfl,_⟩:=h
        exact OpE.boxO ho hd (St.okB_spec h3) h2 h4 h5 h6
      · cases h
    · cases h
  · cases h
/-- A row of bytes that is marked. -/
def evMrk (P:Program) (st:St) (o:Oper):Option (List Prop × St) :=
  match o.op,o.dst with
  | .convert s t (.tmp u),some d=>match one? (st.get u),P.underlying t,Nat.beq s t,st.okB d with
    | some (.own e xs),some (.slice e'),true,true=>match P.underlying e',Nat.beq e e' with
      | some (.int .u8),true=>some ([xs ≠ []],(st.setAt (.t u 0) .dead).assign d ⟨.one,[.own e xs]⟩)
      | _,_=>none
    | _,_,_,_=>none
  | _,_=>none
theorem evMrk_spec {st st':St} {q:List Prop} (h:evMrk P st o = some (q,st')) (hq:AllP q):OpOK P o st st':=by
  unfold evMrk at h
  split at h
  · rename_i s t u d ho hd
    split at h
    · rename_i e xs e' h1 h2 h3 h4
      split at h
      · rename_i h5 h6
        have h6:=Nat.eq_of_beq_eq_true h6
        subst h6
        simp only [Option.some.injEq,Prod.mk.injEq] at h
        obtain ⟨rfl,rfl⟩:=h
        exact OpOK.mark ho hd (St.okB_spec h4) (Nat.eq_of_beq_eq_true h3) h2 h5 (one?_eq h1) hq.1
      · cases h
    · cases h
  · cases h
/-- Pointers without a type; the library's function that hands back what it is given. -/
def evUn (P:Program) (st:St) (o:Oper):Option (List Prop × PV) :=
  match o.op with
  | .convert s t x=>match one? (st.use x) with
    | some (.ref b off)=>match st.bx[b]? with
      | some cs=>match P.underlying s,P.underlying t with
        | some (.pointer e),some .unsafePointer=>match P.size? e,Nat.ble (off + 1) cs.length with
          | some (_ + 1),true=>some ([],⟨.one,[.ref b off]⟩)
          | _,_=>none
        | some .unsafePointer,some (.pointer e)=>match P.size? e,cs[off]? with
          | some _,some (.opt T _ b' off')=>match Nat.beq b' b,Nat.beq off' off,liesAt P P.depth T (cs.length / P.cellsOf T) off e 1 with
            | true,true,true=>some ([],⟨.one,[.ref b off]⟩)
            | _,_,_=>none
          | _,_=>none
        | _,_=>none
      | none=>none
    | _=>none
  | .call { callee:=.value x,args:=⟨[y]⟩,argTypes:=⟨[_]⟩ }=>match one? (st.use x),one? (st.use y) with
    | some (.sc (.func (.func f) ⟨[]⟩ ⟨[]⟩)),some (.ref b off)=>match P.funcs[f]?,Nat.ble (b + 1) st.bx.length with
      | some fn,true=>match fn.body.isNone with
        | true=>some ([isSame P f],⟨.one,[.ref b off]⟩)
        | false=>none
      | _,_=>none
    | _,_=>none
  | _=>none
theorem evUn_spec {st:St} {q:List Prop} {pv:PV} (h:evUn P st o = some (q,pv)) (hq:AllP q):Reads P o st pv:=by
  unfold evUn at h
  split at h
  · rename_i s t x ho
    split at h
    · rename_i b off h1
      split at h
      · rename_i cs h2
        split at h
        · rename_i e h3 h4
          split at h
          · rename_i n h5 h6
            simp only [Option.some.injEq,Prod.mk.injEq] at h
            obtain ⟨_,rfl⟩:=h
            exact Reads.toUnsafe ho h3 h4 h5 (one?_eq h1) h2 (Nat.le_of_ble_eq_true h6)
          · cases h
        · rename_i e h3 h4
          split at h
          · rename_i n T u b' off' h5 h6
            split at h
            · rename_i h7 h8 h9
              have h7:=Nat.eq_of_beq_eq_true h7
              have h8:=Nat.eq_of_beq_eq_true h8
              subst h7 h8
              simp only [Option.some.injEq,Prod.mk.injEq] at h
              obtain ⟨_,rfl⟩:=h
              exact Reads.ofUnsafe ho h3 h4 h5 (one?_eq h1) h2 h6 h9
            · cases h
          · cases h
        · cases h
      · cases h
    · cases h
  · rename_i x y t ho
    split at h
    · rename_i f b off h1 h2
      split at h
      · rename_i fn h3 h4
        split at h
        · simp only [Option.some.injEq,Prod.mk.injEq] at h
          obtain ⟨rfl,rfl⟩:=h
          exact Reads.same ho (one?_eq h1) hq.1 (one?_eq h2) (Nat.le_of_ble_eq_true h4)
        · cases h
      · cases h
    · cases h
  · cases h
/-- A pointer goes where an optional one to the same place stands. -/
def evSo (P:Program) (st:St) (o:Oper):Option St :=
  match o.op,o.dst with
  | .store t x y,none=>match one? (st.use x),one? (st.use y),P.size? t with
    | some (.ref b off),some (.ref b' off'),some 1=>match st.bx[b]?,noNmB b off 1 st.tm with
      | some cs,true=>match cs[off]? with
        | some (.opt T _ b2 off2)=>match Nat.beq b2 b',Nat.beq off2 off' with
          | true,true=>some (st.setBox b off [.opt T true b' off'])
          | _,_=>none
        | _=>none
      | _,_=>none
    | _,_,_=>none
  | _,_=>none
theorem evSo_spec {st st':St} (h:evSo P st o = some st'):OpOK P o st st':=by
  unfold evSo at h
  split at h
  · rename_i t x y ho hd
    split at h
    · rename_i b off b' off' h1 h2 h3
      split at h
      · rename_i cs h4 h5
        split at h
        · rename_i T u b2 off2 h6
          split at h
          · rename_i h7 h8
            have h7:=Nat.eq_of_beq_eq_true h7
            have h8:=Nat.eq_of_beq_eq_true h8
            subst h7 h8
            cases h
            exact OpOK.of_inv fun a w r hi=>OpOK.storeOpt ho hd h3 (one?_eq h1) (one?_eq h2) h4 h6 (hi.noNm h5)
          · cases h
        · cases h
      · cases h
    · cases h
  · cases h
/-- A row of a temporary's own goes into a box. -/
def evSt (P:Program) (st:St) (o:Oper):Option St :=
  match o.op,o.dst with
  | .store t x (.tmp u),none=>match one? (st.use x),one? (st.get u),P.size? t with
    | some (.ref b off),some (.own e xs),some 1=>match st.bx[b]? with
      | some cs=>match Nat.ble (off + 1) cs.length with
        | true=>some (((st.wipeR b off 1).setAt (.t u 0) .dead).setBox b off [.own e xs])
        | false=>none
      | none=>none
    | _,_,_=>none
  | _,_=>none
theorem evSt_spec {st st':St} (h:evSt P st o = some st'):OpOK P o st st':=by
  unfold evSt at h
  split at h
  · rename_i t x u ho hd
    split at h
    · rename_i b off e xs h1 h2 h3
      split at h
      · rename_i cs h4
        split at h
        · rename_i h5
          cases h
          exact OpOK.storeOwn ho hd h3 (one?_eq h1) (one?_eq h2) h4 (Nat.le_of_ble_eq_true h5)
        · cases h
      · cases h
    · cases h
  · cases h
def evZ0 (P:Program) (i:Nat) (st:St) (hs:Hs) (o:Oper):Ez :=
  match isCB i hs with
  | true=>evCB P i st hs o
  | false=>match isCp o with
    | true=>evCp P st hs o
    | false=>match evSt P st o with
      | some st'=>some ([],st',hs)
      | none=>match evSo P st o with
        | some st'=>some ([],st',hs)
        | none=>match evAlo P i st hs o with
          | some (st',hs')=>some ([],st',hs')
          | none=>match evUn P st o,o.dst with
            | some (c,pv),some d=>match st.okB d,noNameB d pv with
              | true,true=>some (c,st.assign d pv,hs)
              | _,_=>none
            | _,_=>match evMrk P st o with
              | some (c,st')=>some (c,st',hs)
              | none=>evZ1 P i st hs o
theorem evZ0_spec {i:Nat} {st st':St} {hs hs':Hs} {q:List Prop} (h:evZ0 P i st hs o = some (q,st',hs')) (hq:AllP q):OpOK P o st st':=by
  unfold evZ0 at h
  split at h
  · exact (evCB_spec h hq).ok
  · split at h
    · exact (evCp_spec h hq).ok
    · split at h
      · rename_i st1 h1
        simp only [Option.some.injEq,Prod.mk.injEq] at h
        obtain ⟨_,rfl,_⟩:=h
        exact evSt_spec h1
      · split at h
        · rename_i st1 h1
          simp only [Option.some.injEq,Prod.mk.injEq] at h
          obtain ⟨_,rfl,_⟩:=h
          exact evSo_spec h1
        · split at h
          · rename_i st1 hs1 h1
            simp only [Option.some.injEq,Prod.mk.injEq] at h
            obtain ⟨_,rfl,_⟩:=h
            exact (evAlo_spec h1).ok
          · split at h
            · rename_i c pv d h1 h2
              split at h
              · rename_i h3 h4
                simp only [Option.some.injEq,Prod.mk.injEq] at h
                obtain ⟨rfl,rfl,_⟩:=h
                exact Reads.ok (evUn_spec h1 hq) h2 (St.okB_spec h3) h4
              · cases h
            · split at h
              · rename_i c st1 h1
                simp only [Option.some.injEq,Prod.mk.injEq] at h
                obtain ⟨rfl,rfl,_⟩:=h
                exact evMrk_spec h1 hq
              · exact evZ1_spec h hq
/-- Cells told otherwise, behind the operation. -/
def postZ (i:Nat) (d:Option Nat):List Prop → St → Hs → Ez
  | c,st,(j,.ov l) :: hs=>match Nat.beq i j with
    | true=>match d with
      | some d'=>match st.get d' with
        | some pv=>postZ i d (c ++ [pv.cs = l]) (st.rep d' ⟨pv.sh,l⟩) hs
        | none=>none
      | none=>none
    | false=>some (c,st,(j,.ov l) :: hs)
  | c,st,(j,.ovp p x) :: hs=>match Nat.beq i j with
    | true=>match st.at p with
      | some y=>postZ i d (c ++ [y = x]) (st.setAt p x) hs
      | none=>none
    | false=>some (c,st,(j,.ovp p x) :: hs)
  | c,st,hs=>some (c,st,hs)
theorem setAt_self {st:St} {p:Place} {x:PC} (h:st.at p = some x):Turns P st (st.setAt p x):=by
  refine Turns.ext (fun t=>?_) ?_ St.setAt_n St.setAt_m St.setAt_fx
  · cases p with
    | t u c =>
      obtain ⟨pv,h1,h2⟩:=St.at_tmp h
      simp only [St.setAt,h1]
      rw [St.get_rep]
      split
      · rename_i e; subst e
        rw [h1]
        obtain ⟨sh,cs⟩:=pv
        have:cs.set c x = cs:=by
          refine List.ext_getElem? fun i=>?_
          rw [List.getElem?_set]
          split
          · rename_i e; subst e
            split
            · exact h2.symm
            · rename_i hlt; exact absurd (List.getElem?_eq_some_iff.1 h2).1 hlt
          · rfl
        simp only [this]
      · rfl
    | b b c=>rfl
  · cases p with
    | t u c=>simp only [St.setAt]; split <;> rfl
    | b b c =>
      obtain ⟨h0,cs,h1,h2⟩:=St.at_box h
      simp only [St.setAt]
      refine List.ext_getElem? fun i=>?_
      rw [List.getElem?_modify]
      by_cases e:b = i
      · subst e
        have:cs.set c x = cs:=by
          refine List.ext_getElem? fun i=>?_
          rw [List.getElem?_set]
          split
          · rename_i e; subst e
            split
            · exact h2.symm
            · rename_i hlt; exact absurd (List.getElem?_eq_some_iff.1 h2).1 hlt
          · rfl
        simp [h1,this]
      · simp [e]
theorem postZ_spec {i:Nat} {d:Option Nat}:∀ (hs:Hs) {c:List Prop} {st st':St} {hs':Hs} {q:List Prop},postZ i d c st hs = some (q,st',hs') → AllP q → AllP c ∧ Turns P st st'
  | [],c,st,st',hs',q,h,hq=>by
    simp only [postZ,Option.some.injEq,Prod.mk.injEq] at h
    obtain ⟨rfl,rfl,_⟩:=h
    exact ⟨hq,Turns.refl _⟩
  | (j,.ov l) :: hs,c,st,st',hs',q,h,hq=>by
    simp only [postZ] at h
    split at h
    · split at h
      · rename_i d'
        split at h
        · rename_i pv hpv
          obtain ⟨h1,h2⟩:=postZ_spec hs h hq
          obtain ⟨h3,h4⟩:=AllP_append h1
          have:=h4.1
          subst this
          refine ⟨h3,(show Turns P st (st.rep d' ⟨pv.sh,pv.cs⟩) from Turns.ext (fun t=>?_) rfl rfl rfl).trans h2⟩
          rw [St.get_rep]
          split
          · rename_i e; subst e; exact hpv.symm
          · rfl
        · cases h
      · cases h
    · simp only [Option.some.injEq,Prod.mk.injEq] at h
      obtain ⟨rfl,rfl,_⟩:=h
      exact ⟨hq,Turns.refl _⟩
  | (j,.ovp p x) :: hs,c,st,st',hs',q,h,hq=>by
    simp only [postZ] at h
    split at h
    · split at h
      · rename_i y hy
        obtain ⟨h1,h2⟩:=postZ_spec hs h hq
        obtain ⟨h3,h4⟩:=AllP_append h1
        have:=h4.1
        subst this
        exact ⟨h3,(setAt_self hy).trans h2⟩
      · cases h
    · simp only [Option.some.injEq,Prod.mk.injEq] at h
      obtain ⟨rfl,rfl,_⟩:=h
      exact ⟨hq,Turns.refl _⟩
  | (j,.el l) :: hs,c,st,st',hs',q,h,hq=>by
    simp only [postZ,Option.some.injEq,Prod.mk.injEq] at h
    obtain ⟨rfl,rfl,_⟩:=h
    exact ⟨hq,Turns.refl _⟩
  | (j,.call _ _ _) :: hs,c,st,st',hs',q,h,hq=>by
    simp only [postZ,Option.some.injEq,Prod.mk.injEq] at h
    obtain ⟨rfl,rfl,_⟩:=h
    exact ⟨hq,Turns.refl _⟩
  | (j,.frz _) :: hs,c,st,st',hs',q,h,hq=>by
    simp only [postZ,Option.some.injEq,Prod.mk.injEq] at h
    obtain ⟨rfl,rfl,_⟩:=h
    exact ⟨hq,Turns.refl _⟩
  | (j,.nz _) :: hs,c,st,st',hs',q,h,hq=>by
    simp only [postZ,Option.some.injEq,Prod.mk.injEq] at h
    obtain ⟨rfl,rfl,_⟩:=h
    exact ⟨hq,Turns.refl _⟩
  | (j,.nums _) :: hs,c,st,st',hs',q,h,hq=>by
    simp only [postZ,Option.some.injEq,Prod.mk.injEq] at h
    obtain ⟨rfl,rfl,_⟩:=h
    exact ⟨hq,Turns.refl _⟩
  | (j,.callB _ _ _ _ _ _) :: hs,c,st,st',hs',q,h,hq=>by
    simp only [postZ,Option.some.injEq,Prod.mk.injEq] at h
    obtain ⟨rfl,rfl,_⟩:=h
    exact ⟨hq,Turns.refl _⟩
  | (j,.fix _) :: hs,c,st,st',hs',q,h,hq=>by
    simp only [postZ,Option.some.injEq,Prod.mk.injEq] at h
    obtain ⟨rfl,rfl,_⟩:=h
    exact ⟨hq,Turns.refl _⟩
def solveC (p:Place) (x:PC):PC → PC
  | .al q=>match placeB q p with
    | true=>x
    | false=>.al q
  | y=>y
def solveT (p:Place) (x:PC):List (Nat × PV) → List (Nat × PV)
  | []=>[]
  | (t,pv) :: l=>(t,⟨pv.sh,pv.cs.map (solveC p x)⟩) :: solveT p x l
/-- All that names a shared row is that row. -/
def St.solve (st:St) (p:Place) (x:PC):St:={ st with tm:=solveT p x st.tm }
theorem look_solveT {p:Place} {x:PC} {t:Nat}:∀ {l:List (Nat × PV)},look (solveT p x l) t = (look l t).map fun pv=>⟨pv.sh,pv.cs.map (solveC p x)⟩
  | []=>rfl
  | (k,pv) :: l=>by
    simp only [solveT,look]
    split
    · rfl
    · exact look_solveT
theorem solveC_cases (p:Place) (x y:PC):solveC p x y = y ∨ (y = .al p ∧ solveC p x y = x):=by
  cases y <;> try (exact .inl rfl)
  rename_i q
  simp only [solveC]
  split
  · rename_i h; rw [placeB_eq h]; exact .inr ⟨rfl,rfl⟩
  · exact .inl rfl
theorem Turns.solve {st:St} {p:Place} {x:PC} (hp:st.at p = some x) (hx:x.plain = true):Turns P st (st.solve p x):=by
  intro a w r hi
  have hget:∀ t,(st.solve p x).get t = (st.get t).map fun pv=>⟨pv.sh,pv.cs.map (solveC p x)⟩:=fun t=>look_solveT
  have hat:∀ q y,(st.solve p x).at q = some y → ∃ z,st.at q = some z ∧ (y = z ∨ (z = .al p ∧ y = x)):=by
    intro q y hy
    cases q with
    | t t c =>
      obtain ⟨pv,h1,h2⟩:=St.at_tmp hy
      rw [hget] at h1
      obtain ⟨pv0,h3,rfl⟩:=Option.map_eq_some_iff.1 h1
      simp only [List.getElem?_map] at h2
      obtain ⟨z,h4,rfl⟩:=Option.map_eq_some_iff.1 h2
      refine ⟨z,by simp [St.at,h3,h4],?_⟩
      rcases solveC_cases p x z with h | ⟨h5,h6⟩
      · exact .inl h
      · exact .inr ⟨h5,h6⟩
    | b b c=>exact ⟨y,hy,.inl rfl⟩
  have hdead:x ≠ .dead:=fun e=>by subst e; cases hx
  have hlv:∀ q,(st.solve p x).lives q → st.lives q:=by
    intro q ⟨y,h1,h2⟩
    obtain ⟨z,h3,h4⟩:=hat q y h1
    rcases h4 with rfl | ⟨rfl,rfl⟩
    · exact ⟨_,h3,h2⟩
    · exact ⟨_,h3,by simp⟩
  have hexs:∀ q,st.ex q → (st.solve p x).ex q:=by
    intro q hq
    cases q with
    | t t c=>obtain ⟨pv,hq⟩:=hq; exact ⟨_,by rw [hget,hq]; rfl⟩
    | b b c=>exact hq
  have hown:∀ e xs,x ≠ .own e xs:=fun e xs h=>by subst h; cases hx
  refine ⟨r,rfl,⟨hi.sz,hi.m,fun t pv ht=>?_,hi.bx,fun q y hy=>?_,fun q y q' hy hq'=>?_,fun q g hg=>?_,hi.inj,hi.exb,hi.bb,hi.sh,hi.defers,hi.lw,hi.fx⟩,Step.refl ..⟩
  · rw [hget] at ht
    obtain ⟨pv0,h1,rfl⟩:=Option.map_eq_some_iff.1 ht
    obtain ⟨v,h2,h3⟩:=hi.tm t pv0 h1
    exact ⟨v,h2,by simpa using h3⟩
  · obtain ⟨z,h1,h2⟩:=hat q y hy
    have lift:∀ c v g,RepC P w r st (alpha a w r) c v g → RepC P w r (st.solve p x) (alpha a w r) c v g:=fun c v g h=>h.mono (fun _ h=>h) (fun _ _=>rfl) (fun _ _=>rfl) (fun b hb=>⟨hb,rfl⟩) (fun q _ hq=>⟨hlv q hq,rfl⟩)
    rcases h2 with rfl | ⟨rfl,rfl⟩
    · exact lift _ _ _ (hi.cell q _ h1)
    · have h3:=hi.cell q _ h1
      have h4:=hi.cell p _ hp
      have h5:=h4.g_none hown
      rw [h3.1,h3.2 ⟨_,hp,hdead⟩]
      rw [h5] at h4
      exact lift _ _ _ h4
  · obtain ⟨z,h1,h2⟩:=hat q y hy
    rcases h2 with rfl | ⟨rfl,rfl⟩
    · exact hexs _ (hi.nm q _ q' h1 hq')
    · cases y <;> simp only [PC.names] at hq' <;> first | (cases hq'; done) | (cases hx; done)
  · obtain ⟨e,xs,h1⟩:=hi.live q g hg
    refine ⟨e,xs,?_⟩
    cases q with
    | t t c =>
      obtain ⟨pv,h2,h3⟩:=St.at_tmp h1
      simp only [St.at,hget,h2,Option.map_some,Option.bind_some,List.getElem?_map,h3]
      rfl
    | b b c=>exact h1
/-- Rows frozen ahead of the operation. -/
def preZ (P:Program) (i:Nat):St → Hs → Option (St × Hs)
  | st,(j,.frz p) :: hs=>match Nat.beq i j with
    | true=>match st.at p with
      | some (.own e xs)=>match (st.setAt p (.sl (P.cellsOf e) xs)).at p with
        | some (.sl s ys)=>preZ P i ((st.setAt p (.sl (P.cellsOf e) xs)).solve p (.sl s ys)) hs
        | _=>none
      | _=>none
    | false=>some (st,(j,.frz p) :: hs)
  | st,(j,.fix f) :: hs=>match Nat.beq i j with
    | true=>match doFix P st f with
      | some st'=>preZ P i st' hs
      | none=>none
    | false=>some (st,(j,.fix f) :: hs)
  | st,hs=>some (st,hs)
theorem preZ_spec {i:Nat}:∀ (hs:Hs) {st st':St} {hs':Hs},preZ P i st hs = some (st',hs') → Turns P st st'
  | [],st,st',hs',h=>by simp only [preZ,Option.some.injEq,Prod.mk.injEq] at h; obtain ⟨rfl,_⟩:=h; exact Turns.refl _
  | (j,.frz p) :: hs,st,st',hs',h=>by
    simp only [preZ] at h
    split at h
    · split at h
      · rename_i e xs hp
        split at h
        · rename_i s ys hp2
          exact (Turns.freeze hp).trans ((Turns.solve hp2 rfl).trans (preZ_spec hs h))
        · cases h
      · cases h
    · simp only [Option.some.injEq,Prod.mk.injEq] at h; obtain ⟨rfl,_⟩:=h; exact Turns.refl _
  | (j,.el _) :: hs,st,st',hs',h=>by simp only [preZ,Option.some.injEq,Prod.mk.injEq] at h; obtain ⟨rfl,_⟩:=h; exact Turns.refl _
  | (j,.ov _) :: hs,st,st',hs',h=>by simp only [preZ,Option.some.injEq,Prod.mk.injEq] at h; obtain ⟨rfl,_⟩:=h; exact Turns.refl _
  | (j,.call _ _ _) :: hs,st,st',hs',h=>by simp only [preZ,Option.some.injEq,Prod.mk.injEq] at h; obtain ⟨rfl,_⟩:=h; exact Turns.refl _
  | (j,.ovp _ _) :: hs,st,st',hs',h=>by simp only [preZ,Option.some.injEq,Prod.mk.injEq] at h; obtain ⟨rfl,_⟩:=h; exact Turns.refl _
  | (j,.nums _) :: hs,st,st',hs',h=>by simp only [preZ,Option.some.injEq,Prod.mk.injEq] at h; obtain ⟨rfl,_⟩:=h; exact Turns.refl _
  | (j,.nz _) :: hs,st,st',hs',h=>by simp only [preZ,Option.some.injEq,Prod.mk.injEq] at h; obtain ⟨rfl,_⟩:=h; exact Turns.refl _
  | (j,.callB _ _ _ _ _ _) :: hs,st,st',hs',h=>by simp only [preZ,Option.some.injEq,Prod.mk.injEq] at h; obtain ⟨rfl,_⟩:=h; exact Turns.refl _
  | (j,.fix f) :: hs,st,st',hs',h=>by
    simp only [preZ] at h
    split at h
    · split at h
      · rename_i st1 h1
        exact (doFix_turns h1).trans (preZ_spec hs h)
      · cases h
    · simp only [Option.some.injEq,Prod.mk.injEq] at h; obtain ⟨rfl,_⟩:=h; exact Turns.refl _
theorem OpOK.pre {st st₁ st':St} (ht:Turns P st st₁) (h:OpOK P o st₁ st'):OpOK P o st st':=by
  intro a w r hi K Q hK
  obtain ⟨r₁,h1,h2,h3⟩:=ht a w r hi
  exact h a w r₁ h2 K Q fun v w' r' k1 k2 k3=>hK v w' r' (k1.trans h1) k2 (h3.trans (h1 ▸ k3))
def evZ (P:Program) (i:Nat) (st:St) (hs:Hs) (o:Oper):Ez :=
  match preZ P i st hs with
  | some (st₁,hs₁)=>match evZ0 P i st₁ hs₁ o with
    | some (c,st₂,hs₂)=>postZ i o.dst c st₂ hs₂
    | none=>none
  | none=>none
theorem evZ_spec {i:Nat} {st st':St} {hs hs':Hs} {q:List Prop} (h:evZ P i st hs o = some (q,st',hs')) (hq:AllP q):OpOK P o st st':=by
  unfold evZ at h
  split at h
  · rename_i st1 hs1 h1
    split at h
    · rename_i c st2 hs2 h2
      obtain ⟨h3,h4⟩:=postZ_spec (P:=P) hs2 h hq
      exact OpOK.pre (preZ_spec hs h1) ((evZ0_spec h2 h3).turn h4)
    · cases h
  · cases h
def seqZ (x:Ez) (k:St → Hs → Ez):Ez :=
  match x with
  | some (c,st',hs')=>match k st' hs' with
    | some (c',st'',hs'')=>some (c ++ c',st'',hs'')
    | none=>none
  | none=>none
theorem seqZ_eq {x:Ez} {k:St → Hs → Ez} {q:List Prop} {st':St} {hs':Hs} (h:seqZ x k = some (q,st',hs')):∃ c1 st1 hs1 c2,x = some (c1,st1,hs1) ∧ k st1 hs1 = some (c2,st',hs') ∧ q = c1 ++ c2:=by
  unfold seqZ at h
  split at h
  · rename_i c1 st1 hs1
    split at h
    · rename_i c2 st2 hs2 h2
      simp only [Option.some.injEq,Prod.mk.injEq] at h
      obtain ⟨rfl,rfl,rfl⟩:=h
      exact ⟨c1,st1,hs1,c2,rfl,h2,rfl⟩
    · cases h
  · cases h
/-- Not wanted. -/
def skipZ (st:St) (d:Option Nat) (k:St → Ez):Ez :=
  match d with
  | some e=>match st.okB e with
    | true=>k (st.assign e ⟨.tup [],[]⟩)
    | false=>none
  | none=>none
/-- Nothing stands there: an operation that was not wanted. -/
def unB:Option PV → Bool
  | some ⟨.tup [],[]⟩=>true
  | _=>false
theorem Inv.yieldedU {st:St} {a:Act} {w:World} {r:Rs} (h:Inv P st a w r) {ops:Array Oper} {j d:Nat} (hj:(ops[j]?).bind (·.dst) = some d) (hd:unB (st.get d) = true):Go.yielded ops a.tmps j = none:=by
  unfold unB at hd
  split at hd
  · rename_i hd'
    obtain ⟨v,h1,vs,rfl,h2,h3,h4⟩:=h.tm d _ hd'
    simp [Go.yielded,hj,h1]
  · cases hd
theorem TriO.consN {st : St} {ops : Array Oper} {l : List Oper} {Q : St → Prop} {e : Nat} (hw : ∀ a w r, Inv P st a w r → Region.wanted o (Go.yielded ops a.tmps) = false) (ho : o.dst = some e) (he : st.okd e)
    (h:TriO P ops l Q (st.assign e ⟨.tup [],[]⟩)):TriO P ops (o :: l) Q st:=by
  intro a w r hi
  refine wpList_step fun K hK=>?_
  rw [if_neg (by rw [hw a w r hi]; simp)]
  refine hK _ _ ?_
  have h1:=hi.assign_has (d:=e) (pv:=⟨.tup [],[]⟩) (v:=undef) he rfl ⟨⟨#[],rfl,rfl,rfl,fun x hx=>by simp at hx⟩,fun c x hx=>by simp at hx⟩
  rw [ho]
  have hst:Step st.m w r st.bx.length w ((r.dropT e).setT e fun _=>none) st.bx.length:=Step.assign (fun _ _ h=>by cases h)
  refine wpList_mono (fun _ _ _ k=>Post.step hst ?_) l _ w (h _ w _ h1)
  rw [St.assign_m,St.assign_bx] at k
  exact k
/-- The first n operations from the i-th on, those that are wanted. -/
def evN3 (P:Program) (ops:Array Oper):Nat → Nat → List Oper → St → Hs → Ez
  | 0,_,_,st,hs=>some ([],st,hs)
  | _ + 1,_,[],_,_=>none
  | n + 1,i,o :: l,st,hs=>match o.guard with
    | none=>seqZ (evZ P i st hs o) (evN3 P ops n (i + 1) l)
    | some (j,b)=>match (ops[j]?).bind (·.dst) with
      | some d=>match one? (st.get d) with
        | some (.sc (.bool c))=>match eqB b c with
          | true=>seqZ (evZ P i st hs o) (evN3 P ops n (i + 1) l)
          | false=>skipZ st o.dst fun st'=>evN3 P ops n (i + 1) l st' hs
        | _=>match unB (st.get d) with
          | true=>skipZ st o.dst fun st'=>evN3 P ops n (i + 1) l st' hs
          | false=>none
      | none=>none
theorem evN3_spec {ops:Array Oper} {Q:St → Prop}:∀ (n i:Nat) (l:List Oper) (st:St) (hs:Hs) {q:List Prop} {st':St} {hs':Hs},evN3 P ops n i l st hs = some (q,st',hs') → AllP q → TriO P ops (l.drop n) Q st' → TriO P ops l Q st
  | 0,i,l,st,hs,q,st',hs',h,hq,ht=>by
    simp only [evN3,Option.some.injEq,Prod.mk.injEq] at h
    obtain ⟨_,rfl,_⟩:=h
    exact ht
  | n + 1,i,[],st,hs,q,st',hs',h,hq,ht=>by simp [evN3] at h
  | n + 1,i,o :: l,st,hs,q,st',hs',h,hq,ht=>by
    simp only [evN3] at h
    split at h
    · rename_i hg
      obtain ⟨c1,st1,hs1,c2,h1,h2,rfl⟩:=seqZ_eq h
      obtain ⟨q1,q2⟩:=AllP_append hq
      exact TriO.cons hg (evZ_spec h1 q1) (evN3_spec n (i + 1) l st1 hs1 h2 q2 ht)
    · rename_i j b hg
      split at h
      · rename_i d hj
        split at h
        · rename_i c hd
          have hd':=one?_eq hd
          split at h
          · rename_i hbc
            have hbc:b = c:=by cases b <;> cases c <;> first | rfl | cases hbc
            subst hbc
            obtain ⟨c1,st1,hs1,c2,h1,h2,rfl⟩:=seqZ_eq h
            obtain ⟨q1,q2⟩:=AllP_append hq
            exact TriO.consT hg hj hd' (evZ_spec h1 q1) (evN3_spec n (i + 1) l st1 hs1 h2 q2 ht)
          · rename_i hbc
            have hbc:c = !b:=by cases b <;> cases c <;> first | rfl | cases hbc
            unfold skipZ at h
            split at h
            · rename_i e ho
              split at h
              · rename_i he
                exact TriO.consF hg hj hd' hbc ho (St.okB_spec he) (evN3_spec n (i + 1) l _ hs h hq ht)
              · cases h
            · cases h
        · split at h
          · rename_i hu
            unfold skipZ at h
            split at h
            · rename_i e ho
              split at h
              · rename_i he
                exact TriO.consN (fun a w r hi=>by simp [Region.wanted,hg,hi.yieldedU hj hu]) ho (St.okB_spec he) (evN3_spec n (i + 1) l _ hs h hq ht)
              · cases h
            · cases h
          · cases h
      · cases h
/-! Regions whose order is drawn. -/
/-- A value, or none wanted. -/
def evG (P:Program) (ops:Array Oper) (i:Nat) (st:St) (hs:Hs) (o:Oper):Option (List Prop × PV × Hs) :=
  match o.guard with
  | none=>evV P i st hs o
  | some (j,b)=>match (ops[j]?).bind (·.dst) with
    | some d=>match one? (st.get d) with
      | some (.sc (.bool c))=>match eqB b c with
        | true=>evV P i st hs o
        | false=>some ([],⟨.tup [],[]⟩,hs)
      | _=>match unB (st.get d) with
        | true=>some ([],⟨.tup [],[]⟩,hs)
        | false=>none
    | none=>none
theorem DOp.want {ops:Array Oper} {st:St} {pv:PV} (h:DOp P o st pv) (hw:∀ a w r,Inv P st a w r → Region.wanted o (yielded ops a.tmps) = true):WOp P ops o st pv:=by
  intro a w r hi K Q hK
  rw [if_pos (hw a w r hi)]
  exact h a w r hi K Q hK
theorem WOp.none {ops:Array Oper} {st:St} (hw:∀ a w r,Inv P st a w r → Region.wanted o (yielded ops a.tmps) = false):WOp P ops o st ⟨.tup [],[]⟩:=by
  intro a w r hi K Q hK
  rw [if_neg (by rw [hw a w r hi]; simp)]
  exact hK undef w r.Sh (fun _=>.none) ⟨rfl,rfl,rfl,Nat.le_refl _,fun _ _=>rfl,fun _ h=>h,fun _ h=>.inl h,⟨#[],rfl,rfl,rfl,by simp⟩,(fun c x hx=>by simp at hx),(fun c x q hx=>by simp at hx),(fun _ _ h=>by cases h),(fun _ _ _ h=>by cases h)⟩
theorem evG_spec {ops:Array Oper} {i:Nat} {st:St} {hs hs':Hs} {q:List Prop} {pv:PV} (h:evG P ops i st hs o = some (q,pv,hs')) (hq:AllP q):WOp P ops o st pv:=by
  unfold evG at h
  split at h
  · rename_i hg
    exact (evV_spec h hq).want fun a w r hi=>by simp [Region.wanted,hg]
  · rename_i j b hg
    split at h
    · rename_i d hj
      split at h
      · rename_i c hd
        have hd':=one?_eq hd
        split at h
        · rename_i hbc
          have hbc:b = c:=by cases b <;> cases c <;> first | rfl | cases hbc
          subst hbc
          exact (evV_spec h hq).want fun a w r hi=>by
            have:=hi.yielded hj hd'
            simp [Region.wanted,hg,this]
        · rename_i hbc
          have hbc:c = !b:=by cases b <;> cases c <;> first | rfl | cases hbc
          simp only [Option.some.injEq,Prod.mk.injEq] at h
          obtain ⟨_,rfl,_⟩:=h
          exact WOp.none fun a w r hi=>by
            have:=hi.yielded hj hd'
            subst hbc; simp [Region.wanted,hg,this]
      · split at h
        · rename_i hu
          simp only [Option.some.injEq,Prod.mk.injEq] at h
          obtain ⟨_,rfl,_⟩:=h
          exact WOp.none fun a w r hi=>by simp [Region.wanted,hg,hi.yieldedU hj hu]
        · cases h
    · cases h
/-- The operations that float, in their written order, each where only what goes before it is known. -/
def evD (P:Program) (ops:Array Oper) (st:St):Nat → List Oper → List (List Nat) → List (Nat × PV) → Hs → Option (List Prop × List (Nat × PV) × Hs)
  | _,[],_,D,hs=>some ([],D,hs)
  | i,o :: l,A :: n,D,hs=>match o.dst,A.all (fun j=>Nat.ble (j + 1) i),closedB (st.sig D fun j=>inB j A),evG P ops i (st.sig D fun j=>inB j A) hs o with
    | some d,true,true,some (c,pv,hs')=>match evD P ops st (i + 1) l n (D ++ [(d,pv)]) hs' with
      | some (c',D',hs'')=>some (c ++ c',D',hs'')
      | none=>none
    | _,_,_,_=>none
  | _,_ :: _,[],_,_=>none
theorem pick_prefix {f:Nat → Bool} {E:List (Nat × PV)}:∀ {D:List (Nat × PV)} {i:Nat},(∀ j,i + D.length ≤ j → f j = false) → pick f i (D ++ E) = pick f i D
  | [],i,h=>by
    have:∀ (E:List (Nat × PV)) i,(∀ j,i ≤ j → f j = false) → pick f i E = []:=by
      intro E
      induction E with
      | nil=>intro i _; rfl
      | cons x E ih=>intro i h; simp only [pick,h i (Nat.le_refl _)]; exact ih (i + 1) fun j hj=>h j (by omega)
    exact this E i fun j hj=>h j (by simpa using hj)
  | x :: D,i,h=>by
    simp only [List.cons_append,pick]
    rw [pick_prefix fun j hj=>h j (by simp only [List.length_cons]; omega)]
theorem evD_spec {ops : Array Oper} {st : St} : ∀ (l : List Oper) (i : Nat) (A : List (List Nat)) (D : List (Nat × PV)) (hs : Hs) {q : List Prop} {D' : List (Nat × PV)} {hs' : Hs}, D.length = i → evD P ops st i l A D hs = some (q, D', hs') → AllP q →
    ∃ E,D' = D ++ E ∧ E.length = l.length ∧ AllW P ops st D' l E A
  | [],i,A,D,hs,q,D',hs',hl,h,hq=>by
    simp only [evD,Option.some.injEq,Prod.mk.injEq] at h
    obtain ⟨_,rfl,_⟩:=h
    exact ⟨[],by simp,rfl,by cases A <;> exact trivial⟩
  | o :: l,i,[],D,hs,q,D',hs',hl,h,hq=>by simp [evD] at h
  | o :: l,i,B :: A,D,hs,q,D',hs',hl,h,hq=>by
    simp only [evD] at h
    split at h
    · rename_i d c pv hs1 hd hA hc hg
      split at h
      · rename_i c' D1 hs2 h2
        simp only [Option.some.injEq,Prod.mk.injEq] at h
        obtain ⟨rfl,rfl,_⟩:=h
        obtain ⟨q1,q2⟩:=AllP_append hq
        obtain ⟨E,h3,h4,h5⟩:=evD_spec l (i + 1) A (D ++ [(d,pv)]) hs1 (by simp [hl]) h2 q2
        refine ⟨(d,pv) :: E,by rw [h3]; simp,by simp [h4],?_⟩
        have hs:st.sig D1 (fun j=>inB j B) = st.sig D (fun j=>inB j B):=by
          have:pick (fun j=>inB j B) 0 (D ++ ((d,pv) :: E)) = pick (fun j=>inB j B) 0 D:=pick_prefix fun j hj=>by
            cases hb:inB j B with
            | false=>rfl
            | true =>
              have:=Nat.le_of_ble_eq_true (List.all_eq_true.1 hA j (inB_spec hb))
              omega
          simp only [St.sig,h3,List.append_assoc,List.singleton_append,this]
        refine ⟨⟨hd,by rw [hs]; exact hc⟩,by rw [hs]; exact evG_spec hg q1,h5⟩
      · cases h
    · cases h
/-- A whole region whose order is drawn: k operations float. -/
def evDR (P:Program) (l:List Oper) (k:Nat) (A:List (List Nat)) (st:St) (hs:Hs):Ez :=
  match evD P l.toArray st 0 (l.take k) A [] hs with
  | some (c,D,hs')=>match freshB st.tm st.n D,(D.all fun x=>!inB x.1 st.fx) && Nat.beq D.length k && Nat.ble k l.length && ancB l A && tailB l A k with
    | true,true=>match evN3 P l.toArray (l.length - k) k (l.drop k) { st with tm:=D ++ st.tm } hs' with
      | some (c',st',hs'')=>some (c ++ c',st',hs'')
      | none=>none
    | _,_=>none
  | none=>none
theorem AllW.left {ops:Array Oper} {st:St} {D:List (Nat × PV)}:∀ {l l':List Oper} {E:List (Nat × PV)} {A:List (List Nat)},AllW P ops st D l E A → E.length = l.length → AllW P ops st D (l ++ l') E A
  | [],l',[],A,_,_=>by cases l' <;> cases A <;> exact trivial
  | [],_,_ :: _,_,_,h=>by simp at h
  | o :: l,l',[],A,h,hl=>by simp at hl
  | o :: l,l',x :: E,[],h,hl=>h.elim
  | o :: l,l',x :: E,B :: A,h,hl=>⟨h.1,h.2.1,h.2.2.left (by simpa using hl)⟩
end
end Go.Proofs.YtoclajfeeebbbadGreatDoor.E
