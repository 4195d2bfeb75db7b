/- The engine, part T: whole lists of operations by computation. Plain lemmas; no program. -/
import Derived.Test.YtoclajfeeebbbadGreatDoorEng9
import Derived.Laws.StructEq
set_option linter.unusedVariables false
set_option linter.unusedSectionVars false
set_option linter.unusedSimpArgs false
namespace Go.Proofs.YtoclajfeeebbbadGreatDoor.E
open Go.RowKit
variable [LaidFacts]
section
variable {P:Program}
/-- The parts of a row, in their order. -/
def partsB:List (Nat × Operand) → Nat → Option (List Operand)
 | [],_=>some []
 | (i,x) :: l,k=>match Nat.beq i k with
  | true=>(partsB l (k + 1)).map (x :: ·)
  | false=>none
theorem partsB_spec:∀ {l:List (Nat × Operand)} {k:Nat} {xs:List Operand},partsB l k = some xs → l = (xs.zipIdx k).map fun x=>(x.2,x.1)
 | [],k,xs,h=>by simp only [partsB,Option.some.injEq] at h; subst h; rfl
 | (i,x) :: l,k,xs,h=>by
  simp only [partsB] at h
  split at h
  ·rename_i hb
   obtain ⟨ys,h1,rfl⟩:=Option.map_eq_some_iff.1 h
   rw [partsB_spec h1,Nat.eq_of_beq_eq_true hb]
   rfl
  ·cases h
def usesB (st:St):List Operand → Option (List PV)
 | []=>some []
 | x :: l=>match st.use x,usesB st l with
  | some pv,some ps=>some (pv :: ps)
  | _,_=>none
theorem usesB_spec {st:St}:∀ {l:List Operand} {ps:List PV},usesB st l = some ps → l.map st.use = ps.map some
 | [],ps,h=>by simp only [usesB,Option.some.injEq] at h; subst h; rfl
 | x :: l,ps,h=>by
  simp only [usesB] at h
  split at h
  ·rename_i pv qs h1 h2
   simp only [Option.some.injEq] at h
   subst h
   simp [h1,usesB_spec h2]
  ·cases h
/-! Two structs of plain parts, compared. -/
def eqC (d:Option TypeDesc) (c c':PC):Option Bool :=
  match d,c,c' with
  | some (.int _),.sc (.int k a),.sc (.int k' b)=>match sameK k k' with
    | true=>some (decide (a = b))
    | false=>none
  | some .string,.sc (.string a),.sc (.string b)=>some (decide (a = b))
  | some .bool,.sc (.bool a),.sc (.bool b)=>some (decide (a = b))
  | _,_,_=>none
def eqFs (P:Program):Nat → List Field → List PC → List PC → Option Bool
  | _,[],[],[]=>some true
  | i, f :: fs, c :: cs, d :: ds => match Nat.beq f.offset i, f.name != "_", eqC (P.underlying f.type) c d, eqFs P (i + 1) fs cs ds with
    | true,true,some b,some r=>some (b && r)
    | _,_,_,_=>none
  | _,_,_,_=>none
theorem eqC_run {t:TypeId} {c c':PC} {b:Bool} (h:eqC (P.underlying t) c c' = some b) (w:World):∃ u v,c = .sc u ∧ c' = .sc v ∧ (∀ (xs:Array Value) (off:Nat),xs[off]? = some u → (part t xs off).run P w = .ok u w) ∧ (∀ (xs:Array Value) (off:Nat),xs[off]? = some v → (part t xs off).run P w = .ok v w) ∧ ∀ d,(Op.equalIn (d + 1) t u v).run P w = .ok b w:=by
  unfold eqC at h
  split at h
  · rename_i hu
    split at h
    · rename_i hk
      obtain rfl:=sameK_eq hk
      obtain rfl:=Option.some.inj h
      exact ⟨_,_,rfl,rfl,fun xs off hx=>by simp [part,isAgg,run_underlying hu,hx],fun xs off hx=>by simp [part,isAgg,run_underlying hu,hx],fun d=>by rw [run_equalIn_int w d t _ _ _ _ hu,decide_beq]⟩
    · cases h
  · rename_i hu
    obtain rfl:=Option.some.inj h
    exact ⟨_,_,rfl,rfl,fun xs off hx=>by simp [part,isAgg,run_underlying hu,hx],fun xs off hx=>by simp [part,isAgg,run_underlying hu,hx],fun d=>by rw [run_equalIn_string w d t _ _ hu,toList_beq]⟩
  · rename_i hu
    obtain rfl:=Option.some.inj h
    exact ⟨_,_,rfl,rfl,fun xs off hx=>by simp [part,isAgg,run_underlying hu,hx],fun xs off hx=>by simp [part,isAgg,run_underlying hu,hx],fun d=>by rw [run_equalIn_bool' w d t _ _ hu,decide_beq]⟩
  · cases h
theorem eqFs_run (w:World) (D:Nat) (xs ys:Array Value):∀ (fs:List Field) (i:Nat) (cs ds:List PC) (r:Bool),eqFs P i fs cs ds = some r → (∀ j u,cs[j]? = some (.sc u) → xs[i + j]? = some u) → (∀ j u,ds[j]? = some (.sc u) → ys[i + j]? = some u) → (Op.eqFields (D + 1) xs ys fs).run P w = .ok r w
  | [],i,cs,ds,r,h,_,_=>by
    cases cs <;> cases ds <;> simp only [eqFs] at h <;> first | (cases h; done) | (obtain rfl:=Option.some.inj h; simp [Op.eqFields])
  | f :: fs,i,cs,ds,r,h,hx,hy=>by
    cases cs with
    | nil=>simp [eqFs] at h
    | cons c cs =>
      cases ds with
      | nil=>simp [eqFs] at h
      | cons d ds =>
        simp only [eqFs] at h
        split at h
        · rename_i b r' h1 h2 h3 h4
          obtain rfl:=Option.some.inj h
          have ho:=Nat.eq_of_beq_eq_true h1
          obtain ⟨u,v,rfl,rfl,k1,k2,k3⟩:=eqC_run h3 w
          have ih:=eqFs_run w D xs ys fs (i + 1) cs ds r' h4 (fun j u hj=>by have:=hx (j + 1) u (by simpa using hj); rwa [show i + (j + 1) = i + 1 + j by omega] at this) (fun j u hj=>by have:=hy (j + 1) u (by simpa using hj); rwa [show i + (j + 1) = i + 1 + j by omega] at this)
          have hn : f.name ≠ "_" := by simpa using h2
          simp only [Op.eqFields,if_pos hn,Sem.run_bind,ho]
          rw [k1 xs i (hx 0 u rfl),Result.andThen_ok,k2 ys i (hy 0 v rfl),Result.andThen_ok,k3 D,Result.andThen_ok]
          cases b
          · simp
          · simpa using ih
        · cases h
def eqAgg (P:Program) (op:BinOp) (t:TypeId) (cs ds:List PC):Option Bool :=
  match P.underlying t,P.stoodInHeld t,P.eqGuardType P.depth t with
  | some (.struct fs),false,false=>match op,eqFs P 0 fs.toList cs ds with
    | .eql,some b=>some b
    | .neq,some b=>some (!b)
    | _,_=>none
  | _,_,_=>none
theorem Reads.eqA {st:St} {o:Oper} {op:BinOp} {t t':TypeId} {x y:Operand} {cs ds:List PC} {b:Bool} (ho:o.op = .binOp op t x y t') (hx:st.use x = some ⟨.agg,cs⟩) (hy:st.use y = some ⟨.agg,ds⟩) (hv:eqAgg P op t cs ds = some b):Reads P o st ⟨.one,[.sc (.bool b)]⟩:=fun a w r hi=>by
  obtain ⟨⟨us,hu,hun,_⟩,h1⟩:=hi.use hx
  obtain ⟨⟨vs,hvv,hvn,_⟩,h2⟩:=hi.use hy
  have key:∀ (u:Value) (zs:Array Value) (es:List PC),u = .agg zs → (∀ c x,es[c]? = some x → RepC P w r st (alpha a w r) x ((flat u).getD c undef) none ∧ ∀ q,x.names = some q → st.ex q) → ∀ j z,es[j]? = some (.sc z) → j < zs.size → zs[0 + j]? = some z:=by
    intro u zs es hu hh j z hj hlt
    have h3:=(hh j _ hj).1
    have e:(flat u).getD j undef = zs[j]:=by
      rw [hu]
      simp [flat,List.getD_eq_getElem?_getD,hlt]
    rw [e] at h3
    have h4:zs[j] = z:=by
      obtain ⟨_,h3⟩:=h3
      cases h3 with
      | s h=>cases h; rfl
    rw [Nat.zero_add,Array.getElem?_eq_getElem hlt,h4]
  refine ⟨.bool b,?_,Has.sc rfl⟩
  unfold eqAgg at hv
  split at hv
  · rename_i fs hS hp hg
    have hF:P.fieldsOf t = fs:=by unfold Program.fieldsOf; rw [hS]
    have run:∀ r,eqFs P 0 fs.toList cs ds = some r → (Op.equalIn 10000 t (.agg us) (.agg vs)).run P w = .ok r w:=fun r hr=>by
      rw [show (10000:Nat) = 9999 + 1 from rfl,run_equalIn_agg w 9999 t _ _ (by rw [hF]; exact hS) hp,hF]
      refine eqFs_run w 9998 us vs fs.toList 0 cs ds r hr (fun j u hj=>?_) (fun j u hj=>?_)
      · refine key _ us cs hu h1 j u hj ?_
        rw [hun]; exact (List.getElem?_eq_some_iff.1 hj).1
      · refine key _ vs ds hvv h2 j u hj ?_
        rw [hvn]; exact (List.getElem?_eq_some_iff.1 hj).1
    have guard:=run_eqGuard_agg (P:=P) w op t x y us vs hg
    simp only [execOp,ho,hu,hvv]
    rw [Sem.run_bind]
    split at hv
    · rename_i b' hb
      obtain rfl:=Option.some.inj hv
      rw [Sem.run_bind,guard,Result.andThen_ok,run_eql_struct,run _ hb]
      rfl
    · rename_i b' hb
      obtain rfl:=Option.some.inj hv
      rw [Sem.run_bind,guard,Result.andThen_ok,run_neq_struct,run _ hb]
      rfl
    · cases hv
  · cases hv
/-- More readers. -/
def evRd2 (P:Program) (st:St) (o:Oper):Option (List Prop × PV) :=
 match o.op with
 | .extract x i=>match st.use x with
  | some ⟨.tup sh,cs⟩=>match partT sh i with
   | some (s,k)=>match Nat.ble (k + sizeT s) cs.length with
    | true=>some ([],⟨formT s,(cs.drop k).take (sizeT s)⟩)
    | false=>none
   | none=>none
  | _=>none
 | .slice t x lo hi none=>match P.underlying t,one? (st.use x) with
  | some .string,some (.sc (.string b))=>match boundOf st 0 lo,boundOf st b.size hi with
   | some (l,_),some (h,_)=>some ([0 ≤ l,l ≤ h,h ≤ (b.size:Int)],⟨.one,[.sc (.string (b.extract l.toNat h.toNat))]⟩)
   | _,_=>none
  | some (.slice e),some c=>match P.size? e,St.row P st 4 c with
   | some s,some (s',xs)=>match Nat.beq s s',boundOf st 0 lo,boundOf st xs.length hi with
    | true,some (l,_),some (h,_)=>match cutPC c s xs l h with
     | some d=>some ([0 ≤ l,l ≤ h,h ≤ (xs.length:Int)],⟨.one,[d]⟩)
     | none=>none
    | _,_,_=>none
   | _,_=>none
  | _,_=>none
 | .build t parts=>match P.underlying t with
  | some (.struct fields)=>match P.zero? t,placesP P fields.toList,usesP st parts.toList with
   | some z,some pl,some ps=>match z.all (·.oneCell'),fillPC pl (z.map zeroPC) ps with
    | true,some cs=>some ([],⟨.agg,cs⟩)
    | _,_=>none
   | _,_,_=>none
  | _=>none
 | .binOp op t x y _=>match one? (st.use x),one? (st.use y) with
  | some c,some d=>match evB2 P op t c d with
   | some (q,v)=>some (q,⟨.one,[.sc v]⟩)
   | none=>none
  | _,_=>match st.use x,st.use y with
   | some ⟨.agg,cs⟩,some ⟨.agg,ds⟩=>match eqAgg P op t cs ds with
    | some b=>some ([],⟨.one,[.sc (.bool b)]⟩)
    | none=>none
   | _,_=>none
 | .nilCheck x=>match one? (st.use x) with
  | some c=>match isPt c with
   | true=>some ([],⟨.one,[c]⟩)
   | false=>none
  | none=>none
 | _=>none
theorem AllP_mem:∀ {l:List Prop},AllP l → ∀ p ∈ l,p
 | [],_,p,hp=>by cases hp
 | c :: l,h,p,hp=>by
  rcases List.mem_cons.1 hp with rfl | hp
  ·exact h.1
  ·exact AllP_mem h.2 p hp
theorem evRd2_spec {st:St} {o:Oper} {q:List Prop} {pv:PV} (h:evRd2 P st o = some (q,pv)) (hq:AllP q):Reads P o st pv:=by
 unfold evRd2 at h
 split at h
 ·rename_i x i ho
  split at h
  ·rename_i sh cs hx
   split at h
   ·rename_i s k hp
    split at h
    ·rename_i hle
     simp only [Option.some.injEq,Prod.mk.injEq] at h
     obtain ⟨_,rfl⟩:=h
     exact Reads.extract ho hx hp (Nat.le_of_ble_eq_true hle)
    ·cases h
   ·cases h
  ·cases h
 ·rename_i t x lo hi ho
  split at h
  ·rename_i b h1 h2
   split at h
   ·rename_i l f h' g h3 h4
    simp only [Option.some.injEq,Prod.mk.injEq] at h
    obtain ⟨rfl,rfl⟩:=h
    exact Reads.cutStr ho h1 (one?_eq h2) h3 h4 hq.1 hq.2.1 hq.2.2.1
   ·cases h
  ·rename_i e c h1 h2
   split at h
   ·rename_i s s' xs h3 h4
    split at h
    ·rename_i l f h' g h5 h6 h7
     split at h
     ·rename_i d h8
      simp only [Option.some.injEq,Prod.mk.injEq] at h
      obtain ⟨rfl,rfl⟩:=h
      have:=Nat.eq_of_beq_eq_true h5
      subst this
      exact Reads.cutRow ho h1 h3 (one?_eq h2) h4 h6 h7 hq.1 hq.2.1 hq.2.2.1 h8
     ·cases h
    ·cases h
   ·cases h
  ·cases h
 ·rename_i t parts ho
  split at h
  ·rename_i fields ht
   split at h
   ·rename_i z pl ps h1 h2 h3
    split at h
    ·rename_i cs h4 h5
     simp only [Option.some.injEq,Prod.mk.injEq] at h
     obtain ⟨_,rfl⟩:=h
     exact Reads.build ho ht h1 h4 h2 h3 h5
    ·cases h
   ·cases h
  ·cases h
 ·rename_i op t x y t' ho
  split at h
  ·rename_i c d h1 h2
   split at h
   ·rename_i q' v h3
    simp only [Option.some.injEq,Prod.mk.injEq] at h
    obtain ⟨rfl,rfl⟩:=h
    exact Reads.binOp2 ho (one?_eq h1) (one?_eq h2) h3 (AllP_mem hq)
   ·cases h
  ·split at h
   ·rename_i h1 h2
    split at h
    ·rename_i b h3
     simp only [Option.some.injEq,Prod.mk.injEq] at h
     obtain ⟨_,rfl⟩:=h
     exact Reads.eqA ho h1 h2 h3
    ·cases h
   ·cases h
 ·rename_i x ho
  split at h
  ·rename_i c h1
   split at h
   ·rename_i hc
    simp only [Option.some.injEq,Prod.mk.injEq] at h
    obtain ⟨_,rfl⟩:=h
    exact Reads.nilCk ho hc (one?_eq h1)
   ·cases h
  ·cases h
 ·cases h
/-- One operation: what must hold, the state behind it. -/
def evOp2 (P:Program) (st:St) (hs:List (List PC)) (o:Oper):Option (List Prop × St × List (List PC)) :=
 match o.op with
 | .assign _=>match evOp P st hs o,o.dst with
  | some (c,st',hs'),some d=>match st'.get d with
   | some pv=>some (c,giveAll d pv.cs.length 0 st',hs')
   | none=>none
  | _,_=>none
 | .buildSlice t n parts=>match o.dst,P.underlying t with
  | some d,some (.slice e)=>match P.elem? e,partsB parts.toList 0 with
   | some (s + 1,_),some xs=>match usesB st xs with
    | some ps=>match st.okB d,Nat.beq n xs.length,Nat.ble (n * (s + 1)) (2 ^ 24),ps.all (fun pv=>notTup pv.sh && Nat.beq pv.cs.length (s + 1) && pv.cs.all PC.plain2) with
     | true,true,true,true=>some ([],st.assign d ⟨.one,[.own e (ps.map (·.cs))]⟩,hs)
     | _,_,_,_=>none
    | none=>none
   | _,_=>none
  | _,_=>none
 | .makeSlice t x y=>match o.dst,P.underlying t with
  | some d,some (.slice e)=>match P.elem? e,P.zero? e,one? (st.use x),one? (st.use y) with
   | some (s + 1,by'),some z,some (.sc (.int _ n)),some (.sc (.int _ n'))=>match st.okB d,z.all (·.oneCell') with
    | true,true=>some ([n' = n,0 ≤ n,n ≤ 9223372036854775807,n * by' ≤ 140737488355328],st.assign d ⟨.one,[.own e (List.replicate n.toNat (z.map zeroPC))]⟩,hs)
    | _,_=>none
   | _,_,_,_=>none
  | _,_=>none
 | .store t x y=>match one? (st.use x),hs with
  | some (.el p i off s),el :: hs'=>match st.at p,st.use y,P.size? t,o.dst with
   | some (.own e xs),some pv,some n,none=>match Nat.beq (P.cellsOf e) s,s,notTup pv.sh,Nat.beq pv.cs.length n,Nat.ble (off + n) s,pv.cs.all PC.plain with
    | true,_ + 1,true,true,true,true=>some ([xs[i]? = some el],st.setAt p (.own e (xs.set i (put3 el off pv.cs))),hs')
    | _,_,_,_,_,_=>none
   | _,_,_,_=>none
  | _,_=>evOp P st hs o
 | _=>match evRd2 P st o,o.dst with
  | some (c,pv),some d=>match st.okB d,noNameB d pv with
   | true,true=>some (c,st.assign d pv,hs)
   | _,_=>none
  | _,_=>evOp P st hs o
theorem evOp2_spec {st st':St} {hs hs':List (List PC)} {o:Oper} {q:List Prop} (h:evOp2 P st hs o = some (q,st',hs')) (hq:AllP q):OpOK P o st st':=by
 unfold evOp2 at h
 split at h
 ·split at h
  ·rename_i c st1 hs1 d h1 hd
   split at h
   ·simp only [Option.some.injEq,Prod.mk.injEq] at h
    obtain ⟨rfl,rfl,_⟩:=h
    exact (evOp_spec h1 hq).turn (Turns.giveAll d _ _ _)
   ·cases h
  ·cases h
 ·rename_i t n parts ho
  split at h
  ·rename_i d e hd ht
   split at h
   ·rename_i s by' xs h1 h2
    split at h
    ·rename_i ps h3
     split at h
     ·rename_i h4 h5 h6 h7
      simp only [Option.some.injEq,Prod.mk.injEq] at h
      obtain ⟨_,rfl,_⟩:=h
      exact OpOK.rowOf ho hd (St.okB_spec h4) ht h1 (by omega) (partsB_spec h2) (Nat.eq_of_beq_eq_true h5) (Nat.le_of_ble_eq_true h6) (usesB_spec h3) h7
     ·cases h
    ·cases h
   ·cases h
  ·cases h
 ·rename_i t x y ho
  split at h
  ·rename_i d e hd ht
   split at h
   ·rename_i s by' z k n k' n' h1 h2 h3 h4
    split at h
    ·rename_i h5 h6
     simp only [Option.some.injEq,Prod.mk.injEq] at h
     obtain ⟨rfl,rfl,_⟩:=h
     obtain ⟨q1,q2,q3,q4,_⟩:=hq
     subst q1
     exact OpOK.make ho hd (St.okB_spec h5) ht h1 (by omega) h2 h6 (one?_eq h3) (one?_eq h4) q2 q3 q4
    ·cases h
   ·cases h
  ·cases h
 ·rename_i t x y ho
  split at h
  ·rename_i p i off s el hs1 hx
   split at h
   ·rename_i e xs pv n hp hy hs2 hd
    split at h
    ·rename_i s' h1 h3 h4 h5 h6
     simp only [Option.some.injEq,Prod.mk.injEq] at h
     obtain ⟨rfl,rfl,_⟩:=h
     exact OpOK.storeEl ho hd hs2 (one?_eq hx) hp (Nat.eq_of_beq_eq_true h5) (by omega) hy h1 (Nat.eq_of_beq_eq_true h3) (Nat.le_of_ble_eq_true h6) h4 hq.1
    ·cases h
   ·cases h
  ·exact evOp_spec h hq
 ·split at h
  ·rename_i c pv d h1 hd
   split at h
   ·rename_i h2 h3
    simp only [Option.some.injEq,Prod.mk.injEq] at h
    obtain ⟨rfl,rfl,_⟩:=h
    exact (evRd2_spec h1 hq).ok hd (St.okB_spec h2) h3
   ·cases h
  ·exact evOp_spec h hq
theorem AllP_append:∀ {l m:List Prop},AllP (l ++ m) → AllP l ∧ AllP m
 | [],_,h=>⟨trivial,h⟩
 | _ :: _,_,h=>⟨⟨h.1,(AllP_append h.2).1⟩,(AllP_append h.2).2⟩
def eqB:Bool → Bool → Bool
 | true,true | false,false=>true
 | _,_=>false
end
end Go.Proofs.YtoclajfeeebbbadGreatDoor.E
/- The engine, part U: operations that make one new value and touch nothing else; regions whose order is drawn. Plain lemmas; no program. -/
set_option linter.unusedVariables false
set_option linter.unusedSectionVars false
set_option linter.unusedSimpArgs false
namespace Go.Proofs.YtoclajfeeebbbadGreatDoor.E
open Go.RowKit
variable [LaidFacts]
/-- What an operation newly made: the memory that stood, stands. -/
structure News (P:Program) (st:St) (a:Act) (w:World) (r:Rs) (pv:PV) (v:Value) (w':World) (Sn:Nat → Prop) (γd:Nat → Option Nat):Prop where
 os:w'.os = w.os
 tape:w'.tape = w.tape
 output:w'.output = w.output
 size:w.heap.size ≤ w'.heap.size
 block:∀ g,g < w.heap.size → w'.heap[g]? = w.heap[g]?
 sh:∀ g,r.Sh g → Sn g
 shNew:∀ g,Sn g → r.Sh g ∨ (w.heap.size ≤ g ∧ g < w'.heap.size)
 fit:pv.sh.fits pv.cs.length v
 cell:∀ c x,pv.cs[c]? = some x → RepC P w' { r with Sh:=Sn } st (alpha a w r) x ((flat v).getD c undef) (γd c)
 nm:∀ (c:Nat) (x:PC) (q:Place),pv.cs[c]? = some x → x.names = some q → st.ex q
 own:∀ c g,γd c = some g → (∃ e xs,pv.cs[c]? = some (.own e xs)) ∧ w.heap.size ≤ g ∧ ¬ Sn g
 inj:∀ c c' g,γd c = some g → γd c' = some g → c = c'
/-- An operation that makes one new value. -/
def DOp (P:Program) (o:Oper) (st:St) (pv:PV):Prop :=
 ∀ a w r,Inv P st a w r → ∀ (K:Act → World → Prop) (Q:Exit → Act → World → Prop),
  (∀ v w' Sn γd,News P st a w r pv v w' Sn γd → K (a.put o.dst v) w') → o.wp P a w K Q
section
variable {P:Program} {st:St} {a:Act} {w:World} {r:Rs} {o:Oper}
/-- More is shared, the memory goes on. -/
theorem Inv.more (hi:Inv P st a w r) {w':World} {Sn:Nat → Prop} (hs:w.heap.size ≤ w'.heap.size) (hw:∀ g,g < w.heap.size → w'.heap[g]? = w.heap[g]?) (h1:∀ g,r.Sh g → Sn g) (h2:∀ g,Sn g → r.Sh g ∨ (w.heap.size ≤ g ∧ g < w'.heap.size)):Inv P st a w' { r with Sh:=Sn }:=by
 have h0:=hi.world (w':=w') (fun g hg=>hw g (by rcases hg with h | h; exact (hi.sh g h).1; exact hi.X_lt h)) hs (bty_old hw)
 refine ⟨h0.sz,h0.m,h0.tm,h0.bx,fun p x hx=>?_,h0.nm,h0.live,h0.inj,h0.exb,h0.bb,fun g hg=>?_,h0.defers,LaidFacts.mono h1 (fun _ _=>rfl) h0.lw,h0.fx⟩
 ·have ha:alpha a w' { r with Sh:=Sn } = alpha a w' r:=by funext p; cases p <;> rfl
  rw [ha]
  exact (h0.cell p x hx).mono (fun g h=>h1 g h) (fun _ _=>rfl) (fun _ _=>rfl) (fun b hb=>⟨hb,rfl⟩) (fun q _ hq=>⟨hq,rfl⟩)
 ·rcases h2 g hg with h | ⟨h,h'⟩
  ·exact h0.sh g h
  ·refine ⟨h',fun p hp=>?_,fun b hb he=>?_⟩
   ·have:=hi.X_lt (.inl ⟨p,hp⟩); omega
   ·have:=hi.X_lt (.inr ⟨b,hb,he⟩); omega
theorem Inv.news (hi:Inv P st a w r) {d:Nat} {pv:PV} {v:Value} {w':World} {Sn:Nat → Prop} {γd:Nat → Option Nat} (hd:st.okd d) (hno:st.get d = none) (h:News P st a w r pv v w' Sn γd) :
  ∃ r'',Inv P (st.put d pv) (a.put (some d) v) w' r'' ∧ Step st.m w r st.bx.length w' r'' st.bx.length:=by
 have h1:=hi.more h.size h.block h.sh h.shNew
 have hal:∀ q,st.lives q → alpha a w' { r with Sh:=Sn } q = alpha a w r q:=by
  intro q ⟨y,hy,_⟩
  cases q with
  | t t c=>rfl
  | b b c=>exact alpha_box_eq rfl (h.block _ (hi.X_lt (.inr ⟨b,(St.at_box hy).1,rfl⟩)))
 have h2:=h1.put (t:=d) (v:=v) (pv:=pv) (γc:=γd) hd hno (hi.noNames hno) h.fit (fun c x hx=>⟨fun q hq=>?_,?_⟩) h.nm (fun c g hg=>?_) h.inj
 ·refine ⟨_,h2,h.os,h.tape,h.output,h.size,fun g hg _=>h.block g hg,h.sh,fun g hg=>(h.shNew g hg).elim .inl fun h=>.inr (.inr h.1),fun g hg=>?_,fun _ _=>rfl,rfl,bty_old h.block⟩
  rcases hg with ⟨p,hp⟩ | hb
  ·cases p with
   | t k c =>
    simp only [Rs.setT] at hp
    split at hp
    ·exact .inr (h.own c g hp).2.1
    ·exact .inl (.inl ⟨_,hp⟩)
   | b b c=>exact .inl (.inl ⟨_,hp⟩)
  ·exact .inl (.inr hb)
 ·have:=h.nm c x q hx hq
  cases q with
  | t k e =>
   obtain ⟨pv',this⟩:=this
   have:k ≠ d:=fun e=>by subst e; rw [hno] at this; cases this
   simp [Place.isT,this]
  | b b c=>rfl
 ·exact (h.cell c x hx).mono (fun _ h=>h) (fun _ _=>rfl) (fun _ _=>rfl) (fun b hb=>⟨hb,rfl⟩) (fun q _ hq=>⟨hq,hal q hq⟩)
 ·obtain ⟨k1,k2,k3⟩:=h.own c g hg
  refine ⟨k1,k3,fun hX=>?_⟩
  have:r.X st.bx.length g:=hX
  have:=hi.X_lt this
  omega
/-- One state is part of another. -/
structure Sub (s st:St):Prop where
 n:s.n = st.n
 bx:s.bx = st.bx
 m:s.m = st.m
 fx:s.fx = st.fx
 get:∀ t pv,s.get t = some pv → st.get t = some pv
 nm:∀ p x q,s.at p = some x → x.names = some q → s.ex q
def Rs.sub (r:Rs) (s:St):Rs:={ r with γ:=fun p=>match p with
 | .t t c=>if (s.get t).isSome then r.γ (.t t c) else none
 | p=>r.γ p }
theorem Sub.at {s st:St} (h:Sub s st) {p:Place} {x:PC} (hx:s.at p = some x):st.at p = some x:=by
 cases p with
 | t t c =>
  obtain ⟨pv,h1,h2⟩:=St.at_tmp hx
  simp [St.at,h.get t pv h1,h2]
 | b b c=>simp only [St.at,h.bx] at hx ⊢; exact hx
theorem Sub.lives {s st:St} (h:Sub s st) {p:Place} (hp:s.lives p):st.lives p:=by
 obtain ⟨y,h1,h2⟩:=hp
 exact ⟨y,h.at h1,h2⟩
theorem Sub.back {s st:St} (h:Sub s st) {p:Place} (hp:s.ex p):s.at p = st.at p:=by
 cases p with
 | t t c =>
  obtain ⟨pv,hp⟩:=hp
  simp [St.at,hp,h.get t pv hp]
 | b b c=>simp only [St.at,h.bx]
theorem Sub.livesBack {s st:St} (h:Sub s st) {p:Place} (he:s.ex p) (hp:st.lives p):s.lives p:=by
 obtain ⟨y,h1,h2⟩:=hp
 exact ⟨y,by rw [h.back he]; exact h1,h2⟩
theorem Rs.sub_some {s:St} {p:Place} {g:Nat} (h:(r.sub s).γ p = some g):r.γ p = some g:=by
 cases p with
 | t t c =>
  simp only [Rs.sub] at h
  split at h
  ·exact h
  ·cases h
 | b b c=>exact h
theorem Rs.sub_at {s:St} {p:Place} {x:PC} (h:s.at p = some x):(r.sub s).γ p = r.γ p:=by
 cases p with
 | t t c =>
  obtain ⟨pv,h1,_⟩:=St.at_tmp h
  simp [Rs.sub,h1]
 | b b c=>rfl
theorem Inv.sub (hi:Inv P st a w r) {s:St} (h:Sub s st):Inv P s a w (r.sub s):=by
 refine ⟨by rw [h.n]; exact hi.sz,by rw [h.m,h.bx]; exact hi.m,fun t pv ht=>hi.tm t pv (h.get t pv ht),fun b cs hb=>hi.bx b cs (by rw [← h.bx]; exact hb),fun p x hx=>?_,h.nm,fun p g hg=>?_,fun p q g hp hq=>hi.inj p q g (Rs.sub_some hp) (Rs.sub_some hq),fun p g b hp hb=>hi.exb p g b (Rs.sub_some hp) (by rw [← h.bx]; exact hb),by rw [h.bx]; exact hi.bb,fun g hg=>?_,hi.defers,hi.lw,by rw [h.fx]; exact hi.fx⟩
 ·rw [Rs.sub_at hx]
  have ha:alpha a w (r.sub s) = alpha a w r:=by funext q; cases q <;> rfl
  rw [ha]
  exact (hi.cell p x (h.at hx)).mono (fun _ h=>h) (fun _ _=>rfl) (fun _ _=>rfl) (fun b hb=>⟨by rw [h.bx]; exact hb,rfl⟩) (fun q _ hq=>⟨h.lives hq,rfl⟩)
 ·obtain ⟨e,xs,hx⟩:=hi.live p g (Rs.sub_some hg)
  refine ⟨e,xs,?_⟩
  cases p with
  | t t c =>
   simp only [Rs.sub] at hg
   split at hg
   ·rename_i hs
    obtain ⟨pv,hs⟩:=Option.isSome_iff_exists.1 hs
    rw [h.back (p:=.t t c) ⟨pv,hs⟩]; exact hx
   ·cases hg
  | b b c=>simp only [St.at,h.bx] at hx ⊢; exact hx
 ·obtain ⟨h1,h2,h3⟩:=hi.sh g hg
  exact ⟨h1,fun p hp=>h2 p (Rs.sub_some hp),by rw [h.bx]; exact h3⟩
theorem News.up {s:St} {pv:PV} {v:Value} {w':World} {Sn:Nat → Prop} {γd:Nat → Option Nat} (h:Sub s st) (k:News P s a w (r.sub s) pv v w' Sn γd):News P st a w r pv v w' Sn γd:=by
 refine ⟨k.os,k.tape,k.output,k.size,k.block,k.sh,k.shNew,k.fit,fun c x hx=>?_,fun c x q hx hq=>?_,k.own,k.inj⟩
 ·have ha:alpha a w (r.sub s) = alpha a w r:=by funext q; cases q <;> rfl
  have:=k.cell c x hx
  rw [ha] at this
  exact this.mono (fun _ h=>h) (fun _ _=>rfl) (fun _ _=>rfl) (fun b hb=>⟨by rw [← h.bx]; exact hb,rfl⟩) (fun q hq hl=>⟨h.livesBack (k.nm c x q hx hq) hl,rfl⟩)
 ·have:=k.nm c x q hx hq
  cases q with
  | t t c=>obtain ⟨pv,this⟩:=this; exact ⟨pv,h.get t pv this⟩
  | b b c=>simp only [St.ex,h.bx] at this ⊢; exact this
/-! What makes one new value. -/
theorem Reads.dop {pv:PV} (h:Reads P o st pv):DOp P o st pv:=by
 intro a w r hi K Q hK
 obtain ⟨v,hrun,hv⟩:=h a w r hi
 unfold Oper.wp
 rw [hrun,Oper.upon_value]
 refine hK v w r.Sh (fun _=>none) ⟨rfl,rfl,rfl,Nat.le_refl _,fun _ _=>rfl,fun _ h=>h,fun _ h=>.inl h,hv.1,fun c x hx=>(hv.2 c x hx).1,fun c x q hx hq=>(hv.2 c x hx).2 q hq,(fun _ _ h=>by cases h),(fun _ _ _ h=>by cases h)⟩
/-- What a callee leaves. -/
theorem News.called (hi:Inv P st a w r) {res:PV} {v:Value} {w':World} {rc r':Rs} (hs:Step 0 w rc 0 w' r' 0) (hc:Inv P ⟨1,[(0,res)],[],0,[]⟩ ⟨#[v],[]⟩ w' r') (hcγ:∀ p,rc.γ p = none) {Sn:Nat → Prop}
  (hfree:res.cs.all (·.free 0) = true) (hSn1:∀ g,r.Sh g → Sn g) (hSn2:∀ g,Sn g → r.Sh g ∨ (w.heap.size ≤ g ∧ r'.Sh g))
  (hcell:∀ (x:PC) (u:Value) (g:Option Nat),x ∈ res.cs → RepC P w' r' ⟨1,[(0,res)],[],0,[]⟩ (alpha ⟨#[v],[]⟩ w' r') x u g → RepC P w' { r with Sh:=Sn } st (alpha a w r) x u g) :
  News P st a w r res v w' Sn (fun c=>if c < res.cs.length then r'.γ (.t 0 c) else none):=by
 have hXc:∀ g,¬ rc.X 0 g:=fun g hg=>by
  rcases hg with ⟨p,hp⟩ | ⟨b,hb,_⟩
  ·rw [hcγ] at hp; cases hp
  ·omega
 have hw:∀ g,g < w.heap.size → w'.heap[g]? = w.heap[g]?:=fun g hg=>hs.block g hg (hXc g)
 have hnew:∀ c g,r'.γ (.t 0 c) = some g → w.heap.size ≤ g:=fun c g hg=>by
  rcases hs.x g (.inl ⟨_,hg⟩) with h | h
  ·exact absurd h (hXc g)
  ·exact h
 obtain ⟨v',hv',hfit⟩:=hc.tm 0 res rfl
 have:v' = v:=by simpa using hv'.symm
 subst this
 refine ⟨hs.os,hs.tape,hs.output,hs.size,hw,hSn1,fun g hg=>(hSn2 g hg).elim .inl fun h=>.inr ⟨h.1,(hc.sh g h.2).1⟩,hfit,fun c x hx=>?_,fun c x q hx hq=>?_,fun c g hg=>?_,fun c c' g hg hg'=>?_⟩
 ·have hxm:=List.mem_of_getElem? hx
  have hlt:c < res.cs.length:=(List.getElem?_eq_some_iff.1 hx).1
  simp only [hlt,if_true]
  have h3:=hc.cell (.t 0 c) x (by simp [St.at,St.get,look,hx])
  have ha:alpha ⟨#[v'],[]⟩ w' r' (.t 0 c) = (flat v').getD c undef:=rfl
  rw [ha] at h3
  exact hcell x _ _ hxm h3
 ·rw [free_names (List.all_eq_true.1 hfree x (List.mem_of_getElem? hx))] at hq; cases hq
 ·split at hg
  ·rename_i hlt
   have hge:=hnew c g hg
   obtain ⟨e,xs,hx⟩:=hc.live _ g hg
   simp only [St.at,St.get,look,if_true,Option.bind_some] at hx
   refine ⟨⟨e,xs,hx⟩,hge,fun hsn=>?_⟩
   rcases hSn2 g hsn with h | ⟨_,h⟩
   ·have:=(hi.sh g h).1; omega
   ·exact (hc.sh g h).2.1 _ hg
  ·cases hg
 ·split at hg <;> split at hg' <;> try (first | (cases hg; done) | (cases hg'; done))
  have:=hc.inj _ _ g hg hg'
  cases this; rfl
/-- A new row of its own. -/
theorem News.row (hi:Inv P st a w r) {w':World} {e:TypeId} {xs:List (List PC)} {v:Value} (hown:RepOwn P w' r.Sh e xs v v.ownBlock) (ho:w'.os = w.os) (ht:w'.tape = w.tape) (hp:w'.output = w.output)
  (hw:∀ g,g < w.heap.size → w'.heap[g]? = w.heap[g]?) (hs:w.heap.size ≤ w'.heap.size) (hnew:∀ g,v.ownBlock = some g → w.heap.size ≤ g) :
  News P st a w r ⟨.one,[.own e xs]⟩ v w' r.Sh (fun c=>if c = 0 then v.ownBlock else none):=by
 have h1:v.oneCell' = true:=by
  obtain ⟨vals,ho,_⟩:=hown
  rcases ho.2 with ⟨rfl,_⟩ | ⟨_,_,_,_,rfl,_⟩ <;> rfl
 refine ⟨ho,ht,hp,hs,hw,fun _ h=>h,fun _ h=>.inl h,⟨rfl,h1⟩,fun c x hx=>?_,fun c x q hx hn=>?_,fun c g hg=>?_,fun c c' g hg hg'=>?_⟩
 ·cases c with
  | zero =>
   simp only [List.getElem?_cons_zero,Option.some.injEq] at hx
   subst hx
   rw [flat_one h1]
   exact hown
  | succ c=>simp at hx
 ·cases c with
  | zero =>
   simp only [List.getElem?_cons_zero,Option.some.injEq] at hx
   subst hx
   simp [PC.names] at hn
  | succ c=>simp at hx
 ·split at hg
  ·rename_i hc
   subst hc
   exact ⟨⟨e,xs,rfl⟩,hnew g hg,fun hsn=>by have:=(hi.sh g hsn).1; have:=hnew g hg; omega⟩
  ·cases hg
 ·split at hg <;> split at hg' <;> first | (cases hg; done) | (cases hg'; done) | omega
end
end Go.Proofs.YtoclajfeeebbbadGreatDoor.E
