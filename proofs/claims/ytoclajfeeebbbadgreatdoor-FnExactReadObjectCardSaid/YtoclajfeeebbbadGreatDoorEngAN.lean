/- The engine, part AN: a function that gives a row away within what it returns; regions whose order is drawn, one way after the other. Plain lemmas; no program. -/
import Derived.Test.YtoclajfeeebbbadGreatDoorEng20
set_option linter.unusedVariables false
set_option linter.unusedSectionVars false
set_option linter.unusedSimpArgs false
namespace Go.Proofs.YtoclajfeeebbbadGreatDoor.E
open Go.RowKit
variable [LaidFacts]
section
variable {P:Program} {st:St} {a:Act} {w:World} {r:Rs} {ρ:List Rw} {Q:Exit → St → List Rw → Prop}
theorem Inv.remark {n:Nat} {tm:List (Nat × PV)} {bx:List (List PC)} {m m':Nat} {fx:List Nat} (hi:Inv P ⟨n,tm,bx,m,fx⟩ a w r) (h:m' ≤ bx.length):Inv P ⟨n,tm,bx,m',fx⟩ a w r :=
  ⟨hi.sz,h,hi.tm,hi.bx,hi.cell,hi.nm,hi.live,hi.inj,hi.exb,hi.bb,hi.sh,hi.defers,hi.lw,hi.fx⟩
/-- What is returned holds a row. -/
theorem FnG.ofRow {f : FuncId} {fn : Func} {c : Code} {args : List PV} {bx bx' : List (List PC)} {e0 : TypeId} {xs : List (List PC)} {res : Value → PV} {res' : PV} (rv : List (Nat × Option Nat)) (j : Nat) (hf : P.funcs[f]? = some fn)
    (h:Tri2 P c (fun e st ρ=>∃ v:Value,EndsR P rv [] (res v) [] bx' e st ∧ ρ = [⟨v,e0,xs⟩]) ⟨fn.ntmps,enum 0 args,bx,bx.length,[]⟩ [])
    (hset:∀ v,((⟨1,[(0,res v)],bx',bx.length,[]⟩:St).at (.t 0 j),(⟨1,[(0,res v)],bx',bx.length,[]⟩:St).setAt (.t 0 j) (.own e0 xs)) = (some (.sc v),⟨1,[(0,res')],bx',bx.length,[]⟩))
    (hb:fn.body = some c:=by rfl) (hres:fn.results = (rvOf rv).toArray:=by rfl) (hl:rv.length ≤ 3:=by decide) (hnd:(rv.map Prod.fst).Nodup:=by decide) (hn:Nat.ble args.length fn.ntmps = true:=by rfl) (hbl:Nat.ble bx.length bx'.length = true:=by rfl):FnG P f args [] bx res' [] bx':=by
  intro vals w r hi
  have hsz:vals.size = args.length:=hi.sz
  have hn:=Nat.le_of_ble_eq_true hn
  have hbl:=Nat.le_of_ble_eq_true hbl
  refine calls_of_wp hf hb ?_
  have hstart:Inv P ⟨fn.ntmps,enum 0 args,bx,bx.length,[]⟩ ⟨vals ++ Array.replicate (fn.ntmps - vals.size) undef,[]⟩ w r:=by
    have hal:∀ p,(⟨args.length,enum 0 args,bx,bx.length,[]⟩:St).ex p → alpha ⟨vals ++ Array.replicate (fn.ntmps - vals.size) undef,[]⟩ w r p = alpha ⟨vals,[]⟩ w r p:=by
      intro p hp
      cases p with
      | t t c =>
        obtain ⟨pv,hp⟩:=hp
        obtain ⟨v,h1,_⟩:=hi.tm t pv hp
        have hlt:t < vals.size:=(Array.getElem?_eq_some_iff.1 h1).1
        simp only [alpha,Array.getD_eq_getD_getElem?]
        rw [Array.getElem?_append_left hlt]
      | b b c=>rfl
    have hex:∀ p x,(⟨fn.ntmps,enum 0 args,bx,bx.length,[]⟩:St).at p = some x → (⟨args.length,enum 0 args,bx,bx.length,[]⟩:St).ex p:=by
      intro p x hx
      cases p with
      | t t c=>obtain ⟨pv,h1,_⟩:=St.at_tmp hx; exact ⟨pv,h1⟩
      | b b c=>exact (St.at_box hx).1
    refine ⟨by simp; omega,Nat.le_refl _,fun t pv ht=>?_,hi.bx,fun p x hx=>?_,hi.nm,hi.live,hi.inj,hi.exb,hi.bb,hi.sh,rfl,hi.lw,fun t ht=>by cases ht⟩
    · obtain ⟨v,h1,h2⟩:=hi.tm t pv ht
      exact ⟨v,by rw [Array.getElem?_append_left (Array.getElem?_eq_some_iff.1 h1).1]; exact h1,h2⟩
    · rw [hal p (hex p x hx)]
      exact (hi.cell p x hx).mono (fun _ h=>h) (fun _ _=>rfl) (fun _ _=>rfl) (fun b hb=>⟨hb,rfl⟩) (fun q hq hl=>⟨hl,hal q (hi.nm p x q hx hq)⟩)
  refine Code.wp_mono (fun e a' w' k=>?_) (h _ w r hstart Held.nil)
  obtain ⟨st1,r1,ρ1,⟨v,⟨he,st2,hld,_,hr,hfr,hle,htake,hbf,hfx⟩,hρ⟩,hm1,hinv1,hheld1,hstep1⟩:=k
  subst hρ
  obtain ⟨a2,r2,hinv,hbx,hm2,hn2,hfx2,hSh,hβ,hκ,hγ,hdf,hvals,hother⟩:=loads_spec rv hinv1 hld hnd
  have hr':resultsOf st2 (rv.map Prod.fst) = some (res v):=by
    simp only [List.map_nil,mapO] at hr
    split at hr
    · rename_i y m h1 h2
      cases hr; exact h1
    · cases hr
  have hfree:(res v).cs.all (·.free bx'.length) = true:=by
    simp only [List.all_cons,Bool.and_eq_true] at hfr
    exact hfr.1
  obtain ⟨r3,g1,g2,g3,g4,g5⟩:=hinv.leave (ts:=rv.map Prod.fst) hr' hnd (n:=bx'.length) hle hfree (by rw [htake]; exact fun cs hcs=>List.all_eq_true.1 hbf cs hcs)
  rw [htake] at g1
  have hX2:∀ g,r2.X st1.bx.length g → r1.X st1.bx.length g:=fun g hg=>by
    rcases hg with ⟨p,hp⟩ | ⟨b,hb,hbe⟩
    · exact .inl ⟨p,hγ p g hp⟩
    · exact .inr ⟨b,hb,by rw [← hβ]; exact hbe⟩
  have hX3:∀ g,r3.X bx'.length g → r1.X st1.bx.length g:=fun g hg=>hX2 g (by have:=g5 g hg; rw [hbx] at this; exact this)
  have hS3:r3.Sh = r1.Sh:=g2.trans hSh
  have hheld:=hheld1.less (nb':=bx'.length) hS3 hX3
  have hstep:=hstep1.trans (Step2.less (m:=bx.length) (nb':=bx'.length) hS3 hX3 (fun b _=>by rw [g3,hβ]) (g4.trans hκ))
  have g1:=g1.remark hbl
  have hset:=hset v
  simp only [Prod.mk.injEq] at hset
  obtain ⟨hat,hset⟩:=hset
  obtain ⟨r4,k1,k2,k3,k4,k5,k6⟩:=focus_at (ρ1:=[]) (ρ2:=[]) (x:=⟨v,e0,xs⟩) g1 hheld hat
  rw [hset] at k2 k3 k4
  have k2:=k2.remark (m':=0) (Nat.zero_le _)
  have hst:=hstep.trans k4
  have hX:∀ (r:Rs) (nb:Nat) (g:Nat),X2 r nb [] g → r.X nb g:=fun r nb g hg=>hg.elim id fun h=>by cases h
  have hrun:=run_resultsR (P:=P) hres hl (val:=fun t=>a2.tmps.getD t undef) hvals
  rw [show (rv.map fun x=>a2.tmps.getD x.1 undef) = (rv.map Prod.fst).map fun t=>a2.tmps.getD t undef by rw [List.map_map]; rfl,← resV_vals] at hrun
  have hd1:a'.defers = []:=by rw [← hdf]; exact hinv.defers
  have fin:Step bx.length w r bx.length w' r4 bx'.length:=⟨hst.os,hst.tape,hst.output,hst.size,fun g hg hx=>hst.block g hg fun h=>hx (hX _ _ _ h),hst.sh,fun g hg=>by
    rcases hst.shNew g hg with h | h | h
    · exact .inl h
    · exact .inr (.inl (hX _ _ _ h))
    · exact .inr (.inr h),fun g hg=>(hst.x g (.inl hg)).imp (hX _ _ _) id,hst.β,hst.κ,hst.ty⟩
  rcases he with rfl | rfl
  · exact ⟨hd1,_,hrun,_,r4,rfl,k2,fin⟩
  · exact ⟨hd1,_,hrun,_,r4,rfl,k2,fin⟩
/-! A region whose order is drawn: each way from what is done. -/
def TriA (P:Program) (l:List Oper) (fuel:Nat) (listed:List Bool) (Q:St → List Rw → Prop) (st:St) (ρ:List Rw):Prop :=
  ∀ a w r,Inv P st a w r → Held P w r st.bx.length ρ → wpAny P .any l.toArray (Post2 P st.m w r st.bx.length ρ (fun e st' ρ'=>e = .normal ∧ Q st' ρ')) fuel listed.toArray a w
theorem wpOp_of_one {ops:Array Oper} {i:Nat} {o:Oper} {K:Act → World → Prop} {QQ Q1:Exit → Act → World → Prop} (ho:ops[i]? = some o) (hq:∀ e a w,Q1 e a w → e = .normal ∧ K a w) (h:wpList P ops Q1 [o] a w):wpOp P ops QQ i K a w:=by
  have no:∀ a w,¬ Q1 .outgrown a w:=fun a w h=>by cases (hq _ _ _ h).1
  unfold wpOp
  simp only [ho]
  unfold wpList at h
  split
  · rename_i hw
    rw [if_pos hw] at h
    rcases h with h | ⟨_,a',w',h2⟩
    · refine .inl ?_
      unfold Oper.wp at h ⊢
      generalize (execOp a.eval o).run P w = x at h ⊢
      cases x with
      | ok n w' =>
        cases n <;> simp only [Oper.upon] at h ⊢
        case value v=>exact (hq _ _ _ h).2
        case skip=>exact (hq _ _ _ h).2
        case defer d=>exact (hq _ _ _ h).2
        case enter f args =>
          refine h.mono fun e w'' k=>?_
          cases e with
          | returned v=>exact (hq _ _ _ k).2
          | panicked ch=>exact absurd (hq _ _ _ k).1 (by intro h; cases h)
          | outgrown=>exact absurd k (fun ⟨a,w,k⟩=>no a w k)
        case row rw args=>exact h.mono fun v w'' k=>(hq _ _ _ k).2
      | halt x w' =>
        cases x <;> simp only [Oper.upon] at h ⊢
        exact absurd (hq _ _ _ h).1 (by intro h; cases h)
    · exact absurd h2 (no a' w')
  · rename_i hw
    rw [if_neg hw] at h
    exact (hq _ _ _ h).2
theorem wpAny_mono {md:Region.Mode} {ops:Array Oper} {Q1 Q2:Exit → Act → World → Prop} (hq:∀ e a w,Q1 e a w → Q2 e a w):∀ (fuel:Nat) (listed:Array Bool) (a:Act) (w:World),wpAny P md ops Q1 fuel listed a w → wpAny P md ops Q2 fuel listed a w
  | 0,listed,a,w,h=>⟨h.1,hq _ _ _ h.2⟩
  | fuel + 1,listed,a,w,h=>by
    refine ⟨fun h0=>hq _ _ _ (h.1 h0),fun i hi=>?_⟩
    have h1:=wpOp_mono (fun a w k=>wpAny_mono hq fuel _ a w k) (h.2 i hi)
    unfold wpOp at h1 ⊢
    split
    · rename_i ho
      simpa [ho] using h1
    · rename_i o ho
      simp only [ho] at h1
      split
      · rename_i hw
        rw [if_pos hw] at h1
        rcases h1 with h1 | ⟨h1,a',w',h2⟩
        · refine .inl ?_
          unfold Oper.wp at h1 ⊢
          generalize (execOp a.eval o).run P w = x at h1 ⊢
          cases x with
          | ok n w' =>
            cases n <;> simp only [Oper.upon] at h1 ⊢ <;> first
              | exact h1
              | exact h1.mono fun e w'' k => by
                  cases e with
                  | returned v=>exact k
                  | panicked ch=>exact hq _ _ _ k
                  | outgrown=>obtain ⟨a,w,k⟩:=k; exact ⟨a,w,hq _ _ _ k⟩
              | exact h1.mono fun v w'' k=>k
          | halt x w' =>
            cases x <;> simp only [Oper.upon] at h1 ⊢ <;> first | exact h1 | exact hq _ _ _ h1
        · exact .inr ⟨h1,a',w',hq _ _ _ h2⟩
      · rename_i hw
        rw [if_neg hw] at h1
        exact h1
theorem TriA.step {l : List Oper} {fuel : Nat} {listed : List Bool} {Q : St → List Rw → Prop} (rs : List Nat) (h : ∀ i ∈ rs, ∃ o, l[i]? = some o ∧ TriO2 P l.toArray [o] (fun st' ρ' => TriA P l fuel (listed.set i true) Q st' ρ') st ρ)
    (hr:Region.ready .any l.toArray listed.toArray = rs:=by kernel_rfl) (hne:rs ≠ []:=by decide):TriA P l (fuel + 1) listed Q st ρ:=by
  intro a w r hi hh
  refine wpAny_all hr hne fun i hi'=>?_
  obtain ⟨o,ho,ht⟩:=h i hi'
  refine wpOp_of_one (o:=o) (by simpa using ho) (fun e a' w' k=>?_) (ht a w r hi hh)
  obtain ⟨st',r',ρ',⟨rfl,h1⟩,h2,h3,h4,h5⟩:=k
  have e1:listed.toArray.setIfInBounds i true = (listed.set i true).toArray:=by simp
  rw [e1]
  refine ⟨rfl,wpAny_mono (fun _ _ _ k=>Post2.step h5 ?_) _ _ _ _ (h1 a' w' r' h3 h4)⟩
  rw [h2] at k; exact k
/-- Behind the first k, in order. -/
theorem TriA.tail {l : List Oper} {fuel : Nat} {Q : St → List Rw → Prop} (k : Nat) (A : List (List Nat)) (listed : List Bool) (h : TriO2 P l.toArray (l.drop k) Q st ρ) (hc : (Nat.ble k l.length && ancB l A && tailB l A k && Nat.ble (l.length - k) fuel) = true := by kernel_rfl)
    (hl:listed = (List.range l.length).map fun j=>Nat.ble (j + 1) k:=by kernel_rfl):TriA P l fuel listed Q st ρ:=by
  intro a w r hi hh
  simp only [Bool.and_eq_true] at hc
  obtain ⟨⟨⟨hk,hanc⟩,htl⟩,hfu⟩:=hc
  have hon:=ancB_on hanc
  have hin:=fun f hf=>ancB_in (f:=f) hanc hf
  have hsz:listed.toArray.size = l.length:=by have:=congrArg List.length hl; simpa using this
  refine draw_tail (k:=k) hon (fun f hf i o ho hki he j hj=>hin f hf i o ho he j (tailB_spec htl (List.getElem?_eq_some_iff.1 ho).1 hki j hj)) fuel k listed.toArray a w (Nat.le_refl _) (Nat.le_of_ble_eq_true hk) hsz (fun j=>?_) (Nat.le_of_ble_eq_true hfu) (h a w r hi hh)
  have e:listed.toArray.getD j false = (listed[j]?).getD false:=by simp [Array.getD_eq_getD_getElem?]
  rw [e,hl,List.getElem?_map]
  have hkl:=Nat.le_of_ble_eq_true hk
  by_cases hj:j < l.length
  · rw [List.getElem?_range hj]
    simp only [Option.map_some,Option.getD_some]
    by_cases hjk:j < k
    · rw [decide_eq_true hjk]; exact Nat.ble_eq_true_of_le hjk
    · rw [decide_eq_false hjk]
      cases hb:Nat.ble (j + 1) k with
      | false=>rfl
      | true=>have:=Nat.le_of_ble_eq_true hb; omega
  · have:(List.range l.length)[j]? = none:=by simp; omega
    rw [this]
    simp only [Option.map_none,Option.getD_none]
    exact (decide_eq_false (by omega)).symm
theorem Tri2.drawn {id:Nat} {l:List Oper} (hm:P.follows .mixedOrders = true) (h:TriA P l l.length (List.replicate l.length false) (Q .normal) st ρ):Tri2 P (.region id l.toArray true) Q st ρ:=by
  intro a w r hi hh
  have hi1:Inv P st a { w with drawn:=w.drawn + 1 } r:=hi.world (fun _ _=>rfl) (Nat.le_refl _) (fun _ _ h=>h)
  have hh1:Held P { w with drawn:=w.drawn + 1 } r st.bx.length ρ:=hh.go (fun _ _=>rfl) hh.off
  refine Code.wp_mono (fun e a' w' k=>?_) (wp_region_any hm (by
    have h2:=h a _ r hi1 hh1
    rw [List.toArray_replicate] at h2
    simpa using h2))
  obtain ⟨st',r',ρ',⟨rfl,h1⟩,h2,h3,h4,h5⟩:=k
  refine ⟨st',r',ρ',h1,h2,h3,h4,⟨h5.os,h5.tape,h5.output,h5.size,h5.block,h5.sh,h5.shNew,h5.x,h5.β,h5.κ,h5.ty⟩⟩
end
end Go.Proofs.YtoclajfeeebbbadGreatDoor.E
