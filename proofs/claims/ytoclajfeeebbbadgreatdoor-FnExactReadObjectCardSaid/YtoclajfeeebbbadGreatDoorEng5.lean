/- The engine, part I: boxes, stores, rows that are made or grown. Plain lemmas; no program. -/
import Derived.Test.YtoclajfeeebbbadGreatDoorEng4
set_option linter.unusedVariables false
set_option linter.unusedSectionVars false
set_option linter.unusedSimpArgs false
namespace Go.Proofs.YtoclajfeeebbbadGreatDoor.E
open Go.RowKit
variable [LaidFacts]
section
variable {P:Program} {st:St} {a:Act} {w:World} {r:Rs}
def notTup:Shape → Bool
 | .any | .tup _=>false
 | _=>true
/-! A new box. -/
def St.addBox (st:St) (cs:List PC):St:={ st with bx:=st.bx ++ [cs] }
def Rs.addBox (r:Rs) (nb g:Nat):Rs:={ r with β:=fun b=>if b = nb then g else r.β b }
theorem St.at_addBox {cs:List PC} {p:Place} {x:PC} (h:(st.addBox cs).at p = some x):st.at p = some x ∨ ∃ c,p = .b st.bx.length c ∧ cs[c]? = some x:=by
 cases p with
 | t t c=>exact .inl h
 | b b c =>
  simp only [St.at,St.addBox,Option.bind_eq_some_iff] at h
  obtain ⟨l,h1,h2⟩:=h
  rw [List.getElem?_append] at h1
  split at h1
  ·exact .inl (by simp [St.at,h1,h2])
  ·rename_i hb
   have:b = st.bx.length:=by
    rcases Nat.lt_trichotomy b st.bx.length with h | h | h
    ·omega
    ·exact h
    ·rw [List.getElem?_eq_none (by simp; omega)] at h1; cases h1
   subst this
   simp only [Nat.sub_self,List.getElem?_cons_zero,Option.some.injEq] at h1
   subst h1
   exact .inr ⟨c,rfl,h2⟩
theorem Inv.addBox (h:Inv P st a w r) {vals:Array Value} {e:TypeId} {cs:List PC} (hlen:vals.size = cs.length) (h1:∀ x ∈ vals,x.oneCell' = true) (hb:∀ x ∈ cs,x.boxable = true)
  (hc:∀ (c:Nat) (x:PC) (v:Value),cs[c]? = some x → vals[c]? = some v → RepC P w r st (alpha a w r) x v none) :
  Inv P (st.addBox cs) a (w.alloc (.cells vals e)) (r.addBox st.bx.length w.heap.size):=by
 have hold:∀ g,g < w.heap.size → (w.alloc (.cells vals e)).heap[g]? = w.heap[g]?:=fun g hg=>heap_alloc_old w _ g hg
 have hβ:∀ b,b < st.bx.length → (r.addBox st.bx.length w.heap.size).β b = r.β b:=fun b hb=>by simp only [Rs.addBox]; rw [if_neg (by omega)]
 have hβn:(r.addBox st.bx.length w.heap.size).β st.bx.length = w.heap.size:=by simp [Rs.addBox]
 have hlt:∀ b,b < st.bx.length → r.β b < w.heap.size:=fun b hb=>h.X_lt (.inr ⟨b,hb,rfl⟩)
 have hal:∀ p,st.ex p → alpha a (w.alloc (.cells vals e)) (r.addBox st.bx.length w.heap.size) p = alpha a w r p:=by
  intro p hp
  cases p with
  | t t c=>rfl
  | b b c=>exact alpha_box_eq (hβ b hp) (hold _ (hlt b hp))
 have lift:∀ x v g,(∀ q,x.names = some q → st.ex q) → (∀ k,g = some k → k < w.heap.size) → RepC P w r st (alpha a w r) x v g →
   RepC P (w.alloc (.cells vals e)) (r.addBox st.bx.length w.heap.size) (st.addBox cs) (alpha a (w.alloc (.cells vals e)) (r.addBox st.bx.length w.heap.size)) x v g:=by
  intro x v g hn hg hx
  refine hx.mono (fun _ h=>h) (fun k hk=>hold k (h.sh k hk).1) (fun k hk=>hold k (hg k hk)) (fun b hb=>⟨by simp [St.addBox]; omega,hβ b hb⟩) (fun q hq hl=>⟨?_,hal q (hn q hq)⟩) (bty_old hold)
  obtain ⟨y,h1,h2⟩:=hl
  rcases St.at_addBox h1 with h3 | ⟨c,rfl,h3⟩
  ·exact ⟨y,h3,h2⟩
  ·have:=hn _ hq; simp only [St.ex] at this; omega
 have hex:∀ x p,st.at p = some x → st.ex p:=fun x p hp=>by
  cases p with
  | t t c=>obtain ⟨pv,h1,_⟩:=St.at_tmp hp; exact ⟨pv,h1⟩
  | b b c=>exact (St.at_box hp).1
 refine ⟨h.sz,by simp [St.addBox]; have:=h.m; omega,h.tm,fun b l hbl=>?_,fun p x hx=>?_,fun p x q hx hn=>?_,fun p g hg=>?_,h.inj,fun p g b hg hb'=>?_,fun b b' hb1 hb2 he=>?_,fun g hg=>?_,h.defers,LaidFacts.mono (fun _ h=>h) (fun g hg=>heap_alloc_old w _ g (h.sh g hg).1) h.lw,h.fx⟩
 ·simp only [St.addBox,List.getElem?_append] at hbl
  split at hbl
  ·rename_i hlt'
   obtain ⟨⟨vs,e',h2,h3,h4⟩,h5⟩:=h.bx b l hbl
   exact ⟨⟨vs,e',by rw [hβ b hlt',hold _ (hlt b hlt')]; exact h2,h3,h4⟩,h5⟩
  ·rename_i hge
   have:b = st.bx.length:=by
    rcases Nat.lt_trichotomy b st.bx.length with h | h | h
    ·omega
    ·exact h
    ·rw [List.getElem?_eq_none (by simp; omega)] at hbl; cases hbl
   subst this
   simp only [Nat.sub_self,List.getElem?_cons_zero,Option.some.injEq] at hbl
   subst hbl
   exact ⟨⟨vals,e,by rw [hβn]; exact heap_alloc_new w _,hlen,h1⟩,hb⟩
 ·rcases St.at_addBox hx with h2 | ⟨c,rfl,h2⟩
  ·rw [hal p (hex x p h2)]
   exact lift _ _ _ (fun q hq=>h.nm p x q h2 hq) (fun k hk=>h.X_lt (.inl ⟨p,hk⟩)) (h.cell p x h2)
  ·have hg:r.γ (.b st.bx.length c) = none:=by
    cases hg:r.γ (.b st.bx.length c) with
    | none=>rfl
    | some g =>
     obtain ⟨e',xs,h3⟩:=h.live _ _ hg
     have:=(St.at_box h3).1; omega
   have hcl:c < vals.size:=by rw [hlen]; exact (List.getElem?_eq_some_iff.1 h2).1
   have hv:alpha a (w.alloc (.cells vals e)) (r.addBox st.bx.length w.heap.size) (.b st.bx.length c) = vals[c]:=by
    simp only [alpha,hβn,World.cell?_alloc_new]
    simp [hcl]
   rw [hv]
   have hg':(r.addBox st.bx.length w.heap.size).γ (.b st.bx.length c) = none:=hg
   rw [hg']
   refine lift _ _ _ (fun q hq=>?_) (fun _ h=>by cases h) (hc c x _ h2 (by simp [hcl]))
   have:=hb x (List.mem_of_getElem? h2)
   cases x <;> simp [PC.boxable,PC.names] at this hq
 ·have go:st.ex q → (st.addBox cs).ex q:=fun he=>by
   cases q with
   | t k c=>exact he
   | b b c=>simp only [St.ex,St.addBox,List.length_append,List.length_cons,List.length_nil] at he ⊢; omega
  rcases St.at_addBox hx with h2 | ⟨c,rfl,h2⟩
  ·exact go (h.nm p x q h2 hn)
  ·have:=hb x (List.mem_of_getElem? h2)
   cases x <;> simp [PC.boxable,PC.names] at this hn
 ·obtain ⟨e',xs,h2⟩:=h.live p g hg
  refine ⟨e',xs,?_⟩
  cases p with
  | t t c=>exact h2
  | b b c =>
   obtain ⟨h3,l,h4,h5⟩:=St.at_box h2
   simp [St.at,St.addBox,List.getElem?_append_left h3,h4,h5]
 ·simp only [St.addBox,List.length_append,List.length_cons,List.length_nil] at hb'
  by_cases hbn:b = st.bx.length
  ·subst hbn
   rw [hβn]
   have:=h.X_lt (.inl ⟨p,hg⟩); omega
  ·rw [hβ b (by omega)]; exact h.exb p g b hg (by omega)
 ·simp only [St.addBox,List.length_append,List.length_cons,List.length_nil] at hb1 hb2
  by_cases e1:b = st.bx.length <;> by_cases e2:b' = st.bx.length
  ·omega
  ·subst e1; rw [hβn,hβ b' (by omega)] at he; have:=hlt b' (by omega); omega
  ·subst e2; rw [hβn,hβ b (by omega)] at he; have:=hlt b (by omega); omega
  ·rw [hβ b (by omega),hβ b' (by omega)] at he; exact h.bb b b' (by omega) (by omega) he
 ·obtain ⟨h2,h3,h4⟩:=h.sh g hg
  refine ⟨by simp; omega,h3,fun b hb'=>?_⟩
  simp only [St.addBox,List.length_append,List.length_cons,List.length_nil] at hb'
  by_cases hbn:b = st.bx.length
  ·subst hbn; rw [hβn]; omega
  ·rw [hβ b (by omega)]; exact h4 b (by omega)
theorem Step.addBox (hi:Inv P st a w r) {o:Obj} {cs:List PC}:Step st.bx.length w r st.bx.length (w.alloc o) (r.addBox st.bx.length w.heap.size) (st.addBox cs).bx.length:=by
 refine ⟨rfl,rfl,rfl,by simp,fun g hg _=>heap_alloc_old w _ g hg,fun _ h=>h,fun _ h=>.inl h,fun g hg=>?_,fun b hb=>?_,rfl,bty_old fun g hg=>heap_alloc_old w _ g hg⟩
 ·rcases hg with ⟨p,hp⟩ | ⟨b,hb,rfl⟩
  ·exact .inl (.inl ⟨p,hp⟩)
  ·simp only [St.addBox,List.length_append,List.length_cons,List.length_nil] at hb
   by_cases e:b = st.bx.length
   ·subst e; simp [Rs.addBox]
   ·simp only [Rs.addBox,if_neg e]; exact .inl (.inr ⟨b,by omega,rfl⟩)
 ·have:=hi.m
  simp only [Rs.addBox]; rw [if_neg (by omega)]
theorem cells_one {v:Value} (h:v.oneCell' = true):v.cells = #[v]:=by cases v <;> first | rfl | simp [Value.oneCell'] at h
/-- A new box, and a temporary that points to it. -/
theorem Inv.boxed (h:Inv P st a w r) {vals:Array Value} {e:TypeId} {cs:List PC} {d:Nat} (hd:st.okd d) (hlen:vals.size = cs.length) (h1:∀ x ∈ vals,x.oneCell' = true) (hb:∀ x ∈ cs,x.boxable = true)
  (hc:∀ (c:Nat) (x:PC) (v:Value),cs[c]? = some x → vals[c]? = some v → RepC P w r st (alpha a w r) x v none) :
  ∃ r',Inv P ((st.addBox cs).assign d ⟨.one,[.ref st.bx.length 0]⟩) (a.put (some d) (.pointer (some ⟨w.heap.size,0,none⟩))) (w.alloc (.cells vals e)) r' ∧
   Step st.bx.length w r st.bx.length (w.alloc (.cells vals e)) r' ((st.addBox cs).assign d ⟨.one,[.ref st.bx.length 0]⟩).bx.length:=by
 have hi:=h.addBox (e:=e) hlen h1 hb hc
 have hh:Has P (st.addBox cs) a (w.alloc (.cells vals e)) (r.addBox st.bx.length w.heap.size) ⟨.one,[.ref st.bx.length 0]⟩ (.pointer (some ⟨w.heap.size,0,none⟩)):=by
  refine Has.one (x:=.ref st.bx.length 0) rfl ⟨rfl,?_⟩ (fun _ h=>by simp [PC.names] at h)
  have hbn:(r.addBox st.bx.length w.heap.size).β st.bx.length = w.heap.size:=by simp [Rs.addBox]
  have hrf:RepF (w.alloc (.cells vals e)) (r.addBox st.bx.length w.heap.size).Sh (r.addBox st.bx.length w.heap.size).β (st.addBox cs).bx.length (.ref st.bx.length 0) (.pointer (some ⟨(r.addBox st.bx.length w.heap.size).β st.bx.length,0,none⟩)):=.ref (by simp only [St.addBox,List.length_append,List.length_cons,List.length_nil]; omega)
  rw [hbn] at hrf
  exact hrf
 exact ⟨_,hi.assign_has hd rfl hh,(Step.addBox h).trans (by rw [St.assign_bx]; exact Step.assign (fun _ _ h=>by cases h))⟩
/-- The pure cells of a type's zero value. -/
def zeroPC:Value → PC
 | .slice none 0 0=>.nl
 | v=>.sc v
def _root_.Go.Program.zero? (P:Program) (t:TypeId):Option (List Value):=((P.info? t).bind (·.zero)).map fun v=>v.cells.toList
theorem run_zeroValue {P:Program} {t:TypeId} {l:List Value} (h:P.zero? t = some l) (w:World):∃ v:Value,v.cells.toList = l ∧ (zeroValue t).run P w = .ok v w:=by
 obtain ⟨v,h1,h2⟩:=Option.map_eq_some_iff.1 h
 obtain ⟨i,h3,h4⟩:=Option.bind_eq_some_iff.1 h1
 exact ⟨v,h2,by simp [zeroValue,typeInfo,h3,h4]⟩
theorem zeroPC_rep {v:Value} (h:v.oneCell' = true):RepS w r.Sh (zeroPC v) v:=by
 unfold zeroPC
 split
 ·exact .nl
 ·exact .sc h
theorem zeroPC_boxable (v:Value):(zeroPC v).boxable = true:=by unfold zeroPC; split <;> rfl
theorem OpE.alloc {o:Oper} {d:Nat} {t:TypeId} {l:List Value} (ho:o.op = .alloc t) (hod:o.dst = some d) (hd:st.okd d) (hz:P.zero? t = some l) (hl:l.all (·.oneCell') = true) :
  OpE P o st ((st.addBox (l.map zeroPC)).assign d ⟨.one,[.ref st.bx.length 0]⟩):=by
 intro a w r hi K Q hK
 obtain ⟨v,hv,hr⟩:=run_zeroValue hz w
 have h1:∀ x ∈ v.cells,x.oneCell' = true:=fun x hx=>List.all_eq_true.1 hl x (by rw [← hv]; exact Array.mem_toList_iff.2 hx)
 obtain ⟨r',h2,h3⟩:=hi.boxed (vals:=v.cells) (e:=t) (cs:=l.map zeroPC) hd (by rw [← hv]; simp) h1 (fun x hx=>by obtain ⟨u,_,rfl⟩:=List.mem_map.1 hx; exact zeroPC_boxable u)
  (fun c x u hx hu=>by
   rw [List.getElem?_map,Option.map_eq_some_iff] at hx
   obtain ⟨u',hu',rfl⟩:=hx
   have:u' = u:=by
    rw [← hv,Array.getElem?_toList,hu] at hu'
    exact (Option.some.inj hu').symm
   subst this
   exact ((zeroPC_rep (h1 _ (Array.mem_of_getElem? hu))).hasC (P:=P) (st:=st) (a:=a)).1)
 unfold Oper.wp
 have hrun:(execOp a.eval o).run P w = .ok (.value (.pointer (some ⟨w.heap.size,0,none⟩))) (w.alloc (.cells v.cells t)):=by
  simp [execOp,ho,Instr.alloc,hr,newVar,newRow]
 rw [hrun,Oper.upon_value,hod]
 rw [hod] at hK
 exact hK _ _ r' (by rw [St.assign_m]; rfl) h2 h3
theorem OpE.box {o:Oper} {d:Nat} {t:TypeId} {x:Operand} {pv:PV} (ho:o.op = .box t x) (hod:o.dst = some d) (hd:st.okd d) (hx:st.use x = some pv) (hb:pv.cs.all (·.boxable) = true) (hsh:notTup pv.sh = true) :
  OpE P o st ((st.addBox pv.cs).assign d ⟨.one,[.ref st.bx.length 0]⟩):=by
 intro a w r hi K Q hK
 obtain ⟨hf,hc⟩:=hi.use hx
 have hcells:(a.eval x).cells.toList = flat (a.eval x) ∧ (a.eval x).cells.size = pv.cs.length ∧ ∀ y ∈ (a.eval x).cells,y.oneCell' = true:=by
  cases hs:pv.sh with
  | one =>
   rw [hs] at hf
   obtain ⟨h1,h2⟩:=hf
   rw [flat_one h2]
   rw [cells_one h2,h1]
   exact ⟨rfl,rfl,fun y hy=>by simp at hy; subst hy; exact h2⟩
  | agg =>
   rw [hs] at hf
   obtain ⟨cs,h1,h2,h3⟩:=hf
   rw [h1]
   exact ⟨rfl,h2,h3⟩
  | any=>rw [hs] at hsh; simp [notTup] at hsh
  | tup l=>rw [hs] at hsh; simp [notTup] at hsh
 obtain ⟨e1,e2,e3⟩:=hcells
 obtain ⟨r',h2,h3⟩:=hi.boxed (vals:=(a.eval x).cells) (e:=t) (cs:=pv.cs) hd e2 e3 (fun y hy=>List.all_eq_true.1 hb y hy)
  (fun c y u hy hu=>by
   obtain ⟨h4,_⟩:=hc c y hy
   rw [← e1,List.getD_eq_getElem?_getD,Array.getElem?_toList,hu] at h4
   exact h4)
 unfold Oper.wp
 have hrun:(execOp a.eval o).run P w = .ok (.value (.pointer (some ⟨w.heap.size,0,none⟩))) (w.alloc (.cells (a.eval x).cells t)):=by
  simp [execOp,ho,Instr.box,newVar,newRow]
 rw [hrun,Oper.upon_value,hod]
 rw [hod] at hK
 exact hK _ _ r' (by rw [St.assign_m]; rfl) h2 h3
theorem OpOK.alloc {o:Oper} {d:Nat} {t:TypeId} {l:List Value} (ho:o.op = .alloc t) (hod:o.dst = some d) (hd:st.okd d) (hz:P.zero? t = some l) (hl:l.all (·.oneCell') = true) :
  OpOK P o st ((st.addBox (l.map zeroPC)).assign d ⟨.one,[.ref st.bx.length 0]⟩):=(OpE.alloc ho hod hd hz hl).ok
theorem OpOK.box {o:Oper} {d:Nat} {t:TypeId} {x:Operand} {pv:PV} (ho:o.op = .box t x) (hod:o.dst = some d) (hd:st.okd d) (hx:st.use x = some pv) (hb:pv.cs.all (·.boxable) = true) (hsh:notTup pv.sh = true) :
  OpOK P o st ((st.addBox pv.cs).assign d ⟨.one,[.ref st.bx.length 0]⟩):=(OpE.box ho hod hd hx hb hsh).ok
/-! A new row that a temporary owns. -/
theorem Inv.newRow (h:Inv P st a w r) {d:Nat} (hd:st.okd d) {w':World} {e:TypeId} {xs:List (List PC)} {v:Value} (hown:RepOwn P w' r.Sh e xs v v.ownBlock)
  (hw:∀ g,g < w.heap.size → w'.heap[g]? = w.heap[g]?) (hs:w.heap.size ≤ w'.heap.size) (hnew:∀ g,v.ownBlock = some g → w.heap.size ≤ g) :
  Inv P (st.assign d ⟨.one,[.own e xs]⟩) (a.put (some d) v) w' ((r.dropT d).setT d fun c=>if c = 0 then v.ownBlock else none):=by
 have hi:=h.world (w':=w') (fun g hg=>hw g (by rcases hg with h1 | h1; exact (h.sh g h1).1; exact h.X_lt h1)) hs (bty_old hw)
 have h1:v.oneCell' = true:=by
  obtain ⟨vals,ho,_⟩:=hown
  rcases ho.2 with ⟨rfl,_⟩ | ⟨_,_,_,_,rfl,_⟩ <;> rfl
 refine hi.assign hd ⟨rfl,h1⟩ (fun c x hx=>?_) (fun c x q hx hn=>?_) (fun c g hg=>?_) (fun c c' g hg hg'=>?_)
 ·cases c with
  | zero =>
   simp only [List.getElem?_cons_zero,Option.some.injEq] at hx
   subst hx
   refine ⟨fun q hq=>by simp [PC.names] at hq,?_⟩
   rw [flat_one h1]
   exact hown
  | succ c=>simp at hx
 ·cases c with
  | zero=>simp only [List.getElem?_cons_zero,Option.some.injEq] at hx; subst hx; simp [PC.names] at hn
  | succ c=>simp at hx
 ·split at hg
  ·rename_i e0; subst e0
   have hge:=hnew g hg
   refine ⟨⟨e,xs,rfl⟩,fun hsh=>by have:=(h.sh g hsh).1; omega,fun hx=>?_⟩
   have:r.X st.bx.length g:=by
    rcases hx with ⟨p,hp⟩ | hb
    ·simp only [Rs.dropT] at hp
     split at hp
     ·cases hp
     ·exact .inl ⟨p,hp⟩
    ·exact .inr hb
   have:=h.X_lt this; omega
  ·cases hg
 ·split at hg <;> split at hg' <;> first | omega | (cases hg; done) | (cases hg'; done)
theorem Step.newRow {d nb:Nat} {w':World} {v:Value} (ho:w'.os = w.os) (ht:w'.tape = w.tape) (hp:w'.output = w.output) (hw:∀ g,g < w.heap.size → w'.heap[g]? = w.heap[g]?) (hs:w.heap.size ≤ w'.heap.size) (hnew:∀ g,v.ownBlock = some g → w.heap.size ≤ g) {m:Nat} :
  Step m w r nb w' ((r.dropT d).setT d fun c=>if c = 0 then v.ownBlock else none) nb:=by
 have h1:Step m w r nb w' r nb:=⟨ho,ht,hp,hs,fun g hg _=>hw g hg,fun _ h=>h,fun _ h=>.inl h,fun _ h=>.inl h,fun _ _=>rfl,rfl,bty_old hw⟩
 have h2:Step m w r nb w ((r.dropT d).setT d fun c=>if c = 0 then v.ownBlock else none) nb:=Step.assign (fun c g hg=>by
  split at hg
  ·exact .inr (hnew g hg)
  ·cases hg)
 exact ⟨ho,ht,hp,hs,fun g hg _=>hw g hg,h2.sh,h2.shNew,h2.x,h2.β,h2.κ,bty_old hw⟩
end
end Go.Proofs.YtoclajfeeebbbadGreatDoor.E
/- The engine, part J: stores. Plain lemmas; no program. -/
set_option linter.unusedVariables false
set_option linter.unusedSectionVars false
set_option linter.unusedSimpArgs false
namespace Go.Proofs.YtoclajfeeebbbadGreatDoor.E
open Go.RowKit
variable [LaidFacts]
section
variable {P:Program} {st:St} {a:Act} {w:World} {r:Rs}
def put3 {α:Type} (cs:List α) (off:Nat) (l:List α):List α:=cs.take off ++ l ++ cs.drop (off + l.length)
theorem put3_length {α:Type} {cs:List α} {off:Nat} {l:List α} (h:off + l.length ≤ cs.length):(put3 cs off l).length = cs.length:=by simp [put3]; omega
theorem put3_at {α:Type} {cs:List α} {off:Nat} {l:List α} (h:off + l.length ≤ cs.length) (c:Nat):(put3 cs off l)[c]? = if off ≤ c ∧ c < off + l.length then l[c - off]? else cs[c]?:=by
 simp only [put3,List.append_assoc]
 by_cases h1:c < off
 ·rw [List.getElem?_append_left (by simp; omega),List.getElem?_take,if_pos h1,if_neg (by omega)]
 ·rw [List.getElem?_append_right (by simp; omega)]
  have ht:(cs.take off).length = off:=by simp; omega
  rw [ht]
  by_cases h2:c < off + l.length
  ·rw [List.getElem?_append_left (by omega),if_pos ⟨by omega,h2⟩]
  ·rw [List.getElem?_append_right (by omega),List.getElem?_drop,if_neg (by omega)]
   congr 1
   omega
def St.setBox (st:St) (b off:Nat) (l:List PC):St:={ st with bx:=st.bx.modify b fun cs=>put3 cs off l }
def Rs.setB (r:Rs) (b off n:Nat) (γc:Nat → Option Nat):Rs :=
 { r with γ:=fun p=>match p with
   | .b b' c=>if b' = b ∧ off ≤ c ∧ c < off + n then γc (c - off) else r.γ (.b b' c)
   | p=>r.γ p }
/-- No cell names these cells of a box. -/
def St.noNm (st:St) (b off n:Nat):Prop:=∀ p x c,st.at p = some x → x.names = some (.b b c) → ¬ (off ≤ c ∧ c < off + n)
theorem St.bx_setBox {b off:Nat} {l:List PC} {b':Nat} {cs:List PC} (h:(st.setBox b off l).bx[b']? = some cs):∃ cs0,st.bx[b']? = some cs0 ∧ cs = if b' = b then put3 cs0 off l else cs0:=by
 simp only [St.setBox,List.getElem?_modify] at h
 obtain ⟨cs0,h1,h2⟩:=Option.map_eq_some_iff.1 h
 refine ⟨cs0,h1,?_⟩
 subst h2
 by_cases e:b = b'
 ·subst e; simp
 ·simp [e,Ne.symm e]
theorem St.at_setBox {b off:Nat} {cs l:List PC} (hb:st.bx[b]? = some cs) (hle:off + l.length ≤ cs.length) (p:Place) :
  (st.setBox b off l).at p = match p with
   | .b b' c=>if b' = b ∧ off ≤ c ∧ c < off + l.length then l[c - off]? else st.at (.b b' c)
   | p=>st.at p:=by
 cases p with
 | t t c=>rfl
 | b b' c =>
  simp only [St.at,St.setBox,List.getElem?_modify]
  by_cases e:b = b'
  ·subst e
   simp only [hb,Option.map_some,Option.bind_some,if_true,true_and]
   exact put3_at hle c
  ·simp [e,Ne.symm e]
theorem Inv.storeBox (h:Inv P st a w r) {b off:Nat} {cs l:List PC} {vs:List Value} {γc:Nat → Option Nat} {vals:Array Value} {e:TypeId} (hb:st.bx[b]? = some cs) (hh:w.heap[r.β b]? = some (.cells vals e (0,0)))
  (hlen:vs.length = l.length) (hle:off + l.length ≤ cs.length) (h1:∀ v ∈ vs,v.oneCell' = true) (hbx:∀ x ∈ l,x.boxable = true) (hno:st.noNm b off l.length)
  (hc:∀ j x v,l[j]? = some x → vs[j]? = some v → RepC P w r st (alpha a w r) x v (γc j))
  (hγ:∀ j g,γc j = some g → (∃ e xs,l[j]? = some (.own e xs)) ∧ ¬ r.Sh g ∧ (∀ p,r.γ p ≠ some g) ∧ ∀ b,b < st.bx.length → r.β b ≠ g)
  (hinj:∀ j j' g,γc j = some g → γc j' = some g → j = j') :
  Inv P (st.setBox b off l) a (w.setRow (r.β b) (put3 vals.toList off vs).toArray) (r.setB b off l.length γc):=by
 have hbl:b < st.bx.length:=(List.getElem?_eq_some_iff.1 hb).1
 obtain ⟨⟨vals',e',h2,h3,h4⟩,h5⟩:=h.bx b cs hb
 rw [hh] at h2
 simp only [Option.some.injEq,Obj.cells.injEq] at h2
 obtain ⟨rfl,rfl,_⟩:=h2
 have hvl:off + vs.length ≤ vals.toList.length:=by simp; omega
 have hXg:r.X st.bx.length (r.β b):=.inr ⟨b,hbl,rfl⟩
 have hold:∀ g,g ≠ r.β b → (w.setRow (r.β b) (put3 vals.toList off vs).toArray).heap[g]? = w.heap[g]?:=fun g hg=>setRow_other w _ g _ hg
 have hnew:(w.setRow (r.β b) (put3 vals.toList off vs).toArray).heap[r.β b]? = some (.cells (put3 vals.toList off vs).toArray e (0,0)):=setRow_heap w _ _ _ e (0,0) hh
 have hlens:(st.setBox b off l).bx.length = st.bx.length:=by simp [St.setBox]
 have hat:=St.at_setBox (st:=st) hb hle
 -- what stands at a place that did not turn
 have hcell:∀ c,(w.setRow (r.β b) (put3 vals.toList off vs).toArray).cell? ⟨r.β b,c,none⟩ = (put3 vals.toList off vs)[c]?:=fun c=>by
  rw [cell_of_row _ _ c _ e _ hnew]; simp
 have hcell0:∀ c,w.cell? ⟨r.β b,c,none⟩ = vals.toList[c]?:=fun c=>by rw [cell_of_row _ _ c _ e _ hh]; simp
 have hal:∀ p,st.ex p → (∀ c,p = .b b c → ¬ (off ≤ c ∧ c < off + l.length)) → alpha a (w.setRow (r.β b) (put3 vals.toList off vs).toArray) (r.setB b off l.length γc) p = alpha a w r p:=by
  intro p hp hn
  cases p with
  | t t c=>rfl
  | b b' c =>
   by_cases e:b' = b
   ·subst e
    simp only [alpha]
    show ((w.setRow (r.β b') _).cell? ⟨r.β b',c,none⟩).getD undef = _
    rw [hcell,hcell0,put3_at hvl,if_neg (by rw [hlen]; exact hn c rfl)]
   ·refine alpha_box_eq rfl (hold _ fun he=>e (h.bb b' b hp hbl he))
 have hown:∀ p g,r.γ p = some g → g ≠ r.β b:=fun p g hg e=>h.exb p g b hg hbl e.symm
 have lift:∀ x v g,(∀ q,x.names = some q → st.ex q ∧ ∀ c,q = .b b c → ¬ (off ≤ c ∧ c < off + l.length)) → (∀ k,g = some k → k ≠ r.β b) → RepC P w r st (alpha a w r) x v g →
   RepC P (w.setRow (r.β b) (put3 vals.toList off vs).toArray) (r.setB b off l.length γc) (st.setBox b off l) (alpha a (w.setRow (r.β b) (put3 vals.toList off vs).toArray) (r.setB b off l.length γc)) x v g:=by
  intro x v g hn hg hx
  refine hx.mono (fun _ h=>h) (fun k hk=>hold k fun e=>h.not_sh hXg (e ▸ hk)) (fun k hk=>hold k (hg k hk)) (fun b hb=>⟨by rw [hlens]; exact hb,rfl⟩) (fun q hq hl=>?_) bty_setRow
  obtain ⟨h6,h7⟩:=hn q hq
  refine ⟨?_,hal q h6 h7⟩
  obtain ⟨y,hy,hd⟩:=hl
  rw [hat] at hy
  cases q with
  | t t c=>exact ⟨y,hy,hd⟩
  | b b' c =>
   simp only at hy
   split at hy
   ·rename_i hcond
    obtain ⟨rfl,hcond⟩:=hcond
    exact absurd hcond (h7 c rfl)
   ·exact ⟨y,hy,hd⟩
 have hnames:∀ p x,st.at p = some x → ∀ q,x.names = some q → st.ex q ∧ ∀ c,q = .b b c → ¬ (off ≤ c ∧ c < off + l.length):=fun p x hx q hq =>
  ⟨h.nm p x q hx hq,fun c e=>by subst e; exact hno p x c hx hq⟩
 have hgam:∀ p g,(r.setB b off l.length γc).γ p = some g → (∃ c,p = .b b c ∧ (off ≤ c ∧ c < off + l.length) ∧ γc (c - off) = some g) ∨ (r.γ p = some g ∧ ∀ c,p = .b b c → ¬ (off ≤ c ∧ c < off + l.length)):=by
  intro p g hg
  cases p with
  | t t c=>exact .inr ⟨hg,fun _ h=>by cases h⟩
  | b b' c =>
   simp only [Rs.setB] at hg
   split at hg
   ·rename_i hcond
    obtain ⟨rfl,hcond⟩:=hcond
    exact .inl ⟨c,rfl,hcond,hg⟩
   ·rename_i hcond
    exact .inr ⟨hg,fun c' he hcd=>by cases he; exact hcond ⟨rfl,hcd⟩⟩
 refine ⟨h.sz,by rw [hlens]; exact h.m,h.tm,fun b' cs' hb'=>?_,fun p x hx=>?_,fun p x q hx hq=>?_,fun p g hg=>?_,fun p q g hp hq=>?_,fun p g b' hg hb'=>?_,by rw [hlens]; exact h.bb,fun g hg=>?_,h.defers,LaidFacts.mono (fun _ h=>h) (fun g hg=>hold g (fun e=>(h.sh g hg).2.2 b hbl e.symm)) h.lw,h.fx⟩
 ·obtain ⟨cs0,h6,h7⟩:=St.bx_setBox hb'
  by_cases e':b' = b
  ·subst e'
   rw [hb] at h6; cases h6
   rw [if_pos rfl] at h7; subst h7
   refine ⟨⟨_,e,hnew,by simp [put3_length hle,put3_length hvl,h3],fun x hx=>?_⟩,fun x hx=>?_⟩
   ·simp only [List.mem_toArray,put3,List.mem_append] at hx
    rcases hx with (hx | hx) | hx
    ·exact h4 x (by simpa using List.mem_of_mem_take hx)
    ·exact h1 x hx
    ·exact h4 x (by simpa using List.mem_of_mem_drop hx)
   ·simp only [put3,List.mem_append] at hx
    rcases hx with (hx | hx) | hx
    ·exact h5 x (List.mem_of_mem_take hx)
    ·exact hbx x hx
    ·exact h5 x (List.mem_of_mem_drop hx)
  ·rw [if_neg e'] at h7; subst h7
   obtain ⟨⟨vs',e'',h8,h9⟩,h10⟩:=h.bx b' cs' h6
   exact ⟨⟨vs',e'',by rw [show (r.setB b off l.length γc).β b' = r.β b' from rfl,hold _ fun he=>e' (h.bb b' b (List.getElem?_eq_some_iff.1 h6).1 hbl he)]; exact h8,h9⟩,h10⟩
 ·rw [hat] at hx
  cases p with
  | t t c =>
   rw [hal _ (by obtain ⟨pv,h6,_⟩:=St.at_tmp hx; exact ⟨pv,h6⟩) (fun _ h=>by cases h)]
   exact lift _ _ _ (hnames _ x hx) (fun k hk=>hown _ k hk) (h.cell _ x hx)
  | b b' c =>
   simp only at hx
   split at hx
   ·rename_i hcond
    obtain ⟨rfl,hcond⟩:=hcond
    have hj:c - off < l.length:=by omega
    have hv:alpha a (w.setRow (r.β b') (put3 vals.toList off vs).toArray) (r.setB b' off l.length γc) (.b b' c) = vs[c - off]:=by
     simp only [alpha]
     show ((w.setRow (r.β b') _).cell? ⟨r.β b',c,none⟩).getD undef = _
     rw [hcell,put3_at hvl,if_pos (by rw [hlen]; exact hcond),List.getElem?_eq_getElem (by omega)]
     rfl
    rw [hv]
    have hg:(r.setB b' off l.length γc).γ (.b b' c) = γc (c - off):=by simp only [Rs.setB]; rw [if_pos ⟨trivial,hcond⟩]
    rw [hg]
    refine lift _ _ _ (fun q hq=>?_) (fun k hk=>?_) (hc (c - off) x _ hx (List.getElem?_eq_getElem (by omega)))
    ·have:=hbx x (List.mem_of_getElem? hx)
     cases x <;> simp [PC.boxable,PC.names] at this hq
    ·exact fun e=>(hγ _ k hk).2.2.2 b' hbl e.symm
   ·rename_i hcond
    rw [hal (.b b' c) (St.at_box hx).1 (fun c' he hcd=>by cases he; exact hcond ⟨rfl,hcd⟩)]
    have hg:(r.setB b off l.length γc).γ (.b b' c) = r.γ (.b b' c):=by simp only [Rs.setB]; rw [if_neg hcond]
    rw [hg]
    exact lift _ _ _ (hnames _ x hx) (fun k hk=>hown _ k hk) (h.cell _ x hx)
 ·have go:st.ex q → (st.setBox b off l).ex q:=fun he=>by
   cases q with
   | t k c=>exact he
   | b b c=>simp only [St.ex,hlens] at he ⊢; exact he
  rw [hat] at hx
  cases p with
  | t t c=>exact go (h.nm _ x q hx hq)
  | b b' c =>
   simp only at hx
   split at hx
   ·have:=hbx x (List.mem_of_getElem? hx)
    cases x <;> simp [PC.boxable,PC.names] at this hq
   ·exact go (h.nm _ x q hx hq)
 ·rcases hgam p g hg with ⟨c,rfl,hcond,hc'⟩ | ⟨hg',hn⟩
  ·obtain ⟨e',xs,hx⟩:=(hγ _ g hc').1
   exact ⟨e',xs,by rw [hat]; simp only; rw [if_pos ⟨trivial,hcond⟩]; exact hx⟩
  ·obtain ⟨e',xs,hx⟩:=h.live p g hg'
   refine ⟨e',xs,?_⟩
   rw [hat]
   cases p with
   | t t c=>exact hx
   | b b' c =>
    simp only
    rw [if_neg (fun hcond=>by obtain ⟨rfl,hcd⟩:=hcond; exact hn c rfl hcd)]
    exact hx
 ·rcases hgam p g hp with ⟨c,rfl,hcond,hc'⟩ | ⟨hg',hn⟩ <;> rcases hgam q g hq with ⟨c2,rfl,hcond2,hc2⟩ | ⟨hg2,hn2⟩
  ·have:=hinj _ _ g hc' hc2
   rw [show c = c2 by omega]
  ·exact absurd hg2 ((hγ _ g hc').2.2.1 q)
  ·exact absurd hg' ((hγ _ g hc2).2.2.1 p)
  ·exact h.inj p q g hg' hg2
 ·rw [hlens] at hb'
  rcases hgam p g hg with ⟨c,rfl,hcond,hc'⟩ | ⟨hg',hn⟩
  ·exact (hγ _ g hc').2.2.2 b' hb'
  ·exact h.exb p g b' hg' hb'
 ·obtain ⟨h6,h7,h8⟩:=h.sh g hg
  refine ⟨by simpa [World.setRow] using h6,fun p hp=>?_,by rw [hlens]; exact h8⟩
  rcases hgam p g hp with ⟨c,rfl,hcond,hc'⟩ | ⟨hg',hn⟩
  ·exact (hγ _ g hc').2.1 hg
  ·exact h7 p hg'
theorem Step.setRow {m nb nb':Nat} {g:Nat} {cs:Array Value} {r':Rs} (hg:r.X nb g) (hS:r'.Sh = r.Sh) (hβ:r'.β = r.β) (hγ:∀ k,r'.X nb' k → r.X nb k) (hκ:r'.κ = r.κ:=by rfl):Step m w r nb (w.setRow g cs) r' nb' :=
 ⟨rfl,rfl,rfl,by simp [World.setRow],fun k _ hk=>setRow_other w g k cs (fun e=>hk (e ▸ hg)),fun _ h=>hS ▸ h,fun _ h=>.inl (hS ▸ h),fun k hk=>.inl (hγ k hk),fun _ _=>by rw [hβ],hκ,bty_setRow⟩
theorem execOp_store {o:Oper} {t:TypeId} {x y:Operand} {g off:Nat} {v:Value} {vals:Array Value} {e:TypeId} (ho:o.op = .store t x y) (hx:a.eval x = .pointer (some ⟨g,off,none⟩)) (hy:a.eval y = v) (hs:P.size? t = some v.cells.size)
  {fz:Nat × Nat} (hh:w.heap[g]? = some (.cells vals e fz)) (hfz:FreeZ fz vals.size) (hle:off + v.cells.size ≤ vals.size) (h1:∀ u ∈ v.cells,u.oneCell' = true) :
  (execOp a.eval o).run P w = .ok .skip (w.setRow g (put3 vals.toList off v.cells.toList).toArray):=by
 have hr:=run_storeCells_atH (P:=P) g off e fz v.cells.toList 0 vals w hh hfz (by simpa using hle) (fun u hu=>h1 u (by simpa using hu))
 simp only [Nat.add_zero] at hr
 simp only [execOp,ho,hx,hy,Instr.storeAt,Instr.sureAddr,storeVar,Sem.run_bind,Sem.run_pure,Result.andThen_ok,run_sizeOf hs]
 rw [Sem.run_ite,if_neg (by simp)]
 rw [hr]
 rfl
/-- A box is stored into: cells that own nothing. -/
theorem OpE.storeBox {o:Oper} {t:TypeId} {x y:Operand} {b off n:Nat} {cs:List PC} {pv:PV} (ho:o.op = .store t x y) (hd:o.dst = none) (hs:P.size? t = some n) (hx:st.use x = some ⟨.one,[.ref b off]⟩) (hy:st.use y = some pv)
  (hsh:notTup pv.sh = true) (hb:st.bx[b]? = some cs) (hn:pv.cs.length = n) (hle:off + n ≤ cs.length) (hbx:pv.cs.all (·.boxable) = true) (hno:st.noNm b off n) :
  OpE P o st (st.setBox b off pv.cs):=by
 intro a w r hi K Q hK
 obtain ⟨_,⟨_,hc⟩,_⟩:=(hi.use hx).out
 have hv:a.eval x = .pointer (some ⟨r.β b,off,none⟩):=by
  generalize a.eval x = v at hc
  cases hc with
  | s hs=>cases hs
  | ref h=>rfl
 obtain ⟨hf,hcc⟩:=hi.use hy
 obtain ⟨⟨vals,e,hh,hvs,_⟩,_⟩:=hi.bx b cs hb
 have hcells:(a.eval y).cells.toList = flat (a.eval y) ∧ (a.eval y).cells.size = pv.cs.length ∧ ∀ u ∈ (a.eval y).cells,u.oneCell' = true:=by
  cases hs':pv.sh with
  | one =>
   rw [hs'] at hf
   obtain ⟨h1,h2⟩:=hf
   rw [flat_one h2,cells_one h2,h1]
   exact ⟨rfl,rfl,fun u hu=>by simp at hu; subst hu; exact h2⟩
  | agg =>
   rw [hs'] at hf
   obtain ⟨c,h1,h2,h3⟩:=hf
   rw [h1]
   exact ⟨rfl,h2,h3⟩
  | any=>rw [hs'] at hsh; simp [notTup] at hsh
  | tup l=>rw [hs'] at hsh; simp [notTup] at hsh
 obtain ⟨e1,e2,e3⟩:=hcells
 subst hn
 have hrun:=execOp_store (P:=P) (a:=a) (w:=w) ho hv rfl (by rw [hs,e2]) hh (.inl rfl) (by rw [e2,hvs]; exact hle) e3
 have hinv:=hi.storeBox (vs:=(a.eval y).cells.toList) (γc:=fun _=>none) hb hh (by rw [Array.length_toList,e2]) hle (fun v hv=>e3 v (by simpa using hv)) (fun u hu=>List.all_eq_true.1 hbx u hu) hno
  (fun j u v hu hv=>by
   obtain ⟨h4,_⟩:=hcc j u hu
   rw [← e1,List.getD_eq_getElem?_getD,hv] at h4
   exact h4) (fun _ _ h=>by cases h) (fun _ _ _ h=>by cases h)
 unfold Oper.wp
 rw [hrun,Oper.upon_skip,hd]
 rw [hd] at hK
 refine hK undef _ _ rfl hinv ?_
 have hlens:(st.setBox b off pv.cs).bx.length = st.bx.length:=by simp [St.setBox]
 refine Step.setRow (.inr ⟨b,(List.getElem?_eq_some_iff.1 hb).1,rfl⟩) rfl rfl (fun k hk=>?_)
 rw [hlens] at hk
 rcases hk with ⟨p,hp⟩ | hk
 ·cases p with
  | t t c=>exact .inl ⟨_,hp⟩
  | b b' c =>
   simp only [Rs.setB] at hp
   split at hp
   ·cases hp
   ·exact .inl ⟨_,hp⟩
 ·exact .inr hk
theorem OpOK.storeBox {o:Oper} {t:TypeId} {x y:Operand} {b off n:Nat} {cs:List PC} {pv:PV} (ho:o.op = .store t x y) (hd:o.dst = none) (hs:P.size? t = some n) (hx:st.use x = some ⟨.one,[.ref b off]⟩) (hy:st.use y = some pv)
  (hsh:notTup pv.sh = true) (hb:st.bx[b]? = some cs) (hn:pv.cs.length = n) (hle:off + n ≤ cs.length) (hbx:pv.cs.all (·.boxable) = true) (hno:st.noNm b off n) :
  OpOK P o st (st.setBox b off pv.cs) :=
 (OpE.storeBox ho hd hs hx hy hsh hb hn hle hbx hno).ok
end
end Go.Proofs.YtoclajfeeebbbadGreatDoor.E
