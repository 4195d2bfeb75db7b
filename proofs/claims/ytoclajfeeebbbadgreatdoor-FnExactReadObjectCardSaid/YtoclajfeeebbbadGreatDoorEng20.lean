/- The engine, part AK: rows told apart: their order, what is let go, loops, conditions, whole regions. Plain lemmas; no program. -/
import Derived.Test.YtoclajfeeebbbadGreatDoorEng19
set_option linter.unusedVariables false
set_option linter.unusedSectionVars false
set_option linter.unusedSimpArgs false
namespace Go.Proofs.YtoclajfeeebbbadGreatDoor.E
open Go.RowKit
variable [LaidFacts]
section
variable {P:Program} {st:St} {a:Act} {w:World} {r:Rs} {ρ ρ':List Rw} {Q:Exit → St → List Rw → Prop}
theorem bks_perm (h:ρ.Perm ρ'):(bks ρ).Perm (bks ρ'):=h.filterMap _
theorem Held.perm {nb:Nat} (h:Held P w r nb ρ) (hp:ρ.Perm ρ'):Held P w r nb ρ' :=
  ⟨fun x hx=>h.own x (hp.mem_iff.2 hx),(bks_perm hp).nodup_iff.1 h.one,fun g hg=>h.off g ((bks_perm hp).mem_iff.2 hg)⟩
theorem Held.left {nb:Nat} {σ:List Rw} (h:Held P w r nb (ρ ++ σ)):Held P w r nb ρ :=
  ⟨fun x hx=>h.own x (List.mem_append_left _ hx),by have:=h.one; rw [bks_app] at this; exact (List.nodup_append.1 this).1,fun g hg=>h.off g (by rw [bks_app]; exact List.mem_append_left _ hg)⟩
theorem Step2.same {m:Nat} {nb:Nat} (h:∀ g,g ∈ bks ρ' → g ∈ bks ρ):Step2 m w r nb ρ w r nb ρ' :=
  ⟨rfl,rfl,rfl,Nat.le_refl _,fun _ _ _=>rfl,fun _ h=>h,fun _ h=>.inl h,fun g hg=>.inl (hg.imp id (h g)),fun _ _=>rfl,rfl,fun _ _ h=>h⟩
theorem Turns2.sub {σ:List Rw} (hp:ρ.Perm (ρ' ++ σ)):Turns2 P st ρ st ρ':=fun a w r hi hh =>
  ⟨r,rfl,hi,(hh.perm hp).left,Step2.same fun g hg=>(bks_perm hp).mem_iff.2 (by rw [bks_app]; exact List.mem_append_left _ hg)⟩
theorem Turns2.perm (hp:ρ.Perm ρ'):Turns2 P st ρ st ρ':=Turns2.sub (σ:=[]) (by simpa using hp)
theorem Tri2.sub {c:Code} {σ:List Rw} (hp:ρ.Perm (ρ' ++ σ)) (h:Tri2 P c Q st ρ'):Tri2 P c Q st ρ:=Tri2.turn (Turns2.sub hp) h
theorem Tri2.perm {c:Code} (hp:ρ.Perm ρ') (h:Tri2 P c Q st ρ'):Tri2 P c Q st ρ:=Tri2.turn (Turns2.perm hp) h
theorem TriO2.perm {ops:Array Oper} {l:List Oper} {Q:St → List Rw → Prop} (hp:ρ.Perm ρ') (h:TriO2 P ops l Q st ρ'):TriO2 P ops l Q st ρ:=TriO2.turn (Turns2.perm hp) h
/-! Nil rows. -/
theorem Tri2.old {c:Code} {st':St} (ht:Turns P st st') (hy:Tri2 P c Q st' ρ):Tri2 P c Q st ρ:=by
  refine Tri2.turn (fun a w r hi hh=>?_) hy
  obtain ⟨r',h1,h2,h3⟩:=ht a w r hi
  obtain ⟨h4,h5⟩:=hh.step h3
  exact ⟨r',h1,h2,h4,h5⟩
/-! Control. -/
theorem Tri2.exit {id:Nat} (h:Q (.exit id) st ρ):Tri2 P (.exit id) Q st ρ:=Tri2.lift (Tri.exit h)
theorem Tri2.cond {c:Operand} {x y:Code} (b:Bool) (hc:st.use c = some ⟨.one,[.sc (.bool b)]⟩) (h:Tri2 P (if b then x else y) Q st ρ):Tri2 P (.cond c x y) Q st ρ:=by
  intro a w r hi hh
  exact wp_cond (hi.use hc).out_sc (h a w r hi hh)
theorem ci2 {c : Operand} {x y : Code} {σ : Type} {p : Prop} [Decidable p] {t e : Option σ} {v : σ} (H : (if p then t else e) = some v) (hx : p → t = some v → Tri2 P x Q st ρ) (hy : ¬ p → e = some v → Tri2 P y Q st ρ)
    (hc:st.use c = some ⟨.one,[.sc (.bool (decide p))]⟩:=by kernel_rfl):Tri2 P (.cond c x y) Q st ρ:=by
  by_cases h:p
  · rw [if_pos h] at H; rw [decide_eq_true h] at hc; exact Tri2.cond true hc (hx h H)
  · rw [if_neg h] at H; rw [decide_eq_false h] at hc; exact Tri2.cond false hc (hy h H)
theorem rn2 {id : Nat} {l : List Oper} {y : Code} (ts : List Nat) (nb : Nat) (fx : List Fix) (hp : List Hp) (hy : Tri2 P y Q (nx (evR P l ts nb fx st (hsOf hp))) ρ) (h : (evR P l ts nb fx st (hsOf hp)).map (·.1) = some (qsOf hp) := by kernel_rfl) :
    Tri2 P (.seq (.region id l.toArray false) y) Q st ρ:=Tri2.sq (rl (Q:=Ex (fun st'=>Tri2 P y Q st' ρ) (fun e st'=>Q e st' ρ)) ts nb fx hp hy h)
theorem rx2 {id : Nat} {l : List Oper} {y : Code} (ts : List Nat) (nb : Nat) (fx : List Fix) (hp : List Hp) (st' : St) (hy : Tri2 P y Q st' ρ) (h : evR P l ts nb fx st (hsOf hp) = some (qsOf hp, st') := by kernel_rfl) :
    Tri2 P (.seq (.region id l.toArray false) y) Q st ρ:=Tri2.sq (Tri.r1 (Q:=Ex (fun st'=>Tri2 P y Q st' ρ) (fun e st'=>Q e st' ρ)) ts nb fx _ _ _ (qsOf_all hp) hy h)
theorem rlx2 {id : Nat} {l : List Oper} (ts : List Nat) (nb : Nat) (fx : List Fix) (hp : List Hp) (st' : St) (hy : Q .normal st' ρ) (h : evR P l ts nb fx st (hsOf hp) = some (qsOf hp, st') := by kernel_rfl) :
    Tri2 P (.region id l.toArray false) Q st ρ:=Tri2.lift (Tri.r1 (Q:=fun e st'=>Q e st' ρ) ts nb fx _ _ _ (qsOf_all hp) hy h)
theorem fx2 {c:Code} (ts:List Nat) (nb:Nat) (l:List Fix) (hy:Tri2 P c Q (nf (fin P ts nb l st)) ρ) (h:(fin P ts nb l st).isSome = true:=by kernel_rfl):Tri2 P c Q st ρ:=Tri2.old (fin_turns (nf_eq h)) hy
theorem bl2 {id:Nat} {c:Code} (h:Tri2 P c (Bk2 id Q) st ρ):Tri2 P (.block id c) Q st ρ:=Tri2.block h
theorem TriR2.mono {c:Code}:∀ {k k':Nat} {st:St} {ρ:List Rw},k ≤ k' → TriR2 P c Q k st ρ → TriR2 P c Q k' st ρ
  | 0,_,_,_,_,h=>h.elim
  | k + 1,0,_,_,h,_=>by omega
  | k + 1,k' + 1,st,ρ,h,ht=>Tri2.mono (fun e st' ρ' q=>by cases e <;> first | exact TriR2.mono (by omega) q | exact q) ht
theorem TriR2.ind {α σ : Type} {c : Code} {res : σ} (F : Nat → α → Option σ) (S : α → St) (R : α → List Rw) (hz : ∀ x, F 0 x = none)
    (hs:∀ k x,F (k + 1) x = some res → (∀ k' y,k' ≤ k → F k' y = some res → TriR2 P c Q k (S y) (R y)) → Tri2 P c (Ex2 (TriR2 P c Q k) Q) (S x) (R x)):∀ (k:Nat) (x:α),F k x = some res → TriR2 P c Q k (S x) (R x):=by
  intro k
  induction k using Nat.strongRecOn with
  | _ k ih =>
    intro x hx
    cases k with
    | zero=>rw [hz] at hx; cases hx
    | succ k=>exact hs k x hx fun k' y hk hy=>TriR2.mono hk (ih k' (by omega) y hy)
/-- Ways that meet. -/
theorem Tri2.join {x y:Code} {α:Type} (C:α → Prop) (S:α → St) (R:α → List Rw) (hy:∀ v,C v → Tri2 P y Q (S v) (R v)) (hx:Tri2 P x (Ex2 (fun st ρ=>∃ v,C v ∧ st = S v ∧ ρ = R v) Q) st ρ):Tri2 P (.seq x y) Q st ρ:=by
  refine Tri2.seq (Tri2.mono (fun e st' ρ' q=>?_) hx)
  cases e <;> first
    | (obtain ⟨v,h1,rfl,rfl⟩:=q; exact hy v h1)
    | exact q
/-- The first n operations, computed; the state as it is computed. -/
def nxE (x:Option (List Prop × St × Hs)):St:=match x with
  | some y=>y.2.1
  | none=>⟨0,[],[],0,[]⟩
theorem nxE_eq {x:Option (List Prop × St × Hs)} {q:List Prop} (h:x.map (fun y=>(y.1,y.2.2)) = some (q,[])):x = some (q,nxE x,[]):=by
  cases x with
  | none=>cases h
  | some y=>obtain ⟨a,b,c⟩:=y; simp only [Option.map_some,Option.some.injEq,Prod.mk.injEq] at h; obtain ⟨rfl,rfl⟩:=h; rfl
theorem ew {ops : Array Oper} {l : List Oper} {Q : St → List Rw → Prop} (n : Nat) (hp : List Hp) (hy : TriO2 P ops (l.drop n) Q (nxE (evN3 P ops (l.take n).length 0 (l.take n) st (hsOf hp))) ρ)
    (h:(evN3 P ops (l.take n).length 0 (l.take n) st (hsOf hp)).map (fun y=>(y.1,y.2.2)) = some (qsOf hp,[]):=by kernel_rfl):TriO2 P ops l Q st ρ:=TriO2.ev n hp hy (nxE_eq h)
theorem exx {ops:Array Oper} {l:List Oper} {Q:St → List Rw → Prop} (ts:List Nat) (nb:Nat) (fx:List Fix) (st':St) (hy:TriO2 P ops l Q st' ρ) (h:fin P ts nb fx st = some st':=by kernel_rfl):TriO2 P ops l Q st ρ:=TriO2.fin ts nb fx hy h
/-! Lending. -/
theorem RepS.sc_eq {Sh:Nat → Prop} {u v:Value} (h:RepS w Sh (.sc u) v):v = u:=by cases h; rfl
/-- A row told apart, whose cells may be rows told apart, reads as shared. -/
theorem row_lent {α : Type} {e : TypeId} {s : Nat} {u : Value} {o : Option Nat} {S' : Nat → Prop} {z : List α} {eV eS : α → List PC} (he : P.cellsOf e = s) (hu : RepOwn P w (fun _ => False) e (z.map eV) u o) (hg : ∀ k, o = some k → S' k) (hlen : ∀ p ∈ z, (eS p).length = s)
    (hcell:∀ p ∈ z,∀ (j:Nat) (x':PC),(eS p)[j]? = some x' → ∃ x,(eV p)[j]? = some x ∧ ∀ v,RepS w (fun _=>False) x v → RepS w S' x' v):RepS w S' (.sl s (z.map eS)) u:=by
  subst he
  refine hu.shareD hg (by simp) (fun el hel=>by obtain ⟨p,hp,rfl⟩:=List.mem_map.1 hel; exact hlen p hp) fun i j el' x' hi hj=>?_
  rw [List.getElem?_map,Option.map_eq_some_iff] at hi
  obtain ⟨p,hp,rfl⟩:=hi
  obtain ⟨x,hx,h⟩:=hcell p (List.mem_of_getElem? hp) j x' hj
  exact ⟨eV p,x,by rw [List.getElem?_map,hp]; rfl,hx,h⟩
theorem RepS.bareS {Sh Sh':Nat → Prop} {x:PC} {v:Value} (hs:x.scalar = true) (h:RepS w Sh x v):RepS w Sh' x v:=scalar_rep hs h
theorem fb2 {c:Code} (st':St) (hy:Tri2 P c Q st' ρ) (h:frzBB st = some st':=by kernel_rfl):Tri2 P c Q st ρ:=Tri2.old (Turns.frzB h) hy
/-! Lists of rows, beside lists of what they stand for. -/
theorem perm_set {α β:Type} {f:α → β} {n o:α}:∀ {z:List α} {i:Nat},z[i]? = some o → (f n :: z.map f).Perm ((z.set i n).map f ++ [f o])
  | [],i,h=>by simp at h
  | x :: z,0,h=>by
    simp only [List.getElem?_cons_zero,Option.some.injEq] at h
    subst h
    simp only [List.map_cons,List.set_cons_zero,List.cons_append]
    exact List.Perm.cons _ (List.perm_append_singleton _ _).symm
  | x :: z,i + 1,h=>by
    simp only [List.getElem?_cons_succ] at h
    simp only [List.map_cons,List.set_cons_succ,List.cons_append]
    exact (List.Perm.swap _ _ _).trans (List.Perm.cons _ (perm_set h))
theorem perm_at {α β:Type} {f:α → β} {o:α}:∀ {z:List α} {i:Nat},z[i]? = some o → (z.map f).Perm (f o :: (z.eraseIdx i).map f)
  | [],i,h=>by simp at h
  | x :: z,0,h=>by
    simp only [List.getElem?_cons_zero,Option.some.injEq] at h
    subst h
    exact List.Perm.refl _
  | x :: z,i + 1,h=>by
    simp only [List.getElem?_cons_succ] at h
    simp only [List.map_cons,List.eraseIdx_cons_succ]
    exact (List.Perm.cons _ (perm_at h)).trans (List.Perm.swap _ _ _)
theorem perm_back {α β:Type} {f:α → β} {n:α} {z:List α} {i:Nat} (h:i < z.length):(f n :: (z.eraseIdx i).map f).Perm ((z.set i n).map f):=by
  have h1:(z.set i n)[i]? = some n:=by simp [h]
  have h2:=(perm_at (f:=f) h1).symm
  rwa [List.eraseIdx_set_eq] at h2
end
end Go.Proofs.YtoclajfeeebbbadGreatDoor.E
/- The engine, part AL: rows told apart: a function that writes into a row of its first argument's gives it back; results in boxes. Plain lemmas; no program. -/
set_option linter.unusedVariables false
set_option linter.unusedSectionVars false
set_option linter.unusedSimpArgs false
namespace Go.Proofs.YtoclajfeeebbbadGreatDoor.E
open Go.RowKit
variable [LaidFacts]
section
variable {P:Program} {st:St} {a:Act} {w:World} {r:Rs} {ρ:List Rw} {Q:Exit → St → List Rw → Prop}
/-- What temporaries stay, and their values, are told anew. -/
theorem Inv.kap (hi:Inv P st a w r) {fx:List Nat} {κ:Nat → Value} (h:∀ t,inB t fx = true → a.tmps[t]? = some (κ t)):Inv P { st with fx:=fx } a w { r with κ:=κ }:=hi.hold h
theorem focus_arg {vals : Array Value} {u : Value} {e : TypeId} {ys : List (List PC)} {rest : List PV} {ρa : List Rw} (hi : Inv P ⟨(⟨.one, [.sc u]⟩ :: rest).length, enum 0 (⟨.one, [.sc u]⟩ :: rest), [], 0, []⟩ ⟨vals, []⟩ w r) (hh : Held P w r 0 (ρa ++ [⟨u, e, ys⟩])) :
    ∃ r',Inv P ⟨(⟨.one,[.own e ys]⟩ :: rest).length,enum 0 (⟨.one,[.own e ys]⟩ :: rest),[],0,[0]⟩ ⟨vals,[]⟩ w r' ∧ Held P w r' 0 ρa ∧ r'.Sh = r.Sh ∧ r'.κ = (fun t=>vals.getD t undef) ∧ vals[0]? = some u ∧ (∀ g,X2 r' 0 ρa g → X2 r 0 (ρa ++ [⟨u,e,ys⟩]) g):=by
  obtain ⟨r1,h1,h2,h3,h4,h5,h6⟩:=focus_at (ρ1:=ρa) (ρ2:=[]) (t:=0) (c:=0) (x:=⟨u,e,ys⟩) hi hh rfl
  have hs:(⟨(⟨.one,[.sc u]⟩ :: rest).length,enum 0 (⟨.one,[.sc u]⟩ :: rest),[],0,[]⟩:St).setAt (.t 0 0) (.own e ys) = ⟨(⟨.one,[.own e ys]⟩ :: rest).length,enum 0 (⟨.one,[.own e ys]⟩ :: rest),[],0,[]⟩:=by
    simp [St.setAt,St.get,enum,look,St.rep,setL]
  rw [hs] at h2 h3 h4
  rw [List.append_nil] at h3 h4
  have hv:vals[0]? = some u:=by
    obtain ⟨v,hv,hfit⟩:=hi.tm 0 ⟨.one,[.sc u]⟩ rfl
    have hc:=hi.cell (.t 0 0) (.sc u) rfl
    obtain ⟨_,hc⟩:=hc
    have hv:vals[0]? = some v:=hv
    have ha:alpha ⟨vals,[]⟩ w r (.t 0 0) = (flat v).getD 0 undef:=by simp [alpha,Array.getD_eq_getD_getElem?,hv]
    rw [ha,flat_one hfit.2] at hc
    have hc:RepF w r.Sh r.β 0 (.sc u) v:=hc
    have:v = u:=by
      cases hc with
      | s h=>exact h.sc_eq
    rw [hv,this]
  refine ⟨{ r1 with κ:=fun t=>vals.getD t undef },h2.kap (fun t ht=>?_),⟨h3.own,h3.one,h3.off⟩,h5,rfl,hv,fun g hg=>?_⟩
  · have ht0:t = 0:=by simpa using inB_spec ht
    subst ht0
    show vals[0]? = some (vals.getD 0 undef)
    simp [Array.getD_eq_getD_getElem?,hv]
  · rcases h4.x g hg with h | h
    · exact h
    · have : g < w.heap.size := by
        rcases hg with hg | hg
        · exact h2.X_lt (g:=g) hg
        · exact h3.lt hg
      omega
theorem Step2.pre {w w':World} {r r1 r':Rs} {ρ0 ρ1 ρ':List Rw} (h:Step2 0 w r1 0 ρ1 w' r' 0 ρ') (hS:r1.Sh = r.Sh) (hX:∀ g,X2 r1 0 ρ1 g → X2 r 0 ρ0 g):Step2 0 w r 0 ρ0 w' { r' with κ:=r.κ } 0 ρ' :=
  ⟨h.os,h.tape,h.output,h.size,fun g hg hx=>h.block g hg (fun h'=>hx (hX g h')),fun g hg=>h.sh g (hS ▸ hg),fun g hg=>(h.shNew g hg).imp (fun h'=>hS ▸ h') (fun h'=>h'.imp (hX g) id),fun g hg=>(h.x g hg).imp (hX g) id,fun b hb=>by omega,rfl,h.ty⟩
theorem alpha_u {a:Act} {w:World} {r:Rs} {t:Nat} {u:Value} (h:a.tmps[t]? = some u) (h1:u.oneCell' = true):alpha a w r (.t t 0) = u:=by
  simp [alpha,Array.getD_eq_getD_getElem?,h,flat_one h1]
theorem Step2.le0 {m:Nat} {w w':World} {r r':Rs} {nb nb':Nat} {ρ ρ':List Rw} (h:Step2 m w r nb ρ w' r' nb' ρ'):Step2 0 w r nb ρ w' r' nb' ρ' :=
  ⟨h.os,h.tape,h.output,h.size,h.block,h.sh,h.shNew,h.x,fun b hb=>by omega,h.κ,h.ty⟩
/-- A function that writes a row of its first argument's, and gives it back. -/
theorem Fn2.ofGK {f : FuncId} {u : Value} {e : TypeId} {ys ys' : List (List PC)} {rest : List PV} {res : PV} (h : FnG P f (⟨.one, [.own e ys]⟩ :: rest) [0] [] res [.own e ys'] []) (hflat : res.cs.all PC.flatB = true) (hys : flatXs ys' = true) :
    Fn2 P f (⟨.one,[.sc u]⟩ :: rest) [⟨u,e,ys⟩] (fun res' ρ'=>res' = res ∧ ρ' = [⟨u,e,ys'⟩]):=by
  intro vals w r hi hh
  have hu1:u.oneCell' = true:=by
    obtain ⟨v,hv,hfit⟩:=hi.tm 0 ⟨.one,[.sc u]⟩ rfl
    obtain ⟨_,_,_,_,_,hv',_⟩:=focus_arg (ρa:=[]) hi hh
    have hv:vals[0]? = some v:=hv
    rw [hv'] at hv
    cases hv
    exact hfit.2
  obtain ⟨r1,h2,h3,h5,hκ,hv,hX⟩:=focus_arg (ρa:=[]) hi hh
  refine (h vals w r1 h2).mono fun e' w' ⟨v,r2,he,hinv,hstep⟩=>?_
  have hinv':Inv P ⟨2,[(0,res),(1,⟨.one,[.own e ys']⟩)],[],0,[]⟩ ⟨#[v,u],[]⟩ w' r2:=by
    have e1:vals.getD 0 undef = u:=by simp [Array.getD_eq_getD_getElem?,hv]
    have:(⟨(v :: ([0]:List Nat).map fun j=>vals.getD j undef).toArray,[]⟩:Act) = ⟨#[v,u],[]⟩:=by
      show (⟨(v :: [vals.getD 0 undef]).toArray,[]⟩:Act) = _
      rw [e1]
    rw [this] at hinv
    exact hinv
  obtain ⟨v1,e1,h0,r3,k1,k2,k3,k4,k5⟩:=adopt_at (p:=.t 1 0) hinv' (Held.nil (P:=P)) rfl hys
  have hv1:v1 = u:=e1.trans (alpha_u rfl hu1)
  subst hv1
  have hs:(⟨2,[(0,res),(1,⟨.one,[.own e ys']⟩)],[],0,[]⟩:St).setAt (.t 1 0) (.sc v1) = ⟨2,[(0,res),(1,⟨.one,[.sc v1]⟩)],[],0,[]⟩:=by
    simp [St.setAt,St.get,look,St.rep,setL]
  rw [hs] at k3 k4 k5
  obtain ⟨r4,g1,g2,g3,g4,g5⟩:=k3.leave (ts:=[0]) (res:=res) rfl (by simp) (n:=0) (Nat.zero_le _) (List.all_eq_true.2 fun x hx=>flatB_free x (List.all_eq_true.1 hflat x hx)) (by simp)
  have g1:Inv P ⟨1,[(0,res)],[],0,[]⟩ ⟨#[v],[]⟩ w' r4:=g1
  have hst:Step2 0 w r1 0 [] w' r4 0 [⟨v1,e,ys'⟩]:=((Held.nil (P:=P)).step hstep).2.trans (k5.trans (Step2.less (m:=0) g2 g5 (fun b hb=>by omega) g4))
  exact ⟨v,{ r4 with κ:=r.κ },res,_,he,⟨rfl,rfl⟩,g1.kap (fun t ht=>by cases ht),⟨(k4.less g2 g5).own,(k4.less g2 g5).one,(k4.less g2 g5).off⟩,hst.pre h5 hX⟩
/-- The end of a body that gives its first argument's row back. -/
def EndsK (t:Nat) (res:PV) (e:TypeId) (ys:List (List PC)) (e':Exit) (st:St):Prop :=
  (e' = .normal ∨ e' = .ret) ∧ (st.get t,st.get 0,st.fx,st.bx) = (some res,some ⟨.one,[.own e ys]⟩,[0],[]) ∧ res.cs.all PC.flatB = true ∧ t ≠ 0 ∧ flatXs ys = true
theorem Fn2.bodyK {f : FuncId} {fn : Func} {c : Code} {u : Value} {e : TypeId} {xs : List (List PC)} {rest : List PV} {ρa : List Rw} {R : PV → List Rw → Prop} (t : Nat) (hf : P.funcs[f]? = some fn)
    (h:Tri2 P c (fun e' st ρ=>∃ res ys,EndsK t res e ys e' st ∧ R res (ρ ++ [⟨u,e,ys⟩])) ⟨fn.ntmps,enum 0 (⟨.one,[.own e xs]⟩ :: rest),[],0,[0]⟩ ρa) (hb:fn.body = some c:=by rfl) (hres:fn.results = #[ResultVar.tmp t]:=by rfl)
    (hn:Nat.ble (rest.length + 1) fn.ntmps = true:=by rfl):Fn2 P f (⟨.one,[.sc u]⟩ :: rest) (ρa ++ [⟨u,e,xs⟩]) R:=by
  intro vals w r hi hh
  obtain ⟨v0,hv0,hfit⟩:=hi.tm 0 ⟨.one,[.sc u]⟩ rfl
  obtain ⟨r1,h2,h3,h5,hκ,hv,hX⟩:=focus_arg hi hh
  have hu1:u.oneCell' = true:=by
    have hv0:vals[0]? = some v0:=hv0
    rw [hv] at hv0
    cases hv0
    exact hfit.2
  refine calls_of_wp hf hb ?_
  refine Code.wp_mono (fun e1 a' w' k=>?_) (h _ w r1 (start_at h2 (Nat.le_of_ble_eq_true hn)) h3)
  obtain ⟨st',r',ρ',⟨res,ys,⟨he,hq,hfl,ht,hys⟩,hR⟩,hm,hinv,hheld,hstep⟩:=k
  simp only [Prod.mk.injEq] at hq
  obtain ⟨hr,hg0,hfx,hbx⟩:=hq
  obtain ⟨v1,e1,h0,r3,k1,k2,k3,k4,k5⟩:=adopt_at (p:=.t 0 0) hinv hheld (show st'.at (.t 0 0) = some (.own e ys) by simp only [St.at,hg0]; rfl) hys
  have hu:a'.tmps[0]? = some u:=by
    have h6:=hinv.fx 0 (by rw [hfx]; rfl)
    rw [h6,hstep.κ,hκ]
    simp [Array.getD_eq_getD_getElem?,hv]
  have hv1:v1 = u:=e1.trans (alpha_u hu hu1)
  subst hv1
  have hget:(st'.setAt (.t 0 0) (.sc v1)).get t = some res:=by
    simp only [St.setAt,hg0,St.get_rep]
    rw [if_neg ht]; exact hr
  have hbx2:(st'.setAt (.t 0 0) (.sc v1)).bx = []:=by simp only [St.setAt,hg0]; exact hbx
  have hl2:(st'.setAt (.t 0 0) (.sc v1)).bx.length = 0:=by rw [hbx2]; rfl
  obtain ⟨r4,g1,g2,g3,g4,g5⟩:=k3.leave (ts:=[t]) (res:=res) hget (by simp) (n:=0) (Nat.zero_le _) (List.all_eq_true.2 fun x hx=>flatB_free x (List.all_eq_true.1 hfl x hx)) (by simp)
  have g1:Inv P ⟨1,[(0,res)],[],0,[]⟩ ⟨#[a'.tmps.getD t undef],[]⟩ w' r4:=by
    rw [List.take_zero] at g1; exact g1
  have hrun:=run_results (P:=P) (fn:=fn) (ts:=[t]) hres (by simp) a'.tmps w'
  rw [hl2] at k4 k5 g5
  have hb0:st'.bx.length = 0:=by rw [hbx]; rfl
  rw [hb0] at hstep k5
  have hst:=hstep.trans ((k5.le0).trans (Step2.less (m:=0) g2 g5 (fun b hb=>by omega) g4))
  have hfin:∀ P':Prop,P' → P':=fun _ h=>h
  have hh4:=k4.less g2 g5
  rcases he with rfl | rfl
  · exact ⟨hinv.defers,_,hrun,_,{ r4 with κ:=r.κ },res,_,rfl,hR,g1.kap (fun t ht=>by cases ht),⟨hh4.own,hh4.one,hh4.off⟩,hst.pre h5 hX⟩
  · exact ⟨hinv.defers,_,hrun,_,{ r4 with κ:=r.κ },res,_,rfl,hR,g1.kap (fun t ht=>by cases ht),⟨hh4.own,hh4.one,hh4.off⟩,hst.pre h5 hX⟩
/-- Results, some in boxes. -/
theorem Fn2.bodyR {f : FuncId} {fn : Func} {c : Code} {args : List PV} {ρa : List Rw} {R : PV → List Rw → Prop} (rv : List (Nat × Option Nat)) (hf : P.funcs[f]? = some fn) (h : Tri2 P c (fun e st ρ => ∃ res, EndsR P rv [] res [] [] e st ∧ R res ρ) ⟨fn.ntmps, enum 0 args, [], 0, []⟩ ρa)
    (hb:fn.body = some c:=by rfl) (hres:fn.results = (rvOf rv).toArray:=by rfl) (hl:rv.length ≤ 3:=by decide) (hnd:(rv.map Prod.fst).Nodup:=by decide) (hn:Nat.ble args.length fn.ntmps = true:=by rfl):Fn2 P f args ρa R:=by
  intro vals w r hi hh
  refine calls_of_wp hf hb ?_
  refine Code.wp_mono (fun e a' w' k=>?_) (h _ w r (start_at hi (Nat.le_of_ble_eq_true hn)) hh)
  obtain ⟨st1,r1,ρ1,⟨res,⟨he,st2,hld,_,hr,hfr,hle,htake,hbf,hfx⟩,hR⟩,hm1,hinv1,hheld1,hstep1⟩:=k
  obtain ⟨a2,r2,hinv,hbx,hm2,hn2,hfx2,hSh,hβ,hκ,hγ,hdf,hvals,hother⟩:=loads_spec rv hinv1 hld hnd
  have hr':resultsOf st2 (rv.map Prod.fst) = some res:=by
    simp only [List.map_nil,mapO] at hr
    split at hr
    · rename_i y m h1 h2
      cases hr; exact h1
    · cases hr
  have hfree:res.cs.all (·.free 0) = true:=by
    simp only [List.all_cons,Bool.and_eq_true] at hfr
    exact hfr.1
  obtain ⟨r3,g1,g2,g3,g4,g5⟩:=hinv.leave (ts:=rv.map Prod.fst) hr' hnd (n:=0) (Nat.zero_le _) hfree (by simp)
  rw [List.take_zero] at g1
  have hX2:∀ g,r2.X st1.bx.length g → r1.X st1.bx.length g:=fun g hg=>by
    rcases hg with ⟨p,hp⟩ | ⟨b,hb,hbe⟩
    · exact .inl ⟨p,hγ p g hp⟩
    · exact .inr ⟨b,hb,by rw [← hβ]; exact hbe⟩
  have hX3:∀ g,r3.X 0 g → r1.X st1.bx.length g:=fun g hg=>hX2 g (by have:=g5 g hg; rw [hbx] at this; exact this)
  have hS3:r3.Sh = r1.Sh:=g2.trans hSh
  have hstep':=hstep1.trans (Step2.less (m:=0) hS3 hX3 (fun b hb=>by omega) (g4.trans hκ))
  have hrun:=run_resultsR (P:=P) hres hl (val:=fun t=>a2.tmps.getD t undef) hvals
  rw [show (rv.map fun x=>a2.tmps.getD x.1 undef) = (rv.map Prod.fst).map fun t=>a2.tmps.getD t undef by rw [List.map_map]; rfl,← resV_vals] at hrun
  have hd1:a'.defers = []:=by rw [← hdf]; exact hinv.defers
  rcases he with rfl | rfl
  · exact ⟨hd1,_,hrun,_,r3,res,ρ1,rfl,hR,g1,hheld1.less hS3 hX3,hstep'⟩
  · exact ⟨hd1,_,hrun,_,r3,res,ρ1,rfl,hR,g1,hheld1.less hS3 hX3,hstep'⟩
end
end Go.Proofs.YtoclajfeeebbbadGreatDoor.E
/- The engine, part AM: rows told apart are lent: while they are, what is known of the world tells how they read; every header keeps its value. Plain lemmas; no program. -/
set_option linter.unusedVariables false
set_option linter.unusedSectionVars false
set_option linter.unusedSimpArgs false
namespace Go.Proofs.YtoclajfeeebbbadGreatDoor.E
open Go.RowKit
/-- Headers, and how they read. -/
class Lent where
  env:List (Value × PC)
def LentOK [Lent] (w:World) (Sh:Nat → Prop):Prop:=∀ p ∈ Lent.env,RepS w Sh p.2 p.1
theorem LentOK.mono [Lent] {w w':World} {Sh Sh':Nat → Prop} (hS:∀ g,Sh g → Sh' g) (hw:∀ g,Sh g → w'.heap[g]? = w.heap[g]?) (h:LentOK w Sh):LentOK w' Sh':=fun p hp=>(h p hp).mono hS hw
section
variable {P:Program} {st:St} {a:Act} {w:World} {r:Rs} {ρ:List Rw} {L1 L2:LaidFacts} {Q:Exit → St → List Rw → Prop}
theorem Inv.re (hi:@Inv L1 P st a w r) (hl:@LaidFacts.LW L2 w r.Sh):@Inv L2 P st a w r:=by
  obtain ⟨h1,h2,h3,h4,h5,h6,h7,h8,h9,h10,h11,h12,h13,h14⟩:=hi
  exact @Inv.mk L2 P st a w r h1 h2 h3 h4 h5 h6 h7 h8 h9 h10 h11 h12 hl h14
def TriL2 (L1 L2:LaidFacts) (P:Program) (a0:Act) (w0:World) (r0:Rs) (ρ:List Rw) (st0:St) (c:Code) (Q:Exit → St → List Rw → Prop) (st:St):Prop :=
  ∀ a w r,@Inv L2 P st a w r → Step st0.m w0 (r0.lent ρ a0) st0.bx.length w r st.bx.length → c.wp P (@Post2 L1 P st0.m w0 r0 st0.bx.length ρ Q) a w
variable {a0:Act} {w0:World} {r0:Rs} {st0:St}
theorem lent_heap (hi0:@Inv L1 P st0 a0 w0 r0) (hh0:Held P w0 r0 st0.bx.length ρ) {nb:Nat} (hs:Step st0.m w0 (r0.lent ρ a0) st0.bx.length w r nb):∀ g,r0.Sh g ∨ g ∈ bks ρ → w.heap[g]? = w0.heap[g]?:=fun g hg=>by
  refine hs.block g ?_ fun hx=>?_
  · rcases hg with hg | hg
    · exact (@Inv.sh L1 _ _ _ _ _ hi0 g hg).1
    · exact hh0.lt hg
  · have hX0:r0.X st0.bx.length g:=hx
    rcases hg with hg | hg
    · exact @Inv.not_sh L1 _ _ _ _ _ hi0 _ hX0 hg
    · exact (hh0.off g hg).2 hX0
theorem TriL2.sq {x y:Code} (hi0:@Inv L1 P st0 a0 w0 r0) (hh0:Held P w0 r0 st0.bx.length ρ) (h:@Tri L2 P x (Ex (fun st'=>TriL2 L1 L2 P a0 w0 r0 ρ st0 y Q st') (fun e st'=>Q e { st' with fx:=[] } [])) st) (hm:st.m = st0.m:=by kernel_rfl):TriL2 L1 L2 P a0 w0 r0 ρ st0 (.seq x y) Q st:=by
  intro a w r hi hs
  refine wp_seq (Code.wp_mono (fun e a' w' k=>?_) (h a w r hi))
  obtain ⟨st',r',h1,h2,h3,h4⟩:=k
  rw [hm] at h4 h2
  have h5:=hs.trans h4
  have out:Q e { st' with fx:=[] } [] → @Post2 L1 P st0.m w0 r0 st0.bx.length ρ Q e a' w':=fun hq=>by
    have hl:@LaidFacts.LW L1 w' r'.Sh:=@LaidFacts.mono L1 _ _ _ _ (fun g hg=>h5.sh g (.inl hg)) (fun g hg=>lent_heap hi0 hh0 h5 g (.inl hg)) (@Inv.lw L1 _ _ _ _ _ hi0)
    have h6:@Inv L1 P { st' with fx:=[] } a' w' { r' with κ:=r0.κ }:=@Inv.hold L1 _ _ _ _ _ (h3.re hl) [] r0.κ (fun t ht=>by cases ht)
    refine ⟨{ st' with fx:=[] },{ r' with κ:=r0.κ },[],hq,h2,h6,Held.nil,⟨h5.os,h5.tape,h5.output,h5.size,fun g hg hx=>h5.block g hg fun h=>hx (.inl h),fun g hg=>h5.sh g (.inl hg),fun g hg=>?_,fun g hg=>?_,h5.β,rfl,h5.ty⟩⟩
    · rcases h5.shNew g hg with h | h | h
      · exact h.elim .inl fun h=>.inr (.inl (.inr h))
      · exact .inr (.inl (.inl h))
      · exact .inr (.inr h)
    · rcases hg with hg | hg
      · exact (h5.x g hg).imp .inl id
      · cases hg
  cases e
  case normal=>exact h1 a' w' r' h3 h5
  all_goals exact out h1
theorem TriL2.end {c:Code} (hi0:@Inv L1 P st0 a0 w0 r0) (hh0:Held P w0 r0 st0.bx.length ρ) (h:@Tri L2 P c (fun e st'=>Q e { st' with fx:=[] } []) st) (hm:st.m = st0.m:=by kernel_rfl):TriL2 L1 L2 P a0 w0 r0 ρ st0 c Q st:=by
  intro a w r hi hs
  refine Code.wp_mono (fun e a' w' k=>?_) (h a w r hi)
  obtain ⟨st',r',hq,h2,h3,h4⟩:=k
  rw [hm] at h4 h2
  have h5:=hs.trans h4
  have hl:@LaidFacts.LW L1 w' r'.Sh:=@LaidFacts.mono L1 _ _ _ _ (fun g hg=>h5.sh g (.inl hg)) (fun g hg=>lent_heap hi0 hh0 h5 g (.inl hg)) (@Inv.lw L1 _ _ _ _ _ hi0)
  have h6:@Inv L1 P { st' with fx:=[] } a' w' { r' with κ:=r0.κ }:=@Inv.hold L1 _ _ _ _ _ (h3.re hl) [] r0.κ (fun t ht=>by cases ht)
  refine ⟨{ st' with fx:=[] },{ r' with κ:=r0.κ },[],hq,h2,h6,Held.nil,⟨h5.os,h5.tape,h5.output,h5.size,fun g hg hx=>h5.block g hg fun h=>hx (.inl h),fun g hg=>h5.sh g (.inl hg),fun g hg=>?_,fun g hg=>?_,h5.β,rfl,h5.ty⟩⟩
  · rcases h5.shNew g hg with h | h | h
    · exact h.elim .inl fun h=>.inr (.inl (.inr h))
    · exact .inr (.inl (.inl h))
    · exact .inr (.inr h)
  · rcases hg with hg | hg
    · exact (h5.x g hg).imp .inl id
    · cases hg
/-- It is lent. -/
theorem Tri2.enter {c : Code} (keep : List Nat) (hL : ∀ w (r : Rs), Held P w r st.bx.length ρ → @LaidFacts.LW L1 w r.Sh → @LaidFacts.LW L2 w (fun g => r.Sh g ∨ g ∈ bks ρ))
    (h:∀ a w r,@Inv L1 P st a w r → Held P w r st.bx.length ρ → TriL2 L1 L2 P a w r ρ st c Q { st with fx:=keep }) (hp:(st.fx,keep.all fun k=>(st.get k).isSome) = ([],true):=by kernel_rfl):@Tri2 L1 P c Q st ρ:=by
  intro a w r hi hh
  simp only [Prod.mk.injEq] at hp
  obtain ⟨hfx,hk⟩:=hp
  have h1:=@Inv.grow L1 _ _ _ _ _ hi (fun g=>r.Sh g ∨ g ∈ bks ρ) (fun _ h=>.inl h) (fun g hg=>hg.imp id fun h=>⟨hh.lt h,(hh.off g h).2⟩)
  have h3:=@Inv.hold L1 _ _ _ _ _ h1 keep (fun t=>a.tmps.getD t undef) (fun k hkk=>by
    have:=List.all_eq_true.1 hk k (inB_spec hkk)
    obtain ⟨pv,hpv⟩:=Option.isSome_iff_exists.1 this
    obtain ⟨v,hv,_⟩:=@Inv.tm L1 _ _ _ _ _ hi k pv hpv
    simp [Array.getD_eq_getD_getElem?,hv])
  have h4:@Inv L2 P { st with fx:=keep } a w (r.lent ρ a):=Inv.re h3 (hL w r hh (@Inv.lw L1 _ _ _ _ _ hi))
  exact h a w r hi hh a w _ h4 (Step.refl ..)
/-! Behind it. -/
def okC:PC → Bool
  | .sc _ | .er | .nl | .ref .. | .own .. | .dead=>true
  | _=>false
def ownQ:List PC → List Prop
  | []=>[]
  | .own _ xs :: l=>(flatXs xs = true) :: ownQ l
  | _ :: l=>ownQ l
theorem ownQ_at {l:List PC} {e:TypeId} {xs:List (List PC)} (hq:AllP (ownQ l)) (h:PC.own e xs ∈ l):flatXs xs = true:=by
  induction l with
  | nil=>cases h
  | cons y l ih =>
    rcases List.mem_cons.1 h with rfl | h2
    · exact hq.1
    · clear h
      cases y
      case own e' xs'=>exact ih hq.2 h2
      all_goals exact ih hq h2
theorem AllP_l:∀ {l m:List Prop},AllP (l ++ m) → AllP l ∧ AllP m
  | [],_,h=>⟨trivial,h⟩
  | _ :: _,_,h=>⟨⟨h.1,(AllP_l h.2).1⟩,(AllP_l h.2).2⟩
theorem okC_rep [LaidFacts] {r':Rs} {st st':St} {al al':Place → Value} {x:PC} {v:Value} {g:Option Nat} (hx:okC x = true) (ho:∀ e xs,x = .own e xs → flatXs xs = true) (hβ:∀ b,b < st.bx.length → b < st'.bx.length ∧ r'.β b = r.β b) (h:RepC P w r st al x v g):RepC P w r' st' al' x v g:=by
  cases x <;> simp only [okC] at hx <;> try (cases hx; done)
  case own e xs=>exact RepOwn.bare (ho e xs rfl) h
  case dead=>exact h
  case ref b off =>
    obtain ⟨h1,h2⟩:=h
    refine ⟨h1,?_⟩
    cases h2 with
    | s h=>cases h
    | ref h=>rw [← (hβ _ h).2]; exact .ref (hβ _ h).1
  all_goals
    obtain ⟨h1,h2⟩:=h
    refine ⟨h1,?_⟩
    cases h2 with
    | s h=>exact .s (scalar_rep rfl h)
def backT (st0 st:St) (keep ts:List Nat):St :=
  { st with tm := pickT (fun t => match inB t keep with
      | true=>match st0.get t with
        | some pv=>match pv.cs.all PC.stays with
          | true=>some pv
          | false=>none
        | none=>none
      | false=>match st.get t with
        | some pv=>match pv.cs.all okC with
          | true=>some pv
          | false=>none
        | none=>none) ts,fx:=[] }
def backQ (st:St) (keep:List Nat):List Nat → List Prop
  | []=>[]
  | t :: l=>match inB t keep,st.get t with
    | false,some pv=>ownQ pv.cs ++ backQ st keep l
    | _,_=>backQ st keep l
def boxQ:List (List PC) → List Prop
  | []=>[]
  | cs :: l=>ownQ cs ++ boxQ l
theorem backQ_at {st:St} {keep:List Nat}:∀ {l:List Nat} {t:Nat} {pv:PV},AllP (backQ st keep l) → t ∈ l → inB t keep = false → st.get t = some pv → AllP (ownQ pv.cs)
  | [],t,pv,_,h,_,_=>by cases h
  | k :: l,t,pv,hq,h,hk,hg=>by
    rcases List.mem_cons.1 h with rfl | h
    · simp only [backQ,hk,hg] at hq
      exact (AllP_l hq).1
    · simp only [backQ] at hq
      split at hq
      · exact backQ_at (AllP_l hq).2 h hk hg
      · exact backQ_at hq h hk hg
theorem boxQ_at:∀ {l:List (List PC)} {cs:List PC},AllP (boxQ l) → cs ∈ l → AllP (ownQ cs)
  | [],_,_,h=>by cases h
  | c :: l,cs,hq,h=>by
    rcases List.mem_cons.1 h with rfl | h
    · exact (AllP_l hq).1
    · exact boxQ_at (AllP_l hq).2 h
theorem TriL2.back {c : Code} (ts : List Nat) (hi0 : @Inv L1 P st0 a0 w0 r0) (hh0 : Held P w0 r0 st0.bx.length ρ) (st' : St) (q : List Prop) (hq : AllP q) (h : @Tri2 L1 P c Q st' ρ)
    (hb:(backT st0 st st.fx ts,backQ st st.fx ts ++ boxQ st.bx,st.bx.all (fun cs=>cs.all okC),st.m,st0.fx) = (st',q,true,st0.m,[]):=by kernel_rfl):TriL2 L1 L2 P a0 w0 r0 ρ st0 c Q st:=by
  intro a w r hi hs
  simp only [Prod.mk.injEq] at hb
  obtain ⟨rfl,rfl,hbox,hm,hfx0⟩:=hb
  obtain ⟨hqt,hqb⟩:=AllP_l hq
  have hheap:=lent_heap hi0 hh0 hs
  have hget:∀ t pv,(backT st0 st st.fx ts).get t = some pv → (inB t st.fx = true ∧ st0.get t = some pv ∧ pv.cs.all PC.stays = true) ∨ (inB t st.fx = false ∧ st.get t = some pv ∧ pv.cs.all okC = true ∧ AllP (ownQ pv.cs)):=fun t pv ht=>by
    have h1:=pickT_look ht
    split at h1
    · rename_i hin
      split at h1
      · rename_i pv' hg
        split at h1
        · cases h1; exact .inl ⟨hin,hg,‹_›⟩
        · cases h1
      · cases h1
    · rename_i hin
      split at h1
      · rename_i pv' hg
        split at h1
        · cases h1; exact .inr ⟨hin,hg,‹_›,backQ_at hqt (pickT_mem ht) hin hg⟩
        · cases h1
      · cases h1
  have hkv:∀ t pv,inB t st.fx = true → st0.get t = some pv → ∃ v,a0.tmps[t]? = some v ∧ a.tmps[t]? = some v ∧ pv.sh.fits pv.cs.length v:=fun t pv hin hg=>by
    obtain ⟨v,hv,hfit⟩:=@Inv.tm L1 _ _ _ _ _ hi0 t pv hg
    refine ⟨v,hv,?_,hfit⟩
    have h1:=@Inv.fx L2 _ _ _ _ _ hi t hin
    rw [h1,hs.κ]
    simp [Rs.lent,Array.getD_eq_getD_getElem?,hv]
  let B:=backT st0 st st.fx ts
  have hBbx:B.bx = st.bx:=rfl
  let r':Rs:={ Sh:=r0.Sh,β:=r.β,κ:=r0.κ,γ:=fun p=>match p with
    | .t t c=>match inB t st.fx with
      | true=>none
      | false=>match B.get t with
        | some _=>r.γ (.t t c)
        | none=>none
    | .b b c=>r.γ (.b b c) }
  have hγ:∀ p g,r'.γ p = some g → r.γ p = some g ∧ ((∃ t c pv,p = .t t c ∧ inB t st.fx = false ∧ B.get t = some pv) ∨ ∃ b c,p = .b b c):=fun p g hp=>by
    cases p with
    | t t c =>
      simp only [r'] at hp
      split at hp
      · cases hp
      · rename_i hin
        split at hp
        · rename_i pv hg
          exact ⟨hp,.inl ⟨t,c,pv,rfl,hin,hg⟩⟩
        · cases hp
    | b b c=>exact ⟨hp,.inr ⟨b,c,rfl⟩⟩
  have hSh:∀ g,r0.Sh g → r.Sh g:=fun g hg=>hs.sh g (.inl hg)
  have hβ:∀ b,b < st.bx.length → b < B.bx.length ∧ r'.β b = r.β b:=fun b hb=>⟨hb,rfl⟩
  have hlw:@LaidFacts.LW L1 w r0.Sh:=@LaidFacts.mono L1 _ _ _ _ (fun _ h=>h) (fun g hg=>hheap g (.inl hg)) (@Inv.lw L1 _ _ _ _ _ hi0)
  have hboxat:∀ b c x,st.at (.b b c) = some x → okC x = true ∧ ∀ e xs,x = .own e xs → flatXs xs = true:=fun b c x hx=>by
    obtain ⟨_,cs,h1,h2⟩:=St.at_box hx
    have hm1:=List.mem_of_getElem? h1
    have hm2:=List.mem_of_getElem? h2
    exact ⟨List.all_eq_true.1 (List.all_eq_true.1 hbox cs hm1) x hm2,fun e xs he=>ownQ_at (boxQ_at hqb hm1) (he ▸ hm2)⟩
  have hInv:@Inv L1 P B a w r':=by
    have e1:a.tmps.size = st.n:=@Inv.sz L2 _ _ _ _ _ hi
    have e2:st.m ≤ st.bx.length:=@Inv.m L2 _ _ _ _ _ hi
    have e3:=@Inv.bx L2 _ _ _ _ _ hi
    have e4:=@Inv.bb L2 _ _ _ _ _ hi
    have e5:=@Inv.defers L2 _ _ _ _ _ hi
    refine @Inv.mk L1 P B a w r' e1 e2 (fun t pv ht=>?_) e3 (fun p x hx=>?_) (fun p x q hx hq=>?_) (fun p g hg=>?_) (fun p q g hp hq=>@Inv.inj L2 _ _ _ _ _ hi p q g (hγ p g hp).1 (hγ q g hq).1) (fun p g b hp (hb:b < st.bx.length)=>@Inv.exb L2 _ _ _ _ _ hi p g b (hγ p g hp).1 hb) e4 (fun g hg=>?_) e5 hlw (fun _ h=>by cases h)
    · rcases hget t pv ht with ⟨hin,hg,_⟩ | ⟨_,hg,_⟩
      · obtain ⟨v,_,h2,h3⟩:=hkv t pv hin hg
        exact ⟨v,h2,h3⟩
      · exact @Inv.tm L2 _ _ _ _ _ hi t pv hg
    · cases p with
      | t t c =>
        obtain ⟨pv,ht,hxc⟩:=St.at_tmp hx
        rcases hget t pv ht with ⟨hin,hg,hall⟩ | ⟨hin,hg,hall,hoq⟩
        · obtain ⟨v,h1,h2,h3⟩:=hkv t pv hin hg
          have hst:=List.all_eq_true.1 hall x (List.mem_of_getElem? hxc)
          have hc:=@Inv.cell L1 _ _ _ _ _ hi0 (.t t c) x (by simp [St.at,hg,hxc])
          have e0:alpha a0 w0 r0 (.t t c) = (flat v).getD c undef:=by simp [alpha,Array.getD_eq_getD_getElem?,h1]
          have e1:alpha a w r' (.t t c) = (flat v).getD c undef:=by simp [alpha,Array.getD_eq_getD_getElem?,h2]
          have hγn:r'.γ (.t t c) = none:=by simp [r',hin]
          rw [e1,hγn]
          rw [e0] at hc
          cases x <;> simp only [PC.stays] at hst <;> try (cases hst; done)
          all_goals
            obtain ⟨_,hf⟩:=hc
            generalize (flat v).getD c undef = u at hf ⊢
            refine ⟨rfl,.s ?_⟩
            cases hf with
            | s hf=>exact hf.mono (fun _ h=>h) (fun g hg=>hheap g (.inl hg))
        · have hok:=List.all_eq_true.1 hall x (List.mem_of_getElem? hxc)
          have hc:=@Inv.cell L2 _ _ _ _ _ hi (.t t c) x (by simp [St.at,hg,hxc])
          have hγe:r'.γ (.t t c) = r.γ (.t t c):=by
            have:B.get t = some pv:=ht
            simp [r',hin,this]
          rw [hγe]
          exact okC_rep hok (fun e xs he=>ownQ_at hoq (he ▸ List.mem_of_getElem? hxc)) hβ hc
      | b b c =>
        obtain ⟨h1,h2⟩:=hboxat b c x hx
        exact okC_rep h1 h2 hβ (@Inv.cell L2 _ _ _ _ _ hi (.b b c) x hx)
    · have key : okC x = true ∨ PC.stays x = true := by
        cases p with
        | t t c =>
          obtain ⟨pv,ht,hxc⟩:=St.at_tmp hx
          rcases hget t pv ht with ⟨hin,hg,hall⟩ | ⟨hin,hg,hall,_⟩
          · exact .inr (List.all_eq_true.1 hall x (List.mem_of_getElem? hxc))
          · exact .inl (List.all_eq_true.1 hall x (List.mem_of_getElem? hxc))
        | b b c=>exact .inl (hboxat b c x hx).1
      cases x <;> simp [okC,PC.stays,PC.names] at key hq
    · obtain ⟨h1,h2⟩:=hγ p g hg
      obtain ⟨e,xs,hx⟩:=@Inv.live L2 _ _ _ _ _ hi _ g h1
      rcases h2 with ⟨t,c,pv,rfl,hin,hBg⟩ | ⟨b,c,rfl⟩
      · obtain ⟨pv2,h2,h3⟩:=St.at_tmp hx
        rcases hget t pv hBg with ⟨hin2,_,_⟩ | ⟨_,hg2,_⟩
        · rw [hin] at hin2; cases hin2
        · rw [hg2] at h2; cases h2
          exact ⟨e,xs,by simp [St.at,hBg,h3]⟩
      · exact ⟨e,xs,hx⟩
    · exact ⟨Nat.lt_of_lt_of_le (@Inv.sh L1 _ _ _ _ _ hi0 g hg).1 hs.size,fun p hp=>(@Inv.sh L2 _ _ _ _ _ hi g (hSh g hg)).2.1 p (hγ p g hp).1,(@Inv.sh L2 _ _ _ _ _ hi g (hSh g hg)).2.2⟩
  have hX':∀ g,r'.X st.bx.length g → r.X st.bx.length g:=fun g hg=>by
    rcases hg with ⟨p,hp⟩ | hb
    · exact .inl ⟨p,(hγ p g hp).1⟩
    · exact .inr hb
  have hHeld:Held P w r' st.bx.length ρ:=hh0.go (fun g hg=>hheap g (.inr hg)) fun g hg=>⟨(hh0.off g hg).1,fun hx=>@Inv.not_sh L2 _ _ _ _ _ hi _ (hX' g hx) (hs.sh g (.inr hg))⟩
  refine Code.wp_mono (fun e a' w' k=>?_) (h a w r' hInv hHeld)
  have k2:@Post2 L1 P st0.m w r' st.bx.length ρ Q e a' w':=by
    have k:@Post2 L1 P st.m w r' st.bx.length ρ Q e a' w':=k
    rw [hm] at k; exact k
  have hst:Step2 st0.m w0 r0 st0.bx.length ρ w r' st.bx.length ρ:=by
   refine ⟨hs.os,hs.tape,hs.output,hs.size,fun g hg hx=>hs.block g hg fun h=>hx (.inl h),fun _ h=>h,fun _ h=>.inl h,fun g hg=>?_,hs.β,rfl,hs.ty⟩
   rcases hg with hg | hg
   · exact (hs.x g (hX' g hg)).imp .inl id
   · exact .inl (.inr hg)
  exact @Post2.step L1 _ _ _ _ _ _ _ _ _ _ _ hst _ _ _ k2
/-- A function that is given a header that is lent. -/
theorem Fn.known [L : LaidFacts] {f : FuncId} {args args' : List PV} {bx : List (List PC)} {res : PV} {bx' : List (List PC)} (h : Fn P f args bx res bx') (t c : Nat) {u : Value} {x : PC} (hx : ∀ w Sh, LaidFacts.LW w Sh → RepS w Sh x u) (hn : x.names = none) (hbx : x.boxable = true) (hd : x ≠ .dead)
    (ho:∀ w' r' st' al v,RepF w' r'.Sh r'.β st'.bx.length x v → RepC P w' r' st' al x v none)
    (hp:((⟨args'.length,enum 0 args',bx,bx.length,[]⟩:St).at (.t t c),(⟨args'.length,enum 0 args',bx,bx.length,[]⟩:St).setAt (.t t c) x) = (some (.sc u),⟨args.length,enum 0 args,bx,bx.length,[]⟩):=by kernel_rfl):Fn P f args' bx res bx':=by
  intro vals w r hi
  simp only [Prod.mk.injEq] at hp
  obtain ⟨hp,hs⟩:=hp
  have hc:=hi.cell _ _ hp
  obtain ⟨hg,hc⟩:=hc
  have hu:alpha ⟨vals,[]⟩ w r (.t t c) = u:=by
    generalize alpha ⟨vals,[]⟩ w r (.t t c) = v at hc
    cases hc with
    | s h=>exact h.sc_eq
  have h1:=hi.setAt hp (x:=x) false (.inr hbx) (.inr (by intro h; cases h)) (fun q hq=>by rw [hn] at hq; cases hq) (ho _ _ _ _ _ (by rw [hu]; exact .s ((hx w r.Sh hi.lw).mono (fun g h=>.inl h) (fun _ _=>rfl))))
  rw [hs] at h1
  have hr:r.clr (.t t c) false = ⟨fun g=>r.Sh g ∨ (false = true ∧ r.γ (.t t c) = some g),r.β,fun q=>if q = .t t c then none else r.γ q,r.κ⟩:=rfl
  refine (h vals w _ h1).mono fun e w' ⟨v,r',he,hi',hs'⟩=>⟨v,r',he,hi',?_⟩
  have h2:Step bx.length w r bx.length w (r.clr (.t t c) false) bx.length:=Step.clr
  exact h2.trans hs'
section
variable [LaidFacts] {ρ:List Rw}
/-- A call whose arguments may be ours: they are lent. -/
def callPX (P:Program) (st:St) (o:Oper) (f:FuncId) (ns:List Nat):Option (Nat × List PV) :=
  match o.op,o.guard,o.dst with
  | .call { callee:=.value x,args:=as,argTypes:=ts },none,some d=>match st.use x,mapO st.use as.toList with
    | some ⟨.one,[y]⟩,some pvs=>match calleeOf y with
      | some (f',[])=>match Nat.beq f' f && okFn P f && st.okB d && (st.get d).isNone with
        | true=>(passPVs (passX P st 4) (pvs ++ ones []) ns).map fun args=>(d,args)
        | false=>none
      | _=>none
    | _,_=>none
  | _,_,_=>none
theorem callPX_spec {o : Oper} {f : FuncId} {ns : List Nat} {d : Nat} {args : List PV} (h : callPX P st o f ns = some (d, args)) :
    ∃ x as ts c pvs,o.op = .call { callee:=.value x,args:=as,argTypes:=ts } ∧ o.guard = none ∧ o.dst = some d ∧ st.use x = some ⟨.one,[c]⟩ ∧ calleeOf c = some (f,[]) ∧ okFn P f = true ∧ st.okd d ∧ st.get d = none ∧ as.toList.map st.use = pvs.map some ∧ passPVs (passX P st 4) (pvs ++ ones []) ns = some args:=by
  unfold callPX at h
  split at h
  · rename_i x as ts d' ho hg hd
    split at h
    · rename_i y pvs hx hm
      split at h
      · rename_i f' hc
        split at h
        · rename_i hb
          obtain ⟨args',h1,h2⟩:=Option.map_eq_some_iff.1 h
          simp only [Prod.mk.injEq] at h2
          obtain ⟨rfl,rfl⟩:=h2
          simp only [Bool.and_eq_true] at hb
          obtain ⟨⟨⟨h3,h4⟩,h5⟩,h6⟩:=hb
          have h3:=Nat.eq_of_beq_eq_true h3
          subst h3
          exact ⟨x,as,ts,y,pvs,ho,hg,hd,hx,hc,h4,St.okB_spec h5,by simpa using h6,mapO_map hm,h1⟩
        · cases h
      · cases h
    · cases h
  · cases h
theorem TriO2.callX {ops : Array Oper} {l : List Oper} {o : Oper} {Q : St → List Rw → Prop} {f : FuncId} {d : Nat} {args : List PV} {ρa ρ0 : List Rw} {R : PV → List Rw → Prop} (ns : List Nat) (hF : Fn2 P f args ρa R) (hR : ∀ res ρr, R res ρr → res.cs.all PC.scalar = true)
    (hy:∀ res ρr,R res ρr → TriO2 P ops l Q (st.put d res) (ρr ++ ρ0)) (h:callPX P st o f ns = some (d,args):=by kernel_rfl):TriO2 P ops (o :: l) Q st (ρa ++ ρ0):=by
  intro a w r hi hh
  obtain ⟨x,as,ts,c,pvs,ho,hg,hd,hx,hc,hf,hod,hno,hu,hp⟩:=callPX_spec h
  refine wpList_plain hg fun K hK=>?_
  obtain ⟨vs,hv,hn,hr⟩:=hi.calleeUse hx hc
  have hargs:=call_args hi hu hp hn hr (Sc:=r.allB st.bx.length) (fun u y v hc h=>⟨(hi.passX 4).2 u y v none (fun _ h=>by cases h) hc h,(passX_flat h).1⟩) (fun g hg=>hg.elim (fun h=>(hi.sh g h).1) fun h=>hi.X_lt h) (fun _ h=>.inl h)
  have hXc:∀ g,¬ (⟨r.allB st.bx.length,r.β,fun _=>none,fun _=>undef⟩:Rs).X 0 g:=fun g hg=>by
    rcases hg with ⟨p,hp⟩ | ⟨b,hb,_⟩
    · cases hp
    · omega
  have hona:∀ g,g ∈ bks ρa → g ∈ bks (ρa ++ ρ0):=fun g hg=>by rw [bks_app]; exact List.mem_append_left _ hg
  have hon0:∀ g,g ∈ bks ρ0 → g ∈ bks (ρa ++ ρ0):=fun g hg=>by rw [bks_app]; exact List.mem_append_right _ hg
  have hnd:=hh.one
  rw [bks_app] at hnd
  obtain ⟨nd1,nd2,nd3⟩:=List.nodup_append.1 hnd
  have hheld:Held P w ⟨r.allB st.bx.length,r.β,fun _=>none,fun _=>undef⟩ 0 ρa:=⟨fun x hx=>hh.own x (List.mem_append_left _ hx),nd1,fun g hg=>⟨fun h=>h.elim (hh.off g (hona g hg)).1 (hh.off g (hona g hg)).2,hXc g⟩⟩
  have hcalls:=hF _ w _ hargs hheld
  unfold Oper.wp
  rw [run_callV ho hv hf,Oper.upon_enter]
  refine hcalls.mono fun e w' ⟨v,r',res,ρr,he,hRr,hinv,hheld',hstep⟩=>?_
  subst he
  have hsc:=hR res ρr hRr
  have hw:∀ g,g < w.heap.size → g ∉ bks ρa → w'.heap[g]? = w.heap[g]?:=fun g hg hgn=>hstep.block g hg fun hx=>hx.elim (hXc g) hgn
  have hi':=hi.world (w':=w') (fun g hg=>by
    rcases hg with hg | hg
    · exact hw g (hi.sh g hg).1 fun h=>(hh.off g (hona g h)).1 hg
    · exact hw g (hi.X_lt hg) fun h=>(hh.off g (hona g h)).2 hg) hstep.size hstep.ty
  obtain ⟨v',hv',hfit⟩:=hinv.tm 0 res rfl
  have:v' = v:=by simpa using hv'.symm
  subst this
  have hput:=hi'.put (t:=d) (v:=v') (pv:=res) (γc:=fun _=>none) hod hno (hi'.noNames hno) hfit (fun c x hx=>by
    have hxs:=List.all_eq_true.1 hsc x (List.mem_of_getElem? hx)
    refine ⟨fun q hq=>?_,?_⟩
    · cases x <;> simp only [PC.scalar] at hxs <;> first | (cases hxs; done) | cases hq
    · have h3:=hinv.cell (.t 0 c) x (by simp [St.at,St.get,look,hx])
      have hxf:x.flatB = true:=by cases x <;> simp only [PC.scalar] at hxs <;> first | (cases hxs; done) | rfl
      have h4:=flatB_rep (r':=r) (st':=st) (al':=alpha a w' r) hxf h3
      have h5:r'.γ (.t 0 c) = none:=h3.g_none (fun e xs he=>by subst he; cases hxs)
      rw [h5] at h4
      exact h4) (fun c x q hx hq=>by
    have hxs:=List.all_eq_true.1 hsc x (List.mem_of_getElem? hx)
    cases x <;> simp only [PC.scalar] at hxs <;> first | (cases hxs; done) | cases hq) (fun _ _ h=>by cases h) (fun _ _ _ h=>by cases h)
  have hX':∀ g,(r.setT d fun _=>none).X st.bx.length g → r.X st.bx.length g:=fun g hg=>by
    rcases hg with ⟨q,hq⟩ | hb
    · cases q with
      | t k c =>
        simp only [Rs.setT] at hq
        split at hq
        · cases hq
        · exact .inl ⟨_,hq⟩
      | b b c=>exact .inl ⟨_,hq⟩
    · exact .inr hb
  have hnew:∀ g,g ∈ bks ρr → g ∈ bks ρa ∨ w.heap.size ≤ g:=fun g hg=>by
    rcases hstep.x g (.inr hg) with h | h
    · exact h.elim (fun h=>absurd h (hXc g)) .inl
    · exact .inr h
  have hheld2:Held P w' (r.setT d fun _=>none) st.bx.length (ρr ++ ρ0):=by
    refine ⟨fun x hx=>?_,?_,fun g hg=>?_⟩
    · rcases List.mem_append.1 hx with hx | hx
      · exact hheld'.own x hx
      · exact (hh.own x (List.mem_append_right _ hx)).mono (fun _ h => h) (fun _ h => h.elim) fun k hk => by
          have hk0:k ∈ bks ρ0:=bks_mem.2 ⟨x,hx,hk⟩
          exact hw k (hh.lt (hon0 k hk0)) fun h=>nd3 k h k hk0 rfl
    · rw [bks_app]
      refine List.nodup_append.2 ⟨hheld'.one,nd2,fun g hg g' hg' e=>?_⟩
      subst e
      rcases hnew g hg with h | h
      · exact nd3 g h g hg' rfl
      · have:=hh.lt (hon0 g hg'); omega
    · have key : ∀ g, (g ∈ bks (ρa ++ ρ0) ∨ w.heap.size ≤ g) → ¬ r.Sh g ∧ ¬ (r.setT d fun _ => none).X st.bx.length g := fun g hg => by
        rcases hg with hg | hg
        · exact ⟨(hh.off g hg).1,fun h=>(hh.off g hg).2 (hX' g h)⟩
        · exact ⟨fun h=>by have:=(hi.sh g h).1; omega,fun h=>by have:=hi.X_lt (hX' g h); omega⟩
      rw [bks_app] at hg
      rcases List.mem_append.1 hg with hg | hg
      · exact key g ((hnew g hg).imp (hona g) id)
      · exact key g (.inl (hon0 g hg))
  have hstep2:Step2 st.m w r st.bx.length (ρa ++ ρ0) w' (r.setT d fun _=>none) st.bx.length (ρr ++ ρ0):=by
    refine ⟨hstep.os,hstep.tape,hstep.output,hstep.size,fun g hg hx=>hw g hg fun h=>hx (.inr (hona g h)),fun _ h=>h,fun _ h=>.inl h,fun g hg=>?_,fun _ _=>rfl,rfl,hstep.ty⟩
    rcases hg with hg | hg
    · exact .inl (.inl (hX' g hg))
    · rw [bks_app] at hg
      rcases List.mem_append.1 hg with hg | hg
      · exact (hnew g hg).imp (fun h=>.inr (hona g h)) id
      · exact .inl (.inr (hon0 g hg))
  rw [hd]
  exact hK _ _ (wpList_mono (fun _ _ _ k=>Post2.step hstep2 k) l _ w' (hy res ρr hRr _ w' _ hput hheld2))
end
section
variable [LaidFacts] {ρ:List Rw}
theorem fxx2 {c:Code} (ts:List Nat) (nb:Nat) (l:List Fix) (st':St) (hy:Tri2 P c Q st' ρ) (h:fin P ts nb l st = some st':=by kernel_rfl):Tri2 P c Q st ρ:=Tri2.old (fin_turns h) hy
theorem cm2 {c : Operand} {x y : Code} {σ : Type} {b : Bool} {t e : Option σ} {v : σ} (H : (if b = true then t else e) = some v) (hy : b = true → t = some v → Tri2 P y Q st ρ) (hx : b = false → e = some v → Tri2 P x Q st ρ)
    (hc:st.use c = some ⟨.one,[.sc (.bool (!b))]⟩:=by kernel_rfl):Tri2 P (.cond c x y) Q st ρ:=by
  cases b with
  | true=>exact Tri2.cond false hc (hy rfl H)
  | false=>exact Tri2.cond true hc (hx rfl H)
end
end
end Go.Proofs.YtoclajfeeebbbadGreatDoor.E
