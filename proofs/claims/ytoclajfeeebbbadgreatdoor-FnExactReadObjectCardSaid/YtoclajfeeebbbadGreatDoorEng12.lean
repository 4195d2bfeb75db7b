/- The engine, part W: arguments of calls; calls of function values. Plain lemmas; no program. -/
import Derived.Test.YtoclajfeeebbbadGreatDoorEng11
import Derived.Lib.ConvBytes
import Derived.Laws.BytesArg
set_option linter.unusedVariables false
set_option linter.unusedSectionVars false
set_option linter.unusedSimpArgs false
namespace Go.Proofs.YtoclajfeeebbbadGreatDoor.E
open Go.RowKit
variable [LaidFacts]
def mapO {α β:Type} (f:α → Option β):List α → Option (List β)
  | []=>some []
  | x :: l=>match f x,mapO f l with
    | some y,some m=>some (y :: m)
    | _,_=>none
theorem mapO_at {α β:Type} {f:α → Option β}:∀ {l:List α} {m:List β},mapO f l = some m → l.length = m.length ∧ ∀ (j:Nat) (y:β),m[j]? = some y → ∃ x,l[j]? = some x ∧ f x = some y
  | [],m,h=>by simp only [mapO,Option.some.injEq] at h; subst h; exact ⟨rfl,fun j y h=>by simp at h⟩
  | x :: l,m,h=>by
    simp only [mapO] at h
    split at h
    · rename_i y m' h1 h2
      simp only [Option.some.injEq] at h
      subst h
      obtain ⟨h3,h4⟩:=mapO_at h2
      refine ⟨by simp [h3],fun j z hz=>?_⟩
      cases j with
      | zero=>simp only [List.getElem?_cons_zero,Option.some.injEq] at hz; subst hz; exact ⟨x,rfl,h1⟩
      | succ j=>exact h4 j z hz
    · cases h
/-- A cell as a callee gets it: it reads what we own, and our boxes. -/
def passX (P:Program) (st:St):Nat → PC → Option PC
  | _,.al p=>(St.row P st 4 (.al p)).map fun x=>.sl x.1 x.2
  | _,.vw p lo n s=>(St.row P st 4 (.vw p lo n s)).map fun x=>.sl x.1 x.2
  | k + 1,.fn f caps=>(mapO (passX P st k) caps).map (.fn f)
  | k + 1,.ref b off=>match st.bx[b]? with
    | some cs=>(mapO (passX P st k) cs).map fun l=>.cel l off
    | none=>none
  | _,.own e xs=>some (.sl (P.cellsOf e) xs)
  | _,.sc v=>some (.sc v)
  | _,.sl s xs=>some (.sl s xs)
  | _,.cel cs off=>some (.cel cs off)
  | _,.bnd f cs=>some (.bnd f cs)
  | _,.er=>some .er
  | _,.nl=>some .nl
  | _,_=>none
def Rs.allB (r:Rs) (nb g:Nat):Prop:=r.Sh g ∨ r.X nb g
section
variable {P:Program} {st:St} {a:Act} {w:World} {r:Rs} {o:Oper}
theorem passX_flat:∀ {k:Nat} {x y:PC},passX P st k x = some y → y.names = none ∧ ∀ e xs,y ≠ .own e xs:=by
  intro k x y h
  cases x <;> cases k <;> simp only [passX] at h <;> first
    | (cases h; done)
    | (cases h; exact ⟨rfl,fun _ _ h=>by cases h⟩)
    | (obtain ⟨z,_,rfl⟩:=Option.map_eq_some_iff.1 h; exact ⟨rfl,fun _ _ h=>by cases h⟩)
    | (split at h
       · obtain ⟨z,_,rfl⟩:=Option.map_eq_some_iff.1 h; exact ⟨rfl,fun _ _ h=>by cases h⟩
       · cases h)
theorem Inv.passX (hi : Inv P st a w r) : ∀ (k : Nat), (∀ (x y : PC) (v : Value), RepF w r.Sh r.β st.bx.length x v → E.passX P st k x = some y → RepS w (r.allB st.bx.length) y v) ∧
    (∀ (x y:PC) (v:Value) (g:Option Nat),(∀ j,g = some j → r.allB st.bx.length j) → RepC P w r st (alpha a w r) x v g → E.passX P st k x = some y → RepS w (r.allB st.bx.length) y v):=by
  have up:∀ {y:PC} {v:Value},RepS w r.Sh y v → RepS w (r.allB st.bx.length) y v:=fun h=>h.mono (fun _ h=>.inl h) (fun _ _=>rfl)
  have upA:∀ {y:PC} {v:Value},RepS w r.all y v → RepS w (r.allB st.bx.length) y v:=fun h=>h.mono (fun _ h=>h.elim .inl fun h=>.inr (.inl h)) (fun _ _=>rfl)
  intro k
  induction k with
  | zero =>
    have hF:∀ (x y:PC) (v:Value),RepF w r.Sh r.β st.bx.length x v → E.passX P st 0 x = some y → RepS w (r.allB st.bx.length) y v:=by
      intro x y v hx hp
      cases hx with
      | s h =>
        cases h <;> simp only [E.passX] at hp <;> first | (cases hp; done) | (cases hp; exact up (by first | exact .sc ‹_› | exact .nil | exact .er | exact .nl | exact .bnd ‹_› ‹_› | exact .sl _ ‹_› ‹_› ‹_› ‹_› ‹_› | exact .cel _ ‹_› ‹_› ‹_›))
      | ref h=>simp [E.passX] at hp
      | opt h _=>simp [E.passX] at hp
      | fn hn hr=>simp [E.passX] at hp
    refine ⟨hF,fun x y v g hg hx hp=>?_⟩
    cases x
    case al p =>
      obtain ⟨z,hz,rfl⟩:=Option.map_eq_some_iff.1 (show (St.row P st 4 (.al p)).map _ = some y by simpa only [E.passX] using hp)
      exact upA (hi.rowS 4 (fun j hj=>by rw [hx.1] at hj; cases hj) hx hz)
    case vw p lo n s =>
      obtain ⟨z,hz,rfl⟩:=Option.map_eq_some_iff.1 (show (St.row P st 4 (.vw p lo n s)).map _ = some y by simpa only [E.passX] using hp)
      exact upA (hi.rowS 4 (fun j hj=>by rw [hx.1] at hj; cases hj) hx hz)
    case own e xs =>
      simp only [E.passX,Option.some.injEq] at hp
      subst hp
      exact RepOwn.share hx (fun _ h=>.inl h) (fun j hj=>hg j hj)
    case el=>simp [E.passX] at hp
    case dead=>simp [E.passX] at hp
    all_goals exact hF _ _ _ hx.2 hp
  | succ k ih =>
    obtain ⟨ihF,ihC⟩:=ih
    have hF:∀ (x y:PC) (v:Value),RepF w r.Sh r.β st.bx.length x v → E.passX P st (k + 1) x = some y → RepS w (r.allB st.bx.length) y v:=by
      intro x y v hx hp
      cases hx with
      | s h =>
        cases h
        case fn f caps vs hn hr =>
          simp only [E.passX] at hp
          obtain ⟨l,hl,rfl⟩:=Option.map_eq_some_iff.1 hp
          obtain ⟨h1,h2⟩:=mapO_at hl
          refine .fn (by rw [hn,h1]) fun j x u hj hu=>?_
          obtain ⟨z,hz,hpz⟩:=h2 j x hj
          exact ihF z x u (.s (hr j z u hz hu)) hpz
        all_goals
          simp only [E.passX] at hp
          cases hp
          exact up (by first | exact .sc ‹_› | exact .bnd ‹_› ‹_› | exact .nil | exact .er | exact .nl | exact .sl _ ‹_› ‹_› ‹_› ‹_› ‹_› | exact .cel _ ‹_› ‹_› ‹_›)
      | ref h =>
        rename_i b off
        simp only [E.passX] at hp
        split at hp
        · rename_i cs hcs
          obtain ⟨l,hl,rfl⟩:=Option.map_eq_some_iff.1 hp
          obtain ⟨h1,h2⟩:=mapO_at hl
          obtain ⟨⟨vals,e,hh,hv,_⟩,_⟩:=hi.bx b cs hcs
          have hb:r.allB st.bx.length (r.β b):=.inr (.inr ⟨b,h,rfl⟩)
          have hcell:∀ j,j < cs.length → w.cell? ⟨r.β b,j,none⟩ = some (alpha a w r (.b b j)):=by
            intro j hj
            have:w.cell? ⟨r.β b,j,none⟩ = some (vals[j]'(by omega)):=by
              simp [World.cell?,hh,hv,hj]
            simp only [alpha,this,Option.getD_some]
          have:=RepS.cel (w:=w) (Sh:=r.allB st.bx.length) (cs:=l) (off:=off) (g:=r.β b) (o:=0) (fun j=>alpha a w r (.b b j)) hb
            (fun j x hj=>by
              have hj':=(List.getElem?_eq_some_iff.1 hj).1
              rw [Nat.zero_add]
              exact hcell j (by omega))
            (fun j x hj=>by
              obtain ⟨z,hz,hpz⟩:=h2 j x hj
              exact ihC z x _ (r.γ (.b b j)) (fun i hi'=>.inr (.inl ⟨_,hi'⟩)) (hi.cell (.b b j) z (by simp [St.at,hcs,hz])) hpz)
          rw [Nat.zero_add] at this
          exact this
        · cases hp
      | opt h _=>simp [E.passX] at hp
      | fn hn hr =>
        simp only [E.passX] at hp
        obtain ⟨l,hl,rfl⟩:=Option.map_eq_some_iff.1 hp
        obtain ⟨h1,h2⟩:=mapO_at hl
        refine .fn (by rw [hn,h1]) fun j x u hj hu=>?_
        obtain ⟨z,hz,hpz⟩:=h2 j x hj
        exact ihF z x u (hr j z u hz hu) hpz
    refine ⟨hF,fun x y v g hg hx hp=>?_⟩
    cases x
    case al p =>
      obtain ⟨z,hz,rfl⟩:=Option.map_eq_some_iff.1 (show (St.row P st 4 (.al p)).map _ = some y by simpa only [E.passX] using hp)
      exact upA (hi.rowS 4 (fun j hj=>by rw [hx.1] at hj; cases hj) hx hz)
    case vw p lo n s =>
      obtain ⟨z,hz,rfl⟩:=Option.map_eq_some_iff.1 (show (St.row P st 4 (.vw p lo n s)).map _ = some y by simpa only [E.passX] using hp)
      exact upA (hi.rowS 4 (fun j hj=>by rw [hx.1] at hj; cases hj) hx hz)
    case own e xs =>
      simp only [E.passX,Option.some.injEq] at hp
      subst hp
      exact RepOwn.share hx (fun _ h=>.inl h) (fun j hj=>hg j hj)
    case el=>simp [E.passX] at hp
    case dead=>simp [E.passX] at hp
    all_goals exact hF _ _ _ hx.2 hp
/-- A cell that is shared already, or that names one. -/
def shX (st:St):PC → Option PC
  | .al p=>match st.at p with
    | some (.sl s xs)=>some (.sl s xs)
    | some .nl=>some .nl
    | _=>none
  | .fn f caps=>match caps.all PC.plain with
    | true=>some (.fn f caps)
    | false=>none
  | .sc v=>some (.sc v)
  | .sl s xs=>some (.sl s xs)
  | .cel cs off=>some (.cel cs off)
  | .bnd f cs=>some (.bnd f cs)
  | .er=>some .er
  | .nl=>some .nl
  | _=>none
theorem Inv.shX (hi:Inv P st a w r) {x y:PC} {v:Value} {g:Option Nat} (hx:RepC P w r st (alpha a w r) x v g) (hp:E.shX st x = some y):RepS w r.Sh y v ∧ y.names = none ∧ ∀ e xs,y ≠ .own e xs:=by
  have plain:∀ (x:PC) (v:Value) (g:Option Nat),x.plain = true → RepC P w r st (alpha a w r) x v g → RepS w r.Sh x v:=by
    intro x v g hpl h
    cases x <;> simp only [PC.plain] at hpl <;> try (cases hpl; done)
    all_goals
      obtain ⟨_,h⟩:=h
      cases h with
      | s h=>exact h
  cases x <;> simp only [E.shX] at hp <;> try (cases hp; done)
  case al p =>
    split at hp
    · rename_i s xs hat
      cases hp
      rw [hx.2 ⟨_,hat,by simp⟩]
      exact ⟨plain _ _ _ rfl (hi.cell p _ hat),rfl,fun _ _ h=>by cases h⟩
    · rename_i hat
      cases hp
      rw [hx.2 ⟨_,hat,by simp⟩]
      exact ⟨plain _ _ _ rfl (hi.cell p _ hat),rfl,fun _ _ h=>by cases h⟩
    · cases hp
  case fn f caps =>
    split at hp
    · rename_i hc
      cases hp
      refine ⟨?_,rfl,fun _ _ h=>by cases h⟩
      obtain ⟨_,hx⟩:=hx
      cases hx with
      | s h=>exact h
      | fn hn hr=>exact .fn hn fun j x u hj hu=>plainF_rep (List.all_eq_true.1 hc x (List.mem_of_getElem? hj)) (hr j x u hj hu)
    · cases hp
  all_goals
    cases hp
    exact ⟨plain _ _ _ rfl hx,rfl,fun _ _ h=>by cases h⟩
def nilHint:PC → List Nat → Option (Nat × List Nat)
  | .nl,s :: ns=>some (s,ns)
  | _,_=>none
theorem nilHint_eq {x:PC} {ns ns':List Nat} {s:Nat} (h:nilHint x ns = some (s,ns')):x = .nl:=by
  cases x <;> cases ns <;> simp only [nilHint] at h <;> first | rfl | (cases h; done)
/-- Cells as a callee gets them; an empty row may be one of any kind. -/
def passCs2 (f:PC → Option PC):List PC → List Nat → Option (List PC × List Nat)
  | [],ns=>some ([],ns)
  | x :: l,ns=>match nilHint x ns with
    | some (s,ns')=>match passCs2 f l ns' with
      | some (m,ns'')=>some (.sl s [] :: m,ns'')
      | none=>none
    | none=>match f x with
      | some y=>match passCs2 f l ns with
        | some (m,ns')=>some (y :: m,ns')
        | none=>none
      | none=>none
def passPVs (f:PC → Option PC):List PV → List Nat → Option (List PV)
  | [],_=>some []
  | ⟨sh,cs⟩ :: l,ns=>match passCs2 f cs ns with
    | some (m,ns')=>match passPVs f l ns' with
      | some l'=>some (⟨sh,m⟩ :: l')
      | none=>none
    | none=>none
theorem passCs2_at {f:PC → Option PC}:∀ {l:List PC} {ns:List Nat} {m:List PC} {ns':List Nat},passCs2 f l ns = some (m,ns') → l.length = m.length ∧ ∀ (j:Nat) (y:PC),m[j]? = some y → ∃ x,l[j]? = some x ∧ (f x = some y ∨ (x = .nl ∧ ∃ s,y = .sl s []))
  | [],ns,m,ns',h=>by simp only [passCs2,Option.some.injEq,Prod.mk.injEq] at h; obtain ⟨rfl,_⟩:=h; exact ⟨rfl,fun j y h=>by simp at h⟩
  | x :: l,ns,m,ns',h=>by
    simp only [passCs2] at h
    split at h
    · rename_i s ns1 hn
      have hx:=nilHint_eq hn
      split at h
      · rename_i m1 ns2 h2
        simp only [Option.some.injEq,Prod.mk.injEq] at h
        obtain ⟨rfl,_⟩:=h
        obtain ⟨h3,h4⟩:=passCs2_at h2
        refine ⟨by simp [h3],fun j z hz=>?_⟩
        cases j with
        | zero=>simp only [List.getElem?_cons_zero,Option.some.injEq] at hz; subst hz; exact ⟨x,rfl,.inr ⟨hx,_,rfl⟩⟩
        | succ j=>exact h4 j z hz
      · cases h
    · split at h
      · rename_i y h1
        split at h
        · rename_i m1 ns2 h2
          simp only [Option.some.injEq,Prod.mk.injEq] at h
          obtain ⟨rfl,_⟩:=h
          obtain ⟨h3,h4⟩:=passCs2_at h2
          refine ⟨by simp [h3],fun j z hz=>?_⟩
          cases j with
          | zero=>simp only [List.getElem?_cons_zero,Option.some.injEq] at hz; subst hz; exact ⟨_,rfl,.inl h1⟩
          | succ j=>exact h4 j z hz
        · cases h
      · cases h
theorem passPVs_at {f : PC → Option PC} : ∀ {l : List PV} {ns : List Nat} {m : List PV}, passPVs f l ns = some m → l.length = m.length ∧ ∀ (t : Nat) (y : PV), m[t]? = some y → ∃ x, l[t]? = some x ∧ x.sh = y.sh ∧ x.cs.length = y.cs.length ∧
    ∀ (j:Nat) (z:PC),y.cs[j]? = some z → ∃ u,x.cs[j]? = some u ∧ (f u = some z ∨ (u = .nl ∧ ∃ s,z = .sl s []))
  | [],ns,m,h=>by simp only [passPVs,Option.some.injEq] at h; subst h; exact ⟨rfl,fun j y h=>by simp at h⟩
  | ⟨sh,cs⟩ :: l,ns,m,h=>by
    simp only [passPVs] at h
    split at h
    · rename_i m1 ns1 h1
      split at h
      · rename_i l' h2
        simp only [Option.some.injEq] at h
        subst h
        obtain ⟨h3,h4⟩:=passPVs_at h2
        obtain ⟨h5,h6⟩:=passCs2_at h1
        refine ⟨by simp [h3],fun t y hy=>?_⟩
        cases t with
        | zero=>simp only [List.getElem?_cons_zero,Option.some.injEq] at hy; subst hy; exact ⟨_,rfl,rfl,h5,h6⟩
        | succ t=>exact h4 t y hy
      · cases h
    · cases h
/-- The callee's frame, from what its arguments read as. -/
theorem frame_mk {args : List PV} {vals : List Value} {w : World} {Sc : Nat → Prop} {β : Nat → Nat} (hlen : vals.length = args.length) (hSc : ∀ g, Sc g → g < w.heap.size) (hlw : LaidFacts.LW w Sc)
    (h:∀ (t:Nat) (pv:PV),args[t]? = some pv → ∃ v,vals[t]? = some v ∧ pv.sh.fits pv.cs.length v ∧ ∀ (c:Nat) (x:PC),pv.cs[c]? = some x → RepS w Sc x ((flat v).getD c undef) ∧ x.names = none) :
    Inv P ⟨args.length,enum 0 args,[],0,[]⟩ ⟨vals.toArray,[]⟩ w ⟨Sc,β,fun _=>none,fun _=>undef⟩:=by
  have hget:∀ t pv,(⟨args.length,enum 0 args,[],0,[]⟩:St).get t = some pv → args[t]? = some pv:=by
    intro t pv ht
    simp only [St.get,look_enum,Nat.zero_le,if_true,Nat.sub_zero] at ht
    exact ht
  refine ⟨by simp [hlen],Nat.le_refl _,fun t pv ht=>?_,fun b cs hb=>(by simp at hb),fun p x hp'=>?_,fun p x q hp' hq=>?_,(fun p g hg=>nomatch hg),(fun p q g hg=>nomatch hg),(fun p g b hg=>nomatch hg),(fun b b' hb=>nomatch hb),fun g hg=>⟨hSc g hg,(fun _ h=>nomatch h),(fun b hb=>nomatch hb)⟩,rfl,hlw,fun _ h=>by cases h⟩
  · obtain ⟨v,h1,h2,_⟩:=h t pv (hget t pv ht)
    exact ⟨v,by simpa using h1,h2⟩
  · cases p with
    | t t c =>
      obtain ⟨pv,h1,h2⟩:=St.at_tmp hp'
      obtain ⟨v,h3,_,h4⟩:=h t pv (hget t pv h1)
      have ha:alpha ⟨vals.toArray,[]⟩ w ⟨Sc,β,fun _=>none,fun _=>undef⟩ (.t t c) = (flat v).getD c undef:=by
        simp [alpha,Array.getD_eq_getD_getElem?,h3]
      rw [ha]
      exact ((h4 c x h2).1.hasC (P:=P) (st:=⟨args.length,enum 0 args,[],0,[]⟩) (a:=⟨vals.toArray,[]⟩) (r:=⟨Sc,β,fun _=>none,fun _=>undef⟩)).1
    | b b c=>simp [St.at] at hp'
  · cases p with
    | t t c =>
      obtain ⟨pv,h1,h2⟩:=St.at_tmp hp'
      obtain ⟨v,h3,_,h4⟩:=h t pv (hget t pv h1)
      rw [(h4 c x h2).2] at hq; cases hq
    | b b c=>simp [St.at] at hp'
/-- The function that a callee's cell names, and what it holds. -/
def calleeOf:PC → Option (FuncId × List PC)
  | .sc (.func (.func f) ⟨[]⟩ ⟨[]⟩)=>some (f,[])
  | .fn f caps=>some (f,caps)
  | _=>none
theorem callee_rep {w : World} {Sh : Nat → Prop} {β : Nat → Nat} {nb : Nat} {x : PC} {v : Value} {f : FuncId} {caps : List PC} (hc : calleeOf x = some (f, caps)) (h : RepF w Sh β nb x v) :
    ∃ vs:Array Value,v = .func (.func f) #[] vs ∧ vs.size = caps.length ∧ ∀ (j:Nat) (y:PC) (u:Value),caps[j]? = some y → vs[j]? = some u → RepF w Sh β nb y u:=by
  unfold calleeOf at hc
  split at hc
  · cases hc
    cases h with
    | s h=>cases h; exact ⟨#[],rfl,rfl,fun j y u h=>by simp at h⟩
  · cases hc
    cases h with
    | s h=>cases h with
      | fn hn hr=>exact ⟨_,rfl,hn,fun j y u hj hu=>.s (hr j y u hj hu)⟩
    | fn hn hr=>exact ⟨_,rfl,hn,hr⟩
  · cases hc
def okFn (P:Program) (f:FuncId):Bool :=
  match P.funcs[f]? with
  | some fn => fn.body.isSome && !(fn.name == "runtime.NumGoroutine")
  | none=>false
theorem run_callV {x : Operand} {as : Array Operand} {ts : Array TypeId} {f : FuncId} {vs : Array Value} (ho : o.op = .call { callee := .value x, args := as, argTypes := ts }) (hx : a.eval x = .func (.func f) #[] vs) (hf : okFn P f = true) (w : World) :
    (execOp a.eval o).run P w = .ok (.enter f (as.toList.map a.eval ++ vs.toList).toArray) w:=by
  unfold okFn at hf
  split at hf
  · rename_i fn hfn
    simp only [Bool.and_eq_true,Bool.not_eq_true'] at hf
    have he:=run_enter hfn hf.2 hf.1 (as.toList.map a.eval ++ vs.toList).toArray w
    have hm:as.map a.eval ++ vs = (as.toList.map a.eval ++ vs.toList).toArray:=by apply Array.toList_inj.1; simp
    simp only [execOp,ho,resolve,hx,Deferred.ofValue,Sem.run_bind,Sem.run_pure,Result.andThen_ok,invoke,Array.empty_append,hm]
    exact he
  · cases hf
/-- The cells of what a callee captured, each as an argument. -/
def ones (l:List PC):List PV:=l.map fun c=>⟨.one,[c]⟩
theorem call_args (hi : Inv P st a w r) {as : List Operand} {pvs args : List PV} {caps : List PC} {vs : Array Value} {ns : List Nat} {fx : PC → Option PC} {Sc : Nat → Prop} (hu : as.map st.use = pvs.map some) (hp : passPVs fx (pvs ++ ones caps) ns = some args)
    (hn:vs.size = caps.length) (hr:∀ (j:Nat) (y:PC) (u:Value),caps[j]? = some y → vs[j]? = some u → RepF w r.Sh r.β st.bx.length y u)
    (hfx:∀ (x y:PC) (v:Value),RepC P w r st (alpha a w r) x v none → fx x = some y → RepS w Sc y v ∧ y.names = none) (hSc:∀ g,Sc g → g < w.heap.size) (hup:∀ g,r.Sh g → Sc g) :
    Inv P ⟨args.length,enum 0 args,[],0,[]⟩ ⟨(as.map a.eval ++ vs.toList).toArray,[]⟩ w ⟨Sc,r.β,fun _=>none,fun _=>undef⟩:=by
  obtain ⟨hl,hat⟩:=passPVs_at hp
  have hlp:as.length = pvs.length:=by have:=congrArg List.length hu; simpa using this
  refine frame_mk (by simp [← hl,ones,hlp,hn]) hSc (LaidFacts.mono hup (fun _ _=>rfl) hi.lw) fun t pv ht=>?_
  obtain ⟨z,hz,h1,h2,h3⟩:=hat t pv ht
  have nilOK:∀ (u y:PC) (v:Value),RepC P w r st (alpha a w r) u v none → (fx u = some y ∨ (u = .nl ∧ ∃ s,y = .sl s [])) → RepS w Sc y v ∧ y.names = none:=by
    intro u y v hc h
    rcases h with h | ⟨rfl,s,rfl⟩
    · exact hfx u y v hc h
    · obtain ⟨_,hc⟩:=hc
      have:v = .slice none 0 0:=by cases hc with | s hs=>cases hs; rfl
      subst this
      exact ⟨.nil,rfl⟩
  by_cases hlt:t < pvs.length
  · rw [List.getElem?_append_left hlt] at hz
    have h4:=congrArg (fun l=>l[t]?) hu
    simp only [List.getElem?_map,hz,Option.map_some] at h4
    obtain ⟨x,hx,hux⟩:=Option.map_eq_some_iff.1 h4
    have hh:=hi.use hux
    refine ⟨a.eval x,by rw [List.getElem?_append_left (by simpa [hlp] using hlt)]; simp [hx],by rw [← h1,← h2]; exact hh.1,fun c y hy=>?_⟩
    obtain ⟨u,hu',hpu⟩:=h3 c y hy
    exact nilOK u y _ (hh.2 c u hu').1 hpu
  · rw [List.getElem?_append_right (by omega)] at hz
    simp only [ones,List.getElem?_map] at hz
    obtain ⟨c,hc,rfl⟩:=Option.map_eq_some_iff.1 hz
    have hcl:=(List.getElem?_eq_some_iff.1 hc).1
    have hv:vs[t - pvs.length]? = some (vs[t - pvs.length]'(by omega)):=Array.getElem?_eq_getElem (by omega)
    have hrep:=hr _ c _ hc hv
    refine ⟨vs[t - pvs.length]'(by omega),?_,?_,fun j y hy=>?_⟩
    · rw [List.getElem?_append_right (by simp [hlp]; omega)]
      simp only [List.length_map,hlp]
      simp
    · rw [← h1,← h2]; exact ⟨rfl,hrep.one⟩
    · obtain ⟨u,hu',hpu⟩:=h3 j y hy
      cases j with
      | zero =>
        simp only [List.getElem?_cons_zero,Option.some.injEq] at hu'
        subst hu'
        rw [flat_one hrep.one]
        refine nilOK c y _ ?_ hpu
        cases c <;> first
          | exact ⟨rfl,hrep⟩
          | (cases hrep with | s h=>cases h)
      | succ j=>simp at hu'
theorem Inv.calleeUse (hi : Inv P st a w r) {x : Operand} {c : PC} {f : FuncId} {caps : List PC} (hx : st.use x = some ⟨.one, [c]⟩) (hc : calleeOf c = some (f, caps)) :
    ∃ vs:Array Value,a.eval x = .func (.func f) #[] vs ∧ vs.size = caps.length ∧ ∀ (j:Nat) (y:PC) (u:Value),caps[j]? = some y → vs[j]? = some u → RepF w r.Sh r.β st.bx.length y u:=by
  obtain ⟨_,h,_⟩:=(hi.use hx).out
  refine callee_rep hc ?_
  unfold calleeOf at hc
  split at hc
  · exact h.2
  · exact h.2
  · cases hc
/-- A bound method value: the function, and the cells of what it is bound to. -/
theorem Inv.bndUse (hi : Inv P st a w r) {x : Operand} {f : FuncId} {cs : List PC} (hx : st.use x = some ⟨.one, [.bnd f cs]⟩) :
    ∃ vs:Array Value,a.eval x = .func (.func f) #[.agg vs] #[] ∧ vs.size = cs.length ∧ ∀ (j:Nat) (y:PC) (u:Value),cs[j]? = some y → vs[j]? = some u → RepS w r.Sh y u:=by
  obtain ⟨_,h,_⟩:=(hi.use hx).out
  obtain ⟨_,h⟩:=h
  generalize a.eval x = v at h
  cases h with
  | s h=>cases h with
    | bnd hn hr=>exact ⟨_,rfl,hn,hr⟩
theorem run_callBnd {x : Operand} {as : Array Operand} {ts : Array TypeId} {f : FuncId} {u : Value} (ho : o.op = .call { callee := .value x, args := as, argTypes := ts }) (hx : a.eval x = .func (.func f) #[u] #[]) (hf : okFn P f = true) (w : World) :
    (execOp a.eval o).run P w = .ok (.enter f (u :: as.toList.map a.eval).toArray) w:=by
  unfold okFn at hf
  split at hf
  · rename_i fn hfn
    simp only [Bool.and_eq_true,Bool.not_eq_true'] at hf
    have he:=run_enter hfn hf.2 hf.1 (u :: as.toList.map a.eval).toArray w
    have hm:#[u] ++ as.map a.eval = (u :: as.toList.map a.eval).toArray:=by apply Array.toList_inj.1; simp
    simp only [execOp,ho,resolve,hx,Deferred.ofValue,Sem.run_bind,Sem.run_pure,Result.andThen_ok,invoke,Array.append_empty,hm]
    exact he
  · cases hf
theorem call_args_bnd (hi : Inv P st a w r) {as : List Operand} {pvs args : List PV} {cs : List PC} {vs : Array Value} {ns : List Nat} {fx : PC → Option PC} {Sc : Nat → Prop} (hu : as.map st.use = pvs.map some) (hp : passPVs fx (⟨.agg, cs⟩ :: pvs) ns = some args)
    (hn:vs.size = cs.length) (hr:∀ (j:Nat) (y:PC) (u:Value),cs[j]? = some y → vs[j]? = some u → RepS w r.Sh y u)
    (hfx:∀ (x y:PC) (v:Value),RepC P w r st (alpha a w r) x v none → fx x = some y → RepS w Sc y v ∧ y.names = none) (hSc:∀ g,Sc g → g < w.heap.size) (hup:∀ g,r.Sh g → Sc g) :
    Inv P ⟨args.length,enum 0 args,[],0,[]⟩ ⟨(.agg vs :: as.map a.eval).toArray,[]⟩ w ⟨Sc,r.β,fun _=>none,fun _=>undef⟩:=by
  obtain ⟨hl,hat⟩:=passPVs_at hp
  have hlp:as.length = pvs.length:=by have:=congrArg List.length hu; simpa using this
  refine frame_mk (by simp [← hl,hlp]) hSc (LaidFacts.mono hup (fun _ _=>rfl) hi.lw) fun t pv ht=>?_
  obtain ⟨z,hz,h1,h2,h3⟩:=hat t pv ht
  have nilOK:∀ (u y:PC) (v:Value),RepC P w r st (alpha a w r) u v none → (fx u = some y ∨ (u = .nl ∧ ∃ s,y = .sl s [])) → RepS w Sc y v ∧ y.names = none:=by
    intro u y v hc h
    rcases h with h | ⟨rfl,s,rfl⟩
    · exact hfx u y v hc h
    · obtain ⟨_,hc⟩:=hc
      have:v = .slice none 0 0:=by cases hc with | s hs=>cases hs; rfl
      subst this
      exact ⟨.nil,rfl⟩
  cases t with
  | succ t =>
    simp only [List.getElem?_cons_succ] at hz
    have h4:=congrArg (fun l=>l[t]?) hu
    simp only [List.getElem?_map,hz,Option.map_some] at h4
    obtain ⟨x,hx,hux⟩:=Option.map_eq_some_iff.1 h4
    have hh:=hi.use hux
    refine ⟨a.eval x,by simp [hx],by rw [← h1,← h2]; exact hh.1,fun c y hy=>?_⟩
    obtain ⟨u,hu',hpu⟩:=h3 c y hy
    exact nilOK u y _ (hh.2 c u hu').1 hpu
  | zero =>
    simp only [List.getElem?_cons_zero,Option.some.injEq] at hz
    subst hz
    refine ⟨.agg vs,by simp,by rw [← h1,← h2]; exact ⟨vs,rfl,hn,fun v hv=>by
      obtain ⟨j,hj,rfl⟩:=Array.mem_iff_getElem.1 hv
      exact (hr j _ _ (List.getElem?_eq_getElem (by omega)) (Array.getElem?_eq_getElem hj)).one⟩,fun c y hy=>?_⟩
    obtain ⟨u,hu',hpu⟩:=h3 c y hy
    have hc:=(List.getElem?_eq_some_iff.1 hu').1
    simp only at hc
    have hv:vs[c]? = some (vs[c]'(by omega)):=Array.getElem?_eq_getElem (by omega)
    have hf:(flat (.agg vs)).getD c undef = vs[c]'(by omega):=by
      simp [flat,List.getD_eq_getElem?_getD,hv]
    rw [hf]
    exact nilOK u y _ (hr c u _ hu' hv).hasC.1 hpu
theorem DOp.callBnd {x : Operand} {as : Array Operand} {ts : Array TypeId} {f : FuncId} {cs : List PC} {pvs args : List PV} {ns : List Nat} {res : PV} (ho : o.op = .call { callee := .value x, args := as, argTypes := ts }) (hx : st.use x = some ⟨.one, [.bnd f cs]⟩)
    (hf:okFn P f = true) (hu:as.toList.map st.use = pvs.map some) (hp:passPVs (passX P st 4) (⟨.agg,cs⟩ :: pvs) ns = some args) (hF:Fn P f args [] res []) (hflat:res.cs.all PC.flatB = true):DOp P o st res:=by
  intro a w r hi K Q hK
  obtain ⟨vs,hv,hn,hr⟩:=hi.bndUse hx
  have hcalls:=hF _ w _ (call_args_bnd hi hu hp hn hr (Sc:=r.allB st.bx.length) (fun u y v hc h=>⟨(hi.passX 4).2 u y v none (fun _ h=>by cases h) hc h,(passX_flat h).1⟩) (fun g hg=>hg.elim (fun h=>(hi.sh g h).1) fun h=>hi.X_lt h) (fun _ h=>.inl h))
  have hfree:res.cs.all (·.free 0) = true:=List.all_eq_true.2 fun x hx=>flatB_free x (List.all_eq_true.1 hflat x hx)
  unfold Oper.wp
  rw [run_callBnd ho hv hf,Oper.upon_enter]
  refine hcalls.mono fun e w' ⟨v,r',he,hinv,hstep⟩=>?_
  subst he
  exact hK v w' _ _ (News.called hi hstep hinv (fun _=>rfl) (Sn:=r.Sh) hfree (fun _ h=>h) (fun _ h=>.inl h) (fun x u g hx hc=>flatB_rep (List.all_eq_true.1 hflat x hx) hc))
/-- A call; the callee reads what is ours; its result is made of single values. -/
theorem DOp.callV {x : Operand} {as : Array Operand} {ts : Array TypeId} {c : PC} {f : FuncId} {caps : List PC} {pvs args : List PV} {ns : List Nat} {res : PV} (ho : o.op = .call { callee := .value x, args := as, argTypes := ts }) (hx : st.use x = some ⟨.one, [c]⟩)
    (hc:calleeOf c = some (f,caps)) (hf:okFn P f = true) (hu:as.toList.map st.use = pvs.map some) (hp:passPVs (passX P st 4) (pvs ++ ones caps) ns = some args) (hF:Fn P f args [] res []) (hflat:res.cs.all PC.flatB = true):DOp P o st res:=by
  intro a w r hi K Q hK
  obtain ⟨vs,hv,hn,hr⟩:=hi.calleeUse hx hc
  have hcalls:=hF _ w _ (call_args hi hu hp hn hr (Sc:=r.allB st.bx.length) (fun u y v hc h=>⟨(hi.passX 4).2 u y v none (fun _ h=>by cases h) hc h,(passX_flat h).1⟩) (fun g hg=>hg.elim (fun h=>(hi.sh g h).1) fun h=>hi.X_lt h) (fun _ h=>.inl h))
  have hfree:res.cs.all (·.free 0) = true:=List.all_eq_true.2 fun x hx=>flatB_free x (List.all_eq_true.1 hflat x hx)
  unfold Oper.wp
  rw [run_callV ho hv hf,Oper.upon_enter]
  refine hcalls.mono fun e w' ⟨v,r',he,hinv,hstep⟩=>?_
  subst he
  exact hK v w' _ _ (News.called hi hstep hinv (fun _=>rfl) (Sn:=r.Sh) hfree (fun _ h=>h) (fun _ h=>.inl h) (fun x u g hx hc=>flatB_rep (List.all_eq_true.1 hflat x hx) hc))
/-- A call whose arguments are shared already: its result may share with them. -/
theorem DOp.callVS {x : Operand} {as : Array Operand} {ts : Array TypeId} {c : PC} {f : FuncId} {caps : List PC} {pvs args : List PV} {ns : List Nat} {res : PV} (ho : o.op = .call { callee := .value x, args := as, argTypes := ts }) (hx : st.use x = some ⟨.one, [c]⟩)
    (hc:calleeOf c = some (f,caps)) (hf:okFn P f = true) (hu:as.toList.map st.use = pvs.map some) (hp:passPVs (shX st) (pvs ++ ones caps) ns = some args) (hF:Fn P f args [] res []) (hfree:(res.cs.all fun x=>x.free 0) = true):DOp P o st res:=by
  intro a w r hi K Q hK
  obtain ⟨vs,hv,hn,hr⟩:=hi.calleeUse hx hc
  have hcalls:=hF _ w _ (call_args hi hu hp hn hr (Sc:=r.Sh) (fun u y v hc h=>⟨(hi.shX hc h).1,(hi.shX hc h).2.1⟩) (fun g hg=>(hi.sh g hg).1) (fun _ h=>h))
  unfold Oper.wp
  rw [run_callV ho hv hf,Oper.upon_enter]
  refine hcalls.mono fun e w' ⟨v,r',he,hinv,hstep⟩=>?_
  subst he
  have hXc:∀ g,¬ (⟨r.Sh,r.β,fun _=>none,fun _=>undef⟩:Rs).X 0 g:=fun g hg=>by
    rcases hg with ⟨p,hp⟩ | ⟨b,hb,_⟩
    · cases hp
    · omega
  exact hK v w' _ _ (News.called hi hstep hinv (fun _=>rfl) (Sn:=r'.Sh) hfree (fun g h=>hstep.sh g h) (fun g hg=>(hstep.shNew g hg).elim .inl fun h=>h.elim (fun h=>absurd h (hXc g)) fun h=>.inr ⟨h,hg⟩)
    (fun x u g hx hc=>by
      have hfx:=List.all_eq_true.1 hfree x hx
      have:=hc.free (r':={ r with Sh:=r'.Sh }) (st':=⟨0,[],[],0,[]⟩) (al':=alpha a w r) hfx (fun _ h=>h) (fun b hb=>by simp at hb)
      exact this.mono (fun _ h=>h) (fun _ _=>rfl) (fun _ _=>rfl) (fun b hb=>by simp at hb) (fun q hq _=>by rw [free_names hfx] at hq; cases hq)))
/-- A row of parts. -/
theorem DOp.rowOf {t e : TypeId} {n s by' : Nat} {parts : Array (Nat × Operand)} {xs : List Operand} {pvs : List PV} (ho : o.op = .buildSlice t n parts) (ht : P.underlying t = some (.slice e)) (he : P.elem? e = some (s, by')) (hs0 : 0 < s)
    (hparts:parts.toList = (xs.zipIdx 0).map fun x=>(x.2,x.1)) (hn:n = xs.length) (hsmall:n * s ≤ 2 ^ 24) (hu:xs.map st.use = pvs.map some) (hp:(pvs.all fun pv=>notTup pv.sh && Nat.beq pv.cs.length s && pv.cs.all PC.plain2) = true) :
    DOp P o st ⟨.one,[.own e (pvs.map (·.cs))]⟩:=by
  intro a w r hi K Q hK
  obtain ⟨i,z,hi',hz,hsize,hbytes,hzs,hcs,hsz⟩:=elem?_spec he
  have hp':∀ pv ∈ pvs,notTup pv.sh = true ∧ pv.cs.length = s ∧ pv.cs.all PC.plain2 = true:=fun pv hpv=>by
    have:=List.all_eq_true.1 hp pv hpv
    simp only [Bool.and_eq_true] at this
    exact ⟨this.1.1,Nat.eq_of_beq_eq_true this.1.2,this.2⟩
  obtain ⟨h1,h2,h3⟩:=parts_rep hi hu hp'
  have hlen:pvs.length = xs.length:=by have:=congrArg List.length hu; simpa using this.symm
  let vals:=(xs.map a.eval).flatMap fun v=>v.cells.toList
  have hvl:vals.length = n * s:=by rw [hn,← hlen]; exact h2
  have hfill:=fill_all (size:=s) (xs.map a.eval) 0 ((Array.range (n * s)).map fun j=>(z.cells)[j % z.cells.size]!) (fun v hv=>(h1 v hv).1) (by simp [hn])
  have hrun:(execOp a.eval o).run P w = .ok (.value (.slice (some ⟨w.heap.size,0,none⟩) n n)) (w.alloc (.cells vals.toArray e)):=by
    have hpm:(parts.map fun x=>(x.1,a.eval x.2)).toList = ((xs.map a.eval).zipIdx 0).map fun x=>(x.2,x.1):=by
      rw [Array.toList_map,hparts,List.zipIdx_map]
      simp [List.map_map,Function.comp_def]
    have hbig:¬ (n * s > 2 ^ 24):=by omega
    simp only [Nat.zero_mul,List.take_zero,List.nil_append] at hfill
    have hz0:((if n * s = 0 then (pure #[]:Sem (Array Value)) else do pure (← zeroValue e).cells)).run P w = .ok (if n * s = 0 then #[] else z.cells) w:=by
      split
      · rfl
      · simp [zeroValue,typeInfo,hi',hz]
    have hfill':Instr.fill (fun i=>some (i * s,s)) ((Array.range (n * s)).map fun j=>((if n * s = 0 then #[] else z.cells:Array Value))[j % (if n * s = 0 then #[] else z.cells:Array Value).size]!) (parts.map fun x=>(x.1,a.eval x.2)).toList = some vals.toArray:=by
      rw [hpm,← hfill]
      by_cases h0:n * s = 0
      · have hr0:Array.range 0 = #[]:=rfl
        rw [h0,hr0]; simp only [Array.map_empty]
      · rw [if_neg h0]
    simp only [execOp,ho,Instr.buildSlice,Sem.run_bind,Sem.run_pure,Result.andThen_ok,run_underlying ht,run_sizeOf hsz]
    rw [Sem.run_ite,if_neg hbig]
    by_cases h0:n * s = 0
    · simp only [if_pos h0] at hfill'
      rw [if_pos h0]
      simp only [Sem.run_bind,Sem.run_pure,Result.andThen_ok,hfill']
      simp [newRow]
    · simp only [if_neg h0] at hfill'
      rw [if_neg h0]
      simp only [Sem.run_bind,Sem.run_pure,Result.andThen_ok,zeroValue,typeInfo,run_program,hi',hz,hfill']
      simp [newRow]
  have hsm:n ≤ 2 ^ 24:=Nat.le_trans (Nat.le_mul_of_pos_right n hs0) hsmall
  have hrow:=World.ownsH_of <| World.ownsRow_lit (base:=0) (e:=e) (size:=s) w vals.toArray n (Nat.zero_le _) (by simp only [maxLen]; omega) (by simpa using hvl)
  have hel:∀ el ∈ pvs.map (·.cs),el.length = s:=fun el hel=>by obtain ⟨pv,hpv,rfl⟩:=List.mem_map.1 hel; exact (hp' pv hpv).2.1
  have hown:RepOwn P (w.alloc (.cells vals.toArray e)) r.Sh e (pvs.map (·.cs)) (.slice (some ⟨w.heap.size,0,none⟩) n n) (Value.slice (some ⟨w.heap.size,0,none⟩) n n).ownBlock:=by
    refine ⟨vals,by rw [hcs,List.length_map,hlen,← hn]; exact hrow,rfl,by rw [hcs]; exact hel,fun i x hx=>?_⟩
    obtain ⟨u,hu',hr⟩:=h3 i x hx
    exact ⟨u,hu',hr.mono (fun _ h=>h) (fun g hg=>heap_alloc_old w _ g (hi.sh g hg).1)⟩
  have hblk:∀ g,(Value.slice (some ⟨w.heap.size,0,none⟩) n n).ownBlock = some g → w.heap.size ≤ g:=fun g hg=>by simp [Value.ownBlock] at hg; omega
  unfold Oper.wp
  rw [hrun,Oper.upon_value]
  exact hK _ (w.alloc (.cells vals.toArray e)) _ _ (News.row hi hown rfl rfl rfl (fun g hg=>heap_alloc_old w _ g hg) (by simp) hblk)
/-- The bytes of a text. -/
def bytesOf (b:ByteArray):List Int:=b.data.toList.map fun x=>(x.toNat:Int)
theorem DOp.strBytes {s t e : TypeId} {d : TypeDesc} {x : Operand} {b : ByteArray} (ho : o.op = .convert s t x) (hs : P.underlying s = some d) (ht : P.underlying t = some (.slice e)) (he : P.underlying e = some (.int .u8)) (hx : st.use x = some ⟨.one, [.sc (.string b)]⟩) :
    DOp P o st ⟨.one,[.sl 1 ((bytesOf b).map fun n=>[.sc (.int .u8 n)])]⟩:=by
  intro a w r hi K Q hK
  have e1:=(hi.use hx).out_sc
  have hrun:(execOp a.eval o).run P w = .ok (.value (.slice (some ⟨w.heap.size,0,none⟩) b.size (grownCap w b.size 0 e))) (Lib.bytesWorld w e b):=by
    simp [execOp,ho,e1,Lib.run_convert_string_bytes w s t e b hs ht he]
  have hlen:((bytesOf b).map fun n=>[PC.sc (.int .u8 n)]).length = b.size:=by
    simp only [List.length_map,bytesOf,Array.length_toList]; rfl
  unfold Oper.wp
  rw [hrun,Oper.upon_value]
  refine hK _ (Lib.bytesWorld w e b) (fun g=>r.Sh g ∨ g = w.heap.size) (fun _=>none) ⟨by rfl,by rfl,by rfl,by rw [Lib.bytesWorld_size]; omega,fun g hg=>Lib.bytesWorld_at_old w e b g hg,fun g h=>.inl h,fun g hg=>hg.elim .inl fun h=>.inr ⟨by omega,by rw [Lib.bytesWorld_size]; omega⟩,⟨rfl,rfl⟩,fun c y hy=>?_,fun c y q hy hq=>?_,(fun _ _ h=>by cases h),(fun _ _ _ h=>by cases h)⟩
  · cases c with
    | succ c=>simp at hy
    | zero =>
      simp only [List.getElem?_cons_zero,Option.some.injEq] at hy
      subst hy
      refine ⟨rfl,.s ?_⟩
      have hat:∀ (i:Nat) (el:List PC),((bytesOf b).map fun n=>[PC.sc (.int .u8 n)])[i]? = some el → i < b.size ∧ el = [.sc (.int .u8 ((b.data.toList.getD i 0).toNat:Int))]:=by
        intro i el h
        have hi':i < b.size:=by rw [← hlen]; exact (List.getElem?_eq_some_iff.1 h).1
        have hi2:i < b.data.toList.length:=by simpa using hi'
        simp only [bytesOf,List.map_map,List.getElem?_map,List.getElem?_eq_getElem hi2,Option.map_some,Option.some.injEq,Function.comp_apply] at h
        refine ⟨hi',?_⟩
        rw [← h,List.getD_eq_getElem?_getD,List.getElem?_eq_getElem hi2]
        rfl
      have h:=RepS.sl (w:=Lib.bytesWorld w e b) (Sh:=fun g=>r.Sh g ∨ g = w.heap.size) (xs:=(bytesOf b).map fun n=>[PC.sc (.int .u8 n)]) (g:=w.heap.size) (off:=0) (c:=grownCap w b.size 0 e) (size:=1)
        (fun i _=>.int .u8 ((b.data.toList.getD i 0).toNat:Int)) (fun el hel=>by obtain ⟨n,_,rfl⟩:=List.mem_map.1 hel; rfl) (by rw [hlen]; exact grownCap_ge ..) (.inr rfl)
        (fun i j el y h1 h2=>by
          obtain ⟨h3,rfl⟩:=hat i el h1
          cases j with
          | zero=>have:=Lib.bytesWorld_cell w e b i h3; simpa using this
          | succ j=>simp at h2)
        (fun i j el y h1 h2=>by
          obtain ⟨h3,rfl⟩:=hat i el h1
          cases j with
          | zero=>simp only [List.getElem?_cons_zero,Option.some.injEq] at h2; subst h2; exact .sc rfl
          | succ j=>simp at h2)
      rw [hlen] at h
      exact h
  · cases c with
    | succ c=>simp at hy
    | zero =>
      simp only [List.getElem?_cons_zero,Option.some.injEq] at hy
      subst hy
      simp [PC.names] at hq
theorem bytesCells_list (w:World) (e:TypeId) (b:ByteArray):(Lib.bytesCells w e b).toList = strVals b ++ List.replicate (grownCap w b.size 0 e - b.size) (.int .u8 0):=by
  simp [Lib.bytesCells,strVals]
/-- The bytes of a text, as a row of the frame's own. -/
theorem DOp.strOwn {s t e : TypeId} {d : TypeDesc} {x : Operand} {b : ByteArray} (ho : o.op = .convert s t x) (hs : P.underlying s = some d) (ht : P.underlying t = some (.slice e)) (he : P.underlying e = some (.int .u8)) (hc : P.cellsOf e = 1) (hx : st.use x = some ⟨.one, [.sc (.string b)]⟩) (hb : b.size ≤ 9223372036854775807) :
    DOp P o st ⟨.one,[.own e (strRow b)]⟩:=by
  intro a w r hi K Q hK
  have e1:=(hi.use hx).out_sc
  have hrun:(execOp a.eval o).run P w = .ok (.value (.slice (some ⟨w.heap.size,0,none⟩) b.size (grownCap w b.size 0 e))) (Lib.bytesWorld w e b):=by
    simp [execOp,ho,e1,Lib.run_convert_string_bytes w s t e b hs ht he]
  have hge:=grownCap_ge w b.size 0 e
  have hcsz:(Lib.bytesCells w e b).size = grownCap w b.size 0 e:=by
    rw [← Array.length_toList,bytesCells_list,List.length_append,strVals_length,List.length_replicate]
    omega
  have hown:RepOwn P (Lib.bytesWorld w e b) r.Sh e (strRow b) (.slice (some ⟨w.heap.size,0,none⟩) b.size (grownCap w b.size 0 e)) (Value.slice (some ⟨w.heap.size,0,none⟩) b.size (grownCap w b.size 0 e)).ownBlock:=by
    refine ⟨strVals b,⟨by rw [hc,strVals_length,strRow_length,Nat.mul_one],.inr ⟨w.heap.size,grownCap w b.size 0 e,Lib.bytesCells w e b,_,by rw [strRow_length],.inr (Nat.le_refl _),Lib.bytesWorld_at_new w e b,by rw [strRow_length]; exact hge,grownCap_le_maxLen w b.size 0 e (by unfold maxLen; omega),by rw [hc,Nat.mul_one]; exact hcsz,?_⟩⟩,rfl,?_,?_⟩
    · rw [hc,Nat.mul_one,strRow_length,bytesCells_list,← strVals_length b]
      exact List.take_left
    · intro el hel
      obtain ⟨x,_,rfl⟩:=List.mem_map.1 hel
      rw [hc]; rfl
    · intro i x hx
      have h6:=one_at (xs:=strRow b) (fun el hel=>by obtain ⟨x,_,rfl⟩:=List.mem_map.1 hel; rfl) hx
      simp only [strRow,List.getElem?_map,Option.map_eq_some_iff] at h6
      obtain ⟨y,hy,hy2⟩:=h6
      cases hy2
      exact ⟨_,by simp only [strVals,List.getElem?_map,hy,Option.map_some],.sc rfl⟩
  unfold Oper.wp
  rw [hrun,Oper.upon_value]
  exact hK _ _ _ _ (News.row hi hown rfl rfl rfl (fun g hg=>Lib.bytesWorld_at_old w e b g hg) (by rw [Lib.bytesWorld_size]; omega) (fun g hg=>by simp [Value.ownBlock] at hg; omega))
/-- Bytes made a text. -/
theorem Reads.bytesStr {s t e : TypeId} {x : Operand} {c : PC} {sz : Nat} {xs : List (List PC)} {ns : List Int} (ho : o.op = .convert s t x) (hs : P.underlying s = some (.slice e)) (he : P.underlying e = some (.int .u8)) (ht : P.underlying t = some .string)
    (hx:st.use x = some ⟨.one,[c]⟩) (hr:St.row P st 4 c = some (sz,xs)) (hsz:sz = 1) (hn:xs = ns.map fun n=>[PC.sc (.int .u8 n)]):Reads P o st ⟨.one,[.sc (.string (strOfNums ns))]⟩:=fun a w r hi=>by
  obtain ⟨_,h1,_⟩:=(hi.use hx).out
  obtain ⟨ad,cp,hv,_,hb⟩:=hi.row 4 h1 hr
  have hlen:ns.length = xs.length:=by rw [hn,List.length_map]
  refine ⟨_,?_,Has.sc rfl⟩
  have hrun:(convert s t (.slice ad xs.length cp)).run P w = .ok (.string (strOfNums ns)) w:=by
    by_cases hne:xs = []
    · obtain rfl : ns = [] := by
        cases ns with
        | nil=>rfl
        | cons y l=>rw [hne] at hn; cases hn
      rw [hne,List.length_nil]
      cases ad with
      | none=>exact run_convert_bytes_nil w s e hs he 0 cp t ht
      | some A =>
        rw [run_convert_bytes_string w s t e _ _ _ hs he ht,run_bytesToString w A 0 cp [] (by simp [loadCells,loadCellsFrom])]
        rfl
    · obtain ⟨k,off,rfl,hz,hcell⟩:=hb hne
      exact run_convert_bytes_arg (P:=P) w s e hs he k off xs.length cp ns hlen (fun i hi'=>by
        have hi2:i < ns.length:=by omega
        have hel:xs[i]? = some [PC.sc (.int .u8 ns[i])]:=by rw [hn,List.getElem?_map,List.getElem?_eq_getElem hi2]; rfl
        obtain ⟨u,hu,hru⟩:=hcell i 0 _ _ hel rfl
        subst hsz
        cases hru
        rw [List.getD_eq_getElem?_getD,List.getElem?_eq_getElem hi2]
        simpa using hu) t ht
  simp [execOp,ho,hv,hrun]
/-- What makes one new value, in an order of ours. -/
theorem DOp.ok {pv:PV} {d:Nat} (h:DOp P o st pv) (ho:o.dst = some d) (hd:st.okd d) (hno:st.get d = none):OpOK P o st (st.put d pv):=by
  intro a w r hi K Q hK
  refine h a w r hi K Q fun v w' Sn γd hn=>?_
  obtain ⟨r'',h1,h2⟩:=hi.news hd hno hn
  rw [ho] at hK ⊢
  exact hK v w' r'' rfl h1 h2
end
end Go.Proofs.YtoclajfeeebbbadGreatDoor.E
/- The engine, part WA: contracts of functions that write boxes, and one row of their caller. Plain lemmas; no program. -/
set_option linter.unusedVariables false
set_option linter.unusedSectionVars false
set_option linter.unusedSimpArgs false
namespace Go.Proofs.YtoclajfeeebbbadGreatDoor.E
open Go.RowKit
variable [LaidFacts]
section
variable {P:Program} {st:St} {a:Act} {w:World} {r:Rs}
/-- A row cell that a callee keeps, as a value. -/
def kept (l:List PC):List PV:=l.map fun c=>⟨.one,[c]⟩
/-- WHAT A FUNCTION DOES, more generally: the arguments `keep` stay where they are, what they own may be written; behind the call they read `kcs`. -/
def FnG (P:Program) (f:FuncId) (args:List PV) (keep:List Nat) (bx:List (List PC)) (res:PV) (kcs:List PC) (bx':List (List PC)):Prop :=
  ∀ (vals:Array Value) (w:World) (r:Rs),Inv P ⟨args.length,enum 0 args,bx,bx.length,keep⟩ ⟨vals,[]⟩ w r →
    Calls P f vals w fun e w'=>∃ v r',e = .returned v ∧ Inv P ⟨keep.length + 1,enum 0 (res :: kept kcs),bx',0,[]⟩ ⟨(v :: keep.map fun j=>vals.getD j undef).toArray,[]⟩ w' r' ∧ Step bx.length w r bx.length w' r' bx'.length
/-! Behind a body: several outputs. -/
def Rs.leaveG (r:Rs) (st:St) (tss:List (List Nat)) (n:Nat):Rs :=
  { Sh:=r.Sh,β:=r.β,κ:=r.κ,γ:=fun p=>match p with
    | .t t c=>((placesOf st (tss.getD t []))[c]?).bind r.γ
    | .b b c=>if b < n then r.γ (.b b c) else none }
theorem Inv.leaveG (h : Inv P st a w r) {tss : List (List Nat)} {pvs : List PV} (hr : mapO (resultsOf st) tss = some pvs) (hnd : tss.flatten.Nodup) {n : Nat} (hn : n ≤ st.bx.length) (hfree : pvs.all (fun pv => pv.cs.all (·.free n)) = true) (hbx : ∀ cs ∈ st.bx.take n, cs.all (·.free n) = true) :
    ∃ r',Inv P ⟨tss.length,enum 0 pvs,st.bx.take n,0,[]⟩ ⟨(tss.map (resV a.tmps)).toArray,[]⟩ w r' ∧ r'.Sh = r.Sh ∧ r'.β = r.β ∧ r'.κ = r.κ ∧ ∀ g,r'.X n g → r.X st.bx.length g:=by
  obtain ⟨hlen0,hat0⟩:=mapO_at hr
  have hlen:(st.bx.take n).length = n:=by simp; omega
  let S:St:=⟨tss.length,enum 0 pvs,st.bx.take n,0,[]⟩
  have hget:∀ t pv,S.get t = some pv → ∃ ts,tss[t]? = some ts ∧ pvs[t]? = some pv ∧ resultsOf st ts = some pv ∧ tss.getD t [] = ts:=by
    intro t pv ht
    have h1:pvs[t]? = some pv:=by
      simp only [S,St.get,look_enum,Nat.zero_le,if_true,Nat.sub_zero] at ht
      exact ht
    obtain ⟨ts,h2,h3⟩:=hat0 t pv h1
    exact ⟨ts,h2,h1,h3,by simp [List.getD_eq_getElem?_getD,h2]⟩
  have hputget:∀ t pv,pvs[t]? = some pv → S.get t = some pv:=by
    intro t pv ht
    simp only [S,St.get,look_enum,Nat.zero_le,if_true,Nat.sub_zero]
    exact ht
  have hval:∀ t ts,tss[t]? = some ts → ((tss.map (resV a.tmps)).toArray).getD t undef = resV a.tmps ts:=by
    intro t ts ht
    simp [Array.getD_eq_getD_getElem?,ht]
  have hndt:∀ (t:Nat) (ts:List Nat),tss[t]? = some ts → ts.Nodup:=fun t ts ht=>(List.pairwise_flatten.1 hnd).1 ts (List.mem_of_getElem? ht)
  have hdis:∀ (t t':Nat) (ts ts':List Nat),tss[t]? = some ts → tss[t']? = some ts' → t < t' → ∀ x ∈ ts,x ∉ ts':=by
    intro t t' ts ts' ht ht' hlt x hx hx'
    obtain ⟨hl,e⟩:=List.getElem?_eq_some_iff.1 ht
    obtain ⟨hl',e'⟩:=List.getElem?_eq_some_iff.1 ht'
    subst e e'
    exact (List.pairwise_iff_getElem.1 (List.pairwise_flatten.1 hnd).2 t t' hl hl' hlt) x hx x hx' rfl
  have hbox:∀ b cs,(st.bx.take n)[b]? = some cs → b < n ∧ st.bx[b]? = some cs:=by
    intro b cs hb
    rw [List.getElem?_take] at hb
    split at hb
    · exact ⟨‹_›,hb⟩
    · cases hb
  have hat:∀ p x,S.at p = some x → (∃ t c ts pv,p = .t t c ∧ tss[t]? = some ts ∧ pvs[t]? = some pv ∧ resultsOf st ts = some pv ∧ pv.cs[c]? = some x) ∨ (∃ b c,p = .b b c ∧ b < n ∧ st.at (.b b c) = some x):=by
    intro p x hp
    cases p with
    | t t c =>
      obtain ⟨pv,h1,h2⟩:=St.at_tmp hp
      obtain ⟨ts,h3,h4,h5,_⟩:=hget t pv h1
      exact .inl ⟨t,c,ts,pv,rfl,h3,h4,h5,h2⟩
    | b b c =>
      obtain ⟨_,cs,h1,h2⟩:=St.at_box hp
      obtain ⟨h3,h4⟩:=hbox b cs h1
      exact .inr ⟨b,c,rfl,h3,by simp [St.at,h4,h2]⟩
  have hfr:∀ p x,S.at p = some x → x.free n = true:=by
    intro p x hp
    rcases hat p x hp with ⟨t,c,ts,pv,_,_,h4,_,hx⟩ | ⟨b,c,rfl,hb,hx⟩
    · exact List.all_eq_true.1 (List.all_eq_true.1 hfree pv (List.mem_of_getElem? h4)) x (List.mem_of_getElem? hx)
    · obtain ⟨_,cs,h1,h2⟩:=St.at_box hx
      refine List.all_eq_true.1 (hbx cs ?_) x (List.mem_of_getElem? h2)
      exact List.mem_of_getElem? (by rw [List.getElem?_take,if_pos hb]; exact h1)
  have hγ:∀ p g,(r.leaveG st tss n).γ p = some g → (∃ t c q ts,p = .t t c ∧ tss[t]? = some ts ∧ (placesOf st ts)[c]? = some q ∧ r.γ q = some g) ∨ (∃ b c,p = .b b c ∧ b < n ∧ r.γ (.b b c) = some g):=by
    intro p g hg
    cases p with
    | t t c =>
      simp only [Rs.leaveG] at hg
      obtain ⟨q,h1,h2⟩:=Option.bind_eq_some_iff.1 hg
      cases ht:tss[t]? with
      | none=>rw [List.getD_eq_getElem?_getD,ht] at h1; simp [placesOf] at h1
      | some ts=>rw [List.getD_eq_getElem?_getD,ht] at h1; exact .inl ⟨t,c,q,ts,rfl,ht,h1,h2⟩
    | b b c =>
      simp only [Rs.leaveG] at hg
      split at hg
      · exact .inr ⟨b,c,rfl,‹_›,hg⟩
      · cases hg
  refine ⟨r.leaveG st tss n,?_,rfl,rfl,rfl,?_⟩
  · refine ⟨by simp,Nat.zero_le _,fun t pv ht=>?_,fun b cs hb=>?_,fun p x hp=>?_,fun p x q hp hq=>?_,fun p g hg=>?_,fun p q g hp hq=>?_,fun p g b hg hb=>?_,fun b b' hb hb'=>h.bb b b' (by simp at hb; omega) (by simp at hb'; omega),fun g hg=>?_,rfl,h.lw,fun _ h=>by cases h⟩
    · obtain ⟨ts,h1,h2,h3,_⟩:=hget t pv ht
      exact ⟨resV a.tmps ts,by simp [h1],(resultsOf_spec h ts h3).1⟩
    · exact h.bx b cs (hbox b cs hb).2
    · have hf:=hfr p x hp
      rcases hat p x hp with ⟨t,c,ts,pv,rfl,h1,h2,h3,hx⟩ | ⟨b,c,rfl,hb,hx⟩
      · obtain ⟨_,hpl,hres⟩:=resultsOf_spec h ts h3
        obtain ⟨q,k1,k2,k3⟩:=hres c x hx
        have hg:(r.leaveG st tss n).γ (.t t c) = r.γ q:=by simp [Rs.leaveG,List.getD_eq_getElem?_getD,h1,k1]
        show RepC P w _ _ _ x (alpha _ _ _ (.t t c)) _
        have ha:alpha ⟨(tss.map (resV a.tmps)).toArray,[]⟩ w (r.leaveG st tss n) (.t t c) = (flat (resV a.tmps ts)).getD c undef:=by simp only [alpha,hval t ts h1]
        rw [hg,ha,k3]
        exact (h.cell q x k2).free (by simpa [hlen] using hf) (fun _ h=>h) (fun _ _=>rfl)
      · have hg:(r.leaveG st tss n).γ (.b b c) = r.γ (.b b c):=by simp [Rs.leaveG,hb]
        show RepC P w _ _ _ x (alpha a w r (.b b c)) _
        rw [hg]
        exact (h.cell _ x hx).free (by simpa [hlen] using hf) (fun _ h=>h) (fun _ _=>rfl)
    · rw [free_names (hfr p x hp)] at hq; cases hq
    · rcases hγ p g hg with ⟨t,c,q,ts,rfl,h0,h1,h2⟩ | ⟨b,c,rfl,hb,h2⟩
      · obtain ⟨e,xs,hx⟩:=h.live q g h2
        obtain ⟨hl,e0⟩:=List.getElem?_eq_some_iff.1 h0
        have hpv:pvs[t]? = some (pvs[t]'(by omega)):=List.getElem?_eq_getElem _
        obtain ⟨ts',k1,k2⟩:=hat0 t _ hpv
        rw [h0] at k1; cases k1
        obtain ⟨_,hpl,hres⟩:=resultsOf_spec h _ k2
        have hc:c < (pvs[t]'(by omega)).cs.length:=by rw [← hpl]; exact (List.getElem?_eq_some_iff.1 h1).1
        obtain ⟨q',h3,h4,_⟩:=hres c _ (List.getElem?_eq_getElem hc)
        rw [h1] at h3; cases h3
        rw [hx] at h4
        refine ⟨e,xs,?_⟩
        show S.at (.t t c) = _
        simp only [St.at,hputget t _ hpv,Option.bind_some]
        rw [List.getElem?_eq_getElem hc]; exact h4.symm
      · obtain ⟨e,xs,hx⟩:=h.live _ g h2
        obtain ⟨_,cs,h3,h4⟩:=St.at_box hx
        exact ⟨e,xs,by simp only [St.at,List.getElem?_take,if_pos hb,h3,Option.bind_some]; exact h4⟩
    · rcases hγ p g hp with ⟨t,c,z,ts,rfl,h0,h1,h2⟩ | ⟨b,c,rfl,hb,h2⟩ <;> rcases hγ q g hq with ⟨t',c',z',ts',rfl,h0',h1',h2'⟩ | ⟨b',c',rfl,hb',h2'⟩
      · have:=h.inj z z' g h2 h2'
        subst this
        rcases Nat.lt_trichotomy t t' with hlt | rfl | hlt
        · obtain ⟨x,cx,e1,m1⟩:=placesOf_mem (List.mem_of_getElem? h1)
          obtain ⟨x',cx',e2,m2⟩:=placesOf_mem (List.mem_of_getElem? h1')
          rw [e1] at e2; cases e2
          exact absurd m2 (hdis t t' ts ts' h0 h0' hlt x m1)
        · rw [h0] at h0'; cases h0'
          have:=(List.getElem?_inj (List.getElem?_eq_some_iff.1 h1).1 (placesOf_nodup (hndt t ts h0))).1 (h1.trans h1'.symm)
          rw [this]
        · obtain ⟨x,cx,e1,m1⟩:=placesOf_mem (List.mem_of_getElem? h1)
          obtain ⟨x',cx',e2,m2⟩:=placesOf_mem (List.mem_of_getElem? h1')
          rw [e1] at e2; cases e2
          exact absurd m1 (hdis t' t ts' ts h0' h0 hlt x m2)
      · have:=h.inj z _ g h2 h2'
        obtain ⟨t',c'',e,_⟩:=placesOf_mem (List.mem_of_getElem? h1)
        rw [e] at this; cases this
      · have:=h.inj _ z' g h2 h2'
        obtain ⟨t',c'',e,_⟩:=placesOf_mem (List.mem_of_getElem? h1')
        rw [e] at this; cases this
      · exact h.inj _ _ g h2 h2'
    · have hb':b < st.bx.length:=by simp at hb; omega
      rcases hγ p g hg with ⟨t,c,z,ts,rfl,h0,h1,h2⟩ | ⟨b2,c,rfl,hb2,h2⟩
      · exact h.exb z g b h2 hb'
      · exact h.exb _ g b h2 hb'
    · obtain ⟨h1,h2,h3⟩:=h.sh g hg
      refine ⟨h1,fun p hp=>?_,fun b hb=>h3 b (by simp at hb; omega)⟩
      rcases hγ p g hp with ⟨t,c,z,ts,rfl,_,h4,h5⟩ | ⟨b2,c,rfl,hb2,h5⟩
      · exact h2 z h5
      · exact h2 _ h5
  · intro g hg
    rcases hg with ⟨p,hp⟩ | ⟨b,hb,hbe⟩
    · rcases hγ p g hp with ⟨t,c,z,ts,rfl,_,h4,h5⟩ | ⟨b2,c,rfl,hb2,h5⟩
      · exact .inl ⟨z,h5⟩
      · exact .inl ⟨_,h5⟩
    · exact .inr ⟨b,by omega,hbe⟩
theorem flat1:∀ (l:List Nat),(l.map fun j=>[j]).flatten = l
  | []=>rfl
  | x :: l=>by simp [flat1 l]
theorem inB_mem {j:Nat}:∀ {l:List Nat},j ∈ l → inB j l = true
  | [],h=>by cases h
  | x :: l,h=>by
    simp only [inB]
    split
    · rfl
    · rename_i hb
      rcases List.mem_cons.1 h with rfl | h
      · rw [Nat.beq_refl] at hb; cases hb
      · exact inB_mem h
/-- What a body must end in: results, the kept rows, the boxes. -/
def EndsG (ts:List Nat) (keep:List Nat) (res:PV) (kcs:List PC) (bx':List (List PC)) (e:Exit) (st':St):Prop :=
  (e = .normal ∨ e = .ret) ∧ mapO (resultsOf st') (ts :: keep.map fun j=>[j]) = some (res :: kept kcs) ∧ (res :: kept kcs).all (fun pv=>pv.cs.all (·.free bx'.length)) = true ∧ bx'.length ≤ st'.bx.length ∧ st'.bx.take bx'.length = bx' ∧ bx'.all (fun cs=>cs.all (·.free bx'.length)) = true ∧ st'.fx = keep
theorem FnG.body {f : FuncId} {fn : Func} {c : Code} {args : List PV} {keep : List Nat} {kcs : List PC} {bx bx' : List (List PC)} {res : PV} {ts : List Nat} (hf : P.funcs[f]? = some fn) (hb : fn.body = some c) (hres : fn.results = (ts.map ResultVar.tmp).toArray) (hl : ts.length ≤ 4) (hnd : (ts ++ keep).Nodup)
    (hn:args.length ≤ fn.ntmps) (hk:keep.all (fun j=>Nat.ble (j + 1) args.length) = true) (hbl:bx.length ≤ bx'.length) (h:Tri P c (EndsG ts keep res kcs bx') ⟨fn.ntmps,enum 0 args,bx,bx.length,keep⟩):FnG P f args keep bx res kcs bx':=by
  intro vals w r hi
  have hsz:vals.size = args.length:=hi.sz
  refine calls_of_wp hf hb ?_
  have hstart:Inv P ⟨fn.ntmps,enum 0 args,bx,bx.length,keep⟩ ⟨vals ++ Array.replicate (fn.ntmps - vals.size) undef,[]⟩ w r:=by
    have hal:∀ p,(⟨args.length,enum 0 args,bx,bx.length,keep⟩:St).ex p → alpha ⟨vals ++ Array.replicate (fn.ntmps - vals.size) undef,[]⟩ w r p = alpha ⟨vals,[]⟩ w r p:=by
      intro p hp
      cases p with
      | t t c =>
        obtain ⟨pv,hp⟩:=hp
        obtain ⟨v,h1,_⟩:=hi.tm t pv hp
        have hlt:t < vals.size:=(Array.getElem?_eq_some_iff.1 h1).1
        simp only [alpha,Array.getD_eq_getD_getElem?]
        rw [Array.getElem?_append_left hlt]
      | b b c=>rfl
    have hex:∀ p x,(⟨fn.ntmps,enum 0 args,bx,bx.length,keep⟩:St).at p = some x → (⟨args.length,enum 0 args,bx,bx.length,keep⟩:St).ex p:=by
      intro p x hx
      cases p with
      | t t c=>obtain ⟨pv,h1,_⟩:=St.at_tmp hx; exact ⟨pv,h1⟩
      | b b c=>exact (St.at_box hx).1
    refine ⟨by simp; omega,Nat.le_refl _,fun t pv ht=>?_,hi.bx,fun p x hx=>?_,hi.nm,hi.live,hi.inj,hi.exb,hi.bb,hi.sh,rfl,hi.lw,fun t ht=>?_⟩
    · obtain ⟨v,h1,h2⟩:=hi.tm t pv ht
      exact ⟨v,by rw [Array.getElem?_append_left (Array.getElem?_eq_some_iff.1 h1).1]; exact h1,h2⟩
    · rw [hal p (hex p x hx)]
      exact (hi.cell p x hx).mono (fun _ h=>h) (fun _ _=>rfl) (fun _ _=>rfl) (fun b hb=>⟨hb,rfl⟩) (fun q hq hl=>⟨hl,hal q (hi.nm p x q hx hq)⟩)
    · have h1:=hi.fx t ht
      show (vals ++ Array.replicate (fn.ntmps - vals.size) undef)[t]? = _
      rw [Array.getElem?_append_left (Array.getElem?_eq_some_iff.1 h1).1]; exact h1
  refine Code.wp_mono (fun e a' w' k=>?_) (h _ w r hstart)
  obtain ⟨st',r',⟨he,hr,hfr,hle,htake,hbf,hfx⟩,hm,hinv,hstep⟩:=k
  obtain ⟨r'',h1,h2,h3,h5,h4⟩:=hinv.leaveG hr (by rw [List.flatten_cons,flat1]; exact hnd) hle hfr (by rw [htake]; exact fun cs hcs=>List.all_eq_true.1 hbf cs hcs)
  rw [htake] at h1
  have hstep':Step bx.length w r bx.length w' r'' bx'.length:=by
    refine hstep.trans ⟨rfl,rfl,rfl,Nat.le_refl _,fun _ _ _=>rfl,fun g hg=>h2 ▸ hg,fun g hg=>.inl (h2 ▸ hg),fun g hg=>.inl (h4 g hg),fun b _=>by rw [h3],h5,fun _ _ h=>h⟩
  have hkeep:(ts :: keep.map fun j=>[j]).map (resV a'.tmps) = resV a'.tmps ts :: keep.map fun j=>vals.getD j undef:=by
    simp only [List.map_cons,List.map_map,List.cons.injEq,true_and]
    refine List.map_congr_left fun j hj=>?_
    have hin:inB j keep = true:=inB_mem hj
    have e1:a'.tmps[j]? = some (r'.κ j):=hinv.fx j (by rw [hfx]; exact hin)
    have e2:vals[j]? = some (r.κ j):=hi.fx j hin
    have e3:r'.κ = r.κ:=hstep.κ
    simp only [Function.comp_apply,resV,Array.getD_eq_getD_getElem?,e1,e2,e3]
  have hlen1:(ts :: keep.map fun j=>[j]).length = keep.length + 1:=by simp
  rw [hkeep,hlen1] at h1
  have hrun:=run_results (P:=P) hres hl a'.tmps w'
  rcases he with rfl | rfl
  · exact ⟨hinv.defers,_,hrun,_,r'',rfl,h1,hstep'⟩
  · exact ⟨hinv.defers,_,hrun,_,r'',rfl,h1,hstep'⟩
end
end Go.Proofs.YtoclajfeeebbbadGreatDoor.E
