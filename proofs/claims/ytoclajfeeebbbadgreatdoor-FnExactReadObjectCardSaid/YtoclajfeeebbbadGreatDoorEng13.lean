/- The engine, part WB: calls of functions that write our boxes, or one row of ours. Plain lemmas; no program. -/
import Derived.Test.YtoclajfeeebbbadGreatDoorEng12
set_option linter.unusedVariables false
set_option linter.unusedSectionVars false
set_option linter.unusedSimpArgs false
namespace Go.Proofs.YtoclajfeeebbbadGreatDoor.E
open Go.RowKit
variable [LaidFacts]
def placeB:Place → Place → Bool
 | .t t c,.t u d=>Nat.beq t u && Nat.beq c d
 | .b b c,.b u d=>Nat.beq b u && Nat.beq c d
 | _,_=>false
theorem placeB_eq {p q:Place} (h:placeB p q = true):p = q:=by
 cases p <;> cases q <;> simp only [placeB] at h <;> first
  | (cases h; done)
  | (simp only [Bool.and_eq_true] at h; rw [Nat.eq_of_beq_eq_true h.1,Nat.eq_of_beq_eq_true h.2])
/-! Boxes under other numbers. -/
def ren (ρ:Nat → Option Nat):Nat → PC → Option PC
 | _,.sc v=>some (.sc v)
 | _,.sl s xs=>some (.sl s xs)
 | _,.own e xs=>some (.own e xs)
 | _,.cel cs off=>some (.cel cs off)
 | _,.bnd f cs=>some (.bnd f cs)
 | _,.er=>some .er
 | _,.nl=>some .nl
 | _,.dead=>some .dead
 | _,.ref b off=>match ρ b with
  | some b'=>some (.ref b' off)
  | none=>none
 | _,.opt T u b off=>match ρ b with
  | some b'=>some (.opt T u b' off)
  | none=>none
 | k + 1,.fn f caps=>match mapO (ren ρ k) caps with
  | some l=>some (.fn f l)
  | none=>none
 | _,_=>none
theorem ren_boxable {ρ:Nat → Option Nat} {k:Nat} {x y:PC} (h:ren ρ k x = some y):y.boxable = true ∧ y.names = none:=by
  cases x <;> cases k <;> simp only [ren] at h <;> first
    | (cases h; done)
    | (cases h; exact ⟨rfl,rfl⟩)
    | (split at h
       · cases h; exact ⟨rfl,rfl⟩
       · cases h)
theorem ren_own {ρ:Nat → Option Nat} {k:Nat} {x:PC} {e:TypeId} {xs:List (List PC)} (h:ren ρ k x = some (.own e xs)):x = .own e xs:=by
 cases x <;> cases k <;> simp only [ren] at h <;> first
  | (cases h; done)
  | (cases h; rfl)
  | (split at h <;> cases h)
theorem ren_dead {ρ:Nat → Option Nat} {k:Nat} {x:PC} (h:ren ρ k x = some .dead):x = .dead:=by
 cases x <;> cases k <;> simp only [ren] at h <;> first
  | (cases h; done)
  | (cases h; rfl)
  | (split at h <;> cases h)
theorem ren_rep {w:World} {Sh:Nat → Prop} {β β':Nat → Nat} {nb nb':Nat} {ρ:Nat → Option Nat} (hρ:∀ b b',b < nb → ρ b = some b' → b' < nb' ∧ β' b' = β b):∀ (k:Nat) {x y:PC} {v:Value},RepF w Sh β nb x v → ren ρ k x = some y → RepF w Sh β' nb' y v:=by
 intro k
 induction k with
 | zero =>
  intro x y v h hy
  cases h with
  | s h =>
   cases h <;> simp only [ren] at hy <;> first
    | (cases hy; done)
    | (cases hy; exact .s (by first | exact .sc ‹_› | exact .bnd ‹_› ‹_› | exact .nil | exact .er | exact .nl | exact .sl _ ‹_› ‹_› ‹_› ‹_› ‹_› | exact .cel _ ‹_› ‹_› ‹_›))
  | ref h =>
   simp only [ren] at hy
   split at hy
   ·rename_i b' hb
    cases hy
    obtain ⟨h1,h2⟩:=hρ _ _ h hb
    rw [← h2]; exact .ref h1
   ·cases hy
  | opt h ht =>
   simp only [ren] at hy
   split at hy
   ·rename_i b' hb
    cases hy
    obtain ⟨h1,h2⟩:=hρ _ _ h hb
    rw [← h2]; exact .opt h1 (by rw [h2]; exact ht)
   ·cases hy
  | fn hn hr=>simp [ren] at hy
 | succ k ih =>
  intro x y v h hy
  cases h with
  | s h =>
   cases h
   case fn f caps vs hn hr =>
    simp only [ren] at hy
    split at hy
    ·rename_i l hl
     cases hy
     obtain ⟨h1,h2⟩:=mapO_at hl
     refine .fn (by rw [hn,h1]) fun j x u hj hu=>?_
     obtain ⟨z,hz,hpz⟩:=h2 j x hj
     exact ih (.s (hr j z u hz hu)) hpz
    ·cases hy
   all_goals
    simp only [ren] at hy
    cases hy
    exact .s (by first | exact .sc ‹_› | exact .bnd ‹_› ‹_› | exact .nil | exact .er | exact .nl | exact .sl _ ‹_› ‹_› ‹_› ‹_› ‹_› | exact .cel _ ‹_› ‹_› ‹_›)
  | ref h =>
   simp only [ren] at hy
   split at hy
   ·rename_i b' hb
    cases hy
    obtain ⟨h1,h2⟩:=hρ _ _ h hb
    rw [← h2]; exact .ref h1
   ·cases hy
  | opt h ht =>
   simp only [ren] at hy
   split at hy
   ·rename_i b' hb
    cases hy
    obtain ⟨h1,h2⟩:=hρ _ _ h hb
    rw [← h2]; exact .opt h1 (by rw [h2]; exact ht)
   ·cases hy
  | fn hn hr =>
   simp only [ren] at hy
   split at hy
   ·rename_i l hl
    cases hy
    obtain ⟨h1,h2⟩:=mapO_at hl
    refine .fn (by rw [hn,h1]) fun j x u hj hu=>?_
    obtain ⟨z,hz,hpz⟩:=h2 j x hj
    exact ih (hr j z u hz hu) hpz
   ·cases hy
section
variable {P:Program} {st:St} {a:Act} {w:World} {r:Rs}
theorem ren_repC {r':Rs} {st':St} {al al':Place → Value} {ρ:Nat → Option Nat} {k:Nat} {x y:PC} {v:Value} {g:Option Nat} (hS:∀ j,r.Sh j → r'.Sh j) (hρ:∀ b b',b < st.bx.length → ρ b = some b' → b' < st'.bx.length ∧ r'.β b' = r.β b)
  (h:RepC P w r st al x v g) (hy:ren ρ k x = some y):RepC P w r' st' al' y v g:=by
 cases x
 case own e xs =>
  have:y = .own e xs:=by cases k <;> simp only [ren,Option.some.injEq] at hy <;> exact hy.symm
  subst this
  exact RepOwn.mono hS (fun _ _=>rfl) (fun _ _=>rfl) h
 case dead =>
  have:y = .dead:=by cases k <;> simp only [ren,Option.some.injEq] at hy <;> exact hy.symm
  subst this
  exact h
 case al=>cases k <;> simp [ren] at hy
 case vw=>cases k <;> simp [ren] at hy
 case el=>cases k <;> simp [ren] at hy
 all_goals
  have hF:=(ren_rep hρ k h.2 hy).mono hS (fun _ _=>rfl) (fun b hb=>⟨hb,rfl⟩)
  have h1:=h.1
  have hno:=(ren_boxable hy).1
  clear h
  cases y
  case own e xs=>exact absurd (ren_own hy) (by simp)
  case dead=>exact h1
  case al=>cases hno
  case vw=>cases hno
  case el=>cases hno
  all_goals exact ⟨h1,hF⟩
/-! What a callee gets. -/
def idxB (b:Nat):Nat → List Nat → Option Nat
 | _,[]=>none
 | i,x :: l=>match Nat.beq x b with
  | true=>some i
  | false=>idxB b (i + 1) l
theorem idxB_spec {b:Nat}:∀ {l:List Nat} {k i:Nat},idxB b k l = some i → k ≤ i ∧ l[i - k]? = some b
 | [],k,i,h=>by cases h
 | x :: l,k,i,h=>by
  simp only [idxB] at h
  split at h
  ·rename_i hb
   cases h
   exact ⟨Nat.le_refl _,by rw [Nat.sub_self]; simp [Nat.eq_of_beq_eq_true hb]⟩
  ·obtain ⟨h1,h2⟩:=idxB_spec h
   exact ⟨by omega,by rw [show i - k = (i - (k + 1)) + 1 by omega]; simpa using h2⟩
theorem idxB_none {b:Nat}:∀ {l:List Nat} {k:Nat},idxB b k l = none → b ∉ l
 | [],k,h=>by simp
 | x :: l,k,h=>by
  simp only [idxB] at h
  split at h
  ·cases h
  ·rename_i hb
   intro hm
   rcases List.mem_cons.1 hm with rfl | hm
   ·rw [Nat.beq_refl] at hb; cases hb
   ·exact idxB_none h hm
theorem inB_false {i:Nat}:∀ {l:List Nat},inB i l = false → i ∉ l
 | [],_=>by simp
 | x :: l,h=>by
  simp only [inB] at h
  split at h
  ·cases h
  ·rename_i hb
   intro hm
   rcases List.mem_cons.1 hm with rfl | hm
   ·rw [Nat.beq_refl] at hb; cases hb
   ·exact inB_false h hm
def isMv:Option Place → Place → Bool
 | some q,p=>placeB p q
 | none,_=>false
def passB (st:St) (bs:List Nat) (mv:Option Place):PC → Option PC
 | .al p=>match isMv mv p,st.at p with
  | true,some (.own e xs)=>some (.own e xs)
  | false,some (.sl s xs)=>some (.sl s xs)
  | false,some .nl=>some .nl
  | _,_=>none
 | .own _ _=>none
 | .dead=>none
 | x=>ren (fun b=>idxB b 0 bs) 4 x
def boxIn (st:St) (bs:List Nat) (b:Nat):Option (List PC) :=
 match st.bx[b]? with
 | some cs=>mapO (ren (fun b=>idxB b 0 bs) 4) cs
 | none=>none
def notOwn:PC → Bool
 | .own _ _=>false
 | _=>true
/-- No row of its own but in the argument j. -/
def ownFree (j:Option Nat):Nat → List PV → Bool
 | _,[]=>true
 | i,pv :: l=>((match j with | some j=>Nat.beq i j | none=>false) || pv.cs.all notOwn) && ownFree j (i + 1) l
theorem ownFree_at {j:Option Nat}:∀ {l:List PV} {k:Nat},ownFree j k l = true → ∀ (t:Nat) (pv:PV),l[t]? = some pv → j = some (k + t) ∨ pv.cs.all notOwn = true
 | [],k,h,t,pv,ht=>by simp at ht
 | x :: l,k,h,t,pv,ht=>by
  simp only [ownFree,Bool.and_eq_true] at h
  cases t with
  | zero =>
   simp only [List.getElem?_cons_zero,Option.some.injEq] at ht
   subst ht
   have h1:=h.1
   rw [Bool.or_eq_true] at h1
   rcases h1 with h1 | h1
   ·cases j with
    | none=>cases h1
    | some j=>exact .inl (by rw [← Nat.eq_of_beq_eq_true h1]; rfl)
   ·exact .inr h1
  | succ t =>
   rcases ownFree_at h.2 t pv (by simpa using ht) with h1 | h1
   ·exact .inl (by rw [h1]; congr 1; omega)
   ·exact .inr h1
def offB (bs:List Nat):Place → Bool
 | .b b _=>!inB b bs
 | _=>true
def koB (st:St) (bs:List Nat) (ko:Option (Nat × Place)) (pvs args:List PV):Bool :=
 match ko with
 | none=>ownFree none 0 args
 | some (j,q)=>ownFree (some j) 0 args && offB bs q && (match pvs[j]? with | some ⟨.one,[.al p]⟩=>placeB p q | _=>false) && (match st.at q with | some (.own _ _)=>true | _=>false)
def nodupB:List Nat → Bool
 | []=>true
 | x :: l=>!inB x l && nodupB l
theorem nodupB_spec:∀ {l:List Nat},nodupB l = true → l.Nodup
 | [],_=>List.nodup_nil
 | x :: l,h=>by
  simp only [nodupB,Bool.and_eq_true,Bool.not_eq_true'] at h
  exact List.nodup_cons.2 ⟨inB_false h.1,nodupB_spec h.2⟩
def keepOf:Option (Nat × Place) → List Nat
 | some (j,_)=>[j]
 | none=>[]
def mvOf:Option (Nat × Place) → Option Place
 | some (_,q)=>some q
 | none=>none
def Rs.toB (r:Rs) (bs:List Nat) (ko:Option (Nat × Place)) (vals:Array Value):Rs :=
 { Sh:=r.Sh,β:=fun i=>r.β (bs.getD i 0),κ:=fun t=>vals.getD t undef,γ:=fun p=>match p with
  | .t t c=>match ko with
   | some (j,q)=>if t = j ∧ c = 0 then r.γ q else none
   | none=>none
  | .b i c=>if i < bs.length then r.γ (.b (bs.getD i 0) c) else none }
theorem Rs.toB_γ {bs:List Nat} {ko:Option (Nat × Place)} {vals:Array Value} {p:Place} {g:Nat} (h:(r.toB bs ko vals).γ p = some g) :
  (∃ j q,ko = some (j,q) ∧ p = .t j 0 ∧ r.γ q = some g) ∨ (∃ i b c,p = .b i c ∧ bs[i]? = some b ∧ r.γ (.b b c) = some g):=by
 cases p with
 | t t c =>
  simp only [Rs.toB] at h
  split at h
  ·rename_i j q
   split at h
   ·rename_i hc; obtain ⟨rfl,rfl⟩:=hc; exact .inl ⟨_,q,rfl,rfl,h⟩
   ·cases h
  ·cases h
 | b i c =>
  simp only [Rs.toB] at h
  split at h
  ·rename_i hi
   exact .inr ⟨i,bs.getD i 0,c,rfl,by simp [List.getD_eq_getElem?_getD,hi],h⟩
  ·cases h
/-- What must hold for a call that takes boxes along. -/
structure PassB (st:St) (bs:List Nat) (ko:Option (Nat × Place)) (pvs args:List PV) (ns:List Nat) (bxc:List (List PC)):Prop where
 lt:∀ b ∈ bs,b < st.bx.length
 nd:bs.Nodup
 ar:passPVs (passB st bs (mvOf ko)) pvs ns = some args
 bx:mapO (boxIn st bs) bs = some bxc
 ko:koB st bs ko pvs args = true
theorem PassB.len {bs:List Nat} {ko:Option (Nat × Place)} {pvs args:List PV} {ns:List Nat} {bxc:List (List PC)} (h:PassB st bs ko pvs args ns bxc):bs.length = bxc.length:=(mapO_at h.bx).1
theorem PassB.box {bs:List Nat} {ko:Option (Nat × Place)} {pvs args:List PV} {ns:List Nat} {bxc:List (List PC)} (h:PassB st bs ko pvs args ns bxc) {i:Nat} {cs:List PC} (hi:bxc[i]? = some cs) :
  ∃ b cs0,bs[i]? = some b ∧ st.bx[b]? = some cs0 ∧ mapO (ren (fun b=>idxB b 0 bs) 4) cs0 = some cs:=by
 obtain ⟨b,h1,h2⟩:=(mapO_at h.bx).2 i cs hi
 unfold boxIn at h2
 split at h2
 ·exact ⟨b,_,h1,‹_›,h2⟩
 ·cases h2
theorem PassB.keep {bs:List Nat} {j:Nat} {q:Place} {pvs args:List PV} {ns:List Nat} {bxc:List (List PC)} (h:PassB st bs (some (j,q)) pvs args ns bxc) :
  ∃ e xs,pvs[j]? = some ⟨.one,[.al q]⟩ ∧ st.at q = some (.own e xs) ∧ args[j]? = some ⟨.one,[.own e xs]⟩ ∧ offB bs q = true ∧ ownFree (some j) 0 args = true:=by
 have hk:=h.ko
 simp only [koB,Bool.and_eq_true] at hk
 obtain ⟨⟨⟨h1,h2⟩,h3⟩,h4⟩:=hk
 split at h3
 ·rename_i p hp
  have:=placeB_eq h3
  subst this
  split at h4
  ·rename_i e xs hat
   refine ⟨e,xs,hp,hat,?_,h2,h1⟩
   obtain ⟨hl,ha⟩:=passPVs_at h.ar
   have hj:j < args.length:=by rw [← hl]; exact (List.getElem?_eq_some_iff.1 hp).1
   obtain ⟨x,hx,k1,k2,k3⟩:=ha j _ (List.getElem?_eq_getElem hj)
   rw [hp] at hx; cases hx
   simp only [List.length_singleton] at k2
   generalize hz:args[j] = z at k1 k2 k3
   obtain ⟨sh,cs⟩:=z
   simp only at k1 k2 k3
   subst k1
   match cs,k2,k3 with
   | [c],_,k3 =>
    obtain ⟨u,hu,hpu⟩:=k3 0 c rfl
    simp only [List.getElem?_cons_zero,Option.some.injEq] at hu
    subst hu
    rcases hpu with hpu | ⟨hpu,_⟩
    ·simp only [passB,isMv,mvOf,h3,hat,Option.some.injEq] at hpu
     subst hpu
     rw [List.getElem?_eq_getElem hj,hz]
    ·cases hpu
  ·cases h4
 ·cases h3
theorem passB_ren {bs:List Nat} {mv:Option Place} {u y:PC} (h:passB st bs mv u = some y):(∃ p e xs,u = .al p ∧ mv = some p ∧ st.at p = some (.own e xs) ∧ y = .own e xs) ∨ (∃ p,u = .al p ∧ st.at p = some y ∧ y.plain = true) ∨ (ren (fun b=>idxB b 0 bs) 4 u = some y ∧ notOwn y = true ∧ y ≠ .dead):=by
 cases u
 case al p =>
  simp only [passB] at h
  split at h
  ·rename_i hm hat
   cases h
   refine .inl ⟨p,_,_,rfl,?_,hat,rfl⟩
   cases mv with
   | none=>cases hm
   | some q=>rw [placeB_eq hm]
  ·rename_i hat; cases h; exact .inr (.inl ⟨p,rfl,hat,rfl⟩)
  ·rename_i hat; cases h; exact .inr (.inl ⟨p,rfl,hat,rfl⟩)
  ·cases h
 case own=>cases h
 case dead=>cases h
 all_goals
  refine .inr (.inr ⟨h,?_,?_⟩)
  ·cases y <;> first | rfl | (have:=ren_own h; cases this)
  ·intro e; subst e; have:=ren_dead h; cases this
theorem frameB (hi:Inv P st a w r) {as:List Operand} {pvs args:List PV} {caps:List PC} {vs:Array Value} {ns bs:List Nat} {ko:Option (Nat × Place)} {bxc:List (List PC)} (hu:as.map st.use = pvs.map some)
  (hn:vs.size = caps.length) (hr:∀ (j:Nat) (y:PC) (u:Value),caps[j]? = some y → vs[j]? = some u → RepF w r.Sh r.β st.bx.length y u) (hp:PassB st bs ko (pvs ++ ones caps) args ns bxc) :
  Inv P ⟨args.length,enum 0 args,bxc,bxc.length,keepOf ko⟩ ⟨(as.map a.eval ++ vs.toList).toArray,[]⟩ w (r.toB bs ko (as.map a.eval ++ vs.toList).toArray) ∧
  ∀ j q,ko = some (j,q) → ((as.map a.eval ++ vs.toList).toArray).getD j undef = alpha a w r q:=by
 obtain ⟨hl,hat⟩:=passPVs_at hp.ar
 have hbl:=hp.len
 have hlp:as.length = pvs.length:=by have:=congrArg List.length hu; simpa using this
 let vals:=(as.map a.eval ++ vs.toList).toArray
 have hsz:vals.size = args.length:=by simp [vals,← hl,ones,hlp,hn]
 let S:St:=⟨args.length,enum 0 args,bxc,bxc.length,keepOf ko⟩
 -- each argument, as our frame sees it
 have harg:∀ (t:Nat) (x:PV),(pvs ++ ones caps)[t]? = some x → ∃ v,vals[t]? = some v ∧ x.sh.fits x.cs.length v ∧ ∀ (c:Nat) (y:PC),x.cs[c]? = some y → RepC P w r st (alpha a w r) y ((flat v).getD c undef) none ∨ (y = .dead ∧ False) ∨ (∃ e xs,y = .own e xs):=by
  intro t x hx
  by_cases hlt:t < pvs.length
  ·rw [List.getElem?_append_left hlt] at hx
   have h4:=congrArg (fun l=>l[t]?) hu
   simp only [List.getElem?_map,hx,Option.map_some] at h4
   obtain ⟨o,ho,huo⟩:=Option.map_eq_some_iff.1 h4
   have hh:=hi.use huo
   refine ⟨a.eval o,?_,hh.1,fun c y hy=>.inl (hh.2 c y hy).1⟩
   have:(as.map a.eval ++ vs.toList)[t]? = some (a.eval o):=by rw [List.getElem?_append_left (by simpa [hlp] using hlt)]; simp [ho]
   simpa [vals] using this
  ·rw [List.getElem?_append_right (by omega)] at hx
   simp only [ones,List.getElem?_map] at hx
   obtain ⟨c,hc,rfl⟩:=Option.map_eq_some_iff.1 hx
   have hcl:=(List.getElem?_eq_some_iff.1 hc).1
   have hv:vs[t - pvs.length]? = some (vs[t - pvs.length]'(by omega)):=Array.getElem?_eq_getElem (by omega)
   have hrep:=hr _ c _ hc hv
   refine ⟨vs[t - pvs.length]'(by omega),?_,⟨rfl,hrep.one⟩,fun j y hy=>?_⟩
   ·have:(as.map a.eval ++ vs.toList)[t]? = some (vs[t - pvs.length]'(by omega)):=by
     rw [List.getElem?_append_right (by simp [hlp]; omega)]
     simp only [List.length_map,hlp]
     simp
    simpa [vals] using this
   ·cases j with
    | zero =>
     simp only [List.getElem?_cons_zero,Option.some.injEq] at hy
     subst hy
     rw [flat_one hrep.one]
     cases c <;> first
      | exact .inr (.inr ⟨_,_,rfl⟩)
      | exact .inl ⟨rfl,hrep⟩
      | (cases hrep with | s h=>cases h)
    | succ j=>simp at hy
 have hkv:∀ j q,ko = some (j,q) → vals.getD j undef = alpha a w r q ∧ ∃ e xs,st.at q = some (.own e xs) ∧ args[j]? = some ⟨.one,[.own e xs]⟩ ∧ offB bs q = true ∧ ownFree (some j) 0 args = true:=by
  intro j q hk
  subst hk
  obtain ⟨e,xs,h1,h2,h3,h4,h5⟩:=hp.keep
  obtain ⟨v,h6,h7,h8⟩:=harg j _ h1
  refine ⟨?_,e,xs,h2,h3,h4,h5⟩
  rcases h8 0 _ rfl with h9 | ⟨_,h9⟩ | ⟨_,_,h9⟩
  ·obtain ⟨_,h9⟩:=h9
   have:=h9 ⟨_,h2,by simp⟩
   rw [flat_one h7.2] at this
   have e1:vals.getD j undef = v:=by simp [Array.getD_eq_getD_getElem?,h6]
   rw [e1]; simpa using this
  ·exact h9.elim
  ·cases h9
 refine ⟨?_,fun j q hk=>(hkv j q hk).1⟩
 have hget:∀ t pv,S.get t = some pv → args[t]? = some pv:=by
  intro t pv ht
  simp only [S,St.get,look_enum,Nat.zero_le,if_true,Nat.sub_zero] at ht
  exact ht
 have hgetD:∀ i b,bs[i]? = some b → bs.getD i 0 = b:=fun i b h=>by simp [List.getD_eq_getElem?_getD,h]
 have hρ:∀ b b',b < st.bx.length → idxB b 0 bs = some b' → b' < S.bx.length ∧ (r.toB bs ko vals).β b' = r.β b:=by
  intro b b' _ h
  obtain ⟨_,h2⟩:=idxB_spec h
  rw [Nat.sub_zero] at h2
  refine ⟨?_,by simp only [Rs.toB,hgetD _ _ h2]⟩
  show b' < bxc.length
  rw [← hbl]; exact (List.getElem?_eq_some_iff.1 h2).1
 have hbx:∀ i c y,S.at (.b i c) = some y → ∃ b x,bs[i]? = some b ∧ b < st.bx.length ∧ st.at (.b b c) = some x ∧ ren (fun b=>idxB b 0 bs) 4 x = some y:=by
  intro i c y hy
  obtain ⟨_,cs,h1,h2⟩:=St.at_box hy
  obtain ⟨b,cs0,h3,h4,h5⟩:=hp.box h1
  obtain ⟨x,h6,h7⟩:=(mapO_at h5).2 c y h2
  exact ⟨b,x,h3,(List.getElem?_eq_some_iff.1 h4).1,by simp [St.at,h4,h6],h7⟩
 have hofs:∀ {j:Nat} {q:Place} {i b c:Nat},ko = some (j,q) → bs[i]? = some b → q ≠ .b b c:=by
  intro j q i b c hk hb e
  obtain ⟨_,_,_,_,_,h4,_⟩:=hkv j q hk
  subst e
  simp only [offB,Bool.not_eq_true'] at h4
  exact inB_false h4 (List.mem_of_getElem? hb)
 have halb:∀ i b c,bs[i]? = some b → alpha ⟨vals,[]⟩ w (r.toB bs ko vals) (.b i c) = alpha a w r (.b b c):=by
  intro i b c hb
  simp only [alpha,Rs.toB,hgetD i b hb]
 refine ⟨hsz,Nat.le_refl _,fun t pv ht=>?_,fun i cs' hb=>?_,fun p x hx=>?_,fun p x q hx hq=>?_,fun p g hg=>?_,fun p q g h1 h2=>?_,fun p g i hg hb=>?_,fun i i' h1 h2 he=>?_,fun g hg=>?_,rfl,hi.lw,fun t ht=>?_⟩
 ·have h1:=hget t pv ht
  obtain ⟨x,hx,h2,h3,_⟩:=hat t pv h1
  obtain ⟨v,h4,h5,_⟩:=harg t x hx
  exact ⟨v,h4,by rw [← h2,← h3]; exact h5⟩
 ·obtain ⟨b,cs0,h3,h4,h5⟩:=hp.box hb
  obtain ⟨⟨vals',e,h6,h7,h8⟩,_⟩:=hi.bx b cs0 h4
  refine ⟨⟨vals',e,by simp only [Rs.toB,hgetD i b h3]; exact h6,by rw [h7,(mapO_at h5).1],h8⟩,fun y hy=>?_⟩
  obtain ⟨j,hj⟩:=List.getElem?_of_mem hy
  obtain ⟨x,_,h10⟩:=(mapO_at h5).2 j y hj
  exact (ren_boxable h10).1
 ·cases p with
  | b i c =>
   obtain ⟨b,x0,h1,h2,h3,h4⟩:=hbx i c x hx
   rw [halb i b c h1]
   have hg:(r.toB bs ko vals).γ (.b i c) = r.γ (.b b c):=by simp only [Rs.toB,hgetD i b h1,if_pos (List.getElem?_eq_some_iff.1 h1).1]
   rw [hg]
   exact ren_repC (r:=r) (st:=st) (st':=S) (r':=r.toB bs ko vals) (fun _ h=>h) hρ (hi.cell _ x0 h3) h4
  | t t c =>
   obtain ⟨pv,h1,h2⟩:=St.at_tmp hx
   have h3:=hget t pv h1
   obtain ⟨x0,h4,h5,h6,h7⟩:=hat t pv h3
   obtain ⟨v,h8,h9,h10⟩:=harg t x0 h4
   have ha:alpha ⟨vals,[]⟩ w (r.toB bs ko vals) (.t t c) = (flat v).getD c undef:=by simp [alpha,Array.getD_eq_getD_getElem?,h8]
   rw [ha]
   obtain ⟨u,hu',hpu⟩:=h7 c x h2
   have hγn:notOwn x = true → (r.toB bs ko vals).γ (.t t c) = none:=by
    intro hno
    cases hg:(r.toB bs ko vals).γ (.t t c) with
    | none=>rfl
    | some g =>
     rcases Rs.toB_γ hg with ⟨j,q,hk,he,_⟩ | ⟨_,_,_,he,_⟩
     ·cases he
      obtain ⟨_,e,xs,_,k2,_⟩:=hkv _ q hk
      rw [h3] at k2; cases k2
      simp only [List.getElem?_cons_zero,Option.some.injEq] at h2
      subst h2; cases hno
     ·cases he
   rcases hpu with hpu | ⟨rfl,s,rfl⟩
   ·rcases passB_ren hpu with ⟨p,e,xs,rfl,hmv,hatp,rfl⟩ | ⟨p,rfl,hatp,hpl⟩ | ⟨hren,hno,hnd⟩
    ·-- the row that is moved
     obtain ⟨j,q,hk⟩:∃ j q,ko = some (j,q):=by cases ko with | none=>cases hmv | some z=>exact ⟨z.1,z.2,rfl⟩
     subst hk
     simp only [mvOf,Option.some.injEq] at hmv
     subst hmv
     obtain ⟨hv,e',xs',k1,k2,k3,k4⟩:=hkv j q rfl
     have htj:t = j:=by
      rcases ownFree_at k4 t pv h3 with k5 | k5
      ·simpa using k5.symm
      ·have:=List.all_eq_true.1 k5 _ (List.mem_of_getElem? h2); cases this
     subst htj
     rw [h3] at k2; cases k2
     have hc0:c = 0:=by
      cases c with
      | zero=>rfl
      | succ c=>simp at h2
     subst hc0
     have hg:(r.toB bs (some (t,q)) vals).γ (.t t 0) = r.γ q:=by simp [Rs.toB]
     rw [hg]
     have e1:vals.getD t undef = v:=by simp [Array.getD_eq_getD_getElem?,h8]
     have h9':v.oneCell' = true:=by rw [h5] at h9; exact h9.2
     have:(flat v).getD 0 undef = alpha a w r q:=by rw [flat_one h9',← hv,e1]; rfl
     rw [this]
     simp only [List.getElem?_cons_zero,Option.some.injEq] at h2
     have hcell:=hi.cell q _ hatp
     exact hcell
    ·rcases h10 c _ hu' with k1 | ⟨_,k1⟩ | ⟨_,_,k1⟩
     ·rw [hγn (by cases x <;> first | rfl | cases hpl)]
      obtain ⟨_,k1⟩:=k1
      rw [k1 ⟨x,hatp,fun e=>by subst e; cases hpl⟩]
      have k2:=hi.cell p x hatp
      have k3:=k2.g_none (fun e xs e'=>by subst e'; cases hpl)
      rw [k3] at k2
      exact (RepS.hasC (P:=P) (st:=S) (a:=⟨vals,[]⟩) (r:=r.toB bs ko vals) (show RepS w (r.toB bs ko vals).Sh x _ from plain_rep (r:=r) hpl k2)).1
     ·exact k1.elim
     ·cases k1
    ·rcases h10 c _ hu' with k1 | ⟨_,k1⟩ | ⟨e,xs,k1⟩
     ·rw [hγn hno]
      exact ren_repC (r:=r) (st:=st) (st':=S) (r':=r.toB bs ko vals) (fun _ h=>h) hρ k1 hren
     ·exact k1.elim
     ·subst k1
      simp only [ren,Option.some.injEq] at hren
      subst hren; cases hno
   ·rcases h10 c _ hu' with k1 | ⟨_,k1⟩ | ⟨_,_,k1⟩
    ·rw [hγn rfl]
     obtain ⟨_,k1⟩:=k1
     generalize (flat v).getD c undef = u' at k1 ⊢
     have:u' = .slice none 0 0:=by cases k1 with | s hs=>cases hs; rfl
     subst this
     exact ⟨rfl,.s .nil⟩
    ·exact k1.elim
    ·cases k1
 ·cases p with
  | b i c =>
   obtain ⟨b,x0,h1,h2,h3,h4⟩:=hbx i c x hx
   rw [(ren_boxable h4).2] at hq; cases hq
  | t t c =>
   obtain ⟨pv,h1,h2⟩:=St.at_tmp hx
   obtain ⟨x0,h4,h5,h6,h7⟩:=hat t pv (hget t pv h1)
   obtain ⟨u,hu',hpu⟩:=h7 c x h2
   rcases hpu with hpu | ⟨rfl,s,rfl⟩
   ·rcases passB_ren hpu with ⟨p,e,xs,rfl,hmv,hatp,rfl⟩ | ⟨p,rfl,hatp,hpl⟩ | ⟨hren,hno,hnd⟩
    ·cases hq
    ·cases x <;> first | (cases hpl; done) | (cases hq; done)
    ·rw [(ren_boxable hren).2] at hq; cases hq
   ·cases hq
 ·rcases Rs.toB_γ hg with ⟨j,q,hk,rfl,h1⟩ | ⟨i,b,c,rfl,h1,h2⟩
  ·obtain ⟨_,e,xs,_,k2,_⟩:=hkv j q hk
   refine ⟨e,xs,?_⟩
   simp only [St.at,St.get,look_enum,Nat.zero_le,if_true,Nat.sub_zero,k2,Option.bind_some,List.getElem?_cons_zero]
  ·obtain ⟨e,xs,h3⟩:=hi.live _ g h2
   obtain ⟨_,cs0,h4,h5⟩:=St.at_box h3
   have hil:i < bxc.length:=by rw [← hbl]; exact (List.getElem?_eq_some_iff.1 h1).1
   obtain ⟨b',cs',k1,k2,k3⟩:=hp.box (List.getElem?_eq_getElem hil)
   rw [h1] at k1; cases k1
   rw [h4] at k2; cases k2
   obtain ⟨k4,k5⟩:=mapO_at k3
   have hcl:c < bxc[i].length:=by rw [← k4]; exact (List.getElem?_eq_some_iff.1 h5).1
   obtain ⟨x,k6,k7⟩:=k5 c _ (List.getElem?_eq_getElem hcl)
   rw [h5] at k6; cases k6
   simp only [ren,Option.some.injEq] at k7
   refine ⟨e,xs,?_⟩
   simp only [St.at,List.getElem?_eq_getElem hil,Option.bind_some,List.getElem?_eq_getElem hcl,k7]
 ·rcases Rs.toB_γ h1 with ⟨j,q1,hk,rfl,k1⟩ | ⟨i,b,c,rfl,k1,k2⟩ <;> rcases Rs.toB_γ h2 with ⟨j',q2,hk',rfl,k1'⟩ | ⟨i',b',c',rfl,k1',k2'⟩
  ·rw [hk] at hk'; cases hk'; rfl
  ·exact absurd (hi.inj _ _ g k1 k2') (hofs hk k1')
  ·exact absurd (hi.inj _ _ g k1' k2) (hofs hk' k1)
  ·have:=hi.inj _ _ g k2 k2'
   cases this
   have:=(List.getElem?_inj (List.getElem?_eq_some_iff.1 k1).1 hp.nd).1 (k1.trans k1'.symm)
   rw [this]
 ·have hib:i < bs.length:=by rw [hbl]; exact hb
  have e1:bs[i]? = some (bs.getD i 0):=by simp [List.getD_eq_getElem?_getD,hib]
  have hbl':=hp.lt _ (List.mem_of_getElem? e1)
  rcases Rs.toB_γ hg with ⟨j,q,hk,rfl,h1⟩ | ⟨i2,b,c,rfl,h1,h2⟩
  ·exact hi.exb q g _ h1 hbl'
  ·exact hi.exb _ g _ h2 hbl'
 ·have hib:i < bs.length:=by rw [hbl]; exact h1
  have hib':i' < bs.length:=by rw [hbl]; exact h2
  have e1:bs[i]? = some (bs.getD i 0):=by simp [List.getD_eq_getElem?_getD,hib]
  have e2:bs[i']? = some (bs.getD i' 0):=by simp [List.getD_eq_getElem?_getD,hib']
  have:=hi.bb _ _ (hp.lt _ (List.mem_of_getElem? e1)) (hp.lt _ (List.mem_of_getElem? e2)) he
  rw [this,← e2] at e1
  exact (List.getElem?_inj hib hp.nd).1 e1
 ·obtain ⟨h1,h2,h3⟩:=hi.sh g hg
  refine ⟨h1,fun p hp'=>?_,fun i hb=>?_⟩
  ·rcases Rs.toB_γ hp' with ⟨j,q,hk,rfl,k1⟩ | ⟨i2,b,c,rfl,k1,k2⟩
   ·exact h2 _ k1
   ·exact h2 _ k2
  ·have hib:i < bs.length:=by rw [hbl]; exact hb
   have e1:bs[i]? = some (bs.getD i 0):=by simp [List.getD_eq_getElem?_getD,hib]
   exact h3 _ (hp.lt _ (List.mem_of_getElem? e1))
 ·cases ko with
  | none=>cases ht
  | some z =>
   obtain ⟨j,q⟩:=z
   have:t = j:=by have:=inB_spec ht; simpa [keepOf] using this
   subst this
   obtain ⟨_,e,xs,_,k2,_⟩:=hkv t q rfl
   have hlt:t < vals.size:=by rw [hsz]; exact (List.getElem?_eq_some_iff.1 k2).1
   show vals[t]? = some ((r.toB bs (some (t,q)) vals).κ t)
   simp [Rs.toB,Array.getD_eq_getD_getElem?,hlt]
end
end Go.Proofs.YtoclajfeeebbbadGreatDoor.E
