/- The engine, part C: assignments, moves, freezing. Plain lemmas; no program. -/
import Derived.Test.YtoclajfeeebbbadGreatDoorEng1
set_option linter.unusedVariables false
set_option linter.unusedSectionVars false
set_option linter.unusedSimpArgs false
namespace Go.Proofs.YtoclajfeeebbbadGreatDoor.E
open Go.RowKit
variable [LaidFacts]
def St.put (st:St) (t:Nat) (pv:PV):St:={ st with tm:=(t,pv) :: st.tm }
def Rs.setT (r:Rs) (t:Nat) (γc:Nat → Option Nat):Rs :=
 { r with γ:=fun p=>match p with
   | .t t' c=>if t' = t then γc c else r.γ (.t t' c)
   | p=>r.γ p }
theorem St.get_put (st:St) (t k:Nat) (pv:PV):(st.put t pv).get k = if k = t then some pv else st.get k:=by
 simp only [St.get,St.put,look]
 by_cases h:t = k
 ·rw [if_pos h,if_pos h.symm]
 ·rw [if_neg h,if_neg (fun e=>h e.symm)]
section
variable {P:Program} {st:St} {a:Act} {w:World} {r:Rs}
theorem St.at_put {st:St} {t:Nat} {pv:PV} {p:Place}:(st.put t pv).at p = match p with | .t k c=>if k = t then pv.cs[c]? else st.at p | .b _ _=>st.at p:=by
 cases p with
 | t k c =>
  simp only [St.at,St.get_put]
  split <;> simp
 | b b c=>rfl
theorem alpha_put {t:Nat} {v:Value} {p:Place} {γc:Nat → Option Nat} (hp:p.isT t = false):alpha (a.put (some t) v) w (r.setT t γc) p = alpha a w r p:=by
 cases p with
 | t k c =>
  have hk:k ≠ t:=by simpa [Place.isT] using hp
  simp only [alpha,Act.put]
  rw [Array.getD_eq_getD_getElem?,Array.getD_eq_getD_getElem?,Array.getElem?_setIfInBounds_ne (Ne.symm hk)]
 | b b c=>rfl
theorem alpha_put_self {t c:Nat} {v:Value} {γc:Nat → Option Nat} (ht:t < a.tmps.size):alpha (a.put (some t) v) w (r.setT t γc) (.t t c) = (flat v).getD c undef:=by
 simp only [alpha,Act.put]
 rw [Array.getD_eq_getD_getElem?,Array.getElem?_setIfInBounds_self_of_lt ht]
 rfl
/-- A temporary that held nothing gets a value. -/
theorem Inv.put (h:Inv P st a w r) {t:Nat} {v:Value} {pv:PV} {γc:Nat → Option Nat} (ht:st.okd t) (hno:st.get t = none)
  (hnm:∀ p x q,st.at p = some x → x.names = some q → q.isT t = false) (hfit:pv.sh.fits pv.cs.length v)
  (hcell:∀ c x,pv.cs[c]? = some x → (∀ q,x.names = some q → q.isT t = false) ∧ RepC P w r st (alpha a w r) x ((flat v).getD c undef) (γc c))
  (hex:∀ (c:Nat) (x:PC) (q:Place),pv.cs[c]? = some x → x.names = some q → st.ex q)
  (hγ:∀ c g,γc c = some g → (∃ e xs,pv.cs[c]? = some (.own e xs)) ∧ ¬ r.Sh g ∧ ¬ r.X st.bx.length g)
  (hinj:∀ c c' g,γc c = some g → γc c' = some g → c = c'):Inv P (st.put t pv) (a.put (some t) v) w (r.setT t γc):=by
 have ht':t < a.tmps.size:=by rw [h.sz]; exact ht.1
 have hγt:∀ c,r.γ (.t t c) = none:=by
  intro c
  cases hg:r.γ (.t t c) with
  | none=>rfl
  | some g =>
   obtain ⟨e,xs,hx⟩:=h.live _ _ hg
   obtain ⟨pv',h1,_⟩:=St.at_tmp hx
   rw [hno] at h1; cases h1
 -- what a place owns
 have hγ':∀ p g,(r.setT t γc).γ p = some g → (∃ c,p = .t t c ∧ γc c = some g) ∨ (p.isT t = false ∧ r.γ p = some g):=by
  intro p g hg
  cases p with
  | t k c =>
   simp only [Rs.setT] at hg
   by_cases hk:k = t
   ·subst hk; simp only [if_true] at hg; exact .inl ⟨c,rfl,hg⟩
   ·rw [if_neg hk] at hg; exact .inr ⟨by simp [Place.isT,hk],hg⟩
  | b b c=>exact .inr ⟨rfl,hg⟩
 have hown:∀ p,p.isT t = false → (st.put t pv).lives p → st.lives p:=by
  intro p hp ⟨x,h1,h2⟩
  rw [St.at_put] at h1
  cases p with
  | t k c =>
   have hk:k ≠ t:=by simpa [Place.isT] using hp
   simp only [hk,if_false] at h1
   exact ⟨x,h1,h2⟩
  | b b c=>exact ⟨x,h1,h2⟩
 have lift:∀ x u g,(∀ q,x.names = some q → q.isT t = false) → RepC P w r st (alpha a w r) x u g → RepC P w (r.setT t γc) (st.put t pv) (alpha (a.put (some t) v) w (r.setT t γc)) x u g :=
  fun x u g hx hc=>hc.mono (fun _ h=>h) (fun _ _=>rfl) (fun _ _=>rfl) (fun b hb=>⟨hb,rfl⟩) (fun q hq ho=>⟨hown q (hx q hq) ho,alpha_put (hx q hq)⟩)
 refine ⟨by simp [Act.put,h.sz]; rfl,h.m,fun k pv' hk=>?_,h.bx,fun p x hx=>?_,fun p x q hx hn=>?_,fun p g hp=>?_,fun p q g hp hq=>?_,fun p g b hp hb=>?_,h.bb,fun g hg=>?_,h.defers,h.lw,fun k hk=>?_⟩
 ·rw [St.get_put] at hk
  split at hk
  ·rename_i e; subst e; cases hk
   exact ⟨v,by simp only [Act.put]; rw [Array.getElem?_setIfInBounds_self_of_lt ht'],hfit⟩
  ·rename_i e
   obtain ⟨u,h1,h2⟩:=h.tm k pv' hk
   exact ⟨u,by simp only [Act.put]; rw [Array.getElem?_setIfInBounds_ne (Ne.symm e)]; exact h1,h2⟩
 ·rw [St.at_put] at hx
  cases p with
  | t k c =>
   by_cases hk:k = t
   ·subst hk
    simp only [if_true] at hx
    rw [alpha_put_self ht']
    obtain ⟨h1,h2⟩:=hcell c x hx
    have hg:(r.setT k γc).γ (.t k c) = γc c:=by simp [Rs.setT]
    rw [hg]
    exact lift _ _ _ h1 h2
   ·simp only [hk,if_false] at hx
    rw [alpha_put (by simp [Place.isT,hk])]
    have hg:(r.setT t γc).γ (.t k c) = r.γ (.t k c):=by simp [Rs.setT,hk]
    rw [hg]
    exact lift _ _ _ (fun q hq=>hnm _ x q hx hq) (h.cell _ x hx)
  | b b c =>
   rw [alpha_put rfl]
   exact lift _ _ _ (fun q hq=>hnm _ x q hx hq) (h.cell _ x hx)
 ·have go:st.ex q → (st.put t pv).ex q:=fun he=>by
   cases q with
   | t k d =>
    obtain ⟨pv',hk⟩:=he
    simp only [St.ex,St.get_put]
    split
    ·exact ⟨pv,rfl⟩
    ·exact ⟨pv',hk⟩
   | b b d=>exact he
  rw [St.at_put] at hx
  cases p with
  | t j c =>
   by_cases hj:j = t
   ·subst hj
    simp only [if_true] at hx
    exact go (hex c x q hx hn)
   ·simp only [hj,if_false] at hx
    exact go (h.nm _ x q hx hn)
  | b b c=>exact go (h.nm _ x q hx hn)
 ·rcases hγ' p g hp with ⟨c,rfl,hc⟩ | ⟨h1,h2⟩
  ·obtain ⟨e,xs,hx⟩:=(hγ c g hc).1
   exact ⟨e,xs,by rw [St.at_put]; simp [hx]⟩
  ·obtain ⟨e,xs,hx⟩:=h.live p g h2
   refine ⟨e,xs,?_⟩
   rw [St.at_put]
   cases p with
   | t k c =>
    have hk:k ≠ t:=by simpa [Place.isT] using h1
    simp [hk,hx]
   | b b c=>exact hx
 ·rcases hγ' p g hp with ⟨c,rfl,hc⟩ | ⟨h1,h2⟩ <;> rcases hγ' q g hq with ⟨c',rfl,hc'⟩ | ⟨h1',h2'⟩
  ·rw [hinj c c' g hc hc']
  ·exact absurd (.inl ⟨q,h2'⟩) (hγ c g hc).2.2
  ·exact absurd (.inl ⟨p,h2⟩) (hγ c' g hc').2.2
  ·exact h.inj p q g h2 h2'
 ·rcases hγ' p g hp with ⟨c,rfl,hc⟩ | ⟨h1,h2⟩
  ·exact fun e=>(hγ c g hc).2.2 (.inr ⟨b,hb,e⟩)
  ·exact h.exb p g b h2 hb
 ·obtain ⟨h1,h2,h3⟩:=h.sh g hg
  refine ⟨h1,fun p hp=>?_,h3⟩
  rcases hγ' p g hp with ⟨c,rfl,hc⟩ | ⟨h4,h5⟩
  ·exact (hγ c g hc).2.1 hg
  ·exact h2 p h5
 ·have hne:t ≠ k:=fun e=>by subst e; have h2:inB t st.fx = true:=hk; rw [ht.2] at h2; cases h2
  simp only [Act.put]
  rw [Array.getElem?_setIfInBounds_ne hne]
  exact h.fx k hk
/-- A temporary gets a value; what it held, and what named it, is lost. -/
def St.assign (st:St) (t:Nat) (pv:PV):St :=
 match st.get t with
 | none=>st.put t pv
 | some _=>(st.drop t).put t pv
theorem Inv.noNames (h:Inv P st a w r) {t:Nat} (ht:st.get t = none):∀ p x q,st.at p = some x → x.names = some q → q.isT t = false:=by
 intro p x q hx hq
 cases q with
 | t k c =>
  obtain ⟨pv,hpv⟩:=h.nm p x _ hx hq
  have:k ≠ t:=fun e=>by subst e; rw [ht] at hpv; cases hpv
  simp [Place.isT,this]
 | b b c=>rfl
theorem Inv.assign (h:Inv P st a w r) {t:Nat} {v:Value} {pv:PV} {γc:Nat → Option Nat} (ht:st.okd t) (hfit:pv.sh.fits pv.cs.length v)
  (hcell:∀ c x,pv.cs[c]? = some x → (∀ q,x.names = some q → q.isT t = false) ∧ RepC P w r st (alpha a w r) x ((flat v).getD c undef) (γc c))
  (hex:∀ (c:Nat) (x:PC) (q:Place),pv.cs[c]? = some x → x.names = some q → st.ex q)
  (hγ:∀ c g,γc c = some g → (∃ e xs,pv.cs[c]? = some (.own e xs)) ∧ ¬ r.Sh g ∧ ¬ (r.dropT t).X st.bx.length g)
  (hinj:∀ c c' g,γc c = some g → γc c' = some g → c = c'):Inv P (st.assign t pv) (a.put (some t) v) w ((r.dropT t).setT t γc):=by
 have hd:=h.drop t
 have key:Inv P ((st.drop t).put t pv) (a.put (some t) v) w ((r.dropT t).setT t γc):=by
  have hno:(st.drop t).get t = none:=by rw [St.get_drop]; simp
  refine hd.put ht hno (hd.noNames hno) hfit ?_ ?_ hγ hinj
  ·intro c x hx
   obtain ⟨h1,h2⟩:=hcell c x hx
   exact ⟨h1,h2.mono (fun _ h=>h) (fun _ _=>rfl) (fun _ _=>rfl) (fun b hb=>⟨hb,rfl⟩) (fun q _ ho=>⟨St.lives_drop ho,rfl⟩)⟩
  ·intro c x q hx hn
   have h1:=hex c x q hx hn
   cases q with
   | t k d =>
    obtain ⟨pv',h1⟩:=h1
    have hk:k ≠ t:=by simpa [Place.isT] using (hcell c x hx).1 _ hn
    exact ⟨_,by rw [St.get_drop,if_neg hk,h1]; rfl⟩
   | b b d=>exact h1
 unfold St.assign
 split
 ·rename_i hno
  have hγt:∀ p g,r.γ p = some g → p.isT t = false:=by
   intro p g hg
   obtain ⟨e,xs,hx⟩:=h.live p g hg
   cases p with
   | t k c =>
    obtain ⟨pv',h1,_⟩:=St.at_tmp hx
    have:k ≠ t:=fun e=>by subst e; rw [hno] at h1; cases h1
    simp [Place.isT,this]
   | b b c=>rfl
  have hr:r.dropT t = r:=by
   have:(fun p=>if p.isT t = true then none else r.γ p) = r.γ:=by
    funext p
    by_cases hp:p.isT t = true
    ·rw [if_pos hp]
     cases hg:r.γ p with
     | none=>rfl
     | some g=>rw [hγt p g hg] at hp; cases hp
    ·rw [if_neg hp]
   simp only [Rs.dropT,this]
  rw [hr] at hγ ⊢
  exact h.put ht hno (h.noNames hno) hfit hcell hex hγ hinj
 ·exact key
theorem Step.assign {m t:Nat} {γc:Nat → Option Nat} {nb:Nat} (hγ:∀ c g,γc c = some g → r.X nb g ∨ w.heap.size ≤ g):Step m w r nb w ((r.dropT t).setT t γc) nb:=by
 refine ⟨rfl,rfl,rfl,Nat.le_refl _,fun _ _ _=>rfl,fun _ h=>h,fun _ h=>.inl h,fun g hg=>?_,fun _ _=>rfl,rfl,fun _ _ h=>h⟩
 rcases hg with ⟨p,hp⟩ | hb
 ·cases p with
  | t k c =>
   simp only [Rs.setT,Rs.dropT] at hp
   split at hp
   ·exact hγ c g hp
   ·split at hp
    ·cases hp
    ·exact .inl (.inl ⟨_,hp⟩)
  | b b c =>
   simp only [Rs.setT,Rs.dropT,Place.isT] at hp
   exact .inl (.inl ⟨.b b c,by simpa using hp⟩)
 ·exact .inl (.inr hb)
/-! One cell turned, the memory as it was. -/
def St.rep (st:St) (t:Nat) (pv:PV):St:={ st with tm:=setL st.tm t pv }
theorem St.get_rep (st:St) (t k:Nat) (pv:PV):(st.rep t pv).get k = if k = t then some pv else st.get k:=by
 simp only [St.get,St.rep,look_setL]
theorem St.at_rep {st:St} {t:Nat} {pv:PV} {p:Place}:(st.rep t pv).at p = match p with | .t k c=>if k = t then pv.cs[c]? else st.at p | .b _ _=>st.at p:=by
 cases p with
 | t k c =>
  simp only [St.at,St.get_rep]
  split <;> simp
 | b b c=>rfl
def St.setAt (st:St) (p:Place) (x:PC):St :=
 match p with
 | .t t c=>match st.get t with
  | some pv=>st.rep t ⟨pv.sh,pv.cs.set c x⟩
  | none=>st
 | .b b c=>{ st with bx:=st.bx.modify b fun cs=>cs.set c x }
theorem St.at_setAt {st:St} {p:Place} {x y:PC} (hp:st.at p = some y) (q:Place):(st.setAt p x).at q = if q = p then some x else st.at q:=by
 cases p with
 | t t c =>
  obtain ⟨pv,h1,h2⟩:=St.at_tmp hp
  have hc:c < pv.cs.length:=(List.getElem?_eq_some_iff.1 h2).1
  simp only [St.setAt,h1,St.at_rep]
  cases q with
  | t k d =>
   simp only [Place.t.injEq]
   by_cases hk:k = t
   ·subst hk
    simp only [if_true,true_and,List.getElem?_set]
    by_cases hd:c = d
    ·subst hd; simp [hc]
    ·simp [hd,Ne.symm hd,St.at,h1]
   ·simp [hk]
  | b b d=>simp
 | b b c =>
  obtain ⟨h0,cs,h1,h2⟩:=St.at_box hp
  have hc:c < cs.length:=(List.getElem?_eq_some_iff.1 h2).1
  cases q with
  | t k d=>simp [St.setAt,St.at,St.get]
  | b b' d =>
   simp only [St.setAt,St.at,Place.b.injEq,List.getElem?_modify]
   by_cases hb:b = b'
   ·subst hb
    simp only [h1,Option.map_some,Option.bind_some,true_and,if_true,List.getElem?_set]
    by_cases hd:c = d
    ·subst hd; simp [hc]
    ·simp [hd,Ne.symm hd]
   ·simp [hb,Ne.symm hb]
def Rs.clr (r:Rs) (p:Place) (fz:Bool):Rs:={ r with Sh:=fun g=>r.Sh g ∨ (fz = true ∧ r.γ p = some g),γ:=fun q=>if q = p then none else r.γ q }
theorem St.setAt_fx {st:St} {p:Place} {x:PC}:(st.setAt p x).fx = st.fx:=by
 cases p with
 | t t c=>simp only [St.setAt]; split <;> rfl
 | b b c=>rfl
theorem St.get_setAt {st:St} {p:Place} {x:PC} {t:Nat} {pv':PV} (h:(st.setAt p x).get t = some pv'):∃ pv,st.get t = some pv ∧ pv.sh = pv'.sh ∧ pv.cs.length = pv'.cs.length:=by
 cases p with
 | t k c =>
  simp only [St.setAt] at h
  split at h
  ·rename_i pv hpv
   rw [St.get_rep] at h
   split at h
   ·rename_i e; subst e; cases h
    exact ⟨pv,hpv,rfl,by simp⟩
   ·exact ⟨pv',h,rfl,rfl⟩
  ·exact ⟨pv',h,rfl,rfl⟩
 | b b c=>exact ⟨pv',h,rfl,rfl⟩
/-- A cell is turned: into one that owns nothing; what it owned may become shared. -/
theorem Inv.setAt (h:Inv P st a w r) {p:Place} {x y:PC} (hp:st.at p = some y) (fz:Bool) (hb:(∃ t c,p = .t t c) ∨ x.boxable = true)
  (hl:x = .dead ∨ y ≠ .dead) (hn:∀ q,x.names = some q → st.ex q)
  (hc:RepC P w (r.clr p fz) (st.setAt p x) (alpha a w r) x (alpha a w r p) none):Inv P (st.setAt p x) a w (r.clr p fz):=by
 have hat:=fun q=>St.at_setAt (x:=x) hp q
 have hlen:(st.setAt p x).bx.length = st.bx.length:=by
  cases p with
  | t t c=>simp only [St.setAt]; split <;> rfl
  | b b c=>simp [St.setAt]
 have hlive:∀ q,(st.setAt p x).lives q → st.lives q:=by
  intro q ⟨z,h1,h2⟩
  rw [hat] at h1
  split at h1
  ·rename_i e; subst e; cases h1
   rcases hl with e | e
   ·exact absurd e h2
   ·exact ⟨y,hp,e⟩
  ·exact ⟨z,h1,h2⟩
 refine h.restate ?_ ?_ (fun t pv' ht=>St.get_setAt ht) (Nat.le_of_eq hlen) ?_ (fun _ _=>rfl) ?_ ?_ ?_ ?_ ?_ (fun _ h=>.inl h) St.setAt_fx rfl
 ·cases p with
  | t t c=>simp only [St.setAt]; split <;> rfl
  | b b c=>rfl
 ·rw [hlen]
  have:(st.setAt p x).m = st.m:=by
   cases p with
   | t t c=>simp only [St.setAt]; split <;> rfl
   | b b c=>rfl
  rw [this]; exact h.m
 ·intro b cs' hcs
  cases p with
  | t t c =>
   have hcs':st.bx[b]? = some cs':=by
    simp only [St.setAt] at hcs
    split at hcs <;> exact hcs
   exact ⟨cs',hcs',rfl,(h.bx b cs' hcs').2⟩
  | b b' c =>
   simp only [St.setAt,List.getElem?_modify] at hcs
   obtain ⟨cs,h1,h2⟩:=Option.map_eq_some_iff.1 hcs
   refine ⟨cs,h1,?_,?_⟩
   ·subst h2; split <;> simp
   ·intro z hz
    subst h2
    split at hz
    ·rcases List.mem_or_eq_of_mem_set hz with h3 | rfl
     ·exact (h.bx b cs h1).2 z h3
     ·rcases hb with ⟨_,_,hb⟩ | hb
      ·cases hb
      ·exact hb
    ·exact (h.bx b cs h1).2 z hz
 ·intro q z hq
  rw [hat] at hq
  by_cases e:q = p
  ·subst e
   rw [if_pos rfl] at hq; cases hq
   have:(r.clr q fz).γ q = none:=by simp [Rs.clr]
   rw [this]
   have ha:alpha a w (r.clr q fz) = alpha a w r:=by funext p; cases p <;> rfl
   rw [ha]; exact hc
  ·rw [if_neg e] at hq
   have:(r.clr p fz).γ q = r.γ q:=by simp [Rs.clr,e]
   rw [this]
   have ha:alpha a w (r.clr p fz) = alpha a w r:=by funext p; cases p <;> rfl
   rw [ha]
   exact (h.cell q z hq).mono (fun _ h=>.inl h) (fun _ _=>rfl) (fun _ _=>rfl) (fun b hb=>⟨by rw [hlen]; exact hb,rfl⟩) (fun q' _ hq'=>⟨hlive q' hq',rfl⟩)
 ·intro q z q' hq hz
  have go:st.ex q' → (st.setAt p x).ex q':=fun he=>by
   cases q' with
   | t k c =>
    obtain ⟨pv,hk⟩:=he
    cases p with
    | t t d =>
     simp only [St.ex,St.setAt]
     split
     ·rw [St.get_rep]
      split
      ·exact ⟨_,rfl⟩
      ·exact ⟨pv,hk⟩
     ·exact ⟨pv,hk⟩
    | b b d=>exact ⟨pv,hk⟩
   | b b c=>simp only [St.ex,hlen]; exact he
  rw [hat] at hq
  split at hq
  ·cases hq; exact go (hn q' hz)
  ·exact go (h.nm q z q' hq hz)
 ·intro q g hg
  simp only [Rs.clr] at hg
  split at hg
  ·cases hg
  ·rename_i e
   obtain ⟨e',xs,h1⟩:=h.live q g hg
   exact ⟨e',xs,by rw [hat,if_neg e]; exact h1⟩
 ·intro q g hg
  simp only [Rs.clr] at hg
  split at hg
  ·cases hg
  ·exact hg
 ·intro g hg
  rcases hg with hg | ⟨_,hg⟩
  ·exact .inl hg
  ·exact .inr ⟨p,hg,by simp [Rs.clr]⟩
theorem Step.clr {m:Nat} {p:Place} {fz:Bool} {nb:Nat}:Step m w r nb w (r.clr p fz) nb:=by
 refine ⟨rfl,rfl,rfl,Nat.le_refl _,fun _ _ _=>rfl,fun _ h=>.inl h,fun g hg=>?_,fun g hg=>?_,fun _ _=>rfl,rfl,fun _ _ h=>h⟩
 ·rcases hg with hg | ⟨_,hg⟩
  ·exact .inl hg
  ·exact .inr (.inl (.inl ⟨p,hg⟩))
 ·rcases hg with ⟨q,hq⟩ | hb
  ·simp only [Rs.clr] at hq
   split at hq
   ·cases hq
   ·exact .inl (.inl ⟨q,hq⟩)
  ·exact .inl (.inr hb)
theorem flatten_at {α:Type} {s:Nat}:∀ {xs:List (List α)} (hz:∀ e ∈ xs,e.length = s) {i j:Nat} {e:List α} {x:α} (hi:xs[i]? = some e) (hj:e[j]? = some x),xs.flatten[i * s + j]? = some x
 | [],_,i,j,e,x,hi,_=>by simp at hi
 | y :: ys,hz,0,j,e,x,hi,hj=>by
  simp only [List.getElem?_cons_zero,Option.some.injEq] at hi
  subst hi
  simp only [List.flatten_cons,Nat.zero_mul,Nat.zero_add]
  rw [List.getElem?_append_left (List.getElem?_eq_some_iff.1 hj).1]
  exact hj
 | y :: ys,hz,i + 1,j,e,x,hi,hj=>by
  simp only [List.getElem?_cons_succ] at hi
  have hy:y.length = s:=hz y (List.mem_cons_self ..)
  have ih:=flatten_at (fun e he=>hz e (List.mem_cons_of_mem _ he)) hi hj
  simp only [List.flatten_cons]
  rw [List.getElem?_append_right (by rw [hy,Nat.add_mul]; omega),hy]
  rw [show (i + 1) * s + j - s = i * s + j by rw [Nat.add_mul]; omega]
  exact ih
/-- What a place owned becomes shared. -/
theorem RepOwn.share {Sh':Nat → Prop} {e:TypeId} {xs:List (List PC)} {v:Value} {g:Option Nat} (h:RepOwn P w r.Sh e xs v g) (hS:∀ k,r.Sh k → Sh' k) (hg:∀ k,g = some k → Sh' k):RepS w Sh' (.sl (P.cellsOf e) xs) v:=by
 obtain ⟨vals,ho,hb,hl,hr⟩:=h
 rcases ho.2 with ⟨rfl,hn⟩ | ⟨k,cap,cur,fz,rfl,_,hh,hnc,_⟩
 ·have:xs = []:=List.length_eq_zero_iff.1 hn
  subst this
  exact .nil
 ·have hk:Sh' k:=hg k (by rw [← hb]; rfl)
  refine .sl (size:=P.cellsOf e) (fun i j=>vals.getD (i * P.cellsOf e + j) undef) hl hnc hk (fun i j el x hi hj=>?_) (fun i j el x hi hj=>?_)
  ·obtain ⟨u,hu,_⟩:=hr _ _ (flatten_at hl hi hj)
   have hlt:i * P.cellsOf e + j < xs.length * P.cellsOf e:=by
    have:=(List.getElem?_eq_some_iff.1 hu).1
    rw [ho.1] at this
    exact this
   rw [Nat.zero_add,ho.cellAt _ hlt,hu,List.getD_eq_getElem?_getD,hu]
   rfl
  ·obtain ⟨u,hu,hru⟩:=hr _ _ (flatten_at hl hi hj)
   rw [List.getD_eq_getElem?_getD,hu]
   exact hru.mono hS (fun _ _=>rfl)
/-- A row is frozen. -/
theorem Inv.freeze (h:Inv P st a w r) {p:Place} {e:TypeId} {xs:List (List PC)} (hp:st.at p = some (.own e xs)):Inv P (st.setAt p (.sl (P.cellsOf e) xs)) a w (r.clr p true):=by
 refine h.setAt hp true (.inr rfl) (.inr (by simp)) (fun _ h=>by simp [PC.names] at h) ?_
 have hc:=h.cell p _ hp
 simp only [RepC] at hc ⊢
 exact ⟨trivial,.s (RepOwn.share hc (fun _ h=>.inl h) (fun k hk=>.inr ⟨rfl,hk⟩))⟩
end
end Go.Proofs.YtoclajfeeebbbadGreatDoor.E
/- The engine, part D: a frame's triples, control. Plain lemmas; no program. -/
set_option linter.unusedVariables false
set_option linter.unusedSectionVars false
set_option linter.unusedSimpArgs false
namespace Go.Proofs.YtoclajfeeebbbadGreatDoor.E
open Go.RowKit
variable [LaidFacts]
section
variable {P:Program}
/-- What a piece of code ends in: the pure state's own post, the memory behind it. -/
def Post (P:Program) (m:Nat) (w:World) (r:Rs) (nb:Nat) (Q:Exit → St → Prop):Exit → Act → World → Prop :=
 fun e a' w'=>∃ st' r',Q e st' ∧ st'.m = m ∧ Inv P st' a' w' r' ∧ Step m w r nb w' r' st'.bx.length
def Tri (P:Program) (c:Code) (Q:Exit → St → Prop) (st:St):Prop :=
 ∀ a w r,Inv P st a w r → c.wp P (Post P st.m w r st.bx.length Q) a w
theorem Post.step {m:Nat} {w₀ w₁:World} {r₀ r₁:Rs} {n₀ n₁:Nat} {Q:Exit → St → Prop} (h:Step m w₀ r₀ n₀ w₁ r₁ n₁) {e:Exit} {a:Act} {w:World} (k:Post P m w₁ r₁ n₁ Q e a w):Post P m w₀ r₀ n₀ Q e a w:=by
 obtain ⟨st',r',h1,h2,h3,h4⟩:=k
 exact ⟨st',r',h1,h2,h3,h.trans h4⟩
theorem Post.mono {m:Nat} {w₀:World} {r₀:Rs} {n₀:Nat} {Q Q':Exit → St → Prop} (hq:∀ e st,Q e st → Q' e st) {e:Exit} {a:Act} {w:World} (k:Post P m w₀ r₀ n₀ Q e a w):Post P m w₀ r₀ n₀ Q' e a w:=by
 obtain ⟨st',r',h1,h2,h3,h4⟩:=k
 exact ⟨st',r',hq _ _ h1,h2,h3,h4⟩
theorem Tri.mono {c:Code} {Q Q':Exit → St → Prop} {st:St} (hq:∀ e st,Q e st → Q' e st) (h:Tri P c Q st):Tri P c Q' st :=
 fun a w r hi=>Code.wp_mono (fun _ _ _ k=>Post.mono hq k) (h a w r hi)
/-- The state may be turned, the memory as it is. -/
def Turns (P:Program) (st st':St):Prop:=∀ a w r,Inv P st a w r → ∃ r',st'.m = st.m ∧ Inv P st' a w r' ∧ Step st.m w r st.bx.length w r' st'.bx.length
theorem Turns.refl (st:St):Turns P st st:=fun a w r h=>⟨r,rfl,h,Step.refl ..⟩
theorem Turns.trans {st st₁ st₂:St} (h:Turns P st st₁) (k:Turns P st₁ st₂):Turns P st st₂:=fun a w r hi=>by
 obtain ⟨r1,h1,h2,h3⟩:=h a w r hi
 obtain ⟨r2,k1,k2,k3⟩:=k a w r1 h2
 exact ⟨r2,k1.trans h1,k2,h3.trans (h1 ▸ k3)⟩
theorem Tri.turn {c:Code} {Q:Exit → St → Prop} {st st':St} (ht:Turns P st st') (h:Tri P c Q st'):Tri P c Q st:=by
 intro a w r hi
 obtain ⟨r',h1,h2,h3⟩:=ht a w r hi
 refine Code.wp_mono (fun _ _ _ k=>Post.step h3 ?_) (h a w r' h2)
 rw [h1] at k; exact k
/-- Go on, or leave. -/
def Ex (next:St → Prop) (Q:Exit → St → Prop):Exit → St → Prop
 | .normal,st=>next st
 | e,st=>Q e st
theorem Tri.seq {x y:Code} {Q:Exit → St → Prop} {st:St} (h:Tri P x (Ex (Tri P y Q) Q) st):Tri P (.seq x y) Q st:=by
 intro a w r hi
 refine wp_seq (Code.wp_mono (fun e a' w' k=>?_) (h a w r hi))
 obtain ⟨st',r',h1,h2,h3,h4⟩:=k
 cases e
 case normal =>
  refine Code.wp_mono (fun _ _ _ k=>Post.step h4 ?_) (h1 a' w' r' h3)
  rw [h2] at k; exact k
 all_goals exact ⟨st',r',h1,h2,h3,h4⟩
theorem Tri.skip {Q:Exit → St → Prop} {st:St} (h:Q .normal st):Tri P .skip Q st:=fun a w r hi=>wp_skip ⟨st,r,h,rfl,hi,Step.refl ..⟩
theorem Tri.ret {Q:Exit → St → Prop} {st:St} (h:Q .ret st):Tri P .ret Q st:=fun a w r hi=>wp_ret ⟨st,r,h,rfl,hi,Step.refl ..⟩
theorem Tri.exit {id:Nat} {Q:Exit → St → Prop} {st:St} (h:Q (.exit id) st):Tri P (.exit id) Q st:=fun a w r hi=>wp_exit ⟨st,r,h,rfl,hi,Step.refl ..⟩
/-- An exit to the block itself goes on behind it. -/
def Bk (id:Nat) (Q:Exit → St → Prop):Exit → St → Prop
 | .exit id',st=>if id' = id then Q .normal st else Q (.exit id') st
 | e,st=>Q e st
theorem Tri.block {id:Nat} {c:Code} {Q:Exit → St → Prop} {st:St} (h:Tri P c (Bk id Q) st):Tri P (.block id c) Q st:=by
 intro a w r hi
 refine wp_block (Code.wp_mono (fun e a' w' k=>?_) (h a w r hi))
 obtain ⟨st',r',h1,h2,h3,h4⟩:=k
 cases e
 case exit id' =>
  simp only [Bk] at h1
  simp only [Exit.inBlock]
  split
  ·rename_i e; rw [if_pos e] at h1; exact ⟨st',r',h1,h2,h3,h4⟩
  ·rename_i e; rw [if_neg e] at h1; exact ⟨st',r',h1,h2,h3,h4⟩
 all_goals exact ⟨st',r',h1,h2,h3,h4⟩
/-! Loops, by rounds. -/
def TriR (P:Program) (c:Code) (Q:Exit → St → Prop):Nat → St → Prop
 | 0,_=>False
 | k + 1,st=>Tri P c (Ex (TriR P c Q k) Q) st
theorem rounds_mono {c:Code} {Q Q':Exit → Act → World → Prop} (hq:∀ e a w,Q e a w → Q' e a w):∀ n a w,Code.rounds P c Q n a w → Code.rounds P c Q' n a w
 | 0,_,_,h=>h
 | n + 1,a,w,h=>by
  rw [rounds_succ] at h ⊢
  refine Code.wp_mono (fun e a w k=>?_) h
  cases e
  case normal=>exact rounds_mono hq n a w k
  all_goals exact hq _ _ _ k
theorem TriR.rounds {c:Code} {Q:Exit → St → Prop}:∀ (k:Nat) (st:St),TriR P c Q k st → ∀ a w r,Inv P st a w r → Code.rounds P c (Post P st.m w r st.bx.length Q) k a w
 | 0,_,h,_,_,_,_=>h.elim
 | k + 1,st,h,a,w,r,hi=>by
  rw [rounds_succ]
  refine Code.wp_mono (fun e a' w' q=>?_) (h a w r hi)
  obtain ⟨st',r',h1,h2,h3,h4⟩:=q
  cases e
  case normal =>
   refine rounds_mono (fun _ _ _ q=>Post.step h4 ?_) k a' w' (TriR.rounds k st' h1 a' w' r' h3)
   rw [h2] at q; exact q
  all_goals exact ⟨st',r',h1,h2,h3,h4⟩
theorem Tri.loop {c:Code} {Q:Exit → St → Prop} {st:St} (k:Nat) (h:TriR P c Q k st):Tri P (.loop c) Q st :=
 fun a w r hi=>wp_loop_rounds k (TriR.rounds k st h a w r hi)
/-! Regions: a list of operations. -/
/-- An operation that yields, and turns the pure state. -/
def OpOK (P:Program) (o:Oper) (st st':St):Prop :=
 ∀ a w r,Inv P st a w r → ∀ (K:Act → World → Prop) (Q:Exit → Act → World → Prop),
  (∀ v w' r',st'.m = st.m → Inv P st' (a.put o.dst v) w' r' → Step st.m w r st.bx.length w' r' st'.bx.length → K (a.put o.dst v) w') → o.wp P a w K Q
theorem Step.le {m m':Nat} {w w':World} {r r':Rs} {nb nb':Nat} (hm:m' ≤ m) (h:Step m w r nb w' r' nb'):Step m' w r nb w' r' nb' :=
 ⟨h.os,h.tape,h.output,h.size,h.block,h.sh,h.shNew,h.x,fun b hb=>h.β b (by omega),h.κ,h.ty⟩
/-- The same; all boxes stay where they are. -/
def OpE (P:Program) (o:Oper) (st st':St):Prop :=
 ∀ a w r,Inv P st a w r → ∀ (K:Act → World → Prop) (Q:Exit → Act → World → Prop),
  (∀ v w' r',st'.m = st.m → Inv P st' (a.put o.dst v) w' r' → Step st.bx.length w r st.bx.length w' r' st'.bx.length → K (a.put o.dst v) w') → o.wp P a w K Q
theorem OpE.ok {o:Oper} {st st':St} (h:OpE P o st st'):OpOK P o st st':=fun a w r hi K Q hK=>h a w r hi K Q fun v w' r' h1 h2 h3=>hK v w' r' h1 h2 (h3.le hi.m)
def TriO (P:Program) (ops:Array Oper) (l:List Oper) (Q:St → Prop) (st:St):Prop :=
 ∀ a w r,Inv P st a w r → wpList P ops (Post P st.m w r st.bx.length (fun e st'=>e = .normal ∧ Q st')) l a w
theorem wpList_mono {ops:Array Oper} {Q Q':Exit → Act → World → Prop} (hq:∀ e a w,Q e a w → Q' e a w):∀ (l:List Oper) (a:Act) (w:World),wpList P ops Q l a w → wpList P ops Q' l a w
 | [],a,w,h=>hq _ _ _ h
 | o :: l,a,w,h=>by
  unfold wpList at h ⊢
  split
  ·rename_i hw
   rw [if_pos hw] at h
   rcases h with h | ⟨h1,a',w',h2⟩
   ·refine .inl ?_
    unfold Oper.wp at h ⊢
    generalize (execOp a.eval o).run P w = x at h ⊢
    have hl:LetsOut Q → LetsOut Q':=fun ⟨a,w,h⟩=>⟨a,w,hq _ _ _ h⟩
    cases x with
    | ok n w' =>
     cases n <;> simp only [Oper.upon] at h ⊢
     case value v=>exact wpList_mono hq l _ _ h
     case skip=>exact wpList_mono hq l _ _ h
     case defer d=>exact wpList_mono hq l _ _ h
     case enter f args =>
      refine h.mono fun e w'' k=>?_
      cases e with
      | returned v=>exact wpList_mono hq l _ _ k
      | panicked ch=>exact hq _ _ _ k
      | outgrown=>exact hl k
     case row rw args=>exact h.mono fun v w'' k=>wpList_mono hq l _ _ k
    | halt x w' =>
     cases x <;> simp only [Oper.upon] at h ⊢
     exact hq _ _ _ h
   ·exact .inr ⟨h1,a',w',hq _ _ _ h2⟩
  ·rename_i hw
   rw [if_neg hw] at h
   exact wpList_mono hq l _ _ h
theorem TriO.nil {ops:Array Oper} {Q:St → Prop} {st:St} (h:Q st):TriO P ops [] Q st :=
 fun a w r hi=>⟨st,r,⟨rfl,h⟩,rfl,hi,Step.refl ..⟩
theorem TriO.turn {ops:Array Oper} {l:List Oper} {Q:St → Prop} {st st':St} (ht:Turns P st st') (h:TriO P ops l Q st'):TriO P ops l Q st:=by
 intro a w r hi
 obtain ⟨r',h1,h2,h3⟩:=ht a w r hi
 refine wpList_mono (fun _ _ _ k=>Post.step h3 ?_) l a w (h a w r' h2)
 rw [h1] at k; exact k
theorem TriO.cons {ops:Array Oper} {o:Oper} {l:List Oper} {Q:St → Prop} {st st':St} (hg:o.guard = none) (ho:OpOK P o st st') (h:TriO P ops l Q st'):TriO P ops (o :: l) Q st:=by
 intro a w r hi
 refine wpList_plain hg fun K hK=>?_
 refine ho a w r hi K _ fun v w' r' h1 h2 h3=>hK _ _ ?_
 refine wpList_mono (fun _ _ _ k=>Post.step h3 ?_) l _ w' (h _ w' r' h2)
 rw [h1] at k; exact k
theorem Tri.region {id:Nat} {l:List Oper} {Q:Exit → St → Prop} {st:St} (h:TriO P l.toArray l (Q .normal) st):Tri P (.region id l.toArray false) Q st:=by
 intro a w r hi
 refine wp_region_lit (wpList_mono (fun e a' w' k=>?_) l a w (h a w r hi))
 obtain ⟨st',r',⟨rfl,h1⟩,h2⟩:=k
 exact ⟨st',r',h1,h2⟩
end
end Go.Proofs.YtoclajfeeebbbadGreatDoor.E
