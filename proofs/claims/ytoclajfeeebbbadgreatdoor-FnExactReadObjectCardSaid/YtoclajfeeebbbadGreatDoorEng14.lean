/- The engine, part WC: behind calls that write our boxes, or one row of ours. Plain lemmas; no program. -/
import Derived.Test.YtoclajfeeebbbadGreatDoorEng13
set_option linter.unusedVariables false
set_option linter.unusedSectionVars false
set_option linter.unusedSimpArgs false
namespace Go.Proofs.YtoclajfeeebbbadGreatDoor.E
open Go.RowKit
variable [LaidFacts]
/-- What named a place of these boxes is lost. -/
def PC.wipeB (bs:List Nat) (x:PC):PC :=
  match x with
  | .al (.b b c)=>match inB b bs with | true=>.dead | false=>.al (.b b c)
  | .vw (.b b c) lo n s=>match inB b bs with | true=>.dead | false=>.vw (.b b c) lo n s
  | .el (.b b c) i off s=>match inB b bs with | true=>.dead | false=>.el (.b b c) i off s
  | x=>x
def putB:List (List PC) → List Nat → List (List PC) → List (List PC)
  | bx,[],l=>bx ++ l
  | bx,_ :: _,[]=>bx
  | bx,b :: bs,c :: l=>putB (bx.set b c) bs l
def St.behind (st:St) (bs:List Nat) (bxb:List (List PC)):St:={ st with tm:=mapL (PC.wipeB bs) st.tm,bx:=putB st.bx bs bxb }
def St.keptAt (st:St) (ko:Option (Nat × Place)) (kcs:List PC):St :=
  match ko,kcs with
  | some (_,q),c :: _=>st.setAt q c
  | _,_=>st
/-- The caller's number of a callee's box. -/
def backB (bs:List Nat) (nb:Nat) (i:Nat):Option Nat :=
  match bs[i]? with
  | some b=>some b
  | none=>some (nb + (i - bs.length))
theorem putB_at {j : Nat} : ∀ {bs : List Nat} {bx l : List (List PC)}, bs.Nodup → bs.length ≤ l.length → (∀ b ∈ bs, b < bx.length) →
    (putB bx bs l)[j]? = if j < bx.length then (match idxB j 0 bs with | some i=>l[i]? | none=>bx[j]?) else l[bs.length + (j - bx.length)]?
  | [],bx,l,_,_,_=>by
    simp only [putB,List.getElem?_append,idxB,List.length_nil,Nat.zero_add]
  | b :: bs,bx,[],_,h,_=>by simp at h
  | b :: bs,bx,c :: l,hnd,hle,hlt=>by
    obtain ⟨h1,h2⟩:=List.nodup_cons.1 hnd
    have shift:∀ (bs:List Nat) (k:Nat),idxB j (k + 1) bs = (idxB j k bs).map (· + 1):=by
      intro bs
      induction bs with
      | nil=>intro k; rfl
      | cons x bs ih =>
        intro k
        simp only [idxB]
        split
        · rfl
        · exact ih (k + 1)
    simp only [putB]
    rw [putB_at h2 (by simpa using hle) (fun x hx=>by rw [List.length_set]; exact hlt x (List.mem_cons_of_mem _ hx)),List.length_set]
    split
    · rename_i hj
      by_cases hjb:b = j
      · subst hjb
        have hn:idxB b 0 bs = none:=by
          cases h:idxB b 0 bs with
          | none=>rfl
          | some i=>exact absurd (List.mem_of_getElem? (idxB_spec h).2) h1
        rw [hn]
        simp only [idxB,Nat.beq_refl,List.getElem?_cons_zero]
        rw [List.getElem?_set_self hj]
      · have hb : Nat.beq b j = false := by
          cases h:Nat.beq b j with
          | false=>rfl
          | true=>exact absurd (Nat.eq_of_beq_eq_true h) hjb
        simp only [idxB,hb,shift]
        cases h:idxB j 0 bs with
        | none=>simp only [Option.map_none]; rw [List.getElem?_set_ne hjb]
        | some i=>simp only [Option.map_some,List.getElem?_cons_succ]
    · rename_i hj
      rw [List.length_cons,show bs.length + 1 + (j - bx.length) = (bs.length + (j - bx.length)) + 1 by omega,List.getElem?_cons_succ]
theorem putB_length {bs:List Nat} {bx l:List (List PC)} (hnd:bs.Nodup) (hle:bs.length ≤ l.length) (hlt:∀ b ∈ bs,b < bx.length):(putB bx bs l).length = bx.length + (l.length - bs.length):=by
  have h:=fun j=>putB_at (j:=j) hnd hle hlt
  refine Nat.le_antisymm (Nat.le_of_not_lt fun hlt'=>?_) (Nat.le_of_not_lt fun hlt'=>?_)
  · have h1:=h (bx.length + (l.length - bs.length))
    rw [if_neg (by omega),List.getElem?_eq_getElem hlt'] at h1
    rw [List.getElem?_eq_none (by omega)] at h1
    cases h1
  · have h1:=h (putB bx bs l).length
    rw [List.getElem?_eq_none (Nat.le_refl _)] at h1
    split at h1
    · rename_i hj
      cases hi:idxB (putB bx bs l).length 0 bs with
      | none=>rw [hi] at h1; simp only at h1; rw [List.getElem?_eq_getElem hj] at h1; cases h1
      | some i =>
        rw [hi] at h1; simp only at h1
        have hib:=(List.getElem?_eq_some_iff.1 (idxB_spec hi).2).1
        rw [List.getElem?_eq_getElem (by omega)] at h1; cases h1
    · rw [List.getElem?_eq_getElem (by omega)] at h1; cases h1
theorem PC.wipeB_cases {bs:List Nat} (x:PC):x.wipeB bs = x ∨ (x.wipeB bs = .dead ∧ ∃ b c,x.names = some (.b b c) ∧ b ∈ bs):=by
  cases x <;> try (exact .inl rfl)
  case al p =>
    cases p with
    | t t c=>exact .inl rfl
    | b b c =>
      simp only [PC.wipeB]
      cases h:inB b bs with
      | true=>exact .inr ⟨rfl,b,c,rfl,inB_spec h⟩
      | false=>exact .inl rfl
  case vw p lo n s =>
    cases p with
    | t t c=>exact .inl rfl
    | b b c =>
      simp only [PC.wipeB]
      cases h:inB b bs with
      | true=>exact .inr ⟨rfl,b,c,rfl,inB_spec h⟩
      | false=>exact .inl rfl
  case el p i off s =>
    cases p with
    | t t c=>exact .inl rfl
    | b b c =>
      simp only [PC.wipeB]
      cases h:inB b bs with
      | true=>exact .inr ⟨rfl,b,c,rfl,inB_spec h⟩
      | false=>exact .inl rfl
theorem PC.wipeB_names {bs:List Nat} {x:PC} {q:Place} (h:(x.wipeB bs).names = some q):x.wipeB bs = x ∧ x.names = some q ∧ offB bs q = true:=by
  have key:∀ b,inB b bs = false → offB bs (.b b 0) = true:=fun b h=>by simp [offB,h]
  cases x <;> try (simp [PC.wipeB,PC.names] at h; done)
  case al p =>
    cases p with
    | t t c=>exact ⟨rfl,h,by cases h; rfl⟩
    | b b c =>
      simp only [PC.wipeB] at h ⊢
      cases hb:inB b bs with
      | true=>rw [hb] at h; cases h
      | false=>rw [hb] at h; cases h; exact ⟨rfl,rfl,by simp [offB,hb]⟩
  case vw p lo n s =>
    cases p with
    | t t c=>exact ⟨rfl,h,by cases h; rfl⟩
    | b b c =>
      simp only [PC.wipeB] at h ⊢
      cases hb:inB b bs with
      | true=>rw [hb] at h; cases h
      | false=>rw [hb] at h; cases h; exact ⟨rfl,rfl,by simp [offB,hb]⟩
  case el p i off s =>
    cases p with
    | t t c=>exact ⟨rfl,h,by cases h; rfl⟩
    | b b c =>
      simp only [PC.wipeB] at h ⊢
      cases hb:inB b bs with
      | true=>rw [hb] at h; cases h
      | false=>rw [hb] at h; cases h; exact ⟨rfl,rfl,by simp [offB,hb]⟩
section
variable {P:Program} {st:St} {a:Act} {w:World} {r:Rs}
/-- The callee's place behind one of ours. -/
def cplace (bs:List Nat) (nb:Nat) (ko:Option (Nat × Place)) (p:Place):Option Place :=
  match p with
  | .b b c=>if b < nb then (match idxB b 0 bs with | some i=>some (.b i c) | none=>if mvOf ko = some (.b b c) then some (.t 1 0) else none) else some (.b (bs.length + (b - nb)) c)
  | .t t c=>if mvOf ko = some (.t t c) then some (.t 1 0) else none
def Rs.backB (r r':Rs) (bs:List Nat) (nb:Nat) (ko:Option (Nat × Place)):Rs :=
  { Sh:=r'.Sh,β:=fun b=>if b < nb then r.β b else r'.β (bs.length + (b - nb)),κ:=r.κ,γ:=fun p=>match cplace bs nb ko p with
    | some z=>r'.γ z
    | none=>r.γ p }
theorem cplace_inj {bs:List Nat} {nb:Nat} {ko:Option (Nat × Place)} {p q z:Place} (hp:cplace bs nb ko p = some z) (hq:cplace bs nb ko q = some z):p = q:=by
  have key:∀ {p z},cplace bs nb ko p = some z → (z = .t 1 0 ∧ mvOf ko = some p) ∨ (∃ b i c,p = .b b c ∧ z = .b i c ∧ bs[i]? = some b ∧ b < nb) ∨ (∃ b c,p = .b b c ∧ nb ≤ b ∧ z = .b (bs.length + (b - nb)) c):=by
    intro p z h
    cases p with
    | t t c =>
      simp only [cplace] at h
      split at h
      · cases h; exact .inl ⟨rfl,‹_›⟩
      · cases h
    | b b c =>
      simp only [cplace] at h
      split at h
      · rename_i hb
        split at h
        · rename_i i hi
          cases h
          exact .inr (.inl ⟨b,i,c,rfl,rfl,(idxB_spec hi).2,hb⟩)
        · split at h
          · cases h; exact .inl ⟨rfl,‹_›⟩
          · cases h
      · rename_i hb
        cases h
        exact .inr (.inr ⟨b,c,rfl,by omega,rfl⟩)
  rcases key hp with ⟨h1,h2⟩ | ⟨b,i,c,rfl,h1,h2,h3⟩ | ⟨b,c,rfl,h1,h2⟩ <;> rcases key hq with ⟨k1,k2⟩ | ⟨b',i',c',rfl,k1,k2,k3⟩ | ⟨b',c',rfl,k1,k2⟩
  · rw [h2] at k2; cases k2; rfl
  · rw [h1] at k1; cases k1
  · rw [h1] at k2; cases k2
  · rw [k1] at h1; cases h1
  · rw [h1] at k1; cases k1; rw [h2] at k2; cases k2; rfl
  · rw [h1] at k2
    simp only [Place.b.injEq] at k2
    have:=(List.getElem?_eq_some_iff.1 h2).1
    omega
  · rw [k1] at h2; cases h2
  · rw [h2] at k1
    simp only [Place.b.injEq] at k1
    have:=(List.getElem?_eq_some_iff.1 k2).1
    omega
  · rw [h2] at k2
    simp only [Place.b.injEq] at k2
    obtain ⟨k2,rfl⟩:=k2
    have:b = b':=by omega
    subst this; rfl
theorem cplace_b {bs:List Nat} {nb b c:Nat} {ko:Option (Nat × Place)} (hm:mvOf ko ≠ some (.b b c)):cplace bs nb ko (.b b c) = if b < nb then (idxB b 0 bs).map (fun i=>Place.b i c) else some (.b (bs.length + (b - nb)) c):=by
  simp only [cplace]
  split
  · cases idxB b 0 bs with
    | none=>simp only [if_neg hm,Option.map_none]
    | some i=>rfl
  · rfl
/-- Our box and the callee's. -/
theorem cplace_bz {bs:List Nat} {nb b c:Nat} {ko:Option (Nat × Place)} {z:Place} (hm:mvOf ko ≠ some (.b b c)) (h:cplace bs nb ko (.b b c) = some z):∃ i,z = .b i c ∧ ((b < nb ∧ idxB b 0 bs = some i) ∨ (¬ b < nb ∧ i = bs.length + (b - nb))) ∧ ∀ c',cplace bs nb ko (.b b c') = some (.b i c'):=by
  rw [cplace_b hm] at h
  split at h
  · rename_i hlt
    obtain ⟨i,hi,rfl⟩:=Option.map_eq_some_iff.1 h
    exact ⟨i,rfl,.inl ⟨hlt,hi⟩,fun c'=>by simp only [cplace,if_pos hlt,hi]⟩
  · rename_i hlt
    cases h
    exact ⟨_,rfl,.inr ⟨hlt,rfl⟩,fun c'=>by simp only [cplace,if_neg hlt]⟩
theorem cplace_bn {bs:List Nat} {nb b c:Nat} {ko:Option (Nat × Place)} (h:cplace bs nb ko (.b b c) = none):b < nb ∧ idxB b 0 bs = none ∧ mvOf ko ≠ some (.b b c):=by
  by_cases hm:mvOf ko = some (.b b c)
  · simp only [cplace,hm,if_true] at h
    split at h
    · split at h <;> cases h
    · cases h
  · rw [cplace_b hm] at h
    split at h
    · exact ⟨‹_›,Option.map_eq_none_iff.1 h,hm⟩
    · cases h
theorem cplace_tn {bs:List Nat} {nb t c:Nat} {ko:Option (Nat × Place)} (h:cplace bs nb ko (.t t c) = none):mvOf ko ≠ some (.t t c):=by
  intro hm
  simp [cplace,hm] at h
theorem behind_at {bs : List Nat} {bxb : List (List PC)} {q : Place} {y : PC} (h : st.at q = some y) (hn : ∀ b c, q = .b b c → b ∉ bs) (hnd : bs.Nodup) (hle : bs.length ≤ bxb.length) (hlt : ∀ b ∈ bs, b < st.bx.length) :
    (st.behind bs bxb).at q = some (match q with | .t _ _=>y.wipeB bs | .b _ _=>y):=by
  cases q with
  | t t c =>
    obtain ⟨pv,k1,k2⟩:=St.at_tmp h
    simp only [St.at,St.get,St.behind,look_mapL,show look st.tm t = some pv from k1,Option.map_some,Option.bind_some,List.getElem?_map,k2]
  | b b c =>
    obtain ⟨k0,cs,k1,k2⟩:=St.at_box h
    have hi:idxB b 0 bs = none:=by
      cases h:idxB b 0 bs with
      | none=>rfl
      | some i=>exact absurd (List.mem_of_getElem? (idxB_spec h).2) (hn b c rfl)
    simp only [St.at,St.behind]
    rw [putB_at hnd hle hlt,if_pos k0,hi]
    simp only [k1,Option.bind_some,k2]
theorem keptAt_none {s:St} {kcs:List PC}:s.keptAt none kcs = s:=by cases kcs <;> rfl
/-- THE FRAME BEHIND THE CALL, without its result. -/
theorem Inv.behind (hi : Inv P st a w r) {pvs args : List PV} {ns bs : List Nat} {ko : Option (Nat × Place)} {bxc bx' bxb : List (List PC)} {vals : Array Value} {v : Value} {res : PV} {kcs : List PC} {w' : World} {r' : Rs} (hp : PassB st bs ko pvs args ns bxc)
    (hkv:∀ j q,ko = some (j,q) → vals.getD j undef = alpha a w r q)
    (hc:Inv P ⟨(keepOf ko).length + 1,enum 0 (res :: kept kcs),bx',0,[]⟩ ⟨(v :: (keepOf ko).map fun j=>vals.getD j undef).toArray,[]⟩ w' r')
    (hs:Step bxc.length w (r.toB bs ko vals) bxc.length w' r' bx'.length) (hle:bs.length ≤ bx'.length) (hk:kcs.length = (keepOf ko).length) (hko:kcs.all (fun c=>!notOwn c) = true)
    (hb:mapO (mapO (ren (E.backB bs st.bx.length) 4)) bx' = some bxb) :
    Inv P ((st.behind bs bxb).keptAt ko kcs) a w' (r.backB r' bs st.bx.length ko) ∧ Step st.bx.length w r st.bx.length w' (r.backB r' bs st.bx.length ko) ((st.behind bs bxb).keptAt ko kcs).bx.length ∧
    (∀ b b',b < bx'.length → E.backB bs st.bx.length b = some b' → b' < ((st.behind bs bxb).keptAt ko kcs).bx.length ∧ (r.backB r' bs st.bx.length ko).β b' = r'.β b) ∧
    ∀ c g,r'.γ (.t 0 c) = some g → (r.X st.bx.length g ∨ w.heap.size ≤ g) ∧ ¬ (r.backB r' bs st.bx.length ko).X ((st.behind bs bxb).keptAt ko kcs).bx.length g:=by
  let S':St:=⟨(keepOf ko).length + 1,enum 0 (res :: kept kcs),bx',0,[]⟩
  let r1:=r.backB r' bs st.bx.length ko
  let nb:=st.bx.length
  obtain ⟨hbl,hbat⟩:=mapO_at hb
  have hbc:=hp.len
  have hnd:=hp.nd
  have hX:∀ g,(r.toB bs ko vals).X bxc.length g → r.X nb g ∧ ¬ (∃ b,b < nb ∧ b ∉ bs ∧ r.β b = g) ∧ ¬ (∃ p,r.γ p = some g ∧ cplace bs nb ko p = none):=by
    intro g hg
    rcases hg with ⟨p,hpg⟩ | ⟨i,hib,rfl⟩
    · rcases Rs.toB_γ hpg with ⟨j,q,hk1,rfl,k1⟩ | ⟨i,b,c,rfl,k1,k2⟩
      · refine ⟨.inl ⟨q,k1⟩,?_,?_⟩
        · rintro ⟨b,h1,_,h3⟩; exact hi.exb q g b k1 h1 h3
        · rintro ⟨p,h1,h2⟩
          have:=hi.inj p q g h1 k1
          subst this
          subst hk1
          cases p with
          | t t c=>simp [cplace,mvOf] at h2
          | b b c =>
            simp only [cplace] at h2
            split at h2
            · split at h2
              · cases h2
              · simp [mvOf] at h2
            · cases h2
      · refine ⟨.inl ⟨_,k2⟩,?_,?_⟩
        · rintro ⟨b',h1,_,h3⟩; exact hi.exb _ g b' k2 h1 h3
        · rintro ⟨p,h1,h2⟩
          have:=hi.inj p _ g h1 k2
          subst this
          simp only [cplace] at h2
          split at h2
          · split at h2
            · cases h2
            · rename_i hn; exact absurd (List.mem_of_getElem? k1) (idxB_none hn)
          · cases h2
    · have hib':i < bs.length:=by rw [hbc]; exact hib
      have e1:bs[i]? = some (bs.getD i 0):=by simp [List.getD_eq_getElem?_getD,hib']
      have hlt:=hp.lt _ (List.mem_of_getElem? e1)
      refine ⟨.inr ⟨_,hlt,rfl⟩,?_,?_⟩
      · rintro ⟨b,h1,h2,h3⟩
        have:=hi.bb b _ h1 hlt h3
        subst this
        exact h2 (List.mem_of_getElem? e1)
      · rintro ⟨p,h1,_⟩; exact hi.exb p _ _ h1 hlt rfl
  have hXn:∀ g,r'.X bx'.length g → (r.toB bs ko vals).X bxc.length g ∨ w.heap.size ≤ g:=hs.x
  have hSn:∀ g,r'.Sh g → r.Sh g ∨ (r.toB bs ko vals).X bxc.length g ∨ w.heap.size ≤ g:=hs.shNew
  have hSup:∀ g,r.Sh g → r'.Sh g:=hs.sh
  -- what stays
  have hold:∀ g,g < w.heap.size → ¬ (r.toB bs ko vals).X bxc.length g → w'.heap[g]? = w.heap[g]?:=hs.block
  have hnSh:∀ g,r.Sh g → ¬ (r.toB bs ko vals).X bxc.length g:=fun g hg hx=>hi.not_sh (hX g hx).1 hg
  have hSh:∀ g,r.Sh g → w'.heap[g]? = w.heap[g]?:=fun g hg=>hold g (hi.sh g hg).1 (hnSh g hg)
  have hβo:∀ b,b < nb → b ∉ bs → w'.heap[r.β b]? = w.heap[r.β b]?:=fun b h1 h2=>hold _ (hi.X_lt (.inr ⟨b,h1,rfl⟩)) fun hx=>(hX _ hx).2.1 ⟨b,h1,h2,rfl⟩
  have hγo:∀ p g,r.γ p = some g → cplace bs nb ko p = none → w'.heap[g]? = w.heap[g]?:=fun p g h1 h2=>hold g (hi.X_lt (.inl ⟨p,h1⟩)) fun hx=>(hX g hx).2.2 ⟨p,h1,h2⟩
  have hβi:∀ i b,bs[i]? = some b → r'.β i = r.β b:=by
    intro i b h
    have hib:i < bxc.length:=by rw [← hbc]; exact (List.getElem?_eq_some_iff.1 h).1
    rw [hs.β i hib]
    simp [Rs.toB,List.getD_eq_getElem?_getD,h]
  have hL0:(putB st.bx bs bxb).length = nb + (bx'.length - bs.length):=by rw [putB_length hnd (by omega) hp.lt,← hbl]
  have hL:((st.behind bs bxb).keptAt ko kcs).bx.length = nb + (bx'.length - bs.length):=by
    unfold St.keptAt
    split
    · rw [St.setAt_len]; exact hL0
    · exact hL0
  -- a callee's box that is ours
  have hcb:∀ (i b:Nat),b < nb + (bx'.length - bs.length) → (∀ c,cplace bs nb ko (.b b c) = some (.b i c)) → i < bx'.length ∧ (putB st.bx bs bxb)[b]? = bxb[i]? ∧ r1.β b = r'.β i:=by
    intro i b hbn h
    have h0:=h 0
    simp only [cplace] at h0
    split at h0
    · rename_i hlt
      split at h0
      · rename_i j hj
        have:j = i:=by cases h0; rfl
        subst this
        have h3:=(idxB_spec hj).2
        rw [Nat.sub_zero] at h3
        refine ⟨Nat.lt_of_lt_of_le (List.getElem?_eq_some_iff.1 h3).1 hle,?_,?_⟩
        · rw [putB_at hnd (by omega) hp.lt,if_pos hlt,hj]
        · have hlt':b < st.bx.length:=hlt
          simp only [r1,Rs.backB,if_pos hlt']
          exact (hβi j b h3).symm
      · split at h0 <;> cases h0
    · rename_i hlt
      have:bs.length + (b - nb) = i:=by cases h0; rfl
      subst this
      refine ⟨by omega,?_,?_⟩
      · have hlt':¬ b < st.bx.length:=hlt
        rw [putB_at hnd (by omega) hp.lt,if_neg hlt']
      · have hlt':¬ b < st.bx.length:=hlt
        simp only [r1,Rs.backB,if_neg hlt']; rfl
  have hρ:∀ b b',b < S'.bx.length → E.backB bs st.bx.length b = some b' → b' < ((st.behind bs bxb).keptAt ko kcs).bx.length ∧ r1.β b' = r'.β b:=by
    intro i b' hib h
    have hib:i < bx'.length:=hib
    simp only [E.backB] at h
    rw [hL]
    split at h
    · rename_i b hb'
      cases h
      have hlt:=hp.lt _ (List.mem_of_getElem? hb')
      refine ⟨Nat.lt_of_lt_of_le hlt (Nat.le_add_right _ _),?_⟩
      simp only [r1,Rs.backB,if_pos hlt]
      exact (hβi i b' hb').symm
    · rename_i hb'
      have hge:bs.length ≤ i:=List.getElem?_eq_none_iff.1 hb'
      cases h
      refine ⟨by simp only [nb]; omega,?_⟩
      simp only [r1,Rs.backB,if_neg (show ¬ st.bx.length + (i - bs.length) < st.bx.length by omega)]
      congr 1; omega
  -- the kept row
  have hkq:∀ j q,ko = some (j,q) → ∃ e xs e' xs',st.at q = some (.own e xs) ∧ offB bs q = true ∧ kcs = [.own e' xs'] ∧ S'.at (.t 1 0) = some (.own e' xs') ∧ alpha ⟨(v :: (keepOf ko).map fun j=>vals.getD j undef).toArray,[]⟩ w' r' (.t 1 0) = alpha a w r q:=by
    intro j q hkj
    subst hkj
    obtain ⟨e,xs,h1,h2,h3,h4,h5⟩:=hp.keep
    simp only [keepOf,List.length_singleton] at hk
    obtain ⟨c,rfl⟩:∃ c,kcs = [c]:=List.length_eq_one_iff.1 hk
    simp only [List.all_cons,List.all_nil,Bool.and_true,Bool.not_eq_true'] at hko
    obtain ⟨e',xs',rfl⟩:∃ e' xs',c = .own e' xs':=by cases c <;> simp only [notOwn] at hko <;> first | (cases hko; done) | exact ⟨_,_,rfl⟩
    refine ⟨e,xs,e',xs',h2,h4,rfl,by simp [S',St.at,St.get,enum,kept,look],?_⟩
    have hval:=hkv j q rfl
    obtain ⟨v1,k1,k2⟩:=hc.tm 1 ⟨.one,[.own e' xs']⟩ (by simp [St.get,enum,kept,look])
    have k3:v1 = vals.getD j undef:=by simpa [keepOf] using k1.symm
    have:alpha ⟨(v :: (keepOf (some (j,q))).map fun j=>vals.getD j undef).toArray,[]⟩ w' r' (.t 1 0) = (flat (vals.getD j undef)).getD 0 undef:=by simp [alpha,keepOf]
    rw [this,← k3,flat_one k2.2,k3,hval]; rfl
  have hoff:∀ {q:Place} {b c:Nat},offB bs q = true → q = .b b c → b ∉ bs:=by
    intro q b c h e
    subst e
    simp only [offB,Bool.not_eq_true'] at h
    exact inB_false h
  -- what stands at our places
  have hat1:∀ p x,((st.behind bs bxb).keptAt ko kcs).at p = some x → (∃ z y,cplace bs nb ko p = some z ∧ S'.at z = some y ∧ ren (E.backB bs st.bx.length) 4 y = some x ∧ (∀ t c,z = .t t c → t = 1)) ∨ (cplace bs nb ko p = none ∧ ∃ y,st.at p = some y ∧ x = y.wipeB bs):=by
    have base:∀ p x,mvOf ko ≠ some p → (st.behind bs bxb).at p = some x → (∃ z y,cplace bs nb ko p = some z ∧ S'.at z = some y ∧ ren (E.backB bs st.bx.length) 4 y = some x ∧ (∀ t c,z = .t t c → t = 1)) ∨ (cplace bs nb ko p = none ∧ ∃ y,st.at p = some y ∧ x = y.wipeB bs):=by
      intro p x hm hx
      cases p with
      | t t c =>
        refine .inr ⟨by simp only [cplace,if_neg hm],?_⟩
        obtain ⟨pv,h1,h2⟩:=St.at_tmp hx
        simp only [St.get,St.behind,look_mapL] at h1
        obtain ⟨u,h3,rfl⟩:=Option.map_eq_some_iff.1 h1
        simp only [List.getElem?_map] at h2
        obtain ⟨y,h4,rfl⟩:=Option.map_eq_some_iff.1 h2
        exact ⟨y,by simp [St.at,St.get,h3,h4],rfl⟩
      | b b c =>
        obtain ⟨h0,cs,h1,h2⟩:=St.at_box hx
        have hb0:b < nb + (bx'.length - bs.length):=by rw [← hL0]; exact h0
        cases hcp:cplace bs nb ko (.b b c) with
        | some z =>
          obtain ⟨i,rfl,_,hall⟩:=cplace_bz hm hcp
          obtain ⟨k1,k2,_⟩:=hcb i b hb0 hall
          have k3:bxb[i]? = some cs:=by rw [← k2]; exact h1
          obtain ⟨cs0,k4,k5⟩:=hbat i cs k3
          obtain ⟨y,k6,k7⟩:=(mapO_at k5).2 c x h2
          exact .inl ⟨_,y,rfl,by simp [S',St.at,k4,k6],k7,fun t c h=>by cases h⟩
        | none =>
          obtain ⟨hlt,hn,_⟩:=cplace_bn hcp
          have hbxy:st.bx[b]? = some cs:=by
            have h3:(putB st.bx bs bxb)[b]? = some cs:=h1
            have hlt':b < st.bx.length:=hlt
            rw [putB_at hnd (by omega) hp.lt,if_pos hlt',hn] at h3
            exact h3
          refine .inr ⟨rfl,x,by simp [St.at,hbxy,h2],?_⟩
          · obtain ⟨cs',h3,h4⟩:∃ cs,st.bx[b]? = some cs ∧ x ∈ cs:=⟨cs,hbxy,List.mem_of_getElem? h2⟩
            have:=(hi.bx b cs' h3).2 x h4
            cases x <;> first | rfl | cases this
    intro p x hx
    cases hko':ko with
    | none =>
      rw [hko'] at hx
      have hm:mvOf ko ≠ some p:=by rw [hko']; simp [mvOf]
      have:=base p x hm (by cases kcs <;> exact hx)
      rw [hko'] at this
      exact this
    | some jq =>
      obtain ⟨j,q⟩:=jq
      obtain ⟨e,xs,e',xs',h1,h2,h3,h4,_⟩:=hkq j q hko'
      rw [hko',h3] at hx
      simp only [St.keptAt] at hx
      -- the place is there
      have hq0:=behind_at (bxb:=bxb) h1 (fun b c e=>hoff h2 e) hnd (by omega) hp.lt
      rw [St.at_setAt hq0] at hx
      split at hx
      · rename_i hpq
        subst hpq
        cases hx
        refine .inl ⟨.t 1 0,.own e' xs',?_,h4,rfl,fun t c h=>by cases h; rfl⟩
        cases p with
        | t t c=>simp [cplace,mvOf]
        | b b c =>
          obtain ⟨k0,cs,k1,k2⟩:=St.at_box h1
          have hnb:b ∉ bs:=hoff h2 rfl
          have hn:idxB b 0 bs = none:=by
            cases h:idxB b 0 bs with
            | none=>rfl
            | some i=>exact absurd (List.mem_of_getElem? (idxB_spec h).2) hnb
          have k0':b < nb:=k0
          simp only [cplace,if_pos k0',hn,mvOf,if_pos]
      · rename_i hpq
        have:=base p x (by rw [hko']; simp only [mvOf,ne_eq,Option.some.injEq]; exact fun e=>hpq e.symm) hx
        rw [hko'] at this
        exact this
  -- values
  have hal:∀ p,cplace bs nb ko p = none → st.ex p → alpha a w' r1 p = alpha a w r p:=by
    intro p hcp hex
    cases p with
    | t t c=>rfl
    | b b c =>
      have hlt:b < st.bx.length:=hex
      have hnb:b ∉ bs:=idxB_none (cplace_bn hcp).2.1
      refine alpha_box_eq ?_ (hβo b hlt hnb)
      simp only [r1,Rs.backB,if_pos hlt]
  have halz:∀ p z y,cplace bs nb ko p = some z → S'.at z = some y → alpha a w' r1 p = alpha ⟨(v :: (keepOf ko).map fun j=>vals.getD j undef).toArray,[]⟩ w' r' z:=by
    intro p z y hcp hz
    have mv:∀ q,mvOf ko = some q → p = q → z = .t 1 0 → alpha a w' r1 p = alpha ⟨(v :: (keepOf ko).map fun j=>vals.getD j undef).toArray,[]⟩ w' r' z:=by
      intro q hq hpq hz1
      subst hpq; subst hz1
      obtain ⟨j,q',hjq⟩:∃ j q',ko = some (j,q'):=by cases ko with | none=>cases hq | some z=>exact ⟨z.1,z.2,rfl⟩
      obtain ⟨e,xs,e',xs',h1,h2,h3,h4,h5⟩:=hkq j q' hjq
      have:q' = p:=by rw [hjq] at hq; simpa [mvOf] using hq
      subst this
      rw [h5]
      cases q' with
      | t t c=>rfl
      | b b c =>
        obtain ⟨k0,cs,k1,k2⟩:=St.at_box h1
        refine alpha_box_eq ?_ (hβo b k0 (hoff h2 rfl))
        simp only [r1,Rs.backB,if_pos k0]
    cases p with
    | t t c =>
      simp only [cplace] at hcp
      split at hcp
      · rename_i hm; cases hcp; exact mv _ hm rfl rfl
      · cases hcp
    | b b c =>
      have hcp':=hcp
      simp only [cplace] at hcp
      split at hcp
      · rename_i hlt
        split at hcp
        · rename_i i hi'
          cases hcp
          simp only [alpha]
          have h3:=(idxB_spec hi').2
          rw [Nat.sub_zero] at h3
          have:r1.β b = r'.β i:=by
            have hlt':b < st.bx.length:=hlt
            simp only [r1,Rs.backB,if_pos hlt']; exact (hβi i b h3).symm
          rw [this]
        · split at hcp
          · rename_i hm; cases hcp; exact mv _ hm rfl rfl
          · cases hcp
      · rename_i hlt
        cases hcp
        simp only [alpha]
        have:r1.β b = r'.β (bs.length + (b - nb)):=by
          have hlt':¬ b < st.bx.length:=hlt
          simp only [r1,Rs.backB,if_neg hlt']; rfl
        rw [this]
  have hexs:∀ q,((st.behind bs bxb).keptAt ko kcs).ex q ↔ st.ex q ∨ ∃ b c,q = .b b c ∧ b < nb + (bx'.length - bs.length):=by
    intro q
    cases q with
    | t t c =>
      have hg:(∃ pv,((st.behind bs bxb).keptAt ko kcs).get t = some pv) ↔ ∃ pv,st.get t = some pv:=by
        have h0:(st.behind bs bxb).get t = (st.get t).map fun u=>⟨u.sh,u.cs.map (PC.wipeB bs)⟩:=by simp only [St.get,St.behind,look_mapL]
        have h1:(∃ pv,(st.behind bs bxb).get t = some pv) ↔ ∃ pv,st.get t = some pv:=by
          rw [h0]; cases st.get t <;> simp
        rw [← h1]
        unfold St.keptAt
        split
        · rename_i j q c' l
          cases q with
          | t u d =>
            simp only [St.setAt]
            split
            · rename_i pv hpv
              rw [St.get_rep]
              split
              · rename_i e; subst e; rw [hpv]; simp
              · exact Iff.rfl
            · exact Iff.rfl
          | b b d=>exact Iff.rfl
        · exact Iff.rfl
      simp only [St.ex,hg]
      constructor
      · exact .inl
      · rintro (h | ⟨b,c,h,_⟩)
        · exact h
        · cases h
    | b b c =>
      simp only [St.ex,hL]
      constructor
      · intro h; exact .inr ⟨b,c,rfl,h⟩
      · rintro (h | ⟨b',c',h,h'⟩)
        · exact Nat.lt_of_lt_of_le h (Nat.le_add_right _ _)
        · cases h; exact h'
  have hlv:∀ q,cplace bs nb ko q = none → ((st.behind bs bxb).keptAt ko kcs).lives q → st.lives q:=by
    intro q hcq ⟨y,h1,h2⟩
    rcases hat1 q y h1 with ⟨z,_,h3,_⟩ | ⟨_,y',h4,h5⟩
    · rw [hcq] at h3; cases h3
    · refine ⟨y',h4,fun e=>h2 ?_⟩
      subst e; exact h5
  have hγ1:∀ p g,r1.γ p = some g → (∃ z,cplace bs nb ko p = some z ∧ r'.γ z = some g) ∨ (cplace bs nb ko p = none ∧ r.γ p = some g):=by
    intro p g hg
    simp only [r1,Rs.backB] at hg
    split at hg
    · exact .inl ⟨_,‹_›,hg⟩
    · exact .inr ⟨‹_›,hg⟩
  -- names of our other cells
  have hcn:∀ q,offB bs q = true → st.ex q → cplace bs nb ko q = none ∨ mvOf ko = some q:=by
    intro q h1 h2
    cases q with
    | t t c =>
      simp only [cplace]
      split
      · exact .inr ‹_›
      · exact .inl rfl
    | b b c =>
      have hlt:b < nb:=h2
      simp only [cplace,if_pos hlt]
      cases hix:idxB b 0 bs with
      | some i=>exact absurd (List.mem_of_getElem? (idxB_spec hix).2) (hoff h1 rfl)
      | none =>
        simp only
        split
        · exact .inr ‹_›
        · exact .inl rfl
  have hvq:∀ q,offB bs q = true → st.ex q → ((st.behind bs bxb).keptAt ko kcs).lives q → st.lives q ∧ alpha a w' r1 q = alpha a w r q:=by
    intro q h1 h2 h3
    rcases hcn q h1 h2 with h4 | h4
    · exact ⟨hlv q h4 h3,hal q h4 h2⟩
    · obtain ⟨j,q',hjq⟩:∃ j q',ko = some (j,q'):=by cases ko with | none=>cases h4 | some z=>exact ⟨z.1,z.2,rfl⟩
      obtain ⟨e,xs,e',xs',k1,k2,k3,k4,k5⟩:=hkq j q' hjq
      have:q' = q:=by rw [hjq] at h4; simpa [mvOf] using h4
      subst this
      refine ⟨⟨_,k1,by simp⟩,?_⟩
      cases q' with
      | t t c=>rfl
      | b b c =>
        refine alpha_box_eq ?_ (hβo b h2 (hoff k2 rfl))
        have hlt':b < st.bx.length:=h2
        simp only [r1,Rs.backB,if_pos hlt']
  have hinv:Inv P ((st.behind bs bxb).keptAt ko kcs) a w' r1:=by
    have hn:((st.behind bs bxb).keptAt ko kcs).n = st.n:=by unfold St.keptAt; split <;> first | (rw [St.setAt_n]; rfl) | rfl
    have hm:((st.behind bs bxb).keptAt ko kcs).m = st.m:=by unfold St.keptAt; split <;> first | (rw [St.setAt_m]; rfl) | rfl
    have hfx:((st.behind bs bxb).keptAt ko kcs).fx = st.fx:=by unfold St.keptAt; split <;> first | (rw [St.setAt_fx]; rfl) | rfl
    refine ⟨by rw [hn]; exact hi.sz,by rw [hm,hL]; exact Nat.le_trans hi.m (Nat.le_add_right _ _),fun t pv ht=>?_,fun b cs hbx=>?_,fun p x hx=>?_,fun p x q hx hq=>?_,fun p g hg=>?_,fun p q g h1 h2=>?_,fun p g b hg hb'=>?_,fun b b' h1 h2 he=>?_,fun g hg=>?_,hi.defers,hc.lw,by rw [hfx]; exact hi.fx⟩
    · have h0 : ∃ pv0, (st.behind bs bxb).get t = some pv0 ∧ pv0.sh = pv.sh ∧ pv0.cs.length = pv.cs.length := by
        unfold St.keptAt at ht
        split at ht
        · exact St.get_setAt ht
        · exact ⟨pv,ht,rfl,rfl⟩
      obtain ⟨pv0,k1,k2,k3⟩:=h0
      simp only [St.get,St.behind,look_mapL] at k1
      obtain ⟨u,k4,rfl⟩:=Option.map_eq_some_iff.1 k1
      obtain ⟨v0,k5,k6⟩:=hi.tm t u k4
      refine ⟨v0,k5,?_⟩
      simp only [List.length_map] at k2 k3
      rw [← k2,← k3]; exact k6
    · have hb0:b < nb + (bx'.length - bs.length):=by rw [← hL]; exact (List.getElem?_eq_some_iff.1 hbx).1
      -- the box ahead of the kept row
      have hpre:∃ cs0,(putB st.bx bs bxb)[b]? = some cs0 ∧ cs0.length = cs.length ∧ ∀ x ∈ cs,x ∈ cs0 ∨ x.boxable = true:=by
        unfold St.keptAt at hbx
        split at hbx
        · rename_i j q c' l
          cases q with
          | t u d =>
            simp only [St.setAt] at hbx
            split at hbx <;> exact ⟨cs,hbx,rfl,fun x hx=>.inl hx⟩
          | b b' d =>
            simp only [St.setAt,List.getElem?_modify] at hbx
            obtain ⟨cs0,k1,k2⟩:=Option.map_eq_some_iff.1 hbx
            refine ⟨cs0,k1,by subst k2; split <;> simp,fun x hx=>?_⟩
            subst k2
            split at hx
            · rcases List.mem_or_eq_of_mem_set hx with h7 | rfl
              · exact .inl h7
              · simp only [List.all_cons,Bool.and_eq_true,Bool.not_eq_true'] at hko
                exact .inr (by cases x <;> first | rfl | (have:=hko.1; simp [notOwn] at this))
            · exact .inl hx
        · exact ⟨cs,hbx,rfl,fun x hx=>.inl hx⟩
      obtain ⟨cs0,k1,k2,k3⟩:=hpre
      suffices h:(∃ vals e,w'.heap[r1.β b]? = some (.cells vals e (0,0)) ∧ vals.size = cs0.length ∧ ∀ x ∈ vals,x.oneCell' = true) ∧ ∀ x ∈ cs0,x.boxable = true by
        refine ⟨?_,fun x hx=>(k3 x hx).elim (h.2 x) id⟩
        obtain ⟨⟨vals',e,h1,h2,h3⟩,_⟩:=h
        exact ⟨vals',e,h1,by rw [h2,k2],h3⟩
      by_cases hlt:b < st.bx.length
      · cases hix:idxB b 0 bs with
        | some i =>
          have h3:=(idxB_spec hix).2
          rw [Nat.sub_zero] at h3
          rw [putB_at hnd (by omega) hp.lt,if_pos hlt,hix] at k1
          obtain ⟨cs',k4,k5⟩:=hbat i cs0 k1
          obtain ⟨⟨vals',e,k6,k7,k8⟩,_⟩:=hc.bx i cs' k4
          refine ⟨⟨vals',e,?_,by rw [k7,(mapO_at k5).1],k8⟩,fun x hx=>?_⟩
          · simp only [r1,Rs.backB,if_pos hlt]; rw [← hβi i b h3]; exact k6
          · obtain ⟨j,hj⟩:=List.getElem?_of_mem hx
            obtain ⟨y,_,h10⟩:=(mapO_at k5).2 j x hj
            exact (ren_boxable h10).1
        | none =>
          rw [putB_at hnd (by omega) hp.lt,if_pos hlt,hix] at k1
          obtain ⟨⟨vals',e,k6,k7,k8⟩,k9⟩:=hi.bx b cs0 k1
          refine ⟨⟨vals',e,?_,k7,k8⟩,k9⟩
          simp only [r1,Rs.backB,if_pos hlt]; rw [hβo b hlt (idxB_none hix)]; exact k6
      · rw [putB_at hnd (by omega) hp.lt,if_neg hlt] at k1
        obtain ⟨cs',k4,k5⟩:=hbat _ cs0 k1
        obtain ⟨⟨vals',e,k6,k7,k8⟩,_⟩:=hc.bx _ cs' k4
        refine ⟨⟨vals',e,?_,by rw [k7,(mapO_at k5).1],k8⟩,fun x hx=>?_⟩
        · simp only [r1,Rs.backB,if_neg hlt]; exact k6
        · obtain ⟨j,hj⟩:=List.getElem?_of_mem hx
          obtain ⟨y,_,h10⟩:=(mapO_at k5).2 j x hj
          exact (ren_boxable h10).1
    · rcases hat1 p x hx with ⟨z,y,h1,h2,h3,h4⟩ | ⟨h1,y,h2,h3⟩
      · rw [halz p z y h1 h2]
        have hg:r1.γ p = r'.γ z:=by simp only [r1,Rs.backB]; rw [show cplace bs st.bx.length ko p = some z from h1]
        rw [hg]
        exact ren_repC (r:=r') (st:=S') (r':=r1) (fun _ h=>h) hρ (hc.cell z y h2) h3
      · have hex : st.ex p := by
          cases p with
          | t t c=>obtain ⟨pv,k1,_⟩:=St.at_tmp h2; exact ⟨pv,k1⟩
          | b b c=>exact (St.at_box h2).1
        rw [hal p h1 hex]
        have hg:r1.γ p = r.γ p:=by simp only [r1,Rs.backB]; rw [show cplace bs st.bx.length ko p = none from h1]
        rw [hg]
        have hcell:=hi.cell p y h2
        have hx':RepC P w r st (alpha a w r) x (alpha a w r p) (r.γ p):=by
          subst h3
          rcases PC.wipeB_cases (bs:=bs) y with e | ⟨e,b,c,hn,_⟩
          · rw [e]; exact hcell
          · rw [e]
            exact hcell.g_none (fun _ _ e'=>by subst e'; simp [PC.names] at hn)
        refine hx'.mono hSup hSh (fun g hg=>hγo p g hg h1) (fun b hb'=>⟨by rw [hL]; exact Nat.lt_of_lt_of_le hb' (Nat.le_add_right _ _),by simp only [r1,Rs.backB,if_pos hb']⟩) (fun q hq hl=>?_) hs.ty
        subst h3
        obtain ⟨_,k2,k3⟩:=PC.wipeB_names hq
        exact hvq q k3 (hi.nm p y q h2 k2) hl
    · rcases hat1 p x hx with ⟨z,y,h1,h2,h3,h4⟩ | ⟨h1,y,h2,h3⟩
      · rw [(ren_boxable h3).2] at hq; cases hq
      · subst h3
        obtain ⟨_,k2,_⟩:=PC.wipeB_names hq
        exact (hexs q).2 (.inl (hi.nm p y q h2 k2))
    · have hsome : ∃ e xs, ((st.behind bs bxb).keptAt ko kcs).at p = some (.own e xs) := by
        -- ahead of the kept row
        have base:∀ e xs,mvOf ko ≠ some p → (st.behind bs bxb).at p = some (.own e xs) → ((st.behind bs bxb).keptAt ko kcs).at p = some (.own e xs):=by
          intro e xs hm h
          cases hko':ko with
          | none=>rw [keptAt_none]; exact h
          | some jq =>
            obtain ⟨j,q⟩:=jq
            obtain ⟨e0,xs0,_,_,h1,h2,h3,_⟩:=hkq j q hko'
            rw [h3]
            have hq:=behind_at (bxb:=bxb) h1 (fun b c e=>hoff h2 e) hnd (by omega) hp.lt
            show ((st.behind bs bxb).setAt q _).at p = _
            rw [St.at_setAt hq,if_neg (fun e'=>hm (by rw [hko',e']; rfl))]; exact h
        rcases hγ1 p g hg with ⟨z,h1,h2⟩ | ⟨h1,h2⟩
        · obtain ⟨e,xs,h3⟩:=hc.live z g h2
          by_cases hm:mvOf ko = some p
          · obtain ⟨j,q,hjq⟩:∃ j q,ko = some (j,q):=by cases ko with | none=>cases hm | some z=>exact ⟨z.1,z.2,rfl⟩
            obtain ⟨e0,xs0,e',xs',k1,k2,k3,k4,_⟩:=hkq j q hjq
            have:q = p:=by rw [hjq] at hm; simpa [mvOf] using hm
            subst this
            refine ⟨e',xs',?_⟩
            rw [hjq,k3]
            simp only [St.keptAt]
            have hq0:=behind_at (bxb:=bxb) k1 (fun b c e=>hoff k2 e) hnd (by omega) hp.lt
            rw [St.at_setAt hq0,if_pos rfl]
          · refine ⟨e,xs,base e xs hm ?_⟩
            cases p with
            | t t c=>simp only [cplace,if_neg hm] at h1; cases h1
            | b b c =>
              obtain ⟨i,rfl,hij,_⟩:=cplace_bz hm h1
              obtain ⟨h0,cs',m1,m2⟩:=St.at_box h3
              have h0:i < bx'.length:=h0
              have hbi:bxb[i]? = some (bxb[i]'(by omega)):=List.getElem?_eq_getElem _
              obtain ⟨cs1,m3,m4⟩:=hbat i _ hbi
              have m1:bx'[i]? = some cs':=m1
              rw [m1] at m3; cases m3
              obtain ⟨m5,m6⟩:=mapO_at m4
              have hcl:c < (bxb[i]'(by omega)).length:=by rw [← m5]; exact (List.getElem?_eq_some_iff.1 m2).1
              obtain ⟨y,m7,m8⟩:=m6 c _ (List.getElem?_eq_getElem hcl)
              rw [m2] at m7; cases m7
              simp only [ren,Option.some.injEq] at m8
              have hput:(putB st.bx bs bxb)[b]? = bxb[i]?:=by
                rcases hij with ⟨hlt,hj⟩ | ⟨hlt,rfl⟩
                · have hlt':b < st.bx.length:=hlt
                  rw [putB_at hnd (by omega) hp.lt,if_pos hlt',hj]
                · have hlt':¬ b < st.bx.length:=hlt
                  rw [putB_at hnd (by omega) hp.lt,if_neg hlt']
              simp only [St.at,St.behind,hput,hbi,Option.bind_some,List.getElem?_eq_getElem hcl,m8]
        · obtain ⟨e,xs,h3⟩:=hi.live p g h2
          have hm:mvOf ko ≠ some p:=by
            cases p with
            | t t c=>exact cplace_tn h1
            | b b c=>exact (cplace_bn h1).2.2
          refine ⟨e,xs,base e xs hm ?_⟩
          cases p with
          | t t c =>
            obtain ⟨pv,m1,m2⟩:=St.at_tmp h3
            simp only [St.at,St.get,St.behind,look_mapL,show look st.tm t = some pv from m1,Option.map_some,Option.bind_some,List.getElem?_map,m2]
            rfl
          | b b c =>
            obtain ⟨m0,cs,m1,m2⟩:=St.at_box h3
            have hn:idxB b 0 bs = none:=(cplace_bn h1).2.1
            simp only [St.at,St.behind]
            rw [putB_at hnd (by omega) hp.lt,if_pos m0,hn]
            simp only [m1,Option.bind_some,m2]
      exact hsome
    · rcases hγ1 p g h1 with ⟨z,k1,k2⟩ | ⟨k1,k2⟩ <;> rcases hγ1 q g h2 with ⟨z',k1',k2'⟩ | ⟨k1',k2'⟩
      · have:=hc.inj z z' g k2 k2'
        subst this
        exact cplace_inj k1 k1'
      · rcases hXn g (.inl ⟨z,k2⟩) with h3 | h3
        · exact absurd ⟨q,k2',k1'⟩ (hX g h3).2.2
        · have:=hi.X_lt (.inl ⟨q,k2'⟩); omega
      · rcases hXn g (.inl ⟨z',k2'⟩) with h3 | h3
        · exact absurd ⟨p,k2,k1⟩ (hX g h3).2.2
        · have:=hi.X_lt (.inl ⟨p,k2⟩); omega
      · exact hi.inj p q g k2 k2'
    · rw [hL] at hb'
      have hβ1:(∃ i,i < bx'.length ∧ r1.β b = r'.β i) ∨ (b < nb ∧ b ∉ bs ∧ r1.β b = r.β b):=by
        by_cases hlt:b < st.bx.length
        · cases hix:idxB b 0 bs with
          | some i =>
            have h3:=(idxB_spec hix).2
            rw [Nat.sub_zero] at h3
            refine .inl ⟨i,Nat.lt_of_lt_of_le (List.getElem?_eq_some_iff.1 h3).1 hle,?_⟩
            simp only [r1,Rs.backB,if_pos hlt]; exact (hβi i b h3).symm
          | none=>exact .inr ⟨hlt,idxB_none hix,by simp only [r1,Rs.backB,if_pos hlt]⟩
        · refine .inl ⟨bs.length + (b - st.bx.length),by simp only [nb] at hb'; omega,by simp only [r1,Rs.backB,if_neg hlt]⟩
      rcases hβ1 with ⟨i,h1,h2⟩ | ⟨h1,h2,h3⟩
      · rw [h2]
        rcases hγ1 p g hg with ⟨z,k1,k2⟩ | ⟨k1,k2⟩
        · exact hc.exb z g i k2 h1
        · intro e
          rcases hXn g (.inr ⟨i,h1,e⟩) with h3 | h3
          · exact (hX g h3).2.2 ⟨p,k2,k1⟩
          · have:=hi.X_lt (.inl ⟨p,k2⟩); omega
      · rw [h3]
        rcases hγ1 p g hg with ⟨z,k1,k2⟩ | ⟨k1,k2⟩
        · intro e
          rcases hXn g (.inl ⟨z,k2⟩) with h4 | h4
          · exact (hX g h4).2.1 ⟨b,h1,h2,e⟩
          · have:=hi.X_lt (.inr ⟨b,h1,e⟩); omega
        · exact hi.exb p g b k2 h1
    · rw [hL] at h1 h2
      have hβ1:∀ b,b < nb + (bx'.length - bs.length) → (∃ i,i < bx'.length ∧ r1.β b = r'.β i ∧ E.backB bs st.bx.length i = some b) ∨ (b < nb ∧ b ∉ bs ∧ r1.β b = r.β b):=by
        intro b hb'
        by_cases hlt:b < st.bx.length
        · cases hix:idxB b 0 bs with
          | some i =>
            have h3:=(idxB_spec hix).2
            rw [Nat.sub_zero] at h3
            refine .inl ⟨i,Nat.lt_of_lt_of_le (List.getElem?_eq_some_iff.1 h3).1 hle,?_,?_⟩
            · simp only [r1,Rs.backB,if_pos hlt]; exact (hβi i b h3).symm
            · simp only [E.backB,h3]
          | none=>exact .inr ⟨hlt,idxB_none hix,by simp only [r1,Rs.backB,if_pos hlt]⟩
        · refine .inl ⟨bs.length + (b - st.bx.length),by simp only [nb] at hb'; omega,by simp only [r1,Rs.backB,if_neg hlt],?_⟩
          have:bs[bs.length + (b - st.bx.length)]? = none:=List.getElem?_eq_none (by omega)
          simp only [E.backB,this]
          congr 1; omega
      rcases hβ1 b h1 with ⟨i,k1,k2,k3⟩ | ⟨k1,k2,k3⟩ <;> rcases hβ1 b' h2 with ⟨i',k1',k2',k3'⟩ | ⟨k1',k2',k3'⟩
      · rw [k2,k2'] at he
        have:=hc.bb i i' k1 k1' he
        subst this
        rw [k3] at k3'; cases k3'; rfl
      · rw [k2,k3'] at he
        rcases hXn _ (.inr ⟨i,k1,he⟩) with h4 | h4
        · exact absurd ⟨b',k1',k2',rfl⟩ (hX _ h4).2.1
        · have:=hi.X_lt (.inr ⟨b',k1',rfl⟩); omega
      · rw [k3,k2'] at he
        rcases hXn _ (.inr ⟨i',k1',he.symm⟩) with h4 | h4
        · exact absurd ⟨b,k1,k2,rfl⟩ (hX _ h4).2.1
        · have:=hi.X_lt (.inr ⟨b,k1,rfl⟩); omega
      · rw [k3,k3'] at he
        exact hi.bb b b' k1 k1' he
    · obtain ⟨h1,h2,h3⟩:=hc.sh g hg
      have hno:¬ (∃ p,r.γ p = some g ∧ cplace bs nb ko p = none) ∧ ¬ (∃ b,b < nb ∧ b ∉ bs ∧ r.β b = g):=by
        rcases hSn g hg with h4 | h4 | h4
        · exact ⟨fun ⟨p,h5,_⟩=>(hi.sh g h4).2.1 p h5,fun ⟨b,h5,_,h6⟩=>(hi.sh g h4).2.2 b h5 h6⟩
        · exact ⟨(hX g h4).2.2,(hX g h4).2.1⟩
        · exact ⟨fun ⟨p,h5,_⟩=>by have:=hi.X_lt (.inl ⟨p,h5⟩); omega,fun ⟨b,h5,_,h6⟩=>by have:=hi.X_lt (.inr ⟨b,h5,h6⟩); omega⟩
      refine ⟨h1,fun p hp'=>?_,fun b hb'=>?_⟩
      · rcases hγ1 p g hp' with ⟨z,_,k2⟩ | ⟨k1,k2⟩
        · exact h2 z k2
        · exact hno.1 ⟨p,k2,k1⟩
      · rw [hL] at hb'
        by_cases hlt:b < st.bx.length
        · simp only [r1,Rs.backB,if_pos hlt]
          cases hix:idxB b 0 bs with
          | some i =>
            have h4:=(idxB_spec hix).2
            rw [Nat.sub_zero] at h4
            rw [← hβi i b h4]
            exact h3 i (Nat.lt_of_lt_of_le (List.getElem?_eq_some_iff.1 h4).1 hle)
          | none=>exact fun e=>hno.2 ⟨b,hlt,idxB_none hix,e⟩
        · simp only [r1,Rs.backB,if_neg hlt]
          refine h3 _ ?_
          show bs.length + (b - st.bx.length) < bx'.length
          simp only [nb] at hb'; omega
  refine ⟨hinv,⟨hs.os,hs.tape,hs.output,hs.size,fun g hg hx=>?_,hSup,fun g hg=>?_,fun g hg=>?_,fun b hb'=>?_,rfl,hs.ty⟩,hρ,fun c g hg=>⟨?_,?_⟩⟩
  · exact hold g hg fun h=>hx (hX g h).1
  · rcases hSn g hg with h | h | h
    · exact .inl h
    · exact .inr (.inl (hX g h).1)
    · exact .inr (.inr h)
  · rcases hg with ⟨p,hp'⟩ | ⟨b,hb',he⟩
    · rcases hγ1 p g hp' with ⟨z,_,k2⟩ | ⟨_,k2⟩
      · rcases hXn g (.inl ⟨z,k2⟩) with h | h
        · exact .inl (hX g h).1
        · exact .inr h
      · exact .inl (.inl ⟨p,k2⟩)
    · rw [hL] at hb'
      by_cases hlt:b < st.bx.length
      · refine .inl (.inr ⟨b,hlt,?_⟩)
        simpa only [r1,Rs.backB,if_pos hlt] using he
      · have:r'.X bx'.length g:=.inr ⟨bs.length + (b - st.bx.length),by simp only [nb] at hb'; omega,by simpa only [r1,Rs.backB,if_neg hlt] using he⟩
        rcases hXn g this with h | h
        · exact .inl (hX g h).1
        · exact .inr h
  · simp only [Rs.backB,if_pos hb']
  · rcases hXn g (.inl ⟨_,hg⟩) with h | h
    · exact .inl (hX g h).1
    · exact .inr h
  · rintro (⟨p,hp'⟩ | ⟨b,hb',he⟩)
    · rcases hγ1 p g hp' with ⟨z,k1,k2⟩ | ⟨k1,k2⟩
      · have:=hc.inj _ _ g k2 hg
        subst this
        cases p with
        | t t c =>
          simp only [cplace] at k1
          split at k1 <;> simp at k1
        | b b c =>
          simp only [cplace] at k1
          split at k1
          · split at k1
            · cases k1
            · split at k1 <;> simp at k1
          · cases k1
      · rcases hXn g (.inl ⟨_,hg⟩) with h3 | h3
        · exact (hX g h3).2.2 ⟨p,k2,k1⟩
        · have:=hi.X_lt (.inl ⟨p,k2⟩); omega
    · rw [hL] at hb'
      by_cases hlt:b < st.bx.length
      · simp only [r1,Rs.backB,if_pos hlt] at he
        cases hix:idxB b 0 bs with
        | some i =>
          have h4:=(idxB_spec hix).2
          rw [Nat.sub_zero] at h4
          rw [← hβi i b h4] at he
          exact hc.exb _ g i hg (Nat.lt_of_lt_of_le (List.getElem?_eq_some_iff.1 h4).1 hle) he
        | none =>
          rcases hXn g (.inl ⟨_,hg⟩) with h3 | h3
          · exact (hX g h3).2.1 ⟨b,hlt,idxB_none hix,he⟩
          · have:=hi.X_lt (.inr ⟨b,hlt,he⟩); omega
      · simp only [r1,Rs.backB,if_neg hlt] at he
        exact hc.exb _ g _ hg (by show bs.length + (b - st.bx.length) < bx'.length; simp only [nb] at hb'; omega) he
theorem St.keptAt_m {bs:List Nat} {ko:Option (Nat × Place)} {kcs:List PC} {bxb:List (List PC)}:((st.behind bs bxb).keptAt ko kcs).m = st.m ∧ ((st.behind bs bxb).keptAt ko kcs).n = st.n ∧ ((st.behind bs bxb).keptAt ko kcs).fx = st.fx:=by
  unfold St.keptAt
  split
  · exact ⟨by rw [St.setAt_m]; rfl,by rw [St.setAt_n]; rfl,by rw [St.setAt_fx]; rfl⟩
  · exact ⟨rfl,rfl,rfl⟩
/-- What a callee does leaves the boxes that it is not handed as they are. -/
theorem toB_frame {st : St} {a : Act} {w : World} {r : Rs} (hi : Inv P st a w r) {bs : List Nat} {ko : Option (Nat × Place)} {pvs args : List PV} {ns : List Nat} {bxc : List (List PC)} {vals : Array Value} {w' : World} {r' : Rs} {n : Nat} (hp : PassB st bs ko pvs args ns bxc)
    (hs:Step bxc.length w (r.toB bs ko vals) bxc.length w' r' n) {b:Nat} (hb:(!inB b bs) = true) (hlt:b < st.bx.length):w'.heap[r.β b]? = w.heap[r.β b]?:=by
  refine hs.block _ (hi.X_lt (.inr ⟨b,hlt,rfl⟩)) ?_
  rintro (⟨p,hpg⟩ | ⟨i,hib,he⟩)
  · rcases Rs.toB_γ hpg with ⟨j,q,_,_,k1⟩ | ⟨i,b',c,_,_,k2⟩
    · exact hi.exb q _ b k1 hlt rfl
    · exact hi.exb _ _ b k2 hlt rfl
  · have hib':i < bs.length:=by rw [hp.len]; exact hib
    have e1:bs[i]? = some (bs.getD i 0):=by simp [List.getD_eq_getElem?_getD,hib']
    have hm:=List.mem_of_getElem? e1
    have:=hi.bb _ b (hp.lt _ hm) hlt he
    rw [this] at hm
    rw [inB_mem hm] at hb
    cases hb
/-- The same as OpE; boxes that are told stay as they are in the heap. -/
def OpEF (P:Program) (o:Oper) (st st':St) (F:Nat → Bool):Prop :=
  ∀ a w r,Inv P st a w r → ∀ (K:Act → World → Prop) (Q:Exit → Act → World → Prop),
    (∀ v w' r',st'.m = st.m → Inv P st' (a.put o.dst v) w' r' → Step st.bx.length w r st.bx.length w' r' st'.bx.length → (∀ b,F b = true → b < st.bx.length → w'.heap[r.β b]? = w.heap[r.β b]?) → K (a.put o.dst v) w') → o.wp P a w K Q
theorem OpEF.e {o:Oper} {st st':St} {F:Nat → Bool} (h:OpEF P o st st' F):OpE P o st st':=fun a w r hi K Q hK=>h a w r hi K Q fun v w' r' h1 h2 h3 _=>hK v w' r' h1 h2 h3
theorem OpE.f {o:Oper} {st st':St} (h:OpE P o st st'):OpEF P o st st' (fun _=>false):=fun a w r hi K Q hK=>h a w r hi K Q fun v w' r' h1 h2 h3=>hK v w' r' h1 h2 h3 (fun b hb=>by cases hb)
/-- A call that writes boxes of ours, or a row. -/
theorem OpEF.callB {o : Oper} {x : Operand} {as : Array Operand} {ts : Array TypeId} {c : PC} {f : FuncId} {caps : List PC} {pvs args : List PV} {ns bs : List Nat} {ko : Option (Nat × Place)} {bxc bx' bxb : List (List PC)} {res : PV} {rcs kcs : List PC}
    (ho:o.op = .call { callee:=.value x,args:=as,argTypes:=ts }) (hx:st.use x = some ⟨.one,[c]⟩) (hc:calleeOf c = some (f,caps)) (hf:okFn P f = true) (hu:as.toList.map st.use = pvs.map some)
    (hp:PassB st bs ko (pvs ++ ones caps) args ns bxc) (hF:FnG P f args (keepOf ko) bxc res kcs bx') (hle:bs.length ≤ bx'.length) (hk:kcs.length = (keepOf ko).length) (hko:kcs.all (fun c=>!notOwn c) = true)
    (hb:mapO (mapO (ren (E.backB bs st.bx.length) 4)) bx' = some bxb) (hr:mapO (ren (E.backB bs st.bx.length) 4) res.cs = some rcs) :
    (∀ d,o.dst = some d → st.okd d → OpEF P o st (((st.behind bs bxb).keptAt ko kcs).assign d ⟨res.sh,rcs⟩) fun b=>!inB b bs) ∧ (o.dst = none → OpEF P o st ((st.behind bs bxb).keptAt ko kcs) fun b=>!inB b bs):=by
  have key : ∀ a w r, Inv P st a w r → ∀ (K : Act → World → Prop) (Q : Exit → Act → World → Prop),
      (∀ v w' r1 r',Inv P ((st.behind bs bxb).keptAt ko kcs) a w' r1 → Step st.bx.length w r st.bx.length w' r1 ((st.behind bs bxb).keptAt ko kcs).bx.length → Inv P ⟨(keepOf ko).length + 1,enum 0 (res :: kept kcs),bx',0,[]⟩ ⟨(v :: (keepOf ko).map fun j=>((as.toList.map a.eval ++ (match a.eval x with | .func _ _ vs=>vs.toList | _=>[])).toArray).getD j undef).toArray,[]⟩ w' r' →
        (∀ j,r'.Sh j → r1.Sh j) → (∀ j,r1.Sh j → r'.Sh j) → (∀ b b',b < bx'.length → E.backB bs st.bx.length b = some b' → b' < ((st.behind bs bxb).keptAt ko kcs).bx.length ∧ r1.β b' = r'.β b) → (∀ c g,r'.γ (.t 0 c) = some g → (r.X st.bx.length g ∨ w.heap.size ≤ g) ∧ ¬ r1.X ((st.behind bs bxb).keptAt ko kcs).bx.length g) → (∀ b,(!inB b bs) = true → b < st.bx.length → w'.heap[r.β b]? = w.heap[r.β b]?) → K (a.put o.dst v) w') → o.wp P a w K Q:=by
    intro a w r hi K Q hK
    obtain ⟨vs,hv,hn,hrc⟩:=hi.calleeUse hx hc
    obtain ⟨h1,h2⟩:=frameB hi hu hn hrc hp
    have hcalls:=hF _ w _ h1
    unfold Oper.wp
    rw [run_callV ho hv hf,Oper.upon_enter]
    refine hcalls.mono fun e w' ⟨v,r',he,hinv,hstep⟩=>?_
    subst he
    obtain ⟨k1,k2,k3,k4⟩:=hi.behind hp h2 hinv hstep hle hk hko hb
    refine hK v w' _ r' k1 k2 ?_ (fun _ h=>h) (fun _ h=>h) k3 k4 (fun b hb hlt=>toB_frame hi hp hstep hb hlt)
    rw [hv]
    exact hinv
  refine ⟨fun d hd hod=>?_,fun hd=>?_⟩
  · intro a w r hi K Q hK
    refine key a w r hi K Q fun v w' r1 r' h1 h2 h3 hS1 hS2 h4 h5 hfrm=>?_
    obtain ⟨hrl,hrat⟩:=mapO_at hr
    obtain ⟨v',hv',hfit⟩:=h3.tm 0 res (by simp [St.get,enum,look])
    have:v' = v:=by simpa using hv'.symm
    subst this
    have hok:((st.behind bs bxb).keptAt ko kcs).okd d:=by
      obtain ⟨_,e1,e2⟩:=St.keptAt_m (st:=st) (bs:=bs) (ko:=ko) (kcs:=kcs) (bxb:=bxb)
      exact ⟨by rw [e1]; exact hod.1,by rw [e2]; exact hod.2⟩
    have h6:=h1.assign (t:=d) (v:=v') (pv:=⟨res.sh,rcs⟩) (γc:=fun c=>if c < res.cs.length then r'.γ (.t 0 c) else none) hok (by rw [← hrl]; exact hfit) (fun c y hy=>?_) (fun c y q hy hq=>?_) (fun c g hg=>?_) (fun c c' g hg hg'=>?_)
    · rw [hd] at hK ⊢
      have hst:Step st.bx.length w r st.bx.length w' ((r1.dropT d).setT d fun c=>if c < res.cs.length then r'.γ (.t 0 c) else none) ((st.behind bs bxb).keptAt ko kcs).bx.length:=by
        refine ⟨h2.os,h2.tape,h2.output,h2.size,h2.block,h2.sh,h2.shNew,fun g hg=>?_,h2.β,h2.κ,h2.ty⟩
        rcases hg with ⟨p,hp'⟩ | hb'
        · cases p with
          | t k c =>
            simp only [Rs.setT,Rs.dropT] at hp'
            split at hp'
            · split at hp'
              · exact (h5 c g hp').1
              · cases hp'
            · split at hp'
              · cases hp'
              · exact h2.x g (.inl ⟨_,hp'⟩)
          | b b c =>
            simp only [Rs.setT,Rs.dropT,Place.isT] at hp'
            exact h2.x g (.inl ⟨.b b c,by simpa using hp'⟩)
        · exact h2.x g (.inr hb')
      exact hK v' w' _ (by rw [St.assign_m]; exact St.keptAt_m.1) h6 (by rw [St.assign_bx]; exact hst) hfrm
    · obtain ⟨y0,h7,h8⟩:=hrat c y hy
      refine ⟨fun q hq=>(by rw [(ren_boxable h8).2] at hq; cases hq),?_⟩
      have hlt:c < res.cs.length:=(List.getElem?_eq_some_iff.1 h7).1
      simp only [hlt,if_true]
      have h9:=h3.cell (.t 0 c) y0 (by simp [St.at,St.get,enum,look,h7])
      have ha:alpha ⟨(v' :: (keepOf ko).map fun j=>((as.toList.map a.eval ++ (match a.eval x with | .func _ _ vs=>vs.toList | _=>[])).toArray).getD j undef).toArray,[]⟩ w' r' (.t 0 c) = (flat v').getD c undef:=rfl
      rw [ha] at h9
      exact ren_repC (st':=(st.behind bs bxb).keptAt ko kcs) hS1 h4 h9 h8
    · obtain ⟨y0,h7,h8⟩:=hrat c y hy
      rw [(ren_boxable h8).2] at hq; cases hq
    · split at hg
      · rename_i hlt
        obtain ⟨e,xs,hx'⟩:=h3.live _ g hg
        simp only [St.at,St.get,enum,look,if_true,Option.bind_some] at hx'
        refine ⟨⟨e,xs,?_⟩,fun hsn=>(h3.sh g (hS2 g hsn)).2.1 _ hg,fun hX=>(h5 c g hg).2 ?_⟩
        · obtain ⟨y0,h7,h8⟩:=hrat c _ (List.getElem?_eq_getElem (by rw [← hrl]; exact hlt))
          rw [hx'] at h7
          cases h7
          simp only [ren,Option.some.injEq] at h8
          rw [List.getElem?_eq_getElem (by rw [← hrl]; exact hlt),← h8]
        · rcases hX with ⟨p,hp'⟩ | hb'
          · simp only [Rs.dropT] at hp'
            split at hp'
            · cases hp'
            · exact .inl ⟨p,hp'⟩
          · exact .inr hb'
      · cases hg
    · split at hg <;> split at hg' <;> try (first | (cases hg; done) | (cases hg'; done))
      have:=h3.inj _ _ g hg hg'
      cases this; rfl
  · intro a w r hi K Q hK
    refine key a w r hi K Q fun v w' r1 r' h1 h2 h3 hS1 hS2 h4 h5 hfrm=>?_
    rw [hd] at hK ⊢
    exact hK v w' r1 St.keptAt_m.1 h1 h2 hfrm
end
end Go.Proofs.YtoclajfeeebbbadGreatDoor.E
