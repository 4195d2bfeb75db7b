/- The engine, part WD: regions whose order is drawn, with operations that change the state among those that float. Plain lemmas; no program. -/
import Derived.Test.YtoclajfeeebbbadGreatDoorEng14
set_option linter.unusedVariables false
set_option linter.unusedSectionVars false
set_option linter.unusedSimpArgs false
namespace Go.Proofs.YtoclajfeeebbbadGreatDoor.E
open Go.RowKit
variable [LaidFacts]
/-- A cell that stands whatever another operation does. -/
def PC.stay:PC → Bool
  | .sc _ | .sl .. | .cel .. | .er | .nl | .ref .. | .opt ..=>true
  | .fn _ caps=>caps.all fun x=>match x with
    | .sc _ | .sl .. | .cel .. | .er | .nl | .ref ..=>true
    | _=>false
  | _=>false
/-- A cell that stands at an operation: whatever it does, or because it names a temporary that the operation does not turn. -/
def keepsC (s s':St) (d:Option Nat) (x:PC):Prop:=x.stay = true ∨ ∃ t c,x.names = some (.t t c) ∧ d ≠ some t ∧ s'.get t = s.get t ∧ ∃ pv,s.get t = some pv
/-- The state of a part, and of the whole, behind an operation on the part. -/
structure Over (s st s' st':St) (d:Option Nat) (F:Nat → Bool):Prop where
  n:st'.n = s'.n
  bx:st'.bx = s'.bx
  m:st'.m = s'.m
  fx:st'.fx = s'.fx
  get:∀ t pv,st'.get t = some pv → s'.get t = some pv ∨ (s'.get t = none ∧ st.get t = some pv ∧ d ≠ some t ∧ ∀ x,x ∈ pv.cs → keepsC s s' d x ∨ ((∃ e xs,x = .own e xs) ∧ s.get t = none) ∨ ∃ b c,x.names = some (.b b c) ∧ F b = true ∧ s'.bx[b]? = s.bx[b]?)
  got:∀ t pv,s'.get t = some pv → st'.get t = some pv
  len:st.bx.length ≤ s'.bx.length
section
variable {P:Program} {st:St} {a:Act} {w:World} {r:Rs} {o:Oper}
theorem stay_spec {x:PC} (h:x.stay = true):x.names = none ∧ (∀ e xs,x ≠ .own e xs) ∧ x ≠ .dead:=by
  cases x <;> simp only [PC.stay] at h <;> first
    | (cases h; done)
    | exact ⟨rfl,(fun _ _ h=>by cases h),(fun h=>by cases h)⟩
/-- The rows of an operation on a part, and those of the temporaries that it does not know. -/
def Rs.both (r' r:Rs) (s' st':St):Rs:={ r' with γ:=fun p=>match p with
  | .t t c=>if (s'.get t).isSome then r'.γ (.t t c) else if (st'.get t).isSome then r.γ (.t t c) else none
  | p=>r'.γ p }
theorem OpEF.over {s s' st':St} {F:Nat → Bool} (h:OpEF P o s s' F) (hs:Sub s st) (ho:Over s st s' st' o.dst F):OpE P o st st':=by
  intro a w r hi K Q hK
  refine h a w _ (hi.sub hs) K Q fun v w' r' hm hinv hstep hfrm=>?_
  have hXs:∀ g,(r.sub s).X s.bx.length g → r.X st.bx.length g:=by
    intro g hg
    rcases hg with ⟨p,hp⟩ | ⟨b,hb,he⟩
    · exact .inl ⟨p,Rs.sub_some hp⟩
    · exact .inr ⟨b,by rw [← hs.bx]; exact hb,he⟩
  have hget':∀ t,(∃ pv,s'.get t = some pv) → st'.get t = s'.get t:=fun t ⟨pv,hpv⟩=>by rw [ho.got t pv hpv,hpv]
  have hexs:∀ q,s'.ex q → st'.ex q ∧ st'.at q = s'.at q:=by
    intro q hq
    cases q with
    | t t c =>
      obtain ⟨pv,hq⟩:=hq
      exact ⟨⟨pv,ho.got t pv hq⟩,by simp only [St.at,ho.got t pv hq,hq]⟩
    | b b c=>exact ⟨by simp only [St.ex,ho.bx]; exact hq,by simp only [St.at,ho.bx]⟩
  have hexa:∀ q x,s'.at q = some x → s'.ex q:=by
    intro q x hx
    cases q with
    | t t c=>obtain ⟨pv,h1,_⟩:=St.at_tmp hx; exact ⟨pv,h1⟩
    | b b c=>exact (St.at_box hx).1
  -- a place of the whole: of the part's state behind, or kept
  have hat:∀ p x,st'.at p = some x → s'.at p = some x ∨ (∃ t c pv,p = .t t c ∧ s'.get t = none ∧ st.get t = some pv ∧ o.dst ≠ some t ∧ pv.cs[c]? = some x ∧ (keepsC s s' o.dst x ∨ ((∃ e xs,x = .own e xs) ∧ s.get t = none) ∨ ∃ b c,x.names = some (.b b c) ∧ F b = true ∧ s'.bx[b]? = s.bx[b]?)):=by
    intro p x hx
    cases p with
    | t t c =>
      obtain ⟨pv,h1,h2⟩:=St.at_tmp hx
      rcases ho.get t pv h1 with h3 | ⟨h3,h4,h5,h6⟩
      · exact .inl (by simp [St.at,h3,h2])
      · exact .inr ⟨t,c,pv,rfl,h3,h4,h5,h2,h6 x (List.mem_of_getElem? h2)⟩
    | b b c=>exact .inl (by simpa only [St.at,ho.bx] using hx)
  have htmp:∀ t,o.dst ≠ some t → ∀ u,a.tmps[t]? = some u → ((a.put o.dst v).tmps)[t]? = some u:=by
    intro t ht u hu
    cases hd:o.dst with
    | none=>simpa [Act.put,hd] using hu
    | some d =>
      have:d ≠ t:=fun e=>ht (by rw [hd,e])
      simp only [Act.put,hd]
      rw [Array.getElem?_setIfInBounds_ne this]; exact hu
  have hnoγ:∀ t c,s'.get t = none → r'.γ (.t t c) = none:=by
    intro t c hn
    cases hg:r'.γ (.t t c) with
    | none=>rfl
    | some g =>
      obtain ⟨e,xs,hx⟩:=hinv.live _ g hg
      obtain ⟨pv,h1,_⟩:=St.at_tmp hx
      rw [hn] at h1; cases h1
  have hSw:∀ g,r.Sh g → w'.heap[g]? = w.heap[g]?:=fun g hg=>hstep.block g (hi.sh g hg).1 fun hX=>hi.not_sh (hXs g hX) hg
  -- the rows of temporaries that the operation does not know
  have hin:∀ p,s'.ex p → (Rs.both r' r s' st').γ p = r'.γ p:=by
    intro p hp
    cases p with
    | t t c=>obtain ⟨pv,hp⟩:=hp; simp [Rs.both,hp]
    | b b c=>rfl
  have hkeptγ:∀ t c pv,s'.get t = none → st'.get t = some pv → (Rs.both r' r s' st').γ (.t t c) = r.γ (.t t c):=by
    intro t c pv h1 h2
    simp [Rs.both,h1,h2]
  have hsplit:∀ p g,(Rs.both r' r s' st').γ p = some g → r'.γ p = some g ∨ ∃ t c pv,p = .t t c ∧ s'.get t = none ∧ st'.get t = some pv ∧ r.γ (.t t c) = some g:=by
    intro p g hp
    cases p with
    | t t c =>
      simp only [Rs.both] at hp
      split at hp
      · exact .inl hp
      · rename_i h1
        split at hp
        · rename_i h2
          obtain ⟨pv,h2⟩:=Option.isSome_iff_exists.1 h2
          exact .inr ⟨t,c,pv,rfl,by simpa using h1,h2,hp⟩
        · cases hp
    | b b c=>exact .inl hp
  have hold:∀ t c pv g,s'.get t = none → st'.get t = some pv → r.γ (.t t c) = some g → s.get t = none ∧ st.get t = some pv ∧ ∃ e xs,st'.at (.t t c) = some (.own e xs):=by
    intro t c pv g h1 h2 h3
    obtain ⟨e,xs,hx⟩:=hi.live _ g h3
    obtain ⟨pv0,h4,h5⟩:=St.at_tmp hx
    rcases ho.get t pv h2 with h6 | ⟨_,h7,_,h8⟩
    · rw [h1] at h6; cases h6
    · rw [h7] at h4; cases h4
      rcases h8 _ (List.mem_of_getElem? h5) with h9 | h9 | ⟨b,c',h9,_⟩
      · rcases h9 with h9 | ⟨t',c',h9,_⟩
        · simp [PC.stay] at h9
        · simp [PC.names] at h9
      · exact ⟨h9.2,h7,e,xs,by simp [St.at,h2,h5]⟩
      · simp [PC.names] at h9
  have hfar:∀ t c pv g,s'.get t = none → st'.get t = some pv → r.γ (.t t c) = some g → g < w.heap.size ∧ ¬ (r.sub s).X s.bx.length g ∧ ¬ r'.X s'.bx.length g ∧ ¬ r'.Sh g ∧ w'.heap[g]? = w.heap[g]?:=by
    intro t c pv g h1 h2 h3
    obtain ⟨h4,_,_⟩:=hold t c pv g h1 h2 h3
    have hlt:g < w.heap.size:=hi.X_lt (.inl ⟨_,h3⟩)
    have hnX:¬ (r.sub s).X s.bx.length g:=by
      rintro (⟨p,hp⟩ | ⟨b,hb,he⟩)
      · have h5:=hi.inj _ _ g (Rs.sub_some hp) h3
        subst h5
        simp [Rs.sub,h4] at hp
      · exact hi.exb _ g b h3 (by rw [← hs.bx]; exact hb) he
    refine ⟨hlt,hnX,fun h=>?_,fun h=>?_,hstep.block g hlt hnX⟩
    · rcases hstep.x g h with h5 | h5
      · exact hnX h5
      · omega
    · rcases hstep.shNew g h with h5 | h5 | h5
      · exact (hi.sh g h5).2.1 _ h3
      · exact hnX h5
      · omega
  refine hK v w' (Rs.both r' r s' st') (by rw [ho.m,hm,hs.m]) ⟨by rw [ho.n]; exact hinv.sz,by rw [ho.m,ho.bx]; exact hinv.m,fun t pv ht=>?_,by rw [ho.bx]; exact hinv.bx,fun p x hx=>?_,fun p x q hx hq=>?_,fun p g hg=>?_,fun p q g hp hq=>?_,fun p g b hg hb=>?_,by rw [ho.bx]; exact hinv.bb,fun g hg=>?_,hinv.defers,hinv.lw,by rw [ho.fx]; exact hinv.fx⟩ ?_
  · rcases ho.get t pv ht with h1 | ⟨_,h2,h3,_⟩
    · exact hinv.tm t pv h1
    · obtain ⟨u,h4,h5⟩:=hi.tm t pv h2
      exact ⟨u,htmp t h3 u h4,h5⟩
  · rcases hat p x hx with h1 | ⟨t,c,pv,rfl,h1,h2,h3,h4,h5⟩
    · rw [hin p (hexa p x h1)]
      refine (hinv.cell p x h1).mono (fun _ h=>h) (fun _ _=>rfl) (fun _ _=>rfl) (fun b hb=>⟨by rw [ho.bx]; exact hb,rfl⟩) fun q hq hl=>⟨?_,rfl⟩
      obtain ⟨y,hy,hd⟩:=hl
      exact ⟨y,by rw [← (hexs q (hinv.nm p x q h1 hq)).2]; exact hy,hd⟩
    · obtain ⟨pv',g0,_⟩:=St.at_tmp hx
      rw [hkeptγ t c pv' h1 g0]
      have hcell:=hi.cell (.t t c) x (by simp [St.at,h2,h4])
      obtain ⟨u,h6,h7⟩:=hi.tm t pv h2
      have ha:alpha (a.put o.dst v) w' (Rs.both r' r s' st') (.t t c) = alpha a w r (.t t c):=by
        have e1:(a.put o.dst v).tmps[t]? = some u:=htmp t h3 u h6
        simp only [alpha,Array.getD_eq_getD_getElem?,e1,h6]
      rw [ha]
      refine RepC.mono (hty:=hstep.ty) hcell (fun g hg=>hstep.sh g hg) hSw (fun g hg=>(hfar t c pv' g h1 g0 hg).2.2.2.2) (fun b hb=>⟨by rw [ho.bx]; exact Nat.lt_of_lt_of_le hb ho.len,?_⟩) (fun q hq hl=>by
        rcases h5 with h5 | ⟨⟨e,xs,h5⟩,_⟩ | ⟨b,c',h5,hFb,hbb⟩
        rotate_left 2
        · rw [hq] at h5
          obtain rfl:=Option.some.inj h5
          have hbl:b < st.bx.length:=hi.nm (.t t c) x (.b b c') (by simp [St.at,h2,h4]) hq
          have hβ:r'.β b = r.β b:=hstep.β b (by rw [hs.bx]; exact hbl)
          have hblk:w'.heap[r.β b]? = w.heap[r.β b]?:=hfrm b hFb (by rw [hs.bx]; exact hbl)
          refine ⟨?_,?_⟩
          · obtain ⟨y,hy,hd⟩:=hl
            refine ⟨y,?_,hd⟩
            simp only [St.at,ho.bx,hbb,hs.bx] at hy
            simp only [St.at]
            exact hy
          · show (w'.cell? ⟨r'.β b,c',none⟩).getD undef = (w.cell? ⟨r.β b,c',none⟩).getD undef
            rw [hβ,World.cell?_of_block hblk]
        · rcases h5 with h5 | ⟨t',c',h5,h8,h9,pv',h10⟩
          · rw [(stay_spec h5).1] at hq; cases hq
          · rw [hq] at h5
            obtain rfl:=Option.some.inj h5
            have g1:st'.get t' = some pv':=ho.got t' pv' (by rw [h9]; exact h10)
            have g2:st.get t' = some pv':=hs.get t' pv' h10
            refine ⟨?_,?_⟩
            · obtain ⟨y,hy,hd⟩:=hl
              refine ⟨y,?_,hd⟩
              simp only [St.at,g1] at hy
              simp only [St.at,g2]
              exact hy
            · obtain ⟨u',k6,_⟩:=hi.tm t' pv' g2
              have e1:(a.put o.dst v).tmps[t']? = some u':=htmp t' h8 u' k6
              simp only [alpha,Array.getD_eq_getD_getElem?,e1,k6]
        · rw [h5] at hq; cases hq)
      exact hstep.β b (by rw [hs.bx]; exact hb)
  · rcases hat p x hx with h1 | ⟨t,c,pv,rfl,h1,h2,h3,h4,h5⟩
    · exact (hexs q (hinv.nm p x q h1 hq)).1
    · rcases h5 with h5 | ⟨⟨e,xs,h5⟩,_⟩ | ⟨b,c',h5,hFb,hbb⟩
      · rcases h5 with h5 | ⟨t',c',h5,h8,h9,pv',h10⟩
        · rw [(stay_spec h5).1] at hq; cases hq
        · rw [hq] at h5
          obtain rfl:=Option.some.inj h5
          exact ⟨pv',ho.got t' pv' (by rw [h9]; exact h10)⟩
      · rw [h5] at hq; cases hq
      · rw [hq] at h5
        obtain rfl:=Option.some.inj h5
        have hbl:b < st.bx.length:=hi.nm (.t t c) x (.b b c') (by simp [St.at,h2,h4]) hq
        show b < st'.bx.length
        rw [ho.bx]
        exact Nat.lt_of_lt_of_le hbl ho.len
  · rcases hsplit p g hg with h1 | ⟨t,c,pv,rfl,h1,h2,h3⟩
    · obtain ⟨e,xs,hx⟩:=hinv.live p g h1
      exact ⟨e,xs,by rw [(hexs p (hexa p _ hx)).2]; exact hx⟩
    · exact (hold t c pv g h1 h2 h3).2.2
  · rcases hsplit p g hp with h1 | ⟨t,c,pv,rfl,h1,h2,h3⟩
    · rcases hsplit q g hq with h4 | ⟨t',c',pv',rfl,h4,h5,h6⟩
      · exact hinv.inj p q g h1 h4
      · exact absurd (.inl ⟨p,h1⟩) (hfar t' c' pv' g h4 h5 h6).2.2.1
    · rcases hsplit q g hq with h4 | ⟨t',c',pv',rfl,h4,h5,h6⟩
      · exact absurd (.inl ⟨q,h4⟩) (hfar t c pv g h1 h2 h3).2.2.1
      · exact hi.inj _ _ g h3 h6
  · rw [ho.bx] at hb
    rcases hsplit p g hg with h1 | ⟨t,c,pv,rfl,h1,h2,h3⟩
    · exact hinv.exb p g b h1 hb
    · exact fun he=>(hfar t c pv g h1 h2 h3).2.2.1 (.inr ⟨b,hb,he⟩)
  · obtain ⟨h1,h2,h3⟩:=hinv.sh g hg
    refine ⟨h1,fun p hp=>?_,by rw [ho.bx]; exact h3⟩
    rcases hsplit p g hp with h4 | ⟨t,c,pv,rfl,h4,h5,h6⟩
    · exact h2 p h4
    · exact (hfar t c pv g h4 h5 h6).2.2.2.1 hg
  · refine ⟨hstep.os,hstep.tape,hstep.output,hstep.size,fun g hg hx=>hstep.block g hg fun h=>hx (hXs g h),hstep.sh,fun g hg=>?_,fun g hg=>?_,fun b hb=>hstep.β b (by rw [hs.bx]; exact hb),hstep.κ,hstep.ty⟩
    · rcases hstep.shNew g hg with h1 | h1 | h1
      · exact .inl h1
      · exact .inr (.inl (hXs g h1))
      · exact .inr (.inr h1)
    · rcases hg with ⟨p,hp⟩ | ⟨b,hb,he⟩
      · rcases hsplit p g hp with h1 | ⟨t,c,pv,rfl,h1,h2,h3⟩
        · rcases hstep.x g (.inl ⟨p,h1⟩) with h1 | h1
          · exact .inl (hXs g h1)
          · exact .inr h1
        · exact .inl (.inl ⟨_,h3⟩)
      · rcases hstep.x g (.inr ⟨b,by rw [← ho.bx]; exact hb,he⟩) with h1 | h1
        · exact .inl (hXs g h1)
        · exact .inr h1
/-- How many of the marked places come before where all must be marked in order. -/
theorem prefix_count {f:Nat → Bool}:∀ {E:List Nat},(∀ (i j x y:Nat),i < j → E[i]? = some x → E[j]? = some y → f y = true → f x = true) → ∀ (q x:Nat),E[q]? = some x → (f x = true ↔ q < E.countP f)
  | [],_,q,x,h=>by simp at h
  | e :: E,hp,q,x,h=>by
    by_cases he:f e = true
    · rw [List.countP_cons_of_pos he]
      cases q with
      | zero=>simp only [List.getElem?_cons_zero,Option.some.injEq] at h; subst h; simp [he]
      | succ q =>
        have ih:=prefix_count (E:=E) (fun i j x y hij hx hy hf=>hp (i + 1) (j + 1) x y (by omega) (by simpa using hx) (by simpa using hy) hf) q x (by simpa using h)
        rw [ih]; omega
    · have hno : ∀ (q x : Nat), (e :: E)[q]? = some x → f x = false := by
        intro q x hx
        cases q with
        | zero=>simp only [List.getElem?_cons_zero,Option.some.injEq] at hx; subst hx; simpa using he
        | succ q =>
          cases hf:f x with
          | false=>rfl
          | true=>exact absurd (hp 0 (q + 1) e x (by omega) rfl hx hf) he
      have hz:(e :: E).countP f = 0:=by
        rw [List.countP_eq_zero]
        intro y hy
        obtain ⟨i,hi⟩:=List.getElem?_of_mem hy
        rw [hno i y hi]; simp
      rw [hz,hno q x h]; simp
theorem Tri.drawE {id : Nat} {l : List Oper} {Q : Exit → St → Prop} (hm : P.follows .mixedOrders = true) (D : List (Nat × PV)) (A : List (List Nat)) (E : List Nat) (B : Nat → St) (hB0 : B 0 = st)
    (hsame:∀ p,p ≤ E.length → (B p).n = st.n ∧ (B p).m = st.m ∧ (B p).fx = st.fx ∧ freshB (B p).tm st.n D = true) (hfx:(D.all fun x=>!inB x.1 st.fx) = true) (hc:(Nat.ble D.length l.length && ancB l A && tailB l A D.length) = true)
    (hch:∀ (i j x y:Nat),i < j → E[i]? = some x → E[j]? = some y → x ∈ A.getD y [])
    (hread:∀ (i:Nat) (x:Nat × PV),D[i]? = some x → i ∉ E → ∃ o,l[i]? = some o ∧ o.dst = some x.1 ∧ ∀ p,E.countP (fun e=>inB e (A.getD i [])) ≤ p → p ≤ E.countP (fun e=>!inB i (A.getD e [])) → closedB ((B p).sig D fun j=>inB j (A.getD i [])) = true ∧ WOp P l.toArray o ((B p).sig D fun j=>inB j (A.getD i [])) x.2)
    (heff:∀ (p e:Nat),E[p]? = some e → ∃ o x,∃ F:Nat → Bool,l[e]? = some o ∧ D[e]? = some x ∧ (o.dst = some x.1 ∨ o.dst = none) ∧ o.guard = none ∧ closedB ((B p).sig D fun j=>inB j (A.getD e [])) = true ∧ OpEF P o ((B p).sig D fun j=>inB j (A.getD e [])) ((B (p + 1)).sig D fun j=>inB j (A.getD e []) || Nat.beq j e) F ∧ (B p).bx.length ≤ (B (p + 1)).bx.length ∧
      ∀ (j:Nat) (y:Nat × PV),D[j]? = some y → j ≠ e → j ∉ A.getD e [] → e ∉ A.getD j [] → ∀ z,z ∈ y.2.cs → keepsC ((B p).sig D fun j=>inB j (A.getD e [])) ((B (p + 1)).sig D fun j=>inB j (A.getD e []) || Nat.beq j e) o.dst z ∨ (∃ e xs,z = .own e xs) ∨ ∃ b c,z.names = some (.b b c) ∧ F b = true ∧ (B (p + 1)).bx[b]? = (B p).bx[b]?)
    (ht:TriO P l.toArray (l.drop D.length) (Q .normal) { B E.length with tm:=D ++ (B E.length).tm }):Tri P (.region id l.toArray true) Q st:=by
  simp only [Bool.and_eq_true] at hc
  obtain ⟨⟨hle,hanc⟩,htl⟩:=hc
  have hle:=Nat.le_of_ble_eq_true hle
  have hon:=ancB_on hanc
  have hin:=fun f hf=>ancB_in (f:=f) hanc hf
  have hall:∀ (f:Nat → Bool),(∀ i o,l[i]? = some o → f i = true → ∀ e ∈ o.after,Region.binds .any e = true → f e.on = true) → ∀ i o,l[i]? = some o → D.length ≤ i → (∀ e ∈ o.after,Region.binds .any e = true → f e.on = true) → ∀ j,j < i → f j = true :=
    fun f hf i o ho hk he j hj=>hin f hf i o ho he j (tailB_spec htl (List.getElem?_eq_some_iff.1 ho).1 hk j hj)
  have hElt:∀ (p e:Nat),E[p]? = some e → e < D.length:=fun p e h=>by obtain ⟨o,x,F,_,h2,_⟩:=heff p e h; exact (List.getElem?_eq_some_iff.1 h2).1
  -- what is listed is closed under what goes before
  have hdown:∀ (f:Nat → Bool),(∀ i o,l[i]? = some o → f i = true → ∀ e ∈ o.after,Region.binds .any e = true → f e.on = true) → ∀ i,i < l.length → f i = true → ∀ j ∈ A.getD i [],f j = true :=
    fun f hf i hi hfi j hj=>hin f hf i l[i] (List.getElem?_eq_getElem hi) (hf i l[i] (List.getElem?_eq_getElem hi) hfi) j hj
  have hpre:∀ (f:Nat → Bool),(∀ i o,l[i]? = some o → f i = true → ∀ e ∈ o.after,Region.binds .any e = true → f e.on = true) → ∀ (q x:Nat),E[q]? = some x → (f x = true ↔ q < E.countP f) :=
    fun f hf=>prefix_count fun i j x y hij hx hy hfy=>hdown f hf y (Nat.lt_of_lt_of_le (hElt j y hy) hle) hfy x (hch i j x y hij hx hy)
  have hEn:∀ (p q e:Nat),E[p]? = some e → E[q]? = some e → p = q:=by
    intro p q e hp hq
    have self:e ∉ A.getD e []:=by
      intro hin'
      have hel:e < l.length:=Nat.lt_of_lt_of_le (hElt p e hp) hle
      have:=ancB_in (f:=fun j=>decide (j < e)) hanc (fun i o ho hf e' he' hb=>by
        have h1:=hon i o ho e' he' hb
        have h2:=of_decide_eq_true hf
        exact decide_eq_true (by omega)) e l[e] (List.getElem?_eq_getElem hel) (fun e' he' hb=>decide_eq_true (hon e l[e] (List.getElem?_eq_getElem hel) e' he' hb)) e hin'
      have:=of_decide_eq_true this
      omega
    rcases Nat.lt_trichotomy p q with h | h | h
    · exact absurd (hch p q e e h hp hq) self
    · exact h
    · exact absurd (hch q p e e h hq hp) self
  intro a₀ w₀ r₀ hi₀
  let QQ:=Post P st.m w₀ r₀ st.bx.length (fun e st'=>e = .normal ∧ Q .normal st')
  have hcnt:∀ (listed:Array Bool),E.countP (fun j=>listed.getD j false) ≤ E.length:=fun _=>List.countP_le_length
  have finish : ∀ (listed : Array Bool) (a : Act) (w : World) (r : Rs) (fuel : Nat), listed.size = l.length → (∀ j, j < D.length → listed.getD j false = true) → (∀ j, listed.getD j false = true → j < D.length) → l.length - D.length ≤ fuel →
      Inv P ((B (E.countP fun j=>listed.getD j false)).sig D fun j=>listed.getD j false) a w r → Step st.m w₀ r₀ st.bx.length w r (B (E.countP fun j=>listed.getD j false)).bx.length → wpAny P .any l.toArray QQ fuel listed a w:=by
    intro listed a w r fuel hsz hfull hlt hfu hi hst
    have hE:E.countP (fun j=>listed.getD j false) = E.length:=by
      rw [List.countP_eq_length]
      intro e he
      obtain ⟨p,hp⟩:=List.getElem?_of_mem he
      exact hfull e (hElt p e hp)
    rw [hE] at hi hst
    obtain ⟨hn1,hm1,hf1,hfr1⟩:=hsame E.length (Nat.le_refl _)
    refine draw_tail (k:=D.length) hon hall fuel D.length listed a w (Nat.le_refl _) hle hsz (fun j=>?_) hfu ?_
    · by_cases hj:j < D.length
      · rw [decide_eq_true hj]; exact hfull j hj
      · rw [decide_eq_false hj]
        cases hb:listed.getD j false with
        | false=>rfl
        | true=>exact absurd (hlt j hb) hj
    · obtain ⟨r',h1,h2,h3⟩:=full_turn (P:=P) (st:=B E.length) (by rw [hn1]; exact hfr1) hfull a w r hi
      refine wpList_mono (fun e a' w' q=>?_) _ _ _ (ht a w r' h2)
      have hst':Step st.m w₀ r₀ st.bx.length w r' (B E.length).bx.length:=hst.trans (h3.le (by rw [show ((B E.length).sig D fun j=>listed.getD j false).m = (B E.length).m from rfl,hm1]; exact Nat.le_refl _))
      have q':=Post.step hst' (show Post P st.m w r' (B E.length).bx.length _ e a' w' by rw [← hm1]; exact q)
      exact q'
  have key : ∀ (fuel : Nat) (listed : Array Bool) (a : Act) (w : World) (r : Rs), listed.size = l.length → (∀ j, listed.getD j false = true → j < D.length) →
      (∀ i o,l[i]? = some o → listed.getD i false = true → ∀ e ∈ o.after,Region.binds .any e = true → listed.getD e.on false = true) → (listed.toList.count false) ≤ fuel →
      Inv P ((B (E.countP fun j=>listed.getD j false)).sig D fun j=>listed.getD j false) a w r → Step st.m w₀ r₀ st.bx.length w r (B (E.countP fun j=>listed.getD j false)).bx.length → wpAny P .any l.toArray QQ fuel listed a w:=by
    intro fuel
    induction fuel with
    | zero =>
      intro listed a w r hsz hlt hclo hcnt' hi hst
      have hno:∀ j,j < l.length → listed.getD j false = true:=by
        intro j hj
        have h0:listed.toList.count false = 0:=by omega
        have h1:=List.count_eq_zero.1 h0
        have hj':j < listed.size:=by omega
        have:listed.getD j false = listed[j]:=by simp [hj']
        rw [this]
        cases hb:listed[j] with
        | true=>rfl
        | false=>exact absurd (by rw [← hb]; simp) h1
      have hD:D.length = l.length:=by
        rcases Nat.lt_or_ge D.length l.length with h | h
        · have:=hlt _ (hno _ h); omega
        · omega
      exact finish listed a w r 0 hsz (fun j hj=>hno j (by omega)) hlt (by omega) hi hst
    | succ fuel ih =>
      intro listed a w r hsz hlt hclo hcnt' hi hst
      by_cases hfull:∀ j,j < D.length → listed.getD j false = true
      · refine finish listed a w r (fuel + 1) hsz hfull hlt ?_ hi hst
        refine Nat.le_trans ?_ hcnt'
        have hdrop:listed.toList.count false = (listed.toList.take D.length).count false + (listed.toList.drop D.length).count false:=by rw [← List.count_append,List.take_append_drop]
        have hrep:listed.toList.drop D.length = List.replicate (l.length - D.length) false:=by
          refine List.eq_replicate_iff.2 ⟨by simp [hsz],fun b hb=>?_⟩
          obtain ⟨i,hi',rfl⟩:=List.getElem_of_mem hb
          simp only [List.getElem_drop]
          simp only [List.length_drop,Array.length_toList] at hi'
          have hlt':D.length + i < listed.size:=by omega
          cases hb:listed.toList[D.length + i]'(by simpa using hlt') with
          | false=>rfl
          | true =>
            have h2:listed.getD (D.length + i) false = true:=by
              simp only [Array.getElem_toList] at hb
              simp [hlt',hb]
            have:=hlt _ h2; omega
        rw [hdrop,hrep,List.count_replicate_self]
        omega
      · have hex : ∃ j, j < D.length ∧ listed.getD j false = false := by
          refine Classical.byContradiction fun hn=>hfull fun j hj=>?_
          cases hb:listed.getD j false with
          | true=>rfl
          | false=>exact absurd ⟨j,hj,hb⟩ hn
        have hd:∀ j,j < l.length → listed.getD j true = listed.getD j false:=fun j hj=>by simp [hsz,hj]
        have hne:Region.ready .any l.toArray listed ≠ []:=by
          obtain ⟨j,hj,hb⟩:=hex
          have hmin:∀ n j,j ≤ n → j < D.length → listed.getD j false = false → Region.ready .any l.toArray listed ≠ []:=by
            intro n
            induction n using Nat.strongRecOn with
            | _ n ihn =>
              intro j hjn hj hb
              have hjl:j < l.length:=by omega
              by_cases hr:∀ e ∈ (l[j]).after,Region.binds .any e = true → listed.getD e.on false = true
              · exact List.ne_nil_of_mem (mem_ready.2 ⟨by rw [hd j hjl]; exact hb,l[j],by simp [hjl],hr⟩)
              · obtain ⟨e, he, hbe, hne⟩ : ∃ e ∈ (l[j]).after, Region.binds .any e = true ∧ listed.getD e.on false = false := by
                  refine Classical.byContradiction fun hn=>hr fun e he hbe=>?_
                  cases hb2:listed.getD e.on false with
                  | true=>rfl
                  | false=>exact absurd ⟨e,he,hbe,hb2⟩ hn
                have:=hon j l[j] (List.getElem?_eq_getElem hjl) e he hbe
                exact ihn e.on (by omega) e.on (Nat.le_refl _) (by omega) hne
          exact hmin j j (Nat.le_refl _) hj hb
        refine ⟨fun h=>absurd h hne,fun i hi'=>?_⟩
        obtain ⟨h1,o,ho,h2⟩:=mem_ready.1 hi'
        have ho':l[i]? = some o:=by simpa using ho
        have hil:i < l.length:=(List.getElem?_eq_some_iff.1 ho').1
        have hiD:i < D.length:=by
          refine Nat.lt_of_not_le fun hge=>?_
          obtain ⟨j,hj,hb⟩:=hex
          have:=hall (fun j=>listed.getD j false) hclo i o ho' hge h2 j (by omega)
          rw [hb] at this; cases this
        have hDi:=List.getElem?_eq_getElem hiD
        have hun:listed.getD i false = false:=by rw [← hd i hil]; exact h1
        have hAf:∀ j ∈ A.getD i [],listed.getD j false = true:=fun j hj=>hin (fun j=>listed.getD j false) hclo i o ho' h2 j hj
        have hpc:=hpre (fun j=>listed.getD j false) hclo
        have hple:=hcnt listed
        obtain ⟨hnp,hmp,hfp,hfrp⟩:=hsame _ hple
        have hfrp':freshB (B (E.countP fun j=>listed.getD j false)).tm (B (E.countP fun j=>listed.getD j false)).n D = true:=by rw [hnp]; exact hfrp
        have hcount:(listed.setIfInBounds i true).toList.count false ≤ fuel:=by
          have hil':i < listed.toList.length:=by simpa [hsz] using hil
          have hset:(listed.setIfInBounds i true).toList = listed.toList.set i true:=by simp
          rw [hset,List.count_set hil']
          have hget:listed.toList[i] = false:=by
            have h3:i < listed.size:=by omega
            have:listed.getD i false = listed[i]:=by simp [h3]
            rw [this] at hun
            simpa using hun
          have hpos:0 < listed.toList.count false:=List.count_pos_iff.2 (hget ▸ List.getElem_mem hil')
          rw [hget]
          have hbf:(false == false) = true:=rfl
          have hbt:(true == false) = false:=rfl
          simp only [hbf,hbt,if_true,Bool.false_eq_true,if_false]
          omega
        have hlt1:∀ j,(listed.setIfInBounds i true).getD j false = true → j < D.length:=by
          intro j hj
          by_cases hji:i = j
          · omega
          · rw [getD_set_ne false hji] at hj; exact hlt j hj
        have hclo1:∀ i' o,l[i']? = some o → (listed.setIfInBounds i true).getD i' false = true → ∀ e ∈ o.after,Region.binds .any e = true → (listed.setIfInBounds i true).getD e.on false = true:=by
          intro i' o' ho'' hb e he hbe
          by_cases hji:i = i'
          · subst hji
            rw [ho'] at ho''; cases ho''
            exact getD_set_true (h2 e he hbe)
          · rw [getD_set_ne false hji] at hb
            exact getD_set_true (hclo i' o' ho'' hb e he hbe)
        have hself:(listed.setIfInBounds i true).getD i false = true:=by simp [hsz,hil]
        by_cases hiE:i ∈ E
        · -- it changes the state
          obtain ⟨p,hp⟩:=List.getElem?_of_mem hiE
          obtain ⟨o',x,F,k1,k2,k3,k4,k5,k6,k7,k8⟩:=heff p i hp
          rw [ho'] at k1; cases k1
          have hx:D[i] = x:=by rw [hDi] at k2; exact Option.some.inj k2
          -- as many as came before
          have hcp:E.countP (fun j=>listed.getD j false) = p:=by
            have h3:=hpc p i hp
            have h4:¬ p < E.countP (fun j=>listed.getD j false):=fun h=>by rw [hun] at h3; exact absurd (h3.2 h) (by simp)
            rcases Nat.lt_or_ge (E.countP fun j=>listed.getD j false) p with h5 | h5
            · have hlt':E.countP (fun j=>listed.getD j false) < E.length:=Nat.lt_trans h5 (List.getElem?_eq_some_iff.1 hp).1
              have h6:=hpc _ _ (List.getElem?_eq_getElem hlt')
              have h7:=hAf _ (hch _ p _ i h5 (List.getElem?_eq_getElem hlt') hp)
              exact absurd (h6.1 h7) (by omega)
            · omega
          have hcp1:E.countP (fun j=>(listed.setIfInBounds i true).getD j false) = p + 1:=by
            have h3:=hpre (fun j=>(listed.setIfInBounds i true).getD j false) hclo1
            have h4:=(h3 p i hp).1 hself
            rcases Nat.lt_or_ge (p + 1) (E.countP fun j=>(listed.setIfInBounds i true).getD j false) with h5 | h5
            · have hle2:E.countP (fun j=>(listed.setIfInBounds i true).getD j false) ≤ E.length:=List.countP_le_length
              have hlt':p + 1 < E.length:=by omega
              have h6:=(h3 _ _ (List.getElem?_eq_getElem hlt')).2 h5
              have hne':i ≠ E[p + 1]:=fun e=>by
                have:=hEn p (p + 1) i hp (by rw [e]; exact List.getElem?_eq_getElem hlt')
                omega
              have h6':listed.getD E[p + 1] false = true:=by
                rw [← getD_set_ne false hne']; exact h6
              have h7:=(hpc _ _ (List.getElem?_eq_getElem hlt')).1 h6'
              omega
            · omega
          rw [hcp] at hi hst hnp hmp hfp hfrp hfrp'
          have hpl:p + 1 ≤ E.length:=(List.getElem?_eq_some_iff.1 hp).1
          obtain ⟨hnq,hmq,hfq,hfrq⟩:=hsame (p + 1) hpl
          have hfrq':freshB (B (p + 1)).tm (B (p + 1)).n D = true:=by rw [hnq]; exact hfrq
          have hsub:Sub ((B p).sig D fun j=>inB j (A.getD i [])) ((B p).sig D fun j=>listed.getD j false):=Sub.sig hfrp' k5 fun j hj=>hAf j (inB_spec hj)
          have hover:Over ((B p).sig D fun j=>inB j (A.getD i [])) ((B p).sig D fun j=>listed.getD j false) ((B (p + 1)).sig D fun j=>inB j (A.getD i []) || Nat.beq j i) ((B (p + 1)).sig D fun j=>(listed.setIfInBounds i true).getD j false) o.dst F:=by
            refine ⟨rfl,rfl,rfl,rfl,fun t pv ht=>?_,fun t pv ht=>?_,k7⟩
            · rcases St.get_sig (st:=B (p + 1)) (f:=fun j=>(listed.setIfInBounds i true).getD j false) hfrq' t with ⟨j,y,g1,rfl,g2,g3⟩ | ⟨g1,g2⟩
              · rw [g3] at ht
                split at ht
                · rename_i hfj
                  cases ht
                  rcases St.get_sig (st:=B (p + 1)) (f:=fun j=>inB j (A.getD i []) || Nat.beq j i) hfrq' y.1 with ⟨j',y',g1',h4,g2',g3'⟩ | ⟨g1',_⟩
                  · obtain rfl:=(fresh_at hfrq' j y g1).2.2 j' y' g1' h4
                    rw [g1] at g1'; cases g1'
                    by_cases hin2:(inB j' (A.getD i []) || Nat.beq j' i) = true
                    · rw [if_pos hin2] at g3'; exact .inl g3'
                    · rw [if_neg hin2] at g3'
                      simp only [Bool.or_eq_true,not_or] at hin2
                      have hji:j' ≠ i:=fun e=>hin2.2 (by rw [e]; exact Nat.beq_refl i)
                      have hjf:listed.getD j' false = true:=by
                        rw [← getD_set_ne false (fun e=>hji e.symm)]; exact hfj
                      refine .inr ⟨g3',?_,?_,?_⟩
                      · rcases St.get_sig (st:=B p) (f:=fun j=>listed.getD j false) hfrp' y.1 with ⟨j2,y2,q1,q4,q2,q3⟩ | ⟨q1,_⟩
                        · obtain rfl:=(fresh_at hfrp' j' y g1).2.2 j2 y2 q1 q4
                          rw [g1] at q1; cases q1
                          rw [q3,if_pos hjf]
                        · exact absurd rfl (q1 j' y g1)
                      · intro e
                        rcases k3 with k3 | k3
                        · rw [k3] at e
                          have e:=Option.some.inj e
                          exact hji ((fresh_at hfrp' i x k2).2.2 j' y g1 e.symm)
                        · rw [k3] at e; cases e
                      · have hk8 := k8 j' y g1 hji (fun h => hin2.1 (inB_mem h)) fun h => by
                          have hjl:j' < l.length:=Nat.lt_of_lt_of_le (List.getElem?_eq_some_iff.1 g1).1 hle
                          have:=hdown (fun j=>listed.getD j false) hclo j' hjl hjf i h
                          rw [hun] at this; cases this
                        intro z hz
                        rcases hk8 z hz with hz1 | hz1 | hz1
                        · exact .inl hz1
                        · refine .inr (.inl ⟨hz1,?_⟩)
                          rcases St.get_sig (st:=B p) (f:=fun j=>inB j (A.getD i [])) hfrp' y.1 with ⟨j2,y2,q1,q4,q2,q3⟩ | ⟨q1,_⟩
                          · obtain rfl:=(fresh_at hfrp' j' y g1).2.2 j2 y2 q1 q4
                            rw [q3,if_neg (fun h=>hin2.1 h)]
                          · exact absurd rfl (q1 j' y g1)
                        · exact .inr (.inr hz1)
                  · exact absurd rfl (g1' j y g1)
                · cases ht
              · rcases St.get_sig (st:=B (p + 1)) (f:=fun j=>inB j (A.getD i []) || Nat.beq j i) hfrq' t with ⟨j',y',g1',h4,_⟩ | ⟨_,g2'⟩
                · exact absurd h4 (g1 j' y' g1')
                · exact .inl (by rw [g2',← g2]; exact ht)
            · rcases St.get_sig (st:=B (p + 1)) (f:=fun j=>inB j (A.getD i []) || Nat.beq j i) hfrq' t with ⟨j,y,g1,rfl,g2,g3⟩ | ⟨g1,g2⟩
              · rw [g3] at ht
                split at ht
                · rename_i hfj
                  cases ht
                  rcases St.get_sig (st:=B (p + 1)) (f:=fun j=>(listed.setIfInBounds i true).getD j false) hfrq' y.1 with ⟨j',y',g1',h4,g2',g3'⟩ | ⟨g1',_⟩
                  · obtain rfl:=(fresh_at hfrq' j y g1).2.2 j' y' g1' h4
                    rw [g1] at g1'; cases g1'
                    rw [g3',if_pos]
                    rw [Bool.or_eq_true] at hfj
                    rcases hfj with hfj | hfj
                    · exact getD_set_true (hAf j' (inB_spec hfj))
                    · rw [Nat.eq_of_beq_eq_true hfj]; exact hself
                  · exact absurd rfl (g1' j y g1)
                · cases ht
              · rcases St.get_sig (st:=B (p + 1)) (f:=fun j=>(listed.setIfInBounds i true).getD j false) hfrq' t with ⟨j',y',g1',h4,_⟩ | ⟨_,g2'⟩
                · exact absurd h4 (g1 j' y' g1')
                · rw [g2',← g2]; exact ht
          have hgo:=(k6.over hsub hover) a w r hi (wpAny P .any l.toArray QQ fuel (listed.setIfInBounds i true)) QQ fun v w' r1 e1 e2 e3=>?_
          · refine wpOp_of_list (o:=o) ho ?_
            rw [if_pos (by simp [Region.wanted,k4])]
            exact .inl hgo
          · refine ih (listed.setIfInBounds i true) _ w' r1 (by simpa using hsz) hlt1 hclo1 hcount (by rw [hcp1]; exact e2) ?_
            rw [hcp1]
            refine hst.trans (e3.le ?_)
            have:=hi.m
            have hm2:((B p).sig D fun j=>listed.getD j false).m = st.m:=hmp
            rw [hm2] at this
            exact this
        · -- it reads
          obtain ⟨o',k1,k2,k3⟩:=hread i D[i] hDi hiE
          rw [ho'] at k1; cases k1
          obtain ⟨k4,k5⟩:=k3 (E.countP fun j=>listed.getD j false) (List.countP_mono_left fun e _ he=>hAf e (inB_spec he)) (List.countP_mono_left fun e he hf=>by
            cases hb:inB i (A.getD e []) with
            | false=>rfl
            | true =>
              obtain ⟨p,hp⟩:=List.getElem?_of_mem he
              have:=hdown (fun j=>listed.getD j false) hclo e (Nat.lt_of_lt_of_le (hElt p e hp) hle) hf i (inB_spec hb)
              rw [hun] at this; cases this)
          have hcs:E.countP (fun j=>(listed.setIfInBounds i true).getD j false) = E.countP fun j=>listed.getD j false:=List.countP_congr fun e he=>by
            rw [getD_set_ne false (fun h=>hiE (by rw [h]; exact he))]
          have hsub:=Sub.sig (g:=fun j=>listed.getD j false) hfrp' k4 fun j hj=>hAf j (inB_spec hj)
          have hno:((B (E.countP fun j=>listed.getD j false)).sig D fun j=>listed.getD j false).get (D[i]).1 = none:=by
            rcases St.get_sig (st:=B (E.countP fun j=>listed.getD j false)) (f:=fun j=>listed.getD j false) hfrp' (D[i]).1 with ⟨j',x',h1',h4,h2',h3'⟩ | ⟨h1',_⟩
            · obtain rfl:=(fresh_at hfrp' i D[i] hDi).2.2 j' x' h1' h4
              rw [h3',hun]; rfl
            · exact absurd rfl (h1' i D[i] hDi)
          have hgo:=(k5.up hsub) a w r hi (wpAny P .any l.toArray QQ fuel (listed.setIfInBounds i true)) QQ ?_
          · refine wpOp_of_list (o:=o) ho ?_
            split at hgo
            · rename_i hwt; rw [if_pos hwt]; exact .inl hgo
            · rename_i hwt; rw [if_neg hwt]; exact hgo
          · intro v w' Sn γd hnews
            rw [k2]
            obtain ⟨r'',q1,q2⟩:=hi.news (d:=(D[i]).1) ⟨(fresh_at hfrp' i D[i] hDi).2.1,(show inB (D[i]).1 (B (E.countP fun j=>listed.getD j false)).fx = false by rw [hfp]; simpa using List.all_eq_true.1 hfx D[i] (List.getElem_mem hiD))⟩ hno hnews
            have hext:Turns P (((B (E.countP fun j=>listed.getD j false)).sig D fun j=>listed.getD j false).put (D[i]).1 (D[i]).2) ((B (E.countP fun j=>listed.getD j false)).sig D fun j=>(listed.setIfInBounds i true).getD j false):=by
              refine Turns.ext (fun t=>?_) rfl rfl rfl
              rw [St.get_put]
              rcases St.get_sig (st:=B (E.countP fun j=>listed.getD j false)) (f:=fun j=>(listed.setIfInBounds i true).getD j false) hfrp' t with ⟨j,x,g1,rfl,g2,g3⟩ | ⟨g1,g2⟩
              · rw [g3]
                by_cases hji:j = i
                · subst hji
                  have:D[j] = x:=by rw [g1] at hDi; exact (Option.some.inj hDi).symm
                  subst this
                  rw [hself]; simp
                · have hne1:x.1 ≠ (D[i]).1:=fun e=>hji ((fresh_at hfrp' i D[i] hDi).2.2 j x g1 e)
                  rw [if_neg hne1,getD_set_ne false (fun e=>hji e.symm)]
                  rcases St.get_sig (st:=B (E.countP fun j=>listed.getD j false)) (f:=fun j=>listed.getD j false) hfrp' x.1 with ⟨j',x',h1',h4,h2',h3'⟩ | ⟨h1',_⟩
                  · obtain rfl:=(fresh_at hfrp' j x g1).2.2 j' x' h1' h4
                    rw [g1] at h1'; cases h1'
                    exact h3'.symm
                  · exact absurd rfl (h1' j x g1)
              · rw [g2,if_neg (fun e=>g1 i D[i] hDi e.symm)]
                rcases St.get_sig (st:=B (E.countP fun j=>listed.getD j false)) (f:=fun j=>listed.getD j false) hfrp' t with ⟨j',x',h1',h4,_⟩ | ⟨_,h2'⟩
                · exact absurd h4 (g1 j' x' h1')
                · exact h2'.symm
            obtain ⟨r3,e1,e2,e3⟩:=hext _ _ _ q1
            have hmm:((B (E.countP fun j=>listed.getD j false)).sig D fun j=>listed.getD j false).m = st.m:=hmp
            refine ih (listed.setIfInBounds i true) _ w' r3 (by simpa using hsz) hlt1 hclo1 hcount (by rw [hcs]; exact e2) ?_
            rw [hcs]
            refine hst.trans ?_
            have q2':=q2.trans e3
            rw [hmm] at q2'
            exact q2'
  have hi1:Inv P st a₀ { w₀ with drawn:=w₀.drawn + 1 } r₀:=hi₀.world (fun _ _=>rfl) (Nat.le_refl _) (fun _ _ h=>h)
  have hst1:Step st.m w₀ r₀ st.bx.length { w₀ with drawn:=w₀.drawn + 1 } r₀ st.bx.length:=⟨rfl,rfl,rfl,Nat.le_refl _,fun _ _ _=>rfl,fun _ h=>h,fun _ h=>.inl h,fun _ h=>.inl h,fun _ _=>rfl,rfl,fun _ _ h=>h⟩
  have hrep:∀ j,(Array.replicate l.length false).getD j false = false:=fun j=>by simp [Array.getD_eq_getD_getElem?,Array.getElem?_replicate]; split <;> rfl
  have hc0:E.countP (fun j=>(Array.replicate l.length false).getD j false) = 0:=List.countP_eq_zero.2 fun e _=>by rw [hrep]; simp
  obtain ⟨_,_,_,hfr0⟩:=hsame 0 (Nat.zero_le _)
  rw [hB0] at hfr0
  obtain ⟨r1,e1,e2,e3⟩:=Turns.ext (P:=P) (st:=st) (st':=st.sig D fun j=>(Array.replicate l.length false).getD j false) (fun t=>by
    rcases St.get_sig (st:=st) (f:=fun j=>(Array.replicate l.length false).getD j false) hfr0 t with ⟨j,x,g1,rfl,g2,g3⟩ | ⟨g1,g2⟩
    · rw [g3,hrep,g2]; rfl
    · exact g2) rfl rfl rfl rfl _ _ _ hi1
  have hfin:=key l.length (Array.replicate l.length false) a₀ _ r1 (by simp) (fun j hj=>by rw [hrep] at hj; cases hj) (fun i o _ hb=>by rw [hrep] at hb; cases hb) (by simp) (by rw [hc0,hB0]; exact e2) (by rw [hc0,hB0]; exact hst1.trans e3)
  refine Code.wp_mono (fun e a' w' k=>?_) (wp_region_any hm (by simpa using hfin))
  obtain ⟨st',r',⟨rfl,h1⟩,h2⟩:=k
  exact ⟨st',r',h1,h2⟩
end
end Go.Proofs.YtoclajfeeebbbadGreatDoor.E
