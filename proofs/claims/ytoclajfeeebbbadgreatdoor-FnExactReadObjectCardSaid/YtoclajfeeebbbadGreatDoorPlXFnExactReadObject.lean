/- Reading an object: the reference's whole reader. -/
import Derived.Test.YtoclajfeeebbbadGreatDoorPlUFnExactReadObject
set_option linter.unusedVariables false
set_option linter.unusedSimpArgs false
namespace Go.Proofs.YtoclajfeeebbbadGreatDoor.V
open Go.RowKit Go.Proofs.YtoclajfeeebbbadGreatDoor.E
theorem dec1 {z:Nat} (h:z ≤ 70000):w64 (((z + 1:Nat):Int) - 1) = (z:Int):=by rw [w64_id (by omega) (by omega)]; omega
theorem sneeds_rd {b : List Int} (hb : Byt b) {m : Nat} (hm : m ≤ 255) {at_ : Int} {bad : Bool} {o : Option (List Int)} (h : RelS b at_ bad o) :
    ∃ at2 bad2 l,Evr (fun k=>spec_l04Read.l3 k b (m:Int) at_ bad []) (at2,bad2,l) ∧ l.length ≤ 255 ∧ (∀ x ∈ l,okN x) ∧ RelS b at2 bad2 (nxt o (D.many needD m)) ∧ Got o (D.many needD m) l:=by
  obtain ⟨a,c,l,e,hl,g1,g2,g3⟩:=down_loop (R:=RelS b) (fun h=>h.no rfl) (fun h=>(h.yes _ rfl).1) (d:=needD) (ok:=okN) (B:=255) (fun k z at_ bad acc=>spec_l04Read.l3 k b (z:Int) at_ bad acc)
    (fun k z at_ bad acc hz hB=>by
      show spec_l04Read.l3 (k + 1) b (z:Int) at_ bad acc = _
      unfold spec_l04Read.l3 spec_l04Read.e2
      rcases hz with rfl | rfl
      · simp
      · by_cases hc:(0:Int) < (z:Int) <;> simp [hc])
    (fun z at_ s acc hB h ha=>by
      obtain ⟨n,at1,bad1,e1,r1,g1,hn⟩:=stext_rd hb h
      obtain ⟨p,at2,bad2,e2,r2,g2⟩:=s8_rd hb r1
      refine ⟨at2,bad2,⟨n,p⟩,hn,?_,got_bind g1 (got_bind g2 (got_pure _ _)),fun x hx=>?_⟩
      · unfold needD
        rw [nxt_bind g1,nxt_bind g2,nxt_pure]
        exact r2
      · refine ev_step _ (fun k=>rfl) (ev_bind true (ev_of fun k=>by unfold spec_l04Read.e2; rw [if_pos (by omega)]; rfl) (ev_pos rfl (ev_bind _ (ev_of e1) (ev_bind _ e2 (ev_pos (by simp; omega) ?_)))))
        rw [dec1 (by omega)]
        exact hx) m at_ bad o [] h (by simpa using hm)
  exact ⟨a,c,l,by simpa using e,by omega,g1,g2,g3⟩
theorem sglobs_rd {b : List Int} (hb : Byt b) {m : Nat} (hm : m ≤ 255) {at_ : Int} {bad : Bool} {o : Option (List Int)} (h : RelS b at_ bad o) :
    ∃ at2 bad2 l,Evr (fun k=>spec_l04Read.l6 k b (m:Int) at_ bad []) (at2,bad2,l) ∧ l.length ≤ 255 ∧ (∀ x ∈ l,okN x) ∧ RelS b at2 bad2 (nxt o (D.many globD m)) ∧ Got o (D.many globD m) l:=by
  obtain ⟨a,c,l,e,hl,g1,g2,g3⟩:=down_loop (R:=RelS b) (fun h=>h.no rfl) (fun h=>(h.yes _ rfl).1) (d:=globD) (ok:=okN) (B:=255) (fun k z at_ bad acc=>spec_l04Read.l6 k b (z:Int) at_ bad acc)
    (fun k z at_ bad acc hz hB=>by
      show spec_l04Read.l6 (k + 1) b (z:Int) at_ bad acc = _
      unfold spec_l04Read.l6 spec_l04Read.e5
      rcases hz with rfl | rfl
      · simp
      · by_cases hc:(0:Int) < (z:Int) <;> simp [hc])
    (fun z at_ s acc hB h ha=>by
      obtain ⟨n,at1,bad1,e1,r1,g1,hn⟩:=stext_rd hb h
      obtain ⟨p,at2,bad2,e2,r2,g2,_⟩:=sone_rd hb r1
      refine ⟨at2,bad2,⟨n,p⟩,hn,?_,got_bind g1 (got_bind g2 (got_pure _ _)),fun x hx=>?_⟩
      · unfold globD
        rw [nxt_bind g1,nxt_bind g2,nxt_pure]
        exact r2
      · refine ev_step _ (fun k=>rfl) (ev_bind true (ev_of fun k=>by unfold spec_l04Read.e5; rw [if_pos (by omega)]; rfl) (ev_pos rfl (ev_bind _ (ev_of e1) (ev_bind _ (ev_of e2) (ev_pos (by simp; omega) ?_)))))
        rw [dec1 (by omega)]
        exact hx) m at_ bad o [] h (by simpa using hm)
  exact ⟨a,c,l,by simpa using e,by omega,g1,g2,g3⟩
theorem sins_rd {b : List Int} (hb : Byt b) {m : Nat} (hm : m ≤ 65535) {at_ : Int} {bad : Bool} {o : Option (List Int)} (h : RelS b at_ bad o) :
    ∃ at2 bad2 l,Evr (fun k=>spec_l04Read.l12 k b (m:Int) at_ bad []) (at2,bad2,l) ∧ l.length ≤ 65535 ∧ (∀ x ∈ l,okX x) ∧ RelS b at2 bad2 (nxt o (D.many insD m)) ∧ Got o (D.many insD m) l:=by
  obtain ⟨a,c,l,e,hl,g1,g2,g3⟩:=down_loop (R:=RelS b) (fun h=>h.no rfl) (fun h=>(h.yes _ rfl).1) (d:=insD) (ok:=okX) (B:=65535) (fun k z at_ bad acc=>spec_l04Read.l12 k b (z:Int) at_ bad acc)
    (fun k z at_ bad acc hz hB=>by
      show spec_l04Read.l12 (k + 1) b (z:Int) at_ bad acc = _
      unfold spec_l04Read.l12 spec_l04Read.e9
      rcases hz with rfl | rfl
      · simp
      · by_cases hc:(0:Int) < (z:Int) <;> simp [hc])
    (fun z at_ s acc hB h ha=>by
      obtain ⟨op,at1,bad1,e1,r1,g1,_⟩:=sone_rd hb h
      obtain ⟨av,at2,bad2,e2,r2,g2⟩:=s8_rd hb r1
      have first:∀ {g:Nat → Bool → Option (Int × Bool × List SIns)} {r},Evr (fun k=>g k true) r → Evr (fun k=>(spec_l04Read.e9 k ((z + 1:Nat):Int) false).bind (g k)) r:=fun hg=>ev_bind true (ev_of fun k=>by unfold spec_l04Read.e9; rw [if_pos (by omega)]; rfl) hg
      by_cases hp:op = 3 ∨ op = 13
      · obtain ⟨bv,at3,bad3,e3,r3,g3,_⟩:=sone_rd hb r2
        obtain ⟨m,at4,bad4,e4,r4,g4,hm⟩:=stext_rd hb r3
        obtain ⟨n,at5,bad5,e5,r5,g5,hn⟩:=stext_rd hb r4
        have gk:Got (nxt (nxt (some s) (numD 1)) (numD 8)) (if op = 3 ∨ op = 13 then D.bind (numD 1) fun b=>D.bind textD fun m=>D.bind textD fun n=>D.pure (⟨op,av,b,m,n⟩:SIns) else D.pure ⟨op,av,0,⟨#[]⟩,⟨#[]⟩⟩) ⟨op,av,bv,m,n⟩:=by
          rw [if_pos hp]
          exact got_bind g3 (got_bind g4 (got_bind g5 (got_pure _ _)))
        refine ⟨at5,bad5,⟨op,av,bv,m,n⟩,⟨hm,hn⟩,?_,got_bind g1 (got_bind g2 gk),fun x hx=>?_⟩
        · unfold insD
          rw [nxt_bind g1,nxt_bind g2,if_pos hp,nxt_bind g3,nxt_bind g4,nxt_bind g5,nxt_pure]
          exact r5
        · refine ev_step _ (fun k=>rfl) (first (ev_pos rfl (ev_bind _ (ev_of e1) (ev_bind _ e2 (ev_bind (at5,bad5,bv,m,n) ?_ (ev_pos (by simp; omega) ?_))))))
          · unfold spec_l04Read.e11
            refine ev_bind true (ev_of fun k=>?_) (ev_pos rfl (ev_bind _ (ev_of e3) (ev_bind _ (ev_of e4) (ev_bind _ (ev_of e5) ev_some))))
            unfold spec_l04Read.e10
            rcases hp with hp | hp
            · rw [if_pos hp]
            · by_cases h3:op = 3
              · rw [if_pos h3]
              · rw [if_neg h3,decide_eq_true hp]
          · rw [dec1 (by omega)]
            exact hx
      · have gk : Got (nxt (nxt (some s) (numD 1)) (numD 8)) (if op = 3 ∨ op = 13 then D.bind (numD 1) fun b => D.bind textD fun m => D.bind textD fun n => D.pure (⟨op, av, b, m, n⟩ : SIns) else D.pure ⟨op, av, 0, ⟨#[]⟩, ⟨#[]⟩⟩) ⟨op, av, 0, ⟨#[]⟩, ⟨#[]⟩⟩ := by
          rw [if_neg hp]
          exact got_pure _ _
        refine ⟨at2,bad2,⟨op,av,0,⟨#[]⟩,⟨#[]⟩⟩,⟨Nat.zero_le _,Nat.zero_le _⟩,?_,got_bind g1 (got_bind g2 gk),fun x hx=>?_⟩
        · unfold insD
          rw [nxt_bind g1,nxt_bind g2,if_neg hp,nxt_pure]
          exact r2
        · refine ev_step _ (fun k=>rfl) (first (ev_pos rfl (ev_bind _ (ev_of e1) (ev_bind _ e2 (ev_bind (at2,bad2,0,⟨#[]⟩,⟨#[]⟩) ?_ (ev_pos (by simp; omega) ?_))))))
          · unfold spec_l04Read.e11
            refine ev_bind false (ev_of fun k=>?_) (ev_neg (by simp) ev_some)
            unfold spec_l04Read.e10
            rw [if_neg (fun h=>hp (.inl h)),decide_eq_false (fun h=>hp (.inr h))]
          · rw [dec1 (by omega)]
            exact hx) m at_ bad o [] h (by simpa using hm)
  exact ⟨a,c,l,by simpa using e,by omega,g1,g2,g3⟩
theorem two_eq {a b:Int} (ha:0 ≤ a ∧ a < 256) (hb:0 ≤ b ∧ b < 256):w64 (w64 (a * 256) + b) = a * 256 + b:=by
  rw [w64_id (n:=a * 256) (by omega) (by omega),w64_id (by omega) (by omega)]
theorem stwo_rd {b : List Int} (hb : Byt b) {at_ : Int} {bad : Bool} {o : Option (List Int)} (h : RelS b at_ bad o) :
    ∃ x at1 bad1 y at2 bad2,(∀ k,spec_l03Reader__one_2.f k ⟨b,at_,bad⟩ = some (x,at1,bad1)) ∧ (∀ k,spec_l03Reader__one_2.f k ⟨b,at1,bad1⟩ = some (y,at2,bad2)) ∧ RelS b at2 bad2 (nxt o num2D) ∧ Got o num2D (w64 (w64 (x * 256) + y)) ∧ (0 ≤ x ∧ x < 256) ∧ 0 ≤ y ∧ y < 256:=by
  obtain ⟨x,at1,bad1,e1,r1,g1,h1⟩:=sone_rd hb h
  obtain ⟨y,at2,bad2,e2,r2,g2,h2⟩:=sone_rd hb r1
  refine ⟨x,at1,bad1,y,at2,bad2,e1,e2,?_,got_bind g1 (got_bind g2 (got_pure _ _)),h1,h2⟩
  unfold num2D
  rw [nxt_bind g1,nxt_bind g2,nxt_pure]
  exact r2
theorem scode_rd {b : List Int} (hb : Byt b) {at_ : Int} {bad : Bool} {o : Option (List Int)} (h : RelS b at_ bad o) (acc : List SCode) (ha : acc.length ≤ 1000) :
    ∃ at2 bad2 x,Evr (fun k=>spec_l04Read.e14 k b at_ bad acc) (at2,bad2,acc ++ [x]) ∧ okC x ∧ RelS b at2 bad2 (nxt o codeD) ∧ Got o codeD x:=by
  obtain ⟨n,at1,bad1,e1,r1,g1,hn⟩:=stext_rd hb h
  obtain ⟨p,at2,bad2,e2,r2,g2,_⟩:=sone_rd hb r1
  obtain ⟨c1,at3,bad3,c2,at4,bad4,e3,e4,r4,q34,_⟩:=stwo_rd hb r2
  obtain ⟨r,at5,bad5,e5,r5,g5,_⟩:=sone_rd hb r4
  obtain ⟨m1,at6,bad6,m2,at7,bad7,e6,e7,r7,q67,hm1,hm2⟩:=stwo_rd hb r5
  have em:=two_eq hm1 hm2
  obtain ⟨at8,bad8,l,e8,hl,ok8,r8,g8⟩:=sins_rd hb (m:=(m1 * 256 + m2).toNat) (by omega) r7
  have ez:(((m1 * 256 + m2).toNat:Nat):Int) = m1 * 256 + m2:=by omega
  rw [ez] at e8
  rw [← em] at g8 r8
  refine ⟨at8,bad8,⟨n,p,w64 (w64 (c1 * 256) + c2),r,l⟩,?_,⟨hn,hl,ok8⟩,?_,?_⟩
  · unfold spec_l04Read.e14 spec_l04Read.e13
    refine ev_bind _ (ev_of e1) (ev_bind _ (ev_of e2) (ev_bind _ (ev_of e3) (ev_bind _ (ev_of e4) (ev_bind _ (ev_of e5) (ev_bind _ (ev_of e6) (ev_bind _ (ev_of e7) (ev_bind (at8,bad8,l) ?_ (ev_pos (by simp; omega) ev_some))))))))
    simp only [em]
    exact e8
  · unfold codeD
    rw [nxt_bind g1,nxt_bind g2,nxt_bind q34,nxt_bind g5,nxt_bind q67,nxt_bind g8,nxt_pure]
    exact r8
  · exact got_bind g1 (got_bind g2 (got_bind q34 (got_bind g5 (got_bind q67 (got_bind g8 (got_pure _ _))))))
theorem scodes_rd {b : List Int} (hb : Byt b) {m : Nat} (hm : m ≤ 255) {at_ : Int} {bad : Bool} {o : Option (List Int)} (h : RelS b at_ bad o) :
    ∃ at2 bad2 l,Evr (fun k=>spec_l04Read.l15 k b (m:Int) at_ bad []) (at2,bad2,l) ∧ l.length ≤ 255 ∧ (∀ x ∈ l,okC x) ∧ RelS b at2 bad2 (nxt o (D.many codeD m)) ∧ Got o (D.many codeD m) l:=by
  obtain ⟨a,c,l,e,hl,g1,g2,g3⟩:=down_loop (R:=RelS b) (fun h=>h.no rfl) (fun h=>(h.yes _ rfl).1) (d:=codeD) (ok:=okC) (B:=255) (fun k z at_ bad acc=>spec_l04Read.l15 k b (z:Int) at_ bad acc)
    (fun k z at_ bad acc hz hB=>by
      show spec_l04Read.l15 (k + 1) b (z:Int) at_ bad acc = _
      unfold spec_l04Read.l15 spec_l04Read.e8
      rcases hz with rfl | rfl
      · simp
      · by_cases hc:(0:Int) < (z:Int) <;> simp [hc])
    (fun z at_ s acc hB h ha=>by
      obtain ⟨at1,bad1,x,e1,ok1,r1,g1⟩:=scode_rd hb h acc (by omega)
      refine ⟨at1,bad1,x,ok1,r1,g1,fun r' hx=>?_⟩
      refine ev_step _ (fun k=>rfl) (ev_bind true (ev_of fun k=>by unfold spec_l04Read.e8; rw [if_pos (by omega)]; rfl) (ev_pos rfl (ev_bind _ e1 ?_)))
      rw [dec1 (by omega)]
      exact hx) m at_ bad o [] h (by simpa using hm)
  exact ⟨a,c,l,by simpa using e,by omega,g1,g2,g3⟩
/-- The reference reads as the decoder does. -/
theorem sobj_rd {b : List Int} (hb : Byt b) :
    ∃ x z,Evr (fun k=>spec_l04Read.f k b) (x,decide ((objD b).map Prod.snd = some []) && objB x,z) ∧ ((objD b).map Prod.snd = some [] → Got (some b) objD x):=by
  have hlen:=hb.len
  have t3:List.take (Int.toNat ((3:Int) - 0)) (List.drop (Int.toNat 0) b) = b.take 3:=rfl
  have shr:strOfNums [79,79,49] = ⟨#[79,79,49]⟩:=rfl
  have ht3:takeD ([79,79,49]:List Int).length b = if 3 ≤ b.length then some (b.take 3,b.drop 3) else none:=rfl
  have hd:headD [79,79,49] b = if 3 ≤ b.length ∧ b.take 3 = [79,79,49] then some ((),b.drop 3) else none:=by
    have e:headD [79,79,49] b = (takeD ([79,79,49]:List Int).length b).bind fun p=>if p.1 = [79,79,49] then some ((),p.2) else none:=rfl
    rw [e,ht3]
    by_cases h3:3 ≤ b.length
    · rw [if_pos h3]
      simp only [Option.bind_some]
      by_cases ht:b.take 3 = [79,79,49]
      · rw [if_pos ht,if_pos ⟨h3,ht⟩]
      · rw [if_neg ht,if_neg (fun h=>ht h.2)]
    · rw [if_neg h3,if_neg (fun h=>h3 h.1)]; rfl
  by_cases hh:3 ≤ b.length ∧ b.take 3 = [79,79,49]
  · rw [if_pos hh] at hd
    have r1:RelS b 3 false (nxt (some b) (headD [79,79,49])):=by
      have:nxt (some b) (headD [79,79,49]) = some (b.drop 3):=by unfold nxt; rw [Option.bind_some,hd]; rfl
      rw [this]
      exact ⟨⟨by decide,by omega⟩,fun s hs=>by cases hs; exact ⟨rfl,rfl⟩,fun h=>by cases h⟩
    have g1:Got (some b) (headD [79,79,49]) ():=fun _ _ _=>rfl
    obtain ⟨n,at2,bad2,e2,r2,g2,hn⟩:=stext_rd hb r1
    obtain ⟨p,at3,bad3,e3,r3,g3⟩:=s8_rd hb r2
    obtain ⟨a,at4,bad4,e4,r4,g4,ha⟩:=sone_rd hb r3
    obtain ⟨at5,bad5,needs,e5,l5,ok5,r5,g5⟩:=sneeds_rd hb (m:=a.toNat) (by omega) r4
    obtain ⟨c,at6,bad6,e6,r6,g6,hc⟩:=sone_rd hb r5
    obtain ⟨at7,bad7,globs,e7,l7,ok7,r7,g7⟩:=sglobs_rd hb (m:=c.toNat) (by omega) r6
    obtain ⟨d,at8,bad8,e8,r8,g8,hd'⟩:=sone_rd hb r7
    obtain ⟨at9,bad9,procs,e9,l9,ok9,r9,g9⟩:=scodes_rd hb (m:=d.toNat) (by omega) r8
    rw [show ((a.toNat:Nat):Int) = a by omega] at e5
    rw [show ((c.toNat:Nat):Int) = c by omega] at e7
    rw [show ((d.toNat:Nat):Int) = d by omega] at e9
    have gf:Got (some b) objD ⟨n,p,needs,globs,procs⟩:=got_bind g1 (got_bind g2 (got_bind g3 (got_bind g4 (got_bind g5 (got_bind g6 (got_bind g7 (got_bind g8 (got_bind g9 (got_pure _ _)))))))))
    have nf:nxt (some b) objD = nxt (nxt (nxt (nxt (nxt (nxt (nxt (nxt (nxt (some b) (headD [79,79,49])) textD) (numD 8)) (numD 1)) (D.many needD a.toNat)) (numD 1)) (D.many globD c.toNat)) (numD 1)) (D.many codeD d.toNat):=by
      unfold objD
      rw [nxt_bind g1,nxt_bind g2,nxt_bind g3,nxt_bind g4,nxt_bind g5,nxt_bind g6,nxt_bind g7,nxt_bind g8,nxt_bind g9,nxt_pure]
    refine ⟨⟨n,p,needs,globs,procs⟩,(n,p,needs,globs,procs),?_,fun _=>gf⟩
    have e0:(objD b).map Prod.snd = nxt (some b) objD:=rfl
    rw [e0,nf]
    unfold spec_l04Read.f spec_l04Read.e4 spec_l04Read.e7 spec_l04Read.e16
    refine ev_bind false (ev_of fun k=>?_) (ev_neg (by simp) (ev_bind _ (ev_of e2) (ev_bind _ e3 (ev_bind _ (ev_bind _ (ev_of e4) e5) (ev_bind _ (ev_bind _ (ev_of e6) e7) (ev_bind _ (ev_bind _ (ev_of e8) e9) (ev_bind _ ?_ ev_some)))))))
    · unfold spec_l04Read.e1
      rw [if_neg (by omega),if_pos (by decide),if_pos (by omega),t3,hh.2,shr]
      rfl
    · generalize nxt (nxt (nxt (nxt (nxt (nxt (nxt (nxt (nxt (some b) (headD [79,79,49])) textD) (numD 8)) (numD 1)) (D.many needD a.toNat)) (numD 1)) (D.many globD c.toNat)) (numD 1)) (D.many codeD d.toNat) = o9 at r9 ⊢
      unfold spec_l04Read.e17
      cases o9 with
      | none =>
        obtain rfl:=r9.no rfl
        exact ev_pos rfl ev_some
      | some s =>
        obtain ⟨rfl,hs⟩:=r9.yes s rfl
        have hl:=rels_len r9
        have h9:=r9.at0
        refine ev_neg (by simp) ?_
        by_cases hz:at9 = (b.length:Int)
        · have:s = []:=List.length_eq_zero_iff.1 (by omega)
          subst this
          exact ev_pos hz (ev_bind _ (sobj_ev _ (small_of hn l5 l7 l9 ok5 ok7 ok9)) ev_some)
        · have hne : ¬ (some s = some ([] : List Int)) := fun h => by
            have:=Option.some.inj h
            rw [this] at hl
            have h0:([]:List Int).length = 0:=rfl
            omega
          rw [decide_eq_false hne]
          exact ev_neg hz ev_some
  · rw [if_neg hh] at hd
    have ho:objD b = none:=by
      unfold objD D.bind
      rw [hd]
      rfl
    refine ⟨⟨⟨#[]⟩,0,[],[],[]⟩,(⟨#[]⟩,0,[],[],[]),?_,fun h=>by rw [ho] at h; cases h⟩
    rw [ho]
    unfold spec_l04Read.f
    refine ev_bind true (ev_of fun k=>?_) (ev_pos rfl ev_some)
    unfold spec_l04Read.e1
    by_cases h3:(b.length:Int) < 3
    · rw [if_pos h3]
    · rw [if_neg h3,if_pos (by decide),if_pos (by omega),t3]
      have hne:¬ strOfNums (b.take 3) = ⟨#[79,79,49]⟩:=fun e=>hh ⟨by omega,by
        have e2:=congrArg bytesOf e
        have ob:∀ v ∈ b.take 3,0 ≤ v ∧ v < 256:=fun v hv=>hb.oct v (List.mem_of_mem_take hv)
        have e3:bytesOf (strOfNums (b.take 3)) = b.take 3:=by
          unfold bytesOf strOfNums
          simp only [List.map_map]
          conv=>rhs; rw [← List.map_id (b.take 3)]
          refine List.map_congr_left fun v hv=>?_
          have:=ob v hv
          simp only [Function.comp,UInt8.toNat_ofNat',id]
          omega
        rw [e3] at e2
        exact e2⟩
      rw [decide_eq_false hne]
      rfl
end Go.Proofs.YtoclajfeeebbbadGreatDoor.V
