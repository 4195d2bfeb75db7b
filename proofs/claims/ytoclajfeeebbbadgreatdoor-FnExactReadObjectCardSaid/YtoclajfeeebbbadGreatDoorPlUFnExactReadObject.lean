/- Reading an object: the program's whole reader, and the reference's. -/
import Derived.Test.YtoclajfeeebbbadGreatDoorPlTFnExactReadObject
set_option linter.unusedVariables false
set_option linter.unusedSimpArgs false
namespace Go.Proofs.YtoclajfeeebbbadGreatDoor.V
open Go.RowKit Go.Proofs.YtoclajfeeebbbadGreatDoor.E
theorem icodes_rd {t : ByteArray} (ht : t.size ≤ 1000000) {r : Int × Int × Bool} (hr : 0 ≤ r.1 ∧ r.1 < 256) {at_ : Int} {bad : Bool} {o : Option (List Int)} (h : Rel t at_ bad o) :
    ∃ at2 bad2 l,Evr (fun k=>impl_readObject.l5 k t r 0 at_ bad []) (at2,bad2,l) ∧ l.length ≤ 255 ∧ (∀ x ∈ l,okC x) ∧ Rel t at2 bad2 (nxt o (D.many codeD r.1.toNat)) ∧ Got o (D.many codeD r.1.toNat) l:=by
  obtain ⟨a,b,l,e,hl,g1,g2,g3⟩:=up_loop (R:=Rel t) (d:=codeD) (ok:=okC) (n:=r.1.toNat) (by omega) (fun k i at_ bad acc=>impl_readObject.l5 k t r i at_ bad acc)
    (fun k at_ bad acc=>by rw [impl_readObject.l5,if_neg (by omega)])
    (fun i at_ bad o acc hi h ha=>by
      obtain ⟨at1,bad1,x,z,e1,ok1,r1,g1⟩:=icode_rd ht h
      refine ⟨at1,bad1,x,ok1,r1,g1,fun r' hx=>?_⟩
      refine ev_step _ (fun k=>rfl) (ev_pos (by omega) (ev_bind _ e1 (ev_pos (by simp; omega) ?_)))
      rw [w64_next (by omega)]
      exact hx) _ 0 at_ bad o [] (Nat.zero_add _) h (Nat.le_refl _)
  exact ⟨a,b,l,by simpa using e,by omega,g1,g2,g3⟩
theorem iends_eq {t:ByteArray} {at_:Int} {bad:Bool} {o:Option (List Int)} (h:Rel t at_ bad o) (k:Nat):impl_reader__ends_1.f k ⟨t,at_,bad⟩ = some (decide (o = some [])):=by
  unfold impl_reader__ends_1.f impl_reader__ends_1.e1
  cases o with
  | none=>obtain rfl:=h.no rfl; simp
  | some s =>
    obtain ⟨rfl,hs⟩:=h.yes s rfl
    have hl:=rel_len h
    have ha:=h.at0
    simp only [Bool.false_eq_true,if_false,Option.bind_some,Option.some.injEq,decide_eq_decide]
    rw [← List.length_eq_zero_iff]
    omega
theorem small_of {n:ByteArray} {p:Int} {needs globs:List SNeed} {procs:List SCode} (hn:n.size ≤ 255) (l1:needs.length ≤ 255) (l2:globs.length ≤ 255) (l3:procs.length ≤ 255) (k1:∀ x ∈ needs,okN x) (k2:∀ x ∈ globs,okN x) (k3:∀ x ∈ procs,okC x):SmallO ⟨n,p,needs,globs,procs⟩ :=
  ⟨Nat.le_trans hn (by decide),Nat.le_trans l1 (by decide),Nat.le_trans l2 (by decide),Nat.le_trans l3 (by decide),fun x hx=>Nat.le_trans (k1 x hx) (by decide),fun x hx=>Nat.le_trans (k2 x hx) (by decide),fun x hx=>by
    obtain ⟨c1,c2,c3⟩:=k3 x hx
    exact ⟨Nat.le_trans c2 (by decide),Nat.le_trans c1 (by decide),fun y hy=>⟨Nat.le_trans (c3 y hy).1 (by decide),Nat.le_trans (c3 y hy).2 (by decide)⟩⟩⟩
/-- The program reads as the decoder does. -/
theorem iobj_rd (t : ByteArray) (ht : t.size ≤ 1000000) :
    ∃ x z,Evr (fun k=>impl_readObject.f k t) (x,decide ((objD (bytesOf t)).map Prod.snd = some []) && objB x,z) ∧ Got (some (bytesOf t)) objD x:=by
  have h0:Rel t 0 false (some (bytesOf t)):=⟨⟨Int.le_refl _,by omega⟩,fun s hs=>by cases hs; exact ⟨rfl,rfl⟩,fun h=>by cases h⟩
  obtain ⟨at1,bad1,e1,r1⟩:=irhead_ev h0 ht ⟨#[79,79,49]⟩ (by decide)
  have r1:Rel t at1 bad1 (nxt (some (bytesOf t)) (headD [79,79,49])):=r1
  have g1:Got (some (bytesOf t)) (headD [79,79,49]) ():=fun _ _ _=>rfl
  obtain ⟨n,at2,bad2,e2,r2,g2,hn⟩:=itext_ev r1 ht
  obtain ⟨p,at3,bad3,e3,r3,g3⟩:=inum8_ev r2 ht
  obtain ⟨a,at4,bad4,e4,r4,g4,ha⟩:=inum1_ev r3 ht
  obtain ⟨at5,bad5,needs,e5,l5,ok5,r5,g5⟩:=ineeds_rd ht (r:=(a,at4,bad4)) ha r4
  obtain ⟨b,at6,bad6,e6,r6,g6,hb⟩:=inum1_ev r5 ht
  obtain ⟨at7,bad7,globs,e7,l7,ok7,r7,g7⟩:=iglobs_rd ht (r:=(b,at6,bad6)) hb r6
  obtain ⟨c,at8,bad8,e8,r8,g8,hc⟩:=inum1_ev r7 ht
  obtain ⟨at9,bad9,procs,e9,l9,ok9,r9,g9⟩:=icodes_rd ht (r:=(c,at8,bad8)) hc r8
  have gf:Got (some (bytesOf t)) objD ⟨n,p,needs,globs,procs⟩:=got_bind g1 (got_bind g2 (got_bind g3 (got_bind g4 (got_bind g5 (got_bind g6 (got_bind g7 (got_bind g8 (got_bind g9 (got_pure _ _)))))))))
  have e0:(objD (bytesOf t)).map Prod.snd = nxt (some (bytesOf t)) objD:=rfl
  have nf:nxt (some (bytesOf t)) objD = nxt (nxt (nxt (nxt (nxt (nxt (nxt (nxt (nxt (some (bytesOf t)) (headD [79,79,49])) textD) (numD 8)) (numD 1)) (D.many needD a.toNat)) (numD 1)) (D.many globD b.toNat)) (numD 1)) (D.many codeD c.toNat):=by
    unfold objD
    rw [nxt_bind g1,nxt_bind g2,nxt_bind g3,nxt_bind g4,nxt_bind g5,nxt_bind g6,nxt_bind g7,nxt_bind g8,nxt_bind g9,nxt_pure]
  refine ⟨⟨n,p,needs,globs,procs⟩,(n,p,needs,globs,procs),?_,gf⟩
  have hend:=iends_eq r9
  rw [e0,nf]
  unfold impl_readObject.f impl_readObject.e2 impl_readObject.e4 impl_readObject.e6
  refine ev_bind _ e1 (ev_bind _ e2 (ev_bind _ e3 (ev_bind _ (ev_bind _ e4 e5) (ev_bind _ (ev_bind _ e6 e7) (ev_bind _ (ev_bind _ e8 e9) (ev_bind _ ?_ ev_some))))))
  unfold impl_readObject.e7
  refine ev_bind _ (ev_of hend) ?_
  cases decide (nxt (nxt (nxt (nxt (nxt (nxt (nxt (nxt (nxt (some (bytesOf t)) (headD [79,79,49])) textD) (numD 8)) (numD 1)) (D.many needD a.toNat)) (numD 1)) (D.many globD b.toNat)) (numD 1)) (D.many codeD c.toNat) = some []) with
  | false=>exact ev_some
  | true=>exact ev_pos rfl (ev_bind _ (iobj_ev _ (small_of hn l5 l7 l9 ok5 ok7 ok9)) ev_some)
/-! The reference's reader. -/
structure RelS (b:List Int) (at_:Int) (bad:Bool) (o:Option (List Int)):Prop where
  at0:0 ≤ at_ ∧ at_ ≤ b.length
  yes:∀ s,o = some s → bad = false ∧ b.drop at_.toNat = s
  no:o = none → bad = true
theorem rels_len {b:List Int} {at_:Int} {bad:Bool} {s:List Int} (h:RelS b at_ bad (some s)):s.length = b.length - at_.toNat:=by
  rw [← (h.yes s rfl).2,List.length_drop]
structure Byt (b:List Int):Prop where
  oct:∀ v ∈ b,0 ≤ v ∧ v < 256
  len:b.length ≤ 1000000
theorem sone_rd {b : List Int} (hb : Byt b) {at_ : Int} {bad : Bool} {o : Option (List Int)} (h : RelS b at_ bad o) :
    ∃ v at2 bad2,(∀ k,spec_l03Reader__one_2.f k ⟨b,at_,bad⟩ = some (v,at2,bad2)) ∧ RelS b at2 bad2 (nxt o (numD 1)) ∧ Got o (numD 1) v ∧ 0 ≤ v ∧ v < 256:=by
  have hat:=h.at0
  have hbl:=hb.len
  cases o with
  | none =>
    obtain rfl:=h.no rfl
    exact ⟨0,at_,true,fun k=>by simp [spec_l03Reader__one_2.f,spec_l03Reader__one_2.e1],h,got_none _ _,by decide,by decide⟩
  | some s =>
    obtain ⟨rfl,hs⟩:=h.yes s rfl
    have hl:=rels_len h
    by_cases hc:(b.length:Int) ≤ at_
    · obtain rfl:s = []:=List.length_eq_zero_iff.1 (by omega)
      refine ⟨0,at_,true,fun k=>by simp [spec_l03Reader__one_2.f,spec_l03Reader__one_2.e1,hc],⟨hat,(fun z hz=>(by cases hz)),fun _=>rfl⟩,(fun x z hz=>(by cases hz)),by decide,by decide⟩
    · have hi:at_.toNat < b.length:=by omega
      have hx:=hb.oct _ (List.getElem_mem hi)
      have hd:s = b[at_.toNat] :: b.drop (at_.toNat + 1):=by rw [← hs]; exact List.drop_eq_getElem_cons hi
      have e1:w64 (at_ + 1) = at_ + 1:=w64_id (by omega) (by omega)
      have e2:w64 (at_ + 1 - 1) = at_:=by rw [show at_ + 1 - 1 = at_ by omega]; exact w64_id (by omega) (by omega)
      have e3:w64 b[at_.toNat] = b[at_.toNat]:=w64_id (by omega) (by omega)
      have en:nxt (some s) (numD 1) = some (b.drop (at_.toNat + 1)):=by
        unfold nxt
        rw [Option.bind_some,hd,numD1_cons hx.1 hx.2]
        rfl
      refine ⟨b[at_.toNat],at_ + 1,false,fun k=>?_,⟨by omega,fun z hz=>?_,fun hz=>?_⟩,fun x z hz=>?_,hx⟩
      · unfold spec_l03Reader__one_2.f spec_l03Reader__one_2.e1
        simp only [Bool.false_eq_true,if_false,decide_eq_false hc,Option.bind_some,e1,e2]
        rw [at?_int (by omega) (by omega)]
        simp only [Option.bind_some,e3]
      · rw [en] at hz
        cases hz
        refine ⟨rfl,?_⟩
        congr 1
        omega
      · rw [en] at hz; cases hz
      · rw [Option.bind_some,hd,numD1_cons hx.1 hx.2] at hz
        simp only [Option.some.injEq,Prod.mk.injEq] at hz
        exact hz.1
theorem stext_rd {b : List Int} (hb : Byt b) {at_ : Int} {bad : Bool} {o : Option (List Int)} (h : RelS b at_ bad o) :
    ∃ v at2 bad2,(∀ k,spec_l03Reader__text_2.f k ⟨b,at_,bad⟩ = some (v,at2,bad2)) ∧ RelS b at2 bad2 (nxt o textD) ∧ Got o textD v ∧ v.size ≤ 255:=by
  obtain ⟨n,at1,bad1,e1,r1,g1,hn⟩:=sone_rd hb h
  have hat:=r1.at0
  have hbl:=hb.len
  have nt:nxt o textD = nxt (nxt o (numD 1)) (D.bind (takeD n.toNat) fun l=>D.pure (strOfNums l)):=nxt_bind g1
  have gt:∀ v,Got (nxt o (numD 1)) (D.bind (takeD n.toNat) fun l=>D.pure (strOfNums l)) v → Got o textD v:=fun v hv=>got_bind g1 hv
  rw [nt]
  cases ho:nxt o (numD 1) with
  | none =>
    rw [ho] at r1 gt
    obtain rfl:=r1.no rfl
    refine ⟨⟨#[]⟩,at1,true,fun k=>?_,r1,gt _ (got_none _ _),Nat.zero_le _⟩
    unfold spec_l03Reader__text_2.f spec_l03Reader__text_2.e1
    simp [e1]
  | some s =>
    rw [ho] at r1 gt
    obtain ⟨rfl,hs⟩:=r1.yes s rfl
    have hl:=rels_len r1
    have w1:w64 (at1 + n) = at1 + n:=w64_id (by omega) (by omega)
    have w2:w64 (at1 + n - n) = at1:=by rw [show at1 + n - n = at1 by omega]; exact w64_id (by omega) (by omega)
    have w3:w64 at1 = at1:=w64_id (by omega) (by omega)
    by_cases hc:(b.length:Int) < at1 + n
    · have ht:takeD n.toNat s = none:=by unfold takeD; rw [if_neg (by omega)]
      have hd:D.bind (takeD n.toNat) (fun l=>D.pure (strOfNums l)) s = none:=by unfold D.bind; rw [ht]; rfl
      refine ⟨⟨#[]⟩,at1,true,fun k=>?_,⟨hat,fun z hz=>?_,fun _=>rfl⟩,gt _ (fun x z hz=>?_),Nat.zero_le _⟩
      · unfold spec_l03Reader__text_2.f spec_l03Reader__text_2.e1
        simp [e1,w1,hc]
      · unfold nxt at hz
        rw [Option.bind_some,hd] at hz
        cases hz
      · rw [Option.bind_some,hd] at hz
        cases hz
    · have ht:takeD n.toNat s = some (s.take n.toNat,s.drop n.toNat):=by unfold takeD; rw [if_pos (by omega)]
      have hd:D.bind (takeD n.toNat) (fun l=>D.pure (strOfNums l)) s = some (strOfNums (s.take n.toNat),s.drop n.toNat):=by unfold D.bind; rw [ht]; rfl
      refine ⟨strOfNums (s.take n.toNat),at1 + n,false,fun k=>?_,⟨by omega,fun z hz=>?_,fun hz=>?_⟩,gt _ (fun x z hz=>?_),?_⟩
      · unfold spec_l03Reader__text_2.f spec_l03Reader__text_2.e1
        have c1:(0:Int) ≤ at1:=hat.1
        have c2:at1 ≤ at1 + n:=by omega
        have c3:at1 + n ≤ (b.length:Int):=by omega
        have c4:(at1 + n - at1).toNat = n.toNat:=by omega
        simp only [e1,Option.bind_some,Bool.false_eq_true,if_false,w1,w2,w3,decide_eq_false hc,if_pos c1,if_pos c2,if_pos c3,c4,hs]
      · unfold nxt at hz
        rw [Option.bind_some,hd] at hz
        simp only [Option.map_some,Option.some.injEq] at hz
        refine ⟨rfl,?_⟩
        rw [← hz,← hs,List.drop_drop]
        congr 1
        omega
      · unfold nxt at hz
        rw [Option.bind_some,hd] at hz
        cases hz
      · rw [Option.bind_some,hd] at hz
        simp only [Option.some.injEq,Prod.mk.injEq] at hz
        exact hz.1
      · show (List.map _ (s.take n.toNat)).toArray.size ≤ 255
        simp
        omega
theorem s8_loop {b : List Int} (hb : Byt b) (q : S909f20) (hq : q.f0 = b) : ∀ (m i : Nat) (z : Int) (at_ : Int) (bad : Bool) (o : Option (List Int)), i + m = 8 → RelS b at_ bad o →
    ∃ z2 at2 bad2,Evr (fun k=>spec_l03Reader__eight_2.l1 k q z (i:Int) at_ bad) (z2,at2,bad2) ∧ RelS b at2 bad2 (nxt o (takeD m)) ∧ ∀ l s,o.bind (takeD m) = some (l,s) → z2 = l.foldl (fun z x=>ior .i64 (ishl .i64 z 8) (w64 x)) z
  | 0,i,z,at_,bad,o,hm,h=>by
    refine ⟨z,at_,bad,ev_step _ (fun k=>rfl) (ev_neg (by omega) ev_some),?_,fun l s hl=>?_⟩
    · have:nxt o (takeD 0) = o:=by cases o <;> simp [nxt,takeD]
      rw [this]; exact h
    · cases o with
      | none=>cases hl
      | some s0 =>
        simp [takeD] at hl
        rw [hl.1]
        rfl
  | m + 1,i,z,at_,bad,o,hm,h=>by
    obtain ⟨v,at1,bad1,e1,r1,g1,hv⟩:=sone_rd hb h
    obtain ⟨z2,at2,bad2,e2,r2,h2⟩:=s8_loop hb q hq m (i + 1) (ior .i64 (ishl .i64 z 8) v) at1 bad1 _ (by omega) r1
    have key:∀ s0,o = some s0 → ∀ x ∈ s0,0 ≤ x ∧ x < 256:=fun s0 hs x hx=>by
      rw [← (h.yes s0 hs).2] at hx
      exact hb.oct x (List.mem_of_mem_drop hx)
    have en:nxt o (takeD (m + 1)) = nxt (nxt o (numD 1)) (takeD m):=by
      cases o with
      | none=>rfl
      | some s0 =>
        cases s0 with
        | nil=>rfl
        | cons x s1 =>
          obtain ⟨h0,h1⟩:=key _ rfl x (by simp)
          unfold nxt
          rw [Option.bind_some,Option.bind_some,numD1_cons h0 h1]
          simp only [Option.map_some,Option.bind_some]
          unfold takeD
          by_cases hc:m ≤ s1.length
          · rw [if_pos hc,if_pos (by simp; omega)]; rfl
          · rw [if_neg hc,if_neg (by simp; omega)]
    refine ⟨z2,at2,bad2,ev_step _ (fun k=>rfl) (ev_pos (by omega) ?_),by rw [en]; exact r2,fun l s hl=>?_⟩
    · rw [hq]
      refine ev_bind _ (ev_of e1) ?_
      rw [w64_next (by omega)]
      exact e2
    · cases o with
      | none=>cases hl
      | some s0 =>
        cases s0 with
        | nil=>cases hl
        | cons x s1 =>
          obtain ⟨h0,h1⟩:=key _ rfl x (by simp)
          have hg:=g1 x s1 (by rw [Option.bind_some,numD1_cons h0 h1])
          subst hg
          rw [Option.bind_some] at hl
          unfold takeD at hl
          split at hl
          · rename_i hc
            simp only [List.length_cons] at hc
            simp only [List.take_succ_cons,List.drop_succ_cons,Option.some.injEq,Prod.mk.injEq] at hl
            obtain ⟨rfl,rfl⟩:=hl
            have:=h2 (s1.take m) (s1.drop m) (by
              unfold nxt
              rw [Option.bind_some,numD1_cons h0 h1]
              simp only [Option.map_some,Option.bind_some]
              unfold takeD
              rw [if_pos (by omega)])
            rw [this,List.foldl_cons,w64_id (by omega) (by omega)]
          · cases hl
theorem s8_rd {b : List Int} (hb : Byt b) {at_ : Int} {bad : Bool} {o : Option (List Int)} (h : RelS b at_ bad o) :
    ∃ v at2 bad2,Evr (fun k=>spec_l03Reader__eight_2.f k ⟨b,at_,bad⟩) (v,at2,bad2) ∧ RelS b at2 bad2 (nxt o (numD 8)) ∧ Got o (numD 8) v:=by
  obtain ⟨v,at2,bad2,e,r,g⟩:=s8_loop hb ⟨b,at_,bad⟩ rfl 8 0 0 at_ bad o (by omega) h
  have en:nxt o (numD 8) = nxt o (takeD 8):=by
    cases o with
    | none=>rfl
    | some s =>
      unfold nxt numD D.bind
      rw [Option.bind_some,Option.bind_some]
      cases takeD 8 s <;> rfl
  refine ⟨v,at2,bad2,ev_bind _ e ev_some,by rw [en]; exact r,fun x s hx=>?_⟩
  cases o with
  | none=>cases hx
  | some s0 =>
    rw [Option.bind_some] at hx
    unfold numD D.bind at hx
    cases ht:takeD 8 s0 with
    | none=>rw [ht] at hx; cases hx
    | some p =>
      rw [ht] at hx
      simp only [Option.bind_some,D.pure,Option.some.injEq,Prod.mk.injEq] at hx
      rw [← hx.1]
      exact g p.1 p.2 (by rw [Option.bind_some,ht])
end Go.Proofs.YtoclajfeeebbbadGreatDoor.V
