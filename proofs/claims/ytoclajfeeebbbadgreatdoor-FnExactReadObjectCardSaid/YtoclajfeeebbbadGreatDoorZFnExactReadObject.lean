/- The law's own functions that take and give rows within rows: an object read, written over; the law itself. -/
import Derived.Test.YtoclajfeeebbbadGreatDoorPFnExactReadObject1
import Derived.Test.YtoclajfeeebbbadGreatDoorEngAN
import Derived.Test.YtoclajfeeebbbadGreatDoorProg
set_option maxRecDepth 100000
set_option linter.unusedVariables false
set_option linter.unusedSectionVars false
set_option linter.unusedSimpArgs false
namespace Go.Proofs.YtoclajfeeebbbadGreatDoor.E
open Go.RowKit
variable [E1:Lent]
abbrev VC:=Value × SCode
def eCV (p:VC):List PC:=[cS p.2.f0,cI p.2.f1,cI p.2.f2,cI p.2.f3,.sc p.1]
def rCV (p:VC):Rw:=⟨p.1,58,List.map eSIns p.2.f4⟩
def oRows (uN uG uP:Value) (ns gs:List SNeed) (z:List VC):List Rw:=(z.map rCV ++ [⟨uP,56,z.map eCV⟩]) ++ [⟨uN,51,List.map eSNeed ns⟩,⟨uG,53,List.map eSNeed gs⟩]
theorem flat_ins (l:List SIns):flatXs (List.map eSIns l) = true:=by simp [flatXs,PC.scalar,cI,cK,cS,eSIns]
theorem flat_needs (l:List SNeed):flatXs (List.map eSNeed l) = true:=by simp [flatXs,PC.scalar,cI,cK,cS,eSNeed]
theorem flat_codes (l:List VC):flatXs (List.map eCV l) = true:=by simp [flatXs,PC.scalar,cI,cK,cS,eCV]
theorem at?_snd {z:List VC} {i:Int} {x:SCode} (h:at? (z.map (·.2)) i = some x):∃ v,at? z i = some (v,x):=by
  unfold at? at h ⊢
  split at h
  · rename_i h0
    rw [if_pos h0]
    rw [List.getElem?_map,Option.map_eq_some_iff] at h
    obtain ⟨p,hp,rfl⟩:=h
    exact ⟨p.1,hp⟩
  · cases h
theorem at?_set' {α:Type} {z:List α} {i:Int} {o n:α} (h:at? z i = some o):at? (z.set (Int.toNat i) n) i = some n:=by
  have h0:=at?_0 h
  have h1:=(List.getElem?_eq_some_iff.1 (at?_get h)).1
  unfold at?
  rw [if_pos h0]
  simp [h1]
theorem set_same {α β:Type} {f:α → β} {z:List α} {i:Nat} {a b:α} (h:f a = f b):(z.set i a).map f = (z.set i b).map f:=by rw [List.map_set,List.map_set,h]
theorem lent_codes {w:World} {S':Nat → Prop} {u:Value} {z:List VC} {o:Option Nat} (hu:RepOwn Tryz.prog w (fun _=>False) 56 (z.map eCV) u o) (hg:∀ k,o = some k → S' k) (hz:∀ p ∈ z,RepS w S' (.sl 5 (List.map eSIns p.2.f4)) p.1):RepS w S' (.sl 5 (List.map eSCode (z.map (·.2)))) u:=by
  rw [List.map_map]
  refine row_lent (eV:=eCV) (by kernel_rfl) hu hg (fun _ _=>rfl) fun p hp j x' hx'=>?_
  rcases j with _ | _ | _ | _ | _ | j <;> simp only [Function.comp,eSCode,List.getElem?_cons_zero,List.getElem?_cons_succ,List.getElem?_nil,Option.some.injEq] at hx' <;> first | (cases hx'; done) | subst hx'
  · exact ⟨_,rfl,fun v h=>h.bareS rfl⟩
  · exact ⟨_,rfl,fun v h=>h.bareS rfl⟩
  · exact ⟨_,rfl,fun v h=>h.bareS rfl⟩
  · exact ⟨_,rfl,fun v h=>h.bareS rfl⟩
  · exact ⟨.sc p.1,rfl,fun v h=>by rw [h.sc_eq]; exact hz p hp⟩
theorem lent_row {w:World} {S':Nat → Prop} {v:Value} {e s:Nat} {xs:List (List PC)} {o:Option Nat} (h:RepOwn Tryz.prog w (fun _=>False) e xs v o) (hs:Tryz.prog.cellsOf e = s) (hg:∀ k,o = some k → S' k):RepS w S' (.sl s xs) v:=by
  have:=RepOwn.share (r:=⟨fun _=>False,fun _=>0,fun _=>none,fun _=>undef⟩) (Sh':=S') h (fun _ h=>h.elim) hg
  rwa [hs] at this
theorem obj_enter {E2:Lent} {uN uG uP:Value} {ns gs:List SNeed} {z:List VC} {nb:Nat} (hE:E2.env = (uN,PC.sl 2 (List.map eSNeed ns)) :: (uG,PC.sl 2 (List.map eSNeed gs)) :: (uP,PC.sl 5 (List.map eSCode (z.map (·.2)))) :: E1.env) (w:World) (r:Rs) (hh:Held Tryz.prog w r nb (oRows uN uG uP ns gs z)) (hl:@LaidFacts.LW (@lf E1) w r.Sh):@LaidFacts.LW (@lf E2) w (fun g=>r.Sh g ∨ g ∈ bks (oRows uN uG uP ns gs z)):=by
  have hmN:(⟨uN,51,List.map eSNeed ns⟩:Rw) ∈ oRows uN uG uP ns gs z:=by simp [oRows]
  have hmG:(⟨uG,53,List.map eSNeed gs⟩:Rw) ∈ oRows uN uG uP ns gs z:=by simp [oRows]
  have hmP:(⟨uP,56,z.map eCV⟩:Rw) ∈ oRows uN uG uP ns gs z:=by simp [oRows]
  have hmI:∀ p ∈ z,rCV p ∈ oRows uN uG uP ns gs z:=fun p hp=>List.mem_append_left _ (List.mem_append_left _ (List.mem_map_of_mem hp))
  refine lf_more hl (fun g h=>.inl h) fun p hp=>?_
  rw [hE] at hp
  rcases List.mem_cons.1 hp with rfl | hp
  · exact .inr (lent_row (hh.own _ hmN) (by kernel_rfl) fun k hk=>.inr (bks_mem.2 ⟨_,hmN,hk⟩))
  rcases List.mem_cons.1 hp with rfl | hp
  · exact .inr (lent_row (hh.own _ hmG) (by kernel_rfl) fun k hk=>.inr (bks_mem.2 ⟨_,hmG,hk⟩))
  rcases List.mem_cons.1 hp with rfl | hp
  · exact .inr (lent_codes (hh.own _ hmP) (fun k hk=>.inr (bks_mem.2 ⟨_,hmP,hk⟩)) fun p hp=>lent_row (hh.own _ (hmI p hp)) (by kernel_rfl) fun k hk=>.inr (bks_mem.2 ⟨_,hmI p hp,hk⟩))
  · exact .inl hp
theorem known {E2:Lent} {f:FuncId} {args args':List PV} {res:PV} {u:Value} {s:Nat} {xs:List (List PC)} (hu:(u,PC.sl s xs) ∈ E2.env) (h:@Fn (@lf E2) Tryz.prog f args [] res []) (t c:Nat) (hp:((⟨args'.length,enum 0 args',[],0,[]⟩:St).at (.t t c),(⟨args'.length,enum 0 args',[],0,[]⟩:St).setAt (.t t c) (.sl s xs)) = (some (.sc u),⟨args.length,enum 0 args,[],0,[]⟩):=by kernel_rfl):@Fn (@lf E2) Tryz.prog f args' [] res [] :=
  @Fn.known Tryz.prog (@lf E2) f args args' [] res [] h t c u (.sl s xs) (fun w Sh hl=>lf_at hl hu) rfl rfl (by intro h; cases h) (fun _ _ _ _ _ h=>⟨rfl,h⟩) hp
/-! Marks. -/
def mkC.l1:Nat → List SCode → Int → Int → Option (List SCode × Int)
  | 0,_,_,_=>none
  | k + 1,z,n,i=>if i < (z.length:Int) then (at? z i).bind fun x=>(laws_markText.f k n).bind fun t=>(laws_markInsS_1.f k x.f4 (w64 (w64 (w64 (w64 (n + 1) + 1) + 1) + 1))).bind fun r=>mkC.l1 k (z.set (Int.toNat i) ⟨t,w64 (n + 1),w64 (w64 (n + 1) + 1),w64 (w64 (w64 (n + 1) + 1) + 1),r.2⟩) r.1 (w64 (i + 1)) else some (z,n)
theorem laws_markCodeS.fn2 {k:Nat} {u:Value} {z0:List VC} {a1:Int} {r:List SCode × Int} (H:mkC.l1 k (z0.map (·.2)) a1 0 = some r):Fn2 Tryz.prog 20 [o1 (.sc u),oI a1] (z0.map rCV ++ [⟨u,56,z0.map eCV⟩]) (fun res ρ=>res = oI r.2 ∧ ∃ z:List VC,z.map (·.2) = r.1 ∧ ρ = z.map rCV ++ [⟨u,56,z.map eCV⟩]):=by
  refine Fn2.bodyK 4 Tryz.func20 ?_
  refine rx2 [0,1] 0 [] [] ⟨49,[(0,o1 (.own 56 (z0.map eCV))),(1,oI a1)],[],0,[0]⟩ ?_
  refine Tri2.join (α:=List VC) (fun z=>z.map (·.2) = r.1) (fun z=>⟨49,[(0,o1 (.own 56 (z.map eCV))),(1,oI r.2)],[],0,[0]⟩) (fun z=>z.map rCV) (fun z hz=>?_) ?_
  · refine rx2 [0,4] 0 [] [] ⟨49,[(0,o1 (.own 56 (z.map eCV))),(4,oI r.2)],[],0,[0]⟩ ?_
    refine Tri2.ret ?_
    exact ⟨oI r.2,z.map eCV,⟨.inr rfl,rfl,rfl,by decide,flat_codes z⟩,rfl,z,hz,rfl⟩
  refine rx2 [0,1,5] 0 [] [] ⟨49,[(0,o1 (.own 56 (z0.map eCV))),(1,oI a1),(5,oI 0)],[],0,[0]⟩ ?_
  refine bl2 ?_
  refine Tri2.loop k (TriR2.ind (α:=List VC × Int × Int) (fun k x=>mkC.l1 k (x.1.map (·.2)) x.2.1 x.2.2) (fun x=>⟨49,[(0,o1 (.own 56 (x.1.map eCV))),(1,oI x.2.1),(5,oI x.2.2)],[],0,[0]⟩) (fun x=>x.1.map rCV) (fun _=>rfl) (fun k x h20 IH=>?_) k (z0,a1,0) H)
  obtain ⟨z,n,i⟩:=x
  dsimp only at h20
  rw [mkC.l1.eq_2,List.length_map] at h20
  refine Tri2.seq ?_
  refine rn2 [0,1,5,9] 0 [] [hL 2 eCV z] ?_
  refine ci2 h20 (fun h11 h20=>?_) fun h11 h20=>?_
  · refine Tri2.skip ?_
    refine Tri2.seq ?_
    refine bl2 ?_
    obtain ⟨x,h13,h20⟩:=bs h20
    obtain ⟨v,hz0⟩:=at?_snd h13
    obtain ⟨t,ht,h20⟩:=bs h20
    obtain ⟨r1,hr1,h20⟩:=bs h20
    have hz:=at?_get hz0
    have hz1:=at?_set' (n:=((v,(⟨t,x.f1,x.f2,x.f3,x.f4⟩:SCode)):VC)) hz0
    have hz2:=at?_set' (n:=((v,(⟨t,w64 (n + 1),x.f2,x.f3,x.f4⟩:SCode)):VC)) hz1
    have hz3:=at?_set' (n:=((v,(⟨t,w64 (n + 1),w64 (w64 (n + 1) + 1),x.f3,x.f4⟩:SCode)):VC)) hz2
    have hz4:=at?_set' (n:=((v,(⟨t,w64 (n + 1),w64 (w64 (n + 1) + 1),w64 (w64 (w64 (n + 1) + 1) + 1),x.f4⟩:SCode)):VC)) hz3
    rw [List.set_set] at hz2
    rw [List.set_set,List.set_set] at hz3
    rw [List.set_set,List.set_set,List.set_set] at hz4
    refine rn2 [0,1,5] 0 [] [hC 3 (laws_markText.fn ht),hE 4 eCV hz0,hF 5 eCV hz0,hW 6 (.t 0 0) 56 eCV hz0 (v,(⟨t,x.f1,x.f2,x.f3,x.f4⟩:SCode))] ?_
    refine rx2 [0,1,5] 0 [] [] ⟨49,[(0,o1 (.own 56 ((z.set (Int.toNat i) (v,(⟨t,x.f1,x.f2,x.f3,x.f4⟩:SCode))).map eCV))),(1,oI (w64 (n + 1))),(5,oI i)],[],0,[0]⟩ ?_
    refine rn2 [0,1,5] 0 [] [hE 3 eCV hz1,hF 4 eCV hz1,hW 5 (.t 0 0) 56 eCV hz1 (v,(⟨t,w64 (n + 1),x.f2,x.f3,x.f4⟩:SCode))] ?_
    refine rx2 [0,1,5] 0 [] [] ⟨49,[(0,o1 (.own 56 (((z.set (Int.toNat i) (v,(⟨t,x.f1,x.f2,x.f3,x.f4⟩:SCode))).set (Int.toNat i) (v,(⟨t,w64 (n + 1),x.f2,x.f3,x.f4⟩:SCode))).map eCV))),(1,oI (w64 (w64 (n + 1) + 1))),(5,oI i)],[],0,[0]⟩ ?_
    rw [List.set_set]
    refine rn2 [0,1,5] 0 [] [hE 3 eCV hz2,hF 4 eCV hz2,hW 5 (.t 0 0) 56 eCV hz2 (v,(⟨t,w64 (n + 1),w64 (w64 (n + 1) + 1),x.f3,x.f4⟩:SCode))] ?_
    refine rx2 [0,1,5] 0 [] [] ⟨49,[(0,o1 (.own 56 (((z.set (Int.toNat i) (v,(⟨t,w64 (n + 1),x.f2,x.f3,x.f4⟩:SCode))).set (Int.toNat i) (v,(⟨t,w64 (n + 1),w64 (w64 (n + 1) + 1),x.f3,x.f4⟩:SCode))).map eCV))),(1,oI (w64 (w64 (w64 (n + 1) + 1) + 1))),(5,oI i)],[],0,[0]⟩ ?_
    rw [List.set_set]
    refine rn2 [0,1,5] 0 [] [hE 3 eCV hz3,hF 4 eCV hz3,hW 5 (.t 0 0) 56 eCV hz3 (v,(⟨t,w64 (n + 1),w64 (w64 (n + 1) + 1),w64 (w64 (w64 (n + 1) + 1) + 1),x.f4⟩:SCode))] ?_
    refine rx2 [0,1,5] 0 [] [] ⟨49,[(0,o1 (.own 56 (((z.set (Int.toNat i) (v,(⟨t,w64 (n + 1),w64 (w64 (n + 1) + 1),x.f3,x.f4⟩:SCode))).set (Int.toNat i) (v,(⟨t,w64 (n + 1),w64 (w64 (n + 1) + 1),w64 (w64 (w64 (n + 1) + 1) + 1),x.f4⟩:SCode))).map eCV))),(1,oI (w64 (w64 (w64 (w64 (n + 1) + 1) + 1) + 1))),(5,oI i)],[],0,[0]⟩ ?_
    rw [List.set_set]
    refine Tri2.region ?_
    refine ew 6 [hE 2 eCV hz4,hF 3 eCV hz4,hF 4 eCV hz4] ?_
    refine TriO2.perm (perm_at hz) ?_
    refine TriO2.call (d:=47) [] (ρa:=[rCV (v,x)]) (ρ0:=(z.eraseIdx (Int.toNat i)).map rCV) (Fn2.ofGK (laws_markInsS_1.fn hr1) rfl (flat_ins _)) (fun res ρr ⟨e1,_⟩=>by subst e1; rfl) (fun res ρr ⟨e1,e2⟩=>?_)
    subst e1 e2
    refine ew 1 [] ?_
    refine exx [0,1,5] 0 [] ⟨49,[(0,o1 (.own 56 ((z.set (Int.toNat i) (v,(⟨t,w64 (n + 1),w64 (w64 (n + 1) + 1),w64 (w64 (w64 (n + 1) + 1) + 1),x.f4⟩:SCode))).map eCV))),(1,oI r1.1),(5,oI i)],[],0,[0]⟩ ?_
    rw [set_same (f:=eCV) (z:=z) (i:=Int.toNat i) (show eCV (v,(⟨t,w64 (n + 1),w64 (w64 (n + 1) + 1),w64 (w64 (w64 (n + 1) + 1) + 1),x.f4⟩:SCode)) = eCV (v,(⟨t,w64 (n + 1),w64 (w64 (n + 1) + 1),w64 (w64 (w64 (n + 1) + 1) + 1),r1.2⟩:SCode)) from rfl)]
    refine TriO2.perm (ρ':=(z.set (Int.toNat i) (v,(⟨t,w64 (n + 1),w64 (w64 (n + 1) + 1),w64 (w64 (w64 (n + 1) + 1) + 1),r1.2⟩:SCode))).map rCV) (perm_back (f:=rCV) (n:=(v,(⟨t,w64 (n + 1),w64 (w64 (n + 1) + 1),w64 (w64 (w64 (n + 1) + 1) + 1),r1.2⟩:SCode))) (List.getElem?_eq_some_iff.1 hz).1) ?_
    refine TriO2.nil ?_
    refine rlx2 [0,1,5] 0 [] [] ⟨49,[(0,o1 (.own 56 ((z.set (Int.toNat i) (v,(⟨t,w64 (n + 1),w64 (w64 (n + 1) + 1),w64 (w64 (w64 (n + 1) + 1) + 1),r1.2⟩:SCode))).map eCV))),(1,oI r1.1),(5,oI (w64 (i + 1)))],[],0,[0]⟩ ?_
    refine IH k (z.set (Int.toNat i) (v,(⟨t,w64 (n + 1),w64 (w64 (n + 1) + 1),w64 (w64 (w64 (n + 1) + 1) + 1),r1.2⟩:SCode)),r1.1,w64 (i + 1)) (Nat.le_refl _) ?_
    dsimp only
    rw [List.map_set]
    exact h20
  refine fx2 [0,1] 0 [] ?_
  refine Tri2.exit ?_
  obtain rfl:=si h20
  exact ⟨z,rfl,rfl,rfl⟩
theorem laws_markObject.fn2 {k : Nat} {uN uG uP : Value} {nm : ByteArray} {pr : Int} {ns gs : List SNeed} {z0 : List VC} {a1 : Int} {r1 r2 : Int × List SNeed} {r : List SCode × Int} (h1 : laws_markNeedS_1.f k ns a1 = some r1) (h2 : laws_markGlobalS_1.f k gs r1.1 = some r2) (H : mkC.l1 k (z0.map (·.2)) r2.1 0 = some r) :
    Fn2 Tryz.prog 10 [ag [cS nm,cI pr,.sc uN,.sc uG,.sc uP],oI a1] (oRows uN uG uP ns gs z0) (fun res ρ=>res = oI r.2 ∧ ∃ z:List VC,z.map (·.2) = r.1 ∧ ρ = oRows uN uG uP r1.2 r2.2 z):=by
  refine Fn2.body 4 Tryz.func10 ?_
  refine rn2 [1,2] 1 [] [] ?_
  refine Tri2.seq (Tri2.region ?_)
  refine ew 3 [] ?_
  refine TriO2.perm (ρ':=[⟨uN,51,List.map eSNeed ns⟩] ++ ((z0.map rCV ++ [⟨uP,56,z0.map eCV⟩]) ++ [⟨uG,53,List.map eSNeed gs⟩])) List.perm_middle ?_
  refine TriO2.call (d:=8) [] (Fn2.ofGK (laws_markNeedS_1.fn h1) rfl (flat_needs _)) (fun res ρr ⟨e1,_⟩=>by subst e1; rfl) (fun res ρr ⟨e1,e2⟩=>?_)
  subst e1 e2
  refine ew 1 [] ?_
  refine exx [1,2] 1 [] ⟨18,[(1,oI r1.1),(2,o1 (.ref 0 0))],[[cS nm,cI pr,.sc uN,.sc uG,.sc uP]],0,[]⟩ ?_
  refine TriO2.nil ?_
  refine Tri2.seq (Tri2.region ?_)
  refine ew 3 [] ?_
  refine TriO2.perm (ρ':=[⟨uG,53,List.map eSNeed gs⟩] ++ (⟨uN,51,List.map eSNeed r1.2⟩ :: (z0.map rCV ++ [⟨uP,56,z0.map eCV⟩]))) (List.perm_append_singleton _ (⟨uN,51,List.map eSNeed r1.2⟩ :: (z0.map rCV ++ [⟨uP,56,z0.map eCV⟩]))) ?_
  refine TriO2.call (d:=12) [] (Fn2.ofGK (laws_markGlobalS_1.fn h2) rfl (flat_needs _)) (fun res ρr ⟨e1,_⟩=>by subst e1; rfl) (fun res ρr ⟨e1,e2⟩=>?_)
  subst e1 e2
  refine ew 1 [] ?_
  refine exx [1,2] 1 [] ⟨18,[(1,oI r2.1),(2,o1 (.ref 0 0))],[[cS nm,cI pr,.sc uN,.sc uG,.sc uP]],0,[]⟩ ?_
  refine TriO2.nil ?_
  refine Tri2.seq (Tri2.region ?_)
  refine ew 3 [] ?_
  refine TriO2.perm (ρ':=(z0.map rCV ++ [⟨uP,56,z0.map eCV⟩]) ++ [⟨uG,53,List.map eSNeed r2.2⟩,⟨uN,51,List.map eSNeed r1.2⟩]) (List.perm_append_comm (l₁:=([⟨uG,53,List.map eSNeed r2.2⟩,⟨uN,51,List.map eSNeed r1.2⟩]:List Rw))) ?_
  refine TriO2.call (d:=16) [] (laws_markCodeS.fn2 H) (fun res ρr ⟨e1,_⟩=>by subst e1; rfl) (fun res ρr ⟨e1,z,hz,e2⟩=>?_)
  subst e1 e2
  refine ew 1 [] ?_
  refine exx [1] 0 [] ⟨18,[(1,oI r.2)],[],0,[]⟩ ?_
  refine TriO2.perm (ρ':=oRows uN uG uP r1.2 r2.2 z) (List.Perm.append_left _ (List.Perm.swap _ _ _)) ?_
  refine TriO2.nil ?_
  refine rx2 [4] 0 [] [] ⟨18,[(4,oI r.2)],[],0,[]⟩ ?_
  refine Tri2.ret ?_
  exact ⟨_,⟨.inr rfl,rfl,rfl,Nat.le_refl _,rfl,by simp⟩,rfl,z,hz,rfl⟩
def laws_markObject.f (k:Nat) (a0:SObj) (a1:Int):Option (Int × SObj):=(laws_markNeedS_1.f k a0.f2 a1).bind fun r1=>(laws_markGlobalS_1.f k a0.f3 r1.1).bind fun r2=>(mkC.l1 k a0.f4 r2.1 0).bind fun r3=>some (r3.2,⟨a0.f0,a0.f1,r1.2,r2.2,r3.1⟩)
theorem impl_reader__code_2.fnR {k:Nat} {b0:S3ddd55} {r:(SCode × Int × Bool × ByteArray × Int × Int × Int × (List SIns))} (H:impl_reader__code_2.f k b0 = some r):FnG Tryz.prog 31 [o1 (.ref 0 0)] [] [eS3ddd55 b0] (ag [cS r.1.f0,cI r.1.f1,cI r.1.f2,cI r.1.f3,.own 58 (List.map eSIns r.1.f4)]) [] [[cS b0.f0,cI r.2.1,cB r.2.2.1]]:=by
 refine FnG.ofRow (e0:=58) (xs:=List.map eSIns r.1.f4) (res:=fun v=>ag [cS r.1.f0,cI r.1.f1,cI r.1.f2,cI r.1.f3,.sc v]) [(2,some 56)] 4 Tryz.func31 ?_ (fun v=>rfl)
 refine rn2 [0,2] 2 [] [] ?_
 obtain ⟨r1,h2,H⟩:=bs H
 obtain ⟨r3,h4,H⟩:=bs H
 obtain ⟨r5,h6,H⟩:=bs H
 obtain ⟨r7,h8,H⟩:=bs H
 refine rn2 [0,2,3] 3 [] [hG 1 [] [0] none (impl_reader__text_2.fn h2),hG 3 [] [0] none (impl_reader__number_2.fn h4),hG 5 [] [0] none (impl_reader__number_2.fn h6),hG 7 [] [0] none (impl_reader__number_2.fn h8)] ?_
 obtain ⟨v92,h91,H⟩:=bs H
 refine Tri2.sq (Tri.mono (Q:=Ex (fun st'=>∃ w,v92 = w ∧ st' = ⟨47,[(2,o1 (.ref 1 0)),(3,o1 (.ref 2 0))],[[cS b0.f0,cI w.1,cB w.2.1],[cS (⟨#[]⟩:ByteArray),cI 0,cI 0,cI 0,.nl],[cS r1.1,cI r3.1,cI r5.1,cI r7.1,.own 58 (List.map eSIns w.2.2)]],1,[]⟩) (fun _ _=>False)) (fun e st' q=>?_) ?_)
 · cases e <;> first | exact q.elim | skip
   obtain ⟨w,rfl,rfl⟩:=q
   obtain ⟨y88,y89,y90⟩:=v92
   dsimp only at H
   obtain rfl:=si H
   refine Tri2.adopt (.b 2 4) (e:=58) (flat_ins y90) fun v hv=>?_
   refine rn2 [2] 2 [] [] ?_
   refine Tri2.ret ?_
   exact ⟨v,endsR (.inr rfl) (by kernel_rfl),rfl⟩
 obtain ⟨r9,h10,h91⟩:=bs h91
 refine rn [0,2,3,15,16] 3 [] [hG 1 [] [0] none (impl_reader__number_2.fn h10)] ?_
 refine bl ?_
 refine fx [0,2,3,15,16] 3 [.own (.b 2 4) 58] ?_
 refine lo (Int × Int × Bool × (List SIns)) k (fun k x=>impl_reader__code_2.l2 k b0 r9 x.1 x.2.1 x.2.2.1 x.2.2.2) (fun x=>⟨47,[(0,o1 (.ref 0 0)),(2,o1 (.ref 1 0)),(3,o1 (.ref 2 0)),(15,oI r9.1),(16,oI x.1)],[[cS b0.f0,cI x.2.1,cB x.2.2.1],[cS (⟨#[]⟩:ByteArray),cI 0,cI 0,cI 0,.nl],[cS r1.1,cI r3.1,cI r5.1,cI r7.1,.own 58 (List.map eSIns x.2.2.2)]],1,[]⟩) (0,r9.2.1,r9.2.2,([]:List SIns)) h91 fun k x h91 IH87=>?_
 obtain ⟨z60,z61,z62,z63⟩:=x
 rw [impl_reader__code_2.l2.eq_2] at h91
 refine rn [0,2,3,15,16,17] 3 [] [] ?_
 refine sq ?_
 refine ci h91 (fun h64 h91=>?_) fun h64 h91=>?_
 ·refine sk ?_
  refine sq ?_
  refine bl ?_
  refine sq ?_
  refine rn [0,2,3,15,16,21] 3 [] [] ?_
  refine cb h91 (fun h65 h91=>?_) fun h65 h91=>?_
  ·refine fx [2,3] 3 [] ?_
   refine xi ?_
   exact pf (z61,z62,z63) h91
  refine sk ?_
  obtain ⟨r66,h67,h91⟩:=bs h91
  obtain ⟨r68,h69,h91⟩:=bs h91
  refine rn [0,2,3,4,15,16] 4 [] [hG 1 [] [0] none (impl_reader__number_2.fn h67),hG 3 [] [0] none (impl_reader__number_2.fn h69)] ?_
  refine jo h91 (fun w=>⟨47,[(0,o1 (.ref 0 0)),(2,o1 (.ref 1 0)),(3,o1 (.ref 2 0)),(4,o1 (.ref 3 0)),(15,oI r9.1),(16,oI z60)],[[cS b0.f0,cI w.1,cB w.2.1],[cS (⟨#[]⟩:ByteArray),cI 0,cI 0,cI 0,.nl],[cS r1.1,cI r3.1,cI r5.1,cI r7.1,.own 58 (List.map eSIns z63)],[cI r66.1,cI r68.1,cI w.2.2.1,cS w.2.2.2.1,cS w.2.2.2.2]],1,[]⟩) (fun w h91=>?_) fun v85 h84 h91=>?_
  ·obtain ⟨y79,y80,y81,y82,y83⟩:=w
   obtain ⟨h86,h91⟩:=nd h91
   refine rl [0,2,3,15,16] 3 [] [hA 4 58 eSIns h86] ?_
   refine rl [0,2,3,15,16] 3 [] [] ?_
   exact lb IH87 (w64 (z60 + 1),y79,y80,z63 ++ ([(⟨r66.1,r68.1,y81,y82,y83⟩:SIns)]:List SIns)) h91
  obtain ⟨r70,h71,h84⟩:=bs h84
  refine rn [0,2,3,4,15,16,29] 4 [] [hC 2 (impl_hasPlace.fn h71)] ?_
  refine cb h84 (fun h72 h84=>?_) fun h72 h84=>?_
  ·obtain ⟨r73,h74,h84⟩:=bs h84
   obtain ⟨r75,h76,h84⟩:=bs h84
   obtain ⟨r77,h78,h84⟩:=bs h84
   refine rl [0,2,3,4,15,16] 4 [] [hG 1 [] [0] none (impl_reader__number_2.fn h74),hG 3 [] [0] none (impl_reader__text_2.fn h76),hG 5 [] [0] none (impl_reader__text_2.fn h78)] ?_
   exact pf (r77.2.1,r77.2.2,r73.1,r75.1,r77.1) h84
  refine fx [0,2,3,4,15,16] 4 [] ?_
  refine sk ?_
  exact pf (r68.2.1,r68.2.2,0,(⟨#[]⟩:ByteArray),(⟨#[]⟩:ByteArray)) h84
 refine fx [2,3] 3 [] ?_
 refine xi ?_
 exact pf (z61,z62,z63) h91
def regOps:Nat → Code → List Oper
  | id,.region i ops _=>if i = id then ops.toList else []
  | id,.seq x y=>regOps id x ++ regOps id y
  | id,.block _ x=>regOps id x
  | id,.cond _ x y=>regOps id x ++ regOps id y
  | id,.loop x=>regOps id x
  | _,_=>[]
noncomputable def opsRO:List Oper:=regOps 14 ((Tryz.prog.funcs[14]?.bind (·.body)).getD .skip)
noncomputable def oRO (i:Nat):Oper:=(opsRO[i]?).getD default
theorem impl_readObject.add {k : Nat} {a0 : ByteArray} {r3 : ByteArray × Int × Bool} {r5 r73 : Int × Int × Bool} {y37 y70 : List SNeed} {z86 z87 : Int} {z88 : Bool} {z : List VC} {r91 : (SCode × Int × Bool × ByteArray × Int × Int × Int × (List SIns))} {Q : Exit → St → List Rw → Prop} {l : List Oper} (hl : l = opsRO) (h92 : impl_reader__code_2.f k (⟨a0, z87, z88⟩ : S3ddd55) = some r91) (h93 : (z.length + 1) * 64 ≤ 140737488355328)
    (hq:∀ st' ρ',(∃ w:Int × Bool × List VC,(r91.2.1,r91.2.2.1,z.map (·.2) ++ [r91.1]) = (w.1,w.2.1,w.2.2.map (·.2)) ∧ st' = ⟨65,[(2,o1 (.ref 0 0)),(4,o1 (.ref 1 0)),(5,o1 (.ref 2 0)),(47,oI r73.1),(48,oI z86)],[[cS (⟨#[]⟩:ByteArray),cI 0,.nl,.nl,.nl],[cS a0,cI w.1,cB w.2.1],[cS r3.1,cI r5.1,.own 51 (List.map eSNeed y37),.own 53 (List.map eSNeed y70),.own 56 (w.2.2.map eCV)]],0,[]⟩ ∧ ρ' = w.2.2.map rCV) → Q .normal st' ρ'):Tri2 Tryz.prog (.region 14 l.toArray true) Q ⟨65,[(2,o1 (.ref 0 0)),(4,o1 (.ref 1 0)),(5,o1 (.ref 2 0)),(47,oI r73.1),(48,oI z86)],[[cS (⟨#[]⟩:ByteArray),cI 0,.nl,.nl,.nl],[cS a0,cI z87,cB z88],[cS r3.1,cI r5.1,.own 51 (List.map eSNeed y37),.own 53 (List.map eSNeed y70),.own 56 (z.map eCV)]],0,[]⟩ (z.map rCV):=by
    subst hl
    have t23:∀ v:Value,TriA Tryz.prog opsRO 3 [true,true,true,true,true,false,false,false] (fun st' ρ'=>∃ w:Int × Bool × List VC,(r91.2.1,r91.2.2.1,z.map (·.2) ++ [r91.1]) = (w.1,w.2.1,w.2.2.map (·.2)) ∧ st' = ⟨65,[(2,o1 (.ref 0 0)),(4,o1 (.ref 1 0)),(5,o1 (.ref 2 0)),(47,oI r73.1),(48,oI z86)],[[cS (⟨#[]⟩:ByteArray),cI 0,.nl,.nl,.nl],[cS a0,cI w.1,cB w.2.1],[cS r3.1,cI r5.1,.own 51 (List.map eSNeed y37),.own 53 (List.map eSNeed y70),.own 56 (w.2.2.map eCV)]],0,[]⟩ ∧ ρ' = w.2.2.map rCV) ⟨65,[(2,o1 (.ref 0 0)),(4,o1 (.ref 1 0)),(5,o1 (.ref 2 0)),(47,oI r73.1),(48,oI z86),(50,o1 (.ref 2 4)),(51,o1 (.al (.b 2 4))),(54,o1 (.own 56 ([(v,(⟨r91.1.f0,r91.1.f1,r91.1.f2,r91.1.f3,r91.1.f4⟩:SCode))].map eCV)))],[[cS (⟨#[]⟩:ByteArray),cI 0,.nl,.nl,.nl],[cS a0,cI r91.2.1,cB r91.2.2.1],[cS r3.1,cI r5.1,.own 51 (List.map eSNeed y37),.own 53 (List.map eSNeed y70),.own 56 (z.map eCV)]],0,[]⟩ (z.map rCV ++ [rCV (v,(⟨r91.1.f0,r91.1.f1,r91.1.f2,r91.1.f3,r91.1.f4⟩:SCode))]):=by
      intro v
      refine TriA.tail 5 [[],[0],[],[2],[2,3],[0,1,2,3,4],[0,1,2,3,4,5],[0,1,2,3,4,5,6]] _ ?_
      refine ew 3 [hA 0 56 eCV (l:=z) (m:=[(v,(⟨r91.1.f0,r91.1.f1,r91.1.f2,r91.1.f3,r91.1.f4⟩:SCode))]) (b:=64) (by simpa using h93)] ?_
      refine exx [2,4,5,47,48] 3 [] ⟨65,[(2,o1 (.ref 0 0)),(4,o1 (.ref 1 0)),(5,o1 (.ref 2 0)),(47,oI r73.1),(48,oI z86)],[[cS (⟨#[]⟩:ByteArray),cI 0,.nl,.nl,.nl],[cS a0,cI r91.2.1,cB r91.2.2.1],[cS r3.1,cI r5.1,.own 51 (List.map eSNeed y37),.own 53 (List.map eSNeed y70),.own 56 ((z ++ [(v,(⟨r91.1.f0,r91.1.f1,r91.1.f2,r91.1.f3,r91.1.f4⟩:SCode))]).map eCV)]],0,[]⟩ ?_
      rw [show (opsRO.drop 5).drop 3 = [] by kernel_rfl]
      refine TriO2.nil ?_
      exact ⟨(r91.2.1,r91.2.2.1,z ++ [(v,(⟨r91.1.f0,r91.1.f1,r91.1.f2,r91.1.f3,r91.1.f4⟩:SCode))]),by simp,rfl,by simp⟩
    have t13:∀ v:Value,TriA Tryz.prog opsRO 4 [true,false,true,true,true,false,false,false] (fun st' ρ'=>∃ w:Int × Bool × List VC,(r91.2.1,r91.2.2.1,z.map (·.2) ++ [r91.1]) = (w.1,w.2.1,w.2.2.map (·.2)) ∧ st' = ⟨65,[(2,o1 (.ref 0 0)),(4,o1 (.ref 1 0)),(5,o1 (.ref 2 0)),(47,oI r73.1),(48,oI z86)],[[cS (⟨#[]⟩:ByteArray),cI 0,.nl,.nl,.nl],[cS a0,cI w.1,cB w.2.1],[cS r3.1,cI r5.1,.own 51 (List.map eSNeed y37),.own 53 (List.map eSNeed y70),.own 56 (w.2.2.map eCV)]],0,[]⟩ ∧ ρ' = w.2.2.map rCV) ⟨65,[(2,o1 (.ref 0 0)),(4,o1 (.ref 1 0)),(5,o1 (.ref 2 0)),(47,oI r73.1),(48,oI z86),(50,o1 (.ref 2 4)),(54,o1 (.own 56 ([(v,(⟨r91.1.f0,r91.1.f1,r91.1.f2,r91.1.f3,r91.1.f4⟩:SCode))].map eCV)))],[[cS (⟨#[]⟩:ByteArray),cI 0,.nl,.nl,.nl],[cS a0,cI r91.2.1,cB r91.2.2.1],[cS r3.1,cI r5.1,.own 51 (List.map eSNeed y37),.own 53 (List.map eSNeed y70),.own 56 (z.map eCV)]],0,[]⟩ (z.map rCV ++ [rCV (v,(⟨r91.1.f0,r91.1.f1,r91.1.f2,r91.1.f3,r91.1.f4⟩:SCode))]):=by
      intro v
      refine TriA.step [1] (fun i hi=>?_)
      simp only [List.mem_cons,List.not_mem_nil,or_false] at hi
      subst hi
      refine ⟨oRO 1,by kernel_rfl,?_⟩
      refine ew 1 [] ?_
      refine exx [2,4,5,47,48,50,51,54] 3 [] ⟨65,[(2,o1 (.ref 0 0)),(4,o1 (.ref 1 0)),(5,o1 (.ref 2 0)),(47,oI r73.1),(48,oI z86),(50,o1 (.ref 2 4)),(51,o1 (.al (.b 2 4))),(54,o1 (.own 56 ([(v,(⟨r91.1.f0,r91.1.f1,r91.1.f2,r91.1.f3,r91.1.f4⟩:SCode))].map eCV)))],[[cS (⟨#[]⟩:ByteArray),cI 0,.nl,.nl,.nl],[cS a0,cI r91.2.1,cB r91.2.2.1],[cS r3.1,cI r5.1,.own 51 (List.map eSNeed y37),.own 53 (List.map eSNeed y70),.own 56 (z.map eCV)]],0,[]⟩ ?_
      refine TriO2.nil ?_
      exact t23 v
    have t03:∀ v:Value,TriA Tryz.prog opsRO 5 [false,false,true,true,true,false,false,false] (fun st' ρ'=>∃ w:Int × Bool × List VC,(r91.2.1,r91.2.2.1,z.map (·.2) ++ [r91.1]) = (w.1,w.2.1,w.2.2.map (·.2)) ∧ st' = ⟨65,[(2,o1 (.ref 0 0)),(4,o1 (.ref 1 0)),(5,o1 (.ref 2 0)),(47,oI r73.1),(48,oI z86)],[[cS (⟨#[]⟩:ByteArray),cI 0,.nl,.nl,.nl],[cS a0,cI w.1,cB w.2.1],[cS r3.1,cI r5.1,.own 51 (List.map eSNeed y37),.own 53 (List.map eSNeed y70),.own 56 (w.2.2.map eCV)]],0,[]⟩ ∧ ρ' = w.2.2.map rCV) ⟨65,[(2,o1 (.ref 0 0)),(4,o1 (.ref 1 0)),(5,o1 (.ref 2 0)),(47,oI r73.1),(48,oI z86),(54,o1 (.own 56 ([(v,(⟨r91.1.f0,r91.1.f1,r91.1.f2,r91.1.f3,r91.1.f4⟩:SCode))].map eCV)))],[[cS (⟨#[]⟩:ByteArray),cI 0,.nl,.nl,.nl],[cS a0,cI r91.2.1,cB r91.2.2.1],[cS r3.1,cI r5.1,.own 51 (List.map eSNeed y37),.own 53 (List.map eSNeed y70),.own 56 (z.map eCV)]],0,[]⟩ (z.map rCV ++ [rCV (v,(⟨r91.1.f0,r91.1.f1,r91.1.f2,r91.1.f3,r91.1.f4⟩:SCode))]):=by
      intro v
      refine TriA.step [0] (fun i hi=>?_)
      simp only [List.mem_cons,List.not_mem_nil,or_false] at hi
      subst hi
      refine ⟨oRO 0,by kernel_rfl,?_⟩
      refine ew 1 [] ?_
      refine exx [2,4,5,47,48,50,54] 3 [] ⟨65,[(2,o1 (.ref 0 0)),(4,o1 (.ref 1 0)),(5,o1 (.ref 2 0)),(47,oI r73.1),(48,oI z86),(50,o1 (.ref 2 4)),(54,o1 (.own 56 ([(v,(⟨r91.1.f0,r91.1.f1,r91.1.f2,r91.1.f3,r91.1.f4⟩:SCode))].map eCV)))],[[cS (⟨#[]⟩:ByteArray),cI 0,.nl,.nl,.nl],[cS a0,cI r91.2.1,cB r91.2.2.1],[cS r3.1,cI r5.1,.own 51 (List.map eSNeed y37),.own 53 (List.map eSNeed y70),.own 56 (z.map eCV)]],0,[]⟩ ?_
      refine TriO2.nil ?_
      exact t13 v
    have t22:∀ v:Value,TriA Tryz.prog opsRO 4 [true,true,true,true,false,false,false,false] (fun st' ρ'=>∃ w:Int × Bool × List VC,(r91.2.1,r91.2.2.1,z.map (·.2) ++ [r91.1]) = (w.1,w.2.1,w.2.2.map (·.2)) ∧ st' = ⟨65,[(2,o1 (.ref 0 0)),(4,o1 (.ref 1 0)),(5,o1 (.ref 2 0)),(47,oI r73.1),(48,oI z86)],[[cS (⟨#[]⟩:ByteArray),cI 0,.nl,.nl,.nl],[cS a0,cI w.1,cB w.2.1],[cS r3.1,cI r5.1,.own 51 (List.map eSNeed y37),.own 53 (List.map eSNeed y70),.own 56 (w.2.2.map eCV)]],0,[]⟩ ∧ ρ' = w.2.2.map rCV) ⟨65,[(2,o1 (.ref 0 0)),(4,o1 (.ref 1 0)),(5,o1 (.ref 2 0)),(47,oI r73.1),(48,oI z86),(50,o1 (.ref 2 4)),(51,o1 (.al (.b 2 4))),(53,ag [cS r91.1.f0,cI r91.1.f1,cI r91.1.f2,cI r91.1.f3,.sc v])],[[cS (⟨#[]⟩:ByteArray),cI 0,.nl,.nl,.nl],[cS a0,cI r91.2.1,cB r91.2.2.1],[cS r3.1,cI r5.1,.own 51 (List.map eSNeed y37),.own 53 (List.map eSNeed y70),.own 56 (z.map eCV)]],0,[]⟩ (z.map rCV ++ [rCV (v,(⟨r91.1.f0,r91.1.f1,r91.1.f2,r91.1.f3,r91.1.f4⟩:SCode))]):=by
      intro v
      refine TriA.step [4] (fun i hi=>?_)
      simp only [List.mem_cons,List.not_mem_nil,or_false] at hi
      subst hi
      refine ⟨oRO 4,by kernel_rfl,?_⟩
      refine ew 1 [] ?_
      refine exx [2,4,5,47,48,50,51,54] 3 [] ⟨65,[(2,o1 (.ref 0 0)),(4,o1 (.ref 1 0)),(5,o1 (.ref 2 0)),(47,oI r73.1),(48,oI z86),(50,o1 (.ref 2 4)),(51,o1 (.al (.b 2 4))),(54,o1 (.own 56 ([(v,(⟨r91.1.f0,r91.1.f1,r91.1.f2,r91.1.f3,r91.1.f4⟩:SCode))].map eCV)))],[[cS (⟨#[]⟩:ByteArray),cI 0,.nl,.nl,.nl],[cS a0,cI r91.2.1,cB r91.2.2.1],[cS r3.1,cI r5.1,.own 51 (List.map eSNeed y37),.own 53 (List.map eSNeed y70),.own 56 (z.map eCV)]],0,[]⟩ ?_
      refine TriO2.nil ?_
      exact t23 v
    have t12:∀ v:Value,TriA Tryz.prog opsRO 5 [true,false,true,true,false,false,false,false] (fun st' ρ'=>∃ w:Int × Bool × List VC,(r91.2.1,r91.2.2.1,z.map (·.2) ++ [r91.1]) = (w.1,w.2.1,w.2.2.map (·.2)) ∧ st' = ⟨65,[(2,o1 (.ref 0 0)),(4,o1 (.ref 1 0)),(5,o1 (.ref 2 0)),(47,oI r73.1),(48,oI z86)],[[cS (⟨#[]⟩:ByteArray),cI 0,.nl,.nl,.nl],[cS a0,cI w.1,cB w.2.1],[cS r3.1,cI r5.1,.own 51 (List.map eSNeed y37),.own 53 (List.map eSNeed y70),.own 56 (w.2.2.map eCV)]],0,[]⟩ ∧ ρ' = w.2.2.map rCV) ⟨65,[(2,o1 (.ref 0 0)),(4,o1 (.ref 1 0)),(5,o1 (.ref 2 0)),(47,oI r73.1),(48,oI z86),(50,o1 (.ref 2 4)),(53,ag [cS r91.1.f0,cI r91.1.f1,cI r91.1.f2,cI r91.1.f3,.sc v])],[[cS (⟨#[]⟩:ByteArray),cI 0,.nl,.nl,.nl],[cS a0,cI r91.2.1,cB r91.2.2.1],[cS r3.1,cI r5.1,.own 51 (List.map eSNeed y37),.own 53 (List.map eSNeed y70),.own 56 (z.map eCV)]],0,[]⟩ (z.map rCV ++ [rCV (v,(⟨r91.1.f0,r91.1.f1,r91.1.f2,r91.1.f3,r91.1.f4⟩:SCode))]):=by
      intro v
      refine TriA.step [1,4] (fun i hi=>?_)
      simp only [List.mem_cons,List.not_mem_nil,or_false] at hi
      rcases hi with rfl | rfl
      · refine ⟨oRO 1,by kernel_rfl,?_⟩
        refine ew 1 [] ?_
        refine exx [2,4,5,47,48,50,51,53] 3 [] ⟨65,[(2,o1 (.ref 0 0)),(4,o1 (.ref 1 0)),(5,o1 (.ref 2 0)),(47,oI r73.1),(48,oI z86),(50,o1 (.ref 2 4)),(51,o1 (.al (.b 2 4))),(53,ag [cS r91.1.f0,cI r91.1.f1,cI r91.1.f2,cI r91.1.f3,.sc v])],[[cS (⟨#[]⟩:ByteArray),cI 0,.nl,.nl,.nl],[cS a0,cI r91.2.1,cB r91.2.2.1],[cS r3.1,cI r5.1,.own 51 (List.map eSNeed y37),.own 53 (List.map eSNeed y70),.own 56 (z.map eCV)]],0,[]⟩ ?_
        refine TriO2.nil ?_
        exact t22 v
      · refine ⟨oRO 4,by kernel_rfl,?_⟩
        refine ew 1 [] ?_
        refine exx [2,4,5,47,48,50,54] 3 [] ⟨65,[(2,o1 (.ref 0 0)),(4,o1 (.ref 1 0)),(5,o1 (.ref 2 0)),(47,oI r73.1),(48,oI z86),(50,o1 (.ref 2 4)),(54,o1 (.own 56 ([(v,(⟨r91.1.f0,r91.1.f1,r91.1.f2,r91.1.f3,r91.1.f4⟩:SCode))].map eCV)))],[[cS (⟨#[]⟩:ByteArray),cI 0,.nl,.nl,.nl],[cS a0,cI r91.2.1,cB r91.2.2.1],[cS r3.1,cI r5.1,.own 51 (List.map eSNeed y37),.own 53 (List.map eSNeed y70),.own 56 (z.map eCV)]],0,[]⟩ ?_
        refine TriO2.nil ?_
        exact t13 v
    have t02:∀ v:Value,TriA Tryz.prog opsRO 6 [false,false,true,true,false,false,false,false] (fun st' ρ'=>∃ w:Int × Bool × List VC,(r91.2.1,r91.2.2.1,z.map (·.2) ++ [r91.1]) = (w.1,w.2.1,w.2.2.map (·.2)) ∧ st' = ⟨65,[(2,o1 (.ref 0 0)),(4,o1 (.ref 1 0)),(5,o1 (.ref 2 0)),(47,oI r73.1),(48,oI z86)],[[cS (⟨#[]⟩:ByteArray),cI 0,.nl,.nl,.nl],[cS a0,cI w.1,cB w.2.1],[cS r3.1,cI r5.1,.own 51 (List.map eSNeed y37),.own 53 (List.map eSNeed y70),.own 56 (w.2.2.map eCV)]],0,[]⟩ ∧ ρ' = w.2.2.map rCV) ⟨65,[(2,o1 (.ref 0 0)),(4,o1 (.ref 1 0)),(5,o1 (.ref 2 0)),(47,oI r73.1),(48,oI z86),(53,ag [cS r91.1.f0,cI r91.1.f1,cI r91.1.f2,cI r91.1.f3,.sc v])],[[cS (⟨#[]⟩:ByteArray),cI 0,.nl,.nl,.nl],[cS a0,cI r91.2.1,cB r91.2.2.1],[cS r3.1,cI r5.1,.own 51 (List.map eSNeed y37),.own 53 (List.map eSNeed y70),.own 56 (z.map eCV)]],0,[]⟩ (z.map rCV ++ [rCV (v,(⟨r91.1.f0,r91.1.f1,r91.1.f2,r91.1.f3,r91.1.f4⟩:SCode))]):=by
      intro v
      refine TriA.step [0,4] (fun i hi=>?_)
      simp only [List.mem_cons,List.not_mem_nil,or_false] at hi
      rcases hi with rfl | rfl
      · refine ⟨oRO 0,by kernel_rfl,?_⟩
        refine ew 1 [] ?_
        refine exx [2,4,5,47,48,50,53] 3 [] ⟨65,[(2,o1 (.ref 0 0)),(4,o1 (.ref 1 0)),(5,o1 (.ref 2 0)),(47,oI r73.1),(48,oI z86),(50,o1 (.ref 2 4)),(53,ag [cS r91.1.f0,cI r91.1.f1,cI r91.1.f2,cI r91.1.f3,.sc v])],[[cS (⟨#[]⟩:ByteArray),cI 0,.nl,.nl,.nl],[cS a0,cI r91.2.1,cB r91.2.2.1],[cS r3.1,cI r5.1,.own 51 (List.map eSNeed y37),.own 53 (List.map eSNeed y70),.own 56 (z.map eCV)]],0,[]⟩ ?_
        refine TriO2.nil ?_
        exact t12 v
      · refine ⟨oRO 4,by kernel_rfl,?_⟩
        refine ew 1 [] ?_
        refine exx [2,4,5,47,48,54] 3 [] ⟨65,[(2,o1 (.ref 0 0)),(4,o1 (.ref 1 0)),(5,o1 (.ref 2 0)),(47,oI r73.1),(48,oI z86),(54,o1 (.own 56 ([(v,(⟨r91.1.f0,r91.1.f1,r91.1.f2,r91.1.f3,r91.1.f4⟩:SCode))].map eCV)))],[[cS (⟨#[]⟩:ByteArray),cI 0,.nl,.nl,.nl],[cS a0,cI r91.2.1,cB r91.2.2.1],[cS r3.1,cI r5.1,.own 51 (List.map eSNeed y37),.own 53 (List.map eSNeed y70),.own 56 (z.map eCV)]],0,[]⟩ ?_
        refine TriO2.nil ?_
        exact t03 v
    have t21:TriA Tryz.prog opsRO 5 [true,true,true,false,false,false,false,false] (fun st' ρ'=>∃ w:Int × Bool × List VC,(r91.2.1,r91.2.2.1,z.map (·.2) ++ [r91.1]) = (w.1,w.2.1,w.2.2.map (·.2)) ∧ st' = ⟨65,[(2,o1 (.ref 0 0)),(4,o1 (.ref 1 0)),(5,o1 (.ref 2 0)),(47,oI r73.1),(48,oI z86)],[[cS (⟨#[]⟩:ByteArray),cI 0,.nl,.nl,.nl],[cS a0,cI w.1,cB w.2.1],[cS r3.1,cI r5.1,.own 51 (List.map eSNeed y37),.own 53 (List.map eSNeed y70),.own 56 (w.2.2.map eCV)]],0,[]⟩ ∧ ρ' = w.2.2.map rCV) ⟨65,[(2,o1 (.ref 0 0)),(4,o1 (.ref 1 0)),(5,o1 (.ref 2 0)),(47,oI r73.1),(48,oI z86),(50,o1 (.ref 2 4)),(51,o1 (.al (.b 2 4))),(52,o1 (.ref 1 0))],[[cS (⟨#[]⟩:ByteArray),cI 0,.nl,.nl,.nl],[cS a0,cI z87,cB z88],[cS r3.1,cI r5.1,.own 51 (List.map eSNeed y37),.own 53 (List.map eSNeed y70),.own 56 (z.map eCV)]],0,[]⟩ (z.map rCV):=by
      refine TriA.step [3] (fun i hi=>?_)
      simp only [List.mem_cons,List.not_mem_nil,or_false] at hi
      subst hi
      refine ⟨oRO 3,by kernel_rfl,?_⟩
      refine ew 1 [hG 0 [] [1] none (impl_reader__code_2.fnR h92)] ?_
      refine exx [2,4,5,47,48,50,51,53] 3 [] ⟨65,[(2,o1 (.ref 0 0)),(4,o1 (.ref 1 0)),(5,o1 (.ref 2 0)),(47,oI r73.1),(48,oI z86),(50,o1 (.ref 2 4)),(51,o1 (.al (.b 2 4))),(53,ag [cS r91.1.f0,cI r91.1.f1,cI r91.1.f2,cI r91.1.f3,.own 58 (List.map eSIns r91.1.f4)])],[[cS (⟨#[]⟩:ByteArray),cI 0,.nl,.nl,.nl],[cS a0,cI r91.2.1,cB r91.2.2.1],[cS r3.1,cI r5.1,.own 51 (List.map eSNeed y37),.own 53 (List.map eSNeed y70),.own 56 (z.map eCV)]],0,[]⟩ ?_
      refine TriO2.adopt (.t 53 4) (e:=58) (flat_ins r91.1.f4) fun v hv=>?_
      refine TriO2.nil ?_
      exact t22 v
    have t11:TriA Tryz.prog opsRO 6 [true,false,true,false,false,false,false,false] (fun st' ρ'=>∃ w:Int × Bool × List VC,(r91.2.1,r91.2.2.1,z.map (·.2) ++ [r91.1]) = (w.1,w.2.1,w.2.2.map (·.2)) ∧ st' = ⟨65,[(2,o1 (.ref 0 0)),(4,o1 (.ref 1 0)),(5,o1 (.ref 2 0)),(47,oI r73.1),(48,oI z86)],[[cS (⟨#[]⟩:ByteArray),cI 0,.nl,.nl,.nl],[cS a0,cI w.1,cB w.2.1],[cS r3.1,cI r5.1,.own 51 (List.map eSNeed y37),.own 53 (List.map eSNeed y70),.own 56 (w.2.2.map eCV)]],0,[]⟩ ∧ ρ' = w.2.2.map rCV) ⟨65,[(2,o1 (.ref 0 0)),(4,o1 (.ref 1 0)),(5,o1 (.ref 2 0)),(47,oI r73.1),(48,oI z86),(50,o1 (.ref 2 4)),(52,o1 (.ref 1 0))],[[cS (⟨#[]⟩:ByteArray),cI 0,.nl,.nl,.nl],[cS a0,cI z87,cB z88],[cS r3.1,cI r5.1,.own 51 (List.map eSNeed y37),.own 53 (List.map eSNeed y70),.own 56 (z.map eCV)]],0,[]⟩ (z.map rCV):=by
      refine TriA.step [1,3] (fun i hi=>?_)
      simp only [List.mem_cons,List.not_mem_nil,or_false] at hi
      rcases hi with rfl | rfl
      · refine ⟨oRO 1,by kernel_rfl,?_⟩
        refine ew 1 [] ?_
        refine exx [2,4,5,47,48,50,51,52] 3 [] ⟨65,[(2,o1 (.ref 0 0)),(4,o1 (.ref 1 0)),(5,o1 (.ref 2 0)),(47,oI r73.1),(48,oI z86),(50,o1 (.ref 2 4)),(51,o1 (.al (.b 2 4))),(52,o1 (.ref 1 0))],[[cS (⟨#[]⟩:ByteArray),cI 0,.nl,.nl,.nl],[cS a0,cI z87,cB z88],[cS r3.1,cI r5.1,.own 51 (List.map eSNeed y37),.own 53 (List.map eSNeed y70),.own 56 (z.map eCV)]],0,[]⟩ ?_
        refine TriO2.nil ?_
        exact t21
      · refine ⟨oRO 3,by kernel_rfl,?_⟩
        refine ew 1 [hG 0 [] [1] none (impl_reader__code_2.fnR h92)] ?_
        refine exx [2,4,5,47,48,50,53] 3 [] ⟨65,[(2,o1 (.ref 0 0)),(4,o1 (.ref 1 0)),(5,o1 (.ref 2 0)),(47,oI r73.1),(48,oI z86),(50,o1 (.ref 2 4)),(53,ag [cS r91.1.f0,cI r91.1.f1,cI r91.1.f2,cI r91.1.f3,.own 58 (List.map eSIns r91.1.f4)])],[[cS (⟨#[]⟩:ByteArray),cI 0,.nl,.nl,.nl],[cS a0,cI r91.2.1,cB r91.2.2.1],[cS r3.1,cI r5.1,.own 51 (List.map eSNeed y37),.own 53 (List.map eSNeed y70),.own 56 (z.map eCV)]],0,[]⟩ ?_
        refine TriO2.adopt (.t 53 4) (e:=58) (flat_ins r91.1.f4) fun v hv=>?_
        refine TriO2.nil ?_
        exact t12 v
    have t01:TriA Tryz.prog opsRO 7 [false,false,true,false,false,false,false,false] (fun st' ρ'=>∃ w:Int × Bool × List VC,(r91.2.1,r91.2.2.1,z.map (·.2) ++ [r91.1]) = (w.1,w.2.1,w.2.2.map (·.2)) ∧ st' = ⟨65,[(2,o1 (.ref 0 0)),(4,o1 (.ref 1 0)),(5,o1 (.ref 2 0)),(47,oI r73.1),(48,oI z86)],[[cS (⟨#[]⟩:ByteArray),cI 0,.nl,.nl,.nl],[cS a0,cI w.1,cB w.2.1],[cS r3.1,cI r5.1,.own 51 (List.map eSNeed y37),.own 53 (List.map eSNeed y70),.own 56 (w.2.2.map eCV)]],0,[]⟩ ∧ ρ' = w.2.2.map rCV) ⟨65,[(2,o1 (.ref 0 0)),(4,o1 (.ref 1 0)),(5,o1 (.ref 2 0)),(47,oI r73.1),(48,oI z86),(52,o1 (.ref 1 0))],[[cS (⟨#[]⟩:ByteArray),cI 0,.nl,.nl,.nl],[cS a0,cI z87,cB z88],[cS r3.1,cI r5.1,.own 51 (List.map eSNeed y37),.own 53 (List.map eSNeed y70),.own 56 (z.map eCV)]],0,[]⟩ (z.map rCV):=by
      refine TriA.step [0,3] (fun i hi=>?_)
      simp only [List.mem_cons,List.not_mem_nil,or_false] at hi
      rcases hi with rfl | rfl
      · refine ⟨oRO 0,by kernel_rfl,?_⟩
        refine ew 1 [] ?_
        refine exx [2,4,5,47,48,50,52] 3 [] ⟨65,[(2,o1 (.ref 0 0)),(4,o1 (.ref 1 0)),(5,o1 (.ref 2 0)),(47,oI r73.1),(48,oI z86),(50,o1 (.ref 2 4)),(52,o1 (.ref 1 0))],[[cS (⟨#[]⟩:ByteArray),cI 0,.nl,.nl,.nl],[cS a0,cI z87,cB z88],[cS r3.1,cI r5.1,.own 51 (List.map eSNeed y37),.own 53 (List.map eSNeed y70),.own 56 (z.map eCV)]],0,[]⟩ ?_
        refine TriO2.nil ?_
        exact t11
      · refine ⟨oRO 3,by kernel_rfl,?_⟩
        refine ew 1 [hG 0 [] [1] none (impl_reader__code_2.fnR h92)] ?_
        refine exx [2,4,5,47,48,53] 3 [] ⟨65,[(2,o1 (.ref 0 0)),(4,o1 (.ref 1 0)),(5,o1 (.ref 2 0)),(47,oI r73.1),(48,oI z86),(53,ag [cS r91.1.f0,cI r91.1.f1,cI r91.1.f2,cI r91.1.f3,.own 58 (List.map eSIns r91.1.f4)])],[[cS (⟨#[]⟩:ByteArray),cI 0,.nl,.nl,.nl],[cS a0,cI r91.2.1,cB r91.2.2.1],[cS r3.1,cI r5.1,.own 51 (List.map eSNeed y37),.own 53 (List.map eSNeed y70),.own 56 (z.map eCV)]],0,[]⟩ ?_
        refine TriO2.adopt (.t 53 4) (e:=58) (flat_ins r91.1.f4) fun v hv=>?_
        refine TriO2.nil ?_
        exact t02 v
    have t20:TriA Tryz.prog opsRO 6 [true,true,false,false,false,false,false,false] (fun st' ρ'=>∃ w:Int × Bool × List VC,(r91.2.1,r91.2.2.1,z.map (·.2) ++ [r91.1]) = (w.1,w.2.1,w.2.2.map (·.2)) ∧ st' = ⟨65,[(2,o1 (.ref 0 0)),(4,o1 (.ref 1 0)),(5,o1 (.ref 2 0)),(47,oI r73.1),(48,oI z86)],[[cS (⟨#[]⟩:ByteArray),cI 0,.nl,.nl,.nl],[cS a0,cI w.1,cB w.2.1],[cS r3.1,cI r5.1,.own 51 (List.map eSNeed y37),.own 53 (List.map eSNeed y70),.own 56 (w.2.2.map eCV)]],0,[]⟩ ∧ ρ' = w.2.2.map rCV) ⟨65,[(2,o1 (.ref 0 0)),(4,o1 (.ref 1 0)),(5,o1 (.ref 2 0)),(47,oI r73.1),(48,oI z86),(50,o1 (.ref 2 4)),(51,o1 (.al (.b 2 4)))],[[cS (⟨#[]⟩:ByteArray),cI 0,.nl,.nl,.nl],[cS a0,cI z87,cB z88],[cS r3.1,cI r5.1,.own 51 (List.map eSNeed y37),.own 53 (List.map eSNeed y70),.own 56 (z.map eCV)]],0,[]⟩ (z.map rCV):=by
      refine TriA.step [2] (fun i hi=>?_)
      simp only [List.mem_cons,List.not_mem_nil,or_false] at hi
      subst hi
      refine ⟨oRO 2,by kernel_rfl,?_⟩
      refine ew 1 [] ?_
      refine exx [2,4,5,47,48,50,51,52] 3 [] ⟨65,[(2,o1 (.ref 0 0)),(4,o1 (.ref 1 0)),(5,o1 (.ref 2 0)),(47,oI r73.1),(48,oI z86),(50,o1 (.ref 2 4)),(51,o1 (.al (.b 2 4))),(52,o1 (.ref 1 0))],[[cS (⟨#[]⟩:ByteArray),cI 0,.nl,.nl,.nl],[cS a0,cI z87,cB z88],[cS r3.1,cI r5.1,.own 51 (List.map eSNeed y37),.own 53 (List.map eSNeed y70),.own 56 (z.map eCV)]],0,[]⟩ ?_
      refine TriO2.nil ?_
      exact t21
    have t10:TriA Tryz.prog opsRO 7 [true,false,false,false,false,false,false,false] (fun st' ρ'=>∃ w:Int × Bool × List VC,(r91.2.1,r91.2.2.1,z.map (·.2) ++ [r91.1]) = (w.1,w.2.1,w.2.2.map (·.2)) ∧ st' = ⟨65,[(2,o1 (.ref 0 0)),(4,o1 (.ref 1 0)),(5,o1 (.ref 2 0)),(47,oI r73.1),(48,oI z86)],[[cS (⟨#[]⟩:ByteArray),cI 0,.nl,.nl,.nl],[cS a0,cI w.1,cB w.2.1],[cS r3.1,cI r5.1,.own 51 (List.map eSNeed y37),.own 53 (List.map eSNeed y70),.own 56 (w.2.2.map eCV)]],0,[]⟩ ∧ ρ' = w.2.2.map rCV) ⟨65,[(2,o1 (.ref 0 0)),(4,o1 (.ref 1 0)),(5,o1 (.ref 2 0)),(47,oI r73.1),(48,oI z86),(50,o1 (.ref 2 4))],[[cS (⟨#[]⟩:ByteArray),cI 0,.nl,.nl,.nl],[cS a0,cI z87,cB z88],[cS r3.1,cI r5.1,.own 51 (List.map eSNeed y37),.own 53 (List.map eSNeed y70),.own 56 (z.map eCV)]],0,[]⟩ (z.map rCV):=by
      refine TriA.step [1,2] (fun i hi=>?_)
      simp only [List.mem_cons,List.not_mem_nil,or_false] at hi
      rcases hi with rfl | rfl
      · refine ⟨oRO 1,by kernel_rfl,?_⟩
        refine ew 1 [] ?_
        refine exx [2,4,5,47,48,50,51] 3 [] ⟨65,[(2,o1 (.ref 0 0)),(4,o1 (.ref 1 0)),(5,o1 (.ref 2 0)),(47,oI r73.1),(48,oI z86),(50,o1 (.ref 2 4)),(51,o1 (.al (.b 2 4)))],[[cS (⟨#[]⟩:ByteArray),cI 0,.nl,.nl,.nl],[cS a0,cI z87,cB z88],[cS r3.1,cI r5.1,.own 51 (List.map eSNeed y37),.own 53 (List.map eSNeed y70),.own 56 (z.map eCV)]],0,[]⟩ ?_
        refine TriO2.nil ?_
        exact t20
      · refine ⟨oRO 2,by kernel_rfl,?_⟩
        refine ew 1 [] ?_
        refine exx [2,4,5,47,48,50,52] 3 [] ⟨65,[(2,o1 (.ref 0 0)),(4,o1 (.ref 1 0)),(5,o1 (.ref 2 0)),(47,oI r73.1),(48,oI z86),(50,o1 (.ref 2 4)),(52,o1 (.ref 1 0))],[[cS (⟨#[]⟩:ByteArray),cI 0,.nl,.nl,.nl],[cS a0,cI z87,cB z88],[cS r3.1,cI r5.1,.own 51 (List.map eSNeed y37),.own 53 (List.map eSNeed y70),.own 56 (z.map eCV)]],0,[]⟩ ?_
        refine TriO2.nil ?_
        exact t11
    have t00:TriA Tryz.prog opsRO 8 [false,false,false,false,false,false,false,false] (fun st' ρ'=>∃ w:Int × Bool × List VC,(r91.2.1,r91.2.2.1,z.map (·.2) ++ [r91.1]) = (w.1,w.2.1,w.2.2.map (·.2)) ∧ st' = ⟨65,[(2,o1 (.ref 0 0)),(4,o1 (.ref 1 0)),(5,o1 (.ref 2 0)),(47,oI r73.1),(48,oI z86)],[[cS (⟨#[]⟩:ByteArray),cI 0,.nl,.nl,.nl],[cS a0,cI w.1,cB w.2.1],[cS r3.1,cI r5.1,.own 51 (List.map eSNeed y37),.own 53 (List.map eSNeed y70),.own 56 (w.2.2.map eCV)]],0,[]⟩ ∧ ρ' = w.2.2.map rCV) ⟨65,[(2,o1 (.ref 0 0)),(4,o1 (.ref 1 0)),(5,o1 (.ref 2 0)),(47,oI r73.1),(48,oI z86)],[[cS (⟨#[]⟩:ByteArray),cI 0,.nl,.nl,.nl],[cS a0,cI z87,cB z88],[cS r3.1,cI r5.1,.own 51 (List.map eSNeed y37),.own 53 (List.map eSNeed y70),.own 56 (z.map eCV)]],0,[]⟩ (z.map rCV):=by
      refine TriA.step [0,2] (fun i hi=>?_)
      simp only [List.mem_cons,List.not_mem_nil,or_false] at hi
      rcases hi with rfl | rfl
      · refine ⟨oRO 0,by kernel_rfl,?_⟩
        refine ew 1 [] ?_
        refine exx [2,4,5,47,48,50] 3 [] ⟨65,[(2,o1 (.ref 0 0)),(4,o1 (.ref 1 0)),(5,o1 (.ref 2 0)),(47,oI r73.1),(48,oI z86),(50,o1 (.ref 2 4))],[[cS (⟨#[]⟩:ByteArray),cI 0,.nl,.nl,.nl],[cS a0,cI z87,cB z88],[cS r3.1,cI r5.1,.own 51 (List.map eSNeed y37),.own 53 (List.map eSNeed y70),.own 56 (z.map eCV)]],0,[]⟩ ?_
        refine TriO2.nil ?_
        exact t10
      · refine ⟨oRO 2,by kernel_rfl,?_⟩
        refine ew 1 [] ?_
        refine exx [2,4,5,47,48,52] 3 [] ⟨65,[(2,o1 (.ref 0 0)),(4,o1 (.ref 1 0)),(5,o1 (.ref 2 0)),(47,oI r73.1),(48,oI z86),(52,o1 (.ref 1 0))],[[cS (⟨#[]⟩:ByteArray),cI 0,.nl,.nl,.nl],[cS a0,cI z87,cB z88],[cS r3.1,cI r5.1,.own 51 (List.map eSNeed y37),.own 53 (List.map eSNeed y70),.own 56 (z.map eCV)]],0,[]⟩ ?_
        refine TriO2.nil ?_
        exact t01
    refine Tri2.drawn hmix (fun a w r hi hh=>wpAny_mono (fun e a w k=>Post2.mono (fun e st ρ hk=>⟨hk.1,hq st ρ hk.2⟩) k) _ _ _ _ (show wpAny _ _ _ _ _ (List.replicate opsRO.length false).toArray _ _ from (show List.replicate opsRO.length false = [false,false,false,false,false,false,false,false] by kernel_rfl) ▸ t00 a w r hi hh))
theorem impl_readObject.fn2 {k:Nat} {a0:ByteArray} {r:(SObj × Bool × ByteArray × Int × (List SNeed) × (List SNeed) × (List SCode))} (H:impl_readObject.f k a0 = some r):Fn2 Tryz.prog 14 [oS a0] [] (fun res ρ=>∃ (uN uG uP:Value) (z:List VC),res = tp [some 5,none] [cS r.1.f0,cI r.1.f1,.sc uN,.sc uG,.sc uP,cB r.2.1] ∧ z.map (·.2) = r.1.f4 ∧ ρ = oRows uN uG uP r.1.f2 r.1.f3 z):=by
 refine Fn2.bodyR [(2,some 27),(3,none)] Tryz.func14 ?_
 refine rn2 [0,2] 1 [] [] ?_
 refine rn2 [2,4] 2 [] [] ?_
 obtain ⟨r1,h2,H⟩:=bs H
 refine rn2 [2,4] 2 [] [hG 1 [] [1] none (impl_reader__head_2.fn h2)] ?_
 obtain ⟨r3,h4,H⟩:=bs H
 obtain ⟨r5,h6,H⟩:=bs H
 refine rn2 [2,4,5] 3 [] [hG 1 [] [1] none (impl_reader__text_2.fn h4),hG 3 [] [1] none (impl_reader__number_2.fn h6)] ?_
 obtain ⟨v39,h38,H⟩:=bs H
 refine Tri2.sq (Tri.mono (Q:=Ex (fun st'=>∃ w,v39 = w ∧ st' = ⟨65,[(2,o1 (.ref 0 0)),(4,o1 (.ref 1 0)),(5,o1 (.ref 2 0))],[[cS (⟨#[]⟩:ByteArray),cI 0,.nl,.nl,.nl],[cS a0,cI w.1,cB w.2.1],[cS r3.1,cI r5.1,.own 51 (List.map eSNeed w.2.2),.nl,.nl]],0,[]⟩) (fun _ _=>False)) (fun e st' q=>?_) ?_)
 · cases e <;> first | exact q.elim | skip
   obtain ⟨w,rfl,rfl⟩:=q
   obtain ⟨y35,y36,y37⟩:=v39
   dsimp only at H
   obtain ⟨v72,h71,H⟩:=bs H
   refine Tri2.sq (Tri.mono (Q:=Ex (fun st'=>∃ w,v72 = w ∧ st' = ⟨65,[(2,o1 (.ref 0 0)),(4,o1 (.ref 1 0)),(5,o1 (.ref 2 0))],[[cS (⟨#[]⟩:ByteArray),cI 0,.nl,.nl,.nl],[cS a0,cI w.1,cB w.2.1],[cS r3.1,cI r5.1,.own 51 (List.map eSNeed y37),.own 53 (List.map eSNeed w.2.2),.nl]],0,[]⟩) (fun _ _=>False)) (fun e st' q=>?_) ?_)
   · cases e <;> first | exact q.elim | skip
     obtain ⟨w,rfl,rfl⟩:=q
     obtain ⟨y68,y69,y70⟩:=v72
     dsimp only at H
     obtain ⟨v99,h98,H⟩:=bs H
     refine Tri2.join (α:=Int × Bool × List VC) (fun w=>v99 = (w.1,w.2.1,w.2.2.map (·.2))) (fun w=>⟨65,[(2,o1 (.ref 0 0)),(4,o1 (.ref 1 0)),(5,o1 (.ref 2 0))],[[cS (⟨#[]⟩:ByteArray),cI 0,.nl,.nl,.nl],[cS a0,cI w.1,cB w.2.1],[cS r3.1,cI r5.1,.own 51 (List.map eSNeed y37),.own 53 (List.map eSNeed y70),.own 56 (w.2.2.map eCV)]],0,[]⟩) (fun w=>w.2.2.map rCV) (fun w hw=>?_) ?_
     · subst hw
       dsimp only at H
       obtain ⟨y107,h108,H⟩:=bs H
       obtain rfl:=si H
       refine Tri2.adopt (.b 2 4) (e:=56) (flat_codes w.2.2) fun uP _=>?_
       refine Tri2.adopt (.b 2 2) (e:=51) (flat_needs y37) fun uN _=>?_
       refine Tri2.adopt (.b 2 3) (e:=53) (flat_needs y70) fun uG _=>?_
       refine Tri2.perm (ρ':=oRows uN uG uP y37 y70 w.2.2) (by simp [oRows]) ?_
       obtain ⟨E2,hE⟩:∃ E:Lent,E.env = (uN,PC.sl 2 (List.map eSNeed y37)) :: (uG,PC.sl 2 (List.map eSNeed y70)) :: (uP,PC.sl 5 (List.map eSCode (w.2.2.map (·.2)))) :: E1.env:=⟨⟨_⟩,rfl⟩
       refine Tri2.enter (L1:=@lf E1) (L2:=@lf E2) [] (obj_enter (E1:=E1) (E2:=E2) hE) (fun a w0 rs hi hh=>?_)
       refine TriL2.sq hi hh (Tri.mono (Q:=Ex (fun st'=>∃ y,y107 = y ∧ st' = ⟨65,[(2,o1 (.ref 0 0)),(3,oB y)],[[cS r3.1,cI r5.1,.sc uN,.sc uG,.sc uP]],0,[]⟩) (fun _ _=>False)) (fun e st' q=>?_) ?_)
       · cases e <;> first | exact q.elim | skip
         obtain ⟨y,rfl,rfl⟩:=q
         refine TriL2.back [2,3] hi hh ⟨65,[(2,o1 (.ref 0 0)),(3,oB y107)],[[cS r3.1,cI r5.1,.sc uN,.sc uG,.sc uP]],0,[]⟩ [] trivial ?_
         clear hE E2
         refine Tri2.ret ?_
         exact ⟨_,endsR (.inr rfl) (by kernel_rfl),uN,uG,uP,w.2.2,rfl,rfl,rfl⟩
       obtain ⟨r100,h101,h108⟩:=bs h108
       rcases iteb_some h108 with ⟨h102,h108⟩ | ⟨h102,h108⟩
       · obtain ⟨r103,h104,h108⟩:=bs h108
         refine deL hmix [[],[],[1],[1,2],[1,2,3],[1,2,3,4],[1,2,3,4,5],[0,1,2,3,4,5],[0,1,2,3,4,5,6,7]] [7] [⟨65,[(2,o1 (.ref 0 0)),(4,o1 (.ref 1 0)),(5,o1 (.ref 2 0))],[[cS r3.1,cI r5.1,.sc uN,.sc uG,.sc uP],[cS a0,cI w.1,cB w.2.1],[cS r3.1,cI r5.1,.sc uN,.sc uG,.sc uP]],0,[]⟩] [(58,ag [cS r3.1,cI r5.1,.sc uN,.sc uG,.sc uP]),(59,o1 (.ref 1 0)),(60,oB true),(61,oB true),(62,ag [cS r3.1,cI r5.1,.sc uN,.sc uG,.sc uP]),(63,oB r103),(64,oB r103),(57,⟨.any,[]⟩)] [2,3] 1 [] (fun A D B=>([hz B 1,ht D 0,ht D 1,hC 2 (impl_reader__ends_1.fn h101),hB 2 h102,ht D 2,ht D 3,ht D 4,hC 5 (known (E2:=E2) (args':=[ag [cS r3.1,cI r5.1,.sc uN,.sc uG,.sc uP]]) (by rw [hE]; exact List.mem_cons_self) (known (E2:=E2) (args':=[ag [cS r3.1,cI r5.1,.sl 2 (List.map eSNeed y37),.sc uG,.sc uP]]) (by rw [hE]; exact List.mem_cons_of_mem _ List.mem_cons_self) (known (E2:=E2) (args':=[ag [cS r3.1,cI r5.1,.sl 2 (List.map eSNeed y37),.sl 2 (List.map eSNeed y70),.sc uP]]) (by rw [hE]; exact List.mem_cons_of_mem _ (List.mem_cons_of_mem _ List.mem_cons_self)) (impl_ObjectOK.fn h104) 0 4) 0 3) 0 2),ht D 5,ht D 6,ht D 6,hm A D B 0 7 [57,58,59,60,61,62,63,2,4,5]],[])) ?_
         exact pf r103 h108
       refine deL hmix [[],[],[1],[1,2],[1,2,3],[1,2,3,4],[1,2,3,4,5],[0,1,2,3,4,5],[0,1,2,3,4,5,6,7]] [7] [⟨65,[(2,o1 (.ref 0 0)),(4,o1 (.ref 1 0)),(5,o1 (.ref 2 0))],[[cS r3.1,cI r5.1,.sc uN,.sc uG,.sc uP],[cS a0,cI w.1,cB w.2.1],[cS r3.1,cI r5.1,.sc uN,.sc uG,.sc uP]],0,[]⟩] [(58,ag [cS r3.1,cI r5.1,.sc uN,.sc uG,.sc uP]),(59,o1 (.ref 1 0)),(60,oB false),(61,oB false),(62,tp [] []),(63,tp [] []),(64,oB false),(57,⟨.any,[]⟩)] [2,3] 1 [] (fun A D B=>([hz B 1,ht D 0,ht D 1,hC 2 (impl_reader__ends_1.fn h101),hB 2 h102,ht D 2,ht D 3,ht D 4,ht D 5,ht D 6,ht D 6,hm A D B 0 7 [57,58,59,60,61,62,63,2,4,5]],[])) ?_
       exact pf false h108
     obtain ⟨r73,h74,h98⟩:=bs h98
     refine rn2 [2,4,5,47,48] 3 [] [hG 1 [] [1] none (impl_reader__number_2.fn h74)] ?_
     refine bl2 ?_
     refine fxx2 [2,4,5,47,48] 3 [.own (.b 2 4) 56] ⟨65,[(2,o1 (.ref 0 0)),(4,o1 (.ref 1 0)),(5,o1 (.ref 2 0)),(47,oI r73.1),(48,oI 0)],[[cS (⟨#[]⟩:ByteArray),cI 0,.nl,.nl,.nl],[cS a0,cI r73.2.1,cB r73.2.2],[cS r3.1,cI r5.1,.own 51 (List.map eSNeed y37),.own 53 (List.map eSNeed y70),.own 56 (([]:List VC).map eCV)]],0,[]⟩ ?_
     refine Tri2.loop k (TriR2.ind (α:=Int × Int × Bool × List VC) (fun k x=>impl_readObject.l5 k a0 r73 x.1 x.2.1 x.2.2.1 (x.2.2.2.map (·.2))) (fun x=>⟨65,[(2,o1 (.ref 0 0)),(4,o1 (.ref 1 0)),(5,o1 (.ref 2 0)),(47,oI r73.1),(48,oI x.1)],[[cS (⟨#[]⟩:ByteArray),cI 0,.nl,.nl,.nl],[cS a0,cI x.2.1,cB x.2.2.1],[cS r3.1,cI r5.1,.own 51 (List.map eSNeed y37),.own 53 (List.map eSNeed y70),.own 56 (x.2.2.2.map eCV)]],0,[]⟩) (fun x=>x.2.2.2.map rCV) (fun _=>rfl) (fun k x h98 IH=>?_) k (0,r73.2.1,r73.2.2,[]) h98)
     obtain ⟨z86,z87,z88,z⟩:=x
     dsimp only at h98
     rw [impl_readObject.l5.eq_2] at h98
     refine rn2 [2,4,5,47,48,49] 3 [] [] ?_
     refine Tri2.seq ?_
     refine ci2 h98 (fun h90 h98=>?_) fun h90 h98=>?_
     · refine Tri2.skip ?_
       obtain ⟨r91,h92,h98⟩:=bs h98
       obtain ⟨h93,h98⟩:=nd h98
       refine Tri2.join (α:=Int × Bool × List VC) (fun w=>(r91.2.1,r91.2.2.1,z.map (·.2) ++ [r91.1]) = (w.1,w.2.1,w.2.2.map (·.2))) (fun w=>⟨65,[(2,o1 (.ref 0 0)),(4,o1 (.ref 1 0)),(5,o1 (.ref 2 0)),(47,oI r73.1),(48,oI z86)],[[cS (⟨#[]⟩:ByteArray),cI 0,.nl,.nl,.nl],[cS a0,cI w.1,cB w.2.1],[cS r3.1,cI r5.1,.own 51 (List.map eSNeed y37),.own 53 (List.map eSNeed y70),.own 56 (w.2.2.map eCV)]],0,[]⟩) (fun w=>w.2.2.map rCV) (fun w hw=>?_) ?_
       · obtain ⟨y141,y142,y143⟩:=w
         simp only [Prod.mk.injEq] at hw
         obtain ⟨e1,e2,e3⟩:=hw
         refine rlx2 [2,4,5,47,48] 3 [] [] ⟨65,[(2,o1 (.ref 0 0)),(4,o1 (.ref 1 0)),(5,o1 (.ref 2 0)),(47,oI r73.1),(48,oI (w64 (z86 + 1)))],[[cS (⟨#[]⟩:ByteArray),cI 0,.nl,.nl,.nl],[cS a0,cI y141,cB y142],[cS r3.1,cI r5.1,.own 51 (List.map eSNeed y37),.own 53 (List.map eSNeed y70),.own 56 (y143.map eCV)]],0,[]⟩ ?_
         refine IH k (w64 (z86 + 1),y141,y142,y143) (Nat.le_refl _) ?_
         dsimp only
         rw [← e1,← e2,← e3]
         exact h98
       refine bl2 ?_
       refine fxx2 [2,4,5,47,48] 3 [] ⟨65,[(2,o1 (.ref 0 0)),(4,o1 (.ref 1 0)),(5,o1 (.ref 2 0)),(47,oI r73.1),(48,oI z86)],[[cS (⟨#[]⟩:ByteArray),cI 0,.nl,.nl,.nl],[cS a0,cI z87,cB z88],[cS r3.1,cI r5.1,.own 51 (List.map eSNeed y37),.own 53 (List.map eSNeed y70),.own 56 (z.map eCV)]],0,[]⟩ ?_
       refine impl_readObject.add (by kernel_rfl) h92 (by simpa using h93) (fun st' ρ' h=>?_)
       exact h
     refine fx2 [2,4,5] 3 [] ?_
     refine Tri2.exit ?_
     exact ⟨(z87,z88,z),(si h98).symm,rfl,rfl⟩
   obtain ⟨r40,h41,h71⟩:=bs h71
   refine rn [2,4,5,32,33] 3 [] [hG 1 [] [1] none (impl_reader__number_2.fn h41)] ?_
   refine bl ?_
   refine fx [2,4,5,32,33] 3 [.own (.b 2 3) 53] ?_
   refine lo (Int × Int × Bool × (List SNeed)) k (fun k x=>impl_readObject.l3 k a0 r40 x.1 x.2.1 x.2.2.1 x.2.2.2) (fun x=>⟨65,[(2,o1 (.ref 0 0)),(4,o1 (.ref 1 0)),(5,o1 (.ref 2 0)),(32,oI r40.1),(33,oI x.1)],[[cS (⟨#[]⟩:ByteArray),cI 0,.nl,.nl,.nl],[cS a0,cI x.2.1,cB x.2.2.1],[cS r3.1,cI r5.1,.own 51 (List.map eSNeed y37),.own 53 (List.map eSNeed x.2.2.2),.nl]],0,[]⟩) (0,r40.2.1,r40.2.2,([]:List SNeed)) h71 fun k x h71 IH67=>?_
   obtain ⟨z57,z58,z59,z60⟩:=x
   rw [impl_readObject.l3.eq_2] at h71
   refine rn [2,4,5,32,33,34] 3 [] [] ?_
   refine sq ?_
   refine ci h71 (fun h61 h71=>?_) fun h61 h71=>?_
   ·refine sk ?_
    refine sq ?_
    refine bl ?_
    obtain ⟨r62,h63,h71⟩:=bs h71
    obtain ⟨r64,h65,h71⟩:=bs h71
    obtain ⟨h66,h71⟩:=nd h71
    refine deL hmix [[],[0],[],[2],[],[2,3,4],[2,3,4,5],[2,3,4,5,6],[0,1,2,3,4,5,6,7],[0,1,2,3,4,5,6,7,8],[0,1,2,3,4,5,6,7,8,9]] [3,5] [⟨65,[(2,o1 (.ref 0 0)),(4,o1 (.ref 1 0)),(5,o1 (.ref 2 0)),(32,oI r40.1),(33,oI z57),(34,oB (decide (z57 < r40.1)))],[[cS (⟨#[]⟩:ByteArray),cI 0,.nl,.nl,.nl],[cS a0,cI r62.2.1,cB r62.2.2],[cS r3.1,cI r5.1,.own 51 (List.map eSNeed y37),.own 53 (List.map eSNeed z60),.nl]],0,[]⟩,⟨65,[(2,o1 (.ref 0 0)),(4,o1 (.ref 1 0)),(5,o1 (.ref 2 0)),(32,oI r40.1),(33,oI z57),(34,oB (decide (z57 < r40.1)))],[[cS (⟨#[]⟩:ByteArray),cI 0,.nl,.nl,.nl],[cS a0,cI r64.2.1,cB r64.2.2],[cS r3.1,cI r5.1,.own 51 (List.map eSNeed y37),.own 53 (List.map eSNeed z60),.nl]],0,[]⟩] [(35,o1 (.ref 2 3)),(36,o1 (.al (.b 2 3))),(37,o1 (.ref 1 0)),(38,oS r62.1),(39,o1 (.ref 1 0)),(40,oI r64.1),(41,ag [cS r62.1,cI r64.1]),(42,o1 (.own 53 (List.map eSNeed ([(⟨r62.1,r64.1⟩:SNeed)]:List SNeed))))] [2,4,5,32,33] 3 [] (fun A D B=>([hz B 1,hz B 2,ht D 0,ht D 0,ht D 0,ht D 1,ht D 1,ht D 1,ht D 2,hG 3 [] [1] none (impl_reader__text_2.fn h63),hm A D B 0 3 [38,37,2,4,5,32,33,34],hx B 0 2,ht D 4,ht D 4,hG 5 [] [1] none (impl_reader__number_2.fn h65),hm A D B 1 5 [40,37,38,39,2,4,5,32,33,34],hx B 1 2,ht D 6,ht D 7],[hA 8 53 eSNeed h66])) ?_
    refine rl [2,4,5,32,33] 3 [] [] ?_
    exact lb IH67 (w64 (z57 + 1),r64.2.1,r64.2.2,z60 ++ ([(⟨r62.1,r64.1⟩:SNeed)]:List SNeed)) h71
   refine fx [2,4,5] 3 [] ?_
   refine xi ?_
   exact pf (z58,z59,z60) h71
 obtain ⟨r7,h8,h38⟩:=bs h38
 refine rn [2,4,5,17,18] 3 [] [hG 1 [] [1] none (impl_reader__number_2.fn h8)] ?_
 refine bl ?_
 refine fx [2,4,5,17,18] 3 [.own (.b 2 2) 51] ?_
 refine lo (Int × Int × Bool × (List SNeed)) k (fun k x=>impl_readObject.l1 k a0 r7 x.1 x.2.1 x.2.2.1 x.2.2.2) (fun x=>⟨65,[(2,o1 (.ref 0 0)),(4,o1 (.ref 1 0)),(5,o1 (.ref 2 0)),(17,oI r7.1),(18,oI x.1)],[[cS (⟨#[]⟩:ByteArray),cI 0,.nl,.nl,.nl],[cS a0,cI x.2.1,cB x.2.2.1],[cS r3.1,cI r5.1,.own 51 (List.map eSNeed x.2.2.2),.nl,.nl]],0,[]⟩) (0,r7.2.1,r7.2.2,([]:List SNeed)) h38 fun k x h38 IH34=>?_
 obtain ⟨z24,z25,z26,z27⟩:=x
 rw [impl_readObject.l1.eq_2] at h38
 refine rn [2,4,5,17,18,19] 3 [] [] ?_
 refine sq ?_
 refine ci h38 (fun h28 h38=>?_) fun h28 h38=>?_
 ·refine sk ?_
  refine sq ?_
  refine bl ?_
  obtain ⟨r29,h30,h38⟩:=bs h38
  obtain ⟨r31,h32,h38⟩:=bs h38
  obtain ⟨h33,h38⟩:=nd h38
  refine deL hmix [[],[0],[],[2],[],[2,3,4],[2,3,4,5],[2,3,4,5,6],[0,1,2,3,4,5,6,7],[0,1,2,3,4,5,6,7,8],[0,1,2,3,4,5,6,7,8,9]] [3,5] [⟨65,[(2,o1 (.ref 0 0)),(4,o1 (.ref 1 0)),(5,o1 (.ref 2 0)),(17,oI r7.1),(18,oI z24),(19,oB (decide (z24 < r7.1)))],[[cS (⟨#[]⟩:ByteArray),cI 0,.nl,.nl,.nl],[cS a0,cI r29.2.1,cB r29.2.2],[cS r3.1,cI r5.1,.own 51 (List.map eSNeed z27),.nl,.nl]],0,[]⟩,⟨65,[(2,o1 (.ref 0 0)),(4,o1 (.ref 1 0)),(5,o1 (.ref 2 0)),(17,oI r7.1),(18,oI z24),(19,oB (decide (z24 < r7.1)))],[[cS (⟨#[]⟩:ByteArray),cI 0,.nl,.nl,.nl],[cS a0,cI r31.2.1,cB r31.2.2],[cS r3.1,cI r5.1,.own 51 (List.map eSNeed z27),.nl,.nl]],0,[]⟩] [(20,o1 (.ref 2 2)),(21,o1 (.al (.b 2 2))),(22,o1 (.ref 1 0)),(23,oS r29.1),(24,o1 (.ref 1 0)),(25,oI r31.1),(26,ag [cS r29.1,cI r31.1]),(27,o1 (.own 51 (List.map eSNeed ([(⟨r29.1,r31.1⟩:SNeed)]:List SNeed))))] [2,4,5,17,18] 3 [] (fun A D B=>([hz B 1,hz B 2,ht D 0,ht D 0,ht D 0,ht D 1,ht D 1,ht D 1,ht D 2,hG 3 [] [1] none (impl_reader__text_2.fn h30),hm A D B 0 3 [23,22,2,4,5,17,18,19],hx B 0 2,ht D 4,ht D 4,hG 5 [] [1] none (impl_reader__number_2.fn h32),hm A D B 1 5 [25,22,23,24,2,4,5,17,18,19],hx B 1 2,ht D 6,ht D 7],[hA 8 51 eSNeed h33])) ?_
  refine rl [2,4,5,17,18] 3 [] [] ?_
  exact lb IH34 (w64 (z24 + 1),r31.2.1,r31.2.2,z27 ++ ([(⟨r29.1,r31.1⟩:SNeed)]:List SNeed)) h38
 refine fx [2,4,5] 3 [] ?_
 refine xi ?_
 exact pf (z25,z26,z27) h38
theorem impl_ReadObject.fn2 {k:Nat} {a0:List Int} {r:(SObj × Int × ByteArray × Int × (List SNeed) × (List SNeed) × (List SCode))} (H:impl_ReadObject.f k a0 = some r):Fn2 Tryz.prog 6 [o1 (.sl 1 (List.map (eK .u8) a0))] [] (fun res ρ=>∃ (uN uG uP:Value) (z:List VC),res = tp [some 5,none] [cS r.1.f0,cI r.1.f1,.sc uN,.sc uG,.sc uP,cI r.2.1] ∧ z.map (·.2) = r.1.f4 ∧ ρ = oRows uN uG uP r.1.f2 r.1.f3 z):=by
  refine Fn2.bodyR [(2,some 27),(3,none)] Tryz.func6 ?_
  refine rn2 [0,2] 1 [] [] ?_
  refine Tri2.seq ?_
  obtain ⟨r1,h2,H⟩:=bs H
  refine rn2 [0,2,8] 1 [] [hC 1 (impl_isShort___byte.fn h2)] ?_
  refine cm2 H (fun h3 H=>?_) fun h3 H=>?_
  · refine Tri2.skip ?_
    obtain ⟨r4,h5,H⟩:=bs H
    refine Tri2.seq (Tri2.region ?_)
    refine ew 2 [q1 1 (.nums a0) (rfl:List.map (eK .u8) a0 = List.map (fun n=>[PC.sc (.int .u8 n)]) a0)] ?_
    refine TriO2.call (d:=13) [] (ρa:=[]) (ρ0:=[]) (impl_readObject.fn2 h5) (fun res ρr ⟨uN,uG,uP,z,e1,_,_⟩=>by subst e1; rfl) (fun res ρr ⟨uN,uG,uP,z,e1,hz,e2⟩=>?_)
    subst e1 e2
    refine ew 6 [] ?_
    refine exx [2,4,5] 2 [] ⟨20,[(2,o1 (.ref 0 0)),(4,o1 (.ref 1 0)),(5,oB r4.2.1)],[[cS (⟨#[]⟩:ByteArray),cI 0,.nl,.nl,.nl],[cS r4.1.f0,cI r4.1.f1,.sc uN,.sc uG,.sc uP]],0,[]⟩ ?_
    refine TriO2.nil ?_
    refine Tri2.seq ?_
    refine rn2 [2,4,17] 2 [] [] ?_
    refine cm2 H (fun h6 H=>?_) fun h6 H=>?_
    · refine Tri2.skip ?_
      refine rx2 [2,3] 1 [] [] ⟨20,[(2,o1 (.ref 0 0)),(3,oI 0)],[[cS r4.1.f0,cI r4.1.f1,.sc uN,.sc uG,.sc uP]],0,[]⟩ ?_
      refine Tri2.ret ?_
      obtain rfl:=si H
      exact ⟨_,endsR (.inr rfl) (by kernel_rfl),uN,uG,uP,z,rfl,hz,List.append_nil _⟩
    refine rx2 [2,3] 1 [] [] ⟨20,[(2,o1 (.ref 0 0)),(3,oI 3)],[[cS (⟨#[]⟩:ByteArray),cI 0,.nl,.nl,.nl]],0,[]⟩ ?_
    refine Tri2.sub (ρ':=[]) (List.Perm.refl _) ?_
    refine fxx2 [2,3] 1 [.own (.b 0 2) 51,.own (.b 0 3) 53,.own (.b 0 4) 56] ⟨20,[(2,o1 (.ref 0 0)),(3,oI 3)],[[cS (⟨#[]⟩:ByteArray),cI 0,.own 51 [],.own 53 [],.own 56 []]],0,[]⟩ ?_
    refine Tri2.adopt (.b 0 4) (e:=56) (xs:=[]) rfl fun uP _=>?_
    refine Tri2.adopt (.b 0 2) (e:=51) (xs:=[]) rfl fun uN _=>?_
    refine Tri2.adopt (.b 0 3) (e:=53) (xs:=[]) rfl fun uG _=>?_
    refine Tri2.ret ?_
    obtain rfl:=si H
    exact ⟨_,endsR (.inr rfl) (by kernel_rfl),uN,uG,uP,[],rfl,rfl,rfl⟩
  refine rx2 [2,3] 1 [] [] ⟨20,[(2,o1 (.ref 0 0)),(3,oI 2)],[[cS (⟨#[]⟩:ByteArray),cI 0,.nl,.nl,.nl]],0,[]⟩ ?_
  refine Tri2.sub (ρ':=[]) (List.Perm.refl _) ?_
  refine fxx2 [2,3] 1 [.own (.b 0 2) 51,.own (.b 0 3) 53,.own (.b 0 4) 56] ⟨20,[(2,o1 (.ref 0 0)),(3,oI 2)],[[cS (⟨#[]⟩:ByteArray),cI 0,.own 51 [],.own 53 [],.own 56 []]],0,[]⟩ ?_
  refine Tri2.adopt (.b 0 4) (e:=56) (xs:=[]) rfl fun uP _=>?_
  refine Tri2.adopt (.b 0 2) (e:=51) (xs:=[]) rfl fun uN _=>?_
  refine Tri2.adopt (.b 0 3) (e:=53) (xs:=[]) rfl fun uG _=>?_
  refine Tri2.ret ?_
  obtain rfl:=si H
  exact ⟨_,endsR (.inr rfl) (by kernel_rfl),uN,uG,uP,[],rfl,rfl,rfl⟩
def laws_FnExactReadObject.e1 (k:Nat) (r4 r8:SObj × Int × ByteArray × Int × (List SNeed) × (List SNeed) × (List SCode)):Option Bool:=(laws_eqObject.f k r8.1 r4.1).bind fun r10=>if r10 = true then (some (!(decide (r8.2.1 = r4.2.1)))) else (some true)
def laws_FnExactReadObject.e2 (k:Nat) (r4 r8:SObj × Int × ByteArray × Int × (List SNeed) × (List SNeed) × (List SCode)) (n:Int):Option Bool:=if n < 0 then (some true) else ((laws_eqObject.f k r8.1 r4.1).bind fun r25=>if r25 = true then (some (!(decide (r8.2.1 = r4.2.1)))) else (some true))
def laws_FnExactReadObject.f (k:Nat) (a0:List Int):Option Bool:=if (1048576:Int) < (a0.length:Int) then (some true) else ((laws_toByteS.f k a0).bind fun r2=>(spec_ReadObject.f k r2).bind fun r4=>(laws_toByteS.f k a0).bind fun r6=>(impl_ReadObject.f k r6).bind fun r8=>(laws_FnExactReadObject.e1 k r4 r8).bind fun y13=>if y13 = true then (some false) else ((laws_toByteS.f k a0).bind fun r17=>(laws_eqByteS.f k r6 r17).bind fun r19=>if r19 = true then ((laws_markByteS_1.f k r6 1).bind fun r22=>(laws_FnExactReadObject.e2 k r4 r8 r22.1).bind fun y28=>if y28 = true then (some false) else ((laws_markObject.f k r8.1 1).bind fun r32=>(laws_heldObject.f k r32.2 1).bind fun r34=>if r34 < 0 then (some false) else (if r34 = r32.1 then ((laws_toByteS.f k a0).bind fun r38=>(impl_ReadObject.f k r38).bind fun r40=>(laws_FnExactReadObject.e1 k r4 r40).bind fun y45=>if y45 = true then (some false) else ((laws_heldObject.f k r32.2 1).bind fun r49=>if r49 < 0 then (some false) else (if r49 = r32.1 then (some true) else (some false)))) else (some false)))) else (some false)))
theorem laws_FnExactReadObject.fn {k:Nat} {a0:List Int} (H:laws_FnExactReadObject.f k a0 = some true):Fn Tryz.prog 3 [o1 (.sl 1 (List.map (eK .u8) a0))] [] (oB true) []:=by
 refine Fn2.fn ?_
 refine Fn2.body 2 Tryz.func3 ?_
 refine rn2 [0] 0 [] [] ?_
 refine Tri2.seq ?_
 refine rn2 [0,15] 0 [] [hL 1 (eK .u8) a0] ?_
 refine ci2 H (fun h1 H=>?_) fun h1 H=>?_
 · refine rx2 [2] 0 [] [] ⟨93,[(2,oB true)],[],0,[]⟩ ?_
   refine Tri2.ret ?_
   exact ⟨_,⟨.inr rfl,rfl,rfl,Nat.le_refl _,rfl,by simp⟩,rfl⟩
 refine Tri2.skip ?_
 obtain ⟨r2,h3,H⟩:=bs H
 obtain ⟨r4,h5,H⟩:=bs H
 refine rn2 [0,3,4] 2 [] [hC 1 (laws_toByteS.fn h3) (show (List.all [.own 5 (List.map (eK .u8) r2)] PC.flatB) = true by simp [PC.flatB,PC.scalar,cI,cK,cB,cS,eK]),q0 2 (.frz (.t 18 0)),hG 2 [] [] none (spec_ReadObject.fn h5)] ?_
 refine fb2 ⟨93,[(0,o1 (.sl 1 (List.map (eK .u8) a0))),(3,o1 (.cel (eSObj r4.1) 0)),(4,oI r4.2.1)],[[cS r4.2.2.1,cI r4.2.2.2.1,.sl 2 (List.map eSNeed r4.2.2.2.2.1),.sl 2 (List.map eSNeed r4.2.2.2.2.2.1),.sl 5 (List.map eSCode r4.2.2.2.2.2.2)]],0,[]⟩ ?_
 obtain ⟨r6,h7,H⟩:=bs H
 refine rx2 [0,3,4,5] 0 [] [hC 1 (laws_toByteS.fn h7) (show (List.all [.own 5 (List.map (eK .u8) r6)] PC.flatB) = true by simp [PC.flatB,PC.scalar,cI,cK,cB,cS,eK])] ⟨93,[(0,o1 (.sl 1 (List.map (eK .u8) a0))),(3,o1 (.cel (eSObj r4.1) 0)),(4,oI r4.2.1),(5,o1 (.own 5 (List.map (eK .u8) r6)))],[],0,[]⟩ ?_
 obtain ⟨r8,h9,H⟩:=bs H
 obtain ⟨⟨nm,pr,ns,gs,its⟩,n8,q8⟩:=r8
 refine Tri2.seq (Tri2.region ?_)
 refine ew 1 [] ?_
 refine TriO2.callX (d:=26) [] (ρa:=[]) (ρ0:=[]) (impl_ReadObject.fn2 h9) (fun res ρr ⟨uN,uG,uP,z,e1,_,_⟩=>by subst e1; rfl) (fun res ρr ⟨uN,uG,uP,z,e1,hz,e2⟩=>?_)
 subst e1 e2
 dsimp only at hz
 subst hz
 refine ew 6 [] ?_
 refine exx [0,3,4,5,6,7] 1 [] ⟨93,[(0,o1 (.sl 1 (List.map (eK .u8) a0))),(3,o1 (.cel (eSObj r4.1) 0)),(4,oI r4.2.1),(5,o1 (.own 5 (List.map (eK .u8) r6))),(6,o1 (.ref 0 0)),(7,oI n8)],[[cS nm,cI pr,.sc uN,.sc uG,.sc uP]],0,[]⟩ ?_
 rw [List.append_nil]
 refine TriO2.nil ?_
 obtain ⟨E2,hE⟩:∃ E:Lent,E.env = (uN,PC.sl 2 (List.map eSNeed ns)) :: (uG,PC.sl 2 (List.map eSNeed gs)) :: (uP,PC.sl 5 (List.map eSCode (z.map (·.2)))) :: E1.env:=⟨⟨_⟩,rfl⟩
 refine Tri2.enter (L1:=@lf E1) (L2:=@lf E2) [0,3] (obj_enter (E1:=E1) (E2:=E2) hE) (fun a w0 rs hi hh=>?_)
 refine TriL2.sq hi hh ?_
 refine jo H (fun y13=>⟨93,[(0,o1 (.sl 1 (List.map (eK .u8) a0))),(3,o1 (.cel (eSObj r4.1) 0)),(4,oI r4.2.1),(5,o1 (.own 5 (List.map (eK .u8) r6))),(6,o1 (.ref 0 0)),(7,oI n8),(37,oB y13)],[[cS nm,cI pr,.sc uN,.sc uG,.sc uP]],0,[0,3]⟩) (fun y13 H=>?_) fun v15 h14 H=>?_
 · refine cb H (fun h16 H=>by cases H) fun h16 H=>?_
   refine sk ?_
   obtain ⟨r17,h18,H⟩:=bs H
   obtain ⟨r19,h20,H⟩:=bs H
   refine TriL2.sq hi hh ?_
   refine rn [0,3,4,5,6,7,42] 1 [] [hC 2 (laws_toByteS.fn h18) (show (List.all [.own 5 (List.map (eK .u8) r17)] PC.flatB) = true by simp [PC.flatB,PC.scalar,cI,cK,cB,cS,eK]),hC 3 (laws_eqByteS.fn h20)] ?_
   refine cm H (fun h21 H=>?_) fun h21 H=>by cases H
   refine sk ?_
   refine TriL2.sq hi hh (rl [0,3,4,5,6,7,8] 1 [] [] ?_)
   obtain ⟨r22,h23,H⟩:=bs H
   refine TriL2.sq hi hh (rl [0,3,4,6,7,8] 1 [] [hG 2 [] [] (some (0,(.t 5 0))) (laws_markByteS_1.fn h23)] ?_)
   refine TriL2.sq hi hh ?_
   refine jo H (fun y28=>⟨93,[(0,o1 (.sl 1 (List.map (eK .u8) a0))),(3,o1 (.cel (eSObj r4.1) 0)),(4,oI r4.2.1),(6,o1 (.ref 0 0)),(58,oB y28)],[[cS nm,cI pr,.sc uN,.sc uG,.sc uP]],0,[0,3]⟩) (fun y28 H=>?_) fun v30 h29 H=>?_
   · refine cb H (fun h31 H=>by cases H) fun h31 H=>?_
     refine sk ?_
     refine TriL2.sq hi hh (rl [0,3,4,6,9] 1 [] [] ?_)
     obtain ⟨r32,h33,H⟩:=bs H
     obtain ⟨m1,hm1,h33⟩:=bs h33
     obtain ⟨m2,hm2,h33⟩:=bs h33
     obtain ⟨⟨ri,ni⟩,hm3,h33⟩:=bs h33
     obtain rfl:=si h33
     refine TriL2.back [0,3,4,6,9] hi hh ⟨93,[(0,o1 (.sl 1 (List.map (eK .u8) a0))),(3,o1 (.cel (eSObj r4.1) 0)),(4,oI r4.2.1),(6,o1 (.ref 0 0)),(9,oI 1)],[[cS nm,cI pr,.sc uN,.sc uG,.sc uP]],0,[]⟩ [] trivial ?_
     clear hi hh hE E2 a w0 rs
     refine Tri2.seq (Tri2.region ?_)
     refine ew 2 [] ?_
     refine TriO2.perm (ρ':=oRows uN uG uP ns gs z ++ []) (by rw [List.append_nil]) ?_
     refine TriO2.call (d:=61) [] (laws_markObject.fn2 (nm:=nm) (pr:=pr) hm1 hm2 hm3) (fun res ρr ⟨e1,_⟩=>by subst e1; rfl) (fun res ρr ⟨e1,z2,hz2,e2⟩=>?_)
     subst e1 e2
     dsimp only at hz2
     subst hz2
     refine ew 1 [] ?_
     refine exx [0,3,4,6,9] 1 [] ⟨93,[(0,o1 (.sl 1 (List.map (eK .u8) a0))),(3,o1 (.cel (eSObj r4.1) 0)),(4,oI r4.2.1),(6,o1 (.ref 0 0)),(9,oI ni)],[[cS nm,cI pr,.sc uN,.sc uG,.sc uP]],0,[]⟩ ?_
     rw [List.append_nil]
     refine TriO2.nil ?_
     obtain ⟨E2,hE⟩:∃ E:Lent,E.env = (uN,PC.sl 2 (List.map eSNeed m1.2)) :: (uG,PC.sl 2 (List.map eSNeed m2.2)) :: (uP,PC.sl 5 (List.map eSCode (z2.map (·.2)))) :: E1.env:=⟨⟨_⟩,rfl⟩
     refine Tri2.enter (L1:=@lf E1) (L2:=@lf E2) [0,3] (obj_enter (E1:=E1) (E2:=E2) hE) (fun a w0 rs hi hh=>?_)
     refine TriL2.end hi hh (Tri.mono (fun e st' h=>⟨_,h,rfl⟩) (Q:=Ends [2] (oB true) []) ?_)
     refine rn [0,3,4,6,9,10] 1 [] [] ?_
     obtain ⟨r34,h35,H⟩:=bs H
     refine rn [0,3,4,6,9,10] 1 [] [hC 2 (known (E2:=E2) (args':=[ag [cS nm,cI pr,.sc uN,.sc uG,.sc uP],oI 1]) (by rw [hE]; exact List.mem_cons_self) (known (E2:=E2) (args':=[ag [cS nm,cI pr,.sl 2 (List.map eSNeed m1.2),.sc uG,.sc uP],oI 1]) (by rw [hE]; exact List.mem_cons_of_mem _ List.mem_cons_self) (known (E2:=E2) (args':=[ag [cS nm,cI pr,.sl 2 (List.map eSNeed m1.2),.sl 2 (List.map eSNeed m2.2),.sc uP],oI 1]) (by rw [hE]; exact List.mem_cons_of_mem _ (List.mem_cons_of_mem _ List.mem_cons_self)) (laws_heldObject.fn h35) 0 4) 0 3) 0 2)] ?_
     refine sq ?_
     refine rn [0,3,4,6,9,10,66] 1 [] [] ?_
     refine ci H (fun h36 H=>?_) fun h36 H=>?_
     ·refine rx [2] 0 [] [] ⟨93,[(2,oB false)],[],0,[0,3]⟩ ?_
      refine Tri.ret ?_
      first | exact absurd (si H) (by decide) | exact eR
     refine sk ?_
     refine sq ?_
     refine rx [0,3,4,6,9,69] 1 [] [] ⟨93,[(0,o1 (.sl 1 (List.map (eK .u8) a0))),(3,o1 (.cel (eSObj r4.1) 0)),(4,oI r4.2.1),(6,o1 (.ref 0 0)),(9,oI ni),(69,oB (!(decide (r34 = ni))))],[[cS nm,cI pr,.sc uN,.sc uG,.sc uP]],0,[0,3]⟩ ?_
     refine cn H (fun h37 H=>?_) fun h37 H=>?_
     ·refine sk ?_
      obtain ⟨r38,h39,H⟩:=bs H
      obtain ⟨r40,h41,H⟩:=bs H
      refine rn [3,4,6,9,11,12] 3 [] [hC 1 (laws_toByteS.fn h39) (show (List.all [.own 5 (List.map (eK .u8) r38)] PC.flatB) = true by simp [PC.flatB,PC.scalar,cI,cK,cB,cS,eK]),q0 2 (.frz (.t 72 0)),hG 2 [] [] none (impl_ReadObject.fn h41)] ?_
      refine sq ?_
      refine jo H (fun y45=>⟨93,[(6,o1 (.ref 0 0)),(9,oI ni),(84,oB y45)],[[cS nm,cI pr,.sc uN,.sc uG,.sc uP]],0,[0,3]⟩) (fun y45 H=>?_) fun v47 h46 H=>?_
      ·refine cb H (fun h48 H=>?_) fun h48 H=>?_
       ·refine rn [2] 0 [] [] ?_
        refine Tri.ret ?_
        first | exact absurd (si H) (by decide) | exact eR
       refine sk ?_
       refine rn [6,9,10] 1 [] [] ?_
       obtain ⟨r49,h50,H⟩:=bs H
       refine rn [9,10] 0 [] [hC 2 (known (E2:=E2) (args':=[ag [cS nm,cI pr,.sc uN,.sc uG,.sc uP],oI 1]) (by rw [hE]; exact List.mem_cons_self) (known (E2:=E2) (args':=[ag [cS nm,cI pr,.sl 2 (List.map eSNeed m1.2),.sc uG,.sc uP],oI 1]) (by rw [hE]; exact List.mem_cons_of_mem _ List.mem_cons_self) (known (E2:=E2) (args':=[ag [cS nm,cI pr,.sl 2 (List.map eSNeed m1.2),.sl 2 (List.map eSNeed m2.2),.sc uP],oI 1]) (by rw [hE]; exact List.mem_cons_of_mem _ (List.mem_cons_of_mem _ List.mem_cons_self)) (laws_heldObject.fn h50) 0 4) 0 3) 0 2)] ?_
       refine sq ?_
       refine rn [9,10,89] 0 [] [] ?_
       refine ci H (fun h51 H=>?_) fun h51 H=>?_
       ·refine rn [2] 0 [] [] ?_
        refine Tri.ret ?_
        first | exact absurd (si H) (by decide) | exact eR
       refine sk ?_
       refine sq ?_
       refine rn [92] 0 [] [] ?_
       refine cn H (fun h52 H=>?_) fun h52 H=>?_
       ·refine sk ?_
        refine rn [2] 0 [] [] ?_
        refine Tri.ret ?_
        first | exact absurd (si H) (by decide) | exact eR
       refine rn [2] 0 [] [] ?_
       refine Tri.ret ?_
       first | exact absurd (si H) (by decide) | exact eR
      obtain ⟨r42,h43,h46⟩:=bs h46
      rcases iteb_some h46 with ⟨h44,h46⟩ | ⟨h44,h46⟩
      ·refine rl [6,9,84] 1 [] [hC 2 (laws_eqObject.fn h43),hB 2 h44] ?_
       exact pf (!(decide (r40.2.1 = r4.2.1))) h46
      refine rl [6,9,84] 1 [] [hC 2 (laws_eqObject.fn h43),hB 2 h44] ?_
      exact pf true h46
     refine rn [2] 0 [] [] ?_
     refine Tri.ret ?_
     first | exact absurd (si H) (by decide) | exact eR
   rcases ite_some h29 with ⟨h24,h29⟩ | ⟨h24,h29⟩
   ·refine rl [0,3,4,6,58] 1 [] [hB 1 (decide_eq_true h24)] ?_
    exact pf true h29
   obtain ⟨r25,h26,h29⟩:=bs h29
   rcases iteb_some h29 with ⟨h27,h29⟩ | ⟨h27,h29⟩
   ·refine rl [0,3,4,6,58] 1 [] [hB 1 (decide_eq_false h24),hC 5 (known (E2:=E2) (args':=[ag [cS nm,cI pr,.sc uN,.sc uG,.sc uP],ag (eSObj r4.1)]) (by rw [hE]; exact List.mem_cons_self) (known (E2:=E2) (args':=[ag [cS nm,cI pr,.sl 2 (List.map eSNeed ns),.sc uG,.sc uP],ag (eSObj r4.1)]) (by rw [hE]; exact List.mem_cons_of_mem _ List.mem_cons_self) (known (E2:=E2) (args':=[ag [cS nm,cI pr,.sl 2 (List.map eSNeed ns),.sl 2 (List.map eSNeed gs),.sc uP],ag (eSObj r4.1)]) (by rw [hE]; exact List.mem_cons_of_mem _ (List.mem_cons_of_mem _ List.mem_cons_self)) (laws_eqObject.fn h26) 0 4) 0 3) 0 2),hB 5 h27] ?_
    exact pf (!(decide (n8 = r4.2.1))) h29
   refine rl [0,3,4,6,58] 1 [] [hB 1 (decide_eq_false h24),hC 5 (known (E2:=E2) (args':=[ag [cS nm,cI pr,.sc uN,.sc uG,.sc uP],ag (eSObj r4.1)]) (by rw [hE]; exact List.mem_cons_self) (known (E2:=E2) (args':=[ag [cS nm,cI pr,.sl 2 (List.map eSNeed ns),.sc uG,.sc uP],ag (eSObj r4.1)]) (by rw [hE]; exact List.mem_cons_of_mem _ List.mem_cons_self) (known (E2:=E2) (args':=[ag [cS nm,cI pr,.sl 2 (List.map eSNeed ns),.sl 2 (List.map eSNeed gs),.sc uP],ag (eSObj r4.1)]) (by rw [hE]; exact List.mem_cons_of_mem _ (List.mem_cons_of_mem _ List.mem_cons_self)) (laws_eqObject.fn h26) 0 4) 0 3) 0 2),hB 5 h27] ?_
   exact pf true h29
 obtain ⟨r10,h11,h14⟩:=bs h14
 rcases iteb_some h14 with ⟨h12,h14⟩ | ⟨h12,h14⟩
 ·refine rl [0,3,4,5,6,7,37] 1 [] [hC 2 (known (E2:=E2) (args':=[ag [cS nm,cI pr,.sc uN,.sc uG,.sc uP],ag (eSObj r4.1)]) (by rw [hE]; exact List.mem_cons_self) (known (E2:=E2) (args':=[ag [cS nm,cI pr,.sl 2 (List.map eSNeed ns),.sc uG,.sc uP],ag (eSObj r4.1)]) (by rw [hE]; exact List.mem_cons_of_mem _ List.mem_cons_self) (known (E2:=E2) (args':=[ag [cS nm,cI pr,.sl 2 (List.map eSNeed ns),.sl 2 (List.map eSNeed gs),.sc uP],ag (eSObj r4.1)]) (by rw [hE]; exact List.mem_cons_of_mem _ (List.mem_cons_of_mem _ List.mem_cons_self)) (laws_eqObject.fn h11) 0 4) 0 3) 0 2),hB 2 h12] ?_
  exact pf (!(decide (n8 = r4.2.1))) h14
 refine rl [0,3,4,5,6,7,37] 1 [] [hC 2 (known (E2:=E2) (args':=[ag [cS nm,cI pr,.sc uN,.sc uG,.sc uP],ag (eSObj r4.1)]) (by rw [hE]; exact List.mem_cons_self) (known (E2:=E2) (args':=[ag [cS nm,cI pr,.sl 2 (List.map eSNeed ns),.sc uG,.sc uP],ag (eSObj r4.1)]) (by rw [hE]; exact List.mem_cons_of_mem _ List.mem_cons_self) (known (E2:=E2) (args':=[ag [cS nm,cI pr,.sl 2 (List.map eSNeed ns),.sl 2 (List.map eSNeed gs),.sc uP],ag (eSObj r4.1)]) (by rw [hE]; exact List.mem_cons_of_mem _ (List.mem_cons_of_mem _ List.mem_cons_self)) (laws_eqObject.fn h11) 0 4) 0 3) 0 2),hB 2 h12] ?_
 exact pf true h14
end Go.Proofs.YtoclajfeeebbbadGreatDoor.E
