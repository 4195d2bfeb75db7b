import Derived.Test.YtoclajfeeebbbadGreatDoorPlWFnExactReadObject
import Derived.IntWalk
set_option linter.unusedVariables false
set_option linter.unusedSimpArgs false
namespace Go.Proofs.YtoclajfeeebbbadGreatDoor.V
open Go.Proofs.YtoclajfeeebbbadGreatDoor.E
/-! The rows of -1. -/
theorem cp_rep {c m k:Nat} (hk:k ≤ c) (hk':k ≤ m) (z:Int):cpRow (List.replicate c (-1:Int) ++ List.replicate m z) (List.replicate c (-1)) c k = List.replicate (c + k) (-1) ++ List.replicate (m - k) z:=by
  have e1:List.drop (c + k) (List.replicate c (-1:Int) ++ List.replicate m z) = List.replicate (m - k) z:=by
    rw [List.drop_append]
    simp
  unfold cpRow
  rw [List.take_append_of_le_length (by simp),List.take_of_length_le (by simp),List.take_replicate,Nat.min_eq_left hk,e1,← List.append_assoc,List.replicate_append_replicate]
theorem rep_loop:∀ (m c:Nat),1 ≤ c → c + m ≤ 2000 → Evr (fun k=>slices_Repeat___int_int.l2 k (List.replicate c (-1) ++ List.replicate m 0) (c:Int)) (List.replicate (c + m) (-1)):=by
  intro m
  induction m using Nat.strongRecOn with
  | ind m ih =>
    intro c hc hm
    refine ev_step _ (fun k=>rfl) ?_
    have hl:(List.replicate c (-1:Int) ++ List.replicate m 0).length = c + m:=by simp
    simp only [slices_Repeat___int_int.l2,hl]
    by_cases h0:m = 0
    · subst h0
      refine ev_neg (by omega) ?_
      simp only [List.replicate_zero,List.append_nil]
      exact ev_some
    · refine ev_pos (by omega) (ev_pos (by omega) (ev_pos (by omega) ?_))
      have e1:List.take (Int.toNat ((c:Int) - 0)) (List.drop (Int.toNat 0) (List.replicate c (-1:Int) ++ List.replicate m 0)) = List.replicate c (-1):=by
        rw [show Int.toNat 0 = 0 from rfl,List.drop_zero,show Int.toNat ((c:Int) - 0) = c by omega,List.take_append_of_le_length (by simp),List.take_of_length_le (by simp)]
      have e2:Nat.min (List.take (Int.toNat ((c:Int) - 0)) (List.drop (Int.toNat 0) (List.map eI (List.replicate c (-1:Int) ++ List.replicate m 0)))).length (Int.toNat (((List.map eI (List.replicate c (-1:Int) ++ List.replicate m 0)).length:Int) - c)) = min c m:=by
        have:Int.toNat ((c:Int) - 0) = c:=by omega
        simp only [List.length_take,List.length_drop,List.length_map,hl,this]
        show min (min c _) _ = _
        have:Int.toNat 0 = 0:=rfl
        omega
      rw [e1,e2]
      have e3:w64 ((c:Int) + ((min c m:Nat):Int)) = ((c + min c m:Nat):Int):=by rw [w64_id (by omega) (by omega)]; omega
      rw [e3,show Int.toNat (c:Int) = c by omega,cp_rep (by omega) (by omega)]
      have:=ih (m - min c m) (by omega) (c + min c m) (by omega) (by omega)
      exact ev_eq this (by congr 1; omega)
theorem repeat_ev (n:Nat) (h1:1 ≤ n) (h2:n ≤ 2000):Evr (fun k=>slices_Repeat___int_int.f k [-1] (n:Int)) (List.replicate n (-1)):=by
  unfold slices_Repeat___int_int.f
  refine ev_neg (by omega) ?_
  have hw:∀ m:Nat,m ≤ 2000 → IntKind.u64.wrap (m:Int) = m:=fun m hm=>IntWalk.u64_in _ (by omega)
  refine ev_bind ((0:Int),(n:Int)) (ev_of fun k=>?_) (ev_bind false (ev_of fun k=>?_) ?_)
  · rw [show ((([-1]:List Int).length:Nat):Int) = ((1:Nat):Int) from rfl,hw 1 (by omega),hw n h2]
    unfold math_bits_Mul.f
    rw [if_pos (by omega)]
    congr 2
    · simp only [Int.toNat_natCast]; omega
    · simp only [Int.toNat_natCast]; omega
  · unfold slices_Repeat___int_int.e1
    simp; omega
  · have hn:w64 (n:Int) = n:=w64_nat (by omega)
    simp only [Bool.false_eq_true,if_false,hn]
    refine ev_pos (by omega) (ev_pos (by omega) (ev_bind _ ?_ ev_some))
    unfold slices_Repeat___int_int.e3
    simp only [hn,Int.toNat_natCast]
    have e1:Nat.min (List.map eI ([-1]:List Int)).length ((List.map eI (List.replicate n (0:Int))).length) = 1:=by
      simp only [List.length_map,List.length_replicate,List.length_singleton]
      show min 1 n = 1
      omega
    rw [e1]
    have e2:cpRow (List.replicate n (0:Int)) [-1] 0 1 = List.replicate 1 (-1) ++ List.replicate (n - 1) 0:=by
      simp [cpRow,List.drop_replicate]
    rw [e2]
    have:=rep_loop (n - 1) 1 (by omega) (by omega)
    exact ev_eq this (by congr 1; omega)
theorem l4_ev (c:SCode) (hn:c.f4.length ≤ 2000):∀ (m j:Nat),j + m = c.f4.length → Evr (fun k=>spec_l04Verify.l4 k c (List.replicate j (-1)) (j:Int)) (List.replicate c.f4.length (-1))
  | 0,j,hj=>by
    obtain rfl:j = c.f4.length:=by omega
    exact ev_step _ (fun k=>rfl) (ev_neg (by omega) ev_some)
  | m + 1,j,hj=>by
    refine ev_step _ (fun k=>rfl) (ev_pos (by omega) (ev_pos (by simp; omega) ?_))
    rw [w64_next (by omega),← List.replicate_succ']
    exact l4_ev c hn m (j + 1) (by omega)
theorem good_start {n:Nat} (h:1 ≤ n):Good n ((List.replicate n (-1:Int)).set (Int.toNat 0) 0) :=
  Good.set ⟨by simp,fun v hv=>by have:=List.eq_of_mem_replicate hv; omega⟩ _ (by omega) (by omega)
/-! The header. -/
def hdrB (c:SCode):Bool :=
  btw c.f4.length 1 2000 && btw c.f1 0 20 && btw c.f2 c.f1 2000 && btw c.f3 0 1 && (modB c.f0 || (decide (c.f0 = e0) && (decide (c.f2 = 0) && decide (c.f3 = 0))))
theorem shdr_ev (c:SCode):Evr (fun k=>spec_l04Verify.e1 k c) (!hdrB c):=by
  unfold spec_l04Verify.e1 hdrB btw
  simp only [in_eq,Option.bind_some]
  by_cases h1:(c.f4.length:Int) = 0
  · simp only [h1,if_true]
    exact ev_some
  rw [decide_eq_true (by omega:(1:Int) ≤ c.f4.length),Bool.true_and]
  refine ev_neg h1 (ev_ite (fun h2=>?_) (fun h2=>?_))
  · rw [decide_eq_false (by omega:¬ (c.f4.length:Int) ≤ 2000)]
    exact ev_some
  rw [decide_eq_true (by omega:(c.f4.length:Int) ≤ 2000),Bool.true_and]
  cases decide (0 ≤ c.f1) && decide (c.f1 ≤ 20)
  · exact ev_some
  simp only [if_true,Bool.true_and]
  cases decide (c.f1 ≤ c.f2) && decide (c.f2 ≤ 2000)
  · exact ev_some
  simp only [if_true,Bool.true_and]
  cases decide (0 ≤ c.f3) && decide (c.f3 ≤ 1)
  · exact ev_some
  simp only [if_true,Bool.true_and]
  show Evr (fun k=>if c.f0 = e0 then _ else _) _
  refine ev_ite (fun h=>?_) (fun h=>?_)
  · rw [h,modB_e0]
    by_cases h2:c.f2 = 0
    · simp only [h2,if_true,decide_true,Bool.true_and,Bool.false_or]; exact ev_some
    · simp only [h2,if_false,decide_false,Bool.false_and,Bool.and_false,Bool.or_false]; exact ev_some
  · refine ev_bind _ (lname_ev c.f0) ?_
    rw [decide_eq_false h]
    cases modB c.f0 <;> exact ev_some
theorem ihdr_ev (c:SCode) (hs:c.f0.size < 9223372036854775807):Evr (fun k=>(impl_Code__verify.e1 k c).bind fun y=>impl_Code__verify.e2 k c y) (!hdrB c):=by
  refine ev_bind (decide (c.f0 = e0) && (decide (c.f2 = 0) && decide (c.f3 = 0))) (ev_of fun k=>?_) ?_
  · unfold impl_Code__verify.e1
    show (if c.f0 = e0 then _ else _) = _
    by_cases h:c.f0 = e0 <;> by_cases h':c.f2 = 0 <;> simp [h,h']
  unfold impl_Code__verify.e2 hdrB btw
  simp only [within_eq,Option.bind_some]
  cases decide (1 ≤ (c.f4.length:Int)) && decide ((c.f4.length:Int) ≤ 2000)
  · exact ev_some
  simp only [if_true,Bool.true_and]
  cases decide (0 ≤ c.f1) && decide (c.f1 ≤ 20)
  · exact ev_some
  simp only [if_true,Bool.true_and]
  cases decide (c.f1 ≤ c.f2) && decide (c.f2 ≤ 2000)
  · exact ev_some
  simp only [if_true,Bool.true_and]
  cases decide (0 ≤ c.f3) && decide (c.f3 ≤ 1)
  · exact ev_some
  simp only [if_true,Bool.true_and]
  refine ev_bind _ (isname_ev c.f0 hs) ?_
  cases modB c.f0
  · simp only [Bool.false_eq_true,if_false,Bool.false_or]; exact ev_some
  · exact ev_some
/-! The first instruction that is not right. -/
def badAt (c:SCode):Option Nat:=firstAt (fun x=>!insB c x) c.f4 0
theorem sbad_ev (c:SCode) (hn:c.f4.length ≤ 2000):Evr (fun k=>spec_l04Verify.e3 k c) (match badAt c with | some i=>.inl (3,(i:Int)) | none=>.inr ()):=by
  refine ev_first c.f4 (fun x=>!insB c x) (fun k i=>spec_l04Verify.l2 k c i) (fun i=>.inl (3,(i:Int))) (.inr ()) (by omega) (ev_neg (by omega) ev_some) (fun i hi hp=>?_) (fun i hi hp r h=>?_)
  · refine ev_pos (by omega) ?_
    simp only [at?_nat hi,Option.bind_some]
    refine ev_bind _ (lIns_ev c c.f4[i]) ?_
    simp only [Bool.not_eq_true'] at hp
    rw [hp]
    exact ev_some
  · refine ev_pos (by omega) ?_
    simp only [at?_nat hi,Option.bind_some]
    refine ev_bind _ (lIns_ev c c.f4[i]) ?_
    simp only [Bool.not_eq_false'] at hp
    rw [hp,w64_next (by omega)]
    exact h
theorem ibad_ev (c:SCode) (hn:c.f4.length ≤ 2000) (hs:∀ x ∈ c.f4,x.f3.size < 9223372036854775807 ∧ x.f4.size < 9223372036854775807):Evr (fun k=>slices_IndexFunc___impl_Ins_impl_Ins_1.f k c.f4 c) (match badAt c with | some i=>(i:Int) | none=>-1):=by
  have h:=ev_first c.f4 (fun x=>!insB c x) (fun k i=>slices_IndexFunc___impl_Ins_impl_Ins_1.l1 k c.f4 c i) (fun i=>.inl (i:Int)) (.inr ()) (by omega) (ev_neg (by omega) ev_some) (fun i hi hp=>?_) (fun i hi hp r h=>?_)
  · refine ev_bind _ h ?_
    unfold badAt
    cases firstAt (fun x=>!insB c x) c.f4 0 <;> exact ev_some
  all_goals
    have hx:=hs _ (List.getElem_mem hi)
    have hv:Evr (fun k=>impl_Code__verify_1_1.f k c.f4[i] c) (!insB c c.f4[i]):=ev_bind _ (isIns_ev c c.f4[i] hx.1 hx.2) ev_some
    refine ev_pos (by omega) ?_
    simp only [at?_nat hi,Option.bind_some]
    refine ev_bind _ hv ?_
    rw [hp]
  · exact ev_some
  · rw [w64_next (by omega)]
    exact h
/-! What a code's verification comes to, as one function. -/
def outM (c:SCode):Nat → List Int → (Int × Int) ⊕ Unit
  | 0,_=>.inr ()
  | N + 1,d=>match passM c c.f4.length 0 (d,false) with
    | .inl r=>.inl r
    | .inr s=>if s.2 then outM c N s.1 else .inr ()
theorem loops_evM {c:SCode} (ok:Ok c):∀ (N:Nat) (d:List Int),cnt d < N → Good c.f4.length d → Evr (fun k=>spec_l04Verify.l16 k c d true) (outM c N d) ∧ Evr (fun k=>impl_Code__flow.l4 k c d true) (outM c N d)
  | 0,d,hd,hg=>absurd hd (Nat.not_lt_zero _)
  | N + 1,d,hd,hg=>by
    have a:=l14_ev ok _ 0 (d,false) (Nat.zero_add _) hg
    have b:=l2_ev ok _ 0 (d,false) (Nat.zero_add _) hg
    simp only [outM]
    cases hp:passM c c.f4.length 0 (d,false) with
    | inl r =>
      rw [hp] at a b
      exact ⟨ev_step _ (fun k=>rfl) (ev_pos rfl (ev_bind _ a ev_some)),ev_step _ (fun k=>rfl) (ev_pos rfl (ev_bind _ b ev_some))⟩
    | inr s =>
      rw [hp] at a b
      obtain ⟨g,h1,h2⟩:=passM_good ok.ins ok.res _ (Nat.zero_add _) (by exact hg) hp
      simp only at h1 h2
      cases hs:s.2 with
      | false =>
        refine ⟨ev_step _ (fun k=>rfl) (ev_pos rfl (ev_bind _ a ?_)),ev_step _ (fun k=>rfl) (ev_pos rfl (ev_bind _ b ?_))⟩
        · dsimp only; rw [hs]
          exact ev_step _ (fun k=>rfl) (ev_neg (by simp) ev_some)
        · dsimp only; rw [hs]
          exact ev_step _ (fun k=>rfl) (ev_neg (by simp) ev_some)
      | true =>
        obtain ⟨u,v⟩:=loops_evM ok N s.1 (by have:=h2 trivial hs; omega) g
        refine ⟨ev_step _ (fun k=>rfl) (ev_pos rfl (ev_bind _ a ?_)),ev_step _ (fun k=>rfl) (ev_pos rfl (ev_bind _ b ?_))⟩
        · dsimp only; rw [hs]; exact u
        · dsimp only; rw [hs]; exact v
def d0 (n:Nat):List Int:=(List.replicate n (-1:Int)).set (Int.toNat 0) 0
def verM (c:SCode):Int × Int :=
  if hdrB c then (match badAt c with
    | some i=>(3,(i:Int))
    | none=>match outM c (cnt (d0 c.f4.length) + 1) (d0 c.f4.length) with
      | .inl r=>r
      | .inr _=>(0,0)) else (1,0)
/-- Both answer, and alike. -/
theorem both_evM (c:SCode) (h0:c.f0.size < 9223372036854775807) (hs:∀ x ∈ c.f4,x.f3.size < 9223372036854775807 ∧ x.f4.size < 9223372036854775807):Evr (fun k=>spec_l04Verify.f k c) (verM c) ∧ Evr (fun k=>impl_Code__verify.f k c) (verM c):=by
  have hi:=ihdr_ev c h0
  have ib:∀ {r:Int × Int},Evr (fun k=>if (!hdrB c) = true then (some (1,0)) else ((slices_IndexFunc___impl_Ins_impl_Ins_1.f k c.f4 c).bind fun r25=>if (0:Int) ≤ r25 then (some (3,r25)) else ((impl_Code__flow.f k c).bind fun r28=>some (r28.1,r28.2)))) r → Evr (fun k=>impl_Code__verify.f k c) r:=fun {r} h=>by
    refine ev_congr (fun k=>((impl_Code__verify.e1 k c).bind fun y=>impl_Code__verify.e2 k c y).bind fun y21=>if y21 = true then (some (1,0)) else ((slices_IndexFunc___impl_Ins_impl_Ins_1.f k c.f4 c).bind fun r25=>if (0:Int) ≤ r25 then (some (3,r25)) else ((impl_Code__flow.f k c).bind fun r28=>some (r28.1,r28.2)))) (fun k=>?_) (ev_bind _ hi h)
    rw [Option.bind_assoc]
    rfl
  unfold verM
  cases hh:hdrB c with
  | false =>
    refine ⟨ev_bind _ (shdr_ev c) ?_,ib ?_⟩
    · rw [hh]; exact ev_some
    · rw [hh]; exact ev_some
  | true =>
    have hc:(1 ≤ c.f4.length ∧ c.f4.length ≤ 2000) ∧ (0 ≤ c.f3 ∧ c.f3 ≤ 1):=by
      unfold hdrB btw at hh
      simp only [Bool.and_eq_true,decide_eq_true_eq] at hh
      omega
    have hlen:=hc.1.2
    cases hb:badAt c with
    | some i =>
      have a:=sbad_ev c hlen
      have b:=ibad_ev c hlen hs
      rw [hb] at a b
      dsimp only at a b
      refine ⟨ev_bind _ (shdr_ev c) ?_,ib ?_⟩
      · rw [hh]; exact ev_bind _ a ev_some
      · rw [hh]; exact ev_bind _ b (ev_pos (by omega) ev_some)
    | none =>
      have a:=sbad_ev c hlen
      have b:=ibad_ev c hlen hs
      rw [hb] at a b
      dsimp only at a b
      have ok:Ok c:=⟨fun x hx=>by
        have:=firstAt_none.1 hb x hx
        simpa using this,hlen,hc.2⟩
      obtain ⟨u,v⟩:=loops_evM ok (cnt (d0 c.f4.length) + 1) (d0 c.f4.length) (Nat.lt_succ_self _) (good_start hc.1.1)
      have e5:Evr (fun k=>spec_l04Verify.e5 k c) (List.replicate c.f4.length (-1)):=l4_ev c hlen _ 0 (Nat.zero_add _)
      have at0:at? (List.replicate c.f4.length (-1:Int)) 0 = some (-1):=by
        have:=at?_nat (l:=List.replicate c.f4.length (-1:Int)) (i:=0) (by simp; omega)
        simpa using this
      dsimp only
      generalize outM c (cnt (d0 c.f4.length) + 1) (d0 c.f4.length) = r at u v
      refine ⟨ev_bind _ (shdr_ev c) ?_,ib ?_⟩
      · rw [hh]
        refine ev_bind _ a (ev_bind _ e5 ?_)
        simp only [at0,Option.bind_some]
        refine ev_bind _ u ?_
        cases r <;> exact ev_some
      · rw [hh]
        refine ev_bind _ b (ev_neg (by omega) (ev_bind _ (ev_bind _ (repeat_ev c.f4.length hc.1.1 hlen) ?_) ev_some))
        simp only [at0,Option.bind_some]
        refine ev_bind _ v ?_
        cases r <;> exact ev_some
/-! Codes that differ in nothing but names that are names. -/
structure Alike (c c':SCode):Prop where
  f0:c.f0 = c'.f0
  f1:c.f1 = c'.f1
  f2:c.f2 = c'.f2
  f3:c.f3 = c'.f3
  len:c.f4.length = c'.f4.length
  el:∀ i,(c.f4.getD i z0).f0 = (c'.f4.getD i z0).f0 ∧ (c.f4.getD i z0).f1 = (c'.f4.getD i z0).f1 ∧ (c.f4.getD i z0).f2 = (c'.f4.getD i z0).f2
  ins:c.f4.map (insB c) = c'.f4.map (insB c')
end Go.Proofs.YtoclajfeeebbbadGreatDoor.V
