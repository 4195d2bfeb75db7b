/- The two loops over the depths come to the same answer. -/
import Derived.Test.YtoclajfeeebbbadGreatDoorPlVFnExactReadObject
set_option linter.unusedVariables false
set_option linter.unusedSimpArgs false
namespace Go.Proofs.YtoclajfeeebbbadGreatDoor.V
open Go.Proofs.YtoclajfeeebbbadGreatDoor.E
structure Ok (c:SCode):Prop where
  ins:∀ x ∈ c.f4,insB c x = true
  len:c.f4.length ≤ 2000
  res:0 ≤ c.f3 ∧ c.f3 ≤ 1
def outI (i:Int):Int ⊕ (List Int × Bool) → (Int × Int) ⊕ (List Int × Bool)
  | .inl r=>.inl (r,i)
  | .inr s=>.inr s
theorem l12_ev {c : SCode} (ok : Ok c) {i x262 now : Int} {e : Int × Int} (hnow : w64 (w64 (x262 - e.1) + e.2) = now) (h0 : 0 ≤ now) (h1 : now ≤ 60) (y : List Int) (hl : y.length ≤ 2) (hy : ∀ v ∈ y, 0 ≤ v ∧ v ≤ c.f4.length) :
    ∀ (m j:Nat) (s:List Int × Bool),j + m = y.length → Good c.f4.length s.1 → Evr (fun k=>spec_l04Verify.l12 k c i x262 e y s.1 s.2 (j:Int)) (outI i (elM c.f4.length now (y.drop j) s))
  | 0,j,s,hj,hg=>by
    refine ev_step _ (fun k=>rfl) ?_
    rw [List.drop_eq_nil_of_le (by omega)]
    exact ev_neg (by omega) ev_some
  | m + 1,j,s,hj,hg=>by
    have hjl:j < y.length:=by omega
    have hv:=hy _ (List.getElem_mem hjl)
    have hoo:=l12_ev ok (i:=i) hnow h0 h1 y hl hy m (j + 1)
    refine ev_step _ (fun k=>rfl) (ev_pos (by omega) ?_)
    rw [List.drop_eq_getElem_cons hjl]
    simp only [elM]
    have hx:∀ k,spec_l04Verify.e11 k c i x262 e y s.1 s.2 (j:Int) = some (if y[j] = (c.f4.length:Int) then .inl (10,i) else if atD s.1 y[j] < 0 then .inr (s.1.set y[j].toNat now,true) else if atD s.1 y[j] = now then .inr s else .inl (8,i)):=fun k=>by
      unfold spec_l04Verify.e11
      rw [at?_nat hjl,hnow]
      simp only [Option.bind_some]
      by_cases hc:y[j] = (c.f4.length:Int)
      · simp [hc]
      · rw [if_neg hc,if_neg hc,at?_D hv.1 (by rw [hg.1]; omega)]
        simp only [Option.bind_some]
        repeat (first | rfl | apply ite_some)
    refine ev_bind _ (ev_of hx) ?_
    rw [w64_next (by omega)]
    by_cases hc:y[j] = (c.f4.length:Int)
    · rw [if_pos hc,if_pos hc]; exact ev_some
    · rw [if_neg hc,if_neg hc]
      by_cases h2:atD s.1 y[j] < 0
      · rw [if_pos h2,if_pos h2]
        exact hoo (s.1.set y[j].toNat now,true) (by omega) (hg.set _ h0 h1)
      · rw [if_neg h2,if_neg h2]
        by_cases h3:atD s.1 y[j] = now
        · rw [if_pos h3,if_pos h3]
          exact hoo s (by omega) hg
        · rw [if_neg h3,if_neg h3]; exact ev_some
theorem elM_ne {n now:Int}:∀ {y:List Int} {s:List Int × Bool} {r:Int},elM n now y s = .inl r → r ≠ 0
  | [],s,r,h=>by simp [elM] at h
  | x :: y,s,r,h=>by
    simp only [elM] at h
    split at h
    · cases h; decide
    · split at h
      · exact elM_ne h
      · split at h
        · exact elM_ne h
        · cases h; decide
theorem l3_ev {c : SCode} (ok : Ok c) {x5 now : Int} {e : Int × Int} (hnow : w64 (w64 (x5 - e.1) + e.2) = now) (h0 : 0 ≤ now) (h1 : now ≤ 60) (y : List Int) (hl : y.length ≤ 2) (hy : ∀ v ∈ y, 0 ≤ v ∧ v ≤ c.f4.length) :
    ∀ (m j:Nat) (s:List Int × Bool),j + m = y.length → Good c.f4.length s.1 → ∃ dd,Evr (fun k=>impl_Code__reach_1.l3 k c e x5 y s.1 s.2 (j:Int)) (match elM c.f4.length now (y.drop j) s with | .inl r=>.inl (false,r,dd) | .inr s'=>.inr s')
  | 0,j,s,hj,hg=>by
    refine ⟨[],ev_step _ (fun k=>rfl) ?_⟩
    rw [List.drop_eq_nil_of_le (by omega)]
    exact ev_neg (by omega) ev_some
  | m + 1,j,s,hj,hg=>by
    have hjl:j < y.length:=by omega
    have hv:=hy _ (List.getElem_mem hjl)
    have hoo:=l3_ev ok hnow h0 h1 y hl hy m (j + 1)
    have hx:∀ k,impl_Code__reach_1.e2 k c e x5 y s.1 s.2 (j:Int) = some (if y[j] = (c.f4.length:Int) then .inl (false,10,s.1) else if atD s.1 y[j] < 0 then .inr (s.1.set y[j].toNat now,true) else if atD s.1 y[j] = now then .inr s else .inl (false,8,s.1)):=fun k=>by
      unfold impl_Code__reach_1.e2
      rw [at?_nat hjl,hnow]
      simp only [Option.bind_some]
      by_cases hc:y[j] = (c.f4.length:Int)
      · simp [hc]
      · rw [if_neg hc,if_neg hc,at?_D hv.1 (by rw [hg.1]; omega)]
        have hn:atD s.1 y[j] = -1 ↔ atD s.1 y[j] < 0:=by have:=hg.at y[j]; omega
        simp only [Option.bind_some,hn]
        repeat (first | rfl | apply ite_some)
    have hn:w64 ((j:Int) + 1) = ((j + 1:Nat):Int):=w64_next (by omega)
    rw [List.drop_eq_getElem_cons hjl]
    simp only [elM]
    by_cases hc:y[j] = (c.f4.length:Int)
    · refine ⟨s.1,ev_step _ (fun k=>rfl) (ev_pos (by omega) ?_)⟩
      refine ev_bind _ (ev_of hx) ?_
      rw [if_pos hc,if_pos hc]; exact ev_some
    · by_cases h2:atD s.1 y[j] < 0
      · obtain ⟨dd,hd⟩:=hoo (s.1.set y[j].toNat now,true) (by omega) (hg.set _ h0 h1)
        refine ⟨dd,ev_step _ (fun k=>rfl) (ev_pos (by omega) ?_)⟩
        refine ev_bind _ (ev_of hx) ?_
        rw [if_neg hc,if_neg hc,if_pos h2,if_pos h2,hn]
        exact hd
      · by_cases h3:atD s.1 y[j] = now
        · obtain ⟨dd,hd⟩:=hoo s (by omega) hg
          refine ⟨dd,ev_step _ (fun k=>rfl) (ev_pos (by omega) ?_)⟩
          refine ev_bind _ (ev_of hx) ?_
          rw [if_neg hc,if_neg hc,if_neg h2,if_neg h2,if_pos h3,if_pos h3,hn]
          exact hd
        · refine ⟨s.1,ev_step _ (fun k=>rfl) (ev_pos (by omega) ?_)⟩
          refine ev_bind _ (ev_of hx) ?_
          rw [if_neg hc,if_neg hc,if_neg h2,if_neg h2,if_neg h3,if_neg h3]; exact ev_some
theorem next_len (x:SIns) (i:Int):(nextM x i).length ≤ 2:=by
  unfold nextM
  repeat' split
  all_goals simp
/-- A step of the reference. -/
theorem e13_ev {c:SCode} (ok:Ok c) (i:Nat) (hi:i < c.f4.length) (s:List Int × Bool) (hg:Good c.f4.length s.1):Evr (fun k=>spec_l04Verify.e13 k c s.1 s.2 (i:Int)) (stM c s i):=by
  have he:=eff_le (ok.ins _ (List.getElem_mem hi)) ok.res
  have hin:=ok.ins _ (List.getElem_mem hi)
  have hb:=hg.at (i:Int)
  have hlen:=ok.len
  have hc:c.f4.getD i z0 = c.f4[i]:=getD_at hi
  unfold spec_l04Verify.e13 stM
  rw [hc]
  simp only [at?_D (d:=s.1) (i:=(i:Int)) (by omega) (by rw [hg.1]; omega),at?_nat hi,Option.bind_some,eff_eq]
  have hw1:w64 (atD s.1 i - (effM c.f4[i]).1) = atD s.1 i - (effM c.f4[i]).1:=w64_id (by omega) (by omega)
  have hw2:w64 (atD s.1 i - (effM c.f4[i]).1 + (effM c.f4[i]).2) = atD s.1 i - (effM c.f4[i]).1 + (effM c.f4[i]).2:=w64_id (by omega) (by omega)
  have e79:∀ k,((spec_l04Verify.e7 k c.f4[i]).bind fun y=>spec_l04Verify.e9 k i c.f4[i] y) = some (nextM c.f4[i] i):=fun k=>e79_eq k c.f4[i] (i:=(i:Int)) (by omega) (by omega)
  rw [hw1,hw2]
  by_cases h1:atD s.1 i < 0
  · simp only [if_pos h1]; exact ev_some
  simp only [if_neg h1]
  by_cases h2:atD s.1 i < (effM c.f4[i]).1
  · rw [if_pos (c:=atD s.1 ↑i - (effM c.f4[i]).fst < 0) (by omega)]; simp only [if_pos h2]; exact ev_some
  rw [if_neg (c:=atD s.1 ↑i - (effM c.f4[i]).fst < 0) (by omega)]; simp only [if_neg h2]
  by_cases h3:60 < atD s.1 i - (effM c.f4[i]).1 + (effM c.f4[i]).2
  · simp only [if_pos h3]; exact ev_some
  simp only [if_neg h3]
  have e10:∀ k,spec_l04Verify.e10 k (atD s.1 i) c.f4[i] (effM c.f4[i]) = some (decide (c.f4[i].f0 = 14 ∧ 0 < atD s.1 i - (effM c.f4[i]).1 + (effM c.f4[i]).2)):=fun k=>by
    unfold spec_l04Verify.e10
    rw [hw1,hw2]
    by_cases h:c.f4[i].f0 = 14
    · have : (!decide (atD s.1 i - (effM c.f4[i]).1 + (effM c.f4[i]).2 = 0)) = decide (0 < atD s.1 i - (effM c.f4[i]).1 + (effM c.f4[i]).2) := by
        rw [Bool.eq_iff_iff]; simp; omega
      simp [h,this]
    · simp [h]
  have assoc : ∀ k, ((spec_l04Verify.e7 k c.f4[i]).bind fun y277 => (spec_l04Verify.e9 k i c.f4[i] y277).bind fun y287 => (spec_l04Verify.e10 k (atD s.1 i) c.f4[i] (effM c.f4[i])).bind fun y291 => if y291 = true then (some (.inl (8, (i : Int)))) else (spec_l04Verify.l12 k c i (atD s.1 i) (effM c.f4[i]) y287 s.1 s.2 0))
      = (if c.f4[i].f0 = 14 ∧ 0 < atD s.1 i - (effM c.f4[i]).1 + (effM c.f4[i]).2 then (some (.inl (8,(i:Int)))) else (spec_l04Verify.l12 k c i (atD s.1 i) (effM c.f4[i]) (nextM c.f4[i] i) s.1 s.2 0)):=fun k=>by
    rw [← Option.bind_assoc,e79 k]
    simp only [Option.bind_some,e10,decide_eq_true_eq]
  refine ev_congr _ assoc ?_
  by_cases h4:c.f4[i].f0 = 14 ∧ 0 < atD s.1 i - (effM c.f4[i]).1 + (effM c.f4[i]).2
  · rw [if_pos h4]; exact ev_pos h4 ev_some
  rw [if_neg h4]
  refine ev_neg h4 ?_
  have:=l12_ev ok (i:=(i:Int)) (x262:=atD s.1 i) (e:=effM c.f4[i]) (now:=atD s.1 i - (effM c.f4[i]).1 + (effM c.f4[i]).2) (by rw [hw1,hw2]) (by omega) (by omega) (nextM c.f4[i] i) (next_len _ _) (next_le hin hlen (by omega) (by omega)) (nextM c.f4[i] i).length 0 s (Nat.zero_add _) hg
  rw [List.drop_zero] at this
  refine ev_eq this ?_
  cases elM c.f4.length (atD s.1 i - (effM c.f4[i]).1 + (effM c.f4[i]).2) (nextM c.f4[i] i) s <;> rfl
/-- A step of the program. -/
theorem e1_ev {c:SCode} (ok:Ok c) (i:Nat) (hi:i < c.f4.length) (s:List Int × Bool) (hg:Good c.f4.length s.1):Evr (fun k=>impl_Code__flow.e1 k c s.1 s.2 (i:Int)) (stM c s i):=by
  have he:=eff_le (ok.ins _ (List.getElem_mem hi)) ok.res
  have hin:=ok.ins _ (List.getElem_mem hi)
  have hb:=hg.at (i:Int)
  have hlen:=ok.len
  have hc:c.f4.getD i z0 = c.f4[i]:=getD_at hi
  have hat:at? s.1 (i:Int) = some (atD s.1 i):=at?_D (by omega) (by rw [hg.1]; omega)
  unfold impl_Code__flow.e1 stM
  rw [hc]
  simp only [hat,Option.bind_some]
  have hw1:w64 (atD s.1 i - (effM c.f4[i]).1) = atD s.1 i - (effM c.f4[i]).1:=w64_id (by omega) (by omega)
  have hw2:w64 (atD s.1 i - (effM c.f4[i]).1 + (effM c.f4[i]).2) = atD s.1 i - (effM c.f4[i]).1 + (effM c.f4[i]).2:=w64_id (by omega) (by omega)
  by_cases h1:atD s.1 i < 0
  · rw [if_pos h1]
    exact ev_pos (by omega) ev_some
  rw [if_neg h1]
  refine ev_neg (by omega) ?_
  unfold impl_Code__reach_1.f
  simp only [hat,at?_nat hi,ieff_eq,Option.bind_some,hw1,hw2]
  by_cases h2:atD s.1 i - (effM c.f4[i]).1 < 0
  · simp only [if_pos h2]; exact ev_some
  simp only [if_neg h2]
  by_cases h3:60 < atD s.1 i - (effM c.f4[i]).1 + (effM c.f4[i]).2
  · simp only [if_pos h3]; exact ev_some
  simp only [if_neg h3]
  have e10:∀ k,impl_Code__reach_1.e1 k c.f4[i] (effM c.f4[i]) (atD s.1 i) = some (decide (c.f4[i].f0 = 14 ∧ 0 < atD s.1 i - (effM c.f4[i]).1 + (effM c.f4[i]).2)):=fun k=>by
    unfold impl_Code__reach_1.e1
    rw [hw1,hw2]
    by_cases h:c.f4[i].f0 = 14 <;> simp [h]
  simp only [e10,Option.bind_some,decide_eq_true_eq]
  by_cases h4:c.f4[i].f0 = 14 ∧ 0 < atD s.1 i - (effM c.f4[i]).1 + (effM c.f4[i]).2
  · simp only [if_pos h4]; exact ev_some
  simp only [if_neg h4]
  unfold impl_Code__reach_1.e4
  simp only [ifollows_eq _ c.f4[i] (i:=(i:Int)) (by omega) (by omega),Option.bind_some]
  obtain ⟨dd,hd⟩:=l3_ev ok (x5:=atD s.1 i) (e:=effM c.f4[i]) (now:=atD s.1 i - (effM c.f4[i]).1 + (effM c.f4[i]).2) (by rw [hw1,hw2]) (by omega) (by omega) (nextM c.f4[i] i) (next_len _ _) (next_le hin hlen (by omega) (by omega)) (nextM c.f4[i] i).length 0 (s.1,false) (Nat.zero_add _) hg
  rw [List.drop_zero] at hd
  have hor:=elM_or (n:=c.f4.length) (now:=atD s.1 i - (effM c.f4[i]).1 + (effM c.f4[i]).2) s.2 (nextM c.f4[i] i) s.1 false
  rw [Bool.or_false] at hor
  rw [show s = (s.1,s.2) from rfl,hor]
  cases hm:elM c.f4.length (atD s.1 i - (effM c.f4[i]).1 + (effM c.f4[i]).2) (nextM c.f4[i] i) (s.1,false) with
  | inl r =>
    rw [hm] at hd
    have hr:r ≠ 0:=elM_ne hm
    refine ev_bind (false,r,dd) (ev_bind _ hd ev_some) ?_
    simp only [if_neg hr]
    exact ev_some
  | inr s' =>
    rw [hm] at hd
    refine ev_bind (s'.2,0,s'.1) (ev_bind _ hd ev_some) ?_
    simp only [if_true,orS]
    cases s.2
    · exact ev_some
    · exact ev_some
/-- A pass. -/
theorem l14_ev {c:SCode} (ok:Ok c):∀ (m i:Nat) (s:List Int × Bool),i + m = c.f4.length → Good c.f4.length s.1 → Evr (fun k=>spec_l04Verify.l14 k c s.1 s.2 (i:Int)) (passM c m i s)
  | 0,i,s,hi,hg=>ev_step _ (fun k=>rfl) (ev_neg (by omega) ev_some)
  | m + 1,i,s,hi,hg=>by
    have hlen:=ok.len
    refine ev_step _ (fun k=>rfl) (ev_pos (by omega) (ev_bind _ (e13_ev ok i (by omega) s hg) ?_))
    simp only [passM]
    cases hst:stM c s i with
    | inl r=>exact ev_some
    | inr s' =>
      rw [w64_next (by omega)]
      exact l14_ev ok m (i + 1) s' (by omega) (stM_good ok.ins ok.res (by omega) hg hst).1
theorem l2_ev {c:SCode} (ok:Ok c):∀ (m i:Nat) (s:List Int × Bool),i + m = c.f4.length → Good c.f4.length s.1 → Evr (fun k=>impl_Code__flow.l2 k c s.1 s.2 (i:Int)) (passM c m i s)
  | 0,i,s,hi,hg=>ev_step _ (fun k=>rfl) (ev_neg (by omega) ev_some)
  | m + 1,i,s,hi,hg=>by
    have hlen:=ok.len
    refine ev_step _ (fun k=>rfl) (ev_pos (by omega) (ev_bind _ (e1_ev ok i (by omega) s hg) ?_))
    simp only [passM]
    cases hst:stM c s i with
    | inl r=>exact ev_some
    | inr s' =>
      rw [w64_next (by omega)]
      exact l2_ev ok m (i + 1) s' (by omega) (stM_good ok.ins ok.res (by omega) hg hst).1
end Go.Proofs.YtoclajfeeebbbadGreatDoor.V
