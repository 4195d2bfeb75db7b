/- What a code is that verifies: the program's and the reference's answers come to one. -/
import Derived.Test.YtoclajfeeebbbadGreatDoorPlNFnExactReadObject
set_option linter.unusedVariables false
set_option linter.unusedSimpArgs false
namespace Go.Proofs.YtoclajfeeebbbadGreatDoor.V
open Go.Proofs.YtoclajfeeebbbadGreatDoor.E
/-! Instructions. -/
def e0:ByteArray:=⟨#[]⟩
def headB (x:SIns):Bool:=(if x.f0 = 3 ∨ x.f0 = 13 then modB x.f3 && modB x.f4 else decide (x.f3 = e0) && decide (x.f4 = e0)) && (decide (x.f0 = 13) || decide (x.f2 = 0))
def tailB (c:SCode) (x:SIns):Bool :=
  if x.f0 = 1 then true else if x.f0 = 2 then btw x.f1 0 (w64 (c.f2 - 1)) else if x.f0 = 6 then btw x.f1 1 100 else if x.f0 = 7 then btw x.f1 0 10
  else if x.f0 = 11 ∨ x.f0 = 12 then btw x.f1 0 (w64 ((c.f4.length:Int) - 1)) else if x.f0 = 13 then btw x.f1 0 20 && btw x.f2 0 1 else if x.f0 = 14 then decide (x.f1 = c.f3)
  else if x.f0 = 15 then btw x.f1 1 3 else if x.f0 = 16 then decide (x.f1 = 1) || decide (x.f1 = 3) else if x.f0 = 17 then btw x.f1 1 5 else btw x.f0 1 17 && decide (x.f1 = 0)
/-- An instruction that is right in its code. -/
def insB (c:SCode) (x:SIns):Bool:=headB x && tailB c x
theorem modB_e0:modB e0 = false:=by
  have:nameB e0 = false:=by
    unfold nameB
    have:e0.size = 0:=rfl
    simp [this]
  simp [modB,this]
def signsL:List ByteArray:=(spec_l04Signs.f 0).getD []
theorem signs_eq (k:Nat):spec_l04Signs.f k = some signsL:=rfl
set_option maxRecDepth 100000 in
theorem works_eq (k:Nat):impl_works.f k = some signsL:=by
  have:impl_works.f 0 = some signsL:=by kernel_rfl
  exact this
theorem signs_len:signsL.length = 11:=by decide +kernel
theorem w10:w64 ((signsL.length:Int) - 1) = 10:=by rw [signs_len,w64_id (by omega) (by omega)]; rfl
theorem isIns_ev (c:SCode) (x:SIns) (h3:x.f3.size < 9223372036854775807) (h4:x.f4.size < 9223372036854775807):Evr (fun k=>impl_Code__isIns.f k c x) (insB c x):=by
  unfold impl_Code__isIns.f
  -- what is named
  have hp:∀ k,impl_hasPlace.f k x.f0 = some (decide (x.f0 = 3 ∨ x.f0 = 13)):=fun k=>by
    unfold impl_hasPlace.f impl_hasPlace.e1
    by_cases h:x.f0 = 3 <;> simp [h]
  have hh:Evr (fun k=>impl_Code__isIns.e3 k x) (if (if x.f0 = 3 ∨ x.f0 = 13 then modB x.f3 && modB x.f4 else decide (x.f3 = e0) && decide (x.f4 = e0)) then .inr () else .inl false):=by
    unfold impl_Code__isIns.e3
    simp only [hp,Option.bind_some,decide_eq_true_eq]
    by_cases hc:x.f0 = 3 ∨ x.f0 = 13
    · simp only [if_pos hc]
      refine ev_bind (!(modB x.f3 && modB x.f4)) ?_ ?_
      · unfold impl_Code__isIns.e1
        refine ev_bind _ (isname_ev x.f3 h3) ?_
        cases modB x.f3
        · exact ev_of fun k=>by simp
        · simp only [if_true,Bool.true_and]
          exact ev_bind _ (isname_ev x.f4 h4) ev_some
      · cases modB x.f3 && modB x.f4
        · exact ev_of fun k=>by simp
        · exact ev_of fun k=>by simp
    · simp only [if_neg hc]
      refine ev_bind (!(decide (x.f3 = e0) && decide (x.f4 = e0))) (ev_of fun k=>?_) (ev_of fun k=>?_)
      · unfold impl_Code__isIns.e2
        show (if x.f3 = e0 then _ else _) = _
        by_cases h1:x.f3 = e0
        · simp only [if_pos h1,h1,decide_true,Bool.true_and]; rfl
        · simp [h1]
      · cases decide (x.f3 = e0) && decide (x.f4 = e0) <;> simp
  refine ev_bind _ hh ?_
  unfold insB headB
  cases (if x.f0 = 3 ∨ x.f0 = 13 then modB x.f3 && modB x.f4 else decide (x.f3 = e0) && decide (x.f4 = e0))
  · exact ev_of fun k=>by simp
  · refine ev_of fun k=>?_
    simp only [if_true,Bool.true_and]
    have h4:impl_Code__isIns.e4 k x = some (!(decide (x.f0 = 13) || decide (x.f2 = 0))):=by
      unfold impl_Code__isIns.e4
      by_cases h:x.f0 = 13 <;> simp [h]
    rw [h4]
    simp only [Option.bind_some]
    cases decide (x.f0 = 13) || decide (x.f2 = 0)
    · simp
    · simp only [Bool.not_true,Bool.false_eq_true,if_false,Bool.true_and,within_eq,works_eq,w10,Option.bind_some,impl_isType.f,impl_Code__isIns.e5,impl_Code__isIns.e6,impl_Code__isIns.e7,impl_Code__isIns.e8]
      unfold tailB btw
      by_cases c1:x.f0 = 1
      · simp [c1]
      by_cases c2:x.f0 = 2
      · simp [c2]
      by_cases c6:x.f0 = 6
      · simp [c6]
      by_cases c7:x.f0 = 7
      · simp [c7]
      by_cases c11:x.f0 = 11
      · simp [c11]
      by_cases c12:x.f0 = 12
      · simp [c12]
      by_cases c13:x.f0 = 13
      · simp only [c13]
        cases decide (0 ≤ x.f1) && decide (x.f1 ≤ 20) <;> simp
      by_cases c14:x.f0 = 14
      · simp [c14]
      by_cases c15:x.f0 = 15
      · simp [c15]
      by_cases c16:x.f0 = 16
      · simp only [c16]
        by_cases h:x.f1 = 1 <;> simp [h]
      by_cases c17:x.f0 = 17
      · simp [c17]
      simp only [c1,c2,c6,c7,c11,c12,c13,c14,c15,c16,c17,if_false,or_self,decide_false,Option.bind_some,Bool.false_eq_true]
      cases decide (1 ≤ x.f0) && decide (x.f0 ≤ 17) <;> simp
theorem lIns_ev (c:SCode) (x:SIns):Evr (fun k=>spec_l04Ins.f k x c) (insB c x):=by
  unfold spec_l04Ins.f
  refine ev_bind (decide (x.f0 = 3 ∨ x.f0 = 13)) (ev_of fun k=>?_) (ev_bind (!headB x) ?_ ?_)
  · unfold spec_l04Ins.e1
    by_cases h:x.f0 = 3 <;> simp [h]
  · unfold spec_l04Ins.e2
    show Evr (fun k=>if x.f3 = e0 then _ else _) _
    have hB:(some (!decide (x.f2 = 0)):Option Bool) = some (!decide (x.f2 = 0)):=rfl
    have last:∀ (b:Bool),(if x.f0 = 13 then some false else some (!decide (x.f2 = 0)):Option Bool) = some (!(decide (x.f0 = 13) || decide (x.f2 = 0))):=fun b=>by
      by_cases h:x.f0 = 13 <;> simp [h]
    by_cases hc:x.f0 = 3 ∨ x.f0 = 13
    · have two : Evr (fun k => (spec_l02Name.f k x.f3).bind fun r8 => if r8 = true then ((spec_l02Name.f k x.f4).bind fun r11 => if r11 = true then (if x.f0 = 13 then (some false) else (some (!(decide (x.f2 = 0))))) else (some true)) else (some true)) (!headB x) := by
        refine ev_bind _ (lname_ev x.f3) ?_
        unfold headB
        rw [if_pos hc]
        cases modB x.f3
        · exact ev_of fun k=>by simp
        · simp only [if_true,Bool.true_and]
          refine ev_bind _ (lname_ev x.f4) ?_
          cases modB x.f4
          · exact ev_of fun k=>by simp
          · simp only [if_true,Bool.true_and]
            exact ev_of fun k=>last true
      refine ev_ite (fun h1=>?_) (fun h1=>?_)
      · simp only [decide_eq_true hc,if_true]
        refine ev_ite (fun h2=>?_) (fun h2=>two)
        have:headB x = false:=by
          unfold headB
          rw [if_pos hc,h1,modB_e0]; simp
        rw [this]
        exact ev_some
      · simp only [decide_eq_true hc,if_true]
        exact two
    · have hd:decide (x.f0 = 3 ∨ x.f0 = 13) = false:=by simp only [decide_eq_false_iff_not]; exact hc
      simp only [hd,Bool.false_eq_true,if_false]
      refine ev_ite (fun h1=>?_) (fun h1=>?_)
      · refine ev_of fun k=>?_
        show (if x.f4 = e0 then _ else _) = _
        unfold headB
        rw [if_neg hc]
        by_cases h2:x.f4 = e0
        · simp only [if_pos h2,h1,h2,decide_true,Bool.true_and]; exact last true
        · simp [h2]
      · have : headB x = false := by
          unfold headB
          rw [if_neg hc]; simp [h1]
        rw [this]
        exact ev_some
  · unfold insB
    cases headB x
    · exact ev_of fun k=>by simp
    · refine ev_of fun k=>?_
      simp only [Bool.not_true,Bool.false_eq_true,if_false,Bool.true_and,in_eq,signs_eq,w10,Option.bind_some,spec_l04Ins.e3,spec_l04Ins.e4,spec_l04Ins.e5,spec_l04Ins.e6,spec_l04Ins.e7]
      unfold tailB btw
      by_cases c1:x.f0 = 1
      · simp [c1]
      by_cases c2:x.f0 = 2
      · simp [c2]
      by_cases c6:x.f0 = 6
      · simp [c6]
      by_cases c7:x.f0 = 7
      · simp [c7]
      by_cases c11:x.f0 = 11
      · simp [c11]
      by_cases c12:x.f0 = 12
      · simp [c12]
      by_cases c13:x.f0 = 13
      · simp only [c13]
        cases decide (0 ≤ x.f1) && decide (x.f1 ≤ 20) <;> simp
      by_cases c14:x.f0 = 14
      · simp [c14]
      by_cases c15:x.f0 = 15
      · simp only [c15]
        by_cases h:1 ≤ x.f1 <;> by_cases h':x.f1 ≤ 3 <;> simp [h,h']
      by_cases c16:x.f0 = 16
      · simp only [c16]
        by_cases h:1 ≤ x.f1 ∧ x.f1 ≤ 3
        · have:x.f1 = 1 ∨ x.f1 = 2 ∨ x.f1 = 3:=by omega
          rcases this with h | h | h <;> simp [h]
        · have e1 : (decide (1 ≤ x.f1) && decide (x.f1 ≤ 3)) = false := by
            rw [Bool.eq_false_iff]; simp only [ne_eq,Bool.and_eq_true,decide_eq_true_eq]; exact h
          have e2:(decide (x.f1 = 1) || decide (x.f1 = 3)) = false:=by
            rw [Bool.eq_false_iff]; simp only [ne_eq,Bool.or_eq_true,decide_eq_true_eq]; omega
          simp [e1,e2]
      by_cases c17:x.f0 = 17
      · simp [c17]
      simp only [c1,c2,c6,c7,c11,c12,c13,c14,c15,c16,c17,if_false,or_self,decide_false,Option.bind_some,Bool.false_eq_true]
      by_cases h:x.f1 = 0
      · simp only [h,if_true,decide_true,Bool.and_true]
        have:(decide (3 ≤ x.f0) && decide (x.f0 ≤ 10)) = (decide (1 ≤ x.f0) && decide (x.f0 ≤ 17)):=by
          rw [Bool.eq_iff_iff]; simp only [Bool.and_eq_true,decide_eq_true_eq]; omega
        rw [this]; rfl
      · simp [h]
/-! The depths. -/
theorem ite_some {α:Type} {p:Prop} [Decidable p] {a b:α} {X:Option α} (h:X = some b):(if p then some a else X) = some (if p then a else b):=by
  by_cases hp:p <;> simp [hp,h]
theorem getD_at {α:Type} {l:List α} {i:Nat} {z:α} (h:i < l.length):l.getD i z = l[i]:=by
  rw [List.getD_eq_getElem?_getD,List.getElem?_eq_getElem h]; rfl
def z0:SIns:=⟨0,0,0,e0,e0⟩
/-- What an instruction takes and leaves. -/
def effM (x:SIns):Int × Int :=
  if x.f0 = 1 ∨ x.f0 = 2 ∨ x.f0 = 3 then (0,1) else if x.f0 = 4 ∨ x.f0 = 8 ∨ x.f0 = 9 ∨ x.f0 = 10 then (1,1) else if x.f0 = 5 then (2,0) else if x.f0 = 6 ∨ x.f0 = 7 then (2,1)
  else if x.f0 = 12 ∨ x.f0 = 15 ∨ x.f0 = 16 then (1,0) else if x.f0 = 13 then (x.f1,x.f2) else if x.f0 = 14 then (x.f1,0) else (0,0)
theorem eff_eq (k:Nat) (x:SIns):spec_l04Effect.f k x = some (effM x):=by
  have h1:spec_l04Effect.e1 k x = some (decide (x.f0 = 1 ∨ x.f0 = 2 ∨ x.f0 = 3)):=by
    unfold spec_l04Effect.e1
    by_cases h:x.f0 = 1 <;> by_cases h':x.f0 = 2 <;> simp [h,h']
  have h2:spec_l04Effect.e2 k x = some (decide (x.f0 = 4 ∨ x.f0 = 8 ∨ x.f0 = 9 ∨ x.f0 = 10)):=by
    unfold spec_l04Effect.e2
    by_cases h:x.f0 = 4 <;> by_cases h':x.f0 = 8 <;> by_cases h'':x.f0 = 9 <;> simp [h,h',h'']
  have h3:spec_l04Effect.e3 k x = some (decide (x.f0 = 6 ∨ x.f0 = 7)):=by
    unfold spec_l04Effect.e3
    by_cases h:x.f0 = 6 <;> simp [h]
  have h4:spec_l04Effect.e4 k x = some (decide (x.f0 = 12 ∨ x.f0 = 15 ∨ x.f0 = 16)):=by
    unfold spec_l04Effect.e4
    by_cases h:x.f0 = 12 <;> by_cases h':x.f0 = 15 <;> simp [h,h']
  unfold spec_l04Effect.f effM
  simp only [h1,h2,h3,h4,Option.bind_some,decide_eq_true_eq]
  repeat (first | rfl | apply ite_some)
theorem ieff_eq (k:Nat) (x:SIns):impl_Ins__stacks.f k x = some (effM x):=eff_eq k x
/-- An instruction that is right takes and leaves little. -/
theorem eff_le {c:SCode} {x:SIns} (h:insB c x = true) (hr:0 ≤ c.f3 ∧ c.f3 ≤ 1):0 ≤ (effM x).1 ∧ (effM x).1 ≤ 20 ∧ 0 ≤ (effM x).2 ∧ (effM x).2 ≤ 1:=by
  have ht:tailB c x = true:=by unfold insB at h; simp only [Bool.and_eq_true] at h; exact h.2
  by_cases c13:x.f0 = 13
  · unfold tailB btw at ht
    simp [c13] at ht
    simp [effM,c13]
    omega
  by_cases c14:x.f0 = 14
  · unfold tailB btw at ht
    simp [c14] at ht
    simp [effM,c14]
    omega
  unfold effM
  rw [if_neg c13,if_neg c14]
  repeat' split
  all_goals decide
/-- Where an instruction can go on. -/
def nextM (x:SIns) (i:Int):List Int:=if x.f0 = 11 then [x.f1] else if x.f0 = 12 then [x.f1,i + 1] else if x.f0 = 14 ∨ x.f0 = 17 then [] else [i + 1]
theorem next_le {c:SCode} {x:SIns} {i:Int} (h:insB c x = true) (hn:c.f4.length ≤ 2000) (h0:0 ≤ i) (h1:i < c.f4.length):∀ y ∈ nextM x i,0 ≤ y ∧ y ≤ c.f4.length:=by
  have ht:tailB c x = true:=by unfold insB at h; simp only [Bool.and_eq_true] at h; exact h.2
  have hw:w64 ((c.f4.length:Int) - 1) = (c.f4.length:Int) - 1:=w64_id (by omega) (by omega)
  have hj:x.f0 = 11 ∨ x.f0 = 12 → 0 ≤ x.f1 ∧ x.f1 ≤ c.f4.length:=fun hc=>by
    unfold tailB btw at ht
    rw [hw] at ht
    rcases hc with hc | hc <;> simp [hc] at ht <;> omega
  intro y hy
  unfold nextM at hy
  by_cases c11:x.f0 = 11
  · simp [c11] at hy
    have:=hj (.inl c11)
    omega
  by_cases c12:x.f0 = 12
  · simp [c12] at hy
    have:=hj (.inr c12)
    omega
  rw [if_neg c11,if_neg c12] at hy
  split at hy
  · cases hy
  · simp at hy
    omega
theorem ifollows_eq (k:Nat) (x:SIns) {i:Int} (h0:0 ≤ i) (h1:i ≤ 2000):impl_Ins__follows.f k x i = some (nextM x i):=by
  have hw:w64 (i + 1) = i + 1:=w64_id (by omega) (by omega)
  have he:impl_Ins__follows.e1 k x = some (decide (x.f0 = 14 ∨ x.f0 = 17)):=by
    unfold impl_Ins__follows.e1
    by_cases h:x.f0 = 14 <;> simp [h]
  unfold impl_Ins__follows.f nextM
  simp only [he,hw,Option.bind_some,decide_eq_true_eq]
  repeat (first | rfl | apply ite_some)
theorem e79_eq (k:Nat) (x:SIns) {i:Int} (h0:0 ≤ i) (h1:i ≤ 2000):((spec_l04Verify.e7 k x).bind fun y=>spec_l04Verify.e9 k i x y) = some (nextM x i):=by
  have hw:w64 (i + 1) = i + 1:=w64_id (by omega) (by omega)
  unfold spec_l04Verify.e7 spec_l04Verify.e9 spec_l04Verify.e6 spec_l04Verify.e8 nextM
  rw [hw]
  by_cases c11:x.f0 = 11
  · simp [c11]
  by_cases c12:x.f0 = 12
  · simp [c12]
  by_cases c14:x.f0 = 14
  · simp [c14]
  by_cases c17:x.f0 = 17
  · simp [c17]
  simp [c11,c12,c14,c17]
/-! The depths: what a step makes of them. -/
def atD (d:List Int) (i:Int):Int:=d.getD i.toNat 0
theorem at?_D {d:List Int} {i:Int} (h0:0 ≤ i) (h1:i < d.length):at? d i = some (atD d i):=by
  rw [at?_int h0 h1]
  unfold atD
  rw [getD_at (by omega)]
def elM (n:Int) (now:Int):List Int → List Int × Bool → Int ⊕ (List Int × Bool)
  | [],s=>.inr s
  | x :: xs,s=>if x = n then .inl 10 else if atD s.1 x < 0 then elM n now xs (s.1.set x.toNat now,true) else if atD s.1 x = now then elM n now xs s else .inl 8
def stM (c:SCode) (s:List Int × Bool) (i:Nat):(Int × Int) ⊕ (List Int × Bool) :=
  if atD s.1 i < 0 then .inr s else
  let x:=c.f4.getD i z0
  let v:=atD s.1 i - (effM x).1
  if v < 0 then .inl (11,i) else
  let now:=v + (effM x).2
  if 60 < now then .inl (14,i) else
  if x.f0 = 14 ∧ 0 < now then .inl (8,i) else
  match elM c.f4.length now (nextM x i) s with
  | .inl r=>.inl (r,i)
  | .inr s'=>.inr s'
def passM (c:SCode):Nat → Nat → List Int × Bool → (Int × Int) ⊕ (List Int × Bool)
  | 0,_,s=>.inr s
  | m + 1,i,s=>match stM c s i with
    | .inl r=>.inl r
    | .inr s'=>passM c m (i + 1) s'
/-- The depths while the loops run. -/
def Good (n:Nat) (d:List Int):Prop:=d.length = n ∧ ∀ v ∈ d,-1 ≤ v ∧ v ≤ 60
theorem Good.set {n:Nat} {d:List Int} (h:Good n d) (j:Nat) {v:Int} (h0:0 ≤ v) (h1:v ≤ 60):Good n (d.set j v):=by
  refine ⟨by simp [h.1],fun w hw=>?_⟩
  rcases List.mem_or_eq_of_mem_set hw with hw | rfl
  · exact h.2 w hw
  · omega
theorem Good.at {n:Nat} {d:List Int} (h:Good n d) (i:Int):-1 ≤ atD d i ∧ atD d i ≤ 60:=by
  unfold atD
  rw [List.getD_eq_getElem?_getD]
  cases hh:d[i.toNat]? with
  | none=>simp
  | some v=>exact h.2 v (List.mem_of_getElem? hh)
/-- How many places are not reached yet. -/
def cnt (d:List Int):Nat:=d.countP (fun v=>decide (v < 0))
theorem cnt_set:∀ {d:List Int} {j:Nat} {v:Int},d.getD j 0 < 0 → 0 ≤ v → cnt (d.set j v) < cnt d
  | [],j,v,h,h0=>by simp at h
  | a :: d,0,v,h,h0=>by
    simp at h
    simp [cnt,h,h0]
  | a :: d,j + 1,v,h,h0=>by
    have:=cnt_set (d:=d) (j:=j) (v:=v) (by simpa using h) h0
    unfold cnt at this ⊢
    simp only [List.set_cons_succ,List.countP_cons]
    omega
theorem elM_good {n:Nat} {now:Int} (h0:0 ≤ now) (h1:now ≤ 60):∀ {y:List Int} {s s':List Int × Bool},Good n s.1 → elM n now y s = .inr s' → Good n s'.1 ∧ cnt s'.1 ≤ cnt s.1 ∧ (s.2 = false → s'.2 = true → cnt s'.1 < cnt s.1)
  | [],s,s',hg,h=>by
    simp only [elM,Sum.inr.injEq] at h
    subst h
    exact ⟨hg,Nat.le_refl _,fun a b=>by rw [a] at b; cases b⟩
  | x :: y,s,s',hg,h=>by
    simp only [elM] at h
    split at h
    · cases h
    · split at h
      · rename_i hneg
        have hc:=cnt_set (v:=now) hneg h0
        obtain ⟨a,b,_⟩:=elM_good h0 h1 (y:=y) (hg.set _ h0 h1) h
        exact ⟨a,by simp only at b; omega,fun _ _=>by simp only at b; omega⟩
      · split at h
        · exact elM_good h0 h1 hg h
        · cases h
def orS (b:Bool):Int ⊕ (List Int × Bool) → Int ⊕ (List Int × Bool)
  | .inl r=>.inl r
  | .inr s=>.inr (s.1,b || s.2)
theorem elM_or {n:Int} {now:Int} (b:Bool):∀ (y:List Int) (d:List Int) (c:Bool),elM n now y (d,b || c) = orS b (elM n now y (d,c))
  | [],d,c=>rfl
  | x :: y,d,c=>by
    simp only [elM]
    split
    · rfl
    · split
      · have:=elM_or (n:=n) (now:=now) b y (d.set x.toNat now) true
        rw [Bool.or_true] at this
        exact this
      · split
        · exact elM_or b y d c
        · rfl
theorem stM_good {c : SCode} (hc : ∀ x ∈ c.f4, insB c x = true) (hr : 0 ≤ c.f3 ∧ c.f3 ≤ 1) {s s' : List Int × Bool} {i : Nat} (hi : i < c.f4.length) (hg : Good c.f4.length s.1) (h : stM c s i = .inr s') :
    Good c.f4.length s'.1 ∧ cnt s'.1 ≤ cnt s.1 ∧ (s.2 = false → s'.2 = true → cnt s'.1 < cnt s.1):=by
  have he:=eff_le (hc _ (List.getElem_mem hi)) hr
  rw [← getD_at (z:=z0) hi] at he
  unfold stM at h
  simp only at h
  split at h
  · cases h
    exact ⟨hg,Nat.le_refl _,fun a b=>by rw [a] at b; cases b⟩
  · split at h
    · cases h
    · split at h
      · cases h
      · split at h
        · cases h
        · split at h
          · cases h
          · rename_i h1 h2 h3 _ _ hel
            cases h
            exact elM_good (by omega) (by omega) hg hel
theorem passM_good {c : SCode} (hc : ∀ x ∈ c.f4, insB c x = true) (hr : 0 ≤ c.f3 ∧ c.f3 ≤ 1) : ∀ (m : Nat) {i : Nat} {s s' : List Int × Bool}, i + m = c.f4.length → Good c.f4.length s.1 → passM c m i s = .inr s' →
    Good c.f4.length s'.1 ∧ cnt s'.1 ≤ cnt s.1 ∧ (s.2 = false → s'.2 = true → cnt s'.1 < cnt s.1)
  | 0,i,s,s',hi,hg,h=>by
    simp only [passM,Sum.inr.injEq] at h
    subst h
    exact ⟨hg,Nat.le_refl _,fun a b=>by rw [a] at b; cases b⟩
  | m + 1,i,s,s',hi,hg,h=>by
    simp only [passM] at h
    split at h
    · cases h
    · rename_i s1 h1
      obtain ⟨a,b,c1⟩:=stM_good hc hr (by omega) hg h1
      obtain ⟨a',b',c'⟩:=passM_good hc hr m (by omega) a h
      refine ⟨a',by omega,fun e e'=>?_⟩
      cases hs:s1.2
      · have:=c' hs e'; omega
      · have:=c1 e hs; omega
end Go.Proofs.YtoclajfeeebbbadGreatDoor.V
