/- Trees: both go over all nodes alike. -/
import Derived.Test.YtaelpeekimbmcaaGreatDoorPlTr3FnExactPrint
set_option linter.unusedVariables false
set_option linter.unusedSimpArgs false
namespace Go.Proofs.YtaelpeekimbmcaaGreatDoor.T
open Go.RowKit Go.Proofs.YtaelpeekimbmcaaGreatDoor.E Go.Proofs.YtaelpeekimbmcaaGreatDoor.V
/-- A tree of a size that fits. -/
inductive Sm:SNode → Prop
  | mk {x:SNode} (h2:x.f2.size ≤ 1048576) (h3:x.f3.size ≤ 1048576) (h4:x.f4.length ≤ 1048576) (k:∀ y,y ∈ x.f4 → Sm y):Sm x
def okB (x:SNode):Bool:=namesB x && numB x && kidsB x
mutual
def rightV:SNode → Bool
  | ⟨a,b,c,d,l⟩=>btw a 1 27 && okB ⟨a,b,c,d,l⟩ && rightL l
def rightL:List SNode → Bool
  | []=>true
  | y :: l=>rightV y && rightL l
end
mutual
def allV:SNode → Bool
  | ⟨a,b,c,d,l⟩=>okB ⟨a,b,c,d,l⟩ && allL l
def allL:List SNode → Bool
  | []=>true
  | y :: l=>allV y && allL l
end
mutual
def leftV:SNode → Int → Int → Int
  | ⟨a,b,c,e,l⟩,left,d=>if 40 < d then -1 else leftL l (left - 1) (d + 1)
def leftL:List SNode → Int → Int → Int
  | [],left,_=>left
  | y :: l,left,d=>if 0 ≤ left then leftL l (leftV y left d) d else left
end
mutual
def fitsV:SNode → Int → Int → Bool × Int
  | ⟨a,b,c,e,l⟩,d,m=>if d ≤ 40 ∧ m + 1 ≤ 700 ∧ okB ⟨a,b,c,e,l⟩ = true then fitsL l (d + 1) (m + 1) else (false,m + 1)
def fitsL:List SNode → Int → Int → Bool × Int
  | [],_,m=>(true,m)
  | y :: l,d,m=>if (fitsV y d m).1 = true then fitsL l d (fitsV y d m).2 else (false,(fitsV y d m).2)
end
theorem rightV_eq (x:SNode):rightV x = (btw x.f0 1 27 && okB x && rightL x.f4):=by cases x; rw [rightV]
theorem allV_eq (x:SNode):allV x = (okB x && allL x.f4):=by cases x; rw [allV]
theorem leftV_eq (x:SNode) (left d:Int):leftV x left d = if 40 < d then -1 else leftL x.f4 (left - 1) (d + 1):=by cases x; rw [leftV]
theorem fitsV_eq (x:SNode) (d m:Int):fitsV x d m = if d ≤ 40 ∧ m + 1 ≤ 700 ∧ okB x = true then fitsL x.f4 (d + 1) (m + 1) else (false,m + 1):=by cases x; rw [fitsV]
theorem rightL_all:∀ l,rightL l = l.all rightV
  | []=>by rw [rightL]; rfl
  | y :: l=>by rw [rightL,rightL_all l]; rfl
theorem allL_all:∀ l,allL l = l.all allV
  | []=>by rw [allL]; rfl
  | y :: l=>by rw [allL,allL_all l]; rfl
theorem leftL_neg {l:List SNode} {left d:Int} (h:left < 0):leftL l left d = left:=by
  cases l with
  | nil=>rw [leftL]
  | cons y l=>rw [leftL,if_neg (by omega)]
theorem leftL_le {l:List SNode} (d:Int) (h:∀ y,y ∈ l → ∀ left,0 ≤ left → leftV y left d ≤ left):∀ left,leftL l left d ≤ left:=by
  induction l with
  | nil=>intro left; rw [leftL]; exact Int.le_refl _
  | cons y l ih =>
    intro left
    rw [leftL]
    split
    · rename_i h0
      have h1:=h y (List.mem_cons_self ..) left h0
      have h2:=ih (fun z hz=>h z (List.mem_cons_of_mem _ hz)) (leftV y left d)
      omega
    · exact Int.le_refl _
theorem leftV_le {x:SNode} (hx:Sm x):∀ d left,0 ≤ left → leftV x left d ≤ left:=by
  induction hx with
  | @mk x h2 h3 h4 hk ih =>
    intro d left h0
    rw [leftV_eq]
    split
    · omega
    · have:=leftL_le (l:=x.f4) (d + 1) (fun y hy left hl=>ih y hy (d + 1) left hl) (left - 1)
      omega
/-- The kids of a node that is right are of kinds in sight. -/
theorem ordB_in (os:List Int) (b:Int) (hb:1 ≤ b ∧ b ≤ 27):∀ (l:List SNode) (os:List Int),(∀ o ∈ os,1 ≤ o ∧ o ≤ 27) → ordB l os b = true → ∀ y ∈ l,btw y.f0 1 27 = true
  | [],_,_,_=>fun y hy=>by cases hy
  | x :: xs,os,ho,h=>by
    rw [ordB] at h
    split at h
    · simp only [Bool.and_eq_true,decide_eq_true_eq,List.isEmpty_iff] at h
      intro y hy
      rw [h.2] at hy
      simp only [List.mem_singleton] at hy
      subst hy
      simp [btw,h.1]; omega
    · rename_i o os' he
      have hx:x.f0 = o:=by
        have hne:os.dropWhile (fun o=>!decide (o = x.f0)) ≠ []:=by rw [he]; simp
        have:=List.head_dropWhile_not (fun o=>!decide (o = x.f0)) hne
        simp only [he,List.head_cons,Bool.not_eq_false',decide_eq_true_eq] at this
        exact this.symm
      have hsub:∀ o' ∈ o :: os',1 ≤ o' ∧ o' ≤ 27:=fun o' h'=>ho o' ((List.dropWhile_sublist _).subset (by rw [he]; exact h'))
      intro y hy
      rcases List.mem_cons.1 hy with rfl | hy
      · have:=hsub o (List.mem_cons_self ..)
        simp [btw,hx]; omega
      · exact ordB_in os b hb xs (o :: os') hsub h y hy
theorem exprB_in {x:SNode} (h:exprB x = true):btw x.f0 1 27 = true:=by
  simp only [exprB,btw,Bool.or_eq_true,Bool.and_eq_true,decide_eq_true_eq] at h ⊢; omega
theorem stmtB_in {x:SNode} (h:stmtB x = true):btw x.f0 1 27 = true:=by
  simp only [stmtB,btw,Bool.and_eq_true,decide_eq_true_eq] at h ⊢; omega
theorem desB_in {x:SNode} (h:desB x = true):btw x.f0 1 27 = true:=by
  simp only [desB,btw,Bool.or_eq_true,Bool.and_eq_true,decide_eq_true_eq] at h ⊢; omega
theorem varB_in {x:SNode} (h:varB x = true):btw x.f0 1 27 = true:=by
  simp only [varB,btw,Bool.or_eq_true,Bool.and_eq_true,decide_eq_true_eq] at h ⊢; omega
theorem ofB_in {n:Int} (hn:1 ≤ n ∧ n ≤ 27) {x:SNode} (h:ofB n x = true):btw x.f0 1 27 = true:=by
  simp only [ofB,btw,Bool.and_eq_true,decide_eq_true_eq] at h ⊢; omega
theorem k1_in {p:SNode → Bool} (hp:∀ {x},p x = true → btw x.f0 1 27 = true) {l:List SNode} (h:k1 p l = true):∀ y ∈ l,btw y.f0 1 27 = true:=by
  match l,h with
  | [a],h=>intro y hy; simp only [List.mem_singleton] at hy; subst hy; exact hp h
theorem k2_in {p q:SNode → Bool} (hp:∀ {x},p x = true → btw x.f0 1 27 = true) (hq:∀ {x},q x = true → btw x.f0 1 27 = true) {l:List SNode} (h:k2 p q l = true):∀ y ∈ l,btw y.f0 1 27 = true:=by
  match l,h with
  | [a,b],h =>
    simp only [k2,Bool.and_eq_true] at h
    intro y hy
    rcases List.mem_cons.1 hy with rfl | hy
    · exact hp h.1
    · simp only [List.mem_singleton] at hy; subst hy; exact hq h.2
theorem k3_in {p q r:SNode → Bool} (hp:∀ {x},p x = true → btw x.f0 1 27 = true) (hq:∀ {x},q x = true → btw x.f0 1 27 = true) (hr:∀ {x},r x = true → btw x.f0 1 27 = true) {l:List SNode} (h:k3 p q r l = true):∀ y ∈ l,btw y.f0 1 27 = true:=by
  match l,h with
  | [a,b,c],h =>
    simp only [k3,Bool.and_eq_true] at h
    intro y hy
    rcases List.mem_cons.1 hy with rfl | hy
    · exact hp h.1.1
    · rcases List.mem_cons.1 hy with rfl | hy
      · exact hq h.1.2
      · simp only [List.mem_singleton] at hy; subst hy; exact hr h.2
theorem empty_in {l:List SNode} (h:l.isEmpty = true):∀ y ∈ l,btw y.f0 1 27 = true:=by
  rw [List.isEmpty_iff.1 h]; intro y hy; cases hy
theorem kids_in {x:SNode} (h:kidsB x = true):∀ y ∈ x.f4,btw y.f0 1 27 = true:=by
  unfold kidsB at h
  have d10:(1:Int) ≤ 10 ∧ (10:Int) ≤ 27:=by omega
  by_cases c:x.f0 = 1
  · rw [if_pos c] at h
    exact ordB_in [] 10 d10 _ _ (by decide) h
  rw [if_neg c] at h
  clear c
  by_cases c:x.f0 = 5
  · rw [if_pos c] at h
    simp only [Bool.and_eq_true] at h
    exact ordB_in [] 10 d10 _ [6,7,4] (by decide) h.2
  rw [if_neg c] at h
  clear c
  by_cases c:x.f0 = 4
  · rw [if_pos c] at h
    exact k1_in varB_in h
  rw [if_neg c] at h
  clear c
  by_cases c:isIn [6,9] x.f0 = true
  · rw [if_pos c] at h
    exact k1_in (ofB_in (by omega)) h
  rw [if_neg c] at h
  clear c
  by_cases c:x.f0 = 10
  · rw [if_pos c] at h
    exact fun y hy=>stmtB_in (List.all_eq_true.1 h y hy)
  rw [if_neg c] at h
  clear c
  by_cases c:x.f0 = 11
  · rw [if_pos c] at h
    exact k2_in desB_in exprB_in h
  rw [if_neg c] at h
  clear c
  by_cases c:x.f0 = 17
  · rw [if_pos c] at h
    exact k1_in desB_in h
  rw [if_neg c] at h
  clear c
  by_cases c:x.f0 = 13
  · rw [if_pos c] at h
    rcases Bool.or_eq_true_iff.1 h with h | h
    · exact k2_in exprB_in (ofB_in (by omega)) h
    · exact k3_in exprB_in (ofB_in (by omega)) (ofB_in (by omega)) h
  rw [if_neg c] at h
  clear c
  by_cases c:x.f0 = 14
  · rw [if_pos c] at h
    exact k2_in exprB_in (ofB_in (by omega)) h
  rw [if_neg c] at h
  clear c
  by_cases c:x.f0 = 15
  · rw [if_pos c] at h
    rcases Bool.or_eq_true_iff.1 h with h | h
    · exact empty_in h
    · exact k1_in exprB_in h
  rw [if_neg c] at h
  clear c
  by_cases c:x.f0 = 12
  · rw [if_pos c] at h
    exact fun y hy=>exprB_in (List.all_eq_true.1 h y hy)
  rw [if_neg c] at h
  clear c
  by_cases c:isIn [3,16,23,25,26] x.f0 = true
  · rw [if_pos c] at h
    exact k1_in exprB_in h
  rw [if_neg c] at h
  clear c
  by_cases c:x.f0 = 27
  · rw [if_pos c] at h
    exact k1_in (ofB_in (by omega)) h
  rw [if_neg c] at h
  clear c
  by_cases c:x.f0 = 22
  · rw [if_pos c] at h
    exact k2_in (ofB_in (by omega)) exprB_in h
  rw [if_neg c] at h
  clear c
  by_cases c:x.f0 = 24
  · rw [if_pos c] at h
    exact k2_in exprB_in exprB_in h
  rw [if_neg c] at h
  clear c
  exact empty_in h
theorem right_all {x:SNode} (hx:Sm x):btw x.f0 1 27 = true → rightV x = allV x:=by
  induction hx with
  | @mk x h2 h3 h4 hk ih =>
    intro hb
    rw [rightV_eq,allV_eq,hb,Bool.true_and,rightL_all,allL_all]
    cases ho:okB x with
    | false=>rfl
    | true =>
      have hkids:kidsB x = true:=by
        simp only [okB,Bool.and_eq_true] at ho; exact ho.2
      rw [Bool.true_and,Bool.true_and]
      have hin:=kids_in hkids
      rw [Bool.eq_iff_iff,List.all_eq_true,List.all_eq_true]
      exact ⟨fun h y hy=>(ih y hy (hin y hy)) ▸ h y hy,fun h y hy=>(ih y hy (hin y hy)) ▸ h y hy⟩
def Rel (a:Bool) (l:Int) (f:Bool × Int):Prop:=(a = true ∧ 0 ≤ l → f = (true,700 - l)) ∧ (¬ (a = true ∧ 0 ≤ l) → f.1 = false)
theorem relL {l:List SNode} (d:Int) (h:∀ y,y ∈ l → ∀ left,0 ≤ left → Rel (allV y) (leftV y left d) (fitsV y d (700 - left))):∀ left,0 ≤ left → Rel (allL l) (leftL l left d) (fitsL l d (700 - left)):=by
  induction l with
  | nil =>
    intro left h0
    rw [allL,leftL,fitsL]
    exact ⟨fun _=>rfl,fun hn=>absurd ⟨rfl,h0⟩ hn⟩
  | cons y l ih =>
    intro left h0
    have hy:=h y (List.mem_cons_self ..) left h0
    have ih:=ih (fun z hz=>h z (List.mem_cons_of_mem _ hz))
    rw [allL,leftL,fitsL,if_pos h0]
    by_cases hc:allV y = true ∧ 0 ≤ leftV y left d
    · have h1:=hy.1 hc
      rw [h1,if_pos rfl,hc.1,Bool.true_and]
      exact ih _ hc.2
    · have h1:=hy.2 hc
      rw [if_neg (by rw [h1]; simp)]
      refine ⟨fun hq=>?_,fun _=>rfl⟩
      exfalso
      simp only [Bool.and_eq_true] at hq
      by_cases hl:0 ≤ leftV y left d
      · exact hc ⟨hq.1.1,hl⟩
      · rw [leftL_neg (by omega)] at hq; exact hl hq.2
theorem relV {x:SNode} (hx:Sm x):∀ d left,0 ≤ left → Rel (allV x) (leftV x left d) (fitsV x d (700 - left)):=by
  induction hx with
  | @mk x h2 h3 h4 hk ih =>
    intro d left h0
    rw [allV_eq,leftV_eq,fitsV_eq]
    by_cases hd:40 < d
    · rw [if_pos hd,if_neg (by omega)]
      exact ⟨fun h=>absurd h.2 (by omega),fun _=>rfl⟩
    · rw [if_neg hd]
      by_cases hl:left = 0
      · subst hl
        rw [leftL_neg (by omega),if_neg (by omega)]
        exact ⟨fun h=>absurd h.2 (by omega),fun _=>rfl⟩
      · by_cases ho:okB x = true
        · rw [if_pos ⟨by omega,by omega,ho⟩,ho,Bool.true_and,show (700:Int) - left + 1 = 700 - (left - 1) by omega]
          exact relL (d + 1) (fun y hy left hl=>ih y hy (d + 1) left hl) (left - 1) (by omega)
        · rw [if_neg (fun h=>ho h.2.2)]
          exact ⟨fun h=>absurd h.1 (by simp [ho]),fun _=>rfl⟩
theorem unif {α:Type} {Q:Nat → α → Prop}:∀ {l:List α},(∀ y,y ∈ l → ∃ K,∀ k,K ≤ k → Q k y) → ∃ K,∀ k,K ≤ k → ∀ y,y ∈ l → Q k y
  | [],_=>⟨0,fun _ _ y hy=>by cases hy⟩
  | z :: l,h=>by
    obtain ⟨K1,h1⟩:=unif (l:=l) fun y hy=>h y (List.mem_cons_of_mem _ hy)
    obtain ⟨K2,h2⟩:=h z (List.mem_cons_self ..)
    refine ⟨max K1 K2,fun k hk y hy=>?_⟩
    rcases List.mem_cons.1 hy with rfl | hy
    · exact h2 k (by omega)
    · exact h1 k (by omega) y hy
/-! The reference's count. -/
theorem left_run (x : SNode) (d : Int) (hd : 0 ≤ d ∧ d ≤ 40) (R : SNode → Int → Int → Option Int) (hR : ∀ y, y ∈ x.f4 → ∀ left, 0 ≤ left → left ≤ 700 → R y left (d + 1) = some (leftV y left (d + 1))) (hle : ∀ y, y ∈ x.f4 → ∀ left, 0 ≤ left → leftV y left (d + 1) ≤ left) (h4 : x.f4.length ≤ 1048576) :
    ∀ (m i n:Nat) (left:Int),i + m = x.f4.length → m + 1 ≤ n → left ≤ 700 → spec_l02Left.l2 n x d R left (i:Int) = some (leftL (x.f4.drop i) left (d + 1)):=by
  intro m
  induction m with
  | zero =>
    intro i n left hi hn hl
    obtain ⟨n,rfl⟩:∃ j,n = j + 1:=⟨n - 1,by omega⟩
    rw [List.drop_eq_nil_of_le (by omega),leftL,spec_l02Left.l2.eq_2]
    unfold spec_l02Left.e1
    rw [if_neg (by omega)]; rfl
  | succ m ih =>
    intro i n left hi hn hl
    obtain ⟨n,rfl⟩:∃ j,n = j + 1:=⟨n - 1,by omega⟩
    have hlt:i < x.f4.length:=by omega
    rw [List.drop_eq_getElem_cons hlt,leftL,spec_l02Left.l2.eq_2]
    unfold spec_l02Left.e1
    rw [if_pos (by omega),Option.bind_some]
    by_cases h0:0 ≤ left
    · have hw:w64 (d + 1) = d + 1:=w64_id (by omega) (by omega)
      rw [if_pos (decide_eq_true h0),if_pos h0,at?_nat hlt,Option.bind_some,hw,hR _ (List.getElem_mem hlt) left h0 hl,Option.bind_some,w64_next (by omega)]
      have:=hle _ (List.getElem_mem hlt) left h0
      exact ih (i + 1) n _ (by omega) (by omega) (by omega)
    · rw [if_neg (by simp; omega),if_neg h0]
theorem left_ev {x:SNode} (hx:Sm x):∃ K,∀ k,K ≤ k → ∀ left d,0 ≤ left → left ≤ 700 → 0 ≤ d → d ≤ 41 → spec_l02Left.f k x left d = some (leftV x left d):=by
  have hle:=@leftV_le
  induction hx with
  | @mk x h2 h3 h4 hk ih =>
    obtain ⟨K,hK⟩:=unif ih
    refine ⟨max K (x.f4.length + 1) + 1,fun k hk' left d h0 h7 hd0 hd1=>?_⟩
    obtain ⟨k,rfl⟩:∃ j,k = j + 1:=⟨k - 1,by omega⟩
    rw [spec_l02Left.f.eq_2,leftV_eq]
    split
    · rfl
    · unfold spec_l02Left.e3
      rw [w64_id (by omega) (by omega)]
      have:=left_run x d ⟨hd0,by omega⟩ (spec_l02Left.f k) (fun y hy left h0 h7=>hK k (by omega) y hy left (d + 1) h0 h7 (by omega) (by omega)) (fun y hy left h0=>hle (hk y hy) (d + 1) left h0) h4 x.f4.length 0 k (left - 1) (by omega) (by omega) (by omega)
      rw [List.drop_zero] at this
      show (spec_l02Left.l2 k x d (spec_l02Left.f k) (left - 1) ((0:Nat):Int)).bind _ = _
      rw [this]; rfl
/-! The reference's nodes. -/
theorem e1_ev {x:SNode} (h4:x.f4.length ≤ 1048576):Evr (fun k=>spec_l02Right.e1 k x) (!(btw x.f0 1 27 && okB x)):=by
  unfold spec_l02Right.e1 okB
  refine ev_bind _ (ev_of fun k=>in_eq k x.f0 1 27) ?_
  show Evr _ (!(btw x.f0 1 27 && _))
  unfold btw
  cases (decide ((1:Int) ≤ x.f0) && decide (x.f0 ≤ 27))
  · exact ev_some
  · refine ev_pos rfl (ev_bind _ (snames x) ?_)
    cases namesB x
    · exact ev_some
    · refine ev_pos rfl (ev_bind _ (ev_of fun k=>snum k x) ?_)
      cases numB x
      · exact ev_some
      · exact ev_pos rfl (ev_bind _ (skids x h4) ev_some)
theorem right_run (x : SNode) (R : SNode → Option Bool) (hR : ∀ y, y ∈ x.f4 → R y = some (rightV y)) (h4 : x.f4.length ≤ 1048576) :
    ∀ (m i n:Nat),i + m = x.f4.length → m + 1 ≤ n → spec_l02Right.l2 n x R (i:Int) = some (if rightL (x.f4.drop i) = true then .inr () else .inl false):=by
  intro m
  induction m with
  | zero =>
    intro i n hi hn
    obtain ⟨n,rfl⟩:∃ j,n = j + 1:=⟨n - 1,by omega⟩
    rw [List.drop_eq_nil_of_le (by omega),rightL,spec_l02Right.l2.eq_2,if_neg (by omega)]; rfl
  | succ m ih =>
    intro i n hi hn
    obtain ⟨n,rfl⟩:∃ j,n = j + 1:=⟨n - 1,by omega⟩
    have hlt:i < x.f4.length:=by omega
    rw [List.drop_eq_getElem_cons hlt,rightL,spec_l02Right.l2.eq_2,if_pos (by omega),at?_nat hlt,Option.bind_some,hR _ (List.getElem_mem hlt),Option.bind_some]
    cases rightV x.f4[i] with
    | false=>rfl
    | true =>
      rw [if_pos rfl,Bool.true_and,w64_next (by omega)]
      exact ih (i + 1) n (by omega) (by omega)
theorem right_ev {x:SNode} (hx:Sm x):∃ K,∀ k,K ≤ k → spec_l02Right.f k x = some (rightV x):=by
  induction hx with
  | @mk x h2 h3 h4 hk ih =>
    obtain ⟨K,hK⟩:=unif ih
    obtain ⟨K2,hK2⟩:∃ K,∀ k,K ≤ k → spec_l02Right.e1 k x = some (!(btw x.f0 1 27 && okB x)):=e1_ev (x:=x) h4
    refine ⟨max (max K K2) (x.f4.length + 1) + 1,fun k hk'=>?_⟩
    obtain ⟨k,rfl⟩:∃ j,k = j + 1:=⟨k - 1,by omega⟩
    rw [spec_l02Right.f.eq_2,hK2 k (by omega),Option.bind_some,rightV_eq]
    cases btw x.f0 1 27 && okB x with
    | false=>rfl
    | true =>
      unfold spec_l02Right.e3
      have:=right_run x (spec_l02Right.f k) (hK k (by omega)) h4 x.f4.length 0 k (by omega) (by omega)
      rw [List.drop_zero] at this
      show (if (!true) = true then _ else (spec_l02Right.l2 k x (spec_l02Right.f k) ((0:Nat):Int)).bind _) = _
      rw [this]
      cases rightL x.f4 <;> rfl
/-! The program. -/
theorem fitsL_snd {l:List SNode} (d:Int) (h:∀ y,y ∈ l → ∀ m,0 ≤ m → m ≤ 700 → (fitsV y d m).1 = true → 0 ≤ (fitsV y d m).2 ∧ (fitsV y d m).2 ≤ 700):∀ m,0 ≤ m → m ≤ 700 → (fitsL l d m).1 = true → 0 ≤ (fitsL l d m).2 ∧ (fitsL l d m).2 ≤ 700:=by
  induction l with
  | nil=>intro m h0 h1 _; rw [fitsL]; exact ⟨h0,h1⟩
  | cons y l ih =>
    intro m h0 h1 hf
    rw [fitsL] at hf ⊢
    split at hf
    · rename_i hy
      rw [if_pos hy]
      obtain ⟨g1,g2⟩:=h y (List.mem_cons_self ..) m h0 h1 hy
      exact ih (fun z hz=>h z (List.mem_cons_of_mem _ hz)) _ g1 g2 hf
    · cases hf
theorem fitsV_snd {x:SNode} (hx:Sm x):∀ d m,0 ≤ m → m ≤ 700 → (fitsV x d m).1 = true → 0 ≤ (fitsV x d m).2 ∧ (fitsV x d m).2 ≤ 700:=by
  induction hx with
  | @mk x h2 h3 h4 hk ih =>
    intro d m h0 h1 hf
    rw [fitsV_eq] at hf ⊢
    split at hf
    · rename_i hc
      rw [if_pos hc]
      exact fitsL_snd (d + 1) (fun y hy m h0 h1 hf=>ih y hy (d + 1) m h0 h1 hf) (m + 1) (by omega) (by omega) hf
    · cases hf
theorem fits_run (l : List SNode) (d : Int) (hd : 0 ≤ d ∧ d ≤ 40) (R : SNode → Int → Int → Option (Bool × Int)) (hR : ∀ y, y ∈ l → ∀ m, 0 ≤ m → m ≤ 700 → R y (d + 1) m = some (fitsV y (d + 1) m)) (hs : ∀ y, y ∈ l → ∀ m, 0 ≤ m → m ≤ 700 → (fitsV y (d + 1) m).1 = true → 0 ≤ (fitsV y (d + 1) m).2 ∧ (fitsV y (d + 1) m).2 ≤ 700) (h4 : l.length ≤ 1048576) :
    ∀ (q i n:Nat) (m:Int),i + q = l.length → q + 1 ≤ n → 0 ≤ m → m ≤ 700 → ∃ v,slices_IndexFunc___impl_Node_impl_Node_6.l1 n l d R (i:Int) m = some v ∧ match v with
      | .inl r=>0 ≤ r.1 ∧ fitsL (l.drop i) (d + 1) m = (false,r.2)
      | .inr r=>fitsL (l.drop i) (d + 1) m = (true,r):=by
  have hw:w64 (d + 1) = d + 1:=w64_id (by omega) (by omega)
  intro q
  induction q with
  | zero =>
    intro i n m hi hn h0 h1
    obtain ⟨n,rfl⟩:∃ j,n = j + 1:=⟨n - 1,by omega⟩
    rw [List.drop_eq_nil_of_le (by omega),slices_IndexFunc___impl_Node_impl_Node_6.l1.eq_2,if_neg (by omega)]
    exact ⟨.inr m,rfl,by rw [fitsL]⟩
  | succ q ih =>
    intro i n m hi hn h0 h1
    obtain ⟨n,rfl⟩:∃ j,n = j + 1:=⟨n - 1,by omega⟩
    have hlt:i < l.length:=by omega
    rw [List.drop_eq_getElem_cons hlt,slices_IndexFunc___impl_Node_impl_Node_6.l1.eq_2,if_pos (by omega),at?_nat hlt,Option.bind_some]
    unfold impl_areAll_impl_Node__1_6.f impl_Node__fits_1_3.f
    rw [hw,hR _ (List.getElem_mem hlt) m h0 h1]
    simp only [Option.bind_some]
    rw [fitsL]
    cases hf:(fitsV l[i] (d + 1) m).1 with
    | false =>
      simp only [Bool.not_false,if_true,Bool.false_eq_true,if_false]
      exact ⟨_,rfl,by omega,rfl⟩
    | true =>
      simp only [Bool.not_true,Bool.false_eq_true,if_false,if_true]
      obtain ⟨g1,g2⟩:=hs _ (List.getElem_mem hlt) m h0 h1 hf
      rw [w64_next (by omega)]
      exact ih (i + 1) n _ (by omega) (by omega) g1 g2
theorem fits_ev {x:SNode} (hx:Sm x):∃ K,∀ k,K ≤ k → ∀ d m,0 ≤ d → d ≤ 41 → 0 ≤ m → m ≤ 700 → impl_Node__fits_2.f k x d m = some (fitsV x d m):=by
  have hsnd:=@fitsV_snd
  induction hx with
  | @mk x h2 h3 h4 hk ih =>
    obtain ⟨K,hK⟩:=unif ih
    obtain ⟨K2,hK2⟩:∃ K,∀ k,K ≤ k → impl_Node__hasNames.f k x = some (namesB x):=inames x (by omega) (by omega)
    obtain ⟨K3,hK3⟩:∃ K,∀ k,K ≤ k → impl_Node__hasKids.f k x = some (kidsB x):=ikids x h4
    refine ⟨max (max K (max K2 K3)) (x.f4.length + 1) + 1,fun k hk' d m hd0 hd1 h0 h1=>?_⟩
    obtain ⟨k,rfl⟩:∃ j,k = j + 1:=⟨k - 1,by omega⟩
    have hw:w64 (m + 1) = m + 1:=w64_id (n:=m + 1) (by omega) (by omega)
    by_cases hc:d ≤ 40 ∧ m + 1 ≤ 700 ∧ okB x = true
    · rw [fitsV_eq,if_pos hc,impl_Node__fits_2.f.eq_2]
      obtain ⟨hd,hm,ho⟩:=hc
      simp only [okB,Bool.and_eq_true] at ho
      unfold impl_Node__fits_2.e1
      rw [hw,if_pos hd,if_pos hm,inum,Option.bind_some,if_pos ho.1.2,hK2 k (by omega),Option.bind_some,if_pos ho.1.1,hK3 k (by omega),Option.bind_some,if_pos ho.2]
      unfold impl_areAll_impl_Node_5.f slices_ContainsFunc___impl_Node_impl_Node_6.f slices_IndexFunc___impl_Node_impl_Node_6.f slices_IndexFunc___impl_Node_impl_Node_6.e2
      obtain ⟨v,g1,g2⟩:=fits_run x.f4 d ⟨hd0,hd⟩ (impl_Node__fits_2.f k) (fun y hy m h0 h1=>hK k (by omega) y hy (d + 1) m (by omega) (by omega) h0 h1) (fun y hy m h0 h1 hf=>hsnd (hk y hy) (d + 1) m h0 h1 hf) h4 x.f4.length 0 k (m + 1) (by omega) (by omega) (by omega) (by omega)
      rw [List.drop_zero] at g2
      have g1:slices_IndexFunc___impl_Node_impl_Node_6.l1 k x.f4 d (impl_Node__fits_2.f k) 0 (m + 1) = some v:=g1
      rw [g1]
      cases v with
      | inl r =>
        have g2:0 ≤ r.1 ∧ fitsL x.f4 (d + 1) (m + 1) = (false,r.2):=g2
        rw [g2.2]; simp [g2.1]
      | inr r =>
        have g2:fitsL x.f4 (d + 1) (m + 1) = (true,r):=g2
        rw [g2]; simp
    · rw [fitsV_eq,if_neg hc,impl_Node__fits_2.f.eq_2]
      unfold impl_Node__fits_2.e1
      rw [hw]
      by_cases hd:d ≤ 40
      · by_cases hm:m + 1 ≤ 700
        · rw [if_pos hd,if_pos hm,inum,Option.bind_some]
          cases hn:numB x with
          | false=>rfl
          | true =>
            rw [if_pos rfl,hK2 k (by omega),Option.bind_some]
            cases ha:namesB x with
            | false=>rfl
            | true =>
              rw [if_pos rfl,hK3 k (by omega),Option.bind_some]
              cases hb:kidsB x with
              | false=>rfl
              | true=>exact absurd ⟨hd,hm,by simp [okB,ha,hn,hb]⟩ hc
        · rw [if_pos hd,if_neg hm]; rfl
      · rw [if_neg hd]; rfl
/-- Both answer alike. -/
theorem both {x:SNode} (hx:Sm x):∃ b,Evr (fun k=>spec_TreeOK.f k x) b ∧ Evr (fun k=>impl_TreeOK.f k x) b:=by
  by_cases h1:x.f0 = 1
  · have hb:btw x.f0 1 27 = true:=by rw [h1]; rfl
    have hr:=right_all hx hb
    have hrel:=relV hx 1 700 (by omega)
    obtain ⟨K1,e1⟩:=left_ev hx
    obtain ⟨K2,e2⟩:=right_ev hx
    obtain ⟨K3,e3⟩:=fits_ev hx
    refine ⟨(fitsV x 1 0).1,?_,?_⟩
    · unfold spec_TreeOK.f spec_TreeOK.e1
      refine ev_bind _ (ev_pos h1 (ev_bind _ ⟨K1,fun k hk=>e1 k hk 700 1 (by omega) (by omega) (by omega) (by omega)⟩ ?_)) ev_some
      by_cases hl:0 ≤ leftV x 700 1
      · refine ev_pos hl (ev_bind _ ⟨K2,e2⟩ (ev_eq ev_some ?_))
        rw [hr]
        cases ha:allV x with
        | true=>have:=hrel.1 ⟨ha,hl⟩; simp at this; rw [this]
        | false=>exact (hrel.2 (fun h=>by rw [ha] at h; cases h.1)).symm
      · exact ev_neg hl (ev_eq ev_some (hrel.2 (fun h=>hl h.2)).symm)
    · unfold impl_TreeOK.f impl_TreeOK.e1
      exact ev_bind _ (ev_pos h1 (ev_bind _ ⟨K3,fun k hk=>e3 k hk 1 0 (by omega) (by omega) (by omega) (by omega)⟩ ev_some)) ev_some
  · refine ⟨false,?_,?_⟩
    · unfold spec_TreeOK.f spec_TreeOK.e1
      exact ev_bind _ (ev_neg h1 ev_some) ev_some
    · unfold impl_TreeOK.f impl_TreeOK.e1
      exact ev_bind _ (ev_neg h1 ev_some) ev_some
end Go.Proofs.YtaelpeekimbmcaaGreatDoor.T
