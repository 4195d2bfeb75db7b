/- Marks in an object that is kept: they are held. -/
import Derived.Test.YtoclajfeeebbbadGreatDoorPlMbFnExactReadObject
set_option linter.unusedVariables false
set_option linter.unusedSimpArgs false
namespace Go.Proofs.YtoclajfeeebbbadGreatDoor.E
noncomputable def mkNd (n:Nat):SNeed:=⟨mT n,((n + 1:Nat):Int)⟩
def endN:List SNeed → Nat → Nat
  | [],n=>n
  | _ :: l,n=>endN l (n + 1 + 1)
noncomputable def mkNds:List SNeed → Nat → List SNeed
  | [],_=>[]
  | _ :: l,n=>mkNd n :: mkNds l (n + 1 + 1)
theorem endN_eq:∀ (l:List SNeed) (n:Nat),endN l n = n + 2 * l.length
  | [],n=>rfl
  | _ :: l,n=>by
    show endN l (n + 1 + 1) = _
    rw [endN_eq l,List.length_cons]
    omega
theorem markN_loop:∀ (l A:List SNeed) (n:Nat),A.length + l.length ≤ 4611686018427387000 → endN l n ≤ 4611686018427387000 → Evr (fun k=>laws_markNeedS_1.l1 k (A ++ l) (n:Int) (A.length:Int)) (A ++ mkNds l n,((endN l n:Nat):Int))
  | [],A,n,hl,hn=>ev_step _ (fun k=>laws_markNeedS_1.l1.eq_2 ..) (ev_neg (by simp) ev_some)
  | x :: l,A,n,hl,hn=>by
    rw [List.length_cons] at hl
    have hn':endN l (n + 1 + 1) ≤ 4611686018427387000:=hn
    have hle:=endN_eq l (n + 1 + 1)
    have e1:w64 ((n:Int) + 1) = ((n + 1:Nat):Int):=w64_1 (by omega)
    have e2:w64 (((n + 1:Nat):Int) + 1) = ((n + 1 + 1:Nat):Int):=w64_1 (by omega)
    have e5:w64 ((A.length:Int) + 1) = ((A.length + 1:Nat):Int):=w64_next (by omega)
    refine ev_step _ (fun k=>laws_markNeedS_1.l1.eq_2 ..) (ev_pos (by simp; omega) (ev_bind _ (mT_ev (by omega)) (ev_bind _ (ev_const (at_mid rfl)) ?_)))
    rw [set_mid rfl]
    refine ev_bind _ (ev_const (at_mid rfl)) ?_
    rw [set_mid rfl,e1,e2,e5]
    have ih:=markN_loop l (A ++ [mkNd n]) (n + 1 + 1) (by simp; omega) hn'
    rw [List.append_assoc,List.append_assoc,List.length_append,List.length_singleton] at ih
    exact ih
theorem markN_ev (l:List SNeed) (n:Nat) (hl:l.length ≤ 4611686018427387000) (hn:endN l n ≤ 4611686018427387000):Evr (fun k=>laws_markNeedS_1.f k l (n:Int)) (((endN l n:Nat):Int),mkNds l n):=by
  have h:=markN_loop l [] n (by simpa using hl) hn
  unfold laws_markNeedS_1.f laws_markNeedS_1.e2
  exact ev_bind _ h ev_some
theorem markG_loop:∀ (l A:List SNeed) (n:Nat),A.length + l.length ≤ 4611686018427387000 → endN l n ≤ 4611686018427387000 → Evr (fun k=>laws_markGlobalS_1.l1 k (A ++ l) (n:Int) (A.length:Int)) (A ++ mkNds l n,((endN l n:Nat):Int))
  | [],A,n,hl,hn=>ev_step _ (fun k=>laws_markGlobalS_1.l1.eq_2 ..) (ev_neg (by simp) ev_some)
  | x :: l,A,n,hl,hn=>by
    rw [List.length_cons] at hl
    have hn':endN l (n + 1 + 1) ≤ 4611686018427387000:=hn
    have hle:=endN_eq l (n + 1 + 1)
    have e1:w64 ((n:Int) + 1) = ((n + 1:Nat):Int):=w64_1 (by omega)
    have e2:w64 (((n + 1:Nat):Int) + 1) = ((n + 1 + 1:Nat):Int):=w64_1 (by omega)
    have e5:w64 ((A.length:Int) + 1) = ((A.length + 1:Nat):Int):=w64_next (by omega)
    refine ev_step _ (fun k=>laws_markGlobalS_1.l1.eq_2 ..) (ev_pos (by simp; omega) (ev_bind _ (mT_ev (by omega)) (ev_bind _ (ev_const (at_mid rfl)) ?_)))
    rw [set_mid rfl]
    refine ev_bind _ (ev_const (at_mid rfl)) ?_
    rw [set_mid rfl,e1,e2,e5]
    have ih:=markG_loop l (A ++ [mkNd n]) (n + 1 + 1) (by simp; omega) hn'
    rw [List.append_assoc,List.append_assoc,List.length_append,List.length_singleton] at ih
    exact ih
theorem markG_ev (l:List SNeed) (n:Nat) (hl:l.length ≤ 4611686018427387000) (hn:endN l n ≤ 4611686018427387000):Evr (fun k=>laws_markGlobalS_1.f k l (n:Int)) (((endN l n:Nat):Int),mkNds l n):=by
  have h:=markG_loop l [] n (by simpa using hl) hn
  unfold laws_markGlobalS_1.f laws_markGlobalS_1.e2
  exact ev_bind _ h ev_some
noncomputable def mkIn (n:Nat):SIns:=⟨(n:Int),((n + 1:Nat):Int),((n + 1 + 1:Nat):Int),mT (n + 1 + 1 + 1),mT (n + 1 + 1 + 1 + 1)⟩
def endS:List SIns → Nat → Nat
  | [],n=>n
  | _ :: l,n=>endS l (n + 1 + 1 + 1 + 1 + 1)
noncomputable def mkIns:List SIns → Nat → List SIns
  | [],_=>[]
  | _ :: l,n=>mkIn n :: mkIns l (n + 1 + 1 + 1 + 1 + 1)
theorem endS_eq:∀ (l:List SIns) (n:Nat),endS l n = n + 5 * l.length
  | [],n=>rfl
  | _ :: l,n=>by
    show endS l (n + 1 + 1 + 1 + 1 + 1) = _
    rw [endS_eq l,List.length_cons]
    omega
theorem markS_loop:∀ (l A:List SIns) (n:Nat),A.length + l.length ≤ 4611686018427387000 → endS l n ≤ 4611686018427387000 → Evr (fun k=>laws_markInsS_1.l1 k (A ++ l) (n:Int) (A.length:Int)) (A ++ mkIns l n,((endS l n:Nat):Int))
  | [],A,n,hl,hn=>ev_step _ (fun k=>laws_markInsS_1.l1.eq_2 ..) (ev_neg (by simp) ev_some)
  | x :: l,A,n,hl,hn=>by
    rw [List.length_cons] at hl
    have hn':endS l (n + 1 + 1 + 1 + 1 + 1) ≤ 4611686018427387000:=hn
    have hle:=endS_eq l (n + 1 + 1 + 1 + 1 + 1)
    have e1:w64 ((n:Int) + 1) = ((n + 1:Nat):Int):=w64_1 (by omega)
    have e2:w64 (((n + 1:Nat):Int) + 1) = ((n + 1 + 1:Nat):Int):=w64_1 (by omega)
    have e3:w64 (((n + 1 + 1:Nat):Int) + 1) = ((n + 1 + 1 + 1:Nat):Int):=w64_1 (by omega)
    have e4:w64 (((n + 1 + 1 + 1:Nat):Int) + 1) = ((n + 1 + 1 + 1 + 1:Nat):Int):=w64_1 (by omega)
    have e6:w64 (((n + 1 + 1 + 1 + 1:Nat):Int) + 1) = ((n + 1 + 1 + 1 + 1 + 1:Nat):Int):=w64_1 (by omega)
    have e5:w64 ((A.length:Int) + 1) = ((A.length + 1:Nat):Int):=w64_next (by omega)
    refine ev_step _ (fun k=>laws_markInsS_1.l1.eq_2 ..) (ev_pos (by simp; omega) (ev_bind _ (ev_const (at_mid rfl)) ?_))
    rw [set_mid rfl]
    refine ev_bind _ (ev_const (at_mid rfl)) ?_
    rw [set_mid rfl]
    refine ev_bind _ (ev_const (at_mid rfl)) ?_
    rw [set_mid rfl,e1,e2,e3,e4,e6,e5]
    refine ev_bind _ (mT_ev (by omega)) (ev_bind _ (ev_const (at_mid rfl)) ?_)
    rw [set_mid rfl]
    refine ev_bind _ (mT_ev (by omega)) (ev_bind _ (ev_const (at_mid rfl)) ?_)
    rw [set_mid rfl]
    have ih:=markS_loop l (A ++ [mkIn n]) (n + 1 + 1 + 1 + 1 + 1) (by simp; omega) hn'
    rw [List.append_assoc,List.append_assoc,List.length_append,List.length_singleton] at ih
    exact ih
theorem markS_ev (l:List SIns) (n:Nat) (hl:l.length ≤ 4611686018427387000) (hn:endS l n ≤ 4611686018427387000):Evr (fun k=>laws_markInsS_1.f k l (n:Int)) (((endS l n:Nat):Int),mkIns l n):=by
  have h:=markS_loop l [] n (by simpa using hl) hn
  unfold laws_markInsS_1.f laws_markInsS_1.e2
  exact ev_bind _ h ev_some
noncomputable def mkCo (n:Nat) (l:List SIns):SCode:=⟨mT n,((n + 1:Nat):Int),((n + 1 + 1:Nat):Int),((n + 1 + 1 + 1:Nat):Int),mkIns l (n + 1 + 1 + 1 + 1)⟩
def endC:List SCode → Nat → Nat
  | [],n=>n
  | c :: l,n=>endC l (endS c.f4 (n + 1 + 1 + 1 + 1))
noncomputable def mkCs:List SCode → Nat → List SCode
  | [],_=>[]
  | c :: l,n=>mkCo n c.f4 :: mkCs l (endS c.f4 (n + 1 + 1 + 1 + 1))
theorem endC_le:∀ (l:List SCode) (n:Nat),n ≤ endC l n
  | [],n=>Nat.le_refl _
  | c :: l,n=>Nat.le_trans (by rw [endS_eq]; omega) (endC_le l _)
theorem endC_max {M:Nat}:∀ (l:List SCode) (n:Nat),(∀ c ∈ l,c.f4.length ≤ M) → endC l n ≤ n + (4 + 5 * M) * l.length
  | [],n,_=>Nat.le_refl _
  | c :: l,n,h=>by
    have h1:=h c (List.mem_cons_self ..)
    have h2:=endC_max l (endS c.f4 (n + 1 + 1 + 1 + 1)) fun y hy=>h y (List.mem_cons_of_mem _ hy)
    have h3:=endS_eq c.f4 (n + 1 + 1 + 1 + 1)
    show endC l _ ≤ _
    rw [List.length_cons,Nat.mul_succ]
    omega
theorem markC_loop:∀ (l A:List SCode) (n:Nat),A.length + l.length ≤ 4611686018427387000 → endC l n ≤ 4611686018427387000 → (∀ c ∈ l,c.f4.length ≤ 4611686018427387000) → Evr (fun k=>mkC.l1 k (A ++ l) (n:Int) (A.length:Int)) (A ++ mkCs l n,((endC l n:Nat):Int))
  | [],A,n,hl,hn,_=>ev_step _ (fun k=>mkC.l1.eq_2 ..) (ev_neg (by simp) ev_some)
  | c :: l,A,n,hl,hn,hc=>by
    rw [List.length_cons] at hl
    have hn':endC l (endS c.f4 (n + 1 + 1 + 1 + 1)) ≤ 4611686018427387000:=hn
    have hle:=endC_le l (endS c.f4 (n + 1 + 1 + 1 + 1))
    have hs:=endS_eq c.f4 (n + 1 + 1 + 1 + 1)
    have e1:w64 ((n:Int) + 1) = ((n + 1:Nat):Int):=w64_1 (by omega)
    have e2:w64 (((n + 1:Nat):Int) + 1) = ((n + 1 + 1:Nat):Int):=w64_1 (by omega)
    have e3:w64 (((n + 1 + 1:Nat):Int) + 1) = ((n + 1 + 1 + 1:Nat):Int):=w64_1 (by omega)
    have e4:w64 (((n + 1 + 1 + 1:Nat):Int) + 1) = ((n + 1 + 1 + 1 + 1:Nat):Int):=w64_1 (by omega)
    have e5:w64 ((A.length:Int) + 1) = ((A.length + 1:Nat):Int):=w64_next (by omega)
    refine ev_step _ (fun k=>mkC.l1.eq_2 ..) (ev_pos (by simp; omega) (ev_bind _ (ev_const (at_mid rfl)) (ev_bind _ (mT_ev (by omega)) ?_)))
    rw [e1,e2,e3,e4,e5]
    refine ev_bind _ (markS_ev _ _ (hc _ (List.mem_cons_self ..)) (by omega)) ?_
    rw [set_mid rfl]
    have ih:=markC_loop l (A ++ [mkCo n c.f4]) (endS c.f4 (n + 1 + 1 + 1 + 1)) (by simp; omega) hn' fun y hy=>hc y (List.mem_cons_of_mem _ hy)
    rw [List.append_assoc,List.append_assoc,List.length_append,List.length_singleton] at ih
    exact ih
end Go.Proofs.YtoclajfeeebbbadGreatDoor.E
namespace Go.Proofs.YtoclajfeeebbbadGreatDoor.E
theorem heldN_loop:∀ (l A:List SNeed) (n:Nat),A.length + l.length ≤ 4611686018427387000 → endN l n ≤ 4611686018427387000 → Evr (fun k=>laws_heldNeedS.l1 k (A ++ mkNds l n) (n:Int) (A.length:Int)) (.inr ((endN l n:Nat):Int))
  | [],A,n,hl,hn=>ev_step _ (fun k=>laws_heldNeedS.l1.eq_2 ..) (ev_neg (by simp [mkNds]) ev_some)
  | x :: l,A,n,hl,hn=>by
    rw [List.length_cons] at hl
    have hn':endN l (n + 1 + 1) ≤ 4611686018427387000:=hn
    have hle:=endN_eq l (n + 1 + 1)
    have e1:w64 ((n:Int) + 1) = ((n + 1:Nat):Int):=w64_1 (by omega)
    have e2:w64 (((n + 1:Nat):Int) + 1) = ((n + 1 + 1:Nat):Int):=w64_1 (by omega)
    have e5:w64 ((A.length:Int) + 1) = ((A.length + 1:Nat):Int):=w64_next (by omega)
    show Evr (fun k=>laws_heldNeedS.l1 k (A ++ mkNd n :: mkNds l (n + 1 + 1)) (n:Int) (A.length:Int)) _
    refine ev_step _ (fun k=>laws_heldNeedS.l1.eq_2 ..) (ev_pos (by simp; omega) (ev_bind _ (ev_const (at_mid rfl)) ?_))
    rw [e1,e2,e5]
    refine ev_bind _ (mT_ev (by omega)) (ev_pos rfl (ev_pos rfl ?_))
    have ih:=heldN_loop l (A ++ [mkNd n]) (n + 1 + 1) (by simp; omega) hn'
    rw [List.append_assoc,List.length_append,List.length_singleton] at ih
    exact ih
theorem heldN_ev (l:List SNeed) (n:Nat) (hl:l.length ≤ 4611686018427387000) (hn:endN l n ≤ 4611686018427387000):Evr (fun k=>laws_heldNeedS.f k (mkNds l n) (n:Int)) ((endN l n:Nat):Int):=by
  have h:=heldN_loop l [] n (by simpa using hl) hn
  unfold laws_heldNeedS.f laws_heldNeedS.e2
  exact ev_bind _ h ev_some
theorem heldG_loop:∀ (l A:List SNeed) (n:Nat),A.length + l.length ≤ 4611686018427387000 → endN l n ≤ 4611686018427387000 → Evr (fun k=>laws_heldGlobalS.l1 k (A ++ mkNds l n) (n:Int) (A.length:Int)) (.inr ((endN l n:Nat):Int))
  | [],A,n,hl,hn=>ev_step _ (fun k=>laws_heldGlobalS.l1.eq_2 ..) (ev_neg (by simp [mkNds]) ev_some)
  | x :: l,A,n,hl,hn=>by
    rw [List.length_cons] at hl
    have hn':endN l (n + 1 + 1) ≤ 4611686018427387000:=hn
    have hle:=endN_eq l (n + 1 + 1)
    have e1:w64 ((n:Int) + 1) = ((n + 1:Nat):Int):=w64_1 (by omega)
    have e2:w64 (((n + 1:Nat):Int) + 1) = ((n + 1 + 1:Nat):Int):=w64_1 (by omega)
    have e5:w64 ((A.length:Int) + 1) = ((A.length + 1:Nat):Int):=w64_next (by omega)
    show Evr (fun k=>laws_heldGlobalS.l1 k (A ++ mkNd n :: mkNds l (n + 1 + 1)) (n:Int) (A.length:Int)) _
    refine ev_step _ (fun k=>laws_heldGlobalS.l1.eq_2 ..) (ev_pos (by simp; omega) (ev_bind _ (ev_const (at_mid rfl)) ?_))
    rw [e1,e2,e5]
    refine ev_bind _ (mT_ev (by omega)) (ev_pos rfl (ev_pos rfl ?_))
    have ih:=heldG_loop l (A ++ [mkNd n]) (n + 1 + 1) (by simp; omega) hn'
    rw [List.append_assoc,List.length_append,List.length_singleton] at ih
    exact ih
theorem heldG_ev (l:List SNeed) (n:Nat) (hl:l.length ≤ 4611686018427387000) (hn:endN l n ≤ 4611686018427387000):Evr (fun k=>laws_heldGlobalS.f k (mkNds l n) (n:Int)) ((endN l n:Nat):Int):=by
  have h:=heldG_loop l [] n (by simpa using hl) hn
  unfold laws_heldGlobalS.f laws_heldGlobalS.e2
  exact ev_bind _ h ev_some
theorem heldS_loop:∀ (l A:List SIns) (n:Nat),A.length + l.length ≤ 4611686018427387000 → endS l n ≤ 4611686018427387000 → Evr (fun k=>laws_heldInsS.l1 k (A ++ mkIns l n) (n:Int) (A.length:Int)) (.inr ((endS l n:Nat):Int))
  | [],A,n,hl,hn=>ev_step _ (fun k=>laws_heldInsS.l1.eq_2 ..) (ev_neg (by simp [mkIns]) ev_some)
  | x :: l,A,n,hl,hn=>by
    rw [List.length_cons] at hl
    have hn':endS l (n + 1 + 1 + 1 + 1 + 1) ≤ 4611686018427387000:=hn
    have hle:=endS_eq l (n + 1 + 1 + 1 + 1 + 1)
    have e1:w64 ((n:Int) + 1) = ((n + 1:Nat):Int):=w64_1 (by omega)
    have e2:w64 (((n + 1:Nat):Int) + 1) = ((n + 1 + 1:Nat):Int):=w64_1 (by omega)
    have e3:w64 (((n + 1 + 1:Nat):Int) + 1) = ((n + 1 + 1 + 1:Nat):Int):=w64_1 (by omega)
    have e4:w64 (((n + 1 + 1 + 1:Nat):Int) + 1) = ((n + 1 + 1 + 1 + 1:Nat):Int):=w64_1 (by omega)
    have e6:w64 (((n + 1 + 1 + 1 + 1:Nat):Int) + 1) = ((n + 1 + 1 + 1 + 1 + 1:Nat):Int):=w64_1 (by omega)
    have e5:w64 ((A.length:Int) + 1) = ((A.length + 1:Nat):Int):=w64_next (by omega)
    show Evr (fun k=>laws_heldInsS.l1 k (A ++ mkIn n :: mkIns l (n + 1 + 1 + 1 + 1 + 1)) (n:Int) (A.length:Int)) _
    refine ev_step _ (fun k=>laws_heldInsS.l1.eq_2 ..) (ev_pos (by simp; omega) (ev_bind _ (ev_const (at_mid rfl)) ?_))
    rw [e1,e2,e3,e4,e6,e5]
    refine ev_pos rfl (ev_pos rfl (ev_pos rfl (ev_bind _ (mT_ev (by omega)) (ev_pos rfl (ev_bind _ (mT_ev (by omega)) (ev_pos rfl ?_))))))
    have ih:=heldS_loop l (A ++ [mkIn n]) (n + 1 + 1 + 1 + 1 + 1) (by simp; omega) hn'
    rw [List.append_assoc,List.length_append,List.length_singleton] at ih
    exact ih
theorem heldS_ev (l:List SIns) (n:Nat) (hl:l.length ≤ 4611686018427387000) (hn:endS l n ≤ 4611686018427387000):Evr (fun k=>laws_heldInsS.f k (mkIns l n) (n:Int)) ((endS l n:Nat):Int):=by
  have h:=heldS_loop l [] n (by simpa using hl) hn
  unfold laws_heldInsS.f laws_heldInsS.e2
  exact ev_bind _ h ev_some
theorem heldC_loop:∀ (l A:List SCode) (n:Nat),A.length + l.length ≤ 4611686018427387000 → endC l n ≤ 4611686018427387000 → (∀ c ∈ l,c.f4.length ≤ 4611686018427387000) → Evr (fun k=>laws_heldCodeS.l1 k (A ++ mkCs l n) (n:Int) (A.length:Int)) (.inr ((endC l n:Nat):Int))
  | [],A,n,hl,hn,_=>ev_step _ (fun k=>laws_heldCodeS.l1.eq_2 ..) (ev_neg (by simp [mkCs]) ev_some)
  | c :: l,A,n,hl,hn,hc=>by
    rw [List.length_cons] at hl
    have hn':endC l (endS c.f4 (n + 1 + 1 + 1 + 1)) ≤ 4611686018427387000:=hn
    have hle:=endC_le l (endS c.f4 (n + 1 + 1 + 1 + 1))
    have hs:=endS_eq c.f4 (n + 1 + 1 + 1 + 1)
    have e1:w64 ((n:Int) + 1) = ((n + 1:Nat):Int):=w64_1 (by omega)
    have e2:w64 (((n + 1:Nat):Int) + 1) = ((n + 1 + 1:Nat):Int):=w64_1 (by omega)
    have e3:w64 (((n + 1 + 1:Nat):Int) + 1) = ((n + 1 + 1 + 1:Nat):Int):=w64_1 (by omega)
    have e4:w64 (((n + 1 + 1 + 1:Nat):Int) + 1) = ((n + 1 + 1 + 1 + 1:Nat):Int):=w64_1 (by omega)
    have e5:w64 ((A.length:Int) + 1) = ((A.length + 1:Nat):Int):=w64_next (by omega)
    show Evr (fun k=>laws_heldCodeS.l1 k (A ++ mkCo n c.f4 :: mkCs l (endS c.f4 (n + 1 + 1 + 1 + 1))) (n:Int) (A.length:Int)) _
    refine ev_step _ (fun k=>laws_heldCodeS.l1.eq_2 ..) (ev_pos (by simp; omega) (ev_bind _ (ev_const (at_mid rfl)) ?_))
    rw [e1,e2,e3,e4,e5]
    refine ev_bind _ (mT_ev (by omega)) (ev_pos rfl (ev_pos rfl (ev_pos rfl (ev_pos rfl (ev_bind _ (heldS_ev _ _ (hc _ (List.mem_cons_self ..)) (by omega)) (ev_neg (by omega) ?_))))))
    have ih:=heldC_loop l (A ++ [mkCo n c.f4]) (endS c.f4 (n + 1 + 1 + 1 + 1)) (by simp; omega) hn' fun y hy=>hc y (List.mem_cons_of_mem _ hy)
    rw [List.append_assoc,List.length_append,List.length_singleton] at ih
    exact ih
end Go.Proofs.YtoclajfeeebbbadGreatDoor.E
