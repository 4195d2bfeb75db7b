/- Print: the whole text. -/
import Derived.Test.YtaelpeekimbmcaaGreatDoorPlPr6FnExactPrint
set_option linter.unusedVariables false
set_option linter.unusedSimpArgs false
namespace Go.Proofs.YtaelpeekimbmcaaGreatDoor.T
open Go.RowKit Go.Proofs.YtaelpeekimbmcaaGreatDoor.E Go.Proofs.YtaelpeekimbmcaaGreatDoor.V
theorem uMo:(⟨#[77,79,68,85,76,69,32]⟩:ByteArray).size = 7:=rfl
theorem uIm:(⟨#[73,77,80,79,82,84,32]⟩:ByteArray).size = 7:=rfl
theorem uCo:(⟨#[67,79,78,83,84]⟩:ByteArray).size = 5:=rfl
theorem uVa:(⟨#[86,65,82]⟩:ByteArray).size = 3:=rfl
/-! All of them are bytes. -/
def InR (l:List Int):Prop:=∀ v,v ∈ l → 0 ≤ v ∧ v < 256
theorem inR_nil:InR []:=fun v hv=>by cases hv
theorem inR_app {a b:List Int} (ha:InR a) (hb:InR b):InR (a ++ b):=fun v hv=>by
  rcases List.mem_append.1 hv with h | h
  · exact ha v h
  · exact hb v h
theorem inR_ite {c:Prop} [Decidable c] {a b:List Int} (ha:InR a) (hb:InR b):InR (if c then a else b):=by
  split
  · exact ha
  · exact hb
theorem Ln_inR (d:Nat) (t:ByteArray):InR (Ln d t):=by
  unfold Ln
  refine inR_app (fun v hv=>?_) (inR_app (fun v hv=>?_) (fun v hv=>?_))
  · have:=(List.mem_replicate.1 hv).2; omega
  · exact G.bytesOf_ok t v hv
  · have:=List.mem_singleton.1 hv; omega
theorem GF_inR (d:Nat):∀ l:List ByteArray,InR (GF d l)
  | []=>inR_nil
  | t :: r=>by rw [GF]; exact inR_app (Ln_inR d t) (GF_inR d r)
theorem GR_inR (w:ByteArray) (d:Nat) (f:Bool) (l:List ByteArray):InR (GR w d f l):=by
  unfold GR
  exact inR_app (inR_ite (Ln_inR _ _) inR_nil) (GF_inR _ _)
theorem stm_inR (x:SNode) (e:ByteArray) (d:Nat) (kb:List (List Int)) (hk:∀ i,InR (kb.getD i [])):InR (stm x e d kb):=by
  unfold stm
  repeat' first | exact Ln_inR _ _ | exact hk _ | exact inR_nil | apply inR_app | apply inR_ite
theorem blk_inR:∀ (n:Nat) (x:SNode),wtV x ≤ n → ∀ d,InR (BV x d) ∧ ∀ more,InR (SV x more d)
  | 0,x,h,d=>by have:=wtV_eq x; omega
  | n + 1,x,h,d=>by
    have hx:=wtV_eq x
    constructor
    · rw [BV_eq]
      have main:∀ l:List SNode,(∀ y,y ∈ l → y ∈ x.f4) → InR (BL l d):=by
        intro l
        induction l with
        | nil=>intro _; rw [BL]; exact inR_nil
        | cons y l ih =>
          intro hl
          have hy:=wtL_mem (hl y (List.mem_cons_self ..))
          rw [BL]
          exact inR_app ((blk_inR n y (by omega) d).2 _) (ih fun z hz=>hl z (List.mem_cons_of_mem _ hz))
      exact main _ fun y hy=>hy
    · intro more
      rw [SV_eq]
      refine stm_inR x _ d _ fun i=>?_
      rw [KV_map,List.getD_eq_getElem?_getD]
      cases h:(x.f4.map fun y=>BV y (d + 1))[i]? with
      | none=>exact inR_nil
      | some L =>
        obtain ⟨y,hy,rfl⟩:=List.mem_map.1 (List.mem_of_getElem? h)
        have:=wtL_mem hy
        exact (blk_inR n y (by omega) (d + 1)).1
theorem BDL_inR (z:SNode) (d:Nat):InR (BDL z d):=by
  unfold BDL
  exact inR_ite inR_nil (inR_app (Ln_inR _ _) (blk_inR _ z (Nat.le_refl _) _).1)
theorem PV_inR (y z:SNode) (d:Nat):InR (PV y z d):=by
  unfold PV
  exact inR_app (inR_app (inR_app (Ln_inR _ _) (GR_inR _ _ _ _)) (BDL_inR _ _)) (Ln_inR _ _)
/-! Imports, constants, procedures. -/
theorem J_ne {s:ByteArray} {l:List ByteArray} (h:∀ t,t ∈ l → 1 ≤ t.size) (hl:l ≠ []):J s true l ≠ ⟨#[]⟩:=by
  cases l with
  | nil=>exact absurd rfl hl
  | cons t r =>
    intro h9
    have h2:=congrArg ByteArray.size h9
    have h1:=h t (List.mem_cons_self ..)
    rw [J,if_pos rfl,ByteArray.size_append] at h2
    have:(⟨#[]⟩:ByteArray).size = 0:=rfl
    omega
theorem lnT2 (y:SNode):lnT 2 y = y.f2:=by unfold lnT; rw [if_neg (by decide),if_neg (by decide)]
theorem simp_run (x : SNode) (hn : x.f4.length ≤ 1048576) (K : Nat) (hK : ∀ y, y ∈ x.f4 → ∀ k, K ≤ k → KF y k) :
    ∀ (m i k:Nat) (z:ByteArray),i + m = x.f4.length → K + m + 1 ≤ k → z.size ≤ 1000 + 100 * i → spec_l02Print.l3 k x z (i:Int) = some (z ++ J (⟨#[44,32]⟩:ByteArray) (decide (z = ⟨#[]⟩)) (lns 2 (x.f4.drop i))):=by
  intro m
  induction m with
  | zero =>
    intro i k z hi hk hz
    obtain ⟨k,rfl⟩:∃ j,k = j + 1:=⟨k - 1,by omega⟩
    rw [spec_l02Print.l3.eq_2,if_neg (by omega),List.drop_eq_nil_of_le (by omega)]
    show _ = some (z ++ J (⟨#[44,32]⟩:ByteArray) _ [])
    rw [J,app_nil]
  | succ m ih =>
    intro i k z hi hk hz
    obtain ⟨k,rfl⟩:∃ j,k = j + 1:=⟨k - 1,by omega⟩
    have hlt:i < x.f4.length:=by omega
    have hkf:=hK _ (List.getElem_mem hlt) k (by omega)
    rw [spec_l02Print.l3.eq_2,if_pos (by omega),lns_cons hlt,lnT2]
    unfold spec_l02Print.e2
    rw [at?_nat hlt,Option.bind_some]
    generalize x.f4[i] = y at hkf
    by_cases h2:y.f0 = 2
    · have hn2:=hkf.2.2.2.1 (by omega)
      rw [if_pos h2,if_pos h2,J]
      obtain ⟨zn,hzn⟩:∃ zn,zn = if decide (z = ⟨#[]⟩) = true then z else z ++ (⟨#[44,32]⟩:ByteArray):=⟨_,rfl⟩
      have hzs:zn.size ≤ z.size + 2:=by
        rw [hzn]
        split
        · omega
        · exact (by first | omega | (simp only [ByteArray.size_append,z40,z41,z32,z46,z59,z42,uMo,uIm,wEn,z44,uCo,uVa] at *; omega))
      have e1:spec_l02Print.e1 k z = some zn:=by
        unfold spec_l02Print.e1
        rw [hzn]
        by_cases h0:z = ⟨#[]⟩
        · rw [if_pos h0,if_pos (decide_eq_true h0)]
        · rw [if_neg h0,if_neg (show ¬ decide (z = ⟨#[]⟩) = true by simp [h0]),if_pos (by first | omega | (simp only [ByteArray.size_append,z40,z41,z32,z46,z59,z42,uMo,uIm,wEn,z44,uCo,uVa] at *; omega))]
      rw [e1,Option.bind_some,if_pos (by first | omega | (simp only [ByteArray.size_append,z40,z41,z32,z46,z59,z42,uMo,uIm,wEn,z44,uCo,uVa] at *; omega)),Option.bind_some,w64_next (by omega),ih (i + 1) k _ (by omega) (by omega) (by rw [ByteArray.size_append]; omega)]
      have hne:¬ zn ++ y.f2 = ⟨#[]⟩:=fun h9=>by
        have h8:=congrArg ByteArray.size h9
        rw [ByteArray.size_append] at h8
        have:(⟨#[]⟩:ByteArray).size = 0:=rfl
        omega
      rw [decide_eq_false hne,hzn]
      by_cases h0:z = ⟨#[]⟩
      · rw [if_pos (decide_eq_true h0),if_pos (decide_eq_true h0),app_as]
      · rw [if_neg (show ¬ decide (z = ⟨#[]⟩) = true by simp [h0]),if_neg (show ¬ decide (z = ⟨#[]⟩) = true by simp [h0])]
        simp only [app_as]
    · rw [if_neg h2,if_neg h2,Option.bind_some,w64_next (by omega),ih (i + 1) k _ (by omega) (by omega) (by omega)]
theorem scon_run (x : SNode) (hn : x.f4.length ≤ 2000) (hw : wtL x.f4 ≤ 2000) (K : Nat) (h2 : 2002 ≤ K) (hK : ∀ y, y ∈ x.f4 → ∀ k, K ≤ k → KF y k) :
    ∀ (m i k:Nat) (f:Bool) (out:List Int),i + m = x.f4.length → K + m + 1 ≤ k → out.length + 1000000000 + 2000000 * m ≤ Bg → spec_l02Print.l8 k x (!f) (i:Int) out = some (out ++ GR (⟨#[67,79,78,83,84]⟩:ByteArray) 0 f (lns 3 (x.f4.drop i))):=by
  intro m
  induction m with
  | zero =>
    intro i k f out hi hk ho
    obtain ⟨k,rfl⟩:∃ j,k = j + 1:=⟨k - 1,by omega⟩
    rw [spec_l02Print.l8.eq_2,if_neg (by omega),List.drop_eq_nil_of_le (by omega)]
    simp [lns,GR,GF]
  | succ m ih =>
    intro i k f out hi hk ho
    obtain ⟨k,rfl⟩:∃ j,k = j + 1:=⟨k - 1,by omega⟩
    have hlt:i < x.f4.length:=by omega
    have hmem:=List.getElem_mem hlt
    have hwy:=wtL_mem hmem
    have hkf:=hK _ hmem k (by omega)
    unfold Bg at ho
    have hLv:=Ln_len 0 (⟨#[67,79,78,83,84]⟩:ByteArray)
    rw [uCo] at hLv
    rw [spec_l02Print.l8.eq_2,if_pos (by omega),lns_cons hlt]
    unfold spec_l02Print.e7
    rw [at?_nat hlt,Option.bind_some]
    by_cases h0:x.f4[i].f0 = 3
    · have hz:=lnT_size hkf h0 (.inr (.inl rfl))
      have hL:=Ln_len (0 + 1) (lnT 3 x.f4[i])
      rw [if_pos h0,if_pos h0,GR_cons]
      obtain ⟨o2,ho2⟩:∃ o2,o2 = out ++ (if f = true then Ln 0 (⟨#[67,79,78,83,84]⟩:ByteArray) else []):=⟨_,rfl⟩
      have e1:spec_l02Print.e6 k (!f) out = some (true,o2):=by
        unfold spec_l02Print.e6
        rw [ho2]
        cases f
        · rw [if_pos (show (!false) = true from rfl),if_neg (by simp),List.append_nil]; rfl
        · have h:=sline (k:=k) (t:=(⟨#[67,79,78,83,84]⟩:ByteArray)) (out:=out) (d:=0) (by omega) (by decide) (by omega) (by omega)
          rw [Int.natCast_zero] at h
          rw [if_neg (by simp),if_pos rfl,h,Option.bind_some]
      have ho3:o2.length ≤ out.length + 5000:=by
        rw [ho2,List.length_append]
        split
        · omega
        · simp
      have e3:lnT 3 x.f4[i] = ((star x.f4[i] ++ (⟨#[32,61,32]⟩:ByteArray)) ++ txT (kid x.f4[i] 0)) ++ (⟨#[59]⟩:ByteArray):=by unfold lnT; rw [if_pos rfl]
      generalize x.f4[i] = y at *
      obtain ⟨p3,p4,p6,pn,p7⟩:=hkf
      obtain ⟨q1,q2,q3,q4⟩:=p3 h0
      have hn2:=pn (by omega)
      have hs:=star_size y
      have yy:(⟨#[32,61,32]⟩:ByteArray).size = 3:=rfl
      have y2:(⟨#[32,32]⟩:ByteArray).size = 2:=rfl
      rw [e1,Option.bind_some]
      show Option.bind (Option.bind _ _) _ = _
      rw [sstar k hn2.2,Option.bind_some,if_pos (by first | omega | (simp only [ByteArray.size_append,z40,z41,z32,z46,z59,z42,uMo,uIm,wEn,z44,uCo,uVa] at *; omega)),if_pos (by first | omega | (simp only [ByteArray.size_append,z40,z41,z32,z46,z59,z42,uMo,uIm,wEn,z44,uCo,uVa] at *; omega)),q1,Option.bind_some,q4,Option.bind_some,if_pos (by first | omega | (simp only [ByteArray.size_append,z40,z41,z32,z46,z59,z42,uMo,uIm,wEn,z44,uCo,uVa] at *; omega)),if_pos (by first | omega | (simp only [ByteArray.size_append,z40,z41,z32,z46,z59,z42,uMo,uIm,wEn,z44,uCo,uVa] at *; omega))]
      have e2:((((⟨#[32,32]⟩:ByteArray) ++ star y) ++ (⟨#[32,61,32]⟩:ByteArray)) ++ txT (kid y 0)) ++ (⟨#[59]⟩:ByteArray) = (⟨#[32,32]⟩:ByteArray) ++ lnT 3 y:=by rw [e3]; simp only [app_as]
      have h:=sline (k:=k) (t:=(⟨#[32,32]⟩:ByteArray) ++ lnT 3 y) (out:=o2) (d:=0) (by omega) (by first | omega | (simp only [ByteArray.size_append,z40,z41,z32,z46,z59,z42,uMo,uIm,wEn,z44,uCo,uVa] at *; omega)) (by omega) (by omega)
      rw [Int.natCast_zero,Ln_sp] at h
      rw [e2,h,Option.bind_some,Option.bind_some]
      show spec_l02Print.l8 k x (!false) (w64 ((i:Int) + 1)) _ = _
      rw [w64_next (by omega),ih (i + 1) k false _ (by omega) (by omega) (by unfold Bg; rw [List.length_append]; omega),ho2]
      simp only [List.append_assoc]
    · rw [if_neg h0,if_neg h0,Option.bind_some]
      show spec_l02Print.l8 k x (!f) (w64 ((i:Int) + 1)) _ = _
      rw [w64_next (by omega),ih (i + 1) k f _ (by omega) (by omega) (by unfold Bg; omega)]
def lastK (y:SNode):SNode:=y.f4.getLastD ⟨0,0,⟨#[]⟩,⟨#[]⟩,[]⟩
theorem lastK_eq {y z:SNode} {ini:List SNode} (h:y.f4 = ini ++ [z]):lastK y = z:=by rw [lastK,h]; simp
noncomputable def PVs:List SNode → List Int
  | []=>[]
  | y :: l=>(if y.f0 = 5 then PV y (lastK y) 0 else []) ++ PVs l
theorem PVs_inR:∀ l,InR (PVs l)
  | []=>inR_nil
  | y :: l=>by rw [PVs]; exact inR_app (inR_ite (PV_inR _ _ _) inR_nil) (PVs_inR l)
def PK (y:SNode) (k:Nat):Prop:=y.f0 = 5 → (PV y (lastK y) 0).length ≤ 3000000000 ∧ ∀ out:List Int,out.length ≤ 5000000000000 → impl_printer__proc_2.f k y true out 0 = some (true,out ++ PV y (lastK y) 0,0) ∧ spec_l02Writer__proc_2.f k y ⟨out,0⟩ = some (out ++ PV y (lastK y) 0,0)
theorem pk_ok {y:SNode} (hx:Sm y) (ha:allV y = true) (hw:wtV y ≤ 800):∃ K,∀ k,K ≤ k → PK y k:=by
  by_cases h5:y.f0 = 5
  · obtain ⟨ini,z,hl,K,hK⟩:=proc_ok hx ha h5 hw
    rw [← lastK_eq hl] at hK
    refine ⟨K,fun k hk _=>⟨(hK k hk 0 (by omega) [] (by simp)).2.2,fun out ho=>?_⟩⟩
    have h:=hK k hk 0 (by omega) out ho
    rw [Int.natCast_zero] at h
    exact ⟨h.1,h.2.1⟩
  · exact ⟨0,fun k hk h=>absurd h h5⟩
theorem iprocs_run (x : SNode) (hn : x.f4.length ≤ 800) (K : Nat) (hK : ∀ y, y ∈ x.f4 → ∀ k, K ≤ k → PK y k) :
    ∀ (m i k:Nat) (out:List Int),i + m = x.f4.length → K + m + 1 ≤ k → out.length + 3000000000 * m ≤ 5000000000000 → (PVs (x.f4.drop i)).length ≤ 3000000000 * m ∧ impl_Print.l3 k x (i:Int) true out 0 = some (true,out ++ PVs (x.f4.drop i),0) ∧ spec_l02Print.l11 k x (i:Int) out 0 = some (out ++ PVs (x.f4.drop i),0):=by
  intro m
  induction m with
  | zero =>
    intro i k out hi hk ho
    obtain ⟨k,rfl⟩:∃ j,k = j + 1:=⟨k - 1,by omega⟩
    rw [impl_Print.l3.eq_2,if_neg (by omega),spec_l02Print.l11.eq_2,if_neg (by omega),List.drop_eq_nil_of_le (by omega),PVs,List.append_nil]
    exact ⟨by simp,rfl,rfl⟩
  | succ m ih =>
    intro i k out hi hk ho
    obtain ⟨k,rfl⟩:∃ j,k = j + 1:=⟨k - 1,by omega⟩
    have hlt:i < x.f4.length:=by omega
    have hpk:=hK _ (List.getElem_mem hlt) k (by omega)
    rw [impl_Print.l3.eq_2,if_pos (by omega),spec_l02Print.l11.eq_2,if_pos (by omega),List.drop_eq_getElem_cons hlt,PVs]
    unfold impl_Print.e2 spec_l02Print.e10
    rw [at?_nat hlt,Option.bind_some,Option.bind_some]
    generalize x.f4[i] = y at hpk
    by_cases h5:y.f0 = 5
    · obtain ⟨h1,h2⟩:=hpk h5
      obtain ⟨h3,h4⟩:=h2 out (by omega)
      obtain ⟨g1,g2,g3⟩:=ih (i + 1) k (out ++ PV y (lastK y) 0) (by omega) (by omega) (by rw [List.length_append]; omega)
      rw [if_pos h5,if_pos h5,if_pos h5,h3,h4,Option.bind_some,Option.bind_some,Option.bind_some,Option.bind_some]
      refine ⟨by rw [List.length_append]; omega,?_,?_⟩
      · show impl_Print.l3 k x (w64 ((i:Int) + 1)) true _ 0 = _
        rw [w64_next (by omega),g2,List.append_assoc]
      · show spec_l02Print.l11 k x (w64 ((i:Int) + 1)) _ 0 = _
        rw [w64_next (by omega),g3,List.append_assoc]
    · obtain ⟨g1,g2,g3⟩:=ih (i + 1) k out (by omega) (by omega) (by omega)
      rw [if_neg h5,if_neg h5,if_neg h5,Option.bind_some,Option.bind_some,List.nil_append]
      refine ⟨by omega,?_,?_⟩
      · show impl_Print.l3 k x (w64 ((i:Int) + 1)) true _ 0 = _
        rw [w64_next (by omega),g2]
      · show spec_l02Print.l11 k x (w64 ((i:Int) + 1)) _ 0 = _
        rw [w64_next (by omega),g3]
/-! The whole. -/
noncomputable def IM (l:List ByteArray):List Int:=if l = [] then [] else Ln 0 (((⟨#[73,77,80,79,82,84,32]⟩:ByteArray) ++ J (⟨#[44,32]⟩:ByteArray) true l) ++ (⟨#[59]⟩:ByteArray))
noncomputable def TT (x:SNode):List Int:=(((((Ln 0 (((⟨#[77,79,68,85,76,69,32]⟩:ByteArray) ++ x.f2) ++ (⟨#[59]⟩:ByteArray)) ++ IM (lns 2 x.f4)) ++ GR (⟨#[67,79,78,83,84]⟩:ByteArray) 0 true (lns 3 x.f4)) ++ GR (⟨#[86,65,82]⟩:ByteArray) 0 true (lns 4 x.f4)) ++ PVs x.f4) ++ BDL (lastK x) 0) ++ Ln 0 (((⟨#[69,78,68,32]⟩:ByteArray) ++ x.f2) ++ (⟨#[46]⟩:ByteArray))
theorem TT_inR (x:SNode):InR (TT x):=by
  unfold TT IM
  exact inR_app (inR_app (inR_app (inR_app (inR_app (inR_app (Ln_inR _ _) (inR_ite inR_nil (Ln_inR _ _))) (GR_inR _ _ _ _)) (GR_inR _ _ _ _)) (PVs_inR _)) (BDL_inR _ _)) (Ln_inR _ _)
theorem str_ok (k:Nat) {l:List Int} (h:InR l) (b:Bool) (d:Int):strings_Builder_String_2.f k b l d = some (strOfNums l):=by
  unfold strings_Builder_String_2.f strings_Builder_String.f
  rw [if_pos]
  rw [List.all_eq_true]
  intro v hv
  have:=h v hv
  simp [this]
theorem print_ok {x:SNode} (hx:Sm x) (ha:allV x = true) (h1:x.f0 = 1) (hw:wtV x ≤ 700) (hi:Evr (fun k=>impl_TreeOK.f k x) true):Evr (fun k=>spec_l02Print.f k x) (strOfNums (TT x)) ∧ Evr (fun k=>impl_Print.f k x) (strOfNums (TT x),0):=by
  obtain ⟨hn,hnum,hkb,hall⟩:=all_ok ha
  have hwx:=wtV_eq x
  have hwl:=wtL_len x.f4
  have h2:=(nm_size hn (by omega)).2
  have ho:ordB x.f4 [2,3,4,5] 10 = true:=by
    unfold kidsB at hkb
    rw [h1] at hkb
    exact hkb
  obtain ⟨ini,z,hl,hz⟩:=ord_last 10 x.f4 _ ho
  have mz:z ∈ x.f4:=by rw [hl]; simp
  have hwz:=wt_kid mz
  have hlk:=lastK_eq hl
  cases hx with
  | mk s2 s3 s4 hs =>
  obtain ⟨K0,hK0⟩:=hi
  have hK0:∀ k,K0 ≤ k → impl_TreeOK.f k x = some true:=hK0
  obtain ⟨K1,hK1⟩:=(bk_ok (hs z mz) (hall z mz) (by omega)).1 hz
  obtain ⟨K2,hK2⟩:=unif (Q:=fun k y=>KF y k ∧ PK y k) (l:=x.f4) fun y hy=>by
    obtain ⟨Ka,ha⟩:=kf_ok (hs y hy) (hall y hy) (by have:=wt_kid hy; omega)
    obtain ⟨Kb,hb⟩:=pk_ok (hs y hy) (hall y hy) (by have:=wt_kid hy; omega)
    exact ⟨max Ka Kb,fun k hk=>⟨ha k (by omega),hb k (by omega)⟩⟩
  have hKF:∀ y,y ∈ x.f4 → ∀ k,K2 ≤ k → KF y k:=fun y hy k hk=>(hK2 k hk y hy).1
  have hPK:∀ y,y ∈ x.f4 → ∀ k,K2 ≤ k → PK y k:=fun y hy k hk=>(hK2 k hk y hy).2
  obtain ⟨ia,ib,ic⟩:=lns_mem (a:=2) (.inl rfl) hKF
  obtain ⟨ca,cb,cc⟩:=lns_mem (a:=3) (.inr (.inl rfl)) hKF
  obtain ⟨va,vb,vc⟩:=lns_mem (a:=4) (.inr (.inr rfl)) hKF
  have hJ:=J_size (s:=(⟨#[44,32]⟩:ByteArray)) rfl (lns 2 x.f4) true
  have hne:∀ t,t ∈ lns 2 x.f4 → 1 ≤ t.size:=fun t ht=>by
    obtain ⟨y,hy,rfl⟩:=List.mem_map.1 ht
    have h3:=List.mem_filter.1 hy
    rw [lnT2]
    exact ((hKF y h3.1 K2 (Nat.le_refl _)).2.2.2.1 (.inl (ofB_iff.1 h3.2))).1
  -- The text up to each part.
  obtain ⟨oA,hA⟩:∃ oA,oA = Ln 0 (((⟨#[77,79,68,85,76,69,32]⟩:ByteArray) ++ x.f2) ++ (⟨#[59]⟩:ByteArray)):=⟨_,rfl⟩
  have lA:oA.length ≤ 100:=by
    have h:=Ln_len 0 (((⟨#[77,79,68,85,76,69,32]⟩:ByteArray) ++ x.f2) ++ (⟨#[59]⟩:ByteArray))
    simp only [ByteArray.size_append,uMo,z59] at h
    rw [hA]; omega
  obtain ⟨oB,hB⟩:∃ oB,oB = oA ++ IM (lns 2 x.f4):=⟨_,rfl⟩
  have lB:oB.length ≤ 1000000:=by
    rw [hB,List.length_append]
    unfold IM
    split
    · simp only [List.length_nil]; omega
    · have h:=Ln_len 0 (((⟨#[73,77,80,79,82,84,32]⟩:ByteArray) ++ J (⟨#[44,32]⟩:ByteArray) true (lns 2 x.f4)) ++ (⟨#[59]⟩:ByteArray))
      simp only [ByteArray.size_append,uIm,z59] at h
      omega
  obtain ⟨oC,hC⟩:∃ oC,oC = oB ++ GR (⟨#[67,79,78,83,84]⟩:ByteArray) 0 true (lns 3 x.f4):=⟨_,rfl⟩
  have lC:oC.length ≤ 20000000:=by
    have h:=GR_len (⟨#[67,79,78,83,84]⟩:ByteArray) 0 true (lns 3 x.f4) (by omega) (by omega)
    rw [uCo] at h
    rw [hC,List.length_append]; omega
  obtain ⟨oD,hD⟩:∃ oD,oD = oC ++ GR (⟨#[86,65,82]⟩:ByteArray) 0 true (lns 4 x.f4):=⟨_,rfl⟩
  have lD:oD.length ≤ 40000000:=by
    have h:=GR_len (⟨#[86,65,82]⟩:ByteArray) 0 true (lns 4 x.f4) (by omega) (by omega)
    rw [uVa] at h
    rw [hD,List.length_append]; omega
  have hP:=fun k hk=>iprocs_run x (by omega) K2 hPK x.f4.length 0 k oD (by omega) hk (by omega)
  rw [List.drop_zero] at hP
  have lP:=(hP (K2 + x.f4.length + 1) (by omega)).1
  have lE:(oD ++ PVs x.f4).length ≤ 4000000000000:=by rw [List.length_append]; omega
  have hBD:=BDL_len z 0 (by omega)
  have hT:TT x = ((oD ++ PVs x.f4) ++ BDL z 0) ++ Ln 0 (((⟨#[69,78,68,32]⟩:ByteArray) ++ x.f2) ++ (⟨#[46]⟩:ByteArray)):=by rw [TT,hD,hC,hB,hA,hlk]
  have lF:((oD ++ PVs x.f4) ++ BDL z 0).length ≤ 5000000000000:=by rw [List.length_append]; omega
  refine ⟨⟨max (max K1 K2) 2002 + x.f4.length + 2,fun k hk=>?_⟩,⟨max (max K0 (max K1 K2)) 2002 + x.f4.length + 2,fun k hk=>?_⟩⟩
  · show spec_l02Print.f k x = _
    unfold spec_l02Print.f
    have a1:=sline (k:=k) (t:=((⟨#[77,79,68,85,76,69,32]⟩:ByteArray) ++ x.f2) ++ (⟨#[59]⟩:ByteArray)) (out:=[]) (d:=0) (by omega) (by first | omega | (simp only [ByteArray.size_append,z40,z41,z32,z46,z59,z42,uMo,uIm,wEn,z44,uCo,uVa] at *; omega)) (by omega) (by simp)
    rw [Int.natCast_zero,List.nil_append,← hA] at a1
    rw [if_pos (by first | omega | (simp only [ByteArray.size_append,z40,z41,z32,z46,z59,z42,uMo,uIm,wEn,z44,uCo,uVa] at *; omega)),if_pos (by first | omega | (simp only [ByteArray.size_append,z40,z41,z32,z46,z59,z42,uMo,uIm,wEn,z44,uCo,uVa] at *; omega)),a1,Option.bind_some]
    have a2:spec_l02Print.e4 k x = some (J (⟨#[44,32]⟩:ByteArray) true (lns 2 x.f4)):=by
      unfold spec_l02Print.e4
      have h:=simp_run x s4 K2 hKF x.f4.length 0 k ⟨#[]⟩ (by omega) (by omega) (by show (0:Nat) ≤ _; omega)
      rw [List.drop_zero,nil_app] at h
      exact h
    rw [a2,Option.bind_some]
    have a3:spec_l02Print.e5 k oA (J (⟨#[44,32]⟩:ByteArray) true (lns 2 x.f4)) = some oB:=by
      unfold spec_l02Print.e5
      rw [hB]
      unfold IM
      by_cases h0:lns 2 x.f4 = []
      · rw [h0,if_pos (show J (⟨#[44,32]⟩:ByteArray) true [] = ⟨#[]⟩ from rfl),if_pos rfl,List.append_nil]
      · have a4:=sline (k:=k) (t:=((⟨#[73,77,80,79,82,84,32]⟩:ByteArray) ++ J (⟨#[44,32]⟩:ByteArray) true (lns 2 x.f4)) ++ (⟨#[59]⟩:ByteArray)) (out:=oA) (d:=0) (by omega) (by first | omega | (simp only [ByteArray.size_append,z40,z41,z32,z46,z59,z42,uMo,uIm,wEn,z44,uCo,uVa] at *; omega)) (by omega) (by omega)
        rw [Int.natCast_zero] at a4
        rw [if_neg (J_ne hne h0),if_neg h0,if_pos (by first | omega | (simp only [ByteArray.size_append,z40,z41,z32,z46,z59,z42,uMo,uIm,wEn,z44,uCo,uVa] at *; omega)),if_pos (by first | omega | (simp only [ByteArray.size_append,z40,z41,z32,z46,z59,z42,uMo,uIm,wEn,z44,uCo,uVa] at *; omega)),a4,Option.bind_some]
    rw [a3,Option.bind_some]
    have a5:spec_l02Print.e9 k x oB = some oC:=by
      unfold spec_l02Print.e9
      have h:=scon_run x (by omega) (by omega) (max K2 2002) (by omega) (fun y hy k hk=>hKF y hy k (by omega)) x.f4.length 0 k true oB (by omega) (by omega) (by unfold Bg; omega)
      rw [List.drop_zero,← hC] at h
      exact h
    rw [a5,Option.bind_some]
    have a6:=svars (l:=x.f4) (d:=0) (by omega) (by omega) (by omega) (K:=max K2 2002) (by omega) (fun y hy k hk=>hKF y hy k (by omega)) (k:=k) (by omega) (out:=oC) (by omega)
    rw [Int.natCast_zero,← hD] at a6
    rw [a6,Option.bind_some]
    have a7:spec_l02Print.e12 k x oD = some (oD ++ PVs x.f4,0):=by
      unfold spec_l02Print.e12
      exact (hP k (by omega)).2.2
    rw [a7,Option.bind_some]
    show Option.bind _ _ = _
    have a8:=sbody (z:=z) (k:=k) (d:=0) (hK1 k (by omega)).2 (by omega) (by omega) (out:=oD ++ PVs x.f4) (by unfold Bg; omega)
    rw [Int.natCast_zero] at a8
    have a9:=sline (k:=k) (t:=((⟨#[69,78,68,32]⟩:ByteArray) ++ x.f2) ++ (⟨#[46]⟩:ByteArray)) (out:=(oD ++ PVs x.f4) ++ BDL z 0) (d:=0) (by omega) (by first | omega | (simp only [ByteArray.size_append,z40,z41,z32,z46,z59,z42,uMo,uIm,wEn,z44,uCo,uVa] at *; omega)) (by omega) (by omega)
    rw [Int.natCast_zero,← hT] at a9
    rw [last_at hl s4,Option.bind_some,a8,Option.bind_some,if_pos (by first | omega | (simp only [ByteArray.size_append,z40,z41,z32,z46,z59,z42,uMo,uIm,wEn,z44,uCo,uVa] at *; omega)),if_pos (by first | omega | (simp only [ByteArray.size_append,z40,z41,z32,z46,z59,z42,uMo,uIm,wEn,z44,uCo,uVa] at *; omega)),a9,Option.bind_some]
  · show impl_Print.f k x = _
    unfold impl_Print.f
    have a1:=iline k (t:=((⟨#[77,79,68,85,76,69,32]⟩:ByteArray) ++ x.f2) ++ (⟨#[59]⟩:ByteArray)) (b:=false) (out:=[]) (d:=0) (by first | omega | (simp only [ByteArray.size_append,z40,z41,z32,z46,z59,z42,uMo,uIm,wEn,z44,uCo,uVa] at *; omega)) (by omega) (by simp)
    rw [Int.natCast_zero,List.nil_append,← hA] at a1
    rw [hK0 k (by omega),Option.bind_some,if_pos rfl,if_pos (by first | omega | (simp only [ByteArray.size_append,z40,z41,z32,z46,z59,z42,uMo,uIm,wEn,z44,uCo,uVa] at *; omega)),if_pos (by first | omega | (simp only [ByteArray.size_append,z40,z41,z32,z46,z59,z42,uMo,uIm,wEn,z44,uCo,uVa] at *; omega)),a1,Option.bind_some]
    have a3:impl_Print.e1 k x (true,oA) = some (true,oB):=by
      unfold impl_Print.e1
      rw [lines_ok (.inl rfl) s4 (by omega) hKF (by omega),Option.bind_some,hB]
      unfold IM
      by_cases h0:lns 2 x.f4 = []
      · rw [h0,if_neg (by simp),if_pos rfl,List.append_nil]
      · have a4:=iline k (t:=((⟨#[73,77,80,79,82,84,32]⟩:ByteArray) ++ J (⟨#[44,32]⟩:ByteArray) true (lns 2 x.f4)) ++ (⟨#[59]⟩:ByteArray)) (b:=true) (out:=oA) (d:=0) (by first | omega | (simp only [ByteArray.size_append,z40,z41,z32,z46,z59,z42,uMo,uIm,wEn,z44,uCo,uVa] at *; omega)) (by omega) (by omega)
        rw [Int.natCast_zero] at a4
        have hp:=List.length_pos_iff.2 h0
        have hj:strings_Join.f k (lns 2 x.f4) (⟨#[44,32]⟩:ByteArray) = some (J (⟨#[44,32]⟩:ByteArray) true (lns 2 x.f4)):=by
          unfold strings_Join.f
          rw [join_J,if_pos ⟨by omega,by omega⟩]
        rw [if_pos (by omega),if_neg h0,hj,Option.bind_some,if_pos (by first | omega | (simp only [ByteArray.size_append,z40,z41,z32,z46,z59,z42,uMo,uIm,wEn,z44,uCo,uVa] at *; omega)),if_pos (by first | omega | (simp only [ByteArray.size_append,z40,z41,z32,z46,z59,z42,uMo,uIm,wEn,z44,uCo,uVa] at *; omega)),a4,Option.bind_some]
    rw [a3,Option.bind_some]
    show Option.bind _ _ = _
    have a5:=igroup (k:=k) (w:=(⟨#[67,79,78,83,84]⟩:ByteArray)) (by decide) (ls:=lns 3 x.f4) (d:=0) (by omega) (by omega) (fun t ht=>by have:=cb t ht; omega) (by omega) (out:=oB) (by omega)
    rw [Int.natCast_zero,← hC] at a5
    have a6:=igroup (k:=k) (w:=(⟨#[86,65,82]⟩:ByteArray)) (by decide) (ls:=lns 4 x.f4) (d:=0) (by omega) (by omega) (fun t ht=>by have:=vb t ht; omega) (by omega) (out:=oC) (by omega)
    rw [Int.natCast_zero,← hD] at a6
    rw [lines_ok (.inr (.inl rfl)) s4 (by omega) hKF (by omega),Option.bind_some,a5,Option.bind_some,lines_ok (.inr (.inr rfl)) s4 (by omega) hKF (by omega),Option.bind_some,a6,Option.bind_some]
    have a7:impl_Print.e4 k x (true,oD,0) = some (true,oD ++ PVs x.f4,0):=by
      unfold impl_Print.e4
      exact (hP k (by omega)).2.1
    rw [a7,Option.bind_some]
    show Option.bind _ _ = _
    have a8:=ibody hl s4 (e:=(⟨#[46]⟩:ByteArray)) rfl h2 (k:=k) (d:=0) (hK1 k (by omega)).1 (by omega) (out:=oD ++ PVs x.f4) (by unfold Bg; omega)
    rw [Int.natCast_zero,← hT] at a8
    rw [a8,Option.bind_some,str_ok k (TT_inR x),Option.bind_some]
end Go.Proofs.YtaelpeekimbmcaaGreatDoor.T
