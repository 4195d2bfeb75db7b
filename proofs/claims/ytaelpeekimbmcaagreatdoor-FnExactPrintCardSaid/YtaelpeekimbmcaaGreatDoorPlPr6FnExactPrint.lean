/- Print: bodies and procedures. -/
import Derived.Test.YtaelpeekimbmcaaGreatDoorPlPr5FnExactPrint
set_option linter.unusedVariables false
set_option linter.unusedSimpArgs false
namespace Go.Proofs.YtaelpeekimbmcaaGreatDoor.T
open Go.RowKit Go.Proofs.YtaelpeekimbmcaaGreatDoor.E Go.Proofs.YtaelpeekimbmcaaGreatDoor.V
theorem wBe:(⟨#[66,69,71,73,78]⟩:ByteArray).size = 5:=rfl
theorem wEn:(⟨#[69,78,68,32]⟩:ByteArray).size = 4:=rfl
theorem wPr:(⟨#[80,82,79,67,69,68,85,82,69,32]⟩:ByteArray).size = 10:=rfl
/-! Order of kids. -/
theorem ord_last (b:Int):∀ (l:List SNode) (os:List Int),ordB l os b = true → ∃ ini z,l = ini ++ [z] ∧ z.f0 = b
  | [],os,h=>by rw [ordB] at h; cases h
  | x :: xs,os,h=>by
    rw [ordB] at h
    split at h
    · simp only [Bool.and_eq_true,decide_eq_true_eq,List.isEmpty_iff] at h
      exact ⟨[],x,by rw [h.2]; rfl,h.1⟩
    · obtain ⟨ini,z,h1,h2⟩:=ord_last b xs _ h
      exact ⟨x :: ini,z,by rw [h1]; rfl,h2⟩
theorem ord_mem (b:Int):∀ (l:List SNode) (os:List Int),ordB l os b = true → ∀ y,y ∈ l → y.f0 ∈ os ∨ y.f0 = b
  | [],os,h,y,hy=>by cases hy
  | x :: xs,os,h,y,hy=>by
    rw [ordB] at h
    split at h
    · simp only [Bool.and_eq_true,decide_eq_true_eq,List.isEmpty_iff] at h
      rw [h.2] at hy
      simp only [List.mem_singleton] at hy
      subst hy
      exact .inr h.1
    · rename_i o os' he
      have hsub:∀ o',o' ∈ o :: os' → o' ∈ os:=fun o' h'=>(List.dropWhile_sublist _).subset (by rw [he]; exact h')
      rcases List.mem_cons.1 hy with rfl | hy
      · have hne:os.dropWhile (fun o=>!decide (o = y.f0)) ≠ []:=by rw [he]; simp
        have:=List.head_dropWhile_not (fun o=>!decide (o = y.f0)) hne
        simp only [he,List.head_cons,Bool.not_eq_false',decide_eq_true_eq] at this
        rw [← this]
        exact .inl (hsub o (List.mem_cons_self ..))
      · rcases ord_mem b xs _ h y hy with h1 | h1
        · exact .inl (hsub _ h1)
        · exact .inr h1
theorem ord_six:∀ (l:List SNode),ordB l [6,7,4] 10 = true → ∀ i (h:i < l.length),l[i].f0 ≠ 6 → ∀ y,y ∈ l.drop (i + 1) → y.f0 ≠ 6
  | [],h,i,hi=>by cases hi
  | x :: xs,h,i,hi=>by
    rw [ordB] at h
    by_cases h6:x.f0 = 6
    · rw [show ([6,7,4]:List Int).dropWhile (fun o=>!decide (o = x.f0)) = [6,7,4] by rw [h6]; rfl] at h
      cases i with
      | zero=>intro hn; exact absurd h6 hn
      | succ i=>intro hn y hy; exact ord_six xs h i (by simpa using hi) hn y hy
    · intro _ y hy h9
      have hy2:y ∈ xs:=List.mem_of_mem_drop (by simpa using hy)
      rw [show ([6,7,4]:List Int).dropWhile (fun o=>!decide (o = x.f0)) = ([7,4]:List Int).dropWhile (fun o=>!decide (o = x.f0)) by rw [List.dropWhile_cons,if_pos (by simp; omega)]] at h
      split at h
      · simp only [Bool.and_eq_true,decide_eq_true_eq,List.isEmpty_iff] at h
        rw [h.2] at hy2; cases hy2
      · rename_i o os' he
        have hsub:∀ o',o' ∈ o :: os' → o' ∈ ([7,4]:List Int):=fun o' h'=>(List.dropWhile_sublist _).subset (by rw [he]; exact h')
        rcases ord_mem 10 xs _ h y hy2 with h1 | h1
        · have:=hsub _ h1
          rw [h9] at this
          revert this; decide
        · omega
theorem last_at {l ini:List SNode} {z:SNode} (h:l = ini ++ [z]) (hn:l.length ≤ 1048576):at? l (w64 ((l.length:Int) - 1)) = some z:=by
  have hl:l.length = ini.length + 1:=by rw [h,List.length_append]; rfl
  rw [w64_id (by omega) (by omega),show (l.length:Int) - 1 = (ini.length:Int) by omega,at?_nat (by omega)]
  congr 1
  subst h
  simp
/-! Bodies. -/
noncomputable def BDL (z:SNode) (d:Nat):List Int:=if z.f4.isEmpty = true then [] else Ln d (⟨#[66,69,71,73,78]⟩:ByteArray) ++ BV z (d + 1)
theorem BDL_len (z:SNode) (d:Nat) (hd:d + 1 + wtV z ≤ 2000):(BDL z d).length ≤ 2000000 * wtV z:=by
  have hz:=wtV_eq z
  have h:=(len_ok _ z (Nat.le_refl _) (d + 1) (by omega)).1
  have hL:=Ln_len d (⟨#[66,69,71,73,78]⟩:ByteArray)
  rw [wBe] at hL
  unfold BDL
  split
  · simp
  · rw [List.length_append]; omega
theorem sbody {z:SNode} {k d:Nat} (hb:BkS z k) (hk:2002 ≤ k) (hd:d + 1 + wtV z ≤ 2000) {out:List Int} (ho:out.length + 2000000 * wtV z + 10000 ≤ Bg):spec_l02Writer__body_2.f k z ⟨out,(d:Int)⟩ = some (out ++ BDL z d,(d:Int)):=by
  have hL:=Ln_len d (⟨#[66,69,71,73,78]⟩:ByteArray)
  rw [wBe] at hL
  unfold spec_l02Writer__body_2.f BDL
  cases h:z.f4 with
  | nil=>rw [if_neg (by simp),if_pos (show ([]:List SNode).isEmpty = true from rfl),List.append_nil]
  | cons a l =>
    unfold Bg at ho
    rw [if_pos (by simp),if_neg (by simp),sline (out:=out) (d:=d) (by omega) (by rw [wBe]; omega) (by omega) (by omega),Option.bind_some]
    rw [hb d hd _ (by unfold Bg; rw [List.length_append]; omega),Option.bind_some,List.append_assoc]
theorem ibody {x z : SNode} {ini : List SNode} (hl : x.f4 = ini ++ [z]) (hn : x.f4.length ≤ 1048576) {e : ByteArray} (he : e.size = 1) (h2 : x.f2.size ≤ 40) {k d : Nat} (hb : BkI z k) (hd : d + 1 + wtV z ≤ 2000) {out : List Int} (ho : out.length + 2000000 * wtV z + 20000 ≤ Bg) :
    impl_printer__body_2.f k x e true out (d:Int) = some (true,(out ++ BDL z d) ++ Ln d (((⟨#[69,78,68,32]⟩:ByteArray) ++ x.f2) ++ e),(d:Int)):=by
  have hL:=Ln_len d (⟨#[66,69,71,73,78]⟩:ByteArray)
  rw [wBe] at hL
  have hbl:=BDL_len z d hd
  unfold impl_printer__body_2.f
  rw [last_at hl hn,Option.bind_some]
  have e1:impl_printer__body_2.e1 k true out (d:Int) z = some (true,out ++ BDL z d,(d:Int)):=by
    unfold impl_printer__body_2.e1 BDL
    cases h:z.f4 with
    | nil=>rw [if_neg (by simp),if_pos (show ([]:List SNode).isEmpty = true from rfl),List.append_nil]
    | cons a l =>
      unfold Bg at ho
      rw [if_pos (by simp),if_neg (by simp),iline k (by rw [wBe]; omega) (by omega) (by omega),Option.bind_some]
      unfold impl_printer__deeper_6.f impl_printer__body_1_2.f
      rw [w64_next (by omega),hb (d + 1) (by omega) _ (by unfold Bg; rw [List.length_append]; omega),Option.bind_some,Option.bind_some,Option.bind_some]
      rw [show w64 ((((d + 1:Nat):Int)) - 1) = (d:Int) by rw [w64_id (by omega) (by omega)]; omega,List.append_assoc]
  rw [e1,Option.bind_some]
  show (if _ then _ else _) = _
  unfold Bg at ho
  rw [if_pos (by first | omega | (simp only [ByteArray.size_append,z40,z41,z32,z44,z46,z59,z42,wBe,wEn,wPr,xVr,xCo,xSe] at *; omega)),if_pos (by first | omega | (simp only [ByteArray.size_append,z40,z41,z32,z44,z46,z59,z42,wBe,wEn,wPr,xVr,xCo,xSe] at *; omega)),iline k (by first | omega | (simp only [ByteArray.size_append,z40,z41,z32,z44,z46,z59,z42,wBe,wEn,wPr,xVr,xCo,xSe] at *; omega)) (by omega) (by rw [List.length_append]; omega),Option.bind_some]
/-! Procedures. -/
def parT (y:SNode):ByteArray:=if y.f1 = 1 then (⟨#[86,65,82,32]⟩:ByteArray) ++ ((y.f2 ++ (⟨#[58,32]⟩:ByteArray)) ++ baseT (kid y 0).f1) else (y.f2 ++ (⟨#[58,32]⟩:ByteArray)) ++ baseT (kid y 0).f1
def pars (l:List SNode):List ByteArray:=(l.filter (ofB 6)).map parT
def resT:List SNode → ByteArray → ByteArray
  | [],s=>s
  | y :: l,s=>resT l (if y.f0 = 7 ∧ y.f1 ≠ 0 then (⟨#[58,32]⟩:ByteArray) ++ baseT y.f1 else s)
theorem baseT_size (n:Int):(baseT n).size ≤ 7:=by
  unfold baseT
  match n.toNat with
  | 0=>decide
  | 1=>decide
  | 2=>decide
  | 3=>decide
  | m + 4=>show (0:Nat) ≤ 7; omega
theorem resT_size:∀ (l:List SNode) (s:ByteArray),s.size ≤ 9 → (resT l s).size ≤ 9
  | [],s,h=>h
  | y :: l,s,h=>by
    rw [resT]
    refine resT_size l _ ?_
    have:=baseT_size y.f1
    split
    · exact (by first | omega | (simp only [ByteArray.size_append,z40,z41,z32,z44,z46,z59,z42,wBe,wEn,wPr,xVr,xCo,xSe] at *; omega))
    · exact h
theorem parT_size {y:SNode} (h:y.f2.size ≤ 40):(parT y).size ≤ 60:=by
  have:=baseT_size (kid y 0).f1
  unfold parT
  split <;> exact (by first | omega | (simp only [ByteArray.size_append,z40,z41,z32,z44,z46,z59,z42,wBe,wEn,wPr,xVr,xCo,xSe] at *; omega))
theorem pars_cons {l:List SNode} {i:Nat} (h:i < l.length):pars (l.drop i) = if l[i].f0 = 6 then parT l[i] :: pars (l.drop (i + 1)) else pars (l.drop (i + 1)):=by
  unfold pars
  rw [List.drop_eq_getElem_cons h,List.filter_cons]
  by_cases h0:l[i].f0 = 6
  · rw [if_pos (ofB_iff.2 h0),if_pos h0,List.map_cons]
  · rw [if_neg (fun e=>h0 (ofB_iff.1 e)),if_neg h0]
theorem resT_cons {l:List SNode} {i:Nat} (h:i < l.length) (s:ByteArray):resT (l.drop i) s = resT (l.drop (i + 1)) (if l[i].f0 = 7 ∧ l[i].f1 ≠ 0 then (⟨#[58,32]⟩:ByteArray) ++ baseT l[i].f1 else s):=by
  rw [List.drop_eq_getElem_cons h,resT]
theorem iproc_run (x : SNode) (hn : x.f4.length ≤ 1048576) (K : Nat) (hK : ∀ y, y ∈ x.f4 → ∀ k, K ≤ k → KF y k) :
    ∀ (m i k:Nat) (z:List ByteArray) (s:ByteArray),i + m = x.f4.length → K + m + 1 ≤ k → z.length ≤ i → impl_printer__proc_2.l3 k x z s (i:Int) = some (z ++ pars (x.f4.drop i),resT (x.f4.drop i) s):=by
  intro m
  induction m with
  | zero =>
    intro i k z s hi hk hz
    obtain ⟨k,rfl⟩:∃ j,k = j + 1:=⟨k - 1,by omega⟩
    rw [impl_printer__proc_2.l3.eq_2,if_neg (by omega),List.drop_eq_nil_of_le (by omega),resT]
    simp [pars]
  | succ m ih =>
    intro i k z s hi hk hz
    obtain ⟨k,rfl⟩:∃ j,k = j + 1:=⟨k - 1,by omega⟩
    have hlt:i < x.f4.length:=by omega
    have hkf:=hK _ (List.getElem_mem hlt) k (by omega)
    rw [impl_printer__proc_2.l3.eq_2,if_pos (by omega),pars_cons hlt,resT_cons hlt]
    have e2:impl_printer__proc_2.e2 k x z s (i:Int) = some (if x.f4[i].f0 = 6 then z ++ [parT x.f4[i]] else z,if x.f4[i].f0 = 7 ∧ x.f4[i].f1 ≠ 0 then (⟨#[58,32]⟩:ByteArray) ++ baseT x.f4[i].f1 else s):=by
      unfold impl_printer__proc_2.e2
      rw [at?_nat hlt,Option.bind_some]
      generalize x.f4[i] = y at hkf
      obtain ⟨p3,p4,p6,pn,p7⟩:=hkf
      by_cases h6:y.f0 = 6
      · obtain ⟨q1,q2,q3,q4⟩:=p6 h6
        have hn2:=pn (by omega)
        rw [if_pos h6,if_pos h6,if_neg (show ¬ (y.f0 = 7 ∧ y.f1 ≠ 0) from fun h=>by omega),if_pos (by first | omega | (simp only [ByteArray.size_append,z40,z41,z32,z44,z46,z59,z42,wBe,wEn,wPr,xVr,xCo,xSe] at *; omega)),q1,Option.bind_some,q3,Option.bind_some,if_pos (by first | omega | (simp only [ByteArray.size_append,z40,z41,z32,z44,z46,z59,z42,wBe,wEn,wPr,xVr,xCo,xSe] at *; omega))]
        have e1:impl_printer__proc_2.e1 k y (baseT (kid y 0).f1) = some (parT y):=by
          unfold impl_printer__proc_2.e1 parT
          by_cases h1:y.f1 = 1
          · rw [if_pos h1,if_pos h1,if_pos (by first | omega | (simp only [ByteArray.size_append,z40,z41,z32,z44,z46,z59,z42,wBe,wEn,wPr,xVr,xCo,xSe] at *; omega))]
          · rw [if_neg h1,if_neg h1]
        rw [e1,Option.bind_some,if_pos (by simp only [List.length_append,List.length_cons,List.length_nil]; omega)]
      · rw [if_neg h6,if_neg h6]
        by_cases h7:y.f0 = 7
        · rw [if_pos h7]
          have hb:=p7 h7
          by_cases h0:y.f1 = 0
          · rw [if_pos h0,if_neg (fun h=>h.2 h0)]
          · have hbs:=(base_at hb).2
            rw [if_neg h0,if_pos ⟨h7,h0⟩,iwords,Option.bind_some,(base_at hb).1,Option.bind_some,if_pos (by first | omega | (simp only [ByteArray.size_append,z40,z41,z32,z44,z46,z59,z42,wBe,wEn,wPr,xVr,xCo,xSe] at *; omega))]
        · rw [if_neg h7,if_neg (fun h=>h7 h.1)]
    rw [e2,Option.bind_some]
    show impl_printer__proc_2.l3 k x _ _ (w64 ((i:Int) + 1)) = _
    rw [w64_next (by omega)]
    by_cases h6:x.f4[i].f0 = 6
    · rw [if_pos h6,if_pos h6,ih (i + 1) k _ _ (by omega) (by omega) (by simp only [List.length_append,List.length_cons,List.length_nil]; omega),List.append_assoc]
      rfl
    · rw [if_neg h6,if_neg h6,ih (i + 1) k _ _ (by omega) (by omega) (by omega)]
theorem sproc_run (x : SNode) (hn : x.f4.length ≤ 1048576) (ho : ordB x.f4 [6, 7, 4] 10 = true) (K : Nat) (hK : ∀ y, y ∈ x.f4 → ∀ k, K ≤ k → KF y k) :
    ∀ (m i k:Nat) (z s:ByteArray),i + m = x.f4.length → K + m + 1 ≤ k → z.size ≤ 1000 + 100 * i → spec_l02Writer__proc_2.l6 k x z s (i:Int) = some (z ++ J (⟨#[59,32]⟩:ByteArray) (decide (i = 0)) (pars (x.f4.drop i)),resT (x.f4.drop i) s):=by
  intro m
  induction m with
  | zero =>
    intro i k z s hi hk hz
    obtain ⟨k,rfl⟩:∃ j,k = j + 1:=⟨k - 1,by omega⟩
    rw [spec_l02Writer__proc_2.l6.eq_2,if_neg (by omega),List.drop_eq_nil_of_le (by omega),resT]
    show _ = some (z ++ J (⟨#[59,32]⟩:ByteArray) _ [],s)
    rw [J,app_nil]
  | succ m ih =>
    intro i k z s hi hk hz
    obtain ⟨k,rfl⟩:∃ j,k = j + 1:=⟨k - 1,by omega⟩
    have hlt:i < x.f4.length:=by omega
    have hkf:=hK _ (List.getElem_mem hlt) k (by omega)
    have h6s:=ord_six x.f4 ho i hlt
    rw [spec_l02Writer__proc_2.l6.eq_2,if_pos (by omega),pars_cons hlt,resT_cons hlt]
    unfold spec_l02Writer__proc_2.e5
    rw [at?_nat hlt,Option.bind_some]
    have e4:spec_l02Writer__proc_2.e4 k x.f4[i] = some (decide (x.f4[i].f0 = 7 ∧ (0:Int) < x.f4[i].f1)):=by
      unfold spec_l02Writer__proc_2.e4
      by_cases h7:x.f4[i].f0 = 7
      · rw [if_pos h7]; congr 1; exact decide_eq_decide.2 ⟨fun h=>⟨h7,h⟩,fun h=>h.2⟩
      · rw [if_neg h7,decide_eq_false (fun h=>h7 h.1)]
    by_cases h6:x.f4[i].f0 = 6
    · have hp:(parT x.f4[i]).size ≤ 60:=parT_size (hkf.2.2.2.1 (by omega)).2
      obtain ⟨zn,hzn⟩:∃ zn,zn = if decide (i = 0) = true then z else z ++ (⟨#[59,32]⟩:ByteArray):=⟨_,rfl⟩
      have hzs:zn.size ≤ z.size + 2:=by
        rw [hzn]
        split
        · omega
        · exact (by first | omega | (simp only [ByteArray.size_append,z40,z41,z32,z44,z46,z59,z42,wBe,wEn,wPr,xVr,xCo,xSe] at *; omega))
      have e3:spec_l02Writer__proc_2.e3 k z (i:Int) x.f4[i] = some (zn ++ parT x.f4[i]):=by
        unfold spec_l02Writer__proc_2.e3
        rw [if_pos h6]
        have e1:spec_l02Writer__proc_2.e1 k z (i:Int) = some zn:=by
          unfold spec_l02Writer__proc_2.e1
          rw [hzn]
          by_cases h0:i = 0
          · rw [if_neg (by omega),if_pos (decide_eq_true h0)]
          · rw [if_pos (by omega),if_neg (show ¬ decide (i = 0) = true by simp [h0]),if_pos (by first | omega | (simp only [ByteArray.size_append,z40,z41,z32,z44,z46,z59,z42,wBe,wEn,wPr,xVr,xCo,xSe] at *; omega))]
        rw [e1,Option.bind_some]
        generalize x.f4[i] = y at hkf hp h6
        obtain ⟨p3,p4,p6,pn,p7⟩:=hkf
        obtain ⟨q1,q2,q3,q4⟩:=p6 h6
        have hn2:=pn (by omega)
        have e2:spec_l02Writer__proc_2.e2 k y zn = some (if y.f1 = 1 then zn ++ (⟨#[86,65,82,32]⟩:ByteArray) else zn):=by
          unfold spec_l02Writer__proc_2.e2
          by_cases h1:y.f1 = 1
          · rw [if_pos h1,if_pos h1,if_pos (by first | omega | (simp only [ByteArray.size_append,z40,z41,z32,z44,z46,z59,z42,wBe,wEn,wPr,xVr,xCo,xSe] at *; omega))]
          · rw [if_neg h1,if_neg h1]
        have hzv:(if y.f1 = 1 then zn ++ (⟨#[86,65,82,32]⟩:ByteArray) else zn).size ≤ zn.size + 4:=by
          split
          · exact (by first | omega | (simp only [ByteArray.size_append,z40,z41,z32,z44,z46,z59,z42,wBe,wEn,wPr,xVr,xCo,xSe] at *; omega))
          · omega
        rw [e2,Option.bind_some,if_pos (by first | omega | (simp only [ByteArray.size_append,z40,z41,z32,z44,z46,z59,z42,wBe,wEn,wPr,xVr,xCo,xSe] at *; omega)),q1,Option.bind_some,q4,Option.bind_some,if_pos (by first | omega | (simp only [ByteArray.size_append,z40,z41,z32,z44,z46,z59,z42,wBe,wEn,wPr,xVr,xCo,xSe] at *; omega)),if_pos (by first | omega | (simp only [ByteArray.size_append,z40,z41,z32,z44,z46,z59,z42,wBe,wEn,wPr,xVr,xCo,xSe] at *; omega))]
        unfold parT
        by_cases h1:y.f1 = 1
        · rw [if_pos h1,if_pos h1,app_as]
        · rw [if_neg h1,if_neg h1]
      rw [e3,Option.bind_some,e4,Option.bind_some,decide_eq_false (fun h=>by omega),if_neg (by simp),Option.bind_some]
      show spec_l02Writer__proc_2.l6 k x _ _ (w64 ((i:Int) + 1)) = _
      rw [w64_next (by omega),ih (i + 1) k _ _ (by omega) (by omega) (by rw [ByteArray.size_append]; omega),if_pos h6,if_neg (fun h=>by omega),decide_eq_false (show ¬ i + 1 = 0 by omega),J,hzn]
      by_cases h0:i = 0
      · rw [if_pos (decide_eq_true h0),if_pos (decide_eq_true h0),app_as]
      · rw [if_neg (by simp [h0]),if_neg (by simp [h0])]
        simp only [app_as]
    · have e3 : spec_l02Writer__proc_2.e3 k z (i : Int) x.f4[i] = some z := by
        unfold spec_l02Writer__proc_2.e3
        rw [if_neg h6]
      have hnil:pars (x.f4.drop (i + 1)) = []:=by
        unfold pars
        rw [List.filter_eq_nil_iff.2 (fun y hy h=>h6s h6 y hy (ofB_iff.1 h))]
        rfl
      rw [e3,Option.bind_some,e4,Option.bind_some,if_neg h6,hnil,J,app_nil]
      have ihr:=fun s=>ih (i + 1) k z s (by omega) (by omega) (by omega)
      rw [hnil,J,app_nil] at ihr
      by_cases h7:x.f4[i].f0 = 7 ∧ (0:Int) < x.f4[i].f1
      · have hb:=hkf.2.2.2.2 h7.1
        have hbs:=(base_at hb).2
        rw [decide_eq_true h7,if_pos rfl,sbase k hb,Option.bind_some,if_pos (by first | omega | (simp only [ByteArray.size_append,z40,z41,z32,z44,z46,z59,z42,wBe,wEn,wPr,xVr,xCo,xSe] at *; omega)),Option.bind_some]
        show spec_l02Writer__proc_2.l6 k x _ _ (w64 ((i:Int) + 1)) = _
        rw [w64_next (by omega),ihr,if_pos ⟨h7.1,by omega⟩]
      · rw [decide_eq_false h7,if_neg (by simp),Option.bind_some]
        show spec_l02Writer__proc_2.l6 k x _ _ (w64 ((i:Int) + 1)) = _
        rw [w64_next (by omega),ihr,if_neg (fun h=>h7 ⟨h.1,by have:=hkf.2.2.2.2 h.1; omega⟩)]
noncomputable def hdT (y:SNode):ByteArray:=(((((((⟨#[80,82,79,67,69,68,85,82,69,32]⟩:ByteArray) ++ star y) ++ (⟨#[40]⟩:ByteArray)) ++ J (⟨#[59,32]⟩:ByteArray) true (pars y.f4)) ++ (⟨#[41]⟩:ByteArray)) ++ resT y.f4 ⟨#[]⟩) ++ (⟨#[59]⟩:ByteArray))
noncomputable def PV (y z:SNode) (d:Nat):List Int:=(((Ln d (hdT y)) ++ GR (⟨#[86,65,82]⟩:ByteArray) (d + 1) true (lns 4 y.f4)) ++ BDL z d) ++ Ln d (((⟨#[69,78,68,32]⟩:ByteArray) ++ y.f2) ++ (⟨#[59]⟩:ByteArray))
theorem GR_len (w:ByteArray) (d:Nat) (f:Bool) (l:List ByteArray) (hd:d ≤ 999) (hl:l.length ≤ 2000):(GR w d f l).length ≤ w.size + jsz l + 5000000:=by
  have h1:=GF_len (d + 1) l
  have h2:2 * (d + 1) * l.length ≤ 2 * 1000 * 2000:=Nat.mul_le_mul (Nat.mul_le_mul (Nat.le_refl _) (by omega)) hl
  unfold GR
  rw [List.length_append]
  split
  · rw [Ln_len]; omega
  · simp only [List.length_nil]; omega
theorem proc_ok {x : SNode} (hx : Sm x) (ha : allV x = true) (h5 : x.f0 = 5) (hw : wtV x ≤ 800) : ∃ ini z, x.f4 = ini ++ [z] ∧ ∃ K, ∀ k, K ≤ k → ∀ d : Nat, d ≤ 100 → ∀ out : List Int, out.length ≤ 5000000000000 →
    impl_printer__proc_2.f k x true out (d:Int) = some (true,out ++ PV x z d,(d:Int)) ∧ spec_l02Writer__proc_2.f k x ⟨out,(d:Int)⟩ = some (out ++ PV x z d,(d:Int)) ∧ (PV x z d).length ≤ 3000000000:=by
  obtain ⟨hn,hnum,hkb,hall⟩:=all_ok ha
  have hwx:=wtV_eq x
  have hwl:=wtL_len x.f4
  have h2:=(nm_size hn (by omega)).2
  have ho:ordB x.f4 [6,7,4] 10 = true:=by
    unfold kidsB at hkb
    rw [h5] at hkb
    have hke:(decide (x.f4.countP (ofB 7) = 1) && ordB x.f4 [6,7,4] 10) = true:=hkb
    exact (Bool.and_eq_true_iff.1 hke).2
  obtain ⟨ini,z,hl,hz⟩:=ord_last 10 x.f4 _ ho
  have mz:z ∈ x.f4:=by rw [hl]; simp
  have hwz:=wt_kid mz
  cases hx with
  | mk s2 s3 s4 hs =>
  obtain ⟨K1,hK1⟩:=(bk_ok (hs z mz) (hall z mz) (by omega)).1 hz
  obtain ⟨K2,hK2⟩:=unif (Q:=fun k y=>KF y k) (l:=x.f4) fun y hy=>kf_ok (hs y hy) (hall y hy) (by have:=wt_kid hy; omega)
  have hKF:∀ y,y ∈ x.f4 → ∀ k,K2 ≤ k → KF y k:=fun y hy k hk=>hK2 k hk y hy
  have hstar:=star_size x
  have hres:=resT_size x.f4 ⟨#[]⟩ (by show (0:Nat) ≤ 9; omega)
  have hjs:jsz (pars x.f4) ≤ 1000 * wtL x.f4:=jsz_le _ _ _ fun y hy h=>by
    have:=parT_size ((hKF y hy K2 (Nat.le_refl _)).2.2.2.1 (by have:=ofB_iff.1 h; omega)).2
    have:=wtV_eq y
    omega
  have hJ:=J_size (s:=(⟨#[59,32]⟩:ByteArray)) rfl (pars x.f4) true
  have hpl:(pars x.f4).length ≤ 1048576:=by
    have h:=List.length_filter_le (ofB 6) x.f4
    unfold pars
    rw [List.length_map]
    omega
  obtain ⟨hm1,hm2,hm3⟩:=lns_mem (a:=4) (.inr (.inr rfl)) hKF
  have hdz:(hdT x).size ≤ 900000:=by unfold hdT; exact (by first | omega | (simp only [ByteArray.size_append,z40,z41,z32,z44,z46,z59,z42,wBe,wEn,wPr,xVr,xCo,xSe] at *; omega))
  refine ⟨ini,z,hl,max (max K1 K2) 2002 + x.f4.length + 2,fun k hk d hd out hout=>?_⟩
  have hLn:=Ln_len d (hdT x)
  have hG:=GR_len (⟨#[86,65,82]⟩:ByteArray) (d + 1) true (lns 4 x.f4) (by omega) (by omega)
  rw [show (⟨#[86,65,82]⟩:ByteArray).size = 3 from rfl] at hG
  have hB:=BDL_len z d (by omega)
  refine ⟨?_,?_,?_⟩
  · unfold impl_printer__proc_2.f impl_printer__proc_2.e4
    have hr:=iproc_run x s4 K2 hKF x.f4.length 0 k [] ⟨#[]⟩ (by omega) (by omega) (by simp)
    rw [List.drop_zero,List.nil_append] at hr
    have hj:strings_Join.f k (pars x.f4) (⟨#[59,32]⟩:ByteArray) = some (J (⟨#[59,32]⟩:ByteArray) true (pars x.f4)):=by
      unfold strings_Join.f
      rw [join_J,if_pos ⟨by omega,by omega⟩]
    rw [show (0:Int) = ((0:Nat):Int) from rfl,hr,Option.bind_some]
    show Option.bind _ _ = _
    rw [istar k h2,Option.bind_some,if_pos (by first | omega | (simp only [ByteArray.size_append,z40,z41,z32,z44,z46,z59,z42,wBe,wEn,wPr,xVr,xCo,xSe] at *; omega)),if_pos (by first | omega | (simp only [ByteArray.size_append,z40,z41,z32,z44,z46,z59,z42,wBe,wEn,wPr,xVr,xCo,xSe] at *; omega)),hj,Option.bind_some,if_pos (by first | omega | (simp only [ByteArray.size_append,z40,z41,z32,z44,z46,z59,z42,wBe,wEn,wPr,xVr,xCo,xSe] at *; omega)),if_pos (by first | omega | (simp only [ByteArray.size_append,z40,z41,z32,z44,z46,z59,z42,wBe,wEn,wPr,xVr,xCo,xSe] at *; omega)),if_pos (by first | omega | (simp only [ByteArray.size_append,z40,z41,z32,z44,z46,z59,z42,wBe,wEn,wPr,xVr,xCo,xSe] at *; omega)),if_pos (by first | omega | (simp only [ByteArray.size_append,z40,z41,z32,z44,z46,z59,z42,wBe,wEn,wPr,xVr,xCo,xSe] at *; omega))]
    rw [iline k (t:=(((((((⟨#[80,82,79,67,69,68,85,82,69,32]⟩:ByteArray) ++ star x) ++ (⟨#[40]⟩:ByteArray)) ++ J (⟨#[59,32]⟩:ByteArray) true (pars x.f4)) ++ (⟨#[41]⟩:ByteArray)) ++ resT x.f4 ⟨#[]⟩) ++ (⟨#[59]⟩:ByteArray))) (by unfold hdT at hdz; omega) (by omega) (by omega),Option.bind_some]
    unfold impl_printer__deeper_4.f impl_printer__proc_1_2.f
    rw [lines_ok (.inr (.inr rfl)) s4 (by omega) hKF (by omega),Option.bind_some,w64_next (by omega)]
    rw [show (((((((⟨#[80,82,79,67,69,68,85,82,69,32]⟩:ByteArray) ++ star x) ++ (⟨#[40]⟩:ByteArray)) ++ J (⟨#[59,32]⟩:ByteArray) true (pars x.f4)) ++ (⟨#[41]⟩:ByteArray)) ++ resT x.f4 ⟨#[]⟩) ++ (⟨#[59]⟩:ByteArray)) = hdT x from rfl]
    rw [igroup (by decide) (by omega) (by omega) (fun t ht=>by have:=hm2 t ht; omega) (by omega) (by rw [List.length_append]; omega),Option.bind_some,Option.bind_some,Option.bind_some]
    rw [show w64 ((((d + 1:Nat):Int)) - 1) = (d:Int) by rw [w64_id (by omega) (by omega)]; omega]
    rw [ibody hl s4 rfl h2 (hK1 k (by omega)).1 (by omega) (by unfold Bg; simp only [List.length_append]; omega),Option.bind_some]
    unfold PV
    simp only [List.append_assoc]
  · unfold spec_l02Writer__proc_2.f spec_l02Writer__proc_2.e7
    have hr:=sproc_run x s4 ho K2 hKF x.f4.length 0 k (((⟨#[80,82,79,67,69,68,85,82,69,32]⟩:ByteArray) ++ star x) ++ (⟨#[40]⟩:ByteArray)) ⟨#[]⟩ (by omega) (by omega) (by first | omega | (simp only [ByteArray.size_append,z40,z41,z32,z44,z46,z59,z42,wBe,wEn,wPr,xVr,xCo,xSe] at *; omega))
    rw [List.drop_zero] at hr
    rw [sstar k h2,Option.bind_some,if_pos (by first | omega | (simp only [ByteArray.size_append,z40,z41,z32,z44,z46,z59,z42,wBe,wEn,wPr,xVr,xCo,xSe] at *; omega)),if_pos (by first | omega | (simp only [ByteArray.size_append,z40,z41,z32,z44,z46,z59,z42,wBe,wEn,wPr,xVr,xCo,xSe] at *; omega)),show (0:Int) = ((0:Nat):Int) from rfl,hr,Option.bind_some]
    show (if _ then _ else _) = _
    rw [show decide ((0:Nat) = 0) = true from rfl,if_pos (by first | omega | (simp only [ByteArray.size_append,z40,z41,z32,z44,z46,z59,z42,wBe,wEn,wPr,xVr,xCo,xSe] at *; omega)),if_pos (by first | omega | (simp only [ByteArray.size_append,z40,z41,z32,z44,z46,z59,z42,wBe,wEn,wPr,xVr,xCo,xSe] at *; omega)),if_pos (by first | omega | (simp only [ByteArray.size_append,z40,z41,z32,z44,z46,z59,z42,wBe,wEn,wPr,xVr,xCo,xSe] at *; omega))]
    rw [show (((((((⟨#[80,82,79,67,69,68,85,82,69,32]⟩:ByteArray) ++ star x) ++ (⟨#[40]⟩:ByteArray)) ++ J (⟨#[59,32]⟩:ByteArray) true (pars x.f4)) ++ (⟨#[41]⟩:ByteArray)) ++ resT x.f4 ⟨#[]⟩) ++ (⟨#[59]⟩:ByteArray)) = hdT x from rfl]
    rw [sline (out:=out) (d:=d) (by omega) (by omega) (by omega) (by omega),Option.bind_some]
    rw [show w64 ((d:Int) + 1) = ((d + 1:Nat):Int) from w64_next (by omega)]
    rw [svars (by omega) (by omega) (by omega) (K:=max K2 2002) (by omega) (fun y hy k hk=>hKF y hy k (by omega)) (by omega) (by rw [List.length_append]; omega),Option.bind_some,last_at hl s4,Option.bind_some]
    rw [show w64 ((((d + 1:Nat):Int)) - 1) = (d:Int) by rw [w64_id (by omega) (by omega)]; omega]
    rw [sbody (hK1 k (by omega)).2 (by omega) (by omega) (by unfold Bg; simp only [List.length_append]; omega),Option.bind_some,if_pos (by first | omega | (simp only [ByteArray.size_append,z40,z41,z32,z44,z46,z59,z42,wBe,wEn,wPr,xVr,xCo,xSe] at *; omega)),if_pos (by first | omega | (simp only [ByteArray.size_append,z40,z41,z32,z44,z46,z59,z42,wBe,wEn,wPr,xVr,xCo,xSe] at *; omega))]
    rw [sline (out:=((out ++ Ln d (hdT x)) ++ GR (⟨#[86,65,82]⟩:ByteArray) (d + 1) true (lns 4 x.f4)) ++ BDL z d) (d:=d) (by omega) (by first | omega | (simp only [ByteArray.size_append,z40,z41,z32,z44,z46,z59,z42,wBe,wEn,wPr,xVr,xCo,xSe] at *; omega)) (by omega) (by simp only [List.length_append]; omega),Option.bind_some]
    unfold PV
    simp only [List.append_assoc]
  · unfold PV
    simp only [List.length_append,Ln_len,ByteArray.size_append,wEn,z59] at *
    omega
end Go.Proofs.YtaelpeekimbmcaaGreatDoor.T
