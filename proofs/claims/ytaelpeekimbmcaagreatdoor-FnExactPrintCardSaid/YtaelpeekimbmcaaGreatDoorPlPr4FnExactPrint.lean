/- Print: statements and blocks, all of them. -/
import Derived.Test.YtaelpeekimbmcaaGreatDoorPlPr3FnExactPrint
set_option linter.unusedVariables false
set_option linter.unusedSimpArgs false
namespace Go.Proofs.YtaelpeekimbmcaaGreatDoor.T
open Go.RowKit Go.Proofs.YtaelpeekimbmcaaGreatDoor.E Go.Proofs.YtaelpeekimbmcaaGreatDoor.V
theorem st_mono {x:SNode} {K K':Nat} (h:K ≤ K') (hs:StI x K ∧ StS x K):StI x K' ∧ StS x K' :=
  ⟨fun k hk=>hs.1 k (by omega),fun k hk=>hs.2 k (by omega)⟩
theorem des_ex {x:SNode} (h:desB x = true):exprB x = true:=by
  unfold desB at h
  unfold exprB btw
  simp only [Bool.or_eq_true,Bool.and_eq_true,decide_eq_true_eq] at h ⊢
  omega
theorem st_ok {x:SNode} (hx:Sm x) (ha:allV x = true) (hs:stmtB x = true) (hw:wtV x ≤ 1000):∃ K,StI x K ∧ StS x K:=by
  obtain ⟨hn,hnum,hkb,hall⟩:=all_ok ha
  have hc:x.f0 = 11 ∨ x.f0 = 12 ∨ x.f0 = 13 ∨ x.f0 = 14 ∨ x.f0 = 15 ∨ x.f0 = 16 ∨ x.f0 = 17:=by
    unfold stmtB btw at hs
    simp only [Bool.and_eq_true,decide_eq_true_eq] at hs
    omega
  have kidK:∀ y,y ∈ x.f4 → exprB y = true → ∃ K,∀ k,K ≤ k → impl_Node__text.f k y = some (txT y) ∧ spec_l02Expr.f k y 0 = some (txT y):=fun y hy hye=>by
    cases hx with
    | mk h2 h3 h4 k=>exact tx_k (k y hy) (hall y hy) hye (by have:=wt_kid hy; omega)
  have hkk:=hkb
  unfold kidsB at hkk
  rcases hc with h0 | h0 | h0 | h0 | h0 | h0 | h0
  · rw [h0] at hkk
    have hke:k2 desB exprB x.f4 = true:=hkk
    obtain ⟨a,b,hab,p,q⟩:=kids_2 hke
    exact st_11 h0 hab (kidK a (by rw [hab]; simp) (des_ex p)) (kidK b (by rw [hab]; simp) q)
  · refine st_12 h0 (tx_k hx ha ?_ (by omega))
    unfold exprB; rw [h0]; rfl
  · rw [h0] at hkk
    have hke:(k2 exprB (ofB 10) x.f4 || k3 exprB (ofB 10) (ofB 10) x.f4) = true:=hkk
    rw [Bool.or_eq_true] at hke
    rcases hke with h | h
    · obtain ⟨a,b,hab,p,q⟩:=kids_2 h
      exact st_13 h0 hab (of_decide_eq_true q) (.inl rfl) (kidK a (by rw [hab]; simp) p)
    · obtain ⟨a,b,c,hab,p,q,r⟩:=kids_3 h
      exact st_13 h0 hab (of_decide_eq_true q) (.inr ⟨c,rfl,of_decide_eq_true r⟩) (kidK a (by rw [hab]; simp) p)
  · rw [h0] at hkk
    have hke:k2 exprB (ofB 10) x.f4 = true:=hkk
    obtain ⟨a,b,hab,p,q⟩:=kids_2 hke
    exact st_14 h0 hab (of_decide_eq_true q) (kidK a (by rw [hab]; simp) p)
  · rw [h0] at hkk
    have hke:(x.f4.isEmpty || k1 exprB x.f4) = true:=hkk
    rw [Bool.or_eq_true] at hke
    rcases hke with h | h
    · exact st_15a h0 (List.isEmpty_iff.1 h)
    · obtain ⟨a,hab,p⟩:=kids_1 h
      exact st_15b h0 hab (kidK a (by rw [hab]; simp) p)
  · rw [h0] at hkk
    have hke:k1 exprB x.f4 = true:=hkk
    obtain ⟨a,hab,p⟩:=kids_1 hke
    exact st_16 h0 hab (kidK a (by rw [hab]; simp) p)
  · rw [h0] at hkk
    have hke:k1 desB x.f4 = true:=hkk
    obtain ⟨a,hab,p⟩:=kids_1 hke
    exact st_17 h0 hab (kidK a (by rw [hab]; simp) (des_ex p))
theorem wtL_drop {l:List SNode} {i:Nat} (h:i < l.length):wtL (l.drop i) = wtV l[i] + wtL (l.drop (i + 1)):=by
  rw [List.drop_eq_getElem_cons h,wtL]
theorem BL_drop {l:List SNode} {i:Nat} (h:i < l.length) (d:Nat):BL (l.drop i) d = SV l[i] (!(l.drop (i + 1)).isEmpty) d ++ BL (l.drop (i + 1)) d:=by
  rw [List.drop_eq_getElem_cons h,BL]
theorem last_iff {l:List SNode} {i:Nat} (h:i < l.length):(l.drop (i + 1)).isEmpty = decide (i + 1 = l.length):=by
  rw [Bool.eq_iff_iff,List.isEmpty_iff,List.drop_eq_nil_iff,decide_eq_true_iff]
  omega
theorem blk_runI (x : SNode) (R) (d K : Nat) (hd : d + wtV x ≤ 2000) (hn : x.f4.length ≤ 1048576)
    (hS:∀ y,y ∈ x.f4 → ∀ k,K ≤ k → ∀ (more:Bool) (out:List Int),out.length + 2000000 * wtV y ≤ Bg → impl_printer__statement_4.f k R y (eT more) true out (d:Int) = some (true,out ++ SV y more d,(d:Int))) :
    ∀ (m i k:Nat) (out:List Int),i + m = x.f4.length → K + m + 1 ≤ k → out.length + 2000000 * wtL (x.f4.drop i) ≤ Bg → impl_printer__block_3.l2 k x R (i:Int) true out (d:Int) = some (true,out ++ BL (x.f4.drop i) d,(d:Int)):=by
  intro m
  induction m with
  | zero =>
    intro i k out hi hk ho
    obtain ⟨k,rfl⟩:∃ j,k = j + 1:=⟨k - 1,by omega⟩
    rw [impl_printer__block_3.l2.eq_2,if_neg (by omega),List.drop_eq_nil_of_le (by omega),BL,List.append_nil]
  | succ m ih =>
    intro i k out hi hk ho
    obtain ⟨k,rfl⟩:∃ j,k = j + 1:=⟨k - 1,by omega⟩
    have hlt:i < x.f4.length:=by omega
    have hmem:=List.getElem_mem hlt
    have hwy:=wt_kid hmem
    rw [wtL_drop hlt] at ho
    have hl:=(len_ok _ x.f4[i] (Nat.le_refl _) d (by omega)).2 (!(x.f4.drop (i + 1)).isEmpty)
    have he:impl_printer__block_3.e1 k x (i:Int) = some (eT (!(x.f4.drop (i + 1)).isEmpty)):=by
      unfold impl_printer__block_3.e1
      rw [w64_next (by omega),last_iff hlt]
      by_cases h:i + 1 = x.f4.length
      · rw [if_pos (by omega),decide_eq_true h]; rfl
      · rw [if_neg (by omega),decide_eq_false h]; rfl
    rw [impl_printer__block_3.l2.eq_2,if_pos (by omega),at?_nat hlt,Option.bind_some,he,Option.bind_some,hS _ hmem k (by omega) _ out (by omega),Option.bind_some,w64_next (by omega)]
    rw [ih (i + 1) k _ (by omega) (by omega) (by rw [List.length_append]; omega),BL_drop hlt,List.append_assoc]
theorem blk_runS (x : SNode) (R) (d K : Nat) (hd : d + wtV x ≤ 2000) (hn : x.f4.length ≤ 1048576)
    (hS:∀ y,y ∈ x.f4 → ∀ k,K ≤ k → ∀ (more:Bool) (out:List Int),out.length + 2000000 * wtV y ≤ Bg → spec_l02Writer__statement_3.f k R y more ⟨out,(d:Int)⟩ = some (out ++ SV y more d,(d:Int))) :
    ∀ (m i k:Nat) (out:List Int),i + m = x.f4.length → K + m + 1 ≤ k → out.length + 2000000 * wtL (x.f4.drop i) ≤ Bg → spec_l02Writer__block_2.l1 k x R (i:Int) out (d:Int) = some (out ++ BL (x.f4.drop i) d,(d:Int)):=by
  intro m
  induction m with
  | zero =>
    intro i k out hi hk ho
    obtain ⟨k,rfl⟩:∃ j,k = j + 1:=⟨k - 1,by omega⟩
    rw [spec_l02Writer__block_2.l1.eq_2,if_neg (by omega),List.drop_eq_nil_of_le (by omega),BL,List.append_nil]
  | succ m ih =>
    intro i k out hi hk ho
    obtain ⟨k,rfl⟩:∃ j,k = j + 1:=⟨k - 1,by omega⟩
    have hlt:i < x.f4.length:=by omega
    have hmem:=List.getElem_mem hlt
    have hwy:=wt_kid hmem
    rw [wtL_drop hlt] at ho
    have hl:=(len_ok _ x.f4[i] (Nat.le_refl _) d (by omega)).2 (!(x.f4.drop (i + 1)).isEmpty)
    have he:decide (((i + 1:Nat):Int) < (x.f4.length:Int)) = !(x.f4.drop (i + 1)).isEmpty:=by
      rw [last_iff hlt]
      by_cases h:i + 1 = x.f4.length
      · rw [decide_eq_false (by omega),decide_eq_true h]; rfl
      · rw [decide_eq_true (by omega),decide_eq_false h]; rfl
    rw [spec_l02Writer__block_2.l1.eq_2,if_pos (by omega),at?_nat hlt,Option.bind_some,w64_next (by omega),he,hS _ hmem k (by omega) _ out (by omega),Option.bind_some]
    rw [ih (i + 1) k _ (by omega) (by omega) (by rw [List.length_append]; omega),BL_drop hlt,List.append_assoc]
def BkI (x:SNode) (k:Nat):Prop:=∀ d:Nat,d + wtV x ≤ 2000 → ∀ out:List Int,out.length + 2000000 * wtV x ≤ Bg → impl_printer__block_3.f k x true out (d:Int) = some (true,out ++ BV x d,(d:Int))
def BkS (x:SNode) (k:Nat):Prop:=∀ d:Nat,d + 1 + wtV x ≤ 2000 → ∀ out:List Int,out.length + 2000000 * wtV x ≤ Bg → spec_l02Writer__block_2.f k x ⟨out,(d:Int)⟩ = some (out ++ BV x (d + 1),(d:Int))
def StA (y:SNode) (k:Nat):Prop:=StI y k ∧ StS y k ∧ ∀ d,d + wtV y ≤ 2000 → HI (impl_printer__block_3.f k) y d ∧ HS (spec_l02Writer__block_2.f k) y d
theorem bk_ok {x:SNode} (hx:Sm x):allV x = true → wtV x ≤ 1000 → (x.f0 = 10 → ∃ K,∀ k,K ≤ k → BkI x k ∧ BkS x k) ∧ (stmtB x = true → ∃ K,∀ k,K ≤ k → StA x k):=by
  induction hx with
  | mk h2 h3 h4 k ih =>
    rename_i x
    intro ha hw
    obtain ⟨hn,hnum,hkb,hall⟩:=all_ok ha
    have hwx:=wtV_eq x
    have kid:∀ y,y ∈ x.f4 → _:=fun y hy=>ih y hy (hall y hy) (by have:=wt_kid hy; omega)
    constructor
    · intro h0
      have hkk:=hkb
      unfold kidsB at hkk
      rw [h0] at hkk
      have hke:x.f4.all stmtB = true:=hkk
      obtain ⟨K,hK⟩:=unif (Q:=fun k y=>StA y k) fun y hy=>(kid y hy).2 (List.all_eq_true.1 hke y hy)
      refine ⟨K + x.f4.length + 3,fun k hk=>⟨fun d hd out ho=>?_,fun d hd out ho=>?_⟩⟩
      · obtain ⟨k,rfl⟩:∃ j,k = j + 1:=⟨k - 1,by omega⟩
        rw [impl_printer__block_3.f.eq_2,BV_eq]
        refine blk_runI x (impl_printer__block_3.f k) d K (by omega) h4 (fun y hy k' hk' more out ho=>?_) x.f4.length 0 k out (by omega) (by omega) (by rw [List.drop_zero]; omega)
        have hwy:=wt_kid hy
        exact (hK K (Nat.le_refl _) y hy).1 k' hk' d (by omega) more _ ((hK k (by omega) y hy).2.2 d (by omega)).1 out ho
      · obtain ⟨k,rfl⟩:∃ j,k = j + 1:=⟨k - 1,by omega⟩
        rw [spec_l02Writer__block_2.f.eq_2,BV_eq]
        unfold spec_l02Writer__block_2.e2
        have h:=blk_runS x (spec_l02Writer__block_2.f k) (d + 1) K (by omega) h4 (fun y hy k' hk' more out ho=>by
          have hwy:=wt_kid hy
          exact (hK K (Nat.le_refl _) y hy).2.1 k' hk' (d + 1) (by omega) more _ ((hK k (by omega) y hy).2.2 (d + 1) (by omega)).2 out ho) x.f4.length 0 k out (by omega) (by omega) (by rw [List.drop_zero]; omega)
        rw [List.drop_zero] at h
        rw [w64_next (by omega),show (0:Int) = ((0:Nat):Int) from rfl,h,Option.bind_some]
        show some (_,w64 (((d + 1:Nat):Int) - 1)) = _
        rw [show w64 ((((d + 1:Nat):Int)) - 1) = (d:Int) by rw [w64_id (by omega) (by omega)]; omega]
    · intro hs
      obtain ⟨K1,h1⟩:=st_ok (.mk h2 h3 h4 k) ha hs hw
      obtain ⟨K2,hK2⟩:=unif (Q:=fun k y=>y.f0 = 10 → BkI y k ∧ BkS y k) (l:=x.f4) fun y hy=>by
        by_cases h0:y.f0 = 10
        · obtain ⟨K,hK⟩:=(kid y hy).1 h0
          exact ⟨K,fun k hk _=>hK k hk⟩
        · exact ⟨0,fun k hk h=>absurd h h0⟩
      refine ⟨max K1 K2,fun k hk=>⟨(st_mono (by omega) h1).1,(st_mono (by omega) h1).2,fun d hd=>⟨fun y hy h0 out ho=>?_,fun y hy h0 out ho=>?_⟩⟩⟩
      · have hwy:=wt_kid hy
        exact (hK2 k (by omega) y hy h0).1 (d + 1) (by omega) out ho
      · have hwy:=wt_kid hy
        exact (hK2 k (by omega) y hy h0).2 d (by omega) out ho
end Go.Proofs.YtaelpeekimbmcaaGreatDoor.T
