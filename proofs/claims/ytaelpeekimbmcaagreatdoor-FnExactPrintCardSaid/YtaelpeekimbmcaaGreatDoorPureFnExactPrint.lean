/- The law of Print, in plain Lean: both print alike. -/
import Derived.Test.YtaelpeekimbmcaaGreatDoorPlPr7FnExactPrint
set_option linter.unusedVariables false
set_option linter.unusedSimpArgs false
namespace Go.Proofs.YtaelpeekimbmcaaGreatDoor.T
open Go.RowKit Go.Proofs.YtaelpeekimbmcaaGreatDoor.E Go.Proofs.YtaelpeekimbmcaaGreatDoor.V
/-- A bound's rest: less than nothing, or the tree is small. -/
def Rest (x:Prop) (left r:Int):Prop:=r < 0 ∨ (0 ≤ r ∧ r ≤ left ∧ x)
theorem sz_run (l : List SNode) (R : SNode → Int → Option Int) (hR : ∀ y, y ∈ l → ∀ left, 0 ≤ left → left ≤ 1048576 → ∃ r, R y left = some r ∧ Rest (Sm y) left r) (h4 : l.length ≤ 1048576) :
    ∀ (m i n:Nat) (left:Int),i + m = l.length → m + 1 ≤ n → 0 ≤ left → left ≤ 1048576 → ∃ v,laws_szNodeS.l1 n l R left (i:Int) = some v ∧ match v with
      | .inl r=>r < 0
      | .inr r=>0 ≤ r ∧ r ≤ left ∧ ∀ y,y ∈ l.drop i → Sm y:=by
  intro m
  induction m with
  | zero =>
    intro i n left hi hn h0 h1
    obtain ⟨n,rfl⟩:∃ j,n = j + 1:=⟨n - 1,by omega⟩
    rw [List.drop_eq_nil_of_le (by omega),laws_szNodeS.l1.eq_2,if_neg (by omega)]
    exact ⟨_,rfl,h0,Int.le_refl _,fun y hy=>by cases hy⟩
  | succ m ih =>
    intro i n left hi hn h0 h1
    obtain ⟨n,rfl⟩:∃ j,n = j + 1:=⟨n - 1,by omega⟩
    have hlt:i < l.length:=by omega
    obtain ⟨r,e1,e2⟩:=hR _ (List.getElem_mem hlt) left h0 h1
    rw [List.drop_eq_getElem_cons hlt,laws_szNodeS.l1.eq_2,if_pos (by omega),at?_nat hlt,Option.bind_some,e1,Option.bind_some]
    rcases e2 with e2 | ⟨e2,e3,e4⟩
    · rw [if_pos e2]
      exact ⟨.inl (-1),rfl,by show (-1:Int) < 0; omega⟩
    · rw [if_neg (by omega),w64_next (by omega)]
      obtain ⟨v,g1,g2⟩:=ih (i + 1) n r (by omega) (by omega) e2 (by omega)
      refine ⟨v,g1,?_⟩
      cases v with
      | inl q=>exact g2
      | inr q =>
        have g2:0 ≤ q ∧ q ≤ r ∧ ∀ y,y ∈ l.drop (i + 1) → Sm y:=g2
        refine ⟨g2.1,by omega,fun y hy=>?_⟩
        rcases List.mem_cons.1 hy with rfl | hy
        · exact e4
        · exact g2.2.2 y hy
theorem sz_ev {x:SNode} (hx:gSNode x):∃ K,∀ k,K ≤ k → ∀ left,0 ≤ left → left ≤ 1048576 → ∃ r,laws_szNode.f k x left = some r ∧ Rest (Sm x) left r:=by
  have hm:maxLen = 9223372036854775807:=rfl
  induction hx with
  | @mk x h0 h1 h2 h3 h4 k4 ih =>
    obtain ⟨K,hK⟩:=unif ih
    refine ⟨max K 1048578 + 1,fun k hk left hl0 hl1=>?_⟩
    obtain ⟨k,rfl⟩:∃ j,k = j + 1:=⟨k - 1,by omega⟩
    have hw1:w64 (left - (x.f2.size:Int)) = left - x.f2.size:=w64_id (by omega) (by omega)
    rw [laws_szNode.f.eq_2,hw1]
    by_cases c1:left - (x.f2.size:Int) < 0
    · rw [if_pos c1]; exact ⟨-1,rfl,.inl (by omega)⟩
    · have hw2:w64 (left - (x.f2.size:Int) - (x.f3.size:Int)) = left - x.f2.size - x.f3.size:=w64_id (by omega) (by omega)
      rw [if_neg c1,hw2]
      by_cases c2:left - (x.f2.size:Int) - (x.f3.size:Int) < 0
      · rw [if_pos c2]; exact ⟨-1,rfl,.inl (by omega)⟩
      · rw [if_neg c2]
        unfold laws_szNodeS.f laws_szNodeS.e2
        have hw3:w64 (left - (x.f2.size:Int) - (x.f3.size:Int) - (x.f4.length:Int)) = left - x.f2.size - x.f3.size - x.f4.length:=w64_id (by omega) (by omega)
        rw [hw3]
        by_cases c3:left - (x.f2.size:Int) - (x.f3.size:Int) - (x.f4.length:Int) < 0
        · rw [if_pos c3,Option.bind_some,if_pos (by omega)]
          exact ⟨-1,rfl,.inl (by omega)⟩
        · rw [if_neg c3]
          obtain ⟨v,g1,g2⟩:=sz_run x.f4 (laws_szNode.f k) (fun y hy left h0 h1=>hK k (by omega) y hy left h0 h1) (by omega) x.f4.length 0 k (left - x.f2.size - x.f3.size - x.f4.length) (by omega) (by omega) (by omega) (by omega)
          have g1:laws_szNodeS.l1 k x.f4 (laws_szNode.f k) (left - x.f2.size - x.f3.size - x.f4.length) 0 = some v:=g1
          rw [g1]
          cases v with
          | inl q =>
            have g2:q < 0:=g2
            simp only [Option.bind_some]
            rw [if_pos g2]
            exact ⟨-1,rfl,.inl (by omega)⟩
          | inr q =>
            have g2:0 ≤ q ∧ q ≤ left - x.f2.size - x.f3.size - x.f4.length ∧ ∀ y,y ∈ x.f4.drop 0 → Sm y:=g2
            simp only [Option.bind_some]
            rw [if_neg (by omega)]
            exact ⟨q,rfl,.inr ⟨g2.1,by omega,.mk (by omega) (by omega) (by omega) fun y hy=>g2.2.2 y (by rw [List.drop_zero]; exact hy)⟩⟩
def toV (x:SNode):SNode × Int × Int × ByteArray × ByteArray × (List SNode) × Int × Int × ByteArray × ByteArray × (List SNode):=(x,x.f0,x.f1,x.f2,x.f3,x.f4,x.f0,x.f1,x.f2,x.f3,x.f4)
theorem to_run (l : List SNode) (R : SNode → Option (SNode × Int × Int × ByteArray × ByteArray × (List SNode) × Int × Int × ByteArray × ByteArray × (List SNode))) (hR : ∀ y, y ∈ l → R y = some (toV y)) (h4 : l.length ≤ 1048576) :
    ∀ (m i n:Nat) (acc:List SNode),i + m = l.length → m + 1 ≤ n → acc.length = l.length → acc.take i = l.take i → laws_toNodeS.l1 n l R acc (i:Int) = some l:=by
  intro m
  induction m with
  | zero =>
    intro i n acc hi hn ha ht
    obtain ⟨n,rfl⟩:∃ j,n = j + 1:=⟨n - 1,by omega⟩
    rw [laws_toNodeS.l1.eq_2,if_neg (by omega)]
    rw [List.take_of_length_le (by omega),List.take_of_length_le (by omega)] at ht
    rw [ht]
  | succ m ih =>
    intro i n acc hi hn ha ht
    obtain ⟨n,rfl⟩:∃ j,n = j + 1:=⟨n - 1,by omega⟩
    have hlt:i < l.length:=by omega
    rw [laws_toNodeS.l1.eq_2,if_pos (by omega),at?_nat hlt,Option.bind_some,hR _ (List.getElem_mem hlt),Option.bind_some,at?_nat (l:=acc) (i:=i) (by omega),Option.bind_some,Int.toNat_natCast,w64_next (by omega)]
    refine ih (i + 1) n _ (by omega) (by omega) (by rw [List.length_set]; exact ha) ?_
    rw [List.take_add_one,List.take_add_one,List.take_set_of_le (Nat.le_refl i),ht,List.getElem?_set_self (by omega),List.getElem?_eq_getElem hlt]
    rfl
theorem to_ev {x:SNode} (hx:Sm x):∃ K,∀ k,K ≤ k → laws_toNode.f k x = some (toV x):=by
  induction hx with
  | @mk x h2 h3 h4 hk ih =>
    obtain ⟨K,hK⟩:=unif ih
    refine ⟨max K (x.f4.length + 1) + 1,fun k hk'=>?_⟩
    obtain ⟨k,rfl⟩:∃ j,k = j + 1:=⟨k - 1,by omega⟩
    rw [laws_toNode.f.eq_2]
    unfold laws_toNodeS.f laws_toNodeS.e2
    have:=to_run x.f4 (laws_toNode.f k) (hK k (by omega)) h4 x.f4.length 0 k (List.replicate x.f4.length (⟨0,0,⟨#[]⟩,⟨#[]⟩,[]⟩:SNode)) (by omega) (by omega) (by simp) (by simp)
    have h:laws_toNodeS.l1 k x.f4 (laws_toNode.f k) (List.replicate (Int.toNat (x.f4.length:Int)) (⟨(0:Int),(0:Int),(⟨#[]⟩:ByteArray),(⟨#[]⟩:ByteArray),([]:List SNode)⟩:SNode)) 0 = some x.f4:=this
    rw [if_pos (by omega),h]
    cases x; rfl
theorem eq_run (l : List SNode) (R : SNode → SNode → Option Bool) (hR : ∀ y, y ∈ l → R y y = some true) (h4 : l.length ≤ 1048576) :
    ∀ (m i n:Nat),i + m = l.length → m + 1 ≤ n → laws_eqNodeS.l1 n l l R (i:Int) = some (.inr ()):=by
  intro m
  induction m with
  | zero =>
    intro i n hi hn
    obtain ⟨n,rfl⟩:∃ j,n = j + 1:=⟨n - 1,by omega⟩
    rw [laws_eqNodeS.l1.eq_2,if_neg (by omega)]
  | succ m ih =>
    intro i n hi hn
    obtain ⟨n,rfl⟩:∃ j,n = j + 1:=⟨n - 1,by omega⟩
    have hlt:i < l.length:=by omega
    rw [laws_eqNodeS.l1.eq_2,if_pos (by omega),at?_nat hlt,Option.bind_some,Option.bind_some,hR _ (List.getElem_mem hlt),Option.bind_some,if_pos rfl,w64_next (by omega)]
    exact ih (i + 1) n (by omega) (by omega)
theorem eq_ev {x:SNode} (hx:Sm x):∃ K,∀ k,K ≤ k → laws_eqNode.f k x x = some true:=by
  induction hx with
  | @mk x h2 h3 h4 hk ih =>
    obtain ⟨K,hK⟩:=unif ih
    refine ⟨max K (x.f4.length + 1) + 1,fun k hk'=>?_⟩
    obtain ⟨k,rfl⟩:∃ j,k = j + 1:=⟨k - 1,by omega⟩
    rw [laws_eqNode.f.eq_2,if_pos rfl,if_pos rfl,if_pos rfl,if_pos rfl]
    unfold laws_eqNodeS.f laws_eqNodeS.e2
    have h:laws_eqNodeS.l1 k x.f4 x.f4 (laws_eqNode.f k) 0 = some (.inr ()):=eq_run x.f4 (laws_eqNode.f k) (hK k (by omega)) h4 x.f4.length 0 k (by omega) (by omega)
    rw [if_pos rfl,h]; rfl
/-- A right tree: what is right about it. -/
theorem both2 {x:SNode} (hx:Sm x):∃ b,Evr (fun k=>spec_TreeOK.f k x) b ∧ Evr (fun k=>impl_TreeOK.f k x) b ∧ (b = true → x.f0 = 1 ∧ allV x = true ∧ wtV x ≤ 700):=by
  obtain ⟨b,e1,e2⟩:=both hx
  refine ⟨b,e1,e2,fun hb=>?_⟩
  by_cases h1:x.f0 = 1
  · obtain ⟨K3,e3⟩:=fits_ev hx
    have e4:Evr (fun k=>impl_TreeOK.f k x) (fitsV x 1 0).1:=by
      unfold impl_TreeOK.f impl_TreeOK.e1
      exact ev_bind _ (ev_pos h1 (ev_bind _ ⟨K3,fun k hk=>e3 k hk 1 0 (by omega) (by omega) (by omega) (by omega)⟩ ev_some)) ev_some
    have hf:(fitsV x 1 0).1 = true:=by rw [← ev_uniq e2 e4,hb]
    have hrel:=relV hx 1 700 (by omega)
    have hw:=fitsV_wt hx 1 0 hf
    have hc:allV x = true ∧ 0 ≤ leftV x 700 1:=by
      refine Classical.byContradiction fun hn=>?_
      have:=hrel.2 hn
      rw [show (700:Int) - 700 = 0 by omega,hf] at this
      cases this
    have hs:=hrel.1 hc
    rw [show (700:Int) - 700 = 0 by omega] at hs
    rw [hs] at hw
    have hw:700 - leftV x 700 1 = 0 + (wtV x:Int):=hw
    exact ⟨h1,hc.1,by omega⟩
  · have e4 : Evr (fun k => impl_TreeOK.f k x) false := by
      unfold impl_TreeOK.f impl_TreeOK.e1
      exact ev_bind _ (ev_neg h1 ev_some) ev_some
    have:=ev_uniq e2 e4
    rw [hb] at this
    cases this
end Go.Proofs.YtaelpeekimbmcaaGreatDoor.T
namespace Go.Proofs.YtaelpeekimbmcaaGreatDoor.E
open Go.RowKit Go.Proofs.YtaelpeekimbmcaaGreatDoor.T
theorem pureFnExactPrint (x0:SNode) (h0:gSNode x0):∃ k,laws_FnExactPrint.f k x0 = some true:=by
  refine Evr.rounds (g:=fun k=>laws_FnExactPrint.f k x0) ?_
  obtain ⟨K,hK⟩:=sz_ev h0
  by_cases hs:Sm x0
  · obtain ⟨b,e1,e2,hb⟩:=both2 hs
    have et:Evr (fun k=>laws_toNode.f k x0) (toV x0):=to_ev hs
    have ee:Evr (fun k=>laws_eqNode.f k x0 x0) true:=eq_ev hs
    have ep:∃ r,Evr (fun k=>spec_Print.f k x0) r ∧ Evr (fun k=>impl_Print.f k x0) r:=by
      cases b with
      | true =>
        obtain ⟨p1,p2,p3⟩:=hb rfl
        obtain ⟨q1,q2⟩:=print_ok hs p2 p1 p3 e2
        refine ⟨_,?_,q2⟩
        unfold spec_Print.f
        exact ev_bind _ e1 (ev_pos rfl (ev_bind _ q1 ev_some))
      | false =>
        refine ⟨(⟨#[]⟩,1),?_,?_⟩
        · unfold spec_Print.f
          exact ev_bind _ e1 (ev_neg (by simp) ev_some)
        · unfold impl_Print.f
          exact ev_bind _ e2 (ev_neg (by simp) ev_some)
    obtain ⟨r,r1,r2⟩:=ep
    have main:Evr (fun k=>(laws_toNode.f k x0).bind fun r4=>(spec_Print.f k r4.1).bind fun r6=>(laws_toNode.f k x0).bind fun r8=>(impl_Print.f k r8.1).bind fun r10=>(laws_FnExactPrint.e1 k r6 r10).bind fun y13=>if y13 = true then (some false) else ((laws_toNode.f k x0).bind fun r17=>(laws_eqNode.f k r8.1 r17.1).bind fun r19=>if r19 = true then (some true) else (some false))) true:=by
      refine ev_bind _ et (ev_bind r r1 (ev_bind _ et (ev_bind r r2 (ev_bind false (ev_of fun k=>?_) (ev_neg (by simp) (ev_bind _ et (ev_bind true ee (ev_pos rfl ev_some))))))))
      unfold laws_FnExactPrint.e1
      rw [if_pos rfl]
      simp
    obtain ⟨K2,hK2⟩:=main
    refine ⟨max K K2,fun k hk=>?_⟩
    obtain ⟨r,g1,g2⟩:=hK k (by omega) 1048576 (by omega) (by omega)
    show laws_FnExactPrint.f k x0 = some true
    unfold laws_FnExactPrint.f
    rw [g1,Option.bind_some]
    split
    · rfl
    · exact hK2 k (by omega)
  · refine ⟨K,fun k hk=>?_⟩
    obtain ⟨r,g1,g2⟩:=hK k hk 1048576 (by omega) (by omega)
    show laws_FnExactPrint.f k x0 = some true
    unfold laws_FnExactPrint.f
    rw [g1,Option.bind_some]
    rcases g2 with g2 | g2
    · rw [if_pos g2]
    · exact absurd g2.2.2 hs
end Go.Proofs.YtaelpeekimbmcaaGreatDoor.E
