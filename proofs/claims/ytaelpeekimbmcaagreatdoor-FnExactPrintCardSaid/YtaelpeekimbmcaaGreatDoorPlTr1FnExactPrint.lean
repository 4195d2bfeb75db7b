/- Trees: numbers, names, kids of a node: the program's and the reference's answers as one. -/
import Derived.Test.YtaelpeekimbmcaaGreatDoorPlNFnExactPrint
import Derived.Test.YtaelpeekimbmcaaGreatDoorPlL
set_option linter.unusedVariables false
set_option linter.unusedSimpArgs false
namespace Go.Proofs.YtaelpeekimbmcaaGreatDoor.T
open Go.RowKit Go.Proofs.YtaelpeekimbmcaaGreatDoor.E Go.Proofs.YtaelpeekimbmcaaGreatDoor.V
/-- One of these, told by a row of tests. -/
def orChain {α:Type} [DecidableEq α]:List α → α → Option Bool
  | [],_=>some false
  | [c],a=>some (decide (a = c))
  | c :: d :: l,a=>if a = c then some (decide (a = c)) else orChain (d :: l) a
def isIn {α:Type} [DecidableEq α] (l:List α) (a:α):Bool:=l.any fun x=>decide (a = x)
theorem orc {α:Type} [DecidableEq α]:∀ (l:List α) (a:α),orChain l a = some (isIn l a)
  | [],_=>rfl
  | [c],a=>by simp [orChain,isIn]
  | c :: d :: l,a=>by
    rw [orChain,orc (d :: l) a]
    by_cases h:a = c
    · rw [if_pos h]; simp [isIn,h]
    · rw [if_neg h]; simp [isIn,h]
theorem isome {o:Option Bool} (h:o.isSome = true):o = some (o.getD false):=by
  cases o with
  | none=>cases h
  | some b=>rfl
theorem ich (k:Nat) (c:Int):impl_CharOK.f k c = spec_CharOK.f k c:=by
  unfold impl_CharOK.f impl_CharOK.e1 spec_CharOK.f spec_CharOK.e1
  simp only [within_eq,in_eq,Option.bind_some]
  by_cases h1:0 ≤ c <;> by_cases h2:c ≤ 1114111 <;> by_cases h3:55296 ≤ c <;> by_cases h4:c ≤ 57343 <;> by_cases h5:c ≤ 55295 <;> by_cases h6:57344 ≤ c <;> first | (exfalso; omega) | simp [h1,h2,h3,h4,h5,h6]
theorem sch (k:Nat) (c:Int):spec_CharOK.f k c = some ((spec_CharOK.f 0 c).getD false):=by
  have h:spec_CharOK.f k c = spec_CharOK.f 0 c:=rfl
  rw [h]
  apply isome
  unfold spec_CharOK.f spec_CharOK.e1
  simp only [in_eq,Option.bind_some]
  split <;> rfl
def numB (x:SNode):Bool:=(spec_l02Number.f 0 x).getD false
theorem snum (k:Nat) (x:SNode):spec_l02Number.f k x = some (numB x):=by
  have h:spec_l02Number.f k x = spec_l02Number.f 0 x:=rfl
  rw [h]
  apply isome
  unfold spec_l02Number.f
  rw [show spec_l02Number.e1 0 x = orChain [3,4,5,6,20] x.f0 from rfl,orc]
  have hs:=sch 0 x.f1
  generalize (spec_CharOK.f 0 x.f1).getD false = b at hs
  simp only [in_eq,hs,Option.bind_some]
  repeat' split
  all_goals rfl
theorem inum (k:Nat) (x:SNode):impl_Node__hasN.f k x = some (numB x):=by
  rw [← snum k x]
  unfold spec_l02Number.f impl_Node__hasN.f impl_isType.f
  rw [show impl_Node__hasN.e1 k x = spec_l02Number.e1 k x from rfl]
  simp only [in_eq,within_eq,ich,Option.bind_some]
/-! Names. -/
def L1:List ByteArray:=[⟨#[61]⟩,⟨#[35]⟩,⟨#[60]⟩,⟨#[60,61]⟩,⟨#[62]⟩,⟨#[62,61]⟩]
def L2:List ByteArray:=[⟨#[43]⟩,⟨#[45]⟩,⟨#[79,82]⟩]
def L3:List ByteArray:=[⟨#[42]⟩,⟨#[68,73,86]⟩,⟨#[77,79,68]⟩,⟨#[38]⟩]
def binL:List ByteArray:=((impl_binaries.f 0).getD [])
set_option maxRecDepth 100000 in
theorem binL_eq (k:Nat):impl_binaries.f k = some binL:=by
  have:impl_binaries.f 0 = some binL:=by kernel_rfl
  exact this
set_option maxRecDepth 100000 in
theorem binL_is:binL = [⟨#[43]⟩,⟨#[45]⟩,⟨#[42]⟩,⟨#[68,73,86]⟩,⟨#[77,79,68]⟩,⟨#[61]⟩,⟨#[35]⟩,⟨#[60]⟩,⟨#[60,61]⟩,⟨#[62]⟩,⟨#[62,61]⟩,⟨#[38]⟩,⟨#[79,82]⟩]:=by kernel_rfl
theorem level (k:Nat) (a:ByteArray):∃ n,spec_l02Level.f k a = some n ∧ decide ((0:Int) < n) = oneOf binL a:=by
  have e1:spec_l02Level.e1 k a = orChain L1 a:=rfl
  have e2:spec_l02Level.e2 k a = orChain L2 a:=rfl
  have e3:spec_l02Level.e3 k a = orChain L3 a:=rfl
  have hb:oneOf binL a = (isIn L1 a || isIn L2 a || isIn L3 a):=by
    rw [binL_is]
    simp only [oneOf,isIn,L1,L2,L3,List.any_cons,List.any_nil,Bool.or_false,eq_comm (a:=a)]
    ac_rfl
  unfold spec_l02Level.f
  rw [e1,e2,e3,orc,orc,orc,hb]
  simp only [Option.bind_some]
  cases isIn L1 a <;> cases isIn L2 a <;> cases isIn L3 a <;> exact ⟨_,rfl,rfl⟩
def namesB (x:SNode):Bool :=
  if isIn [1,2,3,4,5,6] x.f0 then modB x.f2 && decide (x.f3 = (⟨#[]⟩:ByteArray))
  else if isIn [12,21] x.f0 then modB x.f2 && (decide (x.f3 = (⟨#[]⟩:ByteArray)) || modB x.f3)
  else if x.f0 = 23 then (decide (x.f2 = ⟨#[45]⟩) || decide (x.f2 = ⟨#[126]⟩)) && decide (x.f3 = (⟨#[]⟩:ByteArray))
  else if x.f0 = 24 then oneOf binL x.f2 && decide (x.f3 = (⟨#[]⟩:ByteArray))
  else decide (x.f2 = (⟨#[]⟩:ByteArray)) && decide (x.f3 = (⟨#[]⟩:ByteArray))
theorem snames (x:SNode):Evr (fun k=>spec_l02Names.f k x) (namesB x):=by
  unfold spec_l02Names.f namesB
  refine ev_bind _ (ev_of fun k=>orc [1,2,3,4,5,6] x.f0) ?_
  by_cases h1:isIn [1,2,3,4,5,6] x.f0 = true
  · rw [if_pos h1]
    refine ev_pos h1 (ev_bind _ ?_ ev_some)
    unfold spec_l02Names.e2
    refine ev_bind _ (lname_ev _) ?_
    cases modB x.f2 <;> exact ev_some
  · rw [if_neg h1]
    refine ev_neg h1 (ev_bind _ (ev_of fun k=>orc [12,21] x.f0) ?_)
    by_cases h2:isIn [12,21] x.f0 = true
    · rw [if_pos h2]
      refine ev_pos h2 (ev_bind _ ?_ ev_some)
      unfold spec_l02Names.e4
      refine ev_bind _ (lname_ev _) ?_
      cases modB x.f2
      · exact ev_some
      · refine ev_pos rfl ?_
        by_cases h3:x.f3 = (⟨#[]⟩:ByteArray)
        · exact ev_pos h3 (by simp only [h3,decide_true,Bool.true_or,Bool.and_self]; exact ev_some)
        · exact ev_neg h3 (ev_bind _ (lname_ev _) (by simp only [h3,decide_false,Bool.false_or,Bool.true_and]; exact ev_some))
    · rw [if_neg h2]
      refine ev_neg h2 ?_
      by_cases h4:x.f0 = 23
      · rw [if_pos h4]
        refine ev_pos h4 (ev_bind _ (ev_of fun k=>?_) ev_some)
        unfold spec_l02Names.e5
        by_cases h3:x.f3 = (⟨#[]⟩:ByteArray)
        · rw [if_pos h3]
          by_cases h5:x.f2 = (⟨#[45]⟩:ByteArray)
          · rw [if_pos h5]; simp [h3,h5]
          · rw [if_neg h5]; simp [h3,h5]
        · rw [if_neg h3]; simp [h3]
      · rw [if_neg h4]
        refine ev_neg h4 ?_
        by_cases h5:x.f0 = 24
        · rw [if_pos h5]
          refine ev_pos h5 (ev_bind _ (ev_of fun k=>?_) ev_some)
          unfold spec_l02Names.e6
          by_cases h3:x.f3 = (⟨#[]⟩:ByteArray)
          · obtain ⟨n,hn,hd⟩:=level k x.f2
            rw [if_pos h3,hn,Option.bind_some,hd]; simp [h3]
          · rw [if_neg h3]; simp [h3]
        · rw [if_neg h5]
          refine ev_neg h5 (ev_bind _ (ev_of fun k=>?_) ev_some)
          unfold spec_l02Names.e7
          by_cases h3:x.f2 = (⟨#[]⟩:ByteArray)
          · rw [if_pos h3]; simp [h3]
          · rw [if_neg h3]; simp [h3]
theorem inames (x:SNode) (s2:x.f2.size < 9223372036854775807) (s3:x.f3.size < 9223372036854775807):Evr (fun k=>impl_Node__hasNames.f k x) (namesB x):=by
  unfold impl_Node__hasNames.f namesB
  refine ev_bind _ (ev_of fun k=>orc [1,2,3,4,5,6] x.f0) ?_
  by_cases h1:isIn [1,2,3,4,5,6] x.f0 = true
  · rw [if_pos h1]
    refine ev_pos h1 (ev_bind _ ?_ ev_some)
    unfold impl_Node__hasNames.e2
    refine ev_bind _ (isname_ev _ s2) ?_
    cases modB x.f2 <;> exact ev_some
  · rw [if_neg h1]
    refine ev_neg h1 (ev_bind _ (ev_of fun k=>orc [12,21] x.f0) ?_)
    by_cases h2:isIn [12,21] x.f0 = true
    · rw [if_pos h2]
      refine ev_pos h2 (ev_bind _ ?_ ev_some)
      unfold impl_Node__hasNames.e4
      refine ev_bind _ (isname_ev _ s2) ?_
      cases modB x.f2
      · exact ev_some
      · refine ev_pos rfl ?_
        by_cases h3:x.f3 = (⟨#[]⟩:ByteArray)
        · exact ev_pos h3 (by simp only [h3,decide_true,Bool.true_or,Bool.and_self]; exact ev_some)
        · exact ev_neg h3 (ev_bind _ (isname_ev _ s3) (by simp only [h3,decide_false,Bool.false_or,Bool.true_and]; exact ev_some))
    · rw [if_neg h2]
      refine ev_neg h2 ?_
      by_cases h4:x.f0 = 23
      · rw [if_pos h4]
        refine ev_pos h4 (ev_bind _ (ev_of fun k=>?_) ev_some)
        unfold impl_Node__hasNames.e5
        by_cases h5:x.f2 = (⟨#[45]⟩:ByteArray)
        · rw [if_pos h5]; simp [h5]
        · rw [if_neg h5]
          by_cases h6:x.f2 = (⟨#[126]⟩:ByteArray)
          · rw [if_pos h6]; simp [h6]
          · rw [if_neg h6]; simp [h5,h6]
      · rw [if_neg h4]
        refine ev_neg h4 ?_
        by_cases h5:x.f0 = 24
        · rw [if_pos h5]
          refine ev_pos h5 (ev_bind _ ?_ ev_some)
          unfold impl_Node__hasNames.e6
          refine ev_bind _ (ev_of binL_eq) (ev_bind _ (contains_ev binL x.f2 (by rw [binL_is]; decide)) ?_)
          cases oneOf binL x.f2 <;> exact ev_some
        · rw [if_neg h5]
          refine ev_neg h5 (ev_bind _ (ev_of fun k=>?_) ev_some)
          unfold impl_Node__hasNames.e7
          by_cases h3:x.f2 = (⟨#[]⟩:ByteArray)
          · rw [if_pos h3]; simp [h3]
          · rw [if_neg h3]; simp [h3]
end Go.Proofs.YtaelpeekimbmcaaGreatDoor.T
