/- The engine, part SC: copies into a row of the frame's own. Plain lemmas; no program. -/
import Derived.Test.YtoclajfeeebbbadGreatDoorEng8
import Derived.Lib.Builder
import Derived.Laws.Externs
set_option linter.unusedVariables false
set_option linter.unusedSectionVars false
set_option linter.unusedSimpArgs false
namespace Go.Proofs.YtoclajfeeebbbadGreatDoor.E
open Go.RowKit
variable [LaidFacts]
/-- So many elements of one row laid over another, from a place on. -/
def cpRow {α:Type} (xs ys:List α) (lo k:Nat):List α:=xs.take lo ++ (ys.take k ++ xs.drop (lo + k))
theorem cpRow_length {α:Type} {xs ys:List α} {lo k:Nat} (h:lo + k ≤ xs.length) (h':k ≤ ys.length):(cpRow xs ys lo k).length = xs.length:=by simp [cpRow]; omega
theorem cpRow_at {α:Type} {xs ys:List α} {lo k:Nat} (h:lo + k ≤ xs.length) (h':k ≤ ys.length) (i:Nat):(cpRow xs ys lo k)[i]? = if lo ≤ i ∧ i < lo + k then ys[i - lo]? else xs[i]?:=by
 unfold cpRow
 by_cases h1:i < lo
 ·rw [List.getElem?_append_left (by simp; omega),List.getElem?_take,if_pos h1,if_neg (by omega)]
 ·rw [List.getElem?_append_right (by simp; omega)]
  simp only [List.length_take,Nat.min_eq_left (show lo ≤ xs.length by omega)]
  by_cases h2:i < lo + k
  ·rw [List.getElem?_append_left (by simp; omega),List.getElem?_take,if_pos (by omega),if_pos (by omega)]
  ·rw [List.getElem?_append_right (by simp; omega),if_neg (by omega)]
   simp only [List.length_take,Nat.min_eq_left h',List.getElem?_drop]
   congr 1; omega
theorem cpRow_map {α β:Type} (f:α → β) (xs ys:List α) (lo k:Nat):cpRow (xs.map f) (ys.map f) lo k = (cpRow xs ys lo k).map f:=by simp [cpRow,List.map_take,List.map_drop]
theorem one_at {α:Type}:∀ {xs:List (List α)} (hz:∀ e ∈ xs,e.length = 1) {i:Nat} {x:α},xs.flatten[i]? = some x → xs[i]? = some [x]
 | [],_,i,x,h=>by simp at h
 | e :: xs,hz,i,x,h=>by
  obtain ⟨y,rfl⟩:=List.length_eq_one_iff.1 (hz e (List.mem_cons_self ..))
  cases i with
  | zero=>simpa using h
  | succ i=>simpa using one_at (fun e he=>hz e (List.mem_cons_of_mem _ he)) (by simpa using h)
section
variable {P:Program} {st:St} {a:Act} {w:World} {r:Rs}
/-- A copy into a row of which no cell is frozen. -/
theorem run_copy_rowH {P:Program} (w:World) (dT sT ty elem:TypeId) (g o dLen dCap:Nat) (a:Addr) (sLen sCap:Nat) (cur:Array Value) (t:TypeId) (cs:List Value)
  (hu:P.underlying dT = some (.slice elem)) (hs:(P.info? elem).map (·.size) = some 1) {fz:Nat × Nat}
  (hg:w.heap[g]? = some (.cells cur t fz)) (hfz:FreeZ fz cur.size) (hn:cs.length = Nat.min sLen dLen)
  (hsrc:∀ j v,cs[j]? = some v → w.cell? (a.add j) = some v) (hfit:o + cs.length ≤ cur.size) (h1:∀ v ∈ cs,v.oneCell' = true) :
  (Builtin.copy_ #[dT,sT] ty #[.slice (some ⟨g,o,none⟩) dLen dCap,.slice (some a) sLen sCap]).run P w =
   .ok (goInt cs.length) (w.setRow g (cur.toList.take o ++ cs ++ cur.toList.drop (o + cs.length)).toArray):=by
 have hl:=run_loadCells_list (P:=P) w a cs hsrc
 have hst:=run_storeCells_atH P g o t fz cs 0 cur w hg hfz (by simpa using hfit) h1
 cases hq:P.info? elem with
 | none=>simp [hq] at hs
 | some i =>
  have hi:i.size = 1:=by simpa [hq] using hs
  simp [Builtin.copy_,run_underlying hu,Builtin.lenOf,Builtin.firstCells,sizeOf,typeInfo,hq,hi,← hn,hl,hst]
/-- Where a copy goes: the place, the first element, how many there are. -/
def cpTo (st:St):PC → Option (Place × Nat × Nat)
 | .al p=>match st.at p with
  | some (.own _ xs)=>some (p,0,xs.length)
  | _=>none
 | .vw p lo n s=>match Nat.beq s 1 with
  | true=>some (p,lo,n)
  | false=>none
 | _=>none
theorem OpE.copy {o:Oper} {x y:Operand} {t t':TypeId} {d:Nat} {e:TypeId} {c c2:PC} {p:Place} {lo n k:Nat} {xs ys:List (List PC)} (ho:o.op = .call { callee:=.builtin .copy,args:=#[x,y],argTypes:=#[t,t'] }) (hd:o.dst = some d) (hod:st.okd d)
  (ht:P.underlying t = some (.slice e)) (hes:(P.info? e).map (·.size) = some 1) (he:P.cellsOf e = 1) (hx:st.use x = some ⟨.one,[c]⟩) (hc:cpTo st c = some (p,lo,n)) (hp:st.at p = some (.own e xs)) (hle:lo + n ≤ xs.length) (hy:st.use y = some ⟨.one,[c2]⟩) (hr:St.row P st 4 c2 = some (1,ys))
  (hk:k = Nat.min ys.length n):OpE P o st ((st.setAt p (.own e (cpRow xs ys lo k))).assign d ⟨.one,[.sc (.int .i64 k)]⟩):=by
 intro a w r hi K Q hK
 have hlv:st.lives p:=⟨_,hp,by simp⟩
 have hce:=hi.cell p _ hp
 simp only [RepC] at hce
 obtain ⟨vals,ho1,ho2,ho3,ho4⟩:=hce
 rw [he] at ho1 ho3
 obtain ⟨_,hxc,_⟩:=(hi.use hx).out
 -- what the operands are
 have hdst:∃ dp dcap,a.eval x = .slice dp n dcap ∧ (0 < n → ∃ g cap,dp = some ⟨g,lo,none⟩ ∧ alpha a w r p = .slice (some ⟨g,0,none⟩) xs.length cap):=by
  have hown:(alpha a w r p = .slice none 0 0 ∧ xs.length = 0) ∨ ∃ g cap cur fz,alpha a w r p = .slice (some ⟨g,0,none⟩) xs.length cap ∧ w.heap[g]? = some (.cells cur e fz) ∧ xs.length ≤ cap:=by
   rcases ho1.2 with ⟨h1,h2⟩ | ⟨g,cap,cur,fz,h1,_,h2,h3,_⟩
   ·exact .inl ⟨h1,h2⟩
   ·exact .inr ⟨g,cap,cur,fz,h1,h2,h3⟩
  cases c <;> simp only [cpTo] at hc <;> try (cases hc; done)
  case al q =>
   split at hc
   ·rename_i xs' hq
    simp only [Option.some.injEq,Prod.mk.injEq] at hc
    obtain ⟨rfl,rfl,rfl⟩:=hc
    rw [hp] at hq
    cases hq
    have hv:=hxc.2 hlv
    rcases hown with ⟨h1,h2⟩ | ⟨g,cap,cur,fz,h1,_⟩
    ·exact ⟨none,0,by rw [hv,h1,h2],fun h=>by omega⟩
    ·exact ⟨_,cap,by rw [hv,h1],fun _=>⟨g,cap,rfl,h1⟩⟩
   ·cases hc
  case vw q lo' n' s' =>
   split at hc
   ·rename_i hs1
    have hs1:=Nat.eq_of_beq_eq_true hs1
    subst hs1
    simp only [Option.some.injEq,Prod.mk.injEq] at hc
    obtain ⟨rfl,rfl,rfl⟩:=hc
    have hv:=hxc.2 hlv
    rcases hown with ⟨h1,h2⟩ | ⟨g,cap,cur,fz,h1,_,h3⟩
    ·rw [h1] at hv
     exact ⟨_,_,by rw [hv]; rfl,fun h=>by omega⟩
    ·rw [h1] at hv
     refine ⟨_,_,by rw [hv]; rfl,fun h=>⟨g,cap,?_,h1⟩⟩
     rw [if_neg (by omega)]
     simp only [Option.map_some,add_mk,Nat.zero_add,Nat.mul_one]
   ·cases hc
 obtain ⟨dp,dcap,hxe,hdp⟩:=hdst
 obtain ⟨_,hyc,_⟩:=(hi.use hy).out
 obtain ⟨sp,scap,hye,_,hsrc⟩:=hi.row 4 hyc hr
 have hkn:k ≤ n:=by rw [hk]; exact Nat.min_le_right _ _
 have hky:k ≤ ys.length:=by rw [hk]; exact Nat.min_le_left _ _
 have hrd:∀ (st':St) (r':Rs) (w':World),Inv P st' a w' r' → st'.okd d → Inv P (st'.assign d ⟨.one,[.sc (.int .i64 k)]⟩) (a.put (some d) (.int .i64 k)) w' ((r'.dropT d).setT d fun _=>none):=fun st' r' w' hi' hd' =>
  hi'.assign_has hd' rfl (Has.sc rfl)
 by_cases h0:k = 0
 ·have hrun:=run_copy_none (P:=P) w t t' o.type e dp sp n dcap ys.length scap ht hes (by rw [← hk]; exact h0)
  have hsame:cpRow xs ys lo k = xs:=by subst h0; simp [cpRow]
  have e2:Inv P (st.setAt p (.own e (cpRow xs ys lo k))) a w r:=by rw [hsame]; exact hi.reown hp (hi.cell p _ hp) (fun _ _ _=>rfl) (Nat.le_refl _)
  unfold Oper.wp
  simp only [execOp,ho,resolve,invoke,builtin,List.map_toArray,List.map_cons,List.map_nil,hxe,hye,Sem.run_bind,Sem.run_pure,Result.andThen_ok]
  rw [show (Builtin.copy_ #[t,t'] o.type #[.slice dp n dcap,.slice sp ys.length scap]).run P w = _ from hrun]
  simp only [Result.andThen_ok,Sem.run_pure]
  have hfin:=hrd _ r w e2 ⟨by rw [St.setAt_n]; exact hod.1,by rw [St.setAt_fx]; exact hod.2⟩
  rw [hd] at hK
  have hgo:(goInt 0) = Value.int .i64 (k:Int):=by rw [h0]; rfl
  rw [hgo,Oper.upon_value,hd]
  exact hK _ w _ (by rw [St.assign_m]; exact St.setAt_m) hfin (by rw [St.assign_bx,St.setAt_len]; exact Step.assign (fun _ _ h=>by cases h))
 ·obtain ⟨g,cap,rfl,hav⟩:=hdp (by omega)
  rcases ho1.2 with ⟨h1,h2⟩ | ⟨g',cap',cur,fz,h1,hfz,hh,hnc,hcm,hcs,htake⟩
  ·omega
  rw [hav] at h1
  simp only [Value.slice.injEq,Option.some.injEq,Addr.mk.injEq,true_and,and_true] at h1
  obtain ⟨rfl,rfl⟩:=h1
  obtain ⟨kb,off,rfl,hyz,hcell⟩:=hsrc (fun e=>by rw [e] at hky; simp at hky; omega)
  have hys:∀ j,j < k → ∃ u,w.cell? ⟨kb,off + j,none⟩ = some u ∧ ∃ z,ys[j]? = some [z] ∧ RepS w r.Sh z u:=by
   intro j hj
   have hjl:j < ys.length:=by omega
   obtain ⟨z,hz⟩:=List.length_eq_one_iff.1 (hyz ys[j] (List.getElem_mem hjl))
   obtain ⟨u,hu,hru⟩:=hcell j 0 _ z (List.getElem?_eq_getElem hjl) (by rw [hz]; rfl)
   exact ⟨u,by simpa using hu,z,by rw [List.getElem?_eq_getElem hjl,hz],hru⟩
  let cs:List Value:=(List.range k).map fun j=>(w.cell? ⟨kb,off + j,none⟩).getD undef
  have hcsl:cs.length = k:=by simp [cs]
  have hcsat:∀ j u,cs[j]? = some u → j < k ∧ w.cell? ⟨kb,off + j,none⟩ = some u:=by
   intro j u hu
   have hj:j < k:=by rw [← hcsl]; exact (List.getElem?_eq_some_iff.1 hu).1
   obtain ⟨u',hu',_⟩:=hys j hj
   simp only [cs,List.getElem?_map,List.getElem?_range hj,Option.map_some,Option.some.injEq] at hu
   rw [hu'] at hu
   simp only [Option.getD_some] at hu
   rw [← hu]; exact ⟨hj,hu'⟩
  have hcl:cur.toList.length = cap:=by simpa [he] using hcs
  have hvl:vals.length = xs.length:=by simpa [he] using ho1.1
  have htk:cur.toList.take xs.length = vals:=by simpa [he] using htake
  have hrun:=run_copy_rowH (P:=P) w t t' o.type e g lo n dcap ⟨kb,off,none⟩ ys.length scap cur e cs ht hes hh hfz (by rw [hcsl,hk]) (fun j u hu=>by rw [add_mk]; exact (hcsat j u hu).2) (by rw [hcsl]; have hcz:cur.size = cap:=(by simpa using hcl); omega)
   (fun u hu=>by
    obtain ⟨j,hj⟩:=List.getElem?_of_mem hu
    obtain ⟨h3,h4⟩:=hcsat j u hj
    obtain ⟨u',h5,z,_,hru⟩:=hys j h3
    rw [h4] at h5; cases h5
    exact hru.one)
  have hγ:r.γ p = some g:=by rw [← ho2,hav]; rfl
  have hnew:(w.setRow g (cur.toList.take lo ++ cs ++ cur.toList.drop (lo + cs.length)).toArray).heap[g]? = some (.cells (cur.toList.take lo ++ cs ++ cur.toList.drop (lo + cs.length)).toArray e fz):=setRow_heap w g _ _ e fz hh
  have hSh:∀ j,r.Sh j → (w.setRow g (cur.toList.take lo ++ cs ++ cur.toList.drop (lo + cs.length)).toArray).heap[j]? = w.heap[j]?:=fun j hj=>setRow_other w g j _ fun e=>(hi.sh j hj).2.1 p (by rw [hγ,e])
  have hput:∀ j,(cur.toList.take lo ++ cs ++ cur.toList.drop (lo + cs.length))[j]? = if lo ≤ j ∧ j < lo + k then cs[j - lo]? else cur.toList[j]?:=by
   intro j
   have:=put3_at (cs:=cur.toList) (off:=lo) (l:=cs) (by rw [hcsl]; omega) j
   rw [hcsl] at this
   rw [← this,hcsl]
   simp [put3,hcsl]
  have hown:RepOwn P (w.setRow g (cur.toList.take lo ++ cs ++ cur.toList.drop (lo + cs.length)).toArray) r.Sh e (cpRow xs ys lo k) (alpha a w r p) (r.γ p):=by
   have hlen:=cpRow_length (xs:=xs) (ys:=ys) (lo:=lo) (k:=k) (by omega) hky
   have hz:∀ el ∈ cpRow xs ys lo k,el.length = 1:=by
    intro el hel
    obtain ⟨j,hj⟩:=List.getElem?_of_mem hel
    rw [cpRow_at (by omega) hky] at hj
    split at hj
    ·exact hyz el (List.mem_of_getElem? hj)
    ·exact ho3 el (List.mem_of_getElem? hj)
   have hszz:(cur.toList.take lo ++ cs ++ cur.toList.drop (lo + cs.length)).toArray.size = cur.size:=by
    simp only [List.size_toArray,List.length_append,List.length_take,List.length_drop,hcsl,hcl]
    have hcz:cur.size = cap:=by simpa using hcl
    omega
   refine ⟨(cur.toList.take lo ++ cs ++ cur.toList.drop (lo + cs.length)).take xs.length,⟨?_,.inr ⟨g,cap,_,fz,by rw [hav,hlen],by rw [hszz]; exact hfz,hnew,by rw [hlen]; exact hnc,hcm,?_,by rw [hlen,he,Nat.mul_one]⟩⟩,ho2,by rw [he]; exact hz,fun j z hj=>?_⟩
   ·rw [he,Nat.mul_one,hlen]
    simp only [List.length_take,List.length_append,List.length_drop,hcsl,hcl]
    omega
   ·rw [he,Nat.mul_one]
    simp only [List.size_toArray,List.length_append,List.length_take,List.length_drop,hcsl,hcl]
    omega
   ·have h6:=one_at hz hj
    have hjl:j < xs.length:=by rw [← hlen]; exact (List.getElem?_eq_some_iff.1 h6).1
    rw [cpRow_at (by omega) hky] at h6
    rw [List.getElem?_take,if_pos hjl,hput]
    split at h6
    ·rename_i hin
     rw [if_pos hin]
     obtain ⟨u,hu,z',hz',hru⟩:=hys (j - lo) (by omega)
     rw [h6] at hz'; cases hz'
     refine ⟨u,?_,hru.mono (fun _ h=>h) hSh⟩
     simp only [cs,List.getElem?_map,List.getElem?_range (show j - lo < k by omega),Option.map_some,hu,Option.getD_some]
    ·rename_i hin
     rw [if_neg hin]
     have h7:=flatten_at (s:=1) ho3 (i:=j) (j:=0) h6 rfl
     rw [Nat.mul_one,Nat.add_zero] at h7
     obtain ⟨u,hu,hru⟩:=ho4 j z h7
     refine ⟨u,?_,hru.mono (fun _ h=>h) hSh⟩
     rw [← htk,List.getElem?_take,if_pos hjl] at hu
     exact hu
  have hinv:=hi.reown hp hown (fun j _ hne=>setRow_other w g j _ fun e=>hne (by rw [hγ,e])) (by simp [World.setRow])
  unfold Oper.wp
  simp only [execOp,ho,resolve,invoke,builtin,List.map_toArray,List.map_cons,List.map_nil,hxe,hye,Sem.run_bind,Sem.run_pure,Result.andThen_ok]
  rw [show (Builtin.copy_ #[t,t'] o.type #[.slice (some ⟨g,lo,none⟩) n dcap,.slice (some ⟨kb,off,none⟩) ys.length scap]).run P w = _ from hrun]
  simp only [Result.andThen_ok,Sem.run_pure]
  have hfin:=hrd _ r _ hinv ⟨by rw [St.setAt_n]; exact hod.1,by rw [St.setAt_fx]; exact hod.2⟩
  rw [hd] at hK
  have hgo:(goInt cs.length) = Value.int .i64 (k:Int):=by rw [hcsl]; rfl
  rw [hgo,Oper.upon_value,hd]
  exact hK _ _ _ (by rw [St.assign_m]; exact St.setAt_m) hfin (by
   rw [St.assign_bx,St.setAt_len]
   exact (Step.setRow (m:=st.bx.length) (.inl ⟨p,hγ⟩) rfl rfl (fun _ h=>h)).trans (Step.assign (fun _ _ h=>by cases h)))
end
end Go.Proofs.YtoclajfeeebbbadGreatDoor.E
/- The engine, part TA: bits, shifts, pointers compared. Plain lemmas; no program. -/
set_option linter.unusedVariables false
set_option linter.unusedSectionVars false
set_option linter.unusedSimpArgs false
namespace Go.Proofs.YtoclajfeeebbbadGreatDoor.E
open Go.RowKit
variable [LaidFacts]
/-- Bits of whole numbers. -/
def iand (k:IntKind) (a b:Int):Int:=k.wrap ((BitVec.ofInt k.bits a &&& BitVec.ofInt k.bits b).toNat:Int)
def ior (k:IntKind) (a b:Int):Int:=k.wrap ((BitVec.ofInt k.bits a ||| BitVec.ofInt k.bits b).toNat:Int)
def ixor (k:IntKind) (a b:Int):Int:=k.wrap ((BitVec.ofInt k.bits a ^^^ BitVec.ofInt k.bits b).toNat:Int)
def iandn (k:IntKind) (a b:Int):Int:=k.wrap ((BitVec.ofInt k.bits a &&& ~~~BitVec.ofInt k.bits b).toNat:Int)
def ishl (k:IntKind) (a b:Int):Int:=k.wrap (a * 2 ^ (min b.toNat k.bits))
def ishr (k:IntKind) (a b:Int):Int:=a.fdiv (2 ^ (min b.toNat k.bits))
def sameK:IntKind → IntKind → Bool
  | .i8,.i8 | .i16,.i16 | .i32,.i32 | .i64,.i64 | .u8,.u8 | .u16,.u16 | .u32,.u32 | .u64,.u64=>true
  | _,_=>false
theorem sameK_eq {k k':IntKind} (h:sameK k k' = true):k = k':=by cases k <;> cases k' <;> first | rfl | cases h
def bitP (op:BinOp) (k k':IntKind) (a b:Int):Option (List Prop × Value) :=
  match op with
  | .shl=>some ([0 ≤ b],.int k (ishl k a b))
  | .shr=>some ([0 ≤ b],.int k (ishr k a b))
  | .and=>match sameK k k' with | true=>some ([],.int k (iand k a b)) | false=>none
  | .or=>match sameK k k' with | true=>some ([],.int k (ior k a b)) | false=>none
  | .xor=>match sameK k k' with | true=>some ([],.int k (ixor k a b)) | false=>none
  | .andNot=>match sameK k k' with | true=>some ([],.int k (iandn k a b)) | false=>none
  | _=>none
def eqP (op:BinOp) (b:Bool):Option (List Prop × Value) :=
  match op with
  | .eql=>some ([],.bool b)
  | .neq=>some ([],.bool (!b))
  | _=>none
def isPtr:Option TypeDesc → Option TypeId
  | some (.pointer e)=>some e
  | _=>none
/-- More operations of two cells. -/
def evB2 (P:Program) (op:BinOp) (t:TypeId) (x y:PC):Option (List Prop × Value) :=
  match x,y with
  | .sc (.int k a),.sc (.int k' b)=>bitP op k k' a b
  | .sc (.pointer none),.sc (.pointer none)=>match isPtr (P.underlying t) with | some _=>eqP op true | none=>none
  | .ref _ _,.sc (.pointer none)=>match isPtr (P.underlying t) with | some _=>eqP op false | none=>none
  | .opt _ u _ _,.sc (.pointer none)=>match isPtr (P.underlying t) with | some _=>eqP op (!u) | none=>none
  | .opt _ u b off,.ref b' off'=>match isPtr (P.underlying t) with
    | some e=>match P.size? e,Nat.beq b b',Nat.beq off off' with
      | some (_ + 1),true,true=>eqP op u
      | _,_,_=>none
    | none=>none
  | _,_=>none
section
variable {P:Program} {st:St} {o:Oper} {a:Act} {w:World} {r:Rs}
theorem run_bitP {op : BinOp} {t : TypeId} {x y : Operand} {k k' : IntKind} {n m : Int} {c : List Prop} {v : Value} (h : bitP op k k' n m = some (c, v)) (hc : ∀ p ∈ c, p) (w : World) :
    v.oneCell' = true ∧ (do eqGuard op t x y (.int k n) (.int k' m); Go.binOp op t (.int k n) (.int k' m)).run P w = .ok v w:=by
  cases op <;> simp only [bitP] at h <;> (try (cases h; done))
  case shl => simp only [Option.some.injEq, Prod.mk.injEq] at h; obtain ⟨rfl, rfl⟩ := h; have h0 : ¬ m < 0 := by have := hc _ (List.mem_cons_self ..); omega
              exact ⟨rfl,by simp [eqGuard,Go.binOp,Op.shift,h0,ishl]⟩
  case shr => simp only [Option.some.injEq, Prod.mk.injEq] at h; obtain ⟨rfl, rfl⟩ := h; have h0 : ¬ m < 0 := by have := hc _ (List.mem_cons_self ..); omega
              exact ⟨rfl,by simp [eqGuard,Go.binOp,Op.shift,h0,ishr]⟩
  all_goals
    split at h
    · rename_i hk
      obtain rfl:=sameK_eq hk
      simp only [Option.some.injEq,Prod.mk.injEq] at h; obtain ⟨_,rfl⟩:=h
      exact ⟨rfl,by simp [eqGuard,Go.binOp,Op.intBits,iand,ior,ixor,iandn]⟩
    · cases h
theorem isPtr_eq {d:Option TypeDesc} {e:TypeId} (h:isPtr d = some e):d = some (.pointer e):=by
  unfold isPtr at h
  split at h
  · cases h; rfl
  · cases h
theorem run_ptrP {op : BinOp} {t e : TypeId} {x y : Operand} {p q : Option Addr} {b : Bool} {c : List Prop} {v : Value} (w : World) (heq : (Op.equal t (.pointer p) (.pointer q)).run P w = .ok b w) (h : eqP op b = some (c, v)) :
    v.oneCell' = true ∧ (do eqGuard op t x y (.pointer p) (.pointer q); Go.binOp op t (.pointer p) (.pointer q)).run P w = .ok v w:=by
  cases op <;> simp only [eqP] at h <;> (try (cases h; done))
  all_goals
    simp only [Option.some.injEq,Prod.mk.injEq] at h; obtain ⟨_,rfl⟩:=h
    exact ⟨rfl,by simp [eqGuard,Go.binOp,heq]⟩
theorem run_eq_nil {t e:TypeId} (ht:P.underlying t = some (.pointer e)) (q:Option Addr) (w:World):(Op.equal t (.pointer none) (.pointer q)).run P w = .ok q.isNone w:=by
  unfold Op.equal
  rw [show Op.maxDepth = 9999 + 1 from rfl,Op.equalIn]
  simp [run_underlying ht]
theorem run_eq_nil' {t e:TypeId} (ht:P.underlying t = some (.pointer e)) (a:Addr) (w:World):(Op.equal t (.pointer (some a)) (.pointer none)).run P w = .ok false w:=by
  unfold Op.equal
  rw [show Op.maxDepth = 9999 + 1 from rfl,Op.equalIn]
  simp [run_underlying ht]
theorem run_eq_same {t e:TypeId} {n:Nat} (ht:P.underlying t = some (.pointer e)) (he:P.size? e = some (n + 1)) (a:Addr) (w:World):(Op.equal t (.pointer (some a)) (.pointer (some a))).run P w = .ok true w:=by
  have hs:(sizeOf e).run P w = .ok (n + 1) w:=run_sizeOf he w
  unfold Op.equal
  rw [show Op.maxDepth = 9999 + 1 from rfl,Op.equalIn]
  simp [run_underlying ht,hs,sameAddr]
theorem Has.out_ref {b off:Nat} {v:Value} (h:Has P st a w r ⟨.one,[.ref b off]⟩ v):v = .pointer (some ⟨r.β b,off,none⟩):=by
  obtain ⟨_,h2,_⟩:=h.out
  obtain ⟨_,h3⟩:=h2
  cases h3 with
  | s hs=>cases hs
  | ref _=>rfl
theorem Has.out_opt {T:TypeId} {u:Bool} {b off:Nat} {v:Value} (h:Has P st a w r ⟨.one,[.opt T u b off]⟩ v):v = .pointer (if u then some ⟨r.β b,off,none⟩ else none):=by
  obtain ⟨_,h2,_⟩:=h.out
  obtain ⟨_,h3⟩:=h2
  cases h3 with
  | s hs=>cases hs
  | opt _ _=>rfl
theorem Reads.binOp2 {op : BinOp} {t t' : TypeId} {x y : Operand} {c d : PC} {q : List Prop} {v : Value} (ho : o.op = .binOp op t x y t') (hx : st.use x = some ⟨.one, [c]⟩) (hy : st.use y = some ⟨.one, [d]⟩)
    (hv:evB2 P op t c d = some (q,v)) (hq:∀ p ∈ q,p):Reads P o st ⟨.one,[.sc v]⟩:=fun a w r hi=>by
  have h1:=hi.use hx
  have h2:=hi.use hy
  have fin : ∀ {u u' : Value}, a.eval x = u → a.eval y = u' → v.oneCell' = true ∧ (do eqGuard op t x y u u'; Go.binOp op t u u').run P w = .ok v w →
      ∃ v',(execOp a.eval o).run P w = .ok (.value v') w ∧ Has P st a w r ⟨.one,[.sc v]⟩ v':=by
    intro u u' e1 e2 ⟨k1,k2⟩
    refine ⟨v,?_,Has.sc k1⟩
    simp only [execOp,ho,e1,e2]
    rw [Sem.run_bind,k2]
    rfl
  unfold evB2 at hv
  split at hv
  · exact fin h1.out_sc h2.out_sc (run_bitP hv hq w)
  · split at hv
    · rename_i e he
      exact fin h1.out_sc h2.out_sc (run_ptrP (e:=e) w (run_eq_nil (isPtr_eq he) none w) hv)
    · cases hv
  · split at hv
    · rename_i e he
      exact fin h1.out_ref h2.out_sc (run_ptrP (e:=e) w (run_eq_nil' (isPtr_eq he) _ w) hv)
    · cases hv
  · split at hv
    · rename_i u _ _ _ e he
      refine fin h1.out_opt h2.out_sc (run_ptrP (e:=e) w ?_ hv)
      cases u
      · exact run_eq_nil (isPtr_eq he) none w
      · exact run_eq_nil' (isPtr_eq he) _ w
    · cases hv
  · split at hv
    · rename_i u b off b' off' _ e he
      split at hv
      · rename_i n hn hb hf
        have hb:=Nat.eq_of_beq_eq_true hb
        have hf:=Nat.eq_of_beq_eq_true hf
        subst hb hf
        refine fin h1.out_opt h2.out_ref (run_ptrP (e:=e) w ?_ hv)
        cases u
        · exact run_eq_nil (isPtr_eq he) _ w
        · exact run_eq_same (isPtr_eq he) hn _ w
      · cases hv
    · cases hv
  · cases hv
end
end Go.Proofs.YtoclajfeeebbbadGreatDoor.E
/- The engine, part SD: a row goes from a temporary into a box. Plain lemmas; no program. -/
set_option linter.unusedVariables false
set_option linter.unusedSectionVars false
set_option linter.unusedSimpArgs false
namespace Go.Proofs.YtoclajfeeebbbadGreatDoor.E
open Go.RowKit
variable [LaidFacts]
/-- What names these cells of a box is lost. -/
def PC.wipeR (b off n:Nat) (x:PC):PC :=
 match x.names with
 | some (.b b' c)=>match Nat.beq b' b && Nat.ble off c && Nat.ble (c + 1) (off + n) with
  | true=>.dead
  | false=>x
 | _=>x
def St.wipeR (st:St) (b off n:Nat):St:={ st with tm:=mapL (PC.wipeR b off n) st.tm }
theorem PC.wipeR_cases (b off n:Nat) (x:PC):x.wipeR b off n = x ∨ (x.wipeR b off n = .dead ∧ x.names ≠ none):=by
 unfold PC.wipeR
 split
 ·rename_i h
  split
  ·exact .inr ⟨rfl,by rw [h]; simp⟩
  ·exact .inl rfl
 ·exact .inl rfl
theorem PC.wipeR_names {b off n:Nat} {x:PC} {q:Place} (h:(x.wipeR b off n).names = some q):x.wipeR b off n = x ∧ x.names = some q ∧ ∀ c,q = .b b c → ¬ (off ≤ c ∧ c < off + n):=by
 unfold PC.wipeR at h ⊢
 split at h
 ·rename_i b' c hx
  split at h
  ·cases h
  ·rename_i hc
   rw [hx] at h
   cases h
   refine ⟨by simp [hx,hc],hx,fun c' he hcc=>?_⟩
   cases he
   have h1:=Nat.ble_eq_true_of_le hcc.1
   have h2:Nat.ble (c + 1) (off + n) = true:=Nat.ble_eq_true_of_le hcc.2
   rw [h1,h2,Nat.beq_refl] at hc
   cases hc
 ·rename_i hx
  exact ⟨rfl,h,fun c he=>by subst he; exact absurd h (hx _ _)⟩
section
variable {P:Program} {st:St} {a:Act} {w:World} {r:Rs} {o:Oper}
theorem St.at_wipeR {b off n:Nat} {p:Place} {x:PC} (h:(st.wipeR b off n).at p = some x):∃ y,st.at p = some y ∧ (x = y ∨ (x = .dead ∧ y.names ≠ none)) ∧ ∀ q,x.names = some q → (∃ k c,p = .t k c) → ∀ c,q = .b b c → ¬ (off ≤ c ∧ c < off + n):=by
 cases p with
 | t k c =>
  obtain ⟨pv,h1,h2⟩:=St.at_tmp h
  simp only [St.get,St.wipeR,look_mapL] at h1
  obtain ⟨u,hu,rfl⟩:=Option.map_eq_some_iff.1 h1
  simp only [List.getElem?_map] at h2
  obtain ⟨y,hy,rfl⟩:=Option.map_eq_some_iff.1 h2
  have hat:st.at (.t k c) = some y:=by simp [St.at,St.get,hu,hy]
  exact ⟨y,hat,PC.wipeR_cases b off n y,fun q hq _=>(PC.wipeR_names hq).2.2⟩
 | b b' c=>exact ⟨x,h,.inl rfl,fun q _ hp=>by obtain ⟨_,_,hp⟩:=hp; cases hp⟩
theorem Inv.wipeR (h:Inv P st a w r) (b off n:Nat):Inv P (st.wipeR b off n) a w r:=by
 refine h.restate rfl h.m ?_ (Nat.le_refl _) ?_ (fun _ _=>rfl) ?_ ?_ ?_ (fun _ _ h=>h) (fun g hg=>.inl hg) (fun _ h=>h) rfl rfl
 ·intro k pv' hk
  simp only [St.get,St.wipeR,look_mapL] at hk
  obtain ⟨u,hu,rfl⟩:=Option.map_eq_some_iff.1 hk
  exact ⟨u,hu,rfl,by simp⟩
 ·intro b cs' hb
  exact ⟨cs',hb,rfl,(h.bx b cs' hb).2⟩
 ·intro p x hx
  obtain ⟨y,hy,hxy,_⟩:=St.at_wipeR hx
  rcases hxy with rfl | ⟨rfl,hn⟩
  ·refine (h.cell p x hy).mono (fun _ h=>h) (fun _ _=>rfl) (fun _ _=>rfl) (fun b hb=>⟨hb,rfl⟩) (fun q _ hq=>⟨?_,rfl⟩)
   obtain ⟨z,hz,hzd⟩:=hq
   obtain ⟨y',hy',hzy,_⟩:=St.at_wipeR hz
   rcases hzy with rfl | ⟨rfl,_⟩
   ·exact ⟨z,hy',hzd⟩
   ·exact absurd rfl hzd
  ·exact (h.cell p y hy).g_none (fun e xs he=>by subst he; exact hn rfl)
 ·intro p x q hx hq
  obtain ⟨y,hy,hxy,_⟩:=St.at_wipeR hx
  rcases hxy with rfl | ⟨rfl,hn⟩
  ·have he:=h.nm p x q hy hq
   cases q with
   | t k c =>
    obtain ⟨pv,hpv⟩:=he
    exact ⟨⟨pv.sh,pv.cs.map (PC.wipeR b off n)⟩,by simp only [St.get,St.wipeR,look_mapL]; rw [show look st.tm k = some pv from hpv]; rfl⟩
   | b b c=>exact he
  ·simp [PC.names] at hq
 ·intro p g hg
  obtain ⟨e,xs,hx⟩:=h.live p g hg
  refine ⟨e,xs,?_⟩
  cases p with
  | t k c =>
   obtain ⟨pv,h1,h2⟩:=St.at_tmp hx
   simp [St.at,St.get,St.wipeR,look_mapL,show look st.tm k = some pv from h1,h2,PC.wipeR,PC.names]
  | b b c=>exact hx
theorem OpOK.storeOwn {t:TypeId} {x:Operand} {u b off:Nat} {cs:List PC} {e:TypeId} {xs:List (List PC)} (ho:o.op = .store t x (.tmp u)) (hd:o.dst = none) (hs:P.size? t = some 1) (hx:st.use x = some ⟨.one,[.ref b off]⟩)
  (hu:st.get u = some ⟨.one,[.own e xs]⟩) (hb:st.bx[b]? = some cs) (hle:off + 1 ≤ cs.length) :
  OpOK P o st (((st.wipeR b off 1).setAt (.t u 0) .dead).setBox b off [.own e xs]):=by
 intro a w r hi K Q hK
 obtain ⟨_,⟨_,hc⟩,_⟩:=(hi.use hx).out
 have hv:a.eval x = .pointer (some ⟨r.β b,off,none⟩):=by
  generalize a.eval x = v at hc
  cases hc with
  | s hs=>cases hs
  | ref h=>rfl
 have hat:st.at (.t u 0) = some (.own e xs):=by simp [St.at,hu]
 obtain ⟨hfit,hal⟩:=hi.tmpv hu
 have hone:(a.tmps.getD u undef).oneCell' = true:=hfit.2
 have halv:alpha a w r (.t u 0) = a.tmps.getD u undef:=by rw [hal 0,flat_one hone]; rfl
 have hown:=hi.cell _ _ hat
 rw [halv] at hown
 simp only [RepC] at hown
 have hi1:=hi.wipeR b off 1
 have hat1:(st.wipeR b off 1).at (.t u 0) = some (.own e xs):=by
  simp [St.at,St.get,St.wipeR,look_mapL,show look st.tm u = some _ from hu,PC.wipeR,PC.names]
 have hi2:=hi1.kill hat1
 obtain ⟨⟨vals,e',hh,hvs,_⟩,_⟩:=hi.bx b cs hb
 have hbx2:((st.wipeR b off 1).setAt (.t u 0) .dead).bx = st.bx:=by
  simp only [St.setAt]
  split <;> rfl
 have hb2:((st.wipeR b off 1).setAt (.t u 0) .dead).bx[b]? = some cs:=by rw [hbx2]; exact hb
 have hcs:=cells_one hone
 have hinv:=hi2.storeBox (b:=b) (off:=off) (cs:=cs) (l:=[.own e xs]) (vs:=[a.tmps.getD u undef]) (γc:=fun j=>if j = 0 then r.γ (.t u 0) else none) (vals:=vals) (e:=e') hb2 hh rfl hle
  (fun v hv=>by simp only [List.mem_singleton] at hv; rw [hv]; exact hone) (fun y hy=>by simp only [List.mem_singleton] at hy; subst hy; rfl)
  (fun p y c hy hn hcc=>by
   rw [St.at_setAt hat1] at hy
   split at hy
   ·cases hy; simp [PC.names] at hn
   ·obtain ⟨z,hz,_,hno⟩:=St.at_wipeR hy
    cases p with
    | t k c'=>exact hno _ hn ⟨k,c',rfl⟩ c rfl hcc
    | b b' c' =>
     obtain ⟨_,cs',h1,h2⟩:=St.at_box hy
     have:=(hi1.bx b' cs' h1).2 y (List.mem_of_getElem? h2)
     cases y <;> simp [PC.boxable,PC.names] at this hn)
  (fun j y v hy hv=>by
   cases j with
   | succ j=>simp at hy
   | zero =>
    simp only [List.getElem?_cons_zero,Option.some.injEq] at hy hv
    subst hy hv
    simp only [RepC,if_true]
    exact RepOwn.mono (fun _ h=>.inl h) (fun _ _=>rfl) (fun _ _=>rfl) hown)
  (fun j g hg=>by
   split at hg
   ·rename_i hj
    subst hj
    refine ⟨⟨e,xs,rfl⟩,fun hS=>?_,fun p hp=>?_,fun b' hb' hbe=>?_⟩
    ·rcases hS with hS | ⟨h,_⟩
     ·exact (hi.sh g hS).2.1 _ hg
     ·cases h
    ·simp only [Rs.clr] at hp
     split at hp
     ·cases hp
     ·rename_i hne; exact hne (hi.inj _ _ _ hp hg)
    ·rw [hbx2] at hb'
     exact hi.exb _ _ _ hg hb' hbe
   ·cases hg)
  (fun j j' g hg hg'=>by
   split at hg
   ·split at hg'
    ·omega
    ·cases hg'
   ·cases hg)
 have hrun:=execOp_store (P:=P) (a:=a) (w:=w) ho hv rfl (by rw [hs]; simp only [Act.eval]; rw [hcs]; rfl) hh (.inl rfl) (by simp only [Act.eval]; rw [hcs,hvs]; exact hle) (fun v hv=>by simp only [Act.eval] at hv; rw [hcs] at hv; simp only [List.mem_toArray,List.mem_singleton] at hv; rw [hv]; exact hone)
 unfold Oper.wp
 rw [hrun,Oper.upon_skip,hd]
 rw [hd] at hK
 have hput:(a.eval (.tmp u)).cells.toList = [a.tmps.getD u undef]:=by simp only [Act.eval]; rw [hcs]
 rw [hput]
 refine hK undef _ _ ?_ hinv ?_
 ·show ((st.wipeR b off 1).setAt (.t u 0) .dead).m = st.m
  rw [St.setAt_m]; rfl
 have hlens:(((st.wipeR b off 1).setAt (.t u 0) .dead).setBox b off [.own e xs]).bx.length = st.bx.length:=by simp [St.setBox,hbx2]
 have er:(r.clr (.t u 0) false).setB b off [PC.own e xs].length (fun j=>if j = 0 then r.γ (.t u 0) else none) = (r.setB b off [PC.own e xs].length (fun j=>if j = 0 then r.γ (.t u 0) else none)).clr (.t u 0) false:=by
  have h1:∀ (A B:Rs),A.Sh = B.Sh → A.β = B.β → A.γ = B.γ → A.κ = B.κ → A = B:=by
   intro A B a b c d; cases A; cases B; simp_all
  refine h1 _ _ rfl rfl ?_ rfl
  funext p
  cases p with
  | t k c=>rfl
  | b b' c=>simp [Rs.clr,Rs.setB]
 rw [er]
 refine Step.trans (r₁:=r.setB b off [PC.own e xs].length (fun j=>if j = 0 then r.γ (.t u 0) else none)) (Step.setRow (nb':=(((st.wipeR b off 1).setAt (.t u 0) .dead).setBox b off [.own e xs]).bx.length) (.inr ⟨b,(List.getElem?_eq_some_iff.1 hb).1,rfl⟩) rfl rfl (fun k hk=>?_)) Step.clr
 rw [hlens] at hk
 rcases hk with ⟨p,hp⟩ | hk
 ·cases p with
  | t t c=>exact .inl ⟨_,hp⟩
  | b b' c =>
   simp only [Rs.setB] at hp
   split at hp
   ·split at hp
    ·exact .inl ⟨_,hp⟩
    ·cases hp
   ·exact .inl ⟨_,hp⟩
 ·exact .inr hk
end
end Go.Proofs.YtoclajfeeebbbadGreatDoor.E
/- The engine, part SE: optional pointers: made, stored; pointers without a type. Plain lemmas; no program. -/
set_option linter.unusedVariables false
set_option linter.unusedSectionVars false
set_option linter.unusedSimpArgs false
namespace Go.Proofs.YtoclajfeeebbbadGreatDoor.E
open Go.RowKit
variable [LaidFacts]
/-- Pointers that are nil become optional ones, to the places where they stand. -/
def optAll (T:TypeId) (b:Nat):List Nat → St → Option St
 | [],st=>some st
 | n :: ns,st=>match st.at (.b b n) with
  | some (.sc (.pointer none))=>optAll T b ns (st.setAt (.b b n) (.opt T false b n))
  | _=>none
section
variable {P:Program} {st:St} {o:Oper} {a:Act} {w:World} {r:Rs}
theorem Inv.optAll {T:TypeId} {b m:Nat}:∀ (ns:List Nat) {st st':St} {r:Rs},bty w (r.β b) = some T → b < st.bx.length → Inv P st a w r → E.optAll T b ns st = some st' → ∃ r',Inv P st' a w r' ∧ Step m w r st.bx.length w r' st'.bx.length ∧ st'.m = st.m ∧ st'.bx.length = st.bx.length
 | [],st,st',r,ht,hb,hi,h=>by
  simp only [E.optAll,Option.some.injEq] at h
  subst h
  exact ⟨r,hi,Step.refl ..,rfl,rfl⟩
 | n :: ns,st,st',r,ht,hb,hi,h=>by
  simp only [E.optAll] at h
  split at h
  ·rename_i hp
   have h1:Inv P (st.setAt (.b b n) (.opt T false b n)) a w (r.clr (.b b n) false):=by
    refine hi.setAt hp false (.inr rfl) (.inr (by simp)) (fun q hq=>by simp [PC.names] at hq) ?_
    have hc:=hi.cell _ _ hp
    simp only [RepC] at hc ⊢
    obtain ⟨_,hc⟩:=hc
    have hv:alpha a w r (.b b n) = .pointer none:=by
     generalize alpha a w r (.b b n) = v at hc
     cases hc with | s hs=>cases hs; rfl
    rw [hv]
    exact ⟨trivial,.opt (u:=false) (β:=r.β) (by rw [St.setAt_len]; exact hb) ht⟩
   obtain ⟨r',h2,h3,h4,h5⟩:=Inv.optAll (m:=m) ns (st:=st.setAt (.b b n) (.opt T false b n)) (r:=r.clr (.b b n) false) ht (by rw [St.setAt_len]; exact hb) h1 h
   rw [St.setAt_len] at h3 h5
   exact ⟨r',h2,Step.clr.trans h3,h4.trans St.setAt_m,h5⟩
  ·cases h
theorem OpE.optAll {T:TypeId} {d g:Nat} {ns:List Nat} {st1 st':St} (ho:o.dst = some d) (hget:st1.get d = some ⟨.one,[.ref st.bx.length 0]⟩) (hlt:st.bx.length < st1.bx.length)
  (h:∀ a w r,Inv P st a w r → ∀ (K:Act → World → Prop) (Q:Exit → Act → World → Prop),
   (∀ g w' r',bty w' g = some T → st1.m = st.m → Inv P st1 (a.put (some d) (.pointer (some ⟨g,0,none⟩))) w' r' → Step st.bx.length w r st.bx.length w' r' st1.bx.length → K (a.put (some d) (.pointer (some ⟨g,0,none⟩))) w') → o.wp P a w K Q)
  (hs:E.optAll T st.bx.length ns st1 = some st'):OpE P o st st':=by
 intro a w r hi K Q hK
 refine h a w r hi K Q fun g w' r' ht hm hinv hstep=>?_
 have hβ:r'.β st.bx.length = g:=by
  have hat:st1.at (.t d 0) = some (.ref st.bx.length 0):=by simp [St.at,hget]
  have hc:=hinv.cell _ _ hat
  simp only [RepC] at hc
  obtain ⟨v,hv,hf⟩:=hinv.tm d _ hget
  have hlt':d < a.tmps.size:=by
   have hx:=(Array.getElem?_eq_some_iff.1 hv).1
   simp only [Act.put] at hx
   simpa using hx
  have hval:alpha (a.put (some d) (.pointer (some ⟨g,0,none⟩))) w' r' (.t d 0) = .pointer (some ⟨g,0,none⟩):=by
   simp [alpha,Act.put,hlt',flat,Array.getD_eq_getD_getElem?]
  rw [hval] at hc
  obtain ⟨_,hc⟩:=hc
  generalize hu:Value.pointer (some ⟨g,0,none⟩) = u at hc
  cases hc with
  | s hs=>cases hs
  | ref _=>simp only [Value.pointer.injEq,Option.some.injEq,Addr.mk.injEq] at hu; exact hu.1.symm
 obtain ⟨r'',h1,h2,h3,h4⟩:=Inv.optAll (m:=st.bx.length) ns (st:=st1) (T:=T) (b:=st.bx.length) (by rw [hβ]; exact ht) hlt hinv hs
 rw [ho] at hK
 exact hK _ w' r'' (h3.trans hm) h1 (hstep.trans h2)
theorem bty_new (w:World) (vals:Array Value) (t:TypeId):bty (w.alloc (.cells vals t)) w.heap.size = some t:=by
 unfold bty
 rw [heap_alloc_new w]
theorem St.get_assign_self {st:St} {d:Nat} {pv:PV}:(st.assign d pv).get d = some pv:=by
 unfold St.assign
 split <;> rw [St.get_put,if_pos rfl]
/-- A box that is made, with optional pointers. -/
theorem OpE.allocO {d:Nat} {t:TypeId} {l:List Value} {ns:List Nat} {st':St} (ho:o.op = .alloc t) (hod:o.dst = some d) (hd:st.okd d) (hz:P.zero? t = some l) (hl:l.all (·.oneCell') = true)
  (hs:E.optAll t st.bx.length ns ((st.addBox (l.map zeroPC)).assign d ⟨.one,[.ref st.bx.length 0]⟩) = some st'):OpE P o st st':=by
 refine OpE.optAll (T:=t) (g:=0) hod St.get_assign_self (by rw [St.assign_bx]; simp [St.addBox]) (fun a w r hi K Q hK=>?_) hs
 obtain ⟨v,hv,hr⟩:=run_zeroValue hz w
 have h1:∀ x ∈ v.cells,x.oneCell' = true:=fun x hx=>List.all_eq_true.1 hl x (by rw [← hv]; exact Array.mem_toList_iff.2 hx)
 obtain ⟨r',h2,h3⟩:=hi.boxed (vals:=v.cells) (e:=t) (cs:=l.map zeroPC) hd (by rw [← hv]; simp) h1 (fun x hx=>by obtain ⟨u,_,rfl⟩:=List.mem_map.1 hx; exact zeroPC_boxable u)
  (fun c x u hx hu=>by
   rw [List.getElem?_map,Option.map_eq_some_iff] at hx
   obtain ⟨u',hu',rfl⟩:=hx
   have:u' = u:=by
    rw [← hv,Array.getElem?_toList,hu] at hu'
    exact (Option.some.inj hu').symm
   subst this
   exact ((zeroPC_rep (h1 _ (Array.mem_of_getElem? hu))).hasC (P:=P) (st:=st) (a:=a)).1)
 unfold Oper.wp
 have hrun:(execOp a.eval o).run P w = .ok (.value (.pointer (some ⟨w.heap.size,0,none⟩))) (w.alloc (.cells v.cells t)):=by
  simp [execOp,ho,Instr.alloc,hr,newVar,newRow]
 rw [hrun,Oper.upon_value,hod]
 exact hK _ _ r' (bty_new w _ t) (by rw [St.assign_m]; rfl) h2 h3
theorem OpE.boxO {d:Nat} {t:TypeId} {x:Operand} {pv:PV} {ns:List Nat} {st':St} (ho:o.op = .box t x) (hod:o.dst = some d) (hd:st.okd d) (hx:st.use x = some pv) (hb:pv.cs.all (·.boxable) = true) (hsh:notTup pv.sh = true)
  (hs:E.optAll t st.bx.length ns ((st.addBox pv.cs).assign d ⟨.one,[.ref st.bx.length 0]⟩) = some st'):OpE P o st st':=by
 refine OpE.optAll (T:=t) (g:=0) hod St.get_assign_self (by rw [St.assign_bx]; simp [St.addBox]) (fun a w r hi K Q hK=>?_) hs
 obtain ⟨hf,hc⟩:=hi.use hx
 have hcells:(a.eval x).cells.toList = flat (a.eval x) ∧ (a.eval x).cells.size = pv.cs.length ∧ ∀ y ∈ (a.eval x).cells,y.oneCell' = true:=by
  cases hs:pv.sh with
  | one =>
   rw [hs] at hf
   obtain ⟨h1,h2⟩:=hf
   rw [flat_one h2,cells_one h2,h1]
   exact ⟨rfl,rfl,fun y hy=>by simp at hy; subst hy; exact h2⟩
  | agg =>
   rw [hs] at hf
   obtain ⟨c,h1,h2,h3⟩:=hf
   rw [h1]
   exact ⟨rfl,h2,h3⟩
  | any=>rw [hs] at hsh; simp [notTup] at hsh
  | tup l=>rw [hs] at hsh; simp [notTup] at hsh
 obtain ⟨e1,e2,e3⟩:=hcells
 obtain ⟨r',h2,h3⟩:=hi.boxed (vals:=(a.eval x).cells) (e:=t) (cs:=pv.cs) hd e2 e3 (fun y hy=>List.all_eq_true.1 hb y hy)
  (fun c y u hy hu=>by
   obtain ⟨h4,_⟩:=hc c y hy
   rw [← e1,List.getD_eq_getElem?_getD,Array.getElem?_toList,hu] at h4
   exact h4)
 unfold Oper.wp
 have hrun:(execOp a.eval o).run P w = .ok (.value (.pointer (some ⟨w.heap.size,0,none⟩))) (w.alloc (.cells (a.eval x).cells t)):=by
  simp [execOp,ho,Instr.box,newVar,newRow]
 rw [hrun,Oper.upon_value,hod]
 exact hK _ _ r' (bty_new w _ t) (by rw [St.assign_m]; rfl) h2 h3
/-- A pointer is stored where an optional one to the same place stands. -/
theorem OpOK.storeOpt {t:TypeId} {x y:Operand} {b off b' off':Nat} {cs:List PC} {T:TypeId} {u:Bool} (ho:o.op = .store t x y) (hd:o.dst = none) (hs:P.size? t = some 1) (hx:st.use x = some ⟨.one,[.ref b off]⟩) (hy:st.use y = some ⟨.one,[.ref b' off']⟩)
  (hb:st.bx[b]? = some cs) (hc:cs[off]? = some (.opt T u b' off')) (hno:st.noNm b off 1) :
  OpOK P o st (st.setBox b off [.opt T true b' off']):=by
 intro a w r hi K Q hK
 have hv:=(hi.use hx).out_ref
 have hvy:=(hi.use hy).out_ref
 have hlt:off < cs.length:=(List.getElem?_eq_some_iff.1 hc).1
 have hat:st.at (.b b off) = some (.opt T u b' off'):=by simp [St.at,hb,hc]
 have hold:=hi.cell _ _ hat
 simp only [RepC] at hold
 obtain ⟨_,hold⟩:=hold
 have hT:b' < st.bx.length ∧ bty w (r.β b') = some T:=by
  generalize alpha a w r (.b b off) = v at hold
  cases hold with
  | s hs=>cases hs
  | opt h ht=>exact ⟨h,ht⟩
 obtain ⟨⟨vals,e,hh,hvs,_⟩,_⟩:=hi.bx b cs hb
 have hcells:(a.eval y).cells = #[.pointer (some ⟨r.β b',off',none⟩)]:=by rw [hvy]; rfl
 have hrun:=execOp_store (P:=P) (a:=a) (w:=w) ho hv rfl (by rw [hs,hcells]; rfl) hh (.inl rfl) (by rw [hcells,hvs]; exact hlt) (fun v hv=>by rw [hcells] at hv; simp only [List.mem_toArray,List.mem_singleton] at hv; rw [hv]; rfl)
 have hinv:=hi.storeBox (b:=b) (off:=off) (l:=[.opt T true b' off']) (vs:=[.pointer (some ⟨r.β b',off',none⟩)]) (γc:=fun _=>none) hb hh rfl hlt (fun v hv=>by simp only [List.mem_singleton] at hv; rw [hv]; rfl) (fun z hz=>by simp only [List.mem_singleton] at hz; subst hz; rfl) hno
  (fun j z v hz hv=>by
   cases j with
   | succ j=>simp at hz
   | zero =>
    simp only [List.getElem?_cons_zero,Option.some.injEq] at hz hv
    subst hz hv
    exact ⟨rfl,RepF.opt (u:=true) (β:=r.β) hT.1 hT.2⟩) (fun _ _ h=>by cases h) (fun _ _ _ h=>by cases h)
 unfold Oper.wp
 rw [hrun,Oper.upon_skip,hd,hcells]
 rw [hd] at hK
 refine hK undef _ _ rfl hinv ?_
 have hlens:(st.setBox b off [.opt T true b' off']).bx.length = st.bx.length:=by simp [St.setBox]
 refine Step.setRow (.inr ⟨b,(List.getElem?_eq_some_iff.1 hb).1,rfl⟩) rfl rfl (fun k hk=>?_)
 rw [hlens] at hk
 rcases hk with ⟨p,hp⟩ | hk
 ·cases p with
  | t t c=>exact .inl ⟨_,hp⟩
  | b b' c =>
   simp only [Rs.setB] at hp
   split at hp
   ·cases hp
   ·exact .inl ⟨_,hp⟩
 ·exact .inr hk
/-! Pointers without a type. -/
theorem Inv.shape (hi:Inv P st a w r) {b:Nat} {cs:List PC} (hb:st.bx[b]? = some cs):∃ e,w.shape? (r.β b) = some (e,cs.length) ∧ bty w (r.β b) = some e:=by
 obtain ⟨⟨vals,e,hh,hvs,_⟩,_⟩:=hi.bx b cs hb
 exact ⟨e,by simp [World.shape?,hh,hvs],by unfold bty; rw [hh]⟩
theorem info_size {e:TypeId} {n:Nat} (h:P.size? e = some n):∃ j,P.info? e = some j ∧ j.size = n:=by
 obtain ⟨j,hj,rfl⟩:=Option.map_eq_some_iff.1 h
 exact ⟨j,hj,rfl⟩
theorem Inv.hasRef (hi:Inv P st a w r) {b off:Nat} (hb:b < st.bx.length):Has P st a w r ⟨.one,[.ref b off]⟩ (.pointer (some ⟨r.β b,off,none⟩)) :=
 Has.one rfl ⟨rfl,.ref hb⟩ (fun _ h=>by simp [PC.names] at h)
/-- A pointer to a box, or into a row, is no nil one. -/
def isPt:PC → Bool
 | .ref .. | .cel ..=>true
 | _=>false
theorem Reads.nilCk {x:Operand} {c:PC} (ho:o.op = .nilCheck x) (hc:isPt c = true) (hx:st.use x = some ⟨.one,[c]⟩):Reads P o st ⟨.one,[c]⟩:=fun a w r hi=>by
 have hh:=hi.use hx
 obtain ⟨A,hv⟩:∃ A,a.eval x = .pointer (some A):=by
  obtain ⟨_,h2,_⟩:=hh.out
  cases c with
  | ref b off=>exact ⟨_,hh.out_ref⟩
  | cel cs off =>
   obtain ⟨_,h3⟩:=h2
   generalize a.eval x = v at h3
   cases h3 with
   | s hs=>cases hs; exact ⟨_,rfl⟩
  | _=>cases hc
 refine ⟨_,?_,hh⟩
 simp only [execOp,ho,hv]
 rfl
theorem Reads.toUnsafe {s t e:TypeId} {x:Operand} {b off n:Nat} {cs:List PC} (ho:o.op = .convert s t x) (hs:P.underlying s = some (.pointer e)) (ht:P.underlying t = some .unsafePointer) (he:P.size? e = some (n + 1))
  (hx:st.use x = some ⟨.one,[.ref b off]⟩) (hb:st.bx[b]? = some cs) (hoff:off < cs.length):Reads P o st ⟨.one,[.ref b off]⟩:=fun a w r hi=>by
 have hv:=(hi.use hx).out_ref
 obtain ⟨e',hsh,_⟩:=hi.shape hb
 obtain ⟨j,hj,hjs⟩:=info_size he
 refine ⟨_,?_,hi.hasRef (List.getElem?_eq_some_iff.1 hb).1⟩
 simp only [execOp,ho,hv]
 rw [Sem.run_bind,Lib.run_to_unsafe w ⟨r.β b,off,none⟩ hs ht hj (by omega) hsh hoff]
 rfl
theorem Reads.ofUnsafe {s t e T:TypeId} {x:Operand} {b off n:Nat} {u:Bool} {cs:List PC} (ho:o.op = .convert s t x) (hs:P.underlying s = some .unsafePointer) (ht:P.underlying t = some (.pointer e)) (he:P.size? e = some n)
  (hx:st.use x = some ⟨.one,[.ref b off]⟩) (hb:st.bx[b]? = some cs) (hc:cs[off]? = some (.opt T u b off)) (hl:liesAt P P.depth T (cs.length / P.cellsOf T) off e 1 = true):Reads P o st ⟨.one,[.ref b off]⟩:=fun a w r hi=>by
 have hv:=(hi.use hx).out_ref
 obtain ⟨e',hsh,hty⟩:=hi.shape hb
 obtain ⟨j,hj,hjs⟩:=info_size he
 have hat:st.at (.b b off) = some (.opt T u b off):=by simp [St.at,hb,hc]
 have hold:=hi.cell _ _ hat
 simp only [RepC] at hold
 obtain ⟨_,hold⟩:=hold
 have hT:bty w (r.β b) = some T:=by
  generalize alpha a w r (.b b off) = v at hold
  cases hold with
  | s hs=>cases hs
  | opt h ht=>exact ht
 rw [hT] at hty
 obtain rfl:=Option.some.inj hty
 refine ⟨_,?_,hi.hasRef (List.getElem?_eq_some_iff.1 hb).1⟩
 simp only [execOp,ho,hv]
 rw [Sem.run_bind,Lib.run_from_unsafe w ⟨r.β b,off,none⟩ hs ht hj hsh hl]
 rfl
/-- The library's function that hands back what it is given. -/
def isSame (P : Program) (f : FuncId) : Prop := ∃ fn, P.funcs[f]? = some fn ∧ (fn.name == "runtime.NumGoroutine") = false ∧ fn.body.isNone = true ∧ Extern.findNext fn = none ∧ Extern.find fn = some Extern.AbiNoEscape.same
theorem Reads.same {x y:Operand} {t:TypeId} {f:FuncId} {b off:Nat} (ho:o.op = .call { callee:=.value x,args:=#[y],argTypes:=#[t] }) (hx:st.use x = some ⟨.one,[.sc (.func (.func f) #[] #[])]⟩) (hf:isSame P f)
  (hy:st.use y = some ⟨.one,[.ref b off]⟩) (hb:b < st.bx.length):Reads P o st ⟨.one,[.ref b off]⟩:=fun a w r hi=>by
 have hvx:=(hi.use hx).out_sc
 have hv:=(hi.use hy).out_ref
 obtain ⟨fn,h1,h2,h3,h4,h5⟩:=hf
 refine ⟨_,?_,hi.hasRef hb⟩
 have hcf:=run_callFunc_extern (P:=P) h1 h2 h3 h4 h5 #[.pointer (some ⟨r.β b,off,none⟩)] w
 rw [Lib.run_noEscape] at hcf
 simp only [execOp,ho,resolve,hvx,hv,Deferred.ofValue,List.map_toArray,List.map_cons,List.map_nil,Sem.run_bind,Sem.run_pure,Result.andThen_ok,invoke,Array.empty_append]
 exact hcf
/-- An operation that takes an owned row and hands back the row, turned. -/
theorem OpOK.regrown {o:Oper} {d:Nat} {p:Place} {e:TypeId} {xs ys:List (List PC)} (hod:o.dst = some d) (hd:st.okd d) (hp:st.at p = some (.own e xs))
  (H:∀ a w r,Inv P st a w r → ∃ v' w',(execOp a.eval o).run P w = .ok (.value v') w' ∧ RepOwn P w' r.Sh e ys v' v'.ownBlock ∧ w.grownBy w' (r.γ p) ∧ (∀ g,v'.ownBlock = some g → r.γ p = some g ∨ w.heap.size ≤ g) ∧ ∀ g T,bty w g = some T → bty w' g = some T) :
  OpOK P o st ((st.setAt p .dead).assign d ⟨.one,[.own e ys]⟩):=by
 intro a w r hi K Q hK
 obtain ⟨v',w',hex,hrep,hgrow,hblk,hty'⟩:=H a w r hi
 unfold Oper.wp
 rw [hex,Oper.upon_value,hod]
 rw [hod] at hK
 have h1:v'.oneCell' = true:=by
  obtain ⟨vs,hvs,_⟩:=hrep
  rcases hvs.2 with ⟨rfl,_⟩ | ⟨_,_,_,_,rfl,_⟩ <;> rfl
 have key:∀ (stk:St) (rk:Rs),Inv P stk a w rk → rk.Sh = r.Sh → rk.β = r.β → stk.n = st.n → stk.m = st.m → stk.fx = st.fx → rk.κ = r.κ → stk.bx.length = st.bx.length → (∀ p1 g,rk.γ p1 = some g → r.γ p1 = some g ∧ r.γ p ≠ some g) →
   Inv P (stk.assign d ⟨.one,[.own e ys]⟩) (a.put (some d) v') w' ((rk.dropT d).setT d fun c=>if c = 0 then v'.ownBlock else none) ∧
   Step st.m w r st.bx.length w' ((rk.dropT d).setT d fun c=>if c = 0 then v'.ownBlock else none) st.bx.length:=by
  intro stk rk hk hSh hβ hn hm hfx hκ hlen' hγk
  have hnotown:∀ g,r.γ p = some g → ¬ rk.Sh g ∧ ¬ rk.X stk.bx.length g:=by
   intro g hg
   have hp:r.γ p = some g:=hg
   refine ⟨fun hs=>(hi.sh g (hSh ▸ hs)).2.1 p hp,fun hx=>?_⟩
   rcases hx with ⟨p',hp'⟩ | ⟨b,hb,hbe⟩
   ·exact (hγk p' g hp').2 hg
   ·rw [hβ] at hbe; exact hi.exb p g b hp (by omega) hbe
  have hw:Inv P stk a w' rk:=hk.world (fun g hg=>hgrow.block g (by rcases hg with h | h; exact (hk.sh g h).1; exact hk.X_lt h) (fun e'=>by
   have:=hnotown g e'.symm
   rcases hg with h | h
   ·exact this.1 h
   ·exact this.2 h)) hgrow.size hty'
  refine ⟨hw.assign ⟨by rw [hn]; exact hd.1,by rw [hfx]; exact hd.2⟩ ⟨rfl,h1⟩ (fun c x hx=>?_) (fun c x q hx hn=>?_) (fun c g hg=>?_) (fun c c' g hg hg'=>?_),?_⟩
  ·cases c with
   | zero =>
    simp only [List.getElem?_cons_zero,Option.some.injEq] at hx
    subst hx
    refine ⟨fun q hq=>by simp [PC.names] at hq,?_⟩
    rw [flat_one h1]
    simp only [RepC,if_true]
    rw [hSh]
    exact hrep
   | succ c=>simp at hx
  ·cases c with
   | zero=>simp only [List.getElem?_cons_zero,Option.some.injEq] at hx; subst hx; simp [PC.names] at hn
   | succ c=>simp at hx
  ·split at hg
   ·rename_i e0; subst e0
    refine ⟨⟨e,_,rfl⟩,?_⟩
    have hX:∀ g,(rk.dropT d).X stk.bx.length g → rk.X stk.bx.length g:=fun g hx=>by
     rcases hx with ⟨p,hp⟩ | hb
     ·simp only [Rs.dropT] at hp
      split at hp
      ·cases hp
      ·exact .inl ⟨p,hp⟩
     ·exact .inr hb
    rcases hblk g hg with h2 | h2
    ·exact ⟨(hnotown g h2).1,fun hx=>(hnotown g h2).2 (hX g hx)⟩
    ·exact ⟨fun hs=>by have:=(hk.sh g hs).1; omega,fun hx=>by have:=hk.X_lt (hX g hx); omega⟩
   ·cases hg
  ·split at hg <;> split at hg' <;> first | omega | (cases hg; done) | (cases hg'; done)
  ·have hXown:∀ g,r.γ p = some g → r.X st.bx.length g:=fun g hg=>.inl ⟨p,hg⟩
   refine ⟨hgrow.os,hgrow.tape,hgrow.output,hgrow.size,fun g hg hx=>hgrow.block g hg (fun e'=>hx (hXown g e'.symm)),fun g hg=>hSh ▸ hg,fun g hg=>.inl (hSh ▸ hg),fun g hg=>?_,fun b _=>by show rk.β b = r.β b; rw [hβ],hκ,hty'⟩
   rcases hg with ⟨p,hp⟩ | ⟨b,hb,hbe⟩
   ·cases p with
    | t k c =>
     simp only [Rs.setT,Rs.dropT] at hp
     split at hp
     ·split at hp
      ·rcases hblk g hp with h2 | h2
       ·exact .inl (hXown g h2)
       ·exact .inr h2
      ·cases hp
     ·split at hp
      ·cases hp
      ·exact .inl (.inl ⟨_,(hγk _ g hp).1⟩)
    | b b c =>
     simp only [Rs.setT,Rs.dropT,Place.isT] at hp
     exact .inl (.inl ⟨_,(hγk _ g (by simpa using hp)).1⟩)
   ·have:rk.β b = g:=hbe
    rw [hβ] at this
    exact .inl (.inr ⟨b,hb,this⟩)
 have hlen':=St.setAt_len (st:=st) (p:=p) (x:=.dead)
 obtain ⟨h2,h3⟩:=key (st.setAt p .dead) (r.clr p false) (hi.kill hp) (by funext g; simp [Rs.clr]) rfl St.setAt_n St.setAt_m St.setAt_fx rfl hlen' (fun p' g hp'=>by
  simp only [Rs.clr] at hp'
  split at hp'
  ·cases hp'
  ·rename_i hne
   exact ⟨hp',fun e'=>hne (hi.inj _ _ _ hp' e')⟩)
 exact hK v' w' _ (by rw [St.assign_m]; exact St.setAt_m) h2 (by rw [St.assign_bx,hlen']; exact h3)
/-- A row of bytes is marked. -/
theorem OpOK.mark {d u s t:Nat} {e:TypeId} {xs:List (List PC)} (ho:o.op = .convert s t (.tmp u)) (hod:o.dst = some d) (hd:st.okd d) (hst:s = t) (ht:P.underlying t = some (.slice e)) (he:P.underlying e = some (.int .u8)) (hu:st.get u = some ⟨.one,[.own e xs]⟩) (hne:xs ≠ []) :
  OpOK P o st ((st.setAt (.t u 0) .dead).assign d ⟨.one,[.own e xs]⟩):=by
 subst hst
 have hat:st.at (.t u 0) = some (.own e xs):=by simp [St.at,hu]
 refine OpOK.regrown hod hd hat fun a w r hi=>?_
 obtain ⟨hfit,hal⟩:=hi.tmpv hu
 have hone:(a.tmps.getD u undef).oneCell' = true:=hfit.2
 have halv:alpha a w r (.t u 0) = a.tmps.getD u undef:=by rw [hal 0,flat_one hone]; rfl
 have hown:=hi.cell _ _ hat
 rw [halv] at hown
 simp only [RepC] at hown
 obtain ⟨vals,h1,h2,h3,h4⟩:=hown
 rcases h1.2 with ⟨_,hn⟩ | ⟨g,cap,cur,fz,hv,hfz,hh,hnc,hcm,hcs,htake⟩
 ·exact absurd (List.length_eq_zero_iff.1 hn) hne
 have hev:a.eval (.tmp u) = .slice (some ⟨g,0,none⟩) xs.length cap:=by
  rw [← hv]; simp [Act.eval]
 have hγ:r.γ (.t u 0) = some g:=by rw [← h2,hv]; rfl
 have hnew:(w.freeze ⟨g,cur.size,none⟩ 1).heap[g]? = some (.cells cur e (cur.size,if fz = (0,0) then cur.size + 1 else max fz.2 (cur.size + 1))) ∨ ∃ fz',FreeZ fz' cur.size ∧ (w.freeze ⟨g,cur.size,none⟩ 1).heap[g]? = some (.cells cur e fz'):=by
  refine .inr ?_
  obtain ⟨lo,hi'⟩:=fz
  refine ⟨if lo == hi' then (cur.size,cur.size + 1) else (min lo cur.size,max hi' (cur.size + 1)),?_,?_⟩
  ·simp only [FreeZ,Prod.mk.injEq] at hfz ⊢
   split
   ·exact .inr (Nat.le_refl _)
   ·rename_i hlo
    rcases hfz with ⟨rfl,rfl⟩ | h
    ·simp at hlo
    ·right; simp only []; omega
  ·simp only [World.freeze,if_neg (by decide:¬ (1 = 0)),Array.getElem?_modify,hh]
   simp
 have hfr:∃ fz',FreeZ fz' cur.size ∧ (w.freeze ⟨g,cur.size,none⟩ 1).heap[g]? = some (.cells cur e fz'):=by
  rcases hnew with h | h
  ·exact ⟨_,.inr (Nat.le_refl _),h⟩
  ·exact h
 obtain ⟨fz',hf1,hf2⟩:=hfr
 have hother:∀ k,k ≠ g → (w.freeze ⟨g,cur.size,none⟩ 1).heap[k]? = w.heap[k]?:=fun k hk=>by
  simp only [World.freeze,if_neg (by decide:¬ (1 = 0)),Array.getElem?_modify]
  rw [if_neg (fun h=>hk h.symm)]
 have hrun:(execOp a.eval o).run P w = .ok (.value (.slice (some ⟨g,0,none⟩) xs.length cap)) (w.freeze ⟨g,cur.size,none⟩ 1):=by
  have hsh:w.shape? g = some (e,cur.size):=by simp [World.shape?,hh]
  simp [execOp,ho,hev,convert,run_underlying ht,run_underlying he,markStringish,hsh]
 have hSh:∀ k,r.Sh k → (w.freeze ⟨g,cur.size,none⟩ 1).heap[k]? = w.heap[k]?:=fun k hk=>hother k fun e'=>(hi.sh k hk).2.1 (.t u 0) (e' ▸ hγ)
 refine ⟨_,_,hrun,⟨vals,⟨h1.1,.inr ⟨g,cap,cur,fz',rfl,hf1,hf2,hnc,hcm,hcs,htake⟩⟩,rfl,h3,fun i x hx=>?_⟩,⟨rfl,rfl,rfl,by simp [World.freeze],fun k _ hk=>hother k fun e'=>hk (by rw [hγ,e'])⟩,fun g' hg'=>.inl (by simp only [Value.ownBlock,Option.some.injEq] at hg'; rw [← hg']; exact hγ),fun k T hT=>?_⟩
 ·obtain ⟨u',hu',hru⟩:=h4 i x hx
  exact ⟨u',hu',hru.mono (fun _ h=>h) hSh⟩
 ·by_cases hk:k = g
  ·subst hk
   unfold E.bty at hT ⊢
   rw [hh] at hT
   rw [hf2]; exact hT
  ·rw [bty_same (hother k hk)]; exact hT
end
end Go.Proofs.YtoclajfeeebbbadGreatDoor.E
