/- The engine, part M: calls. Plain lemmas; no program. -/
import Derived.Test.YtoclajfeeebbbadGreatDoorEng6
import Derived.KernelRfl
set_option linter.unusedVariables false
set_option linter.unusedSectionVars false
set_option linter.unusedSimpArgs false
namespace Go.Proofs.YtoclajfeeebbbadGreatDoor.E
open Go.RowKit
variable [LaidFacts]
section
variable {P:Program} {st:St} {a:Act} {w:World} {r:Rs}
/-- A cell that may be shared as it stands. -/
def PC.plain:PC → Bool
 | .sc _ | .sl .. | .cel .. | .bnd .. | .er | .nl=>true
 | _=>false
/-- A cell as a callee gets it. -/
def passC (P:Program) (st:St):PC → Option PC
 | .al p=>(St.row P st 4 (.al p)).map fun x=>.sl x.1 x.2
 | .vw p lo n s=>(St.row P st 4 (.vw p lo n s)).map fun x=>.sl x.1 x.2
 | .fn f caps=>if caps.all PC.plain then some (.fn f caps) else none
 | x=>if x.plain then some x else none
def passR (P:Program) (st:St) (x y:PC):Prop:=passC P st x = some y ∨ ∃ s s',St.row P st 4 x = some (s,[]) ∧ y = .sl s' []
def passCs (P:Program) (st:St):List PC → List PC → Prop
 | [],[]=>True
 | x :: l,y :: m=>passR P st x y ∧ passCs P st l m
 | _,_=>False
def Rs.all (r:Rs) (g:Nat):Prop:=r.Sh g ∨ ∃ p,r.γ p = some g
theorem vw_rep {w:World} {Sh:Nat → Prop} {s lo n:Nat} {xs:List (List PC)} {u:Value} (h:RepS w Sh (.sl s xs) u) (hle:lo + n ≤ xs.length):RepS w Sh (.sl s ((xs.drop lo).take n)) (vwVal u lo n s):=by
 rcases Nat.eq_zero_or_pos n with e | hn
 ·subst e
  cases h with
  | nil=>simp only [List.take_zero,vwVal]; exact .nil
  | sl f hz hc hsh hcell hr=>simp only [List.take_zero,vwVal]; exact .nil
 ·cases h with
  | nil=>simp at hle; omega
  | sl f hz hc hsh hcell hr =>
   rename_i g off c
   have hlen:((xs.drop lo).take n).length = n:=by simp; omega
   have hcl:c ≠ lo:=by omega
   have hi:∀ i el,((xs.drop lo).take n)[i]? = some el → xs[lo + i]? = some el:=fun i el h=>(take_drop_at h).2
   have:=RepS.sl (w:=w) (Sh:=Sh) (xs:=(xs.drop lo).take n) (g:=g) (off:=off + lo * s) (c:=c - lo) (size:=s) (fun i j=>f (lo + i) j) (fun el he=>hz el (List.mem_of_mem_drop (List.mem_of_mem_take he))) (by omega) hsh
    (fun i j el x h1 h2=>by rw [← hcell (lo + i) j el x (hi i el h1) h2]; congr 2; rw [Nat.add_mul]; omega) (fun i j el x h1 h2=>hr (lo + i) j el x (hi i el h1) h2)
   rw [hlen] at this
   simp only [vwVal,if_neg hcl,Option.map_some,add_mk]
   exact this
theorem Inv.rowS (h:Inv P st a w r):∀ (k:Nat) {x:PC} {v:Value} {g:Option Nat} {s:Nat} {xs:List (List PC)},(∀ k,g = some k → r.all k) → RepC P w r st (alpha a w r) x v g → St.row P st k x = some (s,xs) → RepS w r.all (.sl s xs) v
 | k,.sl s' xs',v,g,s,xs,hg,hx,hr=>by
  obtain ⟨_,hx⟩:=hx
  cases k <;> simp only [St.row,Option.some.injEq,Prod.mk.injEq] at hr <;> obtain ⟨rfl,rfl⟩:=hr <;> (cases hx with | s hs=>exact hs.mono (fun _ h=>.inl h) (fun _ _=>rfl))
 | k,.own e xs',v,g,s,xs,hg,hx,hr=>by
  cases k <;> simp only [St.row,Option.some.injEq,Prod.mk.injEq] at hr <;> obtain ⟨rfl,rfl⟩:=hr <;> exact RepOwn.share hx (fun _ h=>.inl h) hg
 | k,.nl,v,g,s,xs,hg,hx,hr=>by
  obtain ⟨_,hx⟩:=hx
  have hv:v = .slice none 0 0:=by cases hx with | s hs=>cases hs; rfl
  subst hv
  cases k <;> simp only [St.row,Option.some.injEq,Prod.mk.injEq] at hr <;> obtain ⟨rfl,rfl⟩:=hr <;> exact .nil
 | 0,.al p,v,g,s,xs,hg,hx,hr=>by simp [St.row] at hr
 | k + 1,.al p,v,g,s,xs,hg,hx,hr=>by
  simp only [St.row,Option.bind_eq_some_iff] at hr
  obtain ⟨y,hy,hr⟩:=hr
  have hl:st.lives p:=⟨y,hy,fun e=>by subst e; cases k <;> simp [St.row] at hr⟩
  rw [hx.2 hl]
  exact Inv.rowS h k (fun k hk=>.inr ⟨p,hk⟩) (h.cell p y hy) hr
 | 0,.vw p lo n s',v,g,s,xs,hg,hx,hr=>by simp [St.row] at hr
 | k + 1,.vw p lo n s',v,g,s,xs,hg,hx,hr=>by
  simp only [St.row] at hr
  split at hr
  ·rename_i s0 xs0 h0
   split at hr
   ·rename_i hc
    obtain ⟨rfl,hle⟩:=hc
    simp only [Option.some.injEq,Prod.mk.injEq] at hr
    obtain ⟨rfl,rfl⟩:=hr
    simp only [Option.bind_eq_some_iff] at h0
    obtain ⟨y,hy,h0⟩:=h0
    have hl:st.lives p:=⟨y,hy,fun e=>by subst e; cases k <;> simp [St.row] at h0⟩
    rw [hx.2 hl]
    exact vw_rep (Inv.rowS h k (fun k hk=>.inr ⟨p,hk⟩) (h.cell p y hy) h0) hle
   ·cases hr
  ·cases hr
 | k,.sc _,v,g,s,xs,hg,hx,hr=>by cases k <;> simp [St.row] at hr
 | k,.opt _ _ _ _,v,g,s,xs,hg,hx,hr=>by cases k <;> simp [St.row] at hr
 | k,.ref _ _,v,g,s,xs,hg,hx,hr=>by cases k <;> simp [St.row] at hr
 | k,.el _ _ _ _,v,g,s,xs,hg,hx,hr=>by cases k <;> simp [St.row] at hr
 | k,.cel _ _,v,g,s,xs,hg,hx,hr=>by cases k <;> simp [St.row] at hr
 | k,.fn _ _,v,g,s,xs,hg,hx,hr=>by cases k <;> simp [St.row] at hr
 | k,.bnd _ _,v,g,s,xs,hg,hx,hr=>by cases k <;> simp [St.row] at hr
 | k,.er,v,g,s,xs,hg,hx,hr=>by cases k <;> simp [St.row] at hr
 | k,.dead,v,g,s,xs,hg,hx,hr=>by cases k <;> simp [St.row] at hr
theorem plain_rep {x:PC} {v:Value} (hp:x.plain = true) (h:RepC P w r st (alpha a w r) x v none):RepS w r.Sh x v:=by
 cases x <;> simp only [PC.plain] at hp <;> try (cases hp; done)
 all_goals
  obtain ⟨_,h⟩:=h
  cases h with
  | s h=>exact h
theorem plainF_rep {Sh:Nat → Prop} {β:Nat → Nat} {nb:Nat} {x:PC} {v:Value} (hp:x.plain = true) (h:RepF w Sh β nb x v):RepS w Sh x v:=by
 cases h with
 | s h=>exact h
 | ref h=>cases hp
 | opt h _=>cases hp
 | fn _ _=>cases hp
/-- It may stand in a row: a closure over such, too. -/
def PC.plain2:PC → Bool
  | .fn _ caps=>caps.all PC.plain
  | x=>x.plain
theorem plain2_rep {x:PC} {v:Value} (hp:x.plain2 = true) (h:RepC P w r st (alpha a w r) x v none):RepS w r.Sh x v:=by
  cases x
  case fn f caps =>
    obtain ⟨_,h⟩:=h
    cases h with
    | s h=>exact h
    | fn hn hr=>exact .fn hn fun j x v hj hv=>plainF_rep (List.all_eq_true.1 hp x (List.mem_of_getElem? hj)) (hr j x v hj hv)
  all_goals exact plain_rep hp h
theorem run_enter {f : FuncId} {fn : Func} (hf : P.funcs[f]? = some fn) (hname : (fn.name == "runtime.NumGoroutine") = false) (hbody : fn.body.isSome = true) (args : Array Value) (w : World) : (callFunc f args).run P w = .ok (.enter f args) w := by
 have h1 : fn.name ≠ "runtime.NumGoroutine" := by simpa using hname
 obtain ⟨c,hc⟩:=Option.isSome_iff_exists.1 hbody
 simp [callFunc,hf,h1,hc]
/-- What is made of single values alone. -/
def PC.scalar:PC → Bool
 | .sc _ | .er | .nl=>true
 | _=>false
def PC.flatB:PC → Bool
 | .own _ xs=>xs.all fun el=>el.all PC.scalar
 | x=>x.scalar
theorem scalar_rep {w w':World} {Sh Sh':Nat → Prop} {x:PC} {v:Value} (hx:x.scalar = true) (h:RepS w Sh x v):RepS w' Sh' x v:=by
 cases h <;> simp only [PC.scalar] at hx <;> first | (cases hx; done) | exact .sc ‹_› | exact .er | exact .nl
theorem flatB_rep {r':Rs} {st':St} {al al':Place → Value} {x:PC} {v:Value} {g:Option Nat} (hx:x.flatB = true) (h:RepC P w r st al x v g):RepC P w r' st' al' x v g:=by
 cases x <;> simp only [PC.flatB,PC.scalar] at hx <;> try (cases hx; done)
 case own e xs =>
  obtain ⟨vals,h1,h2,h3,h4⟩:=h
  refine ⟨vals,h1,h2,h3,fun i x hi=>?_⟩
  obtain ⟨u,hu,hr⟩:=h4 i x hi
  obtain ⟨el,hel,hxe⟩:=List.mem_flatten.1 (List.mem_of_getElem? hi)
  exact ⟨u,hu,scalar_rep (List.all_eq_true.1 (List.all_eq_true.1 hx el hel) x hxe) hr⟩
 all_goals
  obtain ⟨h1,h2⟩:=h
  refine ⟨h1,?_⟩
  cases h2 with
  | s h=>exact .s (scalar_rep rfl h)
theorem flatB_free:∀ (x:PC),x.flatB = true → x.free 0 = true
 | .sc _,_ | .sl ..,_ | .own ..,_ | .er,_ | .nl,_ | .dead,_ | .cel ..,_=>rfl
 | .fn ..,h | .ref ..,h | .opt ..,h | .al _,h | .vw ..,h | .el ..,h=>by simp [PC.flatB,PC.scalar] at h
end
end Go.Proofs.YtoclajfeeebbbadGreatDoor.E
/- The engine, part N: guarded operations; the rules as a walk takes them. Plain lemmas; no program. -/
set_option linter.unusedVariables false
set_option linter.unusedSectionVars false
set_option linter.unusedSimpArgs false
namespace Go.Proofs.YtoclajfeeebbbadGreatDoor.E
open Go.RowKit
variable [LaidFacts]
section
variable {P:Program} {st:St}
theorem Inv.yielded {a:Act} {w:World} {r:Rs} (h:Inv P st a w r) {ops:Array Oper} {j d:Nat} {b:Bool} (hj:(ops[j]?).bind (·.dst) = some d) (hd:st.get d = some ⟨.one,[.sc (.bool b)]⟩):Go.yielded ops a.tmps j = some b:=by
 obtain ⟨v,h1,_⟩:=h.tm d _ hd
 have h2:=(h.has hd).out_sc
 have:a.eval (.tmp d) = v:=by simp [Act.eval,Array.getD_eq_getD_getElem?,h1]
 rw [this] at h2
 subst h2
 simp [Go.yielded,hj,h1]
theorem TriO.consW {ops:Array Oper} {o:Oper} {l:List Oper} {Q:St → Prop} {st':St} (hg:∀ a w r,Inv P st a w r → Region.wanted o (Go.yielded ops a.tmps) = true) (ho:OpOK P o st st') (h:TriO P ops l Q st'):TriO P ops (o :: l) Q st:=by
 intro a w r hi
 refine wpList_step fun K hK=>?_
 rw [if_pos (hg a w r hi)]
 refine ho a w r hi K _ fun v w' r' h1 h2 h3=>hK _ _ ?_
 refine wpList_mono (fun _ _ _ k=>Post.step h3 ?_) l _ w' (h _ w' r' h2)
 rw [h1] at k; exact k
theorem TriO.consT {ops:Array Oper} {o:Oper} {l:List Oper} {Q:St → Prop} {st':St} {j d:Nat} {b:Bool} (hg:o.guard = some (j,b)) (hj:(ops[j]?).bind (·.dst) = some d) (hd:st.get d = some ⟨.one,[.sc (.bool b)]⟩) (ho:OpOK P o st st') (h:TriO P ops l Q st'):TriO P ops (o :: l) Q st :=
 TriO.consW (fun a w r hi=>by simp [Region.wanted,hg,hi.yielded hj hd]) ho h
/-- Not wanted: its temporary holds nothing. -/
theorem TriO.consF {ops:Array Oper} {o:Oper} {l:List Oper} {Q:St → Prop} {j d e:Nat} {b c:Bool} (hg:o.guard = some (j,b)) (hj:(ops[j]?).bind (·.dst) = some d) (hd:st.get d = some ⟨.one,[.sc (.bool c)]⟩) (hbc:c = !b) (ho:o.dst = some e) (he:st.okd e)
  (h:TriO P ops l Q (st.assign e ⟨.tup [],[]⟩)):TriO P ops (o :: l) Q st:=by
 intro a w r hi
 refine wpList_step fun K hK=>?_
 have hw:Region.wanted o (Go.yielded ops a.tmps) = false:=by subst hbc; simp [Region.wanted,hg,hi.yielded hj hd]
 rw [if_neg (by rw [hw]; simp)]
 refine hK _ _ ?_
 have h1:=hi.assign_has (d:=e) (pv:=⟨.tup [],[]⟩) (v:=undef) he rfl ⟨⟨#[],rfl,rfl,rfl,fun x hx=>by simp at hx⟩,fun c x hx=>by simp at hx⟩
 rw [ho]
 have hst:Step st.m w r st.bx.length w ((r.dropT e).setT e fun _=>none) st.bx.length:=Step.assign (fun _ _ h=>by cases h)
 refine wpList_mono (fun _ _ _ k=>Post.step hst ?_) l _ w (h _ w _ h1)
 rw [St.assign_m,St.assign_bx] at k
 exact k
end
end Go.Proofs.YtoclajfeeebbbadGreatDoor.E
/- The engine, part O: operations carried out by computation. Plain lemmas; no program. -/
set_option linter.unusedVariables false
set_option linter.unusedSectionVars false
set_option linter.unusedSimpArgs false
namespace Go.Proofs.YtoclajfeeebbbadGreatDoor.E
open Go.RowKit
variable [LaidFacts]
/-- All of them hold. -/
def AllP:List Prop → Prop
 | []=>True
 | c :: l=>c ∧ AllP l
/-- A binary operation: what must hold, what it yields. -/
def evInt (op:BinOp) (k:IntKind) (a b:Int):Option (List Prop × Value) :=
 match op with
 | .add=>some ([],.int k (k.wrap (a + b)))
 | .sub=>some ([],.int k (k.wrap (a - b)))
 | .mul=>some ([],.int k (k.wrap (a * b)))
 | .quo=>some ([b ≠ 0],.int k (k.wrap (a.tdiv b)))
 | .rem=>some ([b ≠ 0],.int k (a.tmod b))
 | .eql=>some ([],.bool (decide (a = b)))
 | .neq=>some ([],.bool (!decide (a = b)))
 | .lss=>some ([],.bool (decide (a < b)))
 | .leq=>some ([],.bool (decide (a ≤ b)))
 | .gtr=>some ([],.bool (decide (b < a)))
 | .geq=>some ([],.bool (decide (b ≤ a)))
 | _=>none
def evStr (op:BinOp) (a b:ByteArray):Option (List Prop × Value) :=
 match op with
 | .add=>some ([a.size + b.size ≤ 9223372036854775807],.string (a ++ b))
 | .eql=>some ([],.bool (decide (a = b)))
 | .neq=>some ([],.bool (!decide (a = b)))
 | .lss=>some ([],.bool (Op.bytesLess a.toList b.toList))
 | _=>none
def sameKind:IntKind → IntKind → Bool
 | .i8,.i8 | .i16,.i16 | .i32,.i32 | .i64,.i64 | .u8,.u8 | .u16,.u16 | .u32,.u32 | .u64,.u64=>true
 | _,_=>false
def evBin (d:Option TypeDesc) (op:BinOp) (x y:PC):Option (List Prop × Value) :=
 match x,y with
 | .sc (.int k a),.sc (.int k' b)=>match sameKind k k' with
  | true=>evInt op k a b
  | false=>none
 | .sc (.string a),.sc (.string b)=>evStr op a b
 | .sc (.bool a),.sc (.bool b)=>match d,op with
  | some .bool,.eql=>some ([],.bool (a == b))
  | some .bool,.neq=>some ([],.bool (!(a == b)))
  | _,_=>none
 | _,_=>none
theorem sameKind_eq {k k':IntKind} (h:sameKind k k' = true):k = k':=by cases k <;> cases k' <;> first | rfl | cases h
theorem evInt_spec {op:BinOp} {k:IntKind} {a b:Int} {c:List Prop} {v:Value} (h:evInt op k a b = some (c,v)) (hc:AllP c):intV op k a b = some v:=by
 cases op <;> simp only [evInt] at h <;> first
  | (cases h; done)
  | (cases h; rfl)
  | (cases h; simp only [intV]; rw [if_neg hc.1])
theorem evStr_spec {op:BinOp} {a b:ByteArray} {c:List Prop} {v:Value} (h:evStr op a b = some (c,v)) (hc:AllP c):strV op a b = some v:=by
 cases op <;> simp only [evStr] at h <;> first
  | (cases h; done)
  | (cases h; rfl)
  | (cases h; simp only [strV]; rw [if_pos hc.1])
theorem evBin_spec {d:Option TypeDesc} {op:BinOp} {x y:PC} {c:List Prop} {v:Value} (h:evBin d op x y = some (c,v)) (hc:AllP c):binV d op x y = some v:=by
 unfold evBin at h
 split at h
 ·split at h
  ·rename_i hk
   have:=sameKind_eq hk
   subst this
   simp only [binV,if_true]
   exact evInt_spec h hc
  ·cases h
 ·exact evStr_spec h hc
 ·split at h <;> first | (cases h; done) | (cases h; rfl)
 ·cases h
section
variable {P:Program}
/-- One cell. -/
def one?:Option PV → Option PC
 | some ⟨.one,[c]⟩=>some c
 | _=>none
theorem one?_eq {x:Option PV} {c:PC} (h:one? x = some c):x = some ⟨.one,[c]⟩:=by
 unfold one? at h
 split at h
 ·cases h; rfl
 ·cases h
def elPC:PC → List PC → Nat → Nat → Option PC
 | .sl _ _,el,_,_=>some (.cel el 0)
 | .al p,_,i,s=>some (.el p i 0 s)
 | .vw p lo _ _,_,i,s=>some (.el p (lo + i) 0 s)
 | _,_,_,_=>none
/-- An operation that reads: what must hold, its value; elements that are met are told ahead. -/
def evRd (P:Program) (st:St) (hs:List (List PC)) (o:Oper):Option (List Prop × PV × List (List PC)) :=
 match o.op with
 | .move x | .assign x=>(st.use x).map fun pv=>([],pv,hs)
 | .pick c x y=>match one? (st.use c) with
  | some (.sc (.bool true))=>(st.use x).map fun pv=>([],pv,hs)
  | some (.sc (.bool false))=>(st.use y).map fun pv=>([],pv,hs)
  | _=>none
 | .binOp op t x y _=>match one? (st.use x),one? (st.use y) with
  | some c,some d=>(evBin (P.underlying t) op c d).map fun v=>(v.1,⟨.one,[.sc v.2]⟩,hs)
  | _,_=>none
 | .unOp .not _ x=>match one? (st.use x) with
  | some (.sc (.bool b))=>some ([],⟨.one,[.sc (.bool (!b))]⟩,hs)
  | _=>none
 | .unOp .neg _ x=>match one? (st.use x) with
  | some (.sc (.int k n))=>some ([],⟨.one,[.sc (.int k (k.wrap (0 - n)))]⟩,hs)
  | _=>none
 | .convert s t x=>match P.underlying s,P.underlying t,one? (st.use x) with
  | some _,some (.int k),some (.sc (.int _ n))=>some ([],⟨.one,[.sc (.int k (k.wrap n))]⟩,hs)
  | some (.int _),some .string,some (.sc (.int _ n))=>some ([],⟨.one,[.sc (.string (Utf8.encode n))]⟩,hs)
  | some .string,some .string,some (.sc (.string b))=>some ([],⟨.one,[.sc (.string b)]⟩,hs)
  | _,_,_=>none
 | .call { callee:=.builtin .len,args:=as,argTypes:=ts }=>match as.toList,ts.toList with
  | [x],[t]=>match P.underlying t,one? (st.use x) with
   | some .string,some (.sc (.string b))=>some ([],⟨.one,[.sc (.int .i64 (b.size:Int))]⟩,hs)
   | some (.slice _),some c=>(St.row P st 4 c).map fun r=>([],⟨.one,[.sc (.int .i64 (r.2.length:Int))]⟩,hs)
   | _,_=>none
  | _,_=>none
 | .index t x y=>match P.underlying t,one? (st.use x),one? (st.use y) with
  | some .string,some (.sc (.string b)),some (.sc (.int _ i))=>some ([0 ≤ i,i < (b.size:Int)],⟨.one,[.sc (.int .u8 (byteAt b i))]⟩,hs)
  | _,_,_=>none
 | .indexAddr t x y=>match P.underlying t,one? (st.use x),one? (st.use y),hs with
  | some (.slice e),some c,some (.sc (.int _ i)),el :: hs=>match P.size? e,St.row P st 4 c with
   | some s,some (s',xs)=>match Nat.beq s s',elPC c el i.toNat s with
    | true,some d=>some ([0 ≤ i,xs[i.toNat]? = some el],⟨.one,[d]⟩,hs)
    | _,_=>none
   | _,_=>none
  | _,_,_,_=>none
 | .fieldAddr t x j=>match P.underlying t,one? (st.use x) with
  | some (.struct fs),some c=>match fs[j]? with
   | some f=>match P.size? f.type,c.at f.offset with
    | some (_ + 1),some d=>match c with
     | .ref b off=>match st.bx[b]? with
      | some cs=>match Nat.ble off cs.length with | true=>some ([],⟨.one,[d]⟩,hs) | false=>none
      | none=>none
     | .cel cs off=>match Nat.ble off cs.length with | true=>some ([],⟨.one,[d]⟩,hs) | false=>none
     | .el p i off s=>match hs,(st.at p).bind (St.row P st 3) with
      | el :: hs,some (s',xs)=>match Nat.beq s' s,Nat.ble off el.length with | true,true=>some ([xs[i]? = some el],⟨.one,[d]⟩,hs) | _,_=>none
      | _,_=>none
     | _=>none
    | _,_=>none
   | none=>none
  | _,_=>none
 | .load t x=>match P.agg? t,P.size? t,one? (st.use x) with
  | some false,some 1,some c=>(rdCells c 1).bind fun x=>match x.2.1 with | [d]=>some (x.1,⟨.one,[d]⟩,x.2.2) | _=>none
  | some true,some n,some c=>(rdCells c n).map fun x=>(x.1,⟨.agg,x.2.1⟩,x.2.2)
  | _,_,_=>none
 | _=>none
where
 rdCells (c:PC) (n:Nat):Option (List Prop × List PC × List (List PC)) :=
  match c with
  | .ref b off=>match st.bx[b]? with
   | some cs=>match Nat.ble (off + n) cs.length with | true=>some ([],seenAll (.b b) off ((cs.drop off).take n),hs) | false=>none
   | none=>none
  | .cel cs off=>match Nat.ble (off + n) cs.length with | true=>some ([],(cs.drop off).take n,hs) | false=>none
  | .el p i off s=>match hs,(st.at p).bind (St.row P st 3) with
   | el :: hs,some (s',xs)=>match Nat.beq s' s,Nat.ble (off + n) el.length with | true,true=>some ([xs[i]? = some el],(el.drop off).take n,hs) | _,_=>none
   | _,_=>none
  | _=>none
theorem rdCells_spec {st:St} {hs hs':List (List PC)} {c:PC} {n:Nat} {q:List Prop} {l:List PC} (h:evRd.rdCells P st hs c n = some (q,l,hs')) (hq:AllP q):st.cellsAt P c n = some l:=by
 unfold evRd.rdCells at h
 split at h
 ·rename_i b off
  split at h
  ·rename_i cs hcs
   split at h
   ·rename_i hle
    simp only [Option.some.injEq,Prod.mk.injEq] at h
    obtain ⟨_,rfl,_⟩:=h
    simp only [St.cellsAt,hcs,Option.bind_some]
    rw [if_pos (Nat.le_of_ble_eq_true hle)]
   ·cases h
  ·cases h
 ·split at h
  ·rename_i hle
   simp only [Option.some.injEq,Prod.mk.injEq] at h
   obtain ⟨_,rfl,_⟩:=h
   simp only [St.cellsAt]
   rw [if_pos (Nat.le_of_ble_eq_true hle)]
  ·cases h
 ·split at h
  ·rename_i el hs2 s' xs hrow
   split at h
   ·rename_i hs3 hle
    simp only [Option.some.injEq,Prod.mk.injEq] at h
    obtain ⟨rfl,rfl,_⟩:=h
    simp only [St.cellsAt,hrow,Option.bind_some]
    rw [if_pos (Nat.eq_of_beq_eq_true hs3),hq.1,Option.bind_some,if_pos (Nat.le_of_ble_eq_true hle)]
   ·cases h
  ·cases h
 ·cases h
theorem evRd_spec {st:St} {hs hs':List (List PC)} {o:Oper} {q:List Prop} {pv:PV} (h:evRd P st hs o = some (q,pv,hs')) (hq:AllP q):Reads P o st pv:=by
 unfold evRd at h
 split at h
 ·rename_i x ho
  obtain ⟨z,hz,he⟩:=Option.map_eq_some_iff.1 h
  simp only [Prod.mk.injEq] at he; obtain ⟨_,rfl,_⟩:=he
  exact Reads.move (.inl ho) hz
 ·rename_i x ho
  obtain ⟨z,hz,he⟩:=Option.map_eq_some_iff.1 h
  simp only [Prod.mk.injEq] at he; obtain ⟨_,rfl,_⟩:=he
  exact Reads.move (.inr ho) hz
 ·rename_i c x y ho
  split at h
  ·rename_i hc
   obtain ⟨z,hz,he⟩:=Option.map_eq_some_iff.1 h
   simp only [Prod.mk.injEq] at he; obtain ⟨_,rfl,_⟩:=he
   exact Reads.pick (b:=true) ho (one?_eq hc) hz
  ·rename_i hc
   obtain ⟨z,hz,he⟩:=Option.map_eq_some_iff.1 h
   simp only [Prod.mk.injEq] at he; obtain ⟨_,rfl,_⟩:=he
   exact Reads.pick (b:=false) ho (one?_eq hc) hz
  ·cases h
 ·rename_i op t x y t' ho
  split at h
  ·rename_i c d hc hd
   obtain ⟨z,hz,he⟩:=Option.map_eq_some_iff.1 h
   simp only [Prod.mk.injEq] at he; obtain ⟨rfl,rfl,_⟩:=he
   exact Reads.binOp ho (one?_eq hc) (one?_eq hd) (evBin_spec hz hq)
  ·cases h
 ·rename_i t x ho
  split at h
  ·rename_i hx
   simp only [Option.some.injEq,Prod.mk.injEq] at h; obtain ⟨_,rfl,_⟩:=h
   exact Reads.not ho (one?_eq hx)
  ·cases h
 ·rename_i t x ho
  split at h
  ·rename_i hx
   simp only [Option.some.injEq,Prod.mk.injEq] at h; obtain ⟨_,rfl,_⟩:=h
   exact Reads.neg ho (one?_eq hx)
  ·cases h
 ·rename_i s t x ho
  split at h
  ·rename_i h1 h2 h3
   simp only [Option.some.injEq,Prod.mk.injEq] at h; obtain ⟨_,rfl,_⟩:=h
   exact Reads.toInt ho h1 h2 (one?_eq h3)
  ·rename_i h1 h2 h3
   simp only [Option.some.injEq,Prod.mk.injEq] at h; obtain ⟨_,rfl,_⟩:=h
   exact Reads.charStr ho h1 h2 (one?_eq h3)
  ·rename_i h1 h2 h3
   simp only [Option.some.injEq,Prod.mk.injEq] at h; obtain ⟨_,rfl,_⟩:=h
   exact Reads.toStr ho h1 h2 (one?_eq h3)
  ·cases h
 ·rename_i as ts ho
  split at h
  ·rename_i x t has hts
   have e1:as = #[x]:=by apply Array.toList_inj.1; simpa using has
   have e2:ts = #[t]:=by apply Array.toList_inj.1; simpa using hts
   subst e1 e2
   split at h
   ·rename_i h1 h2
    simp only [Option.some.injEq,Prod.mk.injEq] at h; obtain ⟨_,rfl,_⟩:=h
    exact Reads.lenStr ho h1 (one?_eq h2)
   ·rename_i h1 h2
    obtain ⟨z,hz,he⟩:=Option.map_eq_some_iff.1 h
    simp only [Prod.mk.injEq] at he; obtain ⟨_,rfl,_⟩:=he
    exact Reads.lenRow ho h1 (one?_eq h2) hz
   ·cases h
  ·cases h
 ·rename_i t x y ho
  split at h
  ·rename_i h1 h2 h3
   simp only [Option.some.injEq,Prod.mk.injEq] at h; obtain ⟨rfl,rfl,_⟩:=h
   exact Reads.byte ho h1 (one?_eq h2) (one?_eq h3) hq.1 hq.2.1
  ·cases h
 ·rename_i t x y ho
  split at h
  ·rename_i e c k i el hs2 h1 h2 h3
   split at h
   ·rename_i s s' xs h4 h5
    split at h
    ·rename_i d h6 h7
     simp only [Option.some.injEq,Prod.mk.injEq] at h; obtain ⟨rfl,rfl,_⟩:=h
     have hss:=Nat.eq_of_beq_eq_true h6
     subst hss
     have hlt:=(List.getElem?_eq_some_iff.1 hq.2.1).1
     refine Reads.addrOf ho h1 h4 (one?_eq h2) (one?_eq h3) h5 hq.1 (by omega) ?_
     cases c <;> simp only [elPC] at h7 <;> first | (cases h7; done) | (cases h7; simp [hq.2.1])
    ·cases h
   ·cases h
  ·cases h
 ·rename_i t x j ho
  split at h
  ·rename_i fs c h1 h2
   split at h
   ·rename_i f h3
    split at h
    ·rename_i n d h4 h5
     split at h
     ·rename_i b off
      split at h
      ·rename_i cs h6
       split at h
       ·rename_i h7
        simp only [Option.some.injEq,Prod.mk.injEq] at h; obtain ⟨_,rfl,_⟩:=h
        exact Reads.field ho h1 h3 h4 (one?_eq h2) (by simp only [St.cellsAt,h6,Option.bind_some,Nat.add_zero]; rw [if_pos (Nat.le_of_ble_eq_true h7)]; rfl) h5
       ·cases h
      ·cases h
     ·split at h
      ·rename_i h7
       simp only [Option.some.injEq,Prod.mk.injEq] at h; obtain ⟨_,rfl,_⟩:=h
       exact Reads.field ho h1 h3 h4 (one?_eq h2) (by simp only [St.cellsAt,Nat.add_zero]; rw [if_pos (Nat.le_of_ble_eq_true h7)]; rfl) h5
      ·cases h
     ·split at h
      ·rename_i el hs2 s' xs hrow
       split at h
       ·rename_i hs3 hle
        simp only [Option.some.injEq,Prod.mk.injEq] at h
        obtain ⟨rfl,rfl,_⟩:=h
        exact Reads.field ho h1 h3 h4 (one?_eq h2) (by simp only [St.cellsAt,hrow,Option.bind_some,Nat.add_zero]; rw [if_pos (Nat.eq_of_beq_eq_true hs3),hq.1,Option.bind_some,if_pos (Nat.le_of_ble_eq_true hle)]; rfl) h5
       ·cases h
      ·cases h
     ·cases h
    ·cases h
   ·cases h
  ·cases h
 ·rename_i t x ho
  split at h
  ·rename_i c h1 h2 h3
   obtain ⟨z,hz,he⟩:=Option.bind_eq_some_iff.1 h
   split at he
   ·rename_i d hd
    simp only [Option.some.injEq,Prod.mk.injEq] at he; obtain ⟨rfl,rfl,_⟩:=he
    obtain ⟨z1,z2,z3⟩:=z
    simp only at hd hq
    subst hd
    exact Reads.loadOne ho h1 (one?_eq h3) (rdCells_spec hz hq)
   ·cases he
  ·rename_i n c h1 h2 h3
   obtain ⟨z,hz,he⟩:=Option.map_eq_some_iff.1 h
   simp only [Prod.mk.injEq] at he; obtain ⟨rfl,rfl,_⟩:=he
   obtain ⟨z1,z2,z3⟩:=z
   exact Reads.loadAgg ho h1 h2 (one?_eq h3) (rdCells_spec hz hq)
  ·cases h
 ·cases h
end
end Go.Proofs.YtoclajfeeebbbadGreatDoor.E
/- The engine, part P: whole lists of operations by computation. Plain lemmas; no program. -/
set_option linter.unusedVariables false
set_option linter.unusedSectionVars false
set_option linter.unusedSimpArgs false
namespace Go.Proofs.YtoclajfeeebbbadGreatDoor.E
open Go.RowKit
variable [LaidFacts]
section
variable {P:Program}
/-- No temporary's cell names these cells of a box. -/
def noNmB (b off n:Nat):List (Nat × PV) → Bool
 | []=>true
 | (_,pv) :: l=>pv.cs.all (fun x=>match x.names with
  | some (.b b' c)=>!(Nat.beq b' b && Nat.ble off c && Nat.ble (c + 1) (off + n))
  | _=>true) && noNmB b off n l
theorem noNmB_look {b off n:Nat}:∀ {l:List (Nat × PV)},noNmB b off n l = true → ∀ t pv,look l t = some pv → ∀ x ∈ pv.cs,∀ c,x.names = some (.b b c) → ¬ (off ≤ c ∧ c < off + n)
 | [],_,t,pv,h=>by simp [look] at h
 | (k,u) :: l,h,t,pv,ht=>by
  simp only [noNmB,Bool.and_eq_true] at h
  simp only [look] at ht
  split at ht
  ·cases ht
   intro x hx c hc
   have:=List.all_eq_true.1 h.1 x hx
   simp only [hc,Bool.not_eq_true',Bool.and_eq_false_iff] at this
   rintro ⟨h1,h2⟩
   rcases this with (h3 | h3) | h3
   ·rw [Nat.beq_refl] at h3; cases h3
   ·rw [Nat.ble_eq_true_of_le h1] at h3; cases h3
   ·rw [Nat.ble_eq_true_of_le h2] at h3; cases h3
  ·exact noNmB_look h.2 t pv ht
theorem Inv.noNm {st:St} {a:Act} {w:World} {r:Rs} (hi:Inv P st a w r) {b off n:Nat} (h:noNmB b off n st.tm = true):st.noNm b off n:=by
 intro p x c hp hx
 cases p with
 | t t d =>
  obtain ⟨pv,h1,h2⟩:=St.at_tmp hp
  exact noNmB_look h t pv h1 x (List.mem_of_getElem? h2) c hx
 | b b' d =>
  obtain ⟨_,cs,h1,h2⟩:=St.at_box hp
  have:=(hi.bx b' cs h1).2 x (List.mem_of_getElem? h2)
  cases x <;> simp [PC.boxable,PC.names] at this hx
theorem OpOK.of_inv {o:Oper} {st st':St} (h:∀ a w r,Inv P st a w r → OpOK P o st st'):OpOK P o st st':=fun a w r hi=>h a w r hi a w r hi
/-- One operation: what must hold, the state behind it. -/
def evOp (P:Program) (st:St) (hs:List (List PC)) (o:Oper):Option (List Prop × St × List (List PC)) :=
 match o.dst with
 | none=>match o.op with
  | .store t x y=>match one? (st.use x),st.use y,P.size? t with
   | some (.ref b off),some pv,some n=>match st.bx[b]? with
    | some cs=>match notTup pv.sh,Nat.beq pv.cs.length n,Nat.ble (off + n) cs.length,pv.cs.all (·.boxable),noNmB b off n st.tm with
     | true,true,true,true,true=>some ([],st.setBox b off pv.cs,hs)
     | _,_,_,_,_=>none
    | none=>none
   | _,_,_=>none
  | _=>none
 | some d=>match st.okB d with
  | false=>none
  | true=>match o.op with
   | .alloc t=>match P.zero? t with
    | some l=>match l.all (·.oneCell') with
     | true=>some ([],(st.addBox (l.map zeroPC)).assign d ⟨.one,[.ref st.bx.length 0]⟩,hs)
     | false=>none
    | none=>none
   | .box _ x=>match st.use x with
    | some pv=>match notTup pv.sh,pv.cs.all (·.boxable) with
     | true,true=>some ([],(st.addBox pv.cs).assign d ⟨.one,[.ref st.bx.length 0]⟩,hs)
     | _,_=>none
    | none=>none
   | .call { callee:=.builtin .append,args:=as,argTypes:=ts }=>match as.toList,ts.toList with
    | [x,y],[t,t']=>match Nat.beq t t',P.underlying t with
     | true,some (.slice e)=>match P.elem? e,one? (st.use x),one? (st.use y) with
      | some (s + 1,by'),some c,some c'=>match st.ownedAt e c,St.row P st 4 c' with
       | some (q,xs),some (s',ys)=>match Nat.beq s' (s + 1) with
        | true=>some ([(xs.length + ys.length) ≤ 9223372036854775807,(xs.length + ys.length) * by' ≤ 140737488355328],(st.killed q).assign d ⟨.one,[.own e (xs ++ ys)]⟩,hs)
        | false=>none
       | _,_=>none
      | _,_,_=>none
     | false,some (.slice e)=>match P.underlying t',P.elem? e,one? (st.use x),one? (st.use y) with
      | some .string,some (1,by'),some c,some (.sc (.string b))=>match st.ownedAt e c with
       | some (q,xs)=>some ([(xs.length + (strRow b).length) ≤ 9223372036854775807,(xs.length + (strRow b).length) * by' ≤ 140737488355328],(st.killed q).assign d ⟨.one,[.own e (xs ++ strRow b)]⟩,hs)
       | none=>none
      | _,_,_,_=>none
     | _,_=>none
    | _,_=>none
   | _=>match evRd P st hs o with
    | some (c,pv,hs')=>match noNameB d pv with
     | true=>some (c,st.assign d pv,hs')
     | false=>none
    | none=>none
theorem evOp_spec {st st':St} {hs hs':List (List PC)} {o:Oper} {q:List Prop} (h:evOp P st hs o = some (q,st',hs')) (hq:AllP q):OpOK P o st st':=by
 unfold evOp at h
 split at h
 ·rename_i hd
  split at h
  ·rename_i t x y ho
   split at h
   ·rename_i b off pv n h1 h2 h3
    split at h
    ·rename_i cs h4
     split at h
     ·rename_i h5 h6 h7 h8 h9
      simp only [Option.some.injEq,Prod.mk.injEq] at h
      obtain ⟨_,rfl,_⟩:=h
      refine OpOK.of_inv fun a w r hi=>?_
      exact OpOK.storeBox ho hd h3 (one?_eq h1) h2 h5 h4 (Nat.eq_of_beq_eq_true h6) (Nat.le_of_ble_eq_true h7) h8 (hi.noNm h9)
     ·cases h
    ·cases h
   ·cases h
  ·cases h
 ·rename_i d hd
  split at h
  ·cases h
  ·rename_i hdn
   have hdn':st.okd d:=St.okB_spec hdn
   split at h
   ·rename_i t ho
    split at h
    ·rename_i l h1
     split at h
     ·rename_i h2
      simp only [Option.some.injEq,Prod.mk.injEq] at h
      obtain ⟨_,rfl,_⟩:=h
      exact OpOK.alloc ho hd hdn' h1 h2
     ·cases h
    ·cases h
   ·rename_i t x ho
    split at h
    ·rename_i pv h1
     split at h
     ·rename_i h2 h3
      simp only [Option.some.injEq,Prod.mk.injEq] at h
      obtain ⟨_,rfl,_⟩:=h
      exact OpOK.box ho hd hdn' h1 h3 h2
     ·cases h
    ·cases h
   ·rename_i as ts ho
    split at h
    ·rename_i x y t t' has hts
     have e1:as = #[x,y]:=by apply Array.toList_inj.1; simpa using has
     have e2:ts = #[t,t']:=by apply Array.toList_inj.1; simpa using hts
     subst e1 e2
     split at h
     ·rename_i e h1 h2
      have:=Nat.eq_of_beq_eq_true h1
      subst this
      split at h
      ·rename_i s by' c c' h3 h4 h5
       split at h
       ·rename_i q' xs s' ys h6 h7
        split at h
        ·rename_i h8
         simp only [Option.some.injEq,Prod.mk.injEq] at h
         obtain ⟨rfl,rfl,_⟩:=h
         have:=Nat.eq_of_beq_eq_true h8
         subst this
         exact OpOK.append ho hd hdn' h2 h3 (by omega) (one?_eq h4) h6 (one?_eq h5) (.inl ⟨rfl,.inl h7⟩) hq.1 hq.2.1
        ·cases h
       ·cases h
      ·cases h
     ·rename_i e h1 h2
      split at h
      ·rename_i by' c b h3 h4 h5 h6
       split at h
       ·rename_i q' xs h7
        simp only [Option.some.injEq,Prod.mk.injEq] at h
        obtain ⟨rfl,rfl,_⟩:=h
        exact OpOK.append ho hd hdn' h2 h4 (by omega) (one?_eq h5) h7 (one?_eq h6) (.inr ⟨h3,rfl,b,rfl,rfl⟩) hq.1 hq.2.1
       ·cases h
      ·cases h
     ·cases h
    ·cases h
   ·split at h
    ·rename_i c pv hs2 h1
     split at h
     ·rename_i h2
      simp only [Option.some.injEq,Prod.mk.injEq] at h
      obtain ⟨rfl,rfl,_⟩:=h
      exact (evRd_spec h1 hq).ok hd hdn' h2
     ·cases h
    ·cases h
end
end Go.Proofs.YtoclajfeeebbbadGreatDoor.E
/- The engine, part Q: parts of results, cuts of rows and texts, structs, closures. Plain lemmas; no program. -/
set_option linter.unusedVariables false
set_option linter.unusedSectionVars false
set_option linter.unusedSimpArgs false
namespace Go.Proofs.YtoclajfeeebbbadGreatDoor.E
open Go.RowKit
variable [LaidFacts]
section
variable {P:Program} {st:St} {o:Oper}
def formT:Option Nat → Shape
 | none=>.one
 | some _=>.agg
def cutPC (c:PC) (s:Nat) (xs:List (List PC)) (l h:Int):Option PC :=
 match c with
 | .sl _ _=>some (.sl s ((xs.drop l.toNat).take (h - l).toNat))
 | .al p=>some (.vw p l.toNat (h - l).toNat s)
 | .vw p 0 _ _=>some (.vw p l.toNat (h - l).toNat s)
 | _=>none
def sizeT:Option Nat → Nat
 | none=>1
 | some n=>n
/-- Part i of several results: its form, where its cells begin. -/
def partT:List (Option Nat) → Nat → Option (Option Nat × Nat)
 | [],_=>none
 | s :: _,0=>some (s,0)
 | s :: l,i + 1=>(partT l i).map fun x=>(x.1,sizeT s + x.2)
theorem size_cells {u:Value} (h:∀ y ∈ u.cells,y.oneCell' = true):u.cells.toList.length = sizeT (aggSize u) ∧ (aggSize u = none → u.oneCell' = true):=by
 cases u <;> simp [Value.cells,aggSize,sizeT,Value.oneCell'] at h ⊢
theorem partT_spec:∀ (vs:List Value) (i:Nat) {s:Option Nat} {k:Nat},(∀ x ∈ vs,∀ y ∈ x.cells,y.oneCell' = true) → partT (vs.map aggSize) i = some (s,k) →
  ∃ u,vs[i]? = some u ∧ aggSize u = s ∧ (∀ y ∈ u.cells,y.oneCell' = true) ∧ ∀ c,c < sizeT s → (vs.flatMap fun v=>v.cells.toList)[k + c]? = u.cells.toList[c]?
 | [],i,s,k,_,h=>by simp [partT] at h
 | v :: vs,0,s,k,h1,h=>by
  simp only [List.map_cons,partT,Option.some.injEq,Prod.mk.injEq] at h
  obtain ⟨rfl,rfl⟩:=h
  have hv:=h1 v (List.mem_cons_self ..)
  refine ⟨v,rfl,rfl,hv,fun c hc=>?_⟩
  simp only [List.flatMap_cons,Nat.zero_add]
  rw [List.getElem?_append_left (by rw [(size_cells hv).1]; exact hc)]
 | v :: vs,i + 1,s,k,h1,h=>by
  simp only [List.map_cons,partT,Option.map_eq_some_iff] at h
  obtain ⟨⟨s',k'⟩,h2,h3⟩:=h
  simp only [Prod.mk.injEq] at h3
  obtain ⟨rfl,rfl⟩:=h3
  obtain ⟨u,h4,h5,h6,h7⟩:=partT_spec vs i (fun x hx=>h1 x (List.mem_cons_of_mem _ hx)) h2
  have hv:=h1 v (List.mem_cons_self ..)
  refine ⟨u,by simpa using h4,h5,h6,fun c hc=>?_⟩
  simp only [List.flatMap_cons]
  rw [List.getElem?_append_right (by rw [(size_cells hv).1]; omega),(size_cells hv).1,← h7 c hc]
  congr 1
  omega
theorem Reads.extract {x:Operand} {i:Nat} {sh:List (Option Nat)} {cs:List PC} {s:Option Nat} {k:Nat} (ho:o.op = .extract x i) (hx:st.use x = some ⟨.tup sh,cs⟩) (hp:partT sh i = some (s,k)) (hle:k + sizeT s ≤ cs.length) :
  Reads P o st ⟨formT s,(cs.drop k).take (sizeT s)⟩:=fun a w r hi=>by
 obtain ⟨⟨vs,hv,hfl,hsh,h1⟩,hc⟩:=hi.use hx
 obtain ⟨u,h2,h3,h4,h5⟩:=partT_spec vs.toList i (fun x hx=>h1 x (by simpa using hx)) (by rw [← hsh]; exact hp)
 have hrun:(execOp a.eval o).run P w = .ok (.value u) w:=by
  have:vs[i]? = some u:=by simpa using h2
  simp [execOp,ho,hv,Instr.extract,this]
 obtain ⟨hs1,hs2⟩:=size_cells h4
 have hlen:((cs.drop k).take (sizeT s)).length = sizeT s:=by simp; omega
 have hflat:flat u = u.cells.toList:=by
  cases u <;> first | rfl | (simp [aggSize] at h3; subst h3; simp [aggSize,Value.oneCell'] at hs2)
 refine ⟨u,hrun,?_,fun c y hy=>?_⟩
 ·rw [hlen]
  cases s with
  | none=>exact ⟨rfl,hs2 h3⟩
  | some n =>
   cases u <;> simp only [aggSize] at h3 <;> try (cases h3; done)
   rename_i q
   simp only [Option.some.injEq] at h3
   exact ⟨q,rfl,h3,h4⟩
 ·obtain ⟨hcl,hy⟩:=take_drop_at hy
  obtain ⟨h6,h7⟩:=hc (k + c) y hy
  refine ⟨?_,h7⟩
  have:(flat (a.eval x)).getD (k + c) undef = (flat u).getD c undef:=by
   rw [hv,hflat,List.getD_eq_getElem?_getD,List.getD_eq_getElem?_getD]
   rw [← h5 c hcl]
   simp [flat]
  rw [← this]; exact h6
theorem run_sliceBound {k:IntKind} {i:Int} {y:Nat} {code:BoundsCode} (h0:0 ≤ i) (h1:i ≤ y) (w:World):(Instr.sliceBound (.int k i) y code).run P w = .ok i.toNat w:=by
 simp [Instr.sliceBound,asIntOf,h0,h1]
/-- The bounds of a cut: the operands, what they come to. -/
def boundOf (st:St) (d:Nat):Option Operand → Option (Int × Bool)
 | none=>some (d,true)
 | some x=>match one? (st.use x) with
  | some (.sc (.int _ i))=>some (i,false)
  | _=>none
theorem Reads.cutStr {t:TypeId} {x:Operand} {lo hi:Option Operand} {b:ByteArray} {l h:Int} {f g:Bool} (ho:o.op = .slice t x lo hi none) (ht:P.underlying t = some .string) (hx:st.use x = some ⟨.one,[.sc (.string b)]⟩) (hl:boundOf st 0 lo = some (l,f)) (hh:boundOf st b.size hi = some (h,g))
  (h0:0 ≤ l) (h1:l ≤ h) (h2:h ≤ (b.size:Int)):Reads P o st ⟨.one,[.sc (.string (b.extract l.toNat h.toNat))]⟩:=fun a w r hi'=>by
 have e1:=(hi'.use hx).out_sc
 refine ⟨_,?_,Has.sc rfl⟩
 have hhb:(match hi.map a.eval with | some v=>Instr.sliceBound v b.size BoundsCode.sliceAlen | none=>pure b.size).run P w = .ok h.toNat w:=by
  cases hi with
  | none=>simp only [boundOf,Option.some.injEq,Prod.mk.injEq] at hh; obtain ⟨rfl,_⟩:=hh; simp
  | some y =>
   simp only [boundOf] at hh
   split at hh
   ·rename_i k i hy
    simp only [Option.some.injEq,Prod.mk.injEq] at hh; obtain ⟨rfl,_⟩:=hh
    have e2:=(hi'.use (one?_eq hy)).out_sc
    simp only [Option.map_some,e2]
    exact run_sliceBound (by omega) h2 w
   ·cases hh
 have hlb:(match lo.map a.eval with | some v=>Instr.sliceBound v h.toNat BoundsCode.sliceB | none=>pure 0).run P w = .ok l.toNat w:=by
  cases lo with
  | none=>simp only [boundOf,Option.some.injEq,Prod.mk.injEq] at hl; obtain ⟨rfl,_⟩:=hl; simp
  | some y =>
   simp only [boundOf] at hl
   split at hl
   ·rename_i k i hy
    simp only [Option.some.injEq,Prod.mk.injEq] at hl; obtain ⟨rfl,_⟩:=hl
    have e2:=(hi'.use (one?_eq hy)).out_sc
    simp only [Option.map_some,e2]
    exact run_sliceBound h0 (by omega) w
   ·cases hl
 have hb:(Instr.sliceBounds false b.size b.size (lo.map a.eval) (hi.map a.eval) none).run P w = .ok (l.toNat,h.toNat,b.size) w:=by
  unfold Instr.sliceBounds
  simp only [Sem.run_bind,Sem.run_pure,Result.andThen_ok]
  have hhb':=hhb
  have hlb':=hlb
  cases hi <;> cases lo <;> simp_all
 have:Instr.sliceAt t (a.eval x) (lo.map a.eval) (hi.map a.eval) none = Instr.sliceAt t (.string b) (lo.map a.eval) (hi.map a.eval) none:=by rw [e1]
 simp only [execOp,ho,Option.map_none,this]
 simp [Instr.sliceAt,run_underlying ht,Instr.slice,hb]
theorem Reads.cutRow {t e:TypeId} {x:Operand} {lo hi:Option Operand} {c d:PC} {s:Nat} {xs:List (List PC)} {l h:Int} {f g:Bool} (ho:o.op = .slice t x lo hi none) (ht:P.underlying t = some (.slice e)) (he:P.size? e = some s) (hx:st.use x = some ⟨.one,[c]⟩) (hr:St.row P st 4 c = some (s,xs))
  (hl:boundOf st 0 lo = some (l,f)) (hh:boundOf st xs.length hi = some (h,g)) (h0:0 ≤ l) (h1:l ≤ h) (h2:h ≤ (xs.length:Int))
  (hd:cutPC c s xs l h = some d):Reads P o st ⟨.one,[d]⟩:=fun a w r hi'=>by
 obtain ⟨hx1,hxc,hxn⟩:=(hi'.use hx).out
 obtain ⟨b,cp,hv,hcp,hb0⟩:=hi'.row 4 hxc hr
 have hhb:(match hi.map a.eval with | some v=>Instr.sliceBound v cp BoundsCode.sliceAcap | none=>pure xs.length).run P w = .ok h.toNat w:=by
  cases hi with
  | none=>simp only [boundOf,Option.some.injEq,Prod.mk.injEq] at hh; obtain ⟨rfl,_⟩:=hh; simp
  | some y =>
   simp only [boundOf] at hh
   split at hh
   ·rename_i k i hy
    simp only [Option.some.injEq,Prod.mk.injEq] at hh; obtain ⟨rfl,_⟩:=hh
    have e2:=(hi'.use (one?_eq hy)).out_sc
    simp only [Option.map_some,e2]
    exact run_sliceBound (by omega) (by omega) w
   ·cases hh
 have hlb:(match lo.map a.eval with | some v=>Instr.sliceBound v h.toNat BoundsCode.sliceB | none=>pure 0).run P w = .ok l.toNat w:=by
  cases lo with
  | none=>simp only [boundOf,Option.some.injEq,Prod.mk.injEq] at hl; obtain ⟨rfl,_⟩:=hl; simp
  | some y =>
   simp only [boundOf] at hl
   split at hl
   ·rename_i k i hy
    simp only [Option.some.injEq,Prod.mk.injEq] at hl; obtain ⟨rfl,_⟩:=hl
    have e2:=(hi'.use (one?_eq hy)).out_sc
    simp only [Option.map_some,e2]
    exact run_sliceBound h0 (by omega) w
   ·cases hl
 have hb:(Instr.sliceBounds true xs.length cp (lo.map a.eval) (hi.map a.eval) none).run P w = .ok (l.toNat,h.toNat,cp) w:=by
  unfold Instr.sliceBounds
  simp only [Sem.run_bind,Sem.run_pure,Result.andThen_ok]
  have hhb':=hhb
  have hlb':=hlb
  cases hi <;> cases lo <;> simp_all
 have hrun:(execOp a.eval o).run P w = .ok (.value (vwVal (a.eval x) l.toNat (h - l).toNat s)) w:=by
  have:Instr.sliceAt t (a.eval x) (lo.map a.eval) (hi.map a.eval) none = Instr.sliceAt t (.slice b xs.length cp) (lo.map a.eval) (hi.map a.eval) none:=by rw [hv]
  simp only [execOp,ho,Option.map_none,this,hv]
  have hhl:(h - l).toNat = h.toNat - l.toNat:=by omega
  simp [Instr.sliceAt,run_underlying ht,Instr.slice,hb,run_sizeOf he,vwVal,hhl]
 refine ⟨_,hrun,?_⟩
 have hone:(vwVal (a.eval x) l.toNat (h - l).toNat s).oneCell' = true:=by rw [hv]; rfl
 cases c <;> simp only [cutPC] at hd <;> try (cases hd; done)
 case sl s' xs' =>
  simp only [St.row,Option.some.injEq,Prod.mk.injEq] at hr
  obtain ⟨rfl,rfl⟩:=hr
  cases hd
  obtain ⟨_,hxc⟩:=hxc
  have hxs:RepS w r.Sh (.sl s' xs') (a.eval x):=by cases hxc with | s h=>exact h
  exact Has.one hone ⟨rfl,.s (vw_rep hxs (by omega))⟩ (fun _ h=>by simp [PC.names] at h)
 case al p =>
  cases hd
  exact Has.one hone ⟨rfl,fun hlv=>by rw [← hxc.2 hlv]⟩ hxn
 case vw p lo' n' s' =>
  cases lo' with
  | succ k=>simp at hd
  | zero =>
   simp only [Option.some.injEq] at hd
   subst hd
   have hss:s' = s:=by
    simp only [St.row] at hr
    split at hr
    ·split at hr
     ·rename_i hcond
      simp only [Option.some.injEq,Prod.mk.injEq] at hr
      exact hr.1
     ·cases hr
    ·cases hr
   subst hss
   refine Has.one hone ⟨rfl,fun hlv=>?_⟩ hxn
   have:=hxc.2 hlv
   rw [this]
   cases alpha a w r p <;> try rfl
   rename_i b' n' c'
   simp only [vwVal,Nat.zero_mul,Nat.sub_zero]
   congr 1
   have hadd:(if c' = 0 then b' else Option.map (fun x=>x.add 0) b') = b':=by
    split
    ·rfl
    ·cases b' <;> simp [Addr.add]
   rw [hadd]
end
end Go.Proofs.YtoclajfeeebbbadGreatDoor.E
