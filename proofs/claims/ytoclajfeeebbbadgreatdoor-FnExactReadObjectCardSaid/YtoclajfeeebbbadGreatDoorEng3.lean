/- The engine, part E: operations that read. Plain lemmas; no program. -/
import Derived.Test.YtoclajfeeebbbadGreatDoorEng2
import Derived.Laws.Strings
import Derived.Laws.Small
import Derived.Laws.Cover3
import Derived.Laws.Pointers
set_option linter.unusedVariables false
set_option linter.unusedSectionVars false
set_option linter.unusedSimpArgs false
namespace Go.Proofs.YtoclajfeeebbbadGreatDoor.E
open Go.RowKit
variable [LaidFacts]
section
variable {P:Program} {st:St} {a:Act} {w:World} {r:Rs}
/-- A cell as another place sees it: what is owned there is named. -/
def PC.seen (p:Place):PC → PC
 | .own _ _=>.al p
 | x=>x
theorem RepC.seen {p:Place} {x:PC} {v:Value} {g:Option Nat} {al:Place → Value} (hv:v = al p) (h:RepC P w r st al x v g):RepC P w r st al (x.seen p) v none:=by
 cases x
 case own e xs=>exact ⟨rfl,fun _=>hv⟩
 all_goals
  have:=h.g_none (fun _ _=>by simp)
  subst this
  exact h
def seenAll (f:Nat → Place):Nat → List PC → List PC
 | _,[]=>[]
 | c,x :: l=>x.seen (f c) :: seenAll f (c + 1) l
theorem seenAll_get {f:Nat → Place}:∀ {l:List PC} {k c:Nat} {x:PC},(seenAll f k l)[c]? = some x → ∃ y,l[c]? = some y ∧ x = y.seen (f (k + c))
 | [],k,c,x,h=>by simp [seenAll] at h
 | y :: l,k,0,x,h=>by simp only [seenAll,List.getElem?_cons_zero,Option.some.injEq] at h; exact ⟨y,by simp,h.symm⟩
 | y :: l,k,c + 1,x,h=>by
  simp only [seenAll,List.getElem?_cons_succ] at h
  obtain ⟨z,h1,h2⟩:=seenAll_get h
  exact ⟨z,by simpa using h1,by rw [h2,show k + 1 + c = k + (c + 1) by omega]⟩
theorem seenAll_length {f:Nat → Place}:∀ (l:List PC) (k:Nat),(seenAll f k l).length = l.length
 | [],_=>rfl
 | x :: l,k=>by simp [seenAll,seenAll_length l]
/-- An operand, as the reader sees it. -/
def St.use (st:St):Operand → Option PV
 | .tmp t=>(st.get t).map fun pv=>⟨pv.sh,seenAll (.t t) 0 pv.cs⟩
 | .const v=>match v with
  | .agg _ | .tuple _=>none
  | .slice none 0 0=>some ⟨.one,[.nl]⟩
  | v=>some ⟨.one,[.sc v]⟩
 | .func f=>some ⟨.one,[.sc (.func (.func f) #[] #[])]⟩
 | .global _=>none
/-- What a value's cells stand for. -/
def Has (P:Program) (st:St) (a:Act) (w:World) (r:Rs) (pv:PV) (v:Value):Prop :=
 pv.sh.fits pv.cs.length v ∧ ∀ c x,pv.cs[c]? = some x → RepC P w r st (alpha a w r) x ((flat v).getD c undef) none ∧ ∀ q,x.names = some q → st.ex q
theorem flat_one {v:Value} (h:v.oneCell' = true):flat v = [v]:=by cases v <;> first | rfl | simp [Value.oneCell'] at h
theorem Has.one {x:PC} {v:Value} (h1:v.oneCell' = true) (h2:RepC P w r st (alpha a w r) x v none) (h3:∀ q,x.names = some q → st.ex q):Has P st a w r ⟨.one,[x]⟩ v:=by
 refine ⟨⟨rfl,h1⟩,fun c y hy=>?_⟩
 cases c with
 | zero=>simp only [List.getElem?_cons_zero,Option.some.injEq] at hy; subst hy; rw [flat_one h1]; exact ⟨h2,h3⟩
 | succ c=>simp at hy
theorem Has.sc {v:Value} (h1:v.oneCell' = true):Has P st a w r ⟨.one,[.sc v]⟩ v :=
 Has.one h1 ⟨rfl,.s (.sc h1)⟩ (fun _ h=>by simp [PC.names] at h)
theorem Has.out {x:PC} {v:Value} (h:Has P st a w r ⟨.one,[x]⟩ v):v.oneCell' = true ∧ RepC P w r st (alpha a w r) x v none ∧ ∀ q,x.names = some q → st.ex q:=by
 obtain ⟨⟨_,h1⟩,h2⟩:=h
 obtain ⟨h3,h4⟩:=h2 0 x rfl
 rw [flat_one h1] at h3
 exact ⟨h1,h3,h4⟩
theorem Has.out_sc {u v:Value} (h:Has P st a w r ⟨.one,[.sc u]⟩ v):v = u:=by
 obtain ⟨_,⟨_,h2⟩,_⟩:=h.out
 cases h2 with
 | s h=>cases h; rfl
theorem PC.seen_names {p q:Place} {x:PC} (h:(x.seen p).names = some q):x.names = some q ∨ (p = q ∧ ∃ e xs,x = .own e xs):=by
 cases x <;> simp only [PC.seen] at h
 case own e xs=>simp only [PC.names,Option.some.injEq] at h; exact .inr ⟨h,e,xs,rfl⟩
 all_goals exact .inl h
theorem Inv.has (h:Inv P st a w r) {t:Nat} {pv:PV} (ht:st.get t = some pv):Has P st a w r ⟨pv.sh,seenAll (.t t) 0 pv.cs⟩ (a.eval (.tmp t)):=by
 obtain ⟨v,h1,h2⟩:=h.tm t pv ht
 have he:a.eval (.tmp t) = v:=by simp [Act.eval,Array.getD_eq_getD_getElem?,h1]
 have he':a.tmps.getD t undef = v:=by simp [Array.getD_eq_getD_getElem?,h1]
 rw [he]
 refine ⟨by simpa [seenAll_length] using h2,fun c x hx=>?_⟩
 obtain ⟨y,hy,rfl⟩:=seenAll_get hx
 rw [Nat.zero_add]
 have hc:=h.cell (.t t c) y (by simp [St.at,ht,hy])
 have ha:alpha a w r (.t t c) = (flat v).getD c undef:=by simp only [alpha,he']
 rw [ha] at hc
 refine ⟨hc.seen ha.symm,fun q hn=>?_⟩
 rcases PC.seen_names hn with h3 | ⟨h3,_⟩
 ·exact h.nm (.t t c) y q (by simp [St.at,ht,hy]) h3
 ·cases h3; exact ⟨pv,ht⟩
theorem Inv.use (h:Inv P st a w r) {o:Operand} {pv:PV} (ho:st.use o = some pv):Has P st a w r pv (a.eval o):=by
 cases o with
 | tmp t =>
  obtain ⟨pv',h1,rfl⟩:=Option.map_eq_some_iff.1 ho
  exact h.has h1
 | const u =>
  simp only [St.use] at ho
  split at ho
  ·cases ho
  ·cases ho
  ·cases ho
   exact Has.one rfl ⟨rfl,.s .nl⟩ (fun _ h=>by simp [PC.names] at h)
  ·rename_i h1 h2 _
   cases ho
   exact Has.sc (by cases u <;> first | rfl | (exact absurd rfl (h1 _)) | (exact absurd rfl (h2 _)))
 | global g=>simp [St.use] at ho
 | func f=>simp only [St.use,Option.some.injEq] at ho; subst ho; exact Has.sc rfl
theorem Tri.cond {c:Operand} {x y:Code} {Q:Exit → St → Prop} {st:St} (b:Bool) (hc:st.use c = some ⟨.one,[.sc (.bool b)]⟩) (h:Tri P (if b then x else y) Q st):Tri P (.cond c x y) Q st:=by
 intro a w r hi
 exact wp_cond (hi.use hc).out_sc (h a w r hi)
theorem Tri.cond_true {c:Operand} {x y:Code} {Q:Exit → St → Prop} {st:St} (hc:st.use c = some ⟨.one,[.sc (.bool true)]⟩) (h:Tri P x Q st):Tri P (.cond c x y) Q st:=Tri.cond true hc h
theorem Tri.cond_false {c:Operand} {x y:Code} {Q:Exit → St → Prop} {st:St} (hc:st.use c = some ⟨.one,[.sc (.bool false)]⟩) (h:Tri P y Q st):Tri P (.cond c x y) Q st:=Tri.cond false hc h
/-- An operation that reads, and sets its own temporary. -/
def Reads (P:Program) (o:Oper) (st:St) (pv:PV):Prop :=
 ∀ a w r,Inv P st a w r → ∃ v,(execOp a.eval o).run P w = .ok (.value v) w ∧ Has P st a w r pv v
def noNameB (d:Nat) (pv:PV):Bool:=pv.cs.all fun x=>match x.names with
 | some q=>!q.isT d
 | none=>true
theorem Inv.assign_has (h:Inv P st a w r) {d:Nat} {pv:PV} {v:Value} (hd:st.okd d) (hn:noNameB d pv = true) (hv:Has P st a w r pv v) :
  Inv P (st.assign d pv) (a.put (some d) v) w ((r.dropT d).setT d fun _=>none):=by
 refine h.assign hd hv.1 (fun c x hx=>⟨fun q hq=>?_,(hv.2 c x hx).1⟩) (fun c x q hx hn=>(hv.2 c x hx).2 q hn) (fun _ _ h=>by cases h) (fun _ _ _ h=>by cases h)
 have:=List.all_eq_true.1 hn x (List.mem_of_getElem? hx)
 simp only [hq,Bool.not_eq_true'] at this
 exact this
theorem St.assign_m {st:St} {d:Nat} {pv:PV}:(st.assign d pv).m = st.m:=by unfold St.assign; split <;> rfl
theorem St.assign_bx {st:St} {d:Nat} {pv:PV}:(st.assign d pv).bx = st.bx:=by unfold St.assign; split <;> rfl
theorem St.assign_n {st:St} {d:Nat} {pv:PV}:(st.assign d pv).n = st.n:=by unfold St.assign; split <;> rfl
theorem Reads.ok {o:Oper} {pv:PV} {d:Nat} (h:Reads P o st pv) (ho:o.dst = some d) (hd:st.okd d) (hn:noNameB d pv = true):OpOK P o st (st.assign d pv):=by
 intro a w r hi K Q hK
 obtain ⟨v,h1,h2⟩:=h a w r hi
 unfold Oper.wp
 rw [h1,Oper.upon_value,ho]
 have:=hi.assign_has hd hn h2
 rw [ho] at hK
 exact hK v w _ St.assign_m this (by rw [St.assign_bx]; exact Step.assign (fun _ _ h=>by cases h))
end
end Go.Proofs.YtoclajfeeebbbadGreatDoor.E
/- The engine, part F: the operations that read, one by one. Plain lemmas; no program. -/
set_option linter.unusedVariables false
set_option linter.unusedSectionVars false
set_option linter.unusedSimpArgs false
namespace Go.Proofs.YtoclajfeeebbbadGreatDoor.E
open Go.RowKit
variable [LaidFacts]
/-- Arithmetic and comparison of whole numbers. -/
def intV:BinOp → IntKind → Int → Int → Option Value
 | .add,k,a,b=>some (.int k (k.wrap (a + b)))
 | .sub,k,a,b=>some (.int k (k.wrap (a - b)))
 | .mul,k,a,b=>some (.int k (k.wrap (a * b)))
 | .quo,k,a,b=>if b = 0 then none else some (.int k (k.wrap (a.tdiv b)))
 | .rem,k,a,b=>if b = 0 then none else some (.int k (a.tmod b))
 | .eql,_,a,b=>some (.bool (decide (a = b)))
 | .neq,_,a,b=>some (.bool (!decide (a = b)))
 | .lss,_,a,b=>some (.bool (decide (a < b)))
 | .leq,_,a,b=>some (.bool (decide (a ≤ b)))
 | .gtr,_,a,b=>some (.bool (decide (b < a)))
 | .geq,_,a,b=>some (.bool (decide (b ≤ a)))
 | _,_,_,_=>none
def strV:BinOp → ByteArray → ByteArray → Option Value
 | .add,a,b=>if a.size + b.size ≤ 9223372036854775807 then some (.string (a ++ b)) else none
 | .eql,a,b=>some (.bool (decide (a = b)))
 | .neq,a,b=>some (.bool (!decide (a = b)))
 | .lss,a,b=>some (.bool (Op.bytesLess a.toList b.toList))
 | _,_,_=>none
/-- A binary operation of two cells. -/
def binV (d:Option TypeDesc) (op:BinOp) (x y:PC):Option Value :=
 match x,y with
 | .sc (.int k a),.sc (.int k' b)=>if k = k' then intV op k a b else none
 | .sc (.string a),.sc (.string b)=>strV op a b
 | .sc (.bool a),.sc (.bool b)=>match d,op with
  | some .bool,.eql=>some (.bool (a == b))
  | some .bool,.neq=>some (.bool (!(a == b)))
  | _,_=>none
 | _,_=>none
theorem decide_beq {α:Type} [DecidableEq α] [BEq α] [LawfulBEq α] (a b:α):(a == b) = decide (a = b):=by
 by_cases h:a = b <;> simp [h]
theorem toList_beq (a b:ByteArray):(a.toList == b.toList) = decide (a = b):=by
 have:(a.toList = b.toList) ↔ a = b:=by
  constructor
  ·intro h
   rw [ByteArray.toList_eq,ByteArray.toList_eq] at h
   exact ByteArray.ext (Array.toList_inj.1 h)
  ·rintro rfl; rfl
 by_cases h:a = b
 ·simp [h]
 ·simp [h,this]
section
variable {P:Program} {st:St} {o:Oper}
theorem Reads.move {x:Operand} {pv:PV} (ho:o.op = .move x ∨ o.op = .assign x) (hu:st.use x = some pv):Reads P o st pv:=fun a w r hi =>
 ⟨a.eval x,by rcases ho with ho | ho <;> simp [execOp,ho],hi.use hu⟩
theorem Reads.pick {c x y:Operand} {pv:PV} {b:Bool} (ho:o.op = .pick c x y) (hc:st.use c = some ⟨.one,[.sc (.bool b)]⟩) (hu:st.use (if b then x else y) = some pv):Reads P o st pv:=fun a w r hi=>by
 have h1:=(hi.use hc).out_sc
 refine ⟨_,?_,hi.use hu⟩
 simp only [execOp,ho,h1,asBool]
 cases b <;> rfl
theorem run_intV {op:BinOp} {t:TypeId} {x y:Operand} {k:IntKind} {a b:Int} {v:Value} (h:intV op k a b = some v) (w:World) :
  (do eqGuard op t x y (.int k a) (.int k b); Go.binOp op t (.int k a) (.int k b)).run P w = .ok v w:=by
 cases op <;> simp only [intV] at h <;> (try split at h) <;> first
  | (cases h; done)
  | (cases h; simp [eqGuard,Go.binOp,Op.intArith,Op.intCmp,Op.intDiv,decide_beq,bne, *])
theorem run_strV {op : BinOp} {t : TypeId} {x y : Operand} {a b : ByteArray} {v : Value} (h : strV op a b = some v) (w : World) :
    (do eqGuard op t x y (.string a) (.string b); Go.binOp op t (.string a) (.string b)).run P w = .ok v w:=by
  have hm:IntKind.i64.max = 9223372036854775807:=by decide
  cases op <;> simp only [strV] at h <;> (try split at h) <;> first
    | (cases h; done)
    | (cases h; rename_i hs; have hs' : ¬ (((a.size + b.size : Nat) : Int) > IntKind.i64.max) := by rw [hm]; omega
       simp only [eqGuard,Go.binOp,Op.stringOp,if_neg hs']; rfl)
    | (cases h; simp [eqGuard,Go.binOp,Op.stringOp,toList_beq])
theorem Reads.binOp {op:BinOp} {t t':TypeId} {x y:Operand} {c d:PC} {v:Value} (ho:o.op = .binOp op t x y t') (hx:st.use x = some ⟨.one,[c]⟩) (hy:st.use y = some ⟨.one,[d]⟩)
  (hv:binV (P.underlying t) op c d = some v):Reads P o st ⟨.one,[.sc v]⟩:=fun a w r hi=>by
 have h1:=hi.use hx
 have h2:=hi.use hy
 unfold binV at hv
 split at hv
 ·split at hv
  ·rename_i e; subst e
   have e1:=h1.out_sc
   have e2:=h2.out_sc
   have hr:=run_intV (P:=P) (t:=t) (x:=x) (y:=y) hv w
   refine ⟨v,?_,Has.sc ?_⟩
   ·simp only [execOp,ho,e1,e2]
    rw [Sem.run_bind,hr]
    rfl
   ·cases op <;> simp only [intV] at hv <;> (try split at hv) <;> first | (cases hv; done) | (cases hv; rfl)
  ·cases hv
 ·have e1:=h1.out_sc
  have e2:=h2.out_sc
  have hr:=run_strV (P:=P) (t:=t) (x:=x) (y:=y) hv w
  refine ⟨v,?_,Has.sc ?_⟩
  ·simp only [execOp,ho,e1,e2]
   rw [Sem.run_bind,hr]
   rfl
  ·cases op <;> simp only [strV] at hv <;> (try split at hv) <;> first | (cases hv; done) | (cases hv; rfl)
 ·have e1:=h1.out_sc
  have e2:=h2.out_sc
  split at hv
  ·rename_i hd
   cases hv
   exact ⟨_,by simp only [execOp,ho,e1,e2,eqGuard,Go.binOp,Bool.not_true,Bool.false_eq_true,if_false,Sem.run_bind,Sem.run_pure,Result.andThen_ok,run_equal_bool w _ _ _ hd],Has.sc rfl⟩
  ·rename_i hd
   cases hv
   exact ⟨_,by simp only [execOp,ho,e1,e2,eqGuard,Go.binOp,Bool.not_true,Bool.false_eq_true,if_false,Sem.run_bind,Sem.run_pure,Result.andThen_ok,run_equal_bool w _ _ _ hd],Has.sc rfl⟩
  ·cases hv
 ·cases hv
theorem Reads.not {t:TypeId} {x:Operand} {b:Bool} (ho:o.op = .unOp .not t x) (hx:st.use x = some ⟨.one,[.sc (.bool b)]⟩):Reads P o st ⟨.one,[.sc (.bool (!b))]⟩:=fun a w r hi=>by
 have e1:=(hi.use hx).out_sc
 exact ⟨_,by simp [execOp,ho,e1,Op.unary],Has.sc rfl⟩
theorem Reads.neg {t:TypeId} {x:Operand} {k:IntKind} {n:Int} (ho:o.op = .unOp .neg t x) (hx:st.use x = some ⟨.one,[.sc (.int k n)]⟩):Reads P o st ⟨.one,[.sc (.int k (k.wrap (0 - n)))]⟩:=fun a w r hi=>by
 have e1:=(hi.use hx).out_sc
 exact ⟨_,by simp [execOp,ho,e1,Op.unary,Op.intArith],Has.sc rfl⟩
theorem Reads.toInt {s t:TypeId} {d:TypeDesc} {x:Operand} {k k':IntKind} {n:Int} (ho:o.op = .convert s t x) (hs:P.underlying s = some d) (ht:P.underlying t = some (.int k)) (hx:st.use x = some ⟨.one,[.sc (.int k' n)]⟩) :
  Reads P o st ⟨.one,[.sc (.int k (k.wrap n))]⟩:=fun a w r hi=>by
 have e1:=(hi.use hx).out_sc
 exact ⟨_,by simp [execOp,ho,e1,convert,run_underlying hs,run_underlying ht,Conv.intToInt],Has.sc rfl⟩
theorem Reads.toStr {s t:TypeId} {x:Operand} {b:ByteArray} (ho:o.op = .convert s t x) (hs:P.underlying s = some .string) (ht:P.underlying t = some .string) (hx:st.use x = some ⟨.one,[.sc (.string b)]⟩) :
  Reads P o st ⟨.one,[.sc (.string b)]⟩:=fun a w r hi=>by
 have e1:=(hi.use hx).out_sc
 exact ⟨_,by simp [execOp,ho,e1,convert,run_underlying hs,run_underlying ht],Has.sc rfl⟩
theorem Reads.charStr {s t:TypeId} {x:Operand} {k k':IntKind} {n:Int} (ho:o.op = .convert s t x) (hs:P.underlying s = some (.int k)) (ht:P.underlying t = some .string) (hx:st.use x = some ⟨.one,[.sc (.int k' n)]⟩) :
  Reads P o st ⟨.one,[.sc (.string (Utf8.encode n))]⟩:=fun a w r hi=>by
 have e1:=(hi.use hx).out_sc
 exact ⟨_,by simp [execOp,ho,e1,convert,run_underlying hs,run_underlying ht,Conv.intToString],Has.sc rfl⟩
end
end Go.Proofs.YtoclajfeeebbbadGreatDoor.E
