/- The engine, part G: what a row's cell reads as; len, load, addresses, cuts. Plain lemmas; no program. -/
import Derived.Test.YtoclajfeeebbbadGreatDoorEng3
set_option linter.unusedVariables false
set_option linter.unusedSectionVars false
set_option linter.unusedSimpArgs false
namespace Go.Proofs.YtoclajfeeebbbadGreatDoor.E
open Go.RowKit
variable [LaidFacts]
def _root_.Go.Program.size? (P:Program) (t:TypeId):Option Nat:=(P.info? t).map (·.size)
def _root_.Go.Program.agg? (P:Program) (t:TypeId):Option Bool:=(P.underlying t).map fun d=>match d with | .struct _ | .array _ _=>true | _=>false
theorem run_sizeOf {P:Program} {t:TypeId} {n:Nat} (h:P.size? t = some n) (w:World):(sizeOf t).run P w = .ok n w:=by
 obtain ⟨i,h1,h2⟩:=Option.map_eq_some_iff.1 h
 simp [sizeOf,typeInfo,h1,h2]
theorem run_isAgg {P:Program} {t:TypeId} {b:Bool} (h:P.agg? t = some b) (w:World):(isAgg t).run P w = .ok b w:=by
 obtain ⟨d,h1,h2⟩:=Option.map_eq_some_iff.1 h
 subst h2
 cases d <;> simp [isAgg,run_underlying h1]
/-- The elements of the row that a cell stands for, and how many cells an element has. -/
def St.row (P:Program) (st:St):Nat → PC → Option (Nat × List (List PC))
 | _,.sl s xs=>some (s,xs)
 | _,.own e xs=>some (P.cellsOf e,xs)
 | _,.nl=>some (0,[])
 | k + 1,.al p=>(st.at p).bind (St.row P st k)
 | k + 1,.vw p lo n s=>match (st.at p).bind (St.row P st k) with
  | some (s',xs)=>if s' = s ∧ lo + n ≤ xs.length then some (s,(xs.drop lo).take n) else none
  | none=>none
 | _,_=>none
def RowRep (w:World) (Sh:Nat → Prop) (s:Nat) (xs:List (List PC)) (v:Value):Prop :=
 ∃ a c,v = .slice a xs.length c ∧ xs.length ≤ c ∧ (xs ≠ [] → ∃ k off,a = some ⟨k,off,none⟩ ∧ (∀ el ∈ xs,el.length = s) ∧
  ∀ (i j:Nat) (el:List PC) (y:PC),xs[i]? = some el → el[j]? = some y → ∃ u,w.cell? ⟨k,off + i * s + j,none⟩ = some u ∧ RepS w Sh y u)
theorem RepOwn.row {P:Program} {w:World} {Sh:Nat → Prop} {e:TypeId} {xs:List (List PC)} {v:Value} {g:Option Nat} (h:RepOwn P w Sh e xs v g):RowRep w Sh (P.cellsOf e) xs v:=by
 obtain ⟨vals,ho,hb,hl,hr⟩:=h
 rcases ho.2 with ⟨rfl,hn⟩ | ⟨k,cap,cur,fz,rfl,_,hh,hnc,_⟩
 ·have:xs = []:=List.length_eq_zero_iff.1 hn
  subst this
  exact ⟨none,0,rfl,Nat.le_refl _,fun h=>absurd rfl h⟩
 ·refine ⟨_,cap,rfl,hnc,fun _=>⟨k,0,rfl,hl,fun i j el y hi hj=>?_⟩⟩
  obtain ⟨u,hu,hru⟩:=hr _ _ (flatten_at hl hi hj)
  have hlt:i * P.cellsOf e + j < xs.length * P.cellsOf e:=by
   have:=(List.getElem?_eq_some_iff.1 hu).1
   rw [ho.1] at this
   exact this
  exact ⟨u,by rw [Nat.zero_add,ho.cellAt _ hlt,hu],hru⟩
theorem RepS.row {w:World} {Sh:Nat → Prop} {s:Nat} {xs:List (List PC)} {v:Value} (h:RepS w Sh (.sl s xs) v):RowRep w Sh s xs v:=by
 cases h with
 | nil=>exact ⟨_,_,rfl,Nat.zero_le _,fun h=>absurd rfl h⟩
 | sl f hz hc hsh hcell hr=>exact ⟨_,_,rfl,hc,fun _=>⟨_,_,rfl,hz,fun i j el y hi hj=>⟨_,hcell i j el y hi hj,hr i j el y hi hj⟩⟩⟩
theorem add_add (a:Addr) (m n:Nat):(a.add m).add n = a.add (m + n):=by
 obtain ⟨b,o,s⟩:=a
 by_cases hm:m = 0
 ·subst hm; simp [Addr.add]
 ·by_cases hn:n = 0
  ·subst hn; simp [Addr.add,hm]
  ·have:m + n ≠ 0:=by omega
   simp only [Addr.add,hm,hn,this,if_false,Addr.mk.injEq,true_and,and_true]
   omega
theorem add_mk (k o n:Nat):(⟨k,o,none⟩:Addr).add n = ⟨k,o + n,none⟩:=by
 unfold Addr.add
 split
 ·rename_i h; subst h; rfl
 ·rfl
section
variable {P:Program} {st:St} {a:Act} {w:World} {r:Rs}
theorem Inv.row (h:Inv P st a w r):∀ (k:Nat) {x:PC} {v:Value} {g:Option Nat} {s:Nat} {xs:List (List PC)},RepC P w r st (alpha a w r) x v g → St.row P st k x = some (s,xs) → RowRep w r.Sh s xs v
 | k,.sl s' xs',v,g,s,xs,hx,hr=>by
  obtain ⟨_,hx⟩:=hx
  cases k <;> simp only [St.row,Option.some.injEq,Prod.mk.injEq] at hr <;> obtain ⟨rfl,rfl⟩:=hr <;> (cases hx with | s hs=>exact hs.row)
 | k,.own e xs',v,g,s,xs,hx,hr=>by
  cases k <;> simp only [St.row,Option.some.injEq,Prod.mk.injEq] at hr <;> obtain ⟨rfl,rfl⟩:=hr <;> exact RepOwn.row hx
 | k,.nl,v,g,s,xs,hx,hr=>by
  obtain ⟨_,hx⟩:=hx
  have hv:v = .slice none 0 0:=by cases hx with | s hs=>cases hs; rfl
  subst hv
  cases k <;> simp only [St.row,Option.some.injEq,Prod.mk.injEq] at hr <;> obtain ⟨rfl,rfl⟩:=hr <;> exact ⟨none,0,rfl,Nat.le_refl _,fun h=>absurd rfl h⟩
 | 0,.al p,v,g,s,xs,hx,hr=>by simp [St.row] at hr
 | k + 1,.al p,v,g,s,xs,hx,hr=>by
  simp only [St.row,Option.bind_eq_some_iff] at hr
  obtain ⟨y,hy,hr⟩:=hr
  have hl:st.lives p:=⟨y,hy,fun e=>by subst e; cases k <;> simp [St.row] at hr⟩
  rw [hx.2 hl]
  exact Inv.row h k (h.cell p y hy) hr
 | 0,.vw p lo n s',v,g,s,xs,hx,hr=>by simp [St.row] at hr
 | k + 1,.vw p lo n s',v,g,s,xs,hx,hr=>by
  simp only [St.row] at hr
  split at hr
  ·rename_i s0 xs0 h0
   split at hr
   ·rename_i hc
    obtain ⟨rfl,hle⟩:=hc
    simp only [Option.some.injEq,Prod.mk.injEq] at hr
    obtain ⟨rfl,rfl⟩:=hr
    simp only [Option.bind_eq_some_iff] at h0
    obtain ⟨y,hy,h0⟩:=h0
    have hl:st.lives p:=⟨y,hy,fun e=>by subst e; cases k <;> simp [St.row] at h0⟩
    rw [hx.2 hl]
    obtain ⟨b,c,hv,hnc,hb⟩:=Inv.row h k (h.cell p y hy) h0
    rw [hv]
    have hlen:((xs0.drop lo).take n).length = n:=by simp; omega
    refine ⟨_,_,by rw [hlen]; rfl,by rw [hlen]; omega,fun hne=>?_⟩
    have hne0:xs0 ≠ []:=fun e=>by subst e; simp at hne
    obtain ⟨g',off,rfl,hz,hcell⟩:=hb hne0
    have hn0:0 < n:=by
     rcases Nat.eq_zero_or_pos n with e | e
     ·subst e; simp at hne
     ·exact e
    have hcl:c ≠ lo:=by omega
    refine ⟨g',off + lo * s0,by rw [if_neg hcl]; simp [add_mk],fun el he=>hz el (List.mem_of_mem_drop (List.mem_of_mem_take he)),fun i j el z hi hj=>?_⟩
    have hi':xs0[lo + i]? = some el:=by
     rw [List.getElem?_take] at hi
     split at hi
     ·rw [List.getElem?_drop] at hi; exact hi
     ·cases hi
    obtain ⟨u,hu,hru⟩:=hcell (lo + i) j el z hi' hj
    exact ⟨u,by rw [← hu]; congr 2; rw [Nat.add_mul]; omega,hru⟩
   ·cases hr
  ·cases hr
 | k,.sc _,v,g,s,xs,hx,hr=>by cases k <;> simp [St.row] at hr
 | k,.opt _ _ _ _,v,g,s,xs,hx,hr=>by cases k <;> simp [St.row] at hr
 | k,.ref _ _,v,g,s,xs,hx,hr=>by cases k <;> simp [St.row] at hr
 | k,.el _ _ _ _,v,g,s,xs,hx,hr=>by cases k <;> simp [St.row] at hr
 | k,.cel _ _,v,g,s,xs,hx,hr=>by cases k <;> simp [St.row] at hr
 | k,.fn _ _,v,g,s,xs,hx,hr=>by cases k <;> simp [St.row] at hr
 | k,.bnd _ _,v,g,s,xs,hx,hr=>by cases k <;> simp [St.row] at hr
 | k,.er,v,g,s,xs,hx,hr=>by cases k <;> simp [St.row] at hr
 | k,.dead,v,g,s,xs,hx,hr=>by cases k <;> simp [St.row] at hr
variable {o:Oper}
theorem Reads.lenRow {x:Operand} {t:TypeId} {e:TypeId} {c:PC} {s:Nat} {xs:List (List PC)} (ho:o.op = .call { callee:=.builtin .len,args:=#[x],argTypes:=#[t] }) (ht:P.underlying t = some (.slice e))
  (hx:st.use x = some ⟨.one,[c]⟩) (hr:St.row P st 4 c = some (s,xs)):Reads P o st ⟨.one,[.sc (.int .i64 (xs.length:Int))]⟩:=fun a w r hi=>by
 obtain ⟨_,h1,_⟩:=(hi.use hx).out
 obtain ⟨b,c',hv,_⟩:=hi.row 4 h1 hr
 exact ⟨_,by simp [execOp,ho,resolve,invoke,builtin,Builtin.len_,run_underlying ht,hv,goInt],Has.sc rfl⟩
theorem Reads.lenStr {x:Operand} {t:TypeId} {b:ByteArray} (ho:o.op = .call { callee:=.builtin .len,args:=#[x],argTypes:=#[t] }) (ht:P.underlying t = some .string)
  (hx:st.use x = some ⟨.one,[.sc (.string b)]⟩):Reads P o st ⟨.one,[.sc (.int .i64 (b.size:Int))]⟩:=fun a w r hi=>by
 have e1:=(hi.use hx).out_sc
 exact ⟨_,by simp [execOp,ho,resolve,invoke,builtin,Builtin.len_,run_underlying ht,e1,goInt],Has.sc rfl⟩
/-- A byte of a text. -/
def byteAt (b:ByteArray) (i:Int):Int:=((b.data.toList.getD i.toNat 0).toNat:Int)
theorem Reads.byte {x y:Operand} {t:TypeId} {b:ByteArray} {k:IntKind} {i:Int} (ho:o.op = .index t x y) (ht:P.underlying t = some .string) (hx:st.use x = some ⟨.one,[.sc (.string b)]⟩) (hy:st.use y = some ⟨.one,[.sc (.int k i)]⟩)
  (h0:0 ≤ i) (h1:i < (b.size:Int)):Reads P o st ⟨.one,[.sc (.int .u8 (byteAt b i))]⟩:=fun a w r hi=>by
 have e1:=(hi.use hx).out_sc
 have e2:=(hi.use hy).out_sc
 have hlt:i.toNat < b.size:=by omega
 have hg:b[i.toNat]? = some b[i.toNat]:=by simp [hlt]
 have hb:(b.data.toList.getD i.toNat 0) = b[i.toNat]:=by
  rw [List.getD_eq_getElem?_getD,List.getElem?_eq_getElem (by simpa using hlt)]
  rfl
 refine ⟨_,?_,Has.sc rfl⟩
 simp only [execOp,ho,e1,e2,Instr.index,asIntOf,Sem.run_bind,Sem.run_pure,Result.andThen_ok,run_underlying ht,h0,if_true,hg,byteAt,hb]
theorem Reads.addrOf {x y:Operand} {t e:TypeId} {c d:PC} {k:IntKind} {i:Int} {s:Nat} {xs:List (List PC)} (ho:o.op = .indexAddr t x y) (ht:P.underlying t = some (.slice e)) (he:P.size? e = some s)
  (hx:st.use x = some ⟨.one,[c]⟩) (hy:st.use y = some ⟨.one,[.sc (.int k i)]⟩) (hr:St.row P st 4 c = some (s,xs)) (h0:0 ≤ i) (h1:i < (xs.length:Int))
  (hd:(match c with | .sl _ _=>(xs[i.toNat]?).map fun el=>PC.cel el 0 | .al p=>some (.el p i.toNat 0 s) | .vw p lo _ _=>some (.el p (lo + i.toNat) 0 s) | _=>none) = some d):Reads P o st ⟨.one,[d]⟩:=fun a w r hi=>by
 obtain ⟨_,hc,hn⟩:=(hi.use hx).out
 have e2:=(hi.use hy).out_sc
 obtain ⟨b,cp,hv,hle,hb⟩:=hi.row 4 hc hr
 have hlt:i.toNat < xs.length:=by omega
 have hne:xs ≠ []:=fun e=>by subst e; simp at hlt
 obtain ⟨g,off,rfl,hz,hcell⟩:=hb hne
 have hrun:(execOp a.eval o).run P w = .ok (.value (.pointer (some ⟨g,off + i.toNat * s,none⟩))) w:=by
  have hcond:0 ≤ i ∧ i < ((xs.length:Nat):Int):=⟨h0,h1⟩
  simp only [execOp,ho,hv,e2,Instr.indexAt,asIntOf,Sem.run_bind,Sem.run_pure,Result.andThen_ok,run_underlying ht]
  rw [Sem.run_ite,if_pos hcond]
  simp [run_sizeOf he,add_mk]
 refine ⟨_,hrun,?_⟩
 cases c <;> simp only at hd <;> try (cases hd; done)
 case sl s' xs' =>
  simp only [St.row,Option.some.injEq,Prod.mk.injEq] at hr
  obtain ⟨rfl,rfl⟩:=hr
  obtain ⟨el,hel,rfl⟩:=Option.map_eq_some_iff.1 hd
  obtain ⟨_,hc⟩:=hc
  cases hc with
  | s hs =>
   rw [hv] at hs
   cases hs with
   | nil=>simp at hlt
   | sl f hz hcc hsh hcell hrr =>
    exact Has.one rfl ⟨rfl,.s (.cel (f i.toNat) hsh (fun j x hj=>hcell _ j el x hel hj) (fun j x hj=>hrr _ j el x hel hj))⟩ (fun _ h=>by simp [PC.names] at h)
 case al p =>
  cases hd
  refine Has.one rfl ⟨rfl,fun hl=>?_⟩ hn
  rw [← hc.2 hl,hv]
  simp [elVal,add_mk]
 case vw p lo n s' =>
  cases hd
  refine Has.one rfl ⟨rfl,fun hl=>?_⟩ hn
  simp only [St.row] at hr
  split at hr
  ·rename_i s0 xs0 h0'
   split at hr
   ·rename_i hcd
    obtain ⟨rfl,hle'⟩:=hcd
    simp only [Option.some.injEq,Prod.mk.injEq] at hr
    obtain ⟨rfl,rfl⟩:=hr
    simp only [Option.bind_eq_some_iff] at h0'
    obtain ⟨y',hy',h0'⟩:=h0'
    obtain ⟨b',c',hv',hnc',_⟩:=hi.row 3 (hi.cell p y' hy') h0'
    have hc2:=hc.2 hl
    rw [hv,hv'] at hc2
    simp only [vwVal,Value.slice.injEq] at hc2
    obtain ⟨hc2,_,_⟩:=hc2
    have hn0:i.toNat < n:=by simp at hlt; omega
    have hcl:c' ≠ lo:=by omega
    rw [if_neg hcl] at hc2
    rw [hv']
    cases b' with
    | none=>simp at hc2
    | some b' =>
     simp only [Option.map_some,Option.some.injEq] at hc2
     simp only [elVal]
     rw [add_add,Nat.add_zero,Nat.add_mul,← add_add,← hc2,add_mk]
   ·cases hr
  ·cases hr
/-- The cells at an address. -/
def St.cellsAt (P:Program) (st:St) (c:PC) (n:Nat):Option (List PC) :=
 match c with
 | .ref b off=>(st.bx[b]?).bind fun cs=>if off + n ≤ cs.length then some (seenAll (.b b) off ((cs.drop off).take n)) else none
 | .el p i off s=>((st.at p).bind (St.row P st 3)).bind fun (s',xs)=>if s' = s then (xs[i]?).bind fun el=>if off + n ≤ el.length then some ((el.drop off).take n) else none else none
 | .cel cs off=>if off + n ≤ cs.length then some ((cs.drop off).take n) else none
 | _=>none
theorem take_drop_at {α:Type} {l:List α} {off n j:Nat} {x:α} (h:((l.drop off).take n)[j]? = some x):j < n ∧ l[off + j]? = some x:=by
 rw [List.getElem?_take] at h
 split at h
 ·rename_i hj; rw [List.getElem?_drop] at h; exact ⟨hj,h⟩
 ·cases h
theorem RepS.hasC {x:PC} {v:Value} (h:RepS w r.Sh x v):RepC P w r st (alpha a w r) x v none ∧ v.oneCell' = true ∧ ∀ q,x.names = some q → st.ex q:=by
 have h1:=h.one
 cases h <;> exact ⟨⟨rfl,.s (by first | exact .sc ‹_› | exact .nil | exact .sl _ ‹_› ‹_› ‹_› ‹_› ‹_› | exact .cel _ ‹_› ‹_› ‹_› | exact .fn ‹_› ‹_› | exact .bnd ‹_› ‹_› | exact .er | exact .nl)⟩,h1,fun _ h=>by simp [PC.names] at h⟩
theorem Inv.cellsAt (h:Inv P st a w r) {c:PC} {v:Value} {g:Option Nat} {n:Nat} {l:List PC} (hc:RepC P w r st (alpha a w r) c v g) (hl:st.cellsAt P c n = some l) :
  l.length = n ∧ ∃ k off,v = .pointer (some ⟨k,off,none⟩) ∧ ∀ j x,l[j]? = some x → ∃ u,w.cell? ⟨k,off + j,none⟩ = some u ∧ RepC P w r st (alpha a w r) x u none ∧ u.oneCell' = true ∧ ∀ q,x.names = some q → st.ex q:=by
 cases c <;> simp only [St.cellsAt] at hl <;> try (cases hl; done)
 case ref b off =>
  simp only [Option.bind_eq_some_iff] at hl
  obtain ⟨cs,hb,hl⟩:=hl
  split at hl
  ·rename_i hle
   cases hl
   obtain ⟨_,hc⟩:=hc
   have hv:v = .pointer (some ⟨r.β b,off,none⟩):=by cases hc with | s hs=>cases hs | ref=>rfl
   refine ⟨by simp [seenAll_length]; omega,r.β b,off,hv,fun j x hj=>?_⟩
   obtain ⟨y,hy,rfl⟩:=seenAll_get hj
   obtain ⟨hjn,hy⟩:=take_drop_at hy
   obtain ⟨⟨vals,e,hh,hs,h1⟩,hbx⟩:=h.bx b cs hb
   have hlt:off + j < vals.size:=by rw [hs]; exact (List.getElem?_eq_some_iff.1 hy).1
   have hcell:w.cell? ⟨r.β b,off + j,none⟩ = some vals[off + j]:=by rw [cell_of_row w _ _ vals e _ hh]; simp [hlt]
   have ha:alpha a w r (.b b (off + j)) = vals[off + j]:=by simp only [alpha,hcell,Option.getD_some]
   have hrep:=h.cell (.b b (off + j)) y (by simp [St.at,hb,hy])
   rw [ha] at hrep
   refine ⟨_,hcell,hrep.seen ha.symm,h1 _ (Array.getElem_mem hlt),fun q hk=>?_⟩
   rcases PC.seen_names hk with h3 | ⟨h3,_⟩
   ·exact h.nm (.b b (off + j)) y q (by simp [St.at,hb,hy]) h3
   ·cases h3; exact (List.getElem?_eq_some_iff.1 hb).1
  ·cases hl
 case el p i off s =>
  simp only [Option.bind_eq_some_iff] at hl
  obtain ⟨⟨s',xs⟩,⟨y,hy,hrow⟩,hl⟩:=hl
  simp only at hl
  split at hl
  ·rename_i e; subst e
   simp only [Option.bind_eq_some_iff] at hl
   obtain ⟨el,hel,hl⟩:=hl
   split at hl
   ·rename_i hle
    cases hl
    have hlv:st.lives p:=⟨y,hy,fun e=>by subst e; simp [St.row] at hrow⟩
    have hv:=hc.2 hlv
    obtain ⟨b,cp,hal,hnc,hb⟩:=h.row 3 (h.cell p y hy) hrow
    have hne:xs ≠ []:=fun e=>by subst e; simp at hel
    obtain ⟨k,o',rfl,hz,hcell⟩:=hb hne
    rw [hal] at hv
    simp only [elVal,add_mk] at hv
    refine ⟨by simp; omega,k,o' + i * s' + off,hv,fun j x hj=>?_⟩
    obtain ⟨hjn,hj⟩:=take_drop_at hj
    obtain ⟨u,hu,hru⟩:=hcell i (off + j) el x hel hj
    obtain ⟨h1,h2,h3⟩:=hru.hasC (P:=P) (st:=st) (a:=a) (r:=r)
    exact ⟨u,by rw [← hu]; congr 2; omega,h1,h2,h3⟩
   ·cases hl
  ·cases hl
 case cel cs off =>
  split at hl
  ·cases hl
   obtain ⟨_,hc⟩:=hc
   cases hc with
   | s hs =>
    cases hs with
    | cel f hsh hcell hr =>
     rename_i g' o'
     refine ⟨by simp; omega,g',o' + off,rfl,fun j x hj=>?_⟩
     obtain ⟨hjn,hj⟩:=take_drop_at hj
     obtain ⟨h1,h2,h3⟩:=(hr _ x hj).hasC (P:=P) (st:=st) (a:=a) (r:=r)
     exact ⟨_,by rw [← hcell _ x hj]; congr 2; omega,h1,h2,h3⟩
  ·cases hl
theorem Reads.loadOne {x:Operand} {t:TypeId} {c d:PC} (ho:o.op = .load t x) (ht:P.agg? t = some false) (hx:st.use x = some ⟨.one,[c]⟩) (hl:st.cellsAt P c 1 = some [d]):Reads P o st ⟨.one,[d]⟩:=fun a w r hi=>by
 obtain ⟨_,hc,_⟩:=(hi.use hx).out
 obtain ⟨_,k,off,hv,hcell⟩:=hi.cellsAt hc hl
 obtain ⟨u,hu,h1,h2,h3⟩:=hcell 0 d rfl
 rw [Nat.add_zero] at hu
 exact ⟨u,by simp [execOp,ho,hv,Instr.loadAt,Instr.sureAddr,loadVar,run_isAgg ht,hu],Has.one h2 h1 h3⟩
theorem Reads.loadAgg {x:Operand} {t:TypeId} {c:PC} {n:Nat} {l:List PC} (ho:o.op = .load t x) (ht:P.agg? t = some true) (hs:P.size? t = some n) (hx:st.use x = some ⟨.one,[c]⟩) (hl:st.cellsAt P c n = some l):Reads P o st ⟨.agg,l⟩:=fun a w r hi=>by
 obtain ⟨_,hc,_⟩:=(hi.use hx).out
 obtain ⟨hlen,k,off,hv,hcell⟩:=hi.cellsAt hc hl
 have hf:∀ j,j < n → w.cell? ((⟨k,off,none⟩:Addr).add j) = some ((w.cell? ⟨k,off + j,none⟩).getD undef):=by
  intro j hj
  obtain ⟨u,hu,_⟩:=hcell j _ (List.getElem?_eq_getElem (by rw [hlen]; exact hj))
  rw [add_mk,hu]; rfl
 have hrun:=run_loadCells (P:=P) w ⟨k,off,none⟩ n (fun j=>(w.cell? ⟨k,off + j,none⟩).getD undef) hf
 refine ⟨.agg ((List.range n).map fun j=>(w.cell? ⟨k,off + j,none⟩).getD undef).toArray,?_,?_,fun j x hj=>?_⟩
 ·simp [execOp,ho,hv,Instr.loadAt,Instr.sureAddr,loadVar,run_isAgg ht,run_sizeOf hs,hrun]
 ·refine ⟨_,rfl,by simp [hlen],fun y hy=>?_⟩
  simp only [List.mem_toArray,List.mem_map,List.mem_range] at hy
  obtain ⟨j,hj,rfl⟩:=hy
  obtain ⟨u,hu,_,h2,_⟩:=hcell j _ (List.getElem?_eq_getElem (by rw [hlen]; exact hj))
  rw [hu]; exact h2
 ·obtain ⟨u,hu,h1,h2,h3⟩:=hcell j x hj
  have hjn:j < n:=by rw [← hlen]; exact (List.getElem?_eq_some_iff.1 hj).1
  have:(flat (.agg ((List.range n).map fun j=>(w.cell? ⟨k,off + j,none⟩).getD undef).toArray)).getD j undef = u:=by
   simp [flat,List.getD_eq_getElem?_getD,hjn,hu]
  rw [this]
  exact ⟨h1,h3⟩
def PC.at (c:PC) (n:Nat):Option PC :=
 match c with
 | .ref b off=>some (.ref b (off + n))
 | .el p i off s=>some (.el p i (off + n) s)
 | .cel cs off=>some (.cel cs (off + n))
 | _=>none
theorem Reads.field {x:Operand} {t:TypeId} {j:Nat} {fs:Array Field} {f:Field} {c d:PC} {n:Nat} (ho:o.op = .fieldAddr t x j) (ht:P.underlying t = some (.struct fs)) (hf:fs[j]? = some f) (hs:P.size? f.type = some (n + 1))
  (hx:st.use x = some ⟨.one,[c]⟩) (hl:(st.cellsAt P c 0).isSome = true) (hd:c.at f.offset = some d):Reads P o st ⟨.one,[d]⟩:=fun a w r hi=>by
 obtain ⟨hone,hc,hn⟩:=(hi.use hx).out
 obtain ⟨l,hl2⟩:=Option.isSome_iff_exists.1 hl
 clear hl
 obtain ⟨hlen,k,off,hv,hcells⟩:=hi.cellsAt hc hl2
 clear hcells hlen hone
 rw [hv] at hc
 refine ⟨.pointer (some ((⟨k,off,none⟩:Addr).add f.offset)),?_,?_⟩
 ·clear hc
  simp [execOp,ho,hv,Instr.fieldAt,Instr.sureAddr,run_underlying ht,hf,fieldPlace,run_sizeOf hs]
 ·rw [add_mk]
  cases c <;> simp only [PC.at] at hd <;> try (cases hd; done)
  case ref b off' =>
   cases hd
   obtain ⟨_,hc⟩:=hc
   cases hc with
   | s hs=>cases hs
   | ref hb =>
    exact Has.one rfl ⟨rfl,.ref hb⟩ (fun _ h=>by simp [PC.names] at h)
  case el p i off' s =>
   cases hd
   refine Has.one rfl ⟨rfl,fun hlv=>?_⟩ hn
   have:=hc.2 hlv
   revert this
   cases alpha a w r p <;> simp only [elVal] <;> intro this <;> try (cases this; done)
   case slice b _ _ =>
    cases b with
    | none=>cases this
    | some b =>
     simp only [Value.pointer.injEq,Option.some.injEq] at this
     simp only [elVal]
     rw [← add_add,← this,add_mk]
  case cel cs off' =>
   cases hd
   obtain ⟨_,hc⟩:=hc
   cases hc with
   | s hs =>
    cases hs with
    | cel f' hsh hcell hr =>
     rw [Nat.add_assoc]
     exact Has.one rfl ⟨rfl,.s (.cel f' hsh hcell hr)⟩ (fun _ h=>by simp [PC.names] at h)
end
end Go.Proofs.YtoclajfeeebbbadGreatDoor.E
/- The engine, part H: turns of the pure state; stores, rows that are made. Plain lemmas; no program. -/
set_option linter.unusedVariables false
set_option linter.unusedSectionVars false
set_option linter.unusedSimpArgs false
namespace Go.Proofs.YtoclajfeeebbbadGreatDoor.E
open Go.RowKit
variable [LaidFacts]
section
variable {P:Program} {st:St} {a:Act} {w:World} {r:Rs}
theorem St.setAt_m {st:St} {p:Place} {x:PC}:(st.setAt p x).m = st.m:=by
 cases p with
 | t t c=>simp only [St.setAt]; split <;> rfl
 | b b c=>rfl
theorem St.setAt_n {st:St} {p:Place} {x:PC}:(st.setAt p x).n = st.n:=by
 cases p with
 | t t c=>simp only [St.setAt]; split <;> rfl
 | b b c=>rfl
theorem St.setAt_len {st:St} {p:Place} {x:PC}:(st.setAt p x).bx.length = st.bx.length:=by
 cases p with
 | t t c=>simp only [St.setAt]; split <;> rfl
 | b b c=>simp [St.setAt]
theorem Turns.freeze {p:Place} {e:TypeId} {xs:List (List PC)} (hp:st.at p = some (.own e xs)):Turns P st (st.setAt p (.sl (P.cellsOf e) xs)) :=
 fun a w r hi=>⟨_,St.setAt_m,hi.freeze hp,by rw [St.setAt_len]; exact Step.clr⟩
/-- A nil row is one that nothing shares. -/
theorem Turns.ownNil {p:Place} (e:TypeId) (hp:st.at p = some .nl):Turns P st (st.setAt p (.own e [])):=by
 intro a w r hi
 refine ⟨_,St.setAt_m,hi.setAt hp false (.inr rfl) (.inr (by simp)) (fun _ h=>by simp [PC.names] at h) ?_,by rw [St.setAt_len]; exact Step.clr⟩
 have hv:alpha a w r p = .slice none 0 0:=by
  obtain ⟨_,hc⟩:=hi.cell p _ hp
  generalize alpha a w r p = v at hc
  cases hc with
  | s hs=>cases hs; rfl
 rw [hv]
 exact ⟨[],⟨by simp,.inl ⟨rfl,rfl⟩⟩,rfl,by simp,fun i x h=>by simp at h⟩
/-- A nil row as any shared one. -/
theorem Turns.slNil {p:Place} (s:Nat) (hp:st.at p = some .nl):Turns P st (st.setAt p (.sl s [])):=by
 intro a w r hi
 refine ⟨_,St.setAt_m,hi.setAt hp false (.inr rfl) (.inr (by simp)) (fun _ h=>by simp [PC.names] at h) ?_,by rw [St.setAt_len]; exact Step.clr⟩
 obtain ⟨_,hc⟩:=hi.cell p _ hp
 generalize alpha a w r p = v at hc
 cases hc with
 | s hs=>cases hs; exact ⟨rfl,.s .nil⟩
/-- What a place holds is given up. -/
theorem Inv.kill (h:Inv P st a w r) {p:Place} {y:PC} (hp:st.at p = some y):Inv P (st.setAt p .dead) a w (r.clr p false) :=
 h.setAt hp false (.inr rfl) (.inl rfl) (fun _ h=>by simp [PC.names] at h) rfl
/-! Temporaries that are given up, many at once. -/
def Place.isP (f:Nat → Bool):Place → Bool
 | .t t' _=>f t'
 | _=>false
def PC.wipeP (f:Nat → Bool) (x:PC):PC :=
 match x with
 | .al p=>if p.isP f then .dead else .al p
 | .vw p lo n s=>if p.isP f then .dead else .vw p lo n s
 | .el p i off s=>if p.isP f then .dead else .el p i off s
 | x=>x
def delP (f:Nat → Bool):List (Nat × PV) → List (Nat × PV)
 | []=>[]
 | (k,u) :: r=>if f k then delP f r else (k,⟨u.sh,u.cs.map (PC.wipeP f)⟩) :: delP f r
/-- Only these temporaries count from here on. -/
def St.dropP (st:St) (f:Nat → Bool):St:={ st with tm:=delP f st.tm }
theorem look_delP (f:Nat → Bool) (l:List (Nat × PV)) (k:Nat):look (delP f l) k = if f k then none else (look l k).map fun u=>⟨u.sh,u.cs.map (PC.wipeP f)⟩:=by
 induction l with
 | nil=>simp [delP,look]
 | cons x r ih =>
  obtain ⟨j,u⟩:=x
  simp only [delP]
  by_cases hj:f j = true
  ·rw [if_pos hj,ih]
   simp only [look]
   by_cases hk:j = k
   ·subst hk; simp [hj]
   ·rw [if_neg hk]
  ·rw [if_neg hj]
   simp only [look]
   by_cases hk:j = k
   ·subst hk; simp [hj]
   ·rw [if_neg hk,if_neg hk,ih]
theorem St.get_dropP (st:St) (f:Nat → Bool) (k:Nat):(st.dropP f).get k = if f k then none else (st.get k).map fun u=>⟨u.sh,u.cs.map (PC.wipeP f)⟩:=look_delP f st.tm k
theorem PC.wipeP_names {f:Nat → Bool} {x:PC} {p:Place} (h:(x.wipeP f).names = some p):x.names = some p ∧ p.isP f = false:=by
 cases x <;> simp only [PC.wipeP] at h
 case al q=>split at h <;> simp_all [PC.names]
 case vw q lo n s=>split at h <;> simp_all [PC.names]
 case el q i o s=>split at h <;> simp_all [PC.names]
 all_goals simp [PC.names] at h
theorem RepC.wipeP {al:Place → Value} {x:PC} {v:Value} {g:Option Nat} (f:Nat → Bool) (h:RepC P w r st al x v g):RepC P w r st al (x.wipeP f) v g:=by
 cases x <;> simp only [PC.wipeP]
 case al q=>split <;> first | exact h.1 | exact h
 case vw q lo n s=>split <;> first | exact h.1 | exact h
 case el q i o s=>split <;> first | exact h.1 | exact h
 all_goals exact h
theorem St.at_dropP {f:Nat → Bool} {p:Place} {x:PC} (h:(st.dropP f).at p = some x):p.isP f = false ∧ ∃ y,st.at p = some y ∧ (x = y.wipeP f ∨ x = y):=by
 cases p with
 | t k c =>
  obtain ⟨pv,h1,h2⟩:=St.at_tmp h
  rw [St.get_dropP] at h1
  split at h1
  ·cases h1
  ·rename_i hk
   obtain ⟨u,hu,rfl⟩:=Option.map_eq_some_iff.1 h1
   simp only [List.getElem?_map] at h2
   obtain ⟨y,hy,rfl⟩:=Option.map_eq_some_iff.1 h2
   exact ⟨by simpa [Place.isP] using hk,y,by simp [St.at,hu,hy],.inl rfl⟩
 | b b c=>exact ⟨rfl,x,h,.inr rfl⟩
theorem St.lives_dropP {f:Nat → Bool} {p:Place} (h:(st.dropP f).lives p):st.lives p:=by
 obtain ⟨x,h1,h2⟩:=h
 obtain ⟨_,y,hy,hx⟩:=St.at_dropP h1
 refine ⟨y,hy,fun e=>h2 ?_⟩
 subst e
 rcases hx with hx | hx <;> exact hx
def Rs.dropP (r:Rs) (f:Nat → Bool):Rs:={ r with γ:=fun p=>if p.isP f then none else r.γ p }
theorem Inv.dropP (h:Inv P st a w r) (f:Nat → Bool):Inv P (st.dropP f) a w (r.dropP f):=by
 refine h.restate rfl h.m ?_ (Nat.le_refl _) ?_ (fun _ _=>rfl) ?_ ?_ ?_ ?_ (fun g hg=>.inl hg) (fun _ h=>h) rfl rfl
 ·intro k pv' hk
  rw [St.get_dropP] at hk
  split at hk
  ·cases hk
  ·obtain ⟨u,hu,rfl⟩:=Option.map_eq_some_iff.1 hk
   exact ⟨u,hu,rfl,by simp⟩
 ·intro b cs' hb
  exact ⟨cs',hb,rfl,(h.bx b cs' hb).2⟩
 ·intro p x hx
  obtain ⟨hp,y,hy,hxy⟩:=St.at_dropP hx
  have hg:(r.dropP f).γ p = r.γ p:=by simp [Rs.dropP,hp]
  rw [hg]
  have hc:RepC P w r st (alpha a w r) x (alpha a w r p) (r.γ p):=by
   rcases hxy with rfl | rfl
   ·exact (h.cell p y hy).wipeP f
   ·exact h.cell p x hy
  exact hc.mono (fun _ h=>h) (fun _ _=>rfl) (fun _ _=>rfl) (fun b hb=>⟨hb,rfl⟩) (fun q _ hq=>⟨St.lives_dropP hq,rfl⟩)
 ·intro p x q hx hn
  obtain ⟨hp,y,hy,hxy⟩:=St.at_dropP hx
  cases p with
  | t j d =>
   obtain ⟨pv',h1,h2⟩:=St.at_tmp hx
   rw [St.get_dropP] at h1
   split at h1
   ·cases h1
   ·obtain ⟨u,hu,rfl⟩:=Option.map_eq_some_iff.1 h1
    simp only [List.getElem?_map] at h2
    obtain ⟨z,hz,rfl⟩:=Option.map_eq_some_iff.1 h2
    obtain ⟨h3,h4⟩:=PC.wipeP_names hn
    have he:=h.nm (.t j d) z q (by simp [St.at,hu,hz]) h3
    cases q with
    | t k c =>
     obtain ⟨pv,hpv⟩:=he
     have hk:¬ f k = true:=by simpa [Place.isP] using h4
     exact ⟨_,by rw [St.get_dropP,if_neg hk,hpv]; rfl⟩
    | b b c=>exact he
  | b b d =>
   obtain ⟨_,cs,h1,h2⟩:=St.at_box hx
   have:=(h.bx b cs h1).2 x (List.mem_of_getElem? h2)
   cases x <;> simp [PC.boxable,PC.names] at this hn
 ·intro p g hg
  simp only [Rs.dropP] at hg
  split at hg
  ·cases hg
  ·rename_i hp
   obtain ⟨e,xs,hx⟩:=h.live p g hg
   refine ⟨e,xs,?_⟩
   cases p with
   | t k c =>
    obtain ⟨pv,h1,h2⟩:=St.at_tmp hx
    have hp':f k = false:=by simpa [Place.isP] using hp
    simp [St.at,St.get_dropP,hp',h1,h2,PC.wipeP]
   | b b c=>exact hx
 ·intro p g hg
  simp only [Rs.dropP] at hg
  split at hg
  ·cases hg
  ·exact hg
theorem Turns.dropP (f:Nat → Bool):Turns P st (st.dropP f):=by
 intro a w r hi
 refine ⟨_,rfl,hi.dropP f,rfl,rfl,rfl,Nat.le_refl _,fun _ _ _=>rfl,fun _ h=>h,fun _ h=>.inl h,fun g hg=>.inl ?_,fun _ _=>rfl,rfl,fun _ _ h=>h⟩
 rcases hg with ⟨q,hq⟩ | hb
 ·simp only [Rs.dropP] at hq
  split at hq
  ·cases hq
  ·exact .inl ⟨q,hq⟩
 ·exact .inr hb
/-- Only these temporaries count from here on. -/
def St.keep (st:St) (ts:List Nat):St:=st.dropP fun t=>!ts.contains t
theorem Turns.keep (ts:List Nat):Turns P st (st.keep ts):=Turns.dropP _
/-- The pure state by its readings. -/
theorem Inv.ext {st':St} (hi:Inv P st a w r) (hg:∀ t,st'.get t = st.get t) (hb:st'.bx = st.bx) (hn:st'.n = st.n) (hm:st'.m = st.m) (hf:st'.fx = st.fx):Inv P st' a w r:=by
 have hat:∀ p,st'.at p = st.at p:=fun p=>by cases p <;> simp [St.at,hg,hb]
 have hc:∀ x v g,RepC P w r st (alpha a w r) x v g → RepC P w r st' (alpha a w r) x v g:=fun x v g h =>
  h.mono (fun _ h=>h) (fun _ _=>rfl) (fun _ _=>rfl) (fun b h=>⟨by rw [hb]; exact h,rfl⟩) (fun q _ hq=>⟨by obtain ⟨y,h1,h2⟩:=hq; exact ⟨y,by rw [← hat]; exact h1,h2⟩,rfl⟩)
 exact ⟨by rw [hn]; exact hi.sz,by rw [hm,hb]; exact hi.m,fun t pv h=>hi.tm t pv (by rw [← hg]; exact h),fun b cs h=>hi.bx b cs (by rw [← hb]; exact h),fun p x h=>hc _ _ _ (hi.cell p x (by rw [← hat]; exact h)),
  fun p x q h h2=>by
   have h3:=hi.nm p x q (by rw [← hat]; exact h) h2
   cases q with
   | t k c=>obtain ⟨pv,h3⟩:=h3; exact ⟨pv,by rw [hg]; exact h3⟩
   | b b c=>simp only [St.ex,hb]; exact h3,
  fun p g h=>by obtain ⟨e,xs,h1⟩:=hi.live p g h; exact ⟨e,xs,by rw [hat]; exact h1⟩,hi.inj,by rw [hb]; exact hi.exb,by rw [hb]; exact hi.bb,by rw [hb]; exact hi.sh,hi.defers,hi.lw,by rw [hf]; exact hi.fx⟩
theorem Turns.ext {st':St} (hg:∀ t,st'.get t = st.get t) (hb:st'.bx = st.bx) (hn:st'.n = st.n) (hm:st'.m = st.m) (hf:st'.fx = st.fx:=by rfl):Turns P st st':=by
 intro a w r hi
 exact ⟨r,hm,hi.ext hg hb hn hm hf,by rw [hb]; exact Step.refl ..⟩
end
end Go.Proofs.YtoclajfeeebbbadGreatDoor.E
