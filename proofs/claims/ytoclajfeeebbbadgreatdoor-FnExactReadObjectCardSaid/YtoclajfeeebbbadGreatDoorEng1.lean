/- The engine, part A: pure values, what of memory they stand for, the invariant of a frame. Plain lemmas; no program. -/
import Derived.Below
import Derived.Laws.OwnMore
import Derived.Laws.MakeOwn
import Derived.Laws.CopyOwn
import Derived.Laws.BytesString
import Derived.LoopN
import Derived.Orders
import Derived.Tactics
import Derived.ArgAppend
set_option linter.unusedVariables false
set_option linter.unusedSectionVars false
set_option linter.unusedSimpArgs false
namespace Go.Proofs.YtoclajfeeebbbadGreatDoor.E
open Go.RowKit
/-- A place that may own a row: a cell of a temporary, a cell of a box. -/
inductive Place where
 | t (t c:Nat)
 | b (b c:Nat)
 deriving DecidableEq
/-- A cell's pure value. -/
inductive PC where
 | sc (v:Value)
 | sl (s:Nat) (xs:List (List PC))
 | own (e:TypeId) (xs:List (List PC))
 | al (p:Place)
 | vw (p:Place) (lo n s:Nat)
 | ref (b off:Nat)
 | el (p:Place) (i off s:Nat)
 | cel (cs:List PC) (off:Nat)
 | fn (f:FuncId) (caps:List PC)
 | bnd (f:FuncId) (cs:List PC)
 | opt (T:TypeId) (u:Bool) (b off:Nat)
 | er
 | nl
 | dead
/-- A cell that may be shared: it reads memory that nobody writes any more. -/
inductive RepS (w:World) (Sh:Nat → Prop):PC → Value → Prop where
 | sc {v:Value} (h:v.oneCell' = true):RepS w Sh (.sc v) v
 | nil {a:Option Addr} {size c:Nat}:RepS w Sh (.sl size []) (.slice a 0 c)
 | sl {xs:List (List PC)} {g off c size:Nat} (f:Nat → Nat → Value) (hz:∀ e ∈ xs,e.length = size) (hc:xs.length ≤ c) (hsh:Sh g)
   (hcell:∀ (i j:Nat) (e:List PC) (x:PC),xs[i]? = some e → e[j]? = some x → w.cell? ⟨g,off + i * size + j,none⟩ = some (f i j))
   (hr:∀ (i j:Nat) (e:List PC) (x:PC),xs[i]? = some e → e[j]? = some x → RepS w Sh x (f i j)):RepS w Sh (.sl size xs) (.slice (some ⟨g,off,none⟩) xs.length c)
 | cel {cs:List PC} {off g o:Nat} (f:Nat → Value) (hsh:Sh g) (hcell:∀ (j:Nat) (x:PC),cs[j]? = some x → w.cell? ⟨g,o + j,none⟩ = some (f j))
   (hr:∀ (j:Nat) (x:PC),cs[j]? = some x → RepS w Sh x (f j)):RepS w Sh (.cel cs off) (.pointer (some ⟨g,o + off,none⟩))
 | fn {f:FuncId} {caps:List PC} {vs:Array Value} (hn:vs.size = caps.length) (hr:∀ (j:Nat) (x:PC) (v:Value),caps[j]? = some x → vs[j]? = some v → RepS w Sh x v) :
   RepS w Sh (.fn f caps) (.func (.func f) #[] vs)
 | bnd {f:FuncId} {cs:List PC} {vs:Array Value} (hn:vs.size = cs.length) (hr:∀ (j:Nat) (x:PC) (v:Value),cs[j]? = some x → vs[j]? = some v → RepS w Sh x v) :
   RepS w Sh (.bnd f cs) (.func (.func f) #[.agg vs] #[])
 | er {t:TypeId} {v:Value}:RepS w Sh .er (.iface t v)
 | nl:RepS w Sh .nl (.slice none 0 0)
theorem RepS.one {w:World} {Sh:Nat → Prop} {x:PC} {v:Value} (h:RepS w Sh x v):v.oneCell' = true:=by
 cases h <;> first | rfl | assumption
/-- What is shared reads on while its memory stands, and while more becomes shared. -/
theorem RepS.mono {w w':World} {Sh Sh':Nat → Prop} (hS:∀ g,Sh g → Sh' g) (hw:∀ g,Sh g → w'.heap[g]? = w.heap[g]?) {x:PC} {v:Value} (h:RepS w Sh x v):RepS w' Sh' x v:=by
 induction h with
 | sc h=>exact .sc h
 | nil=>exact .nil
 | sl f hz hc hsh hcell hr ih =>
  exact .sl f hz hc (hS _ hsh) (fun i j e x hi hj=>by rw [World.cell?_of_block (hw _ hsh)]; exact hcell i j e x hi hj) (fun i j e x hi hj=>ih i j e x hi hj)
 | cel f hsh hcell hr ih=>exact .cel f (hS _ hsh) (fun j x hj=>by rw [World.cell?_of_block (hw _ hsh)]; exact hcell j x hj) (fun j x hj=>ih j x hj)
 | fn hn hr ih=>exact .fn hn ih
 | bnd hn hr ih=>exact .bnd hn ih
 | er=>exact .er
 | nl=>exact .nl
/-- No cell of a row is frozen: the row's mark lies behind it, or there is none. -/
def FreeZ (fz:Nat × Nat) (n:Nat):Prop:=fz = (0,0) ∨ n ≤ fz.1
/-- The slice value v, of n elements of so many cells each, owns the cells xs; no cell of its row is frozen. -/
def _root_.Go.World.ownsH (w:World) (e:TypeId) (size:Nat) (v:Value) (n:Nat) (xs:List Value):Prop :=
 xs.length = n * size ∧
 ((v = .slice none 0 0 ∧ n = 0) ∨
  ∃ g cap cur fz,v = .slice (some ⟨g,0,none⟩) n cap ∧ FreeZ fz cur.size ∧ w.heap[g]? = some (.cells cur e fz) ∧ n ≤ cap ∧ cap ≤ maxLen ∧ cur.size = cap * size ∧ cur.toList.take (n * size) = xs)
theorem _root_.Go.World.ownsH_of {w:World} {e:TypeId} {size:Nat} {v:Value} {n:Nat} {xs:List Value} {base:Nat} (h:w.ownsRow base e size v n xs):w.ownsH e size v n xs:=by
 refine ⟨h.1,?_⟩
 rcases h.2 with hn | ⟨g,cap,cur,hv,hb,hg,rest⟩
 ·exact .inl hn
 ·exact .inr ⟨g,cap,cur,(0,0),hv,.inl rfl,hg,rest⟩
theorem _root_.Go.World.ownsH_nil (w:World) (e:TypeId) (size:Nat):w.ownsH e size (.slice none 0 0) 0 []:=⟨by simp,.inl ⟨rfl,rfl⟩⟩
theorem _root_.Go.World.ownsH.lt {w:World} {e:TypeId} {size:Nat} {v:Value} {n:Nat} {xs:List Value} (h:w.ownsH e size v n xs):∀ k,v.ownBlock = some k → 0 ≤ k ∧ k < w.heap.size:=by
 intro k hk
 rcases h.2 with ⟨rfl,_⟩ | ⟨g,cap,cur,fz,rfl,hb,hg,_⟩
 ·simp [Value.ownBlock] at hk
 ·simp [Value.ownBlock] at hk
  subst hk
  exact ⟨Nat.zero_le _,(Array.getElem?_eq_some_iff.1 hg).1⟩
theorem _root_.Go.World.ownsH.cells {w:World} {e:TypeId} {size:Nat} {v:Value} {n:Nat} {xs:List Value} (h:w.ownsH e size v n xs) {g:Nat} (hg:v.ownBlock = some g):∀ j u,xs[j]? = some u → w.cell? ((⟨g,0,none⟩:Addr).add j) = some u:=by
 intro j u hu
 rcases h.2 with ⟨rfl,_⟩ | ⟨g',cap,cur,fz,rfl,_,hgg,_,_,_,htake⟩
 ·simp [Value.ownBlock] at hg
 ·simp [Value.ownBlock] at hg
  subst hg
  have hadd:(⟨g',0,none⟩:Addr).add j = ⟨g',j,none⟩:=by unfold Addr.add; split <;> simp_all
  rw [hadd,cell_of_row w g' j cur e fz hgg]
  rw [← htake,List.getElem?_take] at hu
  split at hu
  ·simpa using hu
  ·cases hu
theorem _root_.Go.World.ownsH.cellAt {w:World} {e:TypeId} {size:Nat} {g cap n:Nat} {xs:List Value} (h:w.ownsH e size (.slice (some ⟨g,0,none⟩) n cap) n xs) (j:Nat) (hj:j < n * size):w.cell? ⟨g,j,none⟩ = xs[j]?:=by
 have hlt:j < xs.length:=by rw [h.1]; exact hj
 have:=h.cells (g:=g) rfl j xs[j] (List.getElem?_eq_getElem hlt)
 have hadd:(⟨g,0,none⟩:Addr).add j = ⟨g,j,none⟩:=by unfold Addr.add; split <;> simp_all
 rw [hadd] at this
 rw [this,List.getElem?_eq_getElem hlt]
/-- Cells are stored into a row of which none is frozen. -/
theorem run_storeCells_atH (P:Program) (g o:Nat) (t:TypeId) (fz:Nat × Nat):∀ (vs:List Value) (i:Nat) (cur:Array Value) (w:World),w.heap[g]? = some (.cells cur t fz) → FreeZ fz cur.size → o + i + vs.length ≤ cur.size → (∀ v ∈ vs,v.oneCell' = true) →
  (storeCells ⟨g,o,none⟩ vs i).run P w = .ok () (w.setRow g (cur.toList.take (o + i) ++ vs ++ cur.toList.drop (o + i + vs.length)).toArray)
 | [],i,cur,w,hg,_,_,_=>by
  simp only [storeCells,List.append_nil,List.length_nil,Nat.add_zero,List.take_append_drop,Array.toArray_toList]
  rw [setRow_self w g cur t fz hg]
  rfl
 | v :: rest,i,cur,w,hg,hfz,hl,h1=>by
  have hi:o + i < cur.size:=by simp at hl; omega
  have hadd:(⟨g,o,none⟩:Addr).add i = ⟨g,o + i,none⟩:=by unfold Addr.add; split <;> simp_all
  have hcell:w.cell? ⟨g,o + i,none⟩ = some cur[o + i]:=by simp [World.cell?,hg,hi]
  have hfro:w.frozen? ⟨g,o + i,none⟩ = false:=by
   obtain ⟨lo,hi'⟩:=fz
   simp only [FreeZ,Prod.mk.injEq] at hfz
   simp only [World.frozen?,hg,Bool.and_eq_false_iff,decide_eq_false_iff_not]
   omega
  have hst:(store ((⟨g,o,none⟩:Addr).add i) v).run P w = .ok () (w.setRow g (cur.setIfInBounds (o + i) v)):=by
   rw [hadd,run_store P w _ v _ (h1 v (by simp)),hcell]
   simp [hfro,setCell_eq_setRow w g (o + i) cur t fz v hg]
  have ih:=run_storeCells_atH P g o t fz rest (i + 1) (cur.setIfInBounds (o + i) v) (w.setRow g (cur.setIfInBounds (o + i) v)) (setRow_heap w g cur _ t _ hg) (by simpa using hfz) (by simp at hl ⊢; omega) (fun x hx=>h1 x (by simp [hx]))
  simp only [storeCells,Sem.run_bind,hst,Result.andThen_ok,ih,setRow_setRow]
  congr 3
  have e:=list_seg_step cur.toList (o + i) v rest (by simp at hl ⊢; omega)
  simpa [Array.toList_setIfInBounds,Nat.add_assoc] using e
/-- A row that one place alone owns. -/
def RepOwn (P:Program) (w:World) (Sh:Nat → Prop) (e:TypeId) (xs:List (List PC)) (v:Value) (g:Option Nat):Prop :=
 ∃ vals:List Value,w.ownsH e (P.cellsOf e) v xs.length vals ∧ v.ownBlock = g ∧ (∀ el ∈ xs,el.length = P.cellsOf e) ∧
  ∀ (i:Nat) (x:PC),xs.flatten[i]? = some x → ∃ u,vals[i]? = some u ∧ RepS w Sh x u
theorem RepOwn.mono {P:Program} {w w':World} {Sh Sh':Nat → Prop} (hS:∀ g,Sh g → Sh' g) (hw:∀ g,Sh g → w'.heap[g]? = w.heap[g]?) {e:TypeId} {xs:List (List PC)} {v:Value} {g:Option Nat}
  (hg:∀ k,g = some k → w'.heap[k]? = w.heap[k]?) (h:RepOwn P w Sh e xs v g):RepOwn P w' Sh' e xs v g:=by
 obtain ⟨vals,ho,hb,hl,hr⟩:=h
 refine ⟨vals,⟨ho.1,?_⟩,hb,hl,fun i x hx=>?_⟩
 ·rcases ho.2 with hn | ⟨g',cap,cur,fz,rfl,hbg,hgg,rest⟩
  ·exact .inl hn
  ·refine .inr ⟨g',cap,cur,fz,rfl,hbg,?_,rest⟩
   rw [hg g' (by rw [← hb]; rfl)]
   exact hgg
 ·obtain ⟨u,hu,hru⟩:=hr i x hx
  exact ⟨u,hu,hru.mono hS hw⟩
/-- What a frame holds of memory: what is shared, where its boxes lie, which block a place owns. -/
structure Rs where
 Sh:Nat → Prop
 β:Nat → Nat
 γ:Place → Option Nat
 κ:Nat → Value
/-- The cells of a value in a temporary. -/
def flat:Value → List Value
 | .agg cs=>cs.toList
 | .tuple vs=>vs.toList.flatMap fun v=>v.cells.toList
 | v=>[v]
/-- What stands at a place. -/
def alpha (a:Act) (w:World) (r:Rs):Place → Value
 | .t t c=>(flat (a.tmps.getD t undef)).getD c undef
 | .b b c=>(w.cell? ⟨r.β b,c,none⟩).getD undef
/-- The type of what a block holds. -/
def bty (w:World) (g:Nat):Option TypeId :=
 match w.heap[g]? with
 | some (.cells _ e _)=>some e
 | _=>none
theorem bty_same {w w':World} {g:Nat} (h:w'.heap[g]? = w.heap[g]?):bty w' g = bty w g:=by unfold bty; rw [h]
theorem bty_lt {w:World} {g:Nat} {T:TypeId} (h:bty w g = some T):g < w.heap.size:=by
 unfold bty at h
 split at h
 ·rename_i hh; exact (Array.getElem?_eq_some_iff.1 hh).1
 ·cases h
theorem bty_old {w w':World} (h:∀ g,g < w.heap.size → w'.heap[g]? = w.heap[g]?):∀ g T,bty w g = some T → bty w' g = some T:=fun g T ht=>by rw [bty_same (h g (bty_lt ht))]; exact ht
theorem bty_setRow {w:World} {g:Nat} {cs:Array Value}:∀ k T,bty w k = some T → bty (w.setRow g cs) k = some T:=fun k T ht=>by
 by_cases e:k = g
 ·subst e
  unfold bty at ht
  split at ht
  ·rename_i vals e' fz hh
   cases ht
   unfold bty
   rw [setRow_heap w k vals cs _ fz hh]
  ·cases ht
 ·rw [bty_same (setRow_other w g k cs e)]; exact ht
/-- A captured value: shared, or a box. -/
inductive RepF (w:World) (Sh:Nat → Prop) (β:Nat → Nat) (nb:Nat):PC → Value → Prop where
 | s {x:PC} {v:Value} (h:RepS w Sh x v):RepF w Sh β nb x v
 | ref {b off:Nat} (h:b < nb):RepF w Sh β nb (.ref b off) (.pointer (some ⟨β b,off,none⟩))
 | opt {T:TypeId} {u:Bool} {b off:Nat} (h:b < nb) (ht:bty w (β b) = some T):RepF w Sh β nb (.opt T u b off) (.pointer (if u then some ⟨β b,off,none⟩ else none))
 | fn {f:FuncId} {caps:List PC} {vs:Array Value} (hn:vs.size = caps.length) (hr:∀ (j:Nat) (x:PC) (v:Value),caps[j]? = some x → vs[j]? = some v → RepF w Sh β nb x v) :
   RepF w Sh β nb (.fn f caps) (.func (.func f) #[] vs)
theorem RepF.one {w:World} {Sh:Nat → Prop} {β:Nat → Nat} {nb:Nat} {x:PC} {v:Value} (h:RepF w Sh β nb x v):v.oneCell' = true:=by
 cases h with
 | s h=>exact h.one
 | ref h=>rfl
 | opt h ht=>rfl
 | fn hn hr=>rfl
theorem RepF.mono {w w':World} {Sh Sh':Nat → Prop} {β β':Nat → Nat} {nb nb':Nat} (hS:∀ g,Sh g → Sh' g) (hw:∀ g,Sh g → w'.heap[g]? = w.heap[g]?) (hb:∀ b,b < nb → b < nb' ∧ β' b = β b)
  {x:PC} {v:Value} (h:RepF w Sh β nb x v) (hty:∀ g T,bty w g = some T → bty w' g = some T:=by exact fun _ _ h=>h):RepF w' Sh' β' nb' x v:=by
 induction h with
 | s h=>exact .s (h.mono hS hw)
 | ref h=>rw [← (hb _ h).2]; exact .ref (hb _ h).1
 | opt h ht=>rw [← (hb _ h).2]; exact .opt (hb _ h).1 (by rw [(hb _ h).2]; exact hty _ _ ht)
 | fn hn hr ih=>exact .fn hn ih
/-- The form of a temporary's value. -/
inductive Shape where
 | one | agg | any | tup (l:List (Option Nat))
structure PV where
 sh:Shape
 cs:List PC
def inB (i:Nat):List Nat → Bool
 | []=>false
 | x :: l=>match Nat.beq i x with
  | true=>true
  | false=>inB i l
theorem inB_spec {i:Nat}:∀ {l:List Nat},inB i l = true → i ∈ l
 | [],h=>by cases h
 | x :: l,h=>by
  simp only [inB] at h
  split at h
  ·rename_i hb; rw [Nat.eq_of_beq_eq_true hb]; exact List.mem_cons_self ..
  ·exact List.mem_cons_of_mem _ (inB_spec h)
/-- A frame's pure state: its temporaries (those that count), the boxes. -/
structure St where
 n:Nat
 tm:List (Nat × PV)
 bx:List (List PC)
 m:Nat
 fx:List Nat
/-- May a temporary be a destination? -/
def St.okd (st:St) (d:Nat):Prop:=d < st.n ∧ inB d st.fx = false
def St.okB (st:St) (d:Nat):Bool:=Nat.ble (d + 1) st.n && !inB d st.fx
theorem St.okB_spec {st:St} {d:Nat} (h:st.okB d = true):st.okd d:=by
 simp only [St.okB,Bool.and_eq_true,Bool.not_eq_true'] at h
 exact ⟨Nat.le_of_ble_eq_true h.1,h.2⟩
def look:List (Nat × PV) → Nat → Option PV
 | [],_=>none
 | (k,v) :: r,t=>if k = t then some v else look r t
def St.get (st:St) (t:Nat):Option PV:=look st.tm t
def St.at (st:St):Place → Option PC
 | .t t c=>(st.get t).bind fun pv=>pv.cs[c]?
 | .b b c=>(st.bx[b]?).bind fun cs=>cs[c]?
def aggSize:Value → Option Nat
 | .agg cs=>some cs.size
 | _=>none
def Shape.fits (n:Nat):Shape → Value → Prop
 | .one,v=>n = 1 ∧ v.oneCell' = true
 | .agg,v=>∃ cs:Array Value,v = .agg cs ∧ cs.size = n ∧ ∀ x ∈ cs,x.oneCell' = true
 | .any,_=>n = 0
 | .tup l,v=>∃ vs:Array Value,v = .tuple vs ∧ (flat v).length = n ∧ l = vs.toList.map aggSize ∧ (∀ x ∈ vs,∀ y ∈ x.cells,y.oneCell' = true)
/-- The place that a cell names. -/
def PC.names:PC → Option Place
 | .al p | .vw p _ _ _ | .el p _ _ _=>some p
 | _=>none
/-- What may lie in a box. -/
def PC.boxable:PC → Bool
 | .al _ | .vw .. | .el ..=>false
 | _=>true
/-- The place is there. -/
def St.ex (st:St):Place → Prop
 | .t t _=>∃ pv,st.get t = some pv
 | .b b _=>b < st.bx.length
/-- Something stands at the place. -/
def St.lives (st:St) (p:Place):Prop:=∃ y,st.at p = some y ∧ y ≠ .dead
def vwVal:Value → Nat → Nat → Nat → Value
 | .slice a _ c,lo,n,s=>.slice (if c = lo then a else a.map (·.add (lo * s))) n (c - lo)
 | v,_,_,_=>v
def elVal:Value → Nat → Nat → Nat → Value
 | .slice (some a) _ _,i,off,s=>.pointer (some ((a.add (i * s)).add off))
 | _,_,_,_=>.nilFunc
/-- The value of a cell of the frame. -/
def RepC (P:Program) (w:World) (r:Rs) (st:St) (al:Place → Value):PC → Value → Option Nat → Prop
 | .own e xs,v,g=>RepOwn P w r.Sh e xs v g
 | .al p,v,g=>g = none ∧ (st.lives p → v = al p)
 | .vw p lo n s,v,g=>g = none ∧ (st.lives p → v = vwVal (al p) lo n s)
 | .el p i off s,v,g=>g = none ∧ (st.lives p → v = elVal (al p) i off s)
 | .dead,_,g=>g = none
 | x,v,g=>g = none ∧ RepF w r.Sh r.β st.bx.length x v
/-- What is known of the world and of what is shared, and stays: tables that were laid before. -/
class LaidFacts where
 LW:World → (Nat → Prop) → Prop
 mono:∀ {w w':World} {Sh Sh':Nat → Prop},(∀ g,Sh g → Sh' g) → (∀ g,Sh g → w'.heap[g]? = w.heap[g]?) → LW w Sh → LW w' Sh'
variable [LaidFacts]
/-- The frame's invariant. -/
structure Inv (P:Program) (st:St) (a:Act) (w:World) (r:Rs):Prop where
 sz:a.tmps.size = st.n
 m:st.m ≤ st.bx.length
 tm:∀ t pv,st.get t = some pv → ∃ v,a.tmps[t]? = some v ∧ pv.sh.fits pv.cs.length v
 bx:∀ b cs,st.bx[b]? = some cs → (∃ vals e,w.heap[r.β b]? = some (.cells vals e (0,0)) ∧ vals.size = cs.length ∧ ∀ x ∈ vals,x.oneCell' = true) ∧ ∀ x ∈ cs,x.boxable = true
 cell:∀ p x,st.at p = some x → RepC P w r st (alpha a w r) x (alpha a w r p) (r.γ p)
 nm:∀ p x q,st.at p = some x → x.names = some q → st.ex q
 live:∀ p g,r.γ p = some g → ∃ e xs,st.at p = some (.own e xs)
 inj:∀ p q g,r.γ p = some g → r.γ q = some g → p = q
 exb:∀ p g b,r.γ p = some g → b < st.bx.length → r.β b ≠ g
 bb:∀ b b',b < st.bx.length → b' < st.bx.length → r.β b = r.β b' → b = b'
 sh:∀ g,r.Sh g → g < w.heap.size ∧ (∀ p,r.γ p ≠ some g) ∧ ∀ b,b < st.bx.length → r.β b ≠ g
 defers:a.defers = []
 lw:LaidFacts.LW w r.Sh
 fx:∀ t,inB t st.fx = true → a.tmps[t]? = some (r.κ t)
/-- The blocks that the frame alone may write. -/
def Rs.X (r:Rs) (nb:Nat) (g:Nat):Prop:=(∃ p,r.γ p = some g) ∨ ∃ b,b < nb ∧ r.β b = g
/-- How the world and what a frame holds may go on; the first m boxes stay. -/
structure Step (m:Nat) (w:World) (r:Rs) (nb:Nat) (w':World) (r':Rs) (nb':Nat):Prop where
 os:w'.os = w.os
 tape:w'.tape = w.tape
 output:w'.output = w.output
 size:w.heap.size ≤ w'.heap.size
 block:∀ g,g < w.heap.size → ¬ r.X nb g → w'.heap[g]? = w.heap[g]?
 sh:∀ g,r.Sh g → r'.Sh g
 shNew:∀ g,r'.Sh g → r.Sh g ∨ r.X nb g ∨ w.heap.size ≤ g
 x:∀ g,r'.X nb' g → r.X nb g ∨ w.heap.size ≤ g
 β:∀ b,b < m → r'.β b = r.β b
 κ:r'.κ = r.κ
 ty:∀ g T,bty w g = some T → bty w' g = some T
theorem Step.refl (m:Nat) (w:World) (r:Rs) (nb:Nat):Step m w r nb w r nb :=
 ⟨rfl,rfl,rfl,Nat.le_refl _,fun _ _ _=>rfl,fun _ h=>h,fun _ h=>.inl h,fun _ h=>.inl h,fun _ _=>rfl,rfl,fun _ _ h=>h⟩
theorem Step.trans {m:Nat} {w₀ w₁ w₂:World} {r₀ r₁ r₂:Rs} {n₀ n₁ n₂:Nat} (h:Step m w₀ r₀ n₀ w₁ r₁ n₁) (k:Step m w₁ r₁ n₁ w₂ r₂ n₂):Step m w₀ r₀ n₀ w₂ r₂ n₂ where
 os:=k.os.trans h.os
 tape:=k.tape.trans h.tape
 output:=k.output.trans h.output
 size:=Nat.le_trans h.size k.size
 block:=fun g hg hx=>by
  rw [k.block g (Nat.lt_of_lt_of_le hg h.size) (fun h1=>(h.x g h1).elim hx (fun h2=>by omega)),h.block g hg hx]
 sh:=fun g hg=>k.sh g (h.sh g hg)
 shNew:=fun g hg=>by
  rcases k.shNew g hg with h1 | h1 | h1
  ·exact h.shNew g h1
  ·rcases h.x g h1 with h2 | h2
   ·exact .inr (.inl h2)
   ·exact .inr (.inr h2)
  ·exact .inr (.inr (Nat.le_trans h.size h1))
 x:=fun g hg=>by
  rcases k.x g hg with h1 | h1
  ·exact h.x g h1
  ·exact .inr (Nat.le_trans h.size h1)
 β:=fun b hb=>by rw [k.β b hb,h.β b hb]
 κ:=k.κ.trans h.κ
 ty:=fun g T hg=>k.ty g T (h.ty g T hg)
end Go.Proofs.YtoclajfeeebbbadGreatDoor.E
/- The engine, part B: what keeps the invariant of a frame. Plain lemmas; no program. -/
set_option linter.unusedVariables false
set_option linter.unusedSectionVars false
set_option linter.unusedSimpArgs false
namespace Go.Proofs.YtoclajfeeebbbadGreatDoor.E
open Go.RowKit
variable [LaidFacts]
theorem RepC.mono {P:Program} {w w':World} {r r':Rs} {st st':St} {al al':Place → Value} {x:PC} {v:Value} {g:Option Nat} (h:RepC P w r st al x v g)
  (hS:∀ k,r.Sh k → r'.Sh k) (hw:∀ k,r.Sh k → w'.heap[k]? = w.heap[k]?) (hg:∀ k,g = some k → w'.heap[k]? = w.heap[k]?)
  (hb:∀ b,b < st.bx.length → b < st'.bx.length ∧ r'.β b = r.β b)
  (ho:∀ p,x.names = some p → st'.lives p → st.lives p ∧ al' p = al p) (hty:∀ g T,bty w g = some T → bty w' g = some T:=by exact fun _ _ h=>h):RepC P w' r' st' al' x v g:=by
 cases x <;> simp only [RepC] at h ⊢
 case own e xs=>exact RepOwn.mono hS hw hg h
 case al p=>exact ⟨h.1,fun he=>by obtain ⟨h1,h2⟩:=ho p rfl he; rw [h2]; exact h.2 h1⟩
 case vw p lo n s=>exact ⟨h.1,fun he=>by obtain ⟨h1,h2⟩:=ho p rfl he; rw [h2]; exact h.2 h1⟩
 case el p i off s=>exact ⟨h.1,fun he=>by obtain ⟨h1,h2⟩:=ho p rfl he; rw [h2]; exact h.2 h1⟩
 case dead=>exact h
 all_goals exact ⟨h.1,h.2.mono hS hw hb hty⟩
/-- A cell that owns nothing. -/
theorem RepC.g_none {P:Program} {w:World} {r:Rs} {st:St} {al:Place → Value} {x:PC} {v:Value} {g:Option Nat} (h:RepC P w r st al x v g) (hx:∀ e xs,x ≠ .own e xs):g = none:=by
 cases x <;> simp only [RepC] at h
 case own e xs=>exact absurd rfl (hx e xs)
 case dead=>exact h
 all_goals exact h.1
section
variable {P:Program} {st:St} {a:Act} {w:World} {r:Rs}
theorem St.at_box {st:St} {b c:Nat} {x:PC} (h:st.at (.b b c) = some x):b < st.bx.length ∧ ∃ cs,st.bx[b]? = some cs ∧ cs[c]? = some x:=by
 simp only [St.at,Option.bind_eq_some_iff] at h
 obtain ⟨cs,h1,h2⟩:=h
 exact ⟨(List.getElem?_eq_some_iff.1 h1).1,cs,h1,h2⟩
theorem St.at_tmp {st:St} {t c:Nat} {x:PC} (h:st.at (.t t c) = some x):∃ pv,st.get t = some pv ∧ pv.cs[c]? = some x:=by
 simpa only [St.at,Option.bind_eq_some_iff] using h
theorem Inv.X_lt (h:Inv P st a w r) {g:Nat} (hg:r.X st.bx.length g):g < w.heap.size:=by
 rcases hg with ⟨p,hp⟩ | ⟨b,hb,rfl⟩
 ·obtain ⟨e,xs,hx⟩:=h.live p g hp
  have:=h.cell p _ hx
  simp only [RepC] at this
  obtain ⟨vals,ho,hk,_⟩:=this
  rw [hp] at hk
  exact (ho.lt g hk).2
 ·obtain ⟨⟨vals,e,hh,_⟩,_⟩:=h.bx b _ (List.getElem?_eq_getElem hb)
  exact (Array.getElem?_eq_some_iff.1 hh).1
theorem Inv.not_sh (h:Inv P st a w r) {g:Nat} (hg:r.X st.bx.length g):¬ r.Sh g:=fun hs=>by
 obtain ⟨_,h1,h2⟩:=h.sh g hs
 rcases hg with ⟨p,hp⟩ | ⟨b,hb,rfl⟩
 ·exact h1 p hp
 ·exact h2 b hb rfl
theorem alpha_box_eq {a a':Act} {w w':World} {r r':Rs} {b c:Nat} (hb:r'.β b = r.β b) (hw:w'.heap[r.β b]? = w.heap[r.β b]?):alpha a' w' r' (.b b c) = alpha a w r (.b b c):=by
 simp only [alpha,hb]
 rw [World.cell?_of_block (a:=⟨r.β b,c,none⟩) hw]
/-- The world goes on: what is shared and what is the frame's own stands. -/
theorem Inv.world (h:Inv P st a w r) {w':World} (hw:∀ g,r.Sh g ∨ r.X st.bx.length g → w'.heap[g]? = w.heap[g]?) (hs:w.heap.size ≤ w'.heap.size) (hty:∀ g T,bty w g = some T → bty w' g = some T):Inv P st a w' r:=by
 have hal:∀ p x,st.at p = some x → alpha a w' r p = alpha a w r p:=by
  intro p x hx
  cases p with
  | t t c=>rfl
  | b b c=>exact alpha_box_eq rfl (hw _ (.inr (.inr ⟨b,(St.at_box hx).1,rfl⟩)))
 refine ⟨h.sz,h.m,h.tm,fun b cs hb=>?_,fun p x hx=>?_,h.nm,h.live,h.inj,h.exb,h.bb,fun g hg=>?_,h.defers,LaidFacts.mono (fun _ h=>h) (fun g hg=>hw g (.inl hg)) h.lw,h.fx⟩
 ·obtain ⟨⟨vals,e,h1,h2⟩,h3⟩:=h.bx b cs hb
  exact ⟨⟨vals,e,by rw [hw _ (.inr (.inr ⟨b,(List.getElem?_eq_some_iff.1 hb).1,rfl⟩))]; exact h1,h2⟩,h3⟩
 ·rw [hal p x hx]
  exact (h.cell p x hx).mono (fun _ h=>h) (fun k hk=>hw k (.inl hk)) (fun k hk=>hw k (.inr (.inl ⟨p,hk⟩))) (fun b hb=>⟨hb,rfl⟩)
   (fun q _ hq=>⟨hq,hal q _ hq.choose_spec.1⟩) hty
 ·obtain ⟨h1,h2,h3⟩:=h.sh g hg
  exact ⟨Nat.lt_of_lt_of_le h1 hs,h2,h3⟩
/-- Whose cells are cells of another frame's state, or of the same, some turned. -/
theorem Inv.restate (h:Inv P st a w r) {st':St} {r':Rs} (hn:st'.n = st.n) (hm:st'.m ≤ st'.bx.length)
  (htm:∀ t pv',st'.get t = some pv' → ∃ pv,st.get t = some pv ∧ pv.sh = pv'.sh ∧ pv.cs.length = pv'.cs.length)
  (hlen:st'.bx.length ≤ st.bx.length)
  (hbx:∀ (b:Nat) (cs':List PC),st'.bx[b]? = some cs' → ∃ cs:List PC,st.bx[b]? = some cs ∧ cs.length = cs'.length ∧ ∀ x ∈ cs',x.boxable = true)
  (hβ:∀ b,b < st'.bx.length → r'.β b = r.β b)
  (hcell:∀ p x,st'.at p = some x → RepC P w r' st' (alpha a w r') x (alpha a w r p) (r'.γ p))
  (hnm:∀ p x q,st'.at p = some x → x.names = some q → st'.ex q)
  (hlive:∀ p g,r'.γ p = some g → ∃ e xs,st'.at p = some (.own e xs))
  (hγ:∀ p g,r'.γ p = some g → r.γ p = some g)
  (hsh:∀ g,r'.Sh g → r.Sh g ∨ ((∃ p,r.γ p = some g ∧ r'.γ p = none))) (hup:∀ g,r.Sh g → r'.Sh g) (hfx:st'.fx = st.fx) (hκ:r'.κ = r.κ):Inv P st' a w r':=by
 have hal:∀ p x,st'.at p = some x → alpha a w r' p = alpha a w r p:=by
  intro p x hx
  cases p with
  | t t c=>rfl
  | b b c=>exact alpha_box_eq (hβ b (St.at_box hx).1) rfl
 refine ⟨h.sz.trans hn.symm,hm,fun t pv' ht=>?_,fun b cs' hb=>?_,fun p x hx=>?_,hnm,hlive,fun p q g hp hq=>h.inj p q g (hγ p g hp) (hγ q g hq),fun p g b hp hb=>?_,fun b b' hb hb' he=>?_,fun g hg=>?_,h.defers,LaidFacts.mono hup (fun _ _=>rfl) h.lw,by rw [hfx,hκ]; exact h.fx⟩
 ·obtain ⟨pv,h1,h2,h3⟩:=htm t pv' ht
  obtain ⟨v,h4,h5⟩:=h.tm t pv h1
  exact ⟨v,h4,by rw [← h2,← h3]; exact h5⟩
 ·obtain ⟨cs,h1,h2,h3⟩:=hbx b cs' hb
  obtain ⟨⟨vals,e,h4,h5,h6⟩,_⟩:=h.bx b cs h1
  exact ⟨⟨vals,e,by rw [hβ b (List.getElem?_eq_some_iff.1 hb).1]; exact h4,by rw [h5,h2],h6⟩,h3⟩
 ·rw [hal p x hx]; exact hcell p x hx
 ·rw [hβ b hb]; exact h.exb p g b (hγ p g hp) (by omega)
 ·rw [hβ b hb,hβ b' hb'] at he; exact h.bb b b' (by omega) (by omega) he
 ·rcases hsh g hg with h1 | ⟨p,h1,h2⟩
  ·obtain ⟨h3,h4,h5⟩:=h.sh g h1
   exact ⟨h3,fun p hp=>h4 p (hγ p g hp),fun b hb=>by rw [hβ b hb]; exact h5 b (by omega)⟩
  ·refine ⟨h.X_lt (.inl ⟨p,h1⟩),fun q hq=>?_,fun b hb=>by rw [hβ b hb]; exact h.exb p g b h1 (by omega)⟩
   have:=h.inj p q g h1 (hγ q g hq)
   subst this
   rw [h2] at hq; cases hq
/-! The pure state's own turns. -/
def setL:List (Nat × PV) → Nat → PV → List (Nat × PV)
 | [],t,v=>[(t,v)]
 | (k,u) :: r,t,v=>if k = t then (k,v) :: r else (k,u) :: setL r t v
def delL:List (Nat × PV) → Nat → List (Nat × PV)
 | [],_=>[]
 | (k,u) :: r,t=>if k = t then delL r t else (k,u) :: delL r t
def mapL (f:PC → PC):List (Nat × PV) → List (Nat × PV)
 | []=>[]
 | (k,u) :: r=>(k,⟨u.sh,u.cs.map f⟩) :: mapL f r
theorem look_setL (l:List (Nat × PV)) (t:Nat) (v:PV) (k:Nat):look (setL l t v) k = if k = t then some v else look l k:=by
 induction l with
 | nil=>simp only [setL,look]; split <;> split <;> simp_all
 | cons x r ih =>
  obtain ⟨j,u⟩:=x
  simp only [setL]
  by_cases hj:j = t
  ·subst hj
   simp only [if_true,look]
   by_cases hk:j = k
   ·simp [hk]
   ·rw [if_neg hk,if_neg hk,if_neg (fun e=>hk e.symm)]
  ·rw [if_neg hj]
   simp only [look]
   by_cases hk:j = k
   ·subst hk; simp [hj]
   ·rw [if_neg hk,if_neg hk,ih]
theorem look_delL (l:List (Nat × PV)) (t:Nat) (k:Nat):look (delL l t) k = if k = t then none else look l k:=by
 induction l with
 | nil=>simp [delL,look]
 | cons x r ih =>
  obtain ⟨j,u⟩:=x
  simp only [delL]
  by_cases hj:j = t
  ·subst hj
   simp only [if_true,ih,look]
   by_cases hk:k = j
   ·simp [hk]
   ·rw [if_neg hk,if_neg hk,if_neg (fun e=>hk e.symm)]
  ·rw [if_neg hj]
   simp only [look]
   by_cases hk:j = k
   ·subst hk; simp [hj]
   ·rw [if_neg hk,if_neg hk,ih]
theorem look_mapL (f:PC → PC) (l:List (Nat × PV)) (k:Nat):look (mapL f l) k = (look l k).map fun u=>⟨u.sh,u.cs.map f⟩:=by
 induction l with
 | nil=>simp [mapL,look]
 | cons x r ih =>
  obtain ⟨j,u⟩:=x
  simp only [mapL,look]
  by_cases hk:j = k
  ·simp [hk]
  ·rw [if_neg hk,if_neg hk,ih]
/-- Is it a cell of this temporary? -/
def Place.isT (t:Nat):Place → Bool
 | .t t' _=>t' == t
 | _=>false
def PC.wipe (t:Nat) (x:PC):PC :=
 match x with
 | .al p=>if p.isT t then .dead else .al p
 | .vw p lo n s=>if p.isT t then .dead else .vw p lo n s
 | .el p i off s=>if p.isT t then .dead else .el p i off s
 | x=>x
/-- The temporary is given up; what named it is lost. -/
def St.drop (st:St) (t:Nat):St:={ st with tm:=mapL (PC.wipe t) (delL st.tm t) }
theorem St.get_drop (st:St) (t k:Nat):(st.drop t).get k = if k = t then none else (st.get k).map fun u=>⟨u.sh,u.cs.map (PC.wipe t)⟩:=by
 simp only [St.get,St.drop,look_mapL,look_delL]
 split <;> rfl
theorem PC.wipe_names {t:Nat} {x:PC} {p:Place} (h:(x.wipe t).names = some p):x.names = some p ∧ p.isT t = false:=by
 cases x <;> simp only [PC.wipe] at h
 case al q=>split at h <;> simp_all [PC.names]
 case vw q lo n s=>split at h <;> simp_all [PC.names]
 case el q i o s=>split at h <;> simp_all [PC.names]
 all_goals simp [PC.names] at h
theorem RepC.wipe {P:Program} {w:World} {r:Rs} {st:St} {al:Place → Value} {x:PC} {v:Value} {g:Option Nat} (t:Nat) (h:RepC P w r st al x v g):RepC P w r st al (x.wipe t) v g:=by
 cases x <;> simp only [PC.wipe]
 case al q=>(split <;> first | exact h.1 | exact h)
 case vw q lo n s=>(split <;> first | exact h.1 | exact h)
 case el q i o s=>(split <;> first | exact h.1 | exact h)
 all_goals exact h
theorem St.at_drop {st:St} {t:Nat} {p:Place} {x:PC} (h:(st.drop t).at p = some x):p.isT t = false ∧ ∃ y,st.at p = some y ∧ (x = y.wipe t ∨ x = y):=by
 cases p with
 | t k c =>
  obtain ⟨pv,h1,h2⟩:=St.at_tmp h
  rw [St.get_drop] at h1
  split at h1
  ·cases h1
  ·rename_i hk
   obtain ⟨u,hu,rfl⟩:=Option.map_eq_some_iff.1 h1
   simp only [List.getElem?_map] at h2
   obtain ⟨y,hy,rfl⟩:=Option.map_eq_some_iff.1 h2
   exact ⟨by simp [Place.isT,hk],y,by simp [St.at,hu,hy],.inl rfl⟩
 | b b c=>exact ⟨rfl,x,h,.inr rfl⟩
theorem St.lives_drop {st:St} {t:Nat} {p:Place} (h:(st.drop t).lives p):st.lives p:=by
 obtain ⟨x,h1,h2⟩:=h
 obtain ⟨_,y,hy,hx⟩:=St.at_drop h1
 refine ⟨y,hy,fun e=>h2 ?_⟩
 subst e
 rcases hx with hx | hx <;> exact hx
def Rs.dropT (r:Rs) (t:Nat):Rs:={ r with γ:=fun p=>if p.isT t then none else r.γ p }
theorem Inv.drop (h:Inv P st a w r) (t:Nat):Inv P (st.drop t) a w (r.dropT t):=by
 refine h.restate rfl h.m ?_ (Nat.le_refl _) ?_ (fun _ _=>rfl) ?_ ?_ ?_ ?_ (fun g hg=>.inl hg) (fun _ h=>h) rfl rfl
 ·intro k pv' hk
  rw [St.get_drop] at hk
  split at hk
  ·cases hk
  ·obtain ⟨u,hu,rfl⟩:=Option.map_eq_some_iff.1 hk
   exact ⟨u,hu,rfl,by simp⟩
 ·intro b cs' hb
  exact ⟨cs',hb,rfl,(h.bx b cs' hb).2⟩
 ·intro p x hx
  obtain ⟨hp,y,hy,hxy⟩:=St.at_drop hx
  have hg:(r.dropT t).γ p = r.γ p:=by simp [Rs.dropT,hp]
  rw [hg]
  have hc:RepC P w r st (alpha a w r) x (alpha a w r p) (r.γ p):=by
   rcases hxy with rfl | rfl
   ·exact (h.cell p y hy).wipe t
   ·exact h.cell p x hy
  exact hc.mono (fun _ h=>h) (fun _ _=>rfl) (fun _ _=>rfl) (fun b hb=>⟨hb,rfl⟩) (fun q _ hq=>⟨St.lives_drop hq,rfl⟩)
 ·intro p x q hx hn
  obtain ⟨hp,y,hy,hxy⟩:=St.at_drop hx
  cases p with
  | t j d =>
   obtain ⟨pv',h1,h2⟩:=St.at_tmp hx
   rw [St.get_drop] at h1
   split at h1
   ·cases h1
   ·obtain ⟨u,hu,rfl⟩:=Option.map_eq_some_iff.1 h1
    simp only [List.getElem?_map] at h2
    obtain ⟨z,hz,rfl⟩:=Option.map_eq_some_iff.1 h2
    obtain ⟨h3,h4⟩:=PC.wipe_names hn
    have he:=h.nm (.t j d) z q (by simp [St.at,hu,hz]) h3
    cases q with
    | t k c =>
     obtain ⟨pv,hpv⟩:=he
     have hk:k ≠ t:=by simpa [Place.isT] using h4
     exact ⟨_,by rw [St.get_drop,if_neg hk,hpv]; rfl⟩
    | b b c=>exact he
  | b b d =>
   obtain ⟨_,cs,h1,h2⟩:=St.at_box hx
   have:=(h.bx b cs h1).2 x (List.mem_of_getElem? h2)
   cases x <;> simp [PC.boxable,PC.names] at this hn
 ·intro p g hg
  simp only [Rs.dropT] at hg
  split at hg
  ·cases hg
  ·rename_i hp
   obtain ⟨e,xs,hx⟩:=h.live p g hg
   refine ⟨e,xs,?_⟩
   cases p with
   | t k c =>
    obtain ⟨pv,h1,h2⟩:=St.at_tmp hx
    simp only [Place.isT,beq_iff_eq] at hp
    simp [St.at,St.get_drop,hp,h1,h2,PC.wipe]
   | b b c=>exact hx
 ·intro p g hg
  simp only [Rs.dropT] at hg
  split at hg
  ·cases hg
  ·exact hg
end
end Go.Proofs.YtoclajfeeebbbadGreatDoor.E
