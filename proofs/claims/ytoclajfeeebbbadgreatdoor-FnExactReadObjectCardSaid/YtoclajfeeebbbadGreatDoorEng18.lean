/- The engine, part Z: words of the printed proofs. Plain lemmas; no program. -/
import Derived.Test.YtoclajfeeebbbadGreatDoorEng17
import Derived.WideShapes
import Derived.SizedLaws
import Derived.ProofKit
set_option linter.unusedVariables false
set_option linter.unusedSectionVars false
set_option linter.unusedSimpArgs false
namespace Go.Proofs.YtoclajfeeebbbadGreatDoor.E
open Go.RowKit
variable [LaidFacts]
/-- Several ways meet at the end of a code. -/
theorem Tri.joinT {P:Program} {x:Code} {Q:Exit → St → Prop} {st:St} {α:Type} (C:α → Prop) (S:α → St) (hy:∀ v,C v → Q .normal (S v)) (hx:Tri P x (Ex (fun st=>∃ v,C v ∧ st = S v) Q) st):Tri P x Q st:=by
  refine Tri.mono (fun e st' q=>?_) hx
  cases e <;> first
    | (obtain ⟨v,h1,rfl⟩:=q; exact hy v h1)
    | exact q
def cI (n:Int):PC:=.sc (.int .i64 n)
def cK (k:IntKind) (n:Int):PC:=.sc (.int k n)
def cB (b:Bool):PC:=.sc (.bool b)
def cS (s:ByteArray):PC:=.sc (.string s)
def o1 (c:PC):PV:=⟨.one,[c]⟩
def oI (n:Int):PV:=⟨.one,[cI n]⟩
def oB (b:Bool):PV:=⟨.one,[cB b]⟩
def oS (s:ByteArray):PV:=⟨.one,[cS s]⟩
def ag (l:List PC):PV:=⟨.agg,l⟩
def tp (s:List (Option Nat)) (l:List PC):PV:=⟨.tup s,l⟩
def eI (n:Int):List PC:=[.sc (.int .i64 n)]
def eK (k:IntKind) (n:Int):List PC:=[.sc (.int k n)]
def eS (s:ByteArray):List PC:=[.sc (.string s)]
def eL {α:Type} (s:Nat) (f:α → List PC) (l:List α):List PC:=[.sl s (l.map f)]
theorem need_some {α:Type} {c:Prop} [Decidable c] {x:Option α} {r:α} (h:(if c then x else none) = some r):c ∧ x = some r:=by
  split at h
  · exact ⟨‹_›,h⟩
  · cases h
theorem ovset {α:Type} {e:TypeId} {l:List α} {f:α → List PC} {i:Nat} {v:α}:PC.own e ((l.map f).set i (f v)) = PC.own e ((l.set i v).map f):=by rw [List.map_set]
theorem ovapp {α:Type} {e:TypeId} {l m:List α} {f:α → List PC}:[PC.own e (l.map f ++ m.map f)] = [PC.own e ((l ++ m).map f)]:=by rw [List.map_append]
theorem strRow_eq (s:ByteArray):strRow s = (bytesOf s).map (eK .u8):=by simp [strRow,bytesOf,eK]
theorem ovappS {e:TypeId} {l:List Int} {s:ByteArray}:[PC.own e (l.map (eK .u8) ++ strRow s)] = [PC.own e ((l ++ bytesOf s).map (eK .u8))]:=by rw [strRow_eq,List.map_append]
theorem appS2 {l:List Int} {s:ByteArray} {b:Nat} (h:(l ++ bytesOf s).length * b ≤ 140737488355328):((l.map (eK .u8)).length + (strRow s).length) * b ≤ 140737488355328:=by
  rw [strRow_eq,List.length_map,List.length_map,← List.length_append]; exact h
theorem appS1 {l:List Int} {s:ByteArray} {b:Nat} (hb:1 ≤ b) (h:(l ++ bytesOf s).length * b ≤ 140737488355328):(l.map (eK .u8)).length + (strRow s).length ≤ 9223372036854775807:=by
  rw [strRow_eq,List.length_map,List.length_map,← List.length_append]
  have:=Nat.le_mul_of_pos_right (l ++ bytesOf s).length hb
  omega
theorem ovrep {α:Type} {e:TypeId} {n:Nat} {z:α} {f:α → List PC}:[PC.own e (List.replicate n (f z))] = [PC.own e ((List.replicate n z).map f)]:=by rw [List.map_replicate]
theorem mkN {n:Int} {b:Int} (hb:1 ≤ b) (h0:0 ≤ n) (h:n * b ≤ 140737488355328):n ≤ 9223372036854775807:=by
  have:n * 1 ≤ n * b:=Int.mul_le_mul_of_nonneg_left hb h0
  omega
theorem ovcut {α:Type} {s a b:Nat} {l:List α} {f:α → List PC}:[PC.sl s (((l.map f).drop a).take b)] = [PC.sl s (((l.drop a).take b).map f)]:=by rw [List.map_take,List.map_drop]
theorem vwle {α:Type} {f:α → List PC} {l:List α} {a b:Int} (h0:0 ≤ a) (h1:a ≤ b) (h2:b ≤ ((l.map f).length:Int)):a.toNat + (b - a).toNat ≤ (l.map f).length:=by omega
theorem lenle {α:Type} {l:List α} {f:α → List PC} {i:Int} (h:i ≤ (l.length:Int)):i ≤ ((l.map f).length:Int):=by rw [List.length_map]; exact h
theorem app2 {α:Type} {l m:List α} {f:α → List PC} {b:Nat} (h:(l ++ m).length * b ≤ 140737488355328):((l.map f).length + (m.map f).length) * b ≤ 140737488355328:=by
  rw [List.length_map,List.length_map,← List.length_append]; exact h
theorem app1 {α:Type} {l m:List α} {f:α → List PC} {b:Nat} (hb:1 ≤ b) (h:(l ++ m).length * b ≤ 140737488355328):(l.map f).length + (m.map f).length ≤ 9223372036854775807:=by
  rw [List.length_map,List.length_map,← List.length_append]
  have:=Nat.le_mul_of_pos_right (l ++ m).length hb
  omega
theorem Tri.fix {P:Program} {c:Code} {Q:Exit → St → Prop} {st:St} (ts:List Nat) (nb:Nat) (fx:List Fix) (st':St) (hy:Tri P c Q st') (h:fin P ts nb fx st = some st':=by kernel_rfl):Tri P c Q st:=Tri.turn (fin_turns h) hy
end Go.Proofs.YtoclajfeeebbbadGreatDoor.E
/- The engine, part AA: a result that stands in a box; rows made; rows frozen for all that name them. Plain lemmas; no program. -/
set_option linter.unusedVariables false
set_option linter.unusedSectionVars false
set_option linter.unusedSimpArgs false
namespace Go.Proofs.YtoclajfeeebbbadGreatDoor.E
open Go.RowKit
variable [LaidFacts]
section
variable {P:Program}
def ldOp (t ty : Nat) : Oper := { dst := some t, op := .load ty (.tmp t), type := ty, pos := "", after := #[], guard := none }
end
/-- The end of a body with boxes. -/
theorem endsG {ts keep:List Nat} {res:PV} {kcs:List PC} {bx':List (List PC)} {e:Exit} {st':St} (he:e = .normal ∨ e = .ret) (h:(mapO (resultsOf st') (ts :: keep.map fun j=>[j]),(res :: kept kcs).all (fun pv=>pv.cs.all (·.free bx'.length)),Nat.ble bx'.length st'.bx.length,st'.bx.take bx'.length,bx'.all (fun cs=>cs.all (·.free bx'.length)),st'.fx) = (some (res :: kept kcs),true,true,bx',true,keep)):EndsG ts keep res kcs bx' e st':=by
  simp only [Prod.mk.injEq] at h
  obtain ⟨h1,h2,h3,h4,h5,h6⟩:=h
  exact ⟨he,h1,h2,Nat.le_of_ble_eq_true h3,h4,h5,h6⟩
end Go.Proofs.YtoclajfeeebbbadGreatDoor.E
/- The engine, part AB: contracts of the library's functions, as the engine takes them. Plain lemmas; no program. -/
set_option linter.unusedVariables false
set_option linter.unusedSectionVars false
set_option linter.unusedSimpArgs false
namespace Go.Proofs.YtoclajfeeebbbadGreatDoor.E
open Go.RowKit
variable [LaidFacts]
section
variable {P:Program}
def scArgs (vs:List Value):List PV:=vs.map fun v=>⟨.one,[.sc v]⟩
theorem Inv.scArgs {vs:List Value} {vals:Array Value} {w:World} {r:Rs} {bx:List (List PC)} {m:Nat} {fx:List Nat} (h:Inv P ⟨(E.scArgs vs).length,enum 0 (E.scArgs vs),bx,m,fx⟩ ⟨vals,[]⟩ w r):vals = vs.toArray:=by
  have hsz:vals.size = vs.length:=by rw [h.sz]; simp [E.scArgs]
  apply Array.ext
  · simpa using hsz
  · intro i h1 h2
    have hi:i < vs.length:=by omega
    have hg:(⟨(E.scArgs vs).length,enum 0 (E.scArgs vs),bx,m,fx⟩:St).get i = some ⟨.one,[.sc vs[i]]⟩:=by
      simp [St.get,look_enum,E.scArgs,hi]
    obtain ⟨v,k1,k2⟩:=h.tm i _ hg
    have hc:=h.cell (.t i 0) (.sc vs[i]) (by simp [St.at,hg])
    have ha:alpha ⟨vals,[]⟩ w r (.t i 0) = v:=by
      have:vals[i]? = some v:=k1
      simp only [alpha,Array.getD_eq_getD_getElem?,this,Option.getD_some,flat_one k2.2]; rfl
    rw [ha] at hc
    have hv:v = vs[i]:=by
      obtain ⟨_,hc⟩:=hc
      cases hc with
      | s h=>cases h; rfl
    have e2:vals[i]? = some v:=k1
    rw [Array.getElem?_eq_getElem h1] at e2
    simp only [List.getElem_toArray]
    rw [← hv]; exact Option.some.inj e2
/-- A frame of which nothing is known. -/
theorem Inv.bare {w:World} {Sh:Nat → Prop} {β:Nat → Nat} {κ:Nat → Value} (hSh:∀ g,Sh g → g < w.heap.size) (hlw:LaidFacts.LW w Sh) (n:Nat) (vals:Array Value) (hn:vals.size = n):Inv P ⟨n,[],[],0,[]⟩ ⟨vals,[]⟩ w ⟨Sh,β,fun _=>none,κ⟩:=by
  refine ⟨hn,Nat.le_refl _,fun t pv ht=>(by simp [St.get,look] at ht),fun b cs hb=>(by simp at hb),fun p x hp=>?_,fun p x q hp=>?_,(fun p g hg=>nomatch hg),(fun p q g hg=>nomatch hg),(fun p g b hg=>nomatch hg),(fun b b' hb=>nomatch hb),fun g hg=>⟨hSh g hg,(fun _ h=>nomatch h),(fun b hb=>nomatch hb)⟩,rfl,hlw,fun _ h=>by cases h⟩
  · cases p <;> simp [St.at,St.get,look] at hp
  · cases p <;> simp [St.at,St.get,look] at hp
/-- A function of single values that hands back single values. -/
theorem Fn.ofSc {f : FuncId} {vs : List Value} {res : PV} {v : Value} (hfit : res.sh.fits res.cs.length v) (hcell : ∀ (c : Nat) (x : PC), res.cs[c]? = some x → ∃ u, x = .sc u ∧ u.oneCell' = true ∧ (flat v).getD c undef = u)
    (H:∀ (w:World) (Sh:Nat → Prop),LaidFacts.LW w Sh → Calls P f vs.toArray w fun e w'=>e = .returned v ∧ Below w.heap.size w w'):Fn P f (E.scArgs vs) [] res []:=by
  intro vals w r hi
  obtain rfl:=hi.scArgs
  refine (H w r.Sh hi.lw).mono fun e w' ⟨he,hb⟩=>⟨v,⟨r.Sh,r.β,fun _=>none,r.κ⟩,he,?_,hb.os,hb.tape,hb.output,hb.size,fun g hg _=>hb.block g hg,fun _ h=>h,fun _ h=>.inl h,fun g hg=>?_,fun _ _=>rfl,rfl,bty_old fun g hg=>hb.block g hg⟩
  · have hbare:=Inv.bare (P:=P) (w:=w') (Sh:=r.Sh) (β:=r.β) (κ:=r.κ) (fun g hg=>Nat.lt_of_lt_of_le (hi.sh g hg).1 hb.size) (LaidFacts.mono (fun _ h=>h) (fun g hg=>hb.block g (hi.sh g hg).1) hi.lw) 1 #[undef] rfl
    have h1:=hbare.assign (t:=0) (v:=v) (pv:=res) (γc:=fun _=>none) ⟨Nat.zero_lt_one,rfl⟩ hfit (fun c x hx=>?_) (fun c x q hx hq=>?_) (fun _ _ h=>by cases h) (fun _ _ _ h=>by cases h)
    · have h2:=h1
      simp only [St.assign,St.get,look,St.put] at h2
      have e1:((⟨r.Sh,r.β,fun _=>none,r.κ⟩:Rs).dropT 0).setT 0 (fun _=>none) = ⟨r.Sh,r.β,fun _=>none,r.κ⟩:=by
        simp only [Rs.setT,Rs.dropT]
        congr 1
        funext p
        cases p with
        | t t c=>simp only [ite_self]
        | b b c=>rfl
      rw [e1] at h2
      exact h2
    · obtain ⟨u,rfl,h2,h3⟩:=hcell c x hx
      exact ⟨(fun q hq=>by cases hq),rfl,(by rw [h3]; exact .s (.sc h2))⟩
    · obtain ⟨u,rfl,_⟩:=hcell c x hx
      cases hq
  · rcases hg with ⟨p,hp⟩ | ⟨b,hb',_⟩
    · cases hp
    · exact absurd hb' (Nat.not_lt_zero b)
theorem flat_ones:∀ (us:List Value),(us.map fun u=>[PC.sc u]).flatten = us.map PC.sc
  | []=>rfl
  | u :: us=>by simp [flat_ones us]
/-- A function of single values that hands back a new row of single values. -/
theorem Fn.ofRow {f : FuncId} {vs : List Value} {e : TypeId} {us : List Value} (he : P.cellsOf e = 1) (h1 : ∀ u ∈ us, u.oneCell' = true) (hlen : us.length ≤ maxLen)
    (H:∀ (w:World) (Sh:Nat → Prop),LaidFacts.LW w Sh → Calls P f vs.toArray w fun ex w'=>ex = .returned (.slice (some ⟨w.heap.size,0,none⟩) us.length us.length) ∧ w' = w.alloc (.cells us.toArray e)):Fn P f (E.scArgs vs) [] ⟨.one,[.own e (us.map fun u=>[.sc u])]⟩ []:=by
  intro vals w r hi
  obtain rfl:=hi.scArgs
  refine (H w r.Sh hi.lw).mono fun ex w' ⟨he1,hw⟩=>?_
  subst hw
  have hrow:=World.ownsH_of <| World.ownsRow_lit (base:=0) (e:=e) (size:=1) w us.toArray us.length (Nat.zero_le _) hlen (by simp)
  have hown:RepOwn P (w.alloc (.cells us.toArray e)) r.Sh e (us.map fun u=>[PC.sc u]) (.slice (some ⟨w.heap.size,0,none⟩) us.length us.length) (Value.slice (some ⟨w.heap.size,0,none⟩) us.length us.length).ownBlock:=by
    refine ⟨us,by rw [he,List.length_map]; exact hrow,rfl,fun el hel=>by rw [he]; obtain ⟨u,_,rfl⟩:=List.mem_map.1 hel; rfl,fun i x hx=>?_⟩
    have hx':(us.map PC.sc)[i]? = some x:=by
      rw [← flat_ones]; exact hx
    rw [List.getElem?_map] at hx'
    obtain ⟨u,hu,rfl⟩:=Option.map_eq_some_iff.1 hx'
    exact ⟨u,hu,.sc (h1 u (List.mem_of_getElem? hu))⟩
  have hbare:=Inv.bare (P:=P) (w:=w) (Sh:=r.Sh) (β:=r.β) (κ:=r.κ) (fun g hg=>(hi.sh g hg).1) hi.lw 1 #[undef] rfl
  have h2:=hbare.newRow (d:=0) ⟨Nat.zero_lt_one,rfl⟩ hown (fun g hg=>heap_alloc_old w _ g hg) (by simp) (fun g hg=>by simp [Value.ownBlock] at hg; omega)
  refine ⟨_,_,he1,h2,rfl,rfl,rfl,by simp,fun g hg _=>heap_alloc_old w _ g hg,fun _ h=>h,fun _ h=>.inl h,fun g hg=>?_,fun _ _=>rfl,rfl,bty_old fun g hg=>heap_alloc_old w _ g hg⟩
  rcases hg with ⟨p,hp⟩ | ⟨b,hb',_⟩
  · cases p with
    | t t c =>
      simp only [Rs.setT,Rs.dropT] at hp
      split at hp
      · split at hp
        · simp [Value.ownBlock] at hp; exact .inr (by omega)
        · cases hp
      · split at hp <;> cases hp
    | b b c=>simp [Rs.setT,Rs.dropT] at hp
  · exact absurd hb' (Nat.not_lt_zero b)
end
end Go.Proofs.YtoclajfeeebbbadGreatDoor.E
/- The engine, part AC: from what reads as data to a frame's arguments. Plain lemmas; no program. -/
set_option linter.unusedVariables false
set_option linter.unusedSectionVars false
set_option linter.unusedSimpArgs false
namespace Go.Proofs.YtoclajfeeebbbadGreatDoor.E
open Go.RowKit Go.WideShapes
variable [LaidFacts]
/-- Cells that read as told, whatever memory holds. -/
def CellsR (w:World) (l:List PC) (cs:List Value):Prop:=l.length = cs.length ∧ ∀ (j:Nat) (c:PC),l[j]? = some c → ∃ u,cs[j]? = some u ∧ RepS w (fun g=>g < w.heap.size) c u
theorem CellsR.one {w:World} {c:PC} {u:Value} (h:RepS w (fun g=>g < w.heap.size) c u):CellsR w [c] [u]:=⟨rfl,fun j d hd=>by
  cases j with
  | zero=>simp only [List.getElem?_cons_zero,Option.some.injEq] at hd; subst hd; exact ⟨u,rfl,h⟩
  | succ j=>simp at hd⟩
/-- What reads, within n steps of depth, as data of type t, holds cells that are told. -/
def OpR {α:Type} (P:Program) (n:Nat) (t:TypeId) (f:α → List PC) (good:α → Prop):Prop :=
  ∀ (H:Type) (enc:TypeId × Value → H) (w:World) (sp:Nat → Bool) (held:Bool) (fuel:Nat) (cs:List Value) (r:DataW H × List MemPlace),fuel ≤ n →
    DataW.trod enc P w 0 sp held fuel t cs = some r → ∃ x,CellsR w (f x) cs ∧ good x
theorem OpR.zero {α:Type} {P:Program} {t:TypeId} {f:α → List PC} {good:α → Prop}:OpR P 0 t f good:=by
  intro H enc w sp held fuel cs r hf h
  obtain rfl:fuel = 0:=by omega
  simp [DataW.trod] at h
theorem opR_int {P:Program} {t:TypeId} {k:IntKind} (ht:P.underlying t = some (.int k)) (n:Nat):OpR P n t (eK k) (fun x=>(Lit.int k x).wf = true):=by
  intro H enc w sp held fuel cs r hf h
  obtain ⟨x,rfl,_,hw⟩:=DataW.trod_int ht h
  exact ⟨x,CellsR.one (.sc rfl),hw⟩
theorem mapMR_get {α β:Type} {f:α → Option β}:∀ {l:List α} {r:List β},l.mapM f = some r → r.length = l.length ∧ ∀ (j:Nat) (x:α),l[j]? = some x → ∃ y,f x = some y ∧ r[j]? = some y:=by
  intro l
  induction l with
  | nil=>intro r h; simp at h; subst h; simp
  | cons a l ih =>
    intro r h
    rw [List.mapM_cons] at h
    obtain ⟨y,hy,h⟩:=Option.bind_eq_some_iff.mp h
    obtain ⟨ys,hys,h⟩:=Option.bind_eq_some_iff.mp h
    obtain rfl:=Option.some.inj h
    obtain ⟨hl,hg⟩:=ih hys
    refine ⟨by simp [hl],fun j x hx=>?_⟩
    cases j with
    | zero=>simp at hx; subst hx; exact ⟨y,hy,rfl⟩
    | succ j=>simpa using hg j x (by simpa using hx)
theorem cellsR_get {w:World} {base:Nat} {a:Addr} {n:Nat} {cs:List Value} (h:w.cells? base a n = some cs):cs.length = n ∧ ∀ i u,cs[i]? = some u → w.cell? (a.add i) = some u:=by
  unfold World.cells? at h
  split at h
  · obtain ⟨hl,hg⟩:=mapMR_get h
    refine ⟨by simpa using hl,fun i u hu=>?_⟩
    have hi:i < n:=by
      have:=(List.getElem?_eq_some_iff.1 hu).1
      simp at hl
      omega
    obtain ⟨y,hy,hr⟩:=hg i i (by simp [List.getElem?_range,hi])
    rw [hu] at hr
    rw [hy,← hr]
  · cases h
theorem pickR_list {α:Type} (n:Nat) (p:Nat → α → Prop) (h:∀ i,i < n → ∃ x,p i x):∃ xs:List α,xs.length = n ∧ ∀ i x,xs[i]? = some x → p i x:=by
  induction n with
  | zero=>exact ⟨[],rfl,fun i x h=>by simp at h⟩
  | succ n ih =>
    obtain ⟨xs,hl,hx⟩:=ih (fun i hi=>h i (by omega))
    obtain ⟨x,hp⟩:=h n (by omega)
    refine ⟨xs ++ [x],by simp [hl],fun i y hy=>?_⟩
    by_cases hi:i < n
    · rw [List.getElem?_append_left (by omega)] at hy
      exact hx i y hy
    · have hi2 : i = n := by
        have:=(List.getElem?_eq_some_iff.1 hy).1
        simp [hl] at this
        omega
      subst hi2
      rw [List.getElem?_append_right (by omega)] at hy
      simp [hl] at hy
      subst hy
      exact hp
theorem opR_slice {α : Type} {P : Program} {t e : TypeId} {f : α → List PC} {good : α → Prop} {n s : Nat} (ht : P.underlying t = some (.slice e)) (hs : P.cellsOf e = s) (hs0 : 0 < s) (he : OpR P n e f good) :
    OpR P (n + 1) t (eL s f) (fun xs=>xs.length ≤ maxLen ∧ ∀ x,x ∈ xs → good x):=by
  intro H enc w sp held fuel cs r hf h
  rcases DataW.trod_slice ht h with ⟨rfl,_⟩ | ⟨a,len,cap,elems,rest,m,rfl,rfl,_,_,hlc,hcm,hel,hg,_⟩
  · exact ⟨[],CellsR.one .nil,Nat.zero_le _,fun x h=>by cases h⟩
  · have hpick : ∀ i, i < len → ∃ x, ((f x).length = s ∧ ∀ (j : Nat) (c : PC), (f x)[j]? = some c → ∃ u, w.cell? (a.add (i * s + j)) = some u ∧ RepS w (fun g => g < w.heap.size) c u) ∧ good x := by
      intro i hi
      have h1:=hg i hi
      rw [List.getElem?_eq_getElem (by omega)] at h1
      obtain ⟨c,hc,hy⟩:=Option.bind_eq_some_iff.mp h1
      obtain ⟨hcl,hcg⟩:=cellsR_get hc
      obtain ⟨x,hK,hgood⟩:=he H enc w sp held m c _ (by omega) hy
      refine ⟨x,⟨by rw [hK.1,hcl,hs],fun j d hd=>?_⟩,hgood⟩
      obtain ⟨u,hu,hru⟩:=hK.2 j d hd
      refine ⟨u,?_,hru⟩
      rw [← hs,← add_add]
      exact hcg j u hu
    obtain ⟨xs,hxl,hx⟩:=pickR_list len _ hpick
    refine ⟨xs,CellsR.one ?_,by omega,fun x hm=>?_⟩
    · show RepS w _ (.sl s (xs.map f)) _
      cases hxs:xs with
      | nil =>
        subst hxs
        have:len = 0:=by simpa using hxl.symm
        subst this
        exact .nil
      | cons x0 xs' =>
        -- the block is there, and is no other block's part
        have h0:=(hx 0 x0 (by rw [hxs]; rfl)).1
        obtain ⟨c0,hc0⟩:∃ c,(f x0)[0]? = some c:=by
          have:0 < (f x0).length:=by rw [h0.1]; exact hs0
          exact ⟨_,List.getElem?_eq_getElem this⟩
        obtain ⟨u0,hu0,_⟩:=h0.2 0 c0 hc0
        have hspot:a.spot = none ∧ a.block < w.heap.size:=by
          unfold World.cell? at hu0
          have e1:(a.add (0 * s + 0)) = a:=by simp [Addr.add]
          rw [e1] at hu0
          split at hu0
          · rename_i c2 t2 z2 hh
            split at hu0
            · cases hu0
            · rename_i hsn
              exact ⟨by simpa using hsn,(Array.getElem?_eq_some_iff.1 hh).1⟩
          · cases hu0
        obtain ⟨g,off,spot⟩:=a
        obtain ⟨hs1,hs2⟩:=hspot
        simp only at hs1 hs2
        subst hs1
        rw [← hxs]
        have hlen:(xs.map f).length = len:=by rw [List.length_map,hxl]
        have key:=RepS.sl (w:=w) (Sh:=fun g=>g < w.heap.size) (xs:=xs.map f) (g:=g) (off:=off) (c:=cap) (size:=s) (fun i j=>(w.cell? ⟨g,off + i * s + j,none⟩).getD undef) (fun el hel=>by
          obtain ⟨x,hxm,rfl⟩:=List.mem_map.1 hel
          obtain ⟨i,hi⟩:=List.getElem?_of_mem hxm
          exact (hx i x hi).1.1) (by rw [hlen]; exact hlc) hs2 (fun i j el y hi hj=>by
          rw [List.getElem?_map] at hi
          obtain ⟨x,hxi,rfl⟩:=Option.map_eq_some_iff.1 hi
          obtain ⟨u,hu,_⟩:=(hx i x hxi).1.2 j y hj
          rw [add_mk,show off + (i * s + j) = off + i * s + j by omega] at hu
          rw [hu]; rfl) (fun i j el y hi hj=>by
          rw [List.getElem?_map] at hi
          obtain ⟨x,hxi,rfl⟩:=Option.map_eq_some_iff.1 hi
          obtain ⟨u,hu,hru⟩:=(hx i x hxi).1.2 j y hj
          rw [add_mk,show off + (i * s + j) = off + i * s + j by omega] at hu
          rw [hu]; exact hru)
        rw [hlen] at key
        exact key
    · obtain ⟨j,hj,rfl⟩:=List.mem_iff_getElem.1 hm
      exact (hx j _ (List.getElem?_eq_getElem hj)).2
theorem opR_slice_all {α : Type} {P : Program} {t e : TypeId} {f : α → List PC} {good : α → Prop} {s : Nat} (ht : P.underlying t = some (.slice e)) (hs : P.cellsOf e = s) (hs0 : 0 < s) (he : ∀ n, OpR P n e f good) :
    ∀ n,OpR P n t (eL s f) (fun xs=>xs.length ≤ maxLen ∧ ∀ x,x ∈ xs → good x)
  | 0=>OpR.zero
  | n + 1=>opR_slice ht hs hs0 (he n)
/-! Arguments. -/
def ArgR (w:World) (pv:PV) (v:Value):Prop:=pv.sh.fits pv.cs.length v ∧ ∀ (c:Nat) (x:PC),pv.cs[c]? = some x → RepS w (fun g=>g < w.heap.size) x ((flat v).getD c undef) ∧ x.names = none
theorem RepS.nameless {w:World} {Sh:Nat → Prop} {x:PC} {v:Value} (h:RepS w Sh x v):x.names = none:=by cases h <;> rfl
theorem ArgR.one {w:World} {x:PC} {v:Value} (hv:v.oneCell' = true) (h:CellsR w [x] v.cells.toList):ArgR w ⟨.one,[x]⟩ v:=by
  refine ⟨⟨rfl,hv⟩,fun c y hc=>?_⟩
  cases c with
  | succ c=>simp at hc
  | zero =>
    simp only [List.getElem?_cons_zero,Option.some.injEq] at hc
    subst hc
    obtain ⟨u,hu,hr⟩:=h.2 0 x rfl
    rw [cells_one hv] at hu
    simp only [List.getElem?_cons_zero,Option.some.injEq] at hu
    subst hu
    rw [flat_one hv]
    exact ⟨hr,hr.nameless⟩
def ArgsR (w:World):List PV → List Value → Prop
  | [],[]=>True
  | pv :: l,v :: m=>ArgR w pv v ∧ ArgsR w l m
  | _,_=>False
theorem ArgsR.at {w:World}:∀ {l:List PV} {m:List Value},ArgsR w l m → l.length = m.length ∧ ∀ (t:Nat) (pv:PV),l[t]? = some pv → ∃ v,m[t]? = some v ∧ ArgR w pv v
  | [],[],_=>⟨rfl,fun t pv h=>by simp at h⟩
  | pv :: l,v :: m,h=>by
    obtain ⟨h1,h2⟩:=h
    obtain ⟨h3,h4⟩:=h2.at
    refine ⟨by simp [h3],fun t q hq=>?_⟩
    cases t with
    | zero=>simp only [List.getElem?_cons_zero,Option.some.injEq] at hq; subst hq; exact ⟨v,rfl,h1⟩
    | succ t=>exact h4 t q (by simpa using hq)
  | [],_ :: _,h=>h.elim
  | _ :: _,[],h=>h.elim
/-- A law's function, called with what reads as data. -/
theorem Fn.law {P : Program} {f : FuncId} {args : List PV} {vals : List Value} {w : World} {b : Bool} (hF : Fn P f args [] (oB b) []) (ha : ArgsR w args vals) (hlw : LaidFacts.LW w (fun g => g < w.heap.size)) :
    Calls P f vals.toArray w fun e w'=>e = .returned (.bool b) ∧ Below w.heap.size w w':=by
  obtain ⟨hl,hat⟩:=ha.at
  have hi:=frame_mk (P:=P) (args:=args) (vals:=vals) (w:=w) (Sc:=fun g=>g < w.heap.size) (β:=fun _=>0) hl.symm (fun _ h=>h) hlw (fun t pv ht=>by
    obtain ⟨v,h1,h2,h3⟩:=hat t pv ht
    exact ⟨v,h1,h2,h3⟩)
  refine (hF _ w _ hi).mono fun e w' ⟨v,r',he,hinv,hs⟩=>?_
  have hX:∀ g,¬ (⟨fun g=>g < w.heap.size,fun _=>0,fun _=>none,fun _=>undef⟩:Rs).X 0 g:=fun g hg=>by
    rcases hg with ⟨p,hp⟩ | ⟨b,hb,_⟩
    · cases hp
    · omega
  refine ⟨?_,hs.os,hs.tape,hs.output,hs.size,fun g hg=>hs.block g hg (hX g)⟩
  rw [he]
  obtain ⟨v',h1,h2⟩:=hinv.tm 0 (oB b) rfl
  have e1:v' = v:=by simpa using h1.symm
  subst e1
  have hc:=hinv.cell (.t 0 0) (.sc (.bool b)) rfl
  obtain ⟨_,hc⟩:=hc
  have ha:alpha ⟨#[v'],[]⟩ w' r' (.t 0 0) = v':=by
    obtain ⟨_,h2⟩:=h2
    show (flat v').getD 0 undef = v'
    rw [flat_one h2]; rfl
  rw [ha] at hc
  cases hc with
  | s h=>cases h; rfl
end Go.Proofs.YtoclajfeeebbbadGreatDoor.E
/- The engine, part AD: contracts of functions that read a shared row. Plain lemmas; no program. -/
set_option linter.unusedVariables false
set_option linter.unusedSectionVars false
set_option linter.unusedSimpArgs false
namespace Go.Proofs.YtoclajfeeebbbadGreatDoor.E
open Go.RowKit
variable [LaidFacts]
section
variable {P:Program}
/-- The first argument, one cell. -/
theorem Inv.arg0 {x : PC} {rest : List PV} {vals : Array Value} {w : World} {r : Rs} {n m : Nat} {bx : List (List PC)} {fx : List Nat} (h : Inv P ⟨n, enum 0 (⟨.one, [x]⟩ :: rest), bx, m, fx⟩ ⟨vals, []⟩ w r) :
    ∃ v,vals[0]? = some v ∧ RepC P w r ⟨n,enum 0 (⟨.one,[x]⟩ :: rest),bx,m,fx⟩ (alpha ⟨vals,[]⟩ w r) x v (r.γ (.t 0 0)):=by
  have hg:(⟨n,enum 0 (⟨.one,[x]⟩ :: rest),bx,m,fx⟩:St).get 0 = some ⟨.one,[x]⟩:=by
    simp [St.get,look_enum]
  obtain ⟨v,k1,k2⟩:=h.tm 0 _ hg
  have hc:=h.cell (.t 0 0) x (by simp [St.at,hg])
  have ha:alpha ⟨vals,[]⟩ w r (.t 0 0) = v:=by
    have:vals[0]? = some v:=k1
    simp only [alpha,Array.getD_eq_getD_getElem?,this,Option.getD_some,flat_one k2.2]; rfl
  rw [ha] at hc
  exact ⟨v,k1,hc⟩
/-- A function that reads one shared row, and hands back single values. -/
theorem Fn.ofSl {f : FuncId} {s : Nat} {xs : List (List PC)} {res : PV} {v : Value} (hfit : res.sh.fits res.cs.length v) (hcell : ∀ (c : Nat) (x : PC), res.cs[c]? = some x → ∃ u, x = .sc u ∧ u.oneCell' = true ∧ (flat v).getD c undef = u)
    (H:∀ (w:World) (Sh:Nat → Prop) (u:Value),LaidFacts.LW w Sh → (∀ g,Sh g → g < w.heap.size) → RepS w Sh (.sl s xs) u → Calls P f #[u] w fun e w'=>e = .returned v ∧ Below w.heap.size w w'):Fn P f [⟨.one,[.sl s xs]⟩] [] res []:=by
  intro vals w r hi
  obtain ⟨u,hu,hc⟩:=hi.arg0
  have hsz:vals.size = 1:=hi.sz
  obtain rfl:vals = #[u]:=by
    apply Array.ext
    · simpa using hsz
    · intro i h1 h2
      obtain rfl:i = 0:=by simp at h2; omega
      rw [Array.getElem?_eq_getElem h1] at hu
      simpa using hu
  have hrs:RepS w r.Sh (.sl s xs) u:=by
    obtain ⟨_,hc⟩:=hc
    cases hc with
    | s h=>exact h
  refine (H w r.Sh u hi.lw (fun g hg=>(hi.sh g hg).1) hrs).mono fun e w' ⟨he,hb⟩=>⟨v,⟨r.Sh,r.β,fun _=>none,r.κ⟩,he,?_,hb.os,hb.tape,hb.output,hb.size,fun g hg _=>hb.block g hg,fun _ h=>h,fun _ h=>.inl h,fun g hg=>?_,fun _ _=>rfl,rfl,bty_old fun g hg=>hb.block g hg⟩
  · have hbare:=Inv.bare (P:=P) (w:=w') (Sh:=r.Sh) (β:=r.β) (κ:=r.κ) (fun g hg=>Nat.lt_of_lt_of_le (hi.sh g hg).1 hb.size) (LaidFacts.mono (fun _ h=>h) (fun g hg=>hb.block g (hi.sh g hg).1) hi.lw) 1 #[undef] rfl
    have h1:=hbare.assign (t:=0) (v:=v) (pv:=res) (γc:=fun _=>none) ⟨Nat.zero_lt_one,rfl⟩ hfit (fun c x hx=>?_) (fun c x q hx hq=>?_) (fun _ _ h=>by cases h) (fun _ _ _ h=>by cases h)
    · have h2:=h1
      simp only [St.assign,St.get,look,St.put] at h2
      have e1:((⟨r.Sh,r.β,fun _=>none,r.κ⟩:Rs).dropT 0).setT 0 (fun _=>none) = ⟨r.Sh,r.β,fun _=>none,r.κ⟩:=by
        simp only [Rs.setT,Rs.dropT]
        congr 1
        funext p
        cases p with
        | t t c=>simp only [ite_self]
        | b b c=>rfl
      rw [e1] at h2
      exact h2
    · obtain ⟨u,rfl,h2,h3⟩:=hcell c x hx
      exact ⟨(fun q hq=>by cases hq),rfl,(by rw [h3]; exact .s (.sc h2))⟩
    · obtain ⟨u,rfl,_⟩:=hcell c x hx
      cases hq
  · rcases hg with ⟨p,hp⟩ | ⟨b,hb',_⟩
    · cases hp
    · exact absurd hb' (Nat.not_lt_zero b)
end
end Go.Proofs.YtoclajfeeebbbadGreatDoor.E
/- The engine, part AE: results of which some stand in boxes. Plain lemmas; no program. -/
set_option linter.unusedVariables false
set_option linter.unusedSectionVars false
set_option linter.unusedSimpArgs false
namespace Go.Proofs.YtoclajfeeebbbadGreatDoor.E
open Go.RowKit
variable [LaidFacts]
/-- Results: temporaries, or boxes that temporaries name. -/
def rvOf:List (Nat × Option Nat) → List ResultVar
  | []=>[]
  | (t,none) :: l=>.tmp t :: rvOf l
  | (t,some ty) :: l=>.cell t ty :: rvOf l
/-- Those in boxes are read. -/
def loadsR (P:Program):List (Nat × Option Nat) → St → Option St
  | [],st=>some st
  | (_,none) :: l,st=>loadsR P l st
  | (t,some ty) :: l,st=>match one? (st.get t),evRd P st [] (ldOp t ty),st.okB t with
    | some (.ref _ _),some ([],pv,_),true=>match noNameB t pv with
      | true=>loadsR P l (st.assign t pv)
      | false=>none
    | _,_,_=>none
section
variable {P:Program}
theorem loadVar_of {a:Act} {w:World} {v:Value} {A:Addr} {t ty:Nat} (hA:a.tmps.getD t undef = .pointer (some A)) (hl:(execOp a.eval (ldOp t ty)).run P w = .ok (.value v) w):(loadVar ty A).run P w = .ok v w:=by
  have h1:(Instr.loadAt ty (a.tmps.getD t undef)).run P w = .ok v w:=by
    have e:(execOp a.eval (ldOp t ty)) = (do pure (.value (← Instr.loadAt ty (a.eval (.tmp t))))):=rfl
    rw [e] at hl
    have e2:a.eval (.tmp t) = a.tmps.getD t undef:=rfl
    rw [e2] at hl
    simp only [Sem.run_bind] at hl
    generalize (Instr.loadAt ty (a.tmps.getD t undef)).run P w = x at hl ⊢
    cases x with
    | ok u w' =>
      simp only [Result.andThen_ok,Sem.run_pure,Result.ok.injEq,Next.value.injEq] at hl
      rw [hl.1,hl.2]
    | halt x w'=>simp [Result.andThen] at hl
  rw [hA] at h1
  simpa [Instr.loadAt,Instr.sureAddr] using h1
def RV (P:Program) (tmps:Array Value) (w:World) (x:Nat × Option Nat) (v:Value):Prop :=
  match x.2 with
  | none=>tmps.getD x.1 undef = v
  | some ty=>∃ A,tmps.getD x.1 undef = .pointer (some A) ∧ (loadVar ty A).run P w = .ok v w
def valsV:List Value → Value
  | [v]=>v
  | l=>.tuple l.toArray
theorem run_resultsR {fn:Func} {l:List (Nat × Option Nat)} (h:fn.results = (rvOf l).toArray) (hl:l.length ≤ 3) {tmps:Array Value} {w:World} {val:Nat → Value} (hv:∀ x ∈ l,RV P tmps w x (val x.1)):(results fn tmps).run P w = .ok (valsV (l.map fun x=>val x.1)) w:=by
  have one:∀ t v,tmps.getD t undef = v → tmps[t]?.getD undef = v:=fun t v e=>by rw [← e,Array.getD_eq_getD_getElem?]
  match l,hl with
  | [],_=>simp [results,h,rvOf,valsV]
  | [(a,x)],_ =>
    have h1:=hv (a,x) (by simp)
    cases x with
    | none=>have:=one _ _ h1; simp [results,h,rvOf,valsV,this]
    | some ty=>obtain ⟨A,hA,h1⟩:=h1; have:=one _ _ hA; simp [results,h,rvOf,valsV,this,asAddr,h1]
  | [(a,x),(b,y)],_ =>
    have h1:=hv (a,x) (by simp)
    have h2:=hv (b,y) (by simp)
    cases x with
    | none =>
      have e1:=one _ _ h1
      cases y with
      | none=>have e2:=one _ _ h2; simp [results,h,rvOf,valsV,e1,e2]
      | some ty=>obtain ⟨A,hA,h2⟩:=h2; have e2:=one _ _ hA; simp [results,h,rvOf,valsV,e1,e2,asAddr,h2]
    | some ty =>
      obtain ⟨A,hA,h1⟩:=h1
      have e1:=one _ _ hA
      cases y with
      | none=>have e2:=one _ _ h2; simp [results,h,rvOf,valsV,e1,e2,asAddr,h1]
      | some ty=>obtain ⟨A,hA,h2⟩:=h2; have e2:=one _ _ hA; simp [results,h,rvOf,valsV,e1,e2,asAddr,h1,h2]
  | [(a,x),(b,y),(c,z)],_ =>
    have h1:=hv (a,x) (by simp)
    have h2:=hv (b,y) (by simp)
    have h3:=hv (c,z) (by simp)
    cases x with
    | none =>
      have e1:=one _ _ h1
      cases y with
      | none =>
        have e2:=one _ _ h2
        cases z with
        | none=>have e3:=one _ _ h3; simp [results,h,rvOf,valsV,e1,e2,e3]
        | some ty=>obtain ⟨A,hA,h3⟩:=h3; have e3:=one _ _ hA; simp [results,h,rvOf,valsV,e1,e2,e3,asAddr,h3]
      | some ty =>
        obtain ⟨A,hA,h2⟩:=h2
        have e2:=one _ _ hA
        cases z with
        | none=>have e3:=one _ _ h3; simp [results,h,rvOf,valsV,e1,e2,e3,asAddr,h2]
        | some ty=>obtain ⟨A,hA,h3⟩:=h3; have e3:=one _ _ hA; simp [results,h,rvOf,valsV,e1,e2,e3,asAddr,h2,h3]
    | some ty =>
      obtain ⟨A,hA,h1⟩:=h1
      have e1:=one _ _ hA
      cases y with
      | none =>
        have e2:=one _ _ h2
        cases z with
        | none=>have e3:=one _ _ h3; simp [results,h,rvOf,valsV,e1,e2,e3,asAddr,h1]
        | some ty=>obtain ⟨A,hA,h3⟩:=h3; have e3:=one _ _ hA; simp [results,h,rvOf,valsV,e1,e2,e3,asAddr,h1,h3]
      | some ty =>
        obtain ⟨A,hA,h2⟩:=h2
        have e2:=one _ _ hA
        cases z with
        | none=>have e3:=one _ _ h3; simp [results,h,rvOf,valsV,e1,e2,e3,asAddr,h1,h2]
        | some ty=>obtain ⟨A,hA,h3⟩:=h3; have e3:=one _ _ hA; simp [results,h,rvOf,valsV,e1,e2,e3,asAddr,h1,h2,h3]
  | _ :: _ :: _ :: _ :: _,hl=>simp at hl
theorem loads_spec : ∀ (l : List (Nat × Option Nat)) {st st2 : St} {a : Act} {w : World} {r : Rs}, Inv P st a w r → loadsR P l st = some st2 → (l.map Prod.fst).Nodup →
    ∃ a2 r2,Inv P st2 a2 w r2 ∧ st2.bx = st.bx ∧ st2.m = st.m ∧ st2.n = st.n ∧ st2.fx = st.fx ∧ r2.Sh = r.Sh ∧ r2.β = r.β ∧ r2.κ = r.κ ∧ (∀ p g,r2.γ p = some g → r.γ p = some g) ∧ a2.defers = a.defers ∧
      (∀ x ∈ l,RV P a.tmps w x (a2.tmps.getD x.1 undef)) ∧ ∀ t,t ∉ l.map Prod.fst → a2.tmps.getD t undef = a.tmps.getD t undef
  | [],st,st2,a,w,r,hi,h,hd=>by
    simp only [loadsR,Option.some.injEq] at h
    subst h
    exact ⟨a,r,hi,rfl,rfl,rfl,rfl,rfl,rfl,rfl,fun _ _ h=>h,rfl,fun _ h=>(by cases h),fun _ _=>rfl⟩
  | (t,none) :: l,st,st2,a,w,r,hi,h,hd=>by
    simp only [loadsR] at h
    simp only [List.map_cons,List.nodup_cons] at hd
    obtain ⟨a2,r2,h1,h2,h3,h4,h5,h6,h7,h8,h9,h10,h11,h12⟩:=loads_spec l hi h hd.2
    refine ⟨a2,r2,h1,h2,h3,h4,h5,h6,h7,h8,h9,h10,fun x hx=>?_,fun t' ht=>h12 t' fun hm=>ht (List.mem_cons_of_mem _ hm)⟩
    rcases List.mem_cons.1 hx with rfl | hx
    · exact (h12 t hd.1).symm
    · exact h11 x hx
  | (t,some ty) :: l,st,st2,a,w,r,hi,h,hd=>by
    simp only [loadsR] at h
    simp only [List.map_cons,List.nodup_cons] at hd
    split at h
    · rename_i b off pv hs0 h0 h1 hok
      split at h
      · rename_i hno
        obtain ⟨v,hrun,hhas⟩:=evRd_spec h1 trivial a w r hi
        have hA:a.tmps.getD t undef = .pointer (some ⟨r.β b,off,none⟩):=(hi.has (one?_eq h0)).out_ref
        have hlv:=loadVar_of hA hrun
        have hi2:=hi.assign_has (St.okB_spec hok) hno hhas
        obtain ⟨a2,r2,g1,g2,g3,g4,g5,g6,g7,g8,g9,g10,g11,g12⟩:=loads_spec l hi2 h hd.2
        have htm:∀ t',t' ≠ t → (a.put (some t) v).tmps.getD t' undef = a.tmps.getD t' undef:=fun t' ht=>by
          simp only [Act.put,Array.getD_eq_getD_getElem?]
          rw [Array.getElem?_setIfInBounds_ne (fun e=>ht e.symm)]
        have hlt:t < a.tmps.size:=by rw [hi.sz]; exact (St.okB_spec hok).1
        have htv:a2.tmps.getD t undef = v:=by
          rw [g12 t hd.1]
          simp [Act.put,Array.getD_eq_getD_getElem?,hlt]
        refine ⟨a2,r2,g1,by rw [g2,St.assign_bx],by rw [g3,St.assign_m],by rw [g4,St.assign_n],by rw [g5,St.assign_fx],g6,g7,g8,fun p g hp=>?_,g10,fun x hx=>?_,fun t' ht=>?_⟩
        · have:=g9 p g hp
          cases p with
          | t k c =>
            simp only [Rs.setT,Rs.dropT] at this
            split at this
            · cases this
            · split at this
              · cases this
              · exact this
          | b b c=>simpa [Rs.setT,Rs.dropT,Place.isT] using this
        · rcases List.mem_cons.1 hx with rfl | hx
          · refine ⟨_,hA,?_⟩
            rw [htv]
            exact hlv
          · have hne:x.1 ≠ t:=fun e=>hd.1 (e ▸ List.mem_map_of_mem (f:=Prod.fst) hx)
            have:=g11 x hx
            unfold RV at this ⊢
            rw [htm x.1 hne] at this
            exact this
        · have hne:t' ≠ t:=fun e=>ht (e ▸ List.mem_cons_self ..)
          rw [g12 t' fun hm=>ht (List.mem_cons_of_mem _ hm),htm t' hne]
      · cases h
    · cases h
/-- What a body must end in, when results stand in boxes. -/
def EndsR (P:Program) (rv:List (Nat × Option Nat)) (keep:List Nat) (res:PV) (kcs:List PC) (bx':List (List PC)) (e:Exit) (st':St):Prop :=
  (e = .normal ∨ e = .ret) ∧ ∃ st2,loadsR P rv st' = some st2 ∧ EndsG (rv.map Prod.fst) keep res kcs bx' e st2
theorem resV_vals {tmps:Array Value}:∀ {l:List Nat},resV tmps l = valsV (l.map fun t=>tmps.getD t undef)
  | []=>rfl
  | [_]=>rfl
  | _ :: _ :: _=>rfl
theorem FnG.bodyR {f : FuncId} {fn : Func} {c : Code} {args : List PV} {keep : List Nat} {kcs : List PC} {bx bx' : List (List PC)} {res : PV} {rv : List (Nat × Option Nat)} (hf : P.funcs[f]? = some fn) (hb : fn.body = some c) (hres : fn.results = (rvOf rv).toArray) (hl : rv.length ≤ 3) (hnd : (rv.map Prod.fst ++ keep).Nodup)
    (hn:args.length ≤ fn.ntmps) (hk:keep.all (fun j=>Nat.ble (j + 1) args.length) = true) (hbl:bx.length ≤ bx'.length) (h:Tri P c (EndsR P rv keep res kcs bx') ⟨fn.ntmps,enum 0 args,bx,bx.length,keep⟩):FnG P f args keep bx res kcs bx':=by
  intro vals w r hi
  have hsz:vals.size = args.length:=hi.sz
  refine calls_of_wp hf hb ?_
  have hstart:Inv P ⟨fn.ntmps,enum 0 args,bx,bx.length,keep⟩ ⟨vals ++ Array.replicate (fn.ntmps - vals.size) undef,[]⟩ w r:=by
    have hal:∀ p,(⟨args.length,enum 0 args,bx,bx.length,keep⟩:St).ex p → alpha ⟨vals ++ Array.replicate (fn.ntmps - vals.size) undef,[]⟩ w r p = alpha ⟨vals,[]⟩ w r p:=by
      intro p hp
      cases p with
      | t t c =>
        obtain ⟨pv,hp⟩:=hp
        obtain ⟨v,h1,_⟩:=hi.tm t pv hp
        have hlt:t < vals.size:=(Array.getElem?_eq_some_iff.1 h1).1
        simp only [alpha,Array.getD_eq_getD_getElem?]
        rw [Array.getElem?_append_left hlt]
      | b b c=>rfl
    have hex:∀ p x,(⟨fn.ntmps,enum 0 args,bx,bx.length,keep⟩:St).at p = some x → (⟨args.length,enum 0 args,bx,bx.length,keep⟩:St).ex p:=by
      intro p x hx
      cases p with
      | t t c=>obtain ⟨pv,h1,_⟩:=St.at_tmp hx; exact ⟨pv,h1⟩
      | b b c=>exact (St.at_box hx).1
    refine ⟨by simp; omega,Nat.le_refl _,fun t pv ht=>?_,hi.bx,fun p x hx=>?_,hi.nm,hi.live,hi.inj,hi.exb,hi.bb,hi.sh,rfl,hi.lw,fun t ht=>?_⟩
    · obtain ⟨v,h1,h2⟩:=hi.tm t pv ht
      exact ⟨v,by rw [Array.getElem?_append_left (Array.getElem?_eq_some_iff.1 h1).1]; exact h1,h2⟩
    · rw [hal p (hex p x hx)]
      exact (hi.cell p x hx).mono (fun _ h=>h) (fun _ _=>rfl) (fun _ _=>rfl) (fun b hb=>⟨hb,rfl⟩) (fun q hq hl=>⟨hl,hal q (hi.nm p x q hx hq)⟩)
    · have h1:=hi.fx t ht
      show (vals ++ Array.replicate (fn.ntmps - vals.size) undef)[t]? = _
      rw [Array.getElem?_append_left (Array.getElem?_eq_some_iff.1 h1).1]; exact h1
  refine Code.wp_mono (fun e a' w' k=>?_) (h _ w r hstart)
  obtain ⟨st1,r1,⟨he,st',hld,_,hr,hfr,hle,htake,hbf,hfx⟩,hm1,hinv1,hstep1⟩:=k
  obtain ⟨a2,r',hinv,hbx,hm2,hn2,hfx2,hSh,hβ,hκ,hγ,hdf,hvals,hother⟩:=loads_spec rv hinv1 hld (List.nodup_append.1 hnd).1
  have hstep:Step bx.length w r bx.length w' r' st'.bx.length:=by
    refine hstep1.trans ⟨rfl,rfl,rfl,Nat.le_refl _,fun _ _ _=>rfl,fun g hg=>hSh ▸ hg,fun g hg=>.inl (hSh ▸ hg),fun g hg=>.inl ?_,fun b _=>by rw [hβ],hκ,fun _ _ h=>h⟩
    rcases hg with ⟨p,hp⟩ | ⟨b,hb,hbe⟩
    · exact .inl ⟨p,hγ p g hp⟩
    · exact .inr ⟨b,by rw [← hbx]; exact hb,by rw [← hβ]; exact hbe⟩
  obtain ⟨r'',h1,h2,h3,h5,h4⟩:=hinv.leaveG hr (by rw [List.flatten_cons,flat1]; exact hnd) hle hfr (by rw [htake]; exact fun cs hcs=>List.all_eq_true.1 hbf cs hcs)
  rw [htake] at h1
  have hstep':Step bx.length w r bx.length w' r'' bx'.length:=by
    refine hstep.trans ⟨rfl,rfl,rfl,Nat.le_refl _,fun _ _ _=>rfl,fun g hg=>h2 ▸ hg,fun g hg=>.inl (h2 ▸ hg),fun g hg=>.inl (h4 g hg),fun b _=>by rw [h3],h5,fun _ _ h=>h⟩
  have hkeep:((rv.map Prod.fst) :: keep.map fun j=>[j]).map (resV a2.tmps) = resV a2.tmps (rv.map Prod.fst) :: keep.map fun j=>vals.getD j undef:=by
    simp only [List.map_cons,List.map_map,List.cons.injEq,true_and]
    refine List.map_congr_left fun j hj=>?_
    have hin:inB j keep = true:=inB_mem hj
    have e1:a2.tmps[j]? = some (r'.κ j):=hinv.fx j (by rw [hfx]; exact hin)
    have e2:vals[j]? = some (r.κ j):=hi.fx j hin
    have e3:r'.κ = r.κ:=hstep.κ
    simp only [Function.comp_apply,resV,Array.getD_eq_getD_getElem?,e1,e2,e3]
  have hlen1:((rv.map Prod.fst) :: keep.map fun j=>[j]).length = keep.length + 1:=by simp
  rw [hkeep,hlen1] at h1
  have hrun:=run_resultsR (P:=P) hres hl (val:=fun t=>a2.tmps.getD t undef) hvals
  rw [show (rv.map fun x=>a2.tmps.getD x.1 undef) = (rv.map Prod.fst).map fun t=>a2.tmps.getD t undef by rw [List.map_map]; rfl,← resV_vals] at hrun
  have hd1:a'.defers = []:=by rw [← hdf]; exact hinv.defers
  rcases he with rfl | rfl
  · exact ⟨hd1,_,hrun,_,r'',rfl,h1,hstep'⟩
  · exact ⟨hd1,_,hrun,_,r'',rfl,h1,hstep'⟩
end
/-- The end of a body, results in boxes. -/
theorem endsR {P : Program} {rv : List (Nat × Option Nat)} {keep : List Nat} {res : PV} {kcs : List PC} {bx' : List (List PC)} {e : Exit} {st' : St} (he : e = .normal ∨ e = .ret)
    (h:(loadsR P rv st').map (fun st2=>(mapO (resultsOf st2) (rv.map Prod.fst :: keep.map fun j=>[j]),(res :: kept kcs).all (fun pv=>pv.cs.all (·.free bx'.length)),Nat.ble bx'.length st2.bx.length,st2.bx.take bx'.length,bx'.all (fun cs=>cs.all (·.free bx'.length)),st2.fx)) = some (some (res :: kept kcs),true,true,bx',true,keep)):EndsR P rv keep res kcs bx' e st':=by
  obtain ⟨st2,h1,h2⟩:=Option.map_eq_some_iff.1 h
  simp only [Prod.mk.injEq] at h2
  obtain ⟨g1,g2,g3,g4,g5,g6⟩:=h2
  exact ⟨he,st2,h1,he,g1,g2,Nat.le_of_ble_eq_true g3,g4,g5,g6⟩
end Go.Proofs.YtoclajfeeebbbadGreatDoor.E
/- The engine, part AF: shorter words for printed proofs. Plain lemmas; no program. -/
set_option linter.unusedVariables false
set_option linter.unusedSectionVars false
set_option linter.unusedSimpArgs false
namespace Go.Proofs.YtoclajfeeebbbadGreatDoor.E
open Go.RowKit
variable [LaidFacts]
/-- What the evaluator is told of an operation, and the proofs of what it then asks. -/
structure Hp where
  i:Nat
  h:List Hint
  q:List Prop
  p:AllP q
def hs1 (i:Nat):List Hint → Hs → Hs
  | [],r=>r
  | h :: l,r=>(i,h) :: hs1 i l r
def hsOf:List Hp → Hs
  | []=>[]
  | x :: l=>hs1 x.i x.h (hsOf l)
def qsOf:List Hp → List Prop
  | []=>[]
  | x :: l=>x.q ++ qsOf l
theorem AllP_app:∀ {l m:List Prop},AllP l → AllP m → AllP (l ++ m)
  | [],_,_,h=>h
  | _ :: _,_,h,k=>⟨h.1,AllP_app h.2 k⟩
theorem qsOf_all:∀ l:List Hp,AllP (qsOf l)
  | []=>trivial
  | x :: l=>AllP_app x.p (qsOf_all l)
def q0 (i:Nat) (h:Hint):Hp:=⟨i,[h],[],trivial⟩
def q1 (i:Nat) (h:Hint) {a:Prop} (p:a):Hp:=⟨i,[h],[a],⟨p,trivial⟩⟩
def q2 (i:Nat) (h:Hint) {a b:Prop} (p:a) (q:b):Hp:=⟨i,[h],[a,b],⟨p,q,trivial⟩⟩
def q3 (i:Nat) (h:Hint) {a b c:Prop} (p:a) (q:b) (r:c):Hp:=⟨i,[h],[a,b,c],⟨p,q,r,trivial⟩⟩
def q4 (i:Nat) (h:Hint) {a b c d:Prop} (p:a) (q:b) (r:c) (s:d):Hp:=⟨i,[h],[a,b,c,d],⟨p,q,r,s,trivial⟩⟩
def p1 {a:Prop} (p:a):Hp:=⟨0,[],[a],⟨p,trivial⟩⟩
def p2 {a b:Prop} (p:a) (q:b):Hp:=⟨0,[],[a,b],⟨p,q,trivial⟩⟩
def p3 {a b c:Prop} (p:a) (q:b) (r:c):Hp:=⟨0,[],[a,b,c],⟨p,q,r,trivial⟩⟩
/-- An element of a row. -/
def hF (i:Nat) {α:Type} (f:α → List PC) {l:List α} {j:Int} {x:α} (h:at? l j = some x):Hp:=⟨i,[.el (f x)],[(l.map f)[j.toNat]? = some (f x)],⟨at?_map h,trivial⟩⟩
def hE (i:Nat) {α:Type} (f:α → List PC) {l:List α} {j:Int} {x:α} (h:at? l j = some x):Hp:=⟨i,[.el (f x)],[0 ≤ j,(l.map f)[j.toNat]? = some (f x)],⟨at?_0 h,at?_map h,trivial⟩⟩
def hL (i:Nat) {α:Type} (f:α → List PC) (l:List α):Hp:=⟨i,[.ov [.sc (.int .i64 (l.length:Int))]],[[PC.sc (.int .i64 ((l.map f).length:Int))] = [PC.sc (.int .i64 (l.length:Int))]],⟨ovlen,trivial⟩⟩
def hB (i:Nat) {b c:Bool} (h:b = c):Hp:=⟨i,[.ov [.sc (.bool c)]],[[PC.sc (.bool b)] = [PC.sc (.bool c)]],⟨ovb h,trivial⟩⟩
/-- A row that grows. -/
def hA (i:Nat) {α:Type} (e:TypeId) (f:α → List PC) {l m:List α} {b:Nat} (h:(l ++ m).length * b ≤ 140737488355328) (hb:1 ≤ b:=by decide):Hp :=
  ⟨i,[.ov [.own e ((l ++ m).map f)]],[(l.map f).length + (m.map f).length ≤ 9223372036854775807,((l.map f).length + (m.map f).length) * b ≤ 140737488355328,[PC.own e (l.map f ++ m.map f)] = [PC.own e ((l ++ m).map f)]],⟨app1 hb h,app2 h,ovapp,trivial⟩⟩
def hT (i:Nat) (e:TypeId) {l:List Int} {s:ByteArray} {b:Nat} (h:(l ++ bytesOf s).length * b ≤ 140737488355328) (hb:1 ≤ b:=by decide):Hp :=
  ⟨i,[.ov [.own e ((l ++ bytesOf s).map (eK .u8))]],[(l.map (eK .u8)).length + (strRow s).length ≤ 9223372036854775807,((l.map (eK .u8)).length + (strRow s).length) * b ≤ 140737488355328,[PC.own e (l.map (eK .u8) ++ strRow s)] = [PC.own e ((l ++ bytesOf s).map (eK .u8))]],⟨appS1 hb h,appS2 h,ovappS,trivial⟩⟩
/-- An element that is stored. -/
def hW (i:Nat) (p:Place) {α:Type} (e:TypeId) (f:α → List PC) {l:List α} {j:Int} {x:α} (h:at? l j = some x) (t:α):Hp :=
  ⟨i,[.el (f x),.ovp p (.own e ((l.set j.toNat t).map f))],[(l.map f)[j.toNat]? = some (f x),PC.own e ((l.map f).set j.toNat (f t)) = PC.own e ((l.set j.toNat t).map f)],⟨at?_map h,ovset,trivial⟩⟩
/-- Calls. -/
def hC (i:Nat) {P:Program} {f:FuncId} {as:List PV} {res:PV} (h:Fn P f as [] res []) (hf:res.cs.all PC.flatB = true:=by rfl):Hp:=⟨i,[.call res [] false],[Fn P f as [] res [],res.cs.all PC.flatB = true],⟨h,hf,trivial⟩⟩
def hS (i:Nat) (ns:List Nat) {P:Program} {f:FuncId} {as:List PV} {res:PV} (h:Fn P f as [] res []):Hp:=⟨i,[.call res ns true],[Fn P f as [] res []],⟨h,trivial⟩⟩
def hG (i:Nat) (ns bs:List Nat) (ko:Option (Nat × Place)) {P:Program} {f:FuncId} {as:List PV} {bx:List (List PC)} {res:PV} {kcs:List PC} {bx':List (List PC)} (h:FnG P f as (keepOf ko) bx res kcs bx'):Hp :=
  ⟨i,[.callB res ns bs ko kcs bx'],[FnG P f as (keepOf ko) bx res kcs bx'],⟨h,trivial⟩⟩
section
variable {P:Program} {st:St}
/-- The state behind, as it is computed. -/
def nx (x:Option (List Prop × St)):St:=match x with
  | some y=>y.2
  | none=>⟨0,[],[],0,[]⟩
theorem nx_eq {x:Option (List Prop × St)} {q:List Prop} (h:x.map (·.1) = some q):x = some (q,nx x):=by
  cases x with
  | none=>cases h
  | some y=>cases h; rfl
def nf (x:Option St):St:=x.getD ⟨0,[],[],0,[]⟩
theorem nf_eq {x:Option St} (h:x.isSome = true):x = some (nf x):=by
  cases x with
  | none=>cases h
  | some y=>rfl
theorem nd {α:Type} {c:Prop} [Decidable c] {x:Option α} {r:α} (h:(if c then x else none) = some r):c ∧ x = some r:=need_some h
theorem bs {α β:Type} {x:Option α} {f:α → Option β} {r:β} (h:x.bind f = some r):∃ v,x = some v ∧ f v = some r:=Option.bind_eq_some_iff.1 h
theorem si {α:Type} {x y:α} (h:some x = some y):x = y:=Option.some.inj h
theorem xi {id:Nat} {Q:Exit → St → Prop} (h:Q (.exit id) st):Tri P (.exit id) Q st:=Tri.exit h
theorem sq {x y:Code} {Q:Exit → St → Prop} (h:Tri P x (Ex (Tri P y Q) Q) st):Tri P (.seq x y) Q st:=Tri.seq h
theorem sk {Q:Exit → St → Prop} (h:Q .normal st):Tri P .skip Q st:=Tri.skip h
theorem bl {id:Nat} {c:Code} {Q:Exit → St → Prop} (h:Tri P c (Bk id Q) st):Tri P (.block id c) Q st:=Tri.block h
theorem rn {id : Nat} {l : List Oper} {y : Code} {Q : Exit → St → Prop} (ts : List Nat) (nb : Nat) (fx : List Fix) (hp : List Hp) (hy : Tri P y Q (nx (evR P l ts nb fx st (hsOf hp)))) (h : (evR P l ts nb fx st (hsOf hp)).map (·.1) = some (qsOf hp) := by kernel_rfl) :
    Tri P (.seq (.region id l.toArray false) y) Q st:=Tri.rn ts nb fx _ _ _ (qsOf_all hp) hy (nx_eq h)
theorem rx {id : Nat} {l : List Oper} {y : Code} {Q : Exit → St → Prop} (ts : List Nat) (nb : Nat) (fx : List Fix) (hp : List Hp) (st' : St) (hy : Tri P y Q st') (h : evR P l ts nb fx st (hsOf hp) = some (qsOf hp, st') := by kernel_rfl) :
    Tri P (.seq (.region id l.toArray false) y) Q st:=Tri.rn ts nb fx _ _ _ (qsOf_all hp) hy h
theorem rl {id : Nat} {l : List Oper} {Q : Exit → St → Prop} (ts : List Nat) (nb : Nat) (fx : List Fix) (hp : List Hp) (hy : Q .normal (nx (evR P l ts nb fx st (hsOf hp)))) (h : (evR P l ts nb fx st (hsOf hp)).map (·.1) = some (qsOf hp) := by kernel_rfl) :
    Tri P (.region id l.toArray false) Q st:=Tri.r1 ts nb fx _ _ _ (qsOf_all hp) hy (nx_eq h)
theorem dn {id : Nat} {l : List Oper} {y : Code} {Q : Exit → St → Prop} (hm : P.follows .mixedOrders = true) (k : Nat) (A : List (List Nat)) (ts : List Nat) (nb : Nat) (fx : List Fix) (hp : List Hp) (hy : Tri P y Q (nx (evRD P l k A ts nb fx st (hsOf hp)))) (h : (evRD P l k A ts nb fx st (hsOf hp)).map (·.1) = some (qsOf hp) := by kernel_rfl) :
    Tri P (.seq (.region id l.toArray true) y) Q st:=Tri.dn hm k A ts nb fx _ _ _ (qsOf_all hp) hy (nx_eq h)
theorem dx {id : Nat} {l : List Oper} {y : Code} {Q : Exit → St → Prop} (hm : P.follows .mixedOrders = true) (k : Nat) (A : List (List Nat)) (ts : List Nat) (nb : Nat) (fx : List Fix) (hp : List Hp) (st' : St) (hy : Tri P y Q st') (h : evRD P l k A ts nb fx st (hsOf hp) = some (qsOf hp, st') := by kernel_rfl) :
    Tri P (.seq (.region id l.toArray true) y) Q st:=Tri.dn hm k A ts nb fx _ _ _ (qsOf_all hp) hy h
theorem dl {id : Nat} {l : List Oper} {Q : Exit → St → Prop} (hm : P.follows .mixedOrders = true) (k : Nat) (A : List (List Nat)) (ts : List Nat) (nb : Nat) (fx : List Fix) (hp : List Hp) (hy : Q .normal (nx (evRD P l k A ts nb fx st (hsOf hp)))) (h : (evRD P l k A ts nb fx st (hsOf hp)).map (·.1) = some (qsOf hp) := by kernel_rfl) :
    Tri P (.region id l.toArray true) Q st:=Tri.d1 hm k A ts nb fx _ _ _ (qsOf_all hp) hy (nx_eq h)
/-! Regions whose order is drawn, with effects among those that float: what must be alike is told by place. -/
def hr {α:Type} (x:α):Hp:=⟨0,[],[x = x],⟨rfl,trivial⟩⟩
def hn (h:Hp):Hp:=⟨0,[],h.3,h.4⟩
def gB (B:List St) (p:Nat):St:=B.getD p ⟨0,[],[],0,[]⟩
def gD (D:List (Nat × PV)) (i:Nat):PV:=(D.getD i (0,anyPV)).2
def ht (D:List (Nat × PV)) (i:Nat):Hp:=hr (gD D i)
def hz (B:List St) (p:Nat):Hp:=hr ((gB B p).n,(gB B p).m,(gB B p).fx)
def hx (B:List St) (p b:Nat):Hp:=hr ((gB B (p + 1)).bx[b]?)
def mB (A:List (List Nat)) (D:List (Nat × PV)) (B:List St) (p i:Nat):St:=(gB B (p + 1)).sig D fun j=>inB j (A.getD i []) || Nat.beq j i
def hm (A:List (List Nat)) (D:List (Nat × PV)) (B:List St) (p i:Nat) (K:List Nat):Hp:=hr (pickK (mB A D B p i).tm K,(mB A D B p i).bx,(mB A D B p i).n,(mB A D B p i).m,(mB A D B p i).fx)
def deR (P:Program) (l:List Oper) (A:List (List Nat)) (E:List Nat) (Bs:List St) (D:List (Nat × PV)) (st:St) (hs hs2:Hs) (ts:List Nat) (nb:Nat) (fx:List Fix):Option (List Prop × St) :=
  match evDE P l A E Bs D st hs hs2 with
  | some (c,s,[])=>(match fin P ts nb fx s with
    | some s'=>some (c,s')
    | none=>none)
  | _=>none
abbrev HF:=List (List Nat) → List (Nat × PV) → List St → List Hp × List Hp
theorem deN {id : Nat} {l : List Oper} {y : Code} {Q : Exit → St → Prop} (hmx : P.follows .mixedOrders = true) (A : List (List Nat)) (E : List Nat) (Bs : List St) (D : List (Nat × PV)) (ts : List Nat) (nb : Nat) (fx : List Fix) (hp : HF)
    (hy:Tri P y Q (nx (deR P l A E Bs D st (hsOf (hp A D (st :: Bs)).1) (hsOf (hp A D (st :: Bs)).2) ts nb fx)))
    (h:(deR P l A E Bs D st (hsOf (hp A D (st :: Bs)).1) (hsOf (hp A D (st :: Bs)).2) ts nb fx).map (·.1) = some (qsOf (hp A D (st :: Bs)).1 ++ qsOf (hp A D (st :: Bs)).2):=by kernel_rfl):Tri P (.seq (.region id l.toArray true) y) Q st :=
  Tri.dEn hmx A E Bs D ts nb fx _ _ _ _ (AllP_app (qsOf_all _) (qsOf_all _)) hy (nx_eq h)
theorem deL {id : Nat} {l : List Oper} {Q : Exit → St → Prop} (hmx : P.follows .mixedOrders = true) (A : List (List Nat)) (E : List Nat) (Bs : List St) (D : List (Nat × PV)) (ts : List Nat) (nb : Nat) (fx : List Fix) (hp : HF)
    (hy:Q .normal (nx (deR P l A E Bs D st (hsOf (hp A D (st :: Bs)).1) (hsOf (hp A D (st :: Bs)).2) ts nb fx)))
    (h:(deR P l A E Bs D st (hsOf (hp A D (st :: Bs)).1) (hsOf (hp A D (st :: Bs)).2) ts nb fx).map (·.1) = some (qsOf (hp A D (st :: Bs)).1 ++ qsOf (hp A D (st :: Bs)).2):=by kernel_rfl):Tri P (.region id l.toArray true) Q st :=
  Tri.dE hmx A E Bs D ts nb fx _ _ _ _ (AllP_app (qsOf_all _) (qsOf_all _)) hy (nx_eq h)
theorem fx {c:Code} {Q:Exit → St → Prop} (ts:List Nat) (nb:Nat) (l:List Fix) (hy:Tri P c Q (nf (fin P ts nb l st))) (h:(fin P ts nb l st).isSome = true:=by kernel_rfl):Tri P c Q st:=Tri.fix ts nb l _ hy (nf_eq h)
/-- What another temporary owns is this one's from here on. -/
theorem gv {c:Code} {Q:Exit → St → Prop} (d n:Nat) (hy:Tri P c Q (giveAll d n 0 st)):Tri P c Q st:=Tri.turn (Turns.giveAll d n 0 st) hy
/-! The last box is shared from now on: what named it names memory that nobody writes. -/
def cvC (n:Nat) (cs:List PC):PC → PC
  | .ref b off=>match Nat.beq b n with
    | true=>.cel cs off
    | false=>.ref b off
  | x=>x
def cvF (n:Nat) (cs:List PC):PC → PC
  | .fn f caps=>.fn f (caps.map (cvC n cs))
  | x=>cvC n cs x
theorem cvF_names {n:Nat} {cs:List PC} {y:PC} {q:Place} (h:(cvF n cs y).names = some q):y.names = some q:=by
  cases y
  case ref b off =>
    simp only [cvF,cvC] at h
    split at h <;> cases h
  all_goals exact h
def frzBB (st:St):Option St :=
  match st.bx.length with
  | 0=>none
  | n + 1=>match st.bx[n]? with
    | some cs=>match cs.all PC.plain && cutB { st with tm:=mapL (cvF n cs) st.tm } n with
      | true=>some { st with tm:=mapL (cvF n cs) st.tm,bx:=st.bx.take n }
      | false=>none
    | none=>none
theorem RepF.cv {w : World} {Sh Sh' : Nat → Prop} {β : Nat → Nat} {n : Nat} {cs : List PC} {x : PC} {v : Value} (hcel : ∀ off, RepS w Sh' (.cel cs off) (.pointer (some ⟨β n, off, none⟩))) (hS : ∀ g, Sh g → Sh' g)
    (h:RepF w Sh β (n + 1) x v) (hk:∀ T u b off,x = .opt T u b off → b < n) (hf:∀ f caps,x ≠ .fn f caps):RepF w Sh' β n (cvC n cs x) v:=by
  cases x
  case ref b off =>
    cases h with
    | s h=>cases h
    | ref hlt =>
      by_cases e:b = n
      · subst e
        simp only [cvC,Nat.beq_refl]
        exact .s (hcel off)
      · have:Nat.beq b n = false:=by rw [Bool.eq_false_iff]; exact fun h=>e (Nat.eq_of_beq_eq_true h)
        simp only [cvC,this]
        exact .ref (by omega)
  case opt T u b off =>
    cases h with
    | s h=>cases h
    | opt hlt ht=>exact .opt (hk _ _ _ _ rfl) ht
  case fn f caps=>exact absurd rfl (hf f caps)
  all_goals
    cases h with
    | s h=>exact .s (h.mono hS (fun _ _=>rfl))
theorem RepF.cvf {w : World} {Sh Sh' : Nat → Prop} {β : Nat → Nat} {n : Nat} {cs : List PC} {x : PC} {v : Value} (hcel : ∀ off, RepS w Sh' (.cel cs off) (.pointer (some ⟨β n, off, none⟩))) (hS : ∀ g, Sh g → Sh' g)
    (h:RepF w Sh β (n + 1) x v) (hk:(cvF n cs x).okN n = true):RepF w Sh' β n (cvF n cs x) v:=by
  cases x
  case fn f caps =>
    simp only [cvF,PC.okN,List.all_map,List.all_eq_true,Function.comp_apply] at hk
    simp only [cvF]
    have key:∀ (vs:Array Value),vs.size = caps.length → (∀ (j:Nat) (x:PC) (v:Value),caps[j]? = some x → vs[j]? = some v → RepF w Sh β (n + 1) x v) → RepF w Sh' β n (.fn f (caps.map (cvC n cs))) (.func (.func f) #[] vs):=fun vs hn hr =>
      .fn (by simpa using hn) fun j x v hj hv=>by
        rw [List.getElem?_map] at hj
        obtain ⟨y,hy,rfl⟩:=Option.map_eq_some_iff.1 hj
        have hky:=hk y (List.mem_of_getElem? hy)
        exact (hr j y v hy hv).cv hcel hS (fun T u b off e=>by subst e; simp [cvC] at hky) (fun f' c' e=>by subst e; simp [cvC] at hky)
    cases h with
    | s h=>cases h with
      | fn hn hr=>exact key _ hn fun j x v hj hv=>.s (hr j x v hj hv)
    | fn hn hr=>exact key _ hn hr
  case opt T u b off=>exact h.cv hcel hS (fun T u b off e=>by cases e; exact Nat.le_of_ble_eq_true hk) (fun _ _ e=>by cases e)
  all_goals exact h.cv hcel hS (fun _ _ _ _ e=>by cases e) (fun _ _ e=>by cases e)
theorem Turns.frzB {st st':St} (h:frzBB st = some st'):Turns P st st':=by
  unfold frzBB at h
  split at h
  · cases h
  rename_i n hlen
  split at h
  · rename_i cs hb
    split at h
    · rename_i hc
      obtain rfl:=Option.some.inj h
      simp only [Bool.and_eq_true,cutB] at hc
      obtain ⟨hpl,⟨⟨hm,_⟩,ht⟩,hbx⟩:=hc
      have hm:=Nat.le_of_ble_eq_true hm
      intro a w r hi
      obtain ⟨⟨vals,e,hv1,hv2,hv3⟩,_⟩:=hi.bx n cs hb
      have hl1:(st.bx.take n).length = n:=by rw [List.length_take]; omega
      have hcell:∀ j x,cs[j]? = some x → ∃ u,w.cell? ⟨r.β n,j,none⟩ = some u ∧ RepS w r.Sh x u:=by
        intro j x hj
        have hat:st.at (.b n j) = some x:=by simp [St.at,hb,hj]
        have h1:=hi.cell _ _ hat
        have hjl:j < vals.size:=by rw [hv2]; exact (List.getElem?_eq_some_iff.1 hj).1
        have h2:w.cell? ⟨r.β n,j,none⟩ = some vals[j]:=by rw [cell_of_row w _ j vals e _ hv1]; simp [hjl]
        refine ⟨_,h2,?_⟩
        have h3:alpha a w r (.b n j) = vals[j]:=by simp [alpha,h2]
        rw [h3] at h1
        have hp:=List.all_eq_true.1 hpl x (List.mem_of_getElem? hj)
        cases x <;> simp only [PC.plain] at hp <;> try (cases hp; done)
        all_goals
          obtain ⟨_,h1⟩:=h1
          cases h1 with
          | s h=>exact h
      have hcel:∀ off,RepS w (fun g=>r.Sh g ∨ g = r.β n) (.cel cs off) (.pointer (some ⟨r.β n,off,none⟩)):=fun off=>by
        have:=RepS.cel (w:=w) (Sh:=fun g=>r.Sh g ∨ g = r.β n) (cs:=cs) (off:=off) (g:=r.β n) (o:=0) (fun j=>(w.cell? ⟨r.β n,j,none⟩).getD undef) (.inr rfl) (fun j x hj=>by
          obtain ⟨u,h1,_⟩:=hcell j x hj
          rw [Nat.zero_add,h1]; rfl) (fun j x hj=>by
          obtain ⟨u,h1,h2⟩:=hcell j x hj
          rw [h1]; exact h2.mono (fun _ h=>.inl h) (fun _ _=>rfl))
        rwa [Nat.zero_add] at this
      have hget:∀ t,({ st with tm:=mapL (cvF n cs) st.tm,bx:=st.bx.take n }:St).get t = (st.get t).map fun pv=>⟨pv.sh,pv.cs.map (cvF n cs)⟩:=fun t=>look_mapL _ _ _
      have hat:∀ p x,({ st with tm:=mapL (cvF n cs) st.tm,bx:=st.bx.take n }:St).at p = some x → ∃ y,st.at p = some y ∧ x.okN n = true ∧ ((∃ t c,p = .t t c) ∧ x = cvF n cs y ∨ (∃ b c,p = .b b c ∧ b < n) ∧ x = y):=by
        intro p x hx
        cases p with
        | t t c =>
          obtain ⟨pv,h1,h2⟩:=St.at_tmp hx
          have hok:=List.all_eq_true.1 (List.all_eq_true.1 ht _ (look_mem h1)) x (List.mem_of_getElem? h2)
          rw [hget] at h1
          obtain ⟨pv0,h3,rfl⟩:=Option.map_eq_some_iff.1 h1
          simp only [List.getElem?_map] at h2
          obtain ⟨y,hy,rfl⟩:=Option.map_eq_some_iff.1 h2
          exact ⟨y,by simp [St.at,h3,hy],hok,.inl ⟨⟨t,c,rfl⟩,rfl⟩⟩
        | b b c =>
          obtain ⟨h0,cs',h1,h2⟩:=St.at_box hx
          have h0:b < n:=by rw [← hl1]; exact h0
          have h3:st.bx[b]? = some cs':=by
            have h1:(st.bx.take n)[b]? = some cs':=h1
            rwa [List.getElem?_take,if_pos h0] at h1
          exact ⟨x,by simp [St.at,h3,h2],List.all_eq_true.1 (List.all_eq_true.1 hbx cs' (List.mem_of_getElem? h1)) x (List.mem_of_getElem? h2),.inr ⟨⟨b,c,rfl,h0⟩,rfl⟩⟩
      have hγ:∀ p g,(match p with | .b b c=>if b < n then r.γ (.b b c) else none | p=>r.γ p) = some g → r.γ p = some g ∧ ∀ b c,p = .b b c → b < n:=by
        intro p g hg
        cases p with
        | t t c=>exact ⟨hg,fun b c h=>by cases h⟩
        | b b c =>
          simp only at hg
          split at hg
          · rename_i h; exact ⟨hg,fun b' c' e=>by cases e; exact h⟩
          · cases hg
      have hγ':∀ p,(∀ b c,p = .b b c → b < n) → (match p with | .b b c=>if b < n then r.γ (.b b c) else none | p=>r.γ p) = r.γ p:=by
        intro p hp
        cases p with
        | t t c=>rfl
        | b b c=>simp only [hp b c rfl,if_true]
      have hbl:∀ b,b < (st.bx.take n).length → b < n:=fun b hb=>by rwa [hl1] at hb
      refine ⟨⟨fun g=>r.Sh g ∨ g = r.β n,r.β,fun p=>match p with | .b b c=>if b < n then r.γ (.b b c) else none | p=>r.γ p,r.κ⟩,rfl,?_,rfl,rfl,rfl,Nat.le_refl _,fun _ _ _=>rfl,fun _ h=>.inl h,fun g h=>?_,fun g hg=>?_,fun _ _=>rfl,rfl,fun _ _ h=>h⟩
      · have hal:alpha a w ⟨fun g=>r.Sh g ∨ g = r.β n,r.β,fun p=>match p with | .b b c=>if b < n then r.γ (.b b c) else none | p=>r.γ p,r.κ⟩ = alpha a w r:=by funext q; cases q <;> rfl
        refine ⟨hi.sz,by rw [hl1]; exact hm,fun t pv h1=>?_,fun b cs' h1=>?_,fun p x hx=>?_,fun p x q hx hq=>?_,fun p g hg=>?_,fun p q g hp hq=>hi.inj p q g (hγ p g hp).1 (hγ q g hq).1,fun p g b hp hb'=>hi.exb p g b (hγ p g hp).1 (by have:=hbl b hb'; omega),fun b b' h1 h2=>hi.bb b b' (by have:=hbl b h1; omega) (by have:=hbl b' h2; omega),fun g hg=>?_,hi.defers,LaidFacts.mono (fun _ h=>.inl h) (fun _ _=>rfl) hi.lw,hi.fx⟩
        · rw [hget] at h1
          obtain ⟨pv0,h3,rfl⟩:=Option.map_eq_some_iff.1 h1
          obtain ⟨v,h4,h5⟩:=hi.tm t pv0 h3
          exact ⟨v,h4,by simpa using h5⟩
        · refine hi.bx b cs' ?_
          have h1:(st.bx.take n)[b]? = some cs':=h1
          rw [List.getElem?_take] at h1
          split at h1
          · exact h1
          · cases h1
        · obtain ⟨y,hy,hok,hxy⟩:=hat p x hx
          rw [hal]
          have h4:=hi.cell p y hy
          have hpn:∀ b c,p = .b b c → b < n:=by
            rcases hxy with ⟨⟨t,c,rfl⟩,_⟩ | ⟨⟨b,c,rfl,hb'⟩,_⟩
            · intro b c h; cases h
            · intro b' c' h; cases h; exact hb'
          simp only [hγ' p hpn]
          rcases hxy with ⟨⟨t,c,rfl⟩,rfl⟩ | ⟨⟨b,c,rfl,hb'⟩,rfl⟩
          · cases y
            case own e xs=>exact RepOwn.mono (fun _ h=>.inl h) (fun _ _=>rfl) (fun _ _=>rfl) h4
            case dead=>exact h4
            case al q=>exact ⟨h4.1,fun hl=>h4.2 (by obtain ⟨z,hz,hd⟩:=hl; obtain ⟨z0,hz0,_,hz1⟩:=hat _ z hz; refine ⟨z0,hz0,fun e=>hd ?_⟩; subst e; rcases hz1 with ⟨_,rfl⟩ | ⟨_,rfl⟩ <;> rfl)⟩
            case vw q _ _ _=>exact ⟨h4.1,fun hl=>h4.2 (by obtain ⟨z,hz,hd⟩:=hl; obtain ⟨z0,hz0,_,hz1⟩:=hat _ z hz; refine ⟨z0,hz0,fun e=>hd ?_⟩; subst e; rcases hz1 with ⟨_,rfl⟩ | ⟨_,rfl⟩ <;> rfl)⟩
            case el q _ _ _=>exact ⟨h4.1,fun hl=>h4.2 (by obtain ⟨z,hz,hd⟩:=hl; obtain ⟨z0,hz0,_,hz1⟩:=hat _ z hz; refine ⟨z0,hz0,fun e=>hd ?_⟩; subst e; rcases hz1 with ⟨_,rfl⟩ | ⟨_,rfl⟩ <;> rfl)⟩
            case ref b off =>
              have h5:=(show RepF w r.Sh r.β st.bx.length _ _ from h4.2)
              rw [hlen] at h5
              have h6:=h5.cvf hcel (fun _ h=>.inl h) hok
              simp only [cvF,cvC] at h6 ⊢
              split at h6 <;> exact ⟨h4.1,by rw [hl1]; exact h6⟩
            all_goals
              have h5:=(show RepF w r.Sh r.β st.bx.length _ _ from h4.2)
              rw [hlen] at h5
              have h6:=h5.cvf hcel (fun _ h=>.inl h) hok
              exact ⟨h4.1,by rw [hl1]; exact h6⟩
          · cases hnm:x.names with
            | some q =>
              cases x <;> simp only [PC.names] at hnm <;> try (cases hnm; done)
              all_goals
                simp only [RepC] at h4 ⊢
                refine ⟨h4.1,fun hl=>h4.2 ?_⟩
                obtain ⟨z,hz,hd⟩:=hl
                obtain ⟨z0,hz0,_,hz1⟩:=hat _ z hz
                refine ⟨z0,hz0,fun e=>hd ?_⟩
                subst e
                rcases hz1 with ⟨_,rfl⟩ | ⟨_,rfl⟩ <;> rfl
            | none =>
              by_cases hd:x = .dead
              · subst hd; exact h4
              · exact h4.free (st':={ st with tm:=mapL (cvF n cs) st.tm,bx:=st.bx.take n }) (by rw [hl1]; exact okN_free hok hnm hd) (fun _ h=>.inl h) (fun _ _=>rfl)
        · obtain ⟨y,hy,hok,hxy⟩:=hat p x hx
          have hyq:y.names = some q:=by
            rcases hxy with ⟨_,rfl⟩ | ⟨_,rfl⟩
            · exact cvF_names hq
            · exact hq
          have h4:=hi.nm p y q hy hyq
          cases q with
          | t t c =>
            obtain ⟨pv,h5⟩:=h4
            exact ⟨_,by rw [hget,h5]; rfl⟩
          | b b c=>simp only [St.ex,hl1]; exact okN_names hok hq
        · obtain ⟨h1,h2⟩:=hγ p g hg
          obtain ⟨e,xs,h3⟩:=hi.live p g h1
          refine ⟨e,xs,?_⟩
          cases p with
          | t t c =>
            obtain ⟨pv,h5,h6⟩:=St.at_tmp h3
            simp [St.at,hget,h5,h6,cvF,cvC]
          | b b c =>
            have hbn:=h2 b c rfl
            simp only [St.at,List.getElem?_take,hbn,if_true] at h3 ⊢
            exact h3
        · rcases hg with hg | rfl
          · obtain ⟨h1,h2,h3⟩:=hi.sh g hg
            exact ⟨h1,fun p hp=>h2 p (hγ p g hp).1,fun b hb'=>h3 b (by have:=hbl b hb'; omega)⟩
          · exact ⟨(Array.getElem?_eq_some_iff.1 hv1).1, fun p hp => hi.exb p _ n (hγ p _ hp).1 (by omega) rfl, fun b hb' he => by
              have:=hi.bb b n (by have:=hbl b hb'; omega) (by omega) he
              have:=hbl b hb'
              omega⟩
      · rcases h with h | rfl
        · exact .inl h
        · exact .inr (.inl (.inr ⟨n,by omega,rfl⟩))
      · rcases hg with ⟨p,hp⟩ | ⟨b,hb',he⟩
        · exact .inl (.inl ⟨p,(hγ p g hp).1⟩)
        · exact .inl (.inr ⟨b,by have:=hbl b hb'; omega,he⟩)
    · cases h
  · cases h
/-- A truth that is a proposition's; its contrary; a truth told. -/
theorem ci {c : Operand} {x y : Code} {Q : Exit → St → Prop} {ρ : Type} {p : Prop} [Decidable p] {t e : Option ρ} {r : ρ} (H : (if p then t else e) = some r) (hx : p → t = some r → Tri P x Q st) (hy : ¬ p → e = some r → Tri P y Q st)
    (hc:st.use c = some ⟨.one,[.sc (.bool (decide p))]⟩:=by kernel_rfl):Tri P (.cond c x y) Q st:=by
  by_cases h:p
  · rw [if_pos h] at H; rw [decide_eq_true h] at hc; exact Tri.cond_true hc (hx h H)
  · rw [if_neg h] at H; rw [decide_eq_false h] at hc; exact Tri.cond_false hc (hy h H)
theorem cn {c : Operand} {x y : Code} {Q : Exit → St → Prop} {ρ : Type} {p : Prop} [Decidable p] {t e : Option ρ} {r : ρ} (H : (if p then t else e) = some r) (hy : p → t = some r → Tri P y Q st) (hx : ¬ p → e = some r → Tri P x Q st)
    (hc:st.use c = some ⟨.one,[.sc (.bool (!decide p))]⟩:=by kernel_rfl):Tri P (.cond c x y) Q st:=by
  by_cases h:p
  · rw [if_pos h] at H; rw [decide_eq_true h] at hc; exact Tri.cond_false hc (hy h H)
  · rw [if_neg h] at H; rw [decide_eq_false h] at hc; exact Tri.cond_true hc (hx h H)
theorem cb {c : Operand} {x y : Code} {Q : Exit → St → Prop} {ρ : Type} {b : Bool} {t e : Option ρ} {r : ρ} (H : (if b = true then t else e) = some r) (hx : b = true → t = some r → Tri P x Q st) (hy : b = false → e = some r → Tri P y Q st)
    (hc:st.use c = some ⟨.one,[.sc (.bool b)]⟩:=by kernel_rfl):Tri P (.cond c x y) Q st:=by
  cases b with
  | true=>exact Tri.cond_true hc (hx rfl H)
  | false=>exact Tri.cond_false hc (hy rfl H)
theorem cm {c : Operand} {x y : Code} {Q : Exit → St → Prop} {ρ : Type} {b : Bool} {t e : Option ρ} {r : ρ} (H : (if b = true then t else e) = some r) (hy : b = true → t = some r → Tri P y Q st) (hx : b = false → e = some r → Tri P x Q st)
    (hc:st.use c = some ⟨.one,[.sc (.bool (!b))]⟩:=by kernel_rfl):Tri P (.cond c x y) Q st:=by
  cases b with
  | true=>exact Tri.cond_false hc (hy rfl H)
  | false=>exact Tri.cond_true hc (hx rfl H)
theorem cv {c:Operand} {x y:Code} {Q:Exit → St → Prop} {b:Bool} (hb:b = false) (h:Tri P y Q st) (hc:st.use c = some ⟨.one,[.sc (.bool b)]⟩:=by kernel_rfl):Tri P (.cond c x y) Q st:=Tri.cond_false (useb hb hc) h
/-- Ways that meet: with returns, without; at the end of a code. -/
theorem jr {x y : Code} {Q : Exit → St → Prop} {α ρ σ : Type} {o : Option (σ ⊕ α)} {K : σ ⊕ α → Option ρ} {r : ρ} (H : o.bind K = some r) (S : α → St) (hy : ∀ w, K (.inr w) = some r → Tri P y Q (S w))
    (hx:∀ v,o = some v → K v = some r → Tri P x (Ex (fun st=>∃ w,v = .inr w ∧ st = S w) Q) st):Tri P (.seq x y) Q st:=by
  obtain ⟨v,h,H⟩:=bind_some' H
  exact Tri.join (fun w=>v = .inr w) S (fun w hw=>hy w (hw ▸ H)) (hx v h H)
theorem jo {x y : Code} {Q : Exit → St → Prop} {α ρ : Type} {o : Option α} {K : α → Option ρ} {r : ρ} (H : o.bind K = some r) (S : α → St) (hy : ∀ w, K w = some r → Tri P y Q (S w))
    (hx:∀ v,o = some v → K v = some r → Tri P x (Ex (fun st=>∃ w,v = w ∧ st = S w) Q) st):Tri P (.seq x y) Q st:=by
  obtain ⟨v,h,H⟩:=bind_some' H
  exact Tri.join (fun w=>v = w) S (fun w hw=>hy w (hw ▸ H)) (hx v h H)
theorem jrT {x : Code} {Q : Exit → St → Prop} {α ρ σ : Type} {o : Option (σ ⊕ α)} {K : σ ⊕ α → Option ρ} {r : ρ} (H : o.bind K = some r) (S : α → St) (hy : ∀ w, K (.inr w) = some r → Q .normal (S w))
    (hx:∀ v,o = some v → K v = some r → Tri P x (Ex (fun st=>∃ w,v = .inr w ∧ st = S w) Q) st):Tri P x Q st:=by
  obtain ⟨v,h,H⟩:=bind_some' H
  exact Tri.joinT (fun w=>v = .inr w) S (fun w hw=>hy w (hw ▸ H)) (hx v h H)
theorem pe {σ α:Type} {v:σ ⊕ α} {S:α → St} (w:α) (h:some (.inr w) = some v) (e:st = S w:=by kernel_rfl):∃ w,v = .inr w ∧ st = S w:=⟨w,(Option.some.inj h).symm,e⟩
theorem pf {α:Type} {v:α} {S:α → St} (w:α) (h:some w = some v) (e:st = S w:=by kernel_rfl):∃ w,v = w ∧ st = S w:=⟨w,(Option.some.inj h).symm,e⟩
/-- A loop that a function with rounds tells. -/
theorem lo {c : Code} {Q : Exit → St → Prop} (α : Type) {ρ : Type} {res : ρ} (k : Nat) (F : Nat → α → Option ρ) (S : α → St) (v : α) (H : F k v = some res)
    (hs:∀ k x,F (k + 1) x = some res → (∀ y,F k y = some res → TriR P c Q k (S y)) → Tri P c (Ex (TriR P c Q k) Q) (S x)) (e:st = S v:=by kernel_rfl) (hz:∀ x,F 0 x = none:=by exact fun _=>rfl):Tri P (.loop c) Q st :=
  e ▸ Tri.loop k (TriR.ind F S hz (fun k x h ih=>hs k x h fun y hy=>ih k y (Nat.le_refl _) hy) k v H)
theorem lb {c:Code} {Q:Exit → St → Prop} {α ρ:Type} {res:ρ} {k:Nat} {F:α → Option ρ} {S:α → St} (IH:∀ y,F y = some res → TriR P c Q k (S y)) (y:α) (H:F y = some res) (e:st = S y:=by kernel_rfl):TriR P c Q k st:=e ▸ IH y H
/-- Ends. -/
theorem ends {ts : List Nat} {res : PV} {bx' : List (List PC)} {e : Exit} (he : e = .normal ∨ e = .ret)
    (h:(resultsOf st ts,res.cs.all (·.free bx'.length),Nat.ble bx'.length st.bx.length,st.bx.take bx'.length,bx'.all (fun cs=>cs.all (·.free bx'.length))) = (some res,true,true,bx',true)):Ends ts res bx' e st:=by
  simp only [Prod.mk.injEq] at h
  obtain ⟨g1,g2,g3,g4,g5⟩:=h
  exact ⟨he,g1,g2,Nat.le_of_ble_eq_true g3,g4,List.all_eq_true.1 g5⟩
theorem eR {ts:List Nat} {res:PV} {bx':List (List PC)} (h:(resultsOf st ts,res.cs.all (·.free bx'.length),Nat.ble bx'.length st.bx.length,st.bx.take bx'.length,bx'.all (fun cs=>cs.all (·.free bx'.length))) = (some res,true,true,bx',true):=by kernel_rfl):Ends ts res bx' .ret st:=ends (.inr rfl) h
theorem Fn.bd {f : FuncId} {fn : Func} {c : Code} {args : List PV} {res : PV} (ts : List Nat) (hf : P.funcs[f]? = some fn) (h : Tri P c (Ends ts res []) ⟨fn.ntmps, enum 0 args, [], 0, []⟩) (hb : fn.body = some c := by rfl) (hres : fn.results = (ts.map ResultVar.tmp).toArray := by rfl) (hl : ts.length ≤ 4 := by decide) (hnd : ts.Nodup := by decide)
    (hn:Nat.ble args.length fn.ntmps = true:=by rfl):Fn P f args [] res []:=Fn.body hf hb hres hl hnd (Nat.le_of_ble_eq_true hn) (Nat.le_refl _) h
end
end Go.Proofs.YtoclajfeeebbbadGreatDoor.E
