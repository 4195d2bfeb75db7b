/- The engine, part Y: states in a fixed order; boxes cut off; joins. Plain lemmas; no program. -/
import Derived.Test.YtoclajfeeebbbadGreatDoorEng16
set_option linter.unusedVariables false
set_option linter.unusedSectionVars false
set_option linter.unusedSimpArgs false
namespace Go.Proofs.YtoclajfeeebbbadGreatDoor.E
open Go.RowKit
variable [LaidFacts]
/-- These temporaries, in this order. -/
def pickIn (tm:List (Nat × PV)):List Nat → List (Nat × PV)
  | []=>[]
  | t :: ts=>match look tm t with
    | some pv=>(t,pv) :: pickIn tm ts
    | none=>pickIn tm ts
theorem look_pickIn {tm:List (Nat × PV)} {t:Nat}:∀ {ts:List Nat},look (pickIn tm ts) t = if ts.contains t then look tm t else none
  | []=>by simp [pickIn,look]
  | u :: ts=>by
    simp only [pickIn]
    by_cases hu:u = t
    · subst hu
      simp only [List.contains_cons,beq_self_eq_true,Bool.true_or,if_true]
      cases h:look tm u with
      | none =>
        simp only []
        rw [look_pickIn]
        split
        · exact h
        · rfl
      | some pv=>simp [look]
    · have hc : (u :: ts).contains t = ts.contains t := by
        have:(t == u) = false:=by simpa using fun e=>hu (Eq.symm e)
        rw [List.contains_cons,this,Bool.false_or]
      rw [hc]
      split
      · simp only [look,if_neg hu]; exact look_pickIn
      · exact look_pickIn
def St.sel (st:St) (ts:List Nat):St:={ st.keep ts with tm:=pickIn (st.keep ts).tm ts }
/-- Does a cell keep off the boxes from n on? -/
def PC.okN (n:Nat):PC → Bool
  | .al (.b b _) | .vw (.b b _) .. | .el (.b b _) ..=>Nat.ble (b + 1) n
  | .ref b _=>Nat.ble (b + 1) n
  | .opt _ _ b _=>Nat.ble (b + 1) n
  | .fn _ caps=>caps.all fun x=>match x with
    | .ref b _=>Nat.ble (b + 1) n
    | .fn .. | .opt .. | .al _ | .vw .. | .el .. | .own .. | .dead=>false
    | _=>true
  | _=>true
def cutB (st:St) (n:Nat):Bool:=Nat.ble st.m n && Nat.ble n st.bx.length && st.tm.all (fun x=>x.2.cs.all (PC.okN n)) && (st.bx.take n).all fun cs=>cs.all (PC.okN n)
def St.cut (st:St) (n:Nat):St:={ st with bx:=st.bx.take n }
section
variable {P:Program} {st:St} {a:Act} {w:World} {r:Rs}
theorem Turns.sel (ts:List Nat):Turns P st (st.sel ts):=by
  refine (Turns.keep ts).trans (Turns.ext (fun t=>?_) rfl rfl rfl)
  simp only [St.sel,St.get,look_pickIn]
  split
  · rfl
  · rename_i h
    have:=St.get_dropP st (fun t=>!ts.contains t) t
    have h':(!ts.contains t) = true:=by simpa using h
    rw [h',if_pos rfl] at this
    exact this.symm
theorem okN_names {n:Nat} {x:PC} (h:x.okN n = true) {b c:Nat} (hn:x.names = some (.b b c)):b < n:=by
  cases x <;> simp only [PC.names] at hn <;> try (cases hn; done)
  all_goals
    cases hn
    exact Nat.le_of_ble_eq_true h
theorem okN_free {n:Nat} {x:PC} (h:x.okN n = true) (hn:x.names = none) (hd:x ≠ .dead):x.free n = true:=by
  cases x <;> simp only [PC.names] at hn <;> try (cases hn; done)
  case ref b off =>
    simp only [PC.okN] at h
    simp only [PC.free,decide_eq_true_eq]
    exact Nat.le_of_ble_eq_true h
  case opt T u b off =>
    simp only [PC.okN] at h
    simp only [PC.free,decide_eq_true_eq]
    exact Nat.le_of_ble_eq_true h
  case fn f caps =>
    simp only [PC.okN] at h
    simp only [PC.free]
    refine List.all_eq_true.2 fun y hy=>?_
    have:=List.all_eq_true.1 h y hy
    cases y <;> simp only at this ⊢ <;> first
      | rfl
      | (cases this; done)
      | exact decide_eq_true (Nat.le_of_ble_eq_true this)
  case dead=>exact absurd rfl hd
  all_goals rfl
theorem Turns.cut {n:Nat} (hc:cutB st n = true):Turns P st (st.cut n):=by
  intro a w r hi
  simp only [cutB,Bool.and_eq_true] at hc
  obtain ⟨⟨⟨hm,hn⟩,ht⟩,hb⟩:=hc
  have hm:=Nat.le_of_ble_eq_true hm
  have hn:=Nat.le_of_ble_eq_true hn
  have hlen:(st.cut n).bx.length = n:=by simp only [St.cut,List.length_take]; omega
  have hat:∀ p x,(st.cut n).at p = some x → st.at p = some x ∧ x.okN n = true ∧ ∀ b c,p = .b b c → b < n:=by
    intro p x hx
    cases p with
    | t t c =>
      obtain ⟨pv,h1,h2⟩:=St.at_tmp hx
      exact ⟨hx,List.all_eq_true.1 (List.all_eq_true.1 ht _ (look_mem h1)) x (List.mem_of_getElem? h2),fun b c h=>by cases h⟩
    | b b c =>
      obtain ⟨h0,cs,h1,h2⟩:=St.at_box hx
      have h3:st.bx[b]? = some cs:=by
        have hbn:b < n:=by rw [hlen] at h0; exact h0
        simp only [St.cut,List.getElem?_take,hbn,if_true] at h1
        exact h1
      exact ⟨by simp [St.at,h3,h2],List.all_eq_true.1 (List.all_eq_true.1 hb cs (List.mem_of_getElem? h1)) x (List.mem_of_getElem? h2),fun b' c' h=>by cases h; rw [hlen] at h0; exact h0⟩
  have hback:∀ p x,st.at p = some x → (∀ b c,p = .b b c → b < n) → (st.cut n).at p = some x:=by
    intro p x hx hp
    cases p with
    | t t c=>exact hx
    | b b c =>
      have hbn:=hp b c rfl
      simp only [St.at,St.cut,List.getElem?_take,hbn,if_true] at hx ⊢
      exact hx
  have hγ:∀ p g,(match p with | .b b c=>if b < n then r.γ (.b b c) else none | p=>r.γ p) = some g → r.γ p = some g ∧ ∀ b c,p = .b b c → b < n:=by
    intro p g hg
    cases p with
    | t t c=>exact ⟨hg,fun b c h=>by cases h⟩
    | b b c =>
      simp only at hg
      split at hg
      · rename_i h; exact ⟨hg,fun b' c' e=>by cases e; exact h⟩
      · cases hg
  have hγ':∀ p,(∀ b c,p = .b b c → b < n) → (match p with | .b b c=>if b < n then r.γ (.b b c) else none | p=>r.γ p) = r.γ p:=by
    intro p hp
    cases p with
    | t t c=>rfl
    | b b c=>simp only [hp b c rfl,if_true]
  refine ⟨{ r with γ:=fun p=>match p with | .b b c=>if b < n then r.γ (.b b c) else none | p=>r.γ p },rfl,?_,rfl,rfl,rfl,Nat.le_refl _,fun _ _ _=>rfl,fun _ h=>h,fun _ h=>.inl h,fun g hg=>?_,fun _ _=>rfl,rfl,fun _ _ h=>h⟩
  · have hal:alpha a w { r with γ:=fun p=>match p with | .b b c=>if b < n then r.γ (.b b c) else none | p=>r.γ p } = alpha a w r:=by funext q; cases q <;> rfl
    refine ⟨hi.sz,by rw [hlen]; exact hm,hi.tm,fun b cs h=>?_,fun p x hx=>?_,fun p x q hx hq=>?_,fun p g hg=>?_,fun p q g hp hq=>hi.inj p q g (hγ p g hp).1 (hγ q g hq).1,fun p g b hp hb=>hi.exb p g b (hγ p g hp).1 (by rw [hlen] at hb; omega),fun b b' h1 h2=>hi.bb b b' (by rw [hlen] at h1; omega) (by rw [hlen] at h2; omega),fun g hg=>?_,hi.defers,hi.lw,hi.fx⟩
    · refine hi.bx b cs ?_
      simp only [St.cut,List.getElem?_take] at h
      split at h
      · exact h
      · cases h
    · obtain ⟨h1,h2,h3⟩:=hat p x hx
      rw [hal]
      have h4:=hi.cell p x h1
      simp only [hγ' p h3]
      cases hnm:x.names with
      | some q =>
        cases x <;> simp only [PC.names] at hnm <;> try (cases hnm; done)
        all_goals
          simp only [RepC] at h4 ⊢
          refine ⟨h4.1,fun hl=>h4.2 ?_⟩
          obtain ⟨y,hy,hd⟩:=hl
          exact ⟨y,(hat _ y hy).1,hd⟩
      | none =>
        by_cases hd:x = .dead
        · subst hd; exact h4
        · have hf:=okN_free h2 hnm hd
          exact h4.free (st':=st.cut n) (by rw [hlen]; exact hf) (fun _ h=>h) (fun _ _=>rfl)
    · obtain ⟨h1,h2,h3⟩:=hat p x hx
      have h4:=hi.nm p x q h1 hq
      cases q with
      | t t c=>exact h4
      | b b c=>simp only [St.ex,hlen]; exact okN_names h2 hq
    · obtain ⟨h1,h2⟩:=hγ p g hg
      obtain ⟨e,xs,h3⟩:=hi.live p g h1
      exact ⟨e,xs,hback p _ h3 h2⟩
    · obtain ⟨h1,h2,h3⟩:=hi.sh g hg
      exact ⟨h1,fun p hp=>h2 p (hγ p g hp).1,fun b hb=>h3 b (by rw [hlen] at hb; omega)⟩
  · rcases hg with ⟨p,hp⟩ | ⟨b,hb,he⟩
    · exact .inl (.inl ⟨p,(hγ p g hp).1⟩)
    · exact .inl (.inr ⟨b,by rw [hlen] at hb; omega,he⟩)
/-- These temporaries, so many boxes, some cells turned. -/
def fin (P:Program) (ts:List Nat) (nb:Nat) (fx:List Fix) (st:St):Option St :=
  match Nat.ble (st.sel ts).bx.length nb with
  | true=>doFixes P (st.sel ts) fx
  | false=>match cutB (st.sel ts) nb with
    | true=>doFixes P ((st.sel ts).cut nb) fx
    | false=>none
theorem fin_turns {ts:List Nat} {nb:Nat} {fx:List Fix} {st':St} (h:fin P ts nb fx st = some st'):Turns P st st':=by
  unfold fin at h
  split at h
  · exact (Turns.sel ts).trans (doFixes_turns _ h)
  · split at h
    · exact (Turns.sel ts).trans ((Turns.cut ‹_›).trans (doFixes_turns _ h))
    · cases h
def evR (P:Program) (l:List Oper) (ts:List Nat) (nb:Nat) (fx:List Fix) (st:St) (hs:Hs):Option (List Prop × St) :=
  match evN3 P l.toArray l.length 0 l st hs with
  | some (c,st',[])=>match fin P ts nb fx st' with
    | some st''=>some (c,st'')
    | none=>none
  | _=>none
def evRD (P:Program) (l:List Oper) (k:Nat) (A:List (List Nat)) (ts:List Nat) (nb:Nat) (fx:List Fix) (st:St) (hs:Hs):Option (List Prop × St) :=
  match evDR P l k A st hs with
  | some (c,st',[])=>match fin P ts nb fx st' with
    | some st''=>some (c,st'')
    | none=>none
  | _=>none
theorem Tri.r1 {id:Nat} {l:List Oper} {Q:Exit → St → Prop} (ts:List Nat) (nb:Nat) (fx:List Fix) (hs:Hs) (q:List Prop) (st':St) (hq:AllP q) (hy:Q .normal st') (h:evR P l ts nb fx st hs = some (q,st'):=by kernel_rfl):Tri P (.region id l.toArray false) Q st:=by
  unfold evR at h
  split at h
  · rename_i c st1 h1
    split at h
    · rename_i st2 h2
      cases h
      exact Tri.region (evN3_spec _ _ _ _ _ h1 hq (by rw [List.drop_length]; exact TriO.turn (fin_turns h2) (TriO.nil hy)))
    · cases h
  · cases h
theorem Tri.d1 {id : Nat} {l : List Oper} {Q : Exit → St → Prop} (hm : P.follows .mixedOrders = true) (k : Nat) (A : List (List Nat)) (ts : List Nat) (nb : Nat) (fx : List Fix) (hs : Hs) (q : List Prop) (st' : St) (hq : AllP q) (hy : Q .normal st') (h : evRD P l k A ts nb fx st hs = some (q, st') := by kernel_rfl) :
    Tri P (.region id l.toArray true) Q st:=by
  unfold evRD at h
  split at h
  · rename_i c0 st0 h0
    split at h
    · rename_i st2 h2
      cases h
      unfold evDR at h0
      split at h0
      · rename_i c D hs2 h3
        split at h0
        · rename_i hfr hck
          split at h0
          · rename_i c' st1 hs3 h4
            simp only [Option.some.injEq,Prod.mk.injEq] at h0
            obtain ⟨rfl,rfl,_⟩:=h0
            obtain ⟨qa,qb⟩:=AllP_append hq
            simp only [Bool.and_eq_true] at hck
            obtain ⟨⟨⟨⟨hfx,hk⟩,hle⟩,hanc⟩,htl⟩:=hck
            have hk:=Nat.eq_of_beq_eq_true hk
            subst hk
            have hle':=Nat.le_of_ble_eq_true hle
            obtain ⟨E,h5,h6,h7⟩:=evD_spec (l.take D.length) 0 A [] hs rfl h3 qa
            have hE:E = D:=by simpa using h5.symm
            subst hE
            have h8:=h7.left (l':=l.drop E.length) h6
            rw [List.take_append_drop] at h8
            refine Tri.draw hm E A hfx (by rw [hfr,hle,hanc,htl]; rfl) h8 ?_
            exact evN3_spec _ _ _ _ _ h4 qb (TriO.turn (fin_turns h2) (by rw [List.drop_eq_nil_of_le (by simp)]; exact TriO.nil hy))
          · cases h0
        · cases h0
      · cases h0
    · cases h
  · cases h
/-- One way alone goes on. -/
theorem Tri.rn {id:Nat} {l:List Oper} {y:Code} {Q:Exit → St → Prop} (ts:List Nat) (nb:Nat) (fx:List Fix) (hs:Hs) (q:List Prop) (st':St) (hq:AllP q) (hy:Tri P y Q st') (h:evR P l ts nb fx st hs = some (q,st'):=by kernel_rfl):Tri P (.seq (.region id l.toArray false) y) Q st :=
  Tri.seq (Tri.r1 ts nb fx hs q st' hq hy h)
theorem Tri.dn {id : Nat} {l : List Oper} {y : Code} {Q : Exit → St → Prop} (hm : P.follows .mixedOrders = true) (k : Nat) (A : List (List Nat)) (ts : List Nat) (nb : Nat) (fx : List Fix) (hs : Hs) (q : List Prop) (st' : St) (hq : AllP q) (hy : Tri P y Q st') (h : evRD P l k A ts nb fx st hs = some (q, st') := by kernel_rfl) :
    Tri P (.seq (.region id l.toArray true) y) Q st :=
  Tri.seq (Tri.d1 hm k A ts nb fx hs q st' hq hy h)
/-- Several ways meet. -/
theorem Tri.join {x y:Code} {Q:Exit → St → Prop} {α:Type} (C:α → Prop) (S:α → St) (hy:∀ v,C v → Tri P y Q (S v)) (hx:Tri P x (Ex (fun st=>∃ v,C v ∧ st = S v) Q) st):Tri P (.seq x y) Q st:=by
  refine Tri.seq (Tri.mono (fun e st' q=>?_) hx)
  cases e <;> first
    | (obtain ⟨v,h1,rfl⟩:=q; exact hy v h1)
    | exact q
theorem ite_some {α:Type} {c:Prop} [Decidable c] {x y:Option α} {r:α} (h:(if c then x else y) = some r):(c ∧ x = some r) ∨ (¬ c ∧ y = some r):=by
  split at h
  · exact .inl ⟨‹_›,h⟩
  · exact .inr ⟨‹_›,h⟩
theorem iteb_some {α:Type} {b:Bool} {x y:Option α} {r:α} (h:(if b = true then x else y) = some r):(b = true ∧ x = some r) ∨ (b = false ∧ y = some r):=by
  cases b
  · exact .inr ⟨rfl,h⟩
  · exact .inl ⟨rfl,h⟩
theorem bind_some' {α β:Type} {x:Option α} {f:α → Option β} {r:β} (h:x.bind f = some r):∃ v,x = some v ∧ f v = some r:=Option.bind_eq_some_iff.1 h
/-- What a truth is told to be. -/
theorem ovb {b c:Bool} (h:b = c):[PC.sc (.bool b)] = [PC.sc (.bool c)]:=by rw [h]
theorem nT {b:Bool} (h:b = false):(!b) = true:=by rw [h]; rfl
theorem nF {b:Bool} (h:b = true):(!b) = false:=by rw [h]; rfl
theorem useb {st:St} {o:Operand} {b c:Bool} (h:b = c) (hu:st.use o = some ⟨.one,[.sc (.bool b)]⟩):st.use o = some ⟨.one,[.sc (.bool c)]⟩:=by rw [hu,h]
/-- An element of a row. -/
def at? {α:Type} (l:List α) (i:Int):Option α:=if 0 ≤ i then l[i.toNat]? else none
theorem at?_0 {α:Type} {l:List α} {i:Int} {x:α} (h:at? l i = some x):0 ≤ i:=by
  unfold at? at h
  split at h
  · assumption
  · cases h
theorem at?_get {α:Type} {l:List α} {i:Int} {x:α} (h:at? l i = some x):l[i.toNat]? = some x:=by
  unfold at? at h
  split at h
  · exact h
  · cases h
theorem at?_map {α:Type} {l:List α} {i:Int} {x:α} {f:α → List PC} (h:at? l i = some x):(l.map f)[i.toNat]? = some (f x):=by rw [List.getElem?_map,at?_get h]; rfl
theorem ovlen {α:Type} {l:List α} {f:α → List PC}:[PC.sc (.int .i64 ((l.map f).length:Int))] = [PC.sc (.int .i64 (l.length:Int))]:=by rw [List.length_map]
def w64 (n:Int):Int:=IntKind.i64.wrap n
theorem w64_id {n:Int} (h0:-9223372036854775808 ≤ n) (h1:n ≤ 9223372036854775807):w64 n = n:=by
  have e:w64 n = if n % 18446744073709551616 ≥ 9223372036854775808 then n % 18446744073709551616 - 18446744073709551616 else n % 18446744073709551616:=by
    unfold w64 IntKind.wrap
    have h2:(2:Int) ^ IntKind.i64.bits = 18446744073709551616:=by decide
    have h3:(2:Int) ^ (IntKind.i64.bits - 1) = 9223372036854775808:=by decide
    have h4:IntKind.i64.signed = true:=rfl
    simp only [h2,h3,h4,Bool.true_and,decide_eq_true_eq]
  rw [e]
  split <;> omega
end
end Go.Proofs.YtoclajfeeebbbadGreatDoor.E
/- The engine, part XD: regions whose order is drawn, with operations that change the state among those that float, by computation. Plain lemmas; no program. -/
set_option linter.unusedVariables false
set_option linter.unusedSectionVars false
set_option linter.unusedSimpArgs false
namespace Go.Proofs.YtoclajfeeebbbadGreatDoor.E
open Go.RowKit
variable [LaidFacts]
def hsAt (i:Nat):Hs → Hs
  | []=>[]
  | (j,h) :: l=>match Nat.beq i j with
    | true=>(j,h) :: hsAt i l
    | false=>hsAt i l
/-- These temporaries, where they are there. -/
def keysOf:List (Nat × PV) → List Nat
  | []=>[]
  | x :: l=>x.1 :: keysOf l
theorem look_keys {t:Nat}:∀ {l:List (Nat × PV)},t ∉ keysOf l → look l t = none
  | [],_=>rfl
  | (k,v) :: l,h=>by
    simp only [keysOf,List.mem_cons,not_or] at h
    have hk:k ≠ t:=fun e=>h.1 e.symm
    simp only [look,if_neg hk]
    exact look_keys h.2
def pickK (tm:List (Nat × PV)):List Nat → List (Option PV)
  | []=>[]
  | t :: ts=>look tm t :: pickK tm ts
theorem pickK_at {tm tm':List (Nat × PV)} {t:Nat}:∀ {ts:List Nat},pickK tm ts = pickK tm' ts → t ∈ ts → look tm t = look tm' t
  | u :: ts,h,ht=>by
    simp only [pickK,List.cons.injEq] at h
    rcases List.mem_cons.1 ht with rfl | ht
    · exact h.1
    · exact pickK_at h.2 ht
/-- One state is another, so far as its temporaries are told. -/
def sameP (s t:St):Prop:=(pickK s.tm (keysOf s.tm),s.bx,s.n,s.m,s.fx) = (pickK t.tm (keysOf s.tm),t.bx,t.n,t.m,t.fx)
def sameB (s t:St):Bool:=(keysOf t.tm).all fun k=>inB k (keysOf s.tm)
theorem same_get {s t:St} (h:sameP s t) (hb:sameB s t = true):(∀ k,t.get k = s.get k) ∧ t.bx = s.bx ∧ t.n = s.n ∧ t.m = s.m ∧ t.fx = s.fx:=by
  simp only [sameP,Prod.mk.injEq] at h
  obtain ⟨h1,h2,h3,h4,h5⟩:=h
  refine ⟨fun k=>?_,h2.symm,h3.symm,h4.symm,h5.symm⟩
  by_cases hk:k ∈ keysOf s.tm
  · exact (pickK_at h1 hk).symm
  · have hk':k ∉ keysOf t.tm:=fun h=>hk (inB_spec (List.all_eq_true.1 hb k h))
    simp only [St.get,look_keys hk,look_keys hk']
section
variable {P:Program} {o:Oper}
theorem OpE.ext {st s t:St} (h:OpE P o st s) (hg:∀ k,t.get k = s.get k) (hb:t.bx = s.bx) (hn:t.n = s.n) (hm:t.m = s.m) (hf:t.fx = s.fx):OpE P o st t:=by
  intro a w r hi K Q hK
  refine h a w r hi K Q fun v w' r' h1 h2 h3=>hK v w' r' (by rw [hm]; exact h1) (h2.ext hg hb hn hm hf) (by rw [hb]; exact h3)
/-- A row that grows. -/
def evAppE (P:Program) (st:St) (hs:Hs) (o:Oper):Option (List Prop × St × Hs) :=
  match o.op,o.dst with
  | .call { callee:=.builtin .append,args:=⟨[x,y]⟩,argTypes:=⟨[t,t']⟩ },some d=>match st.okB d,Nat.beq t t',P.underlying t with
    | true,true,some (.slice e)=>match P.elem? e,one? (st.use x),one? (st.use y) with
      | some (s + 1,by'),some c,some c'=>match st.ownedAt e c,St.row P st 4 c' with
        | some (q,xs),some (s',ys)=>match Nat.beq s' (s + 1) with
          | true=>some ([(xs.length + ys.length) ≤ 9223372036854775807,(xs.length + ys.length) * by' ≤ 140737488355328],(st.killed q).assign d ⟨.one,[.own e (xs ++ ys)]⟩,hs)
          | false=>none
        | _,_=>none
      | _,_,_=>none
    | true,false,some (.slice e)=>match P.underlying t',P.elem? e,one? (st.use x),one? (st.use y) with
      | some .string,some (1,by'),some c,some (.sc (.string b))=>match st.ownedAt e c with
        | some (q,xs)=>some ([(xs.length + (strRow b).length) ≤ 9223372036854775807,(xs.length + (strRow b).length) * by' ≤ 140737488355328],(st.killed q).assign d ⟨.one,[.own e (xs ++ strRow b)]⟩,hs)
        | none=>none
      | _,_,_,_=>none
    | _,_,_=>none
  | _,_=>none
theorem evAppE_spec {st st':St} {hs hs':Hs} {q:List Prop} (h:evAppE P st hs o = some (q,st',hs')) (hq:AllP q):OpE P o st st':=by
  unfold evAppE at h
  split at h
  · rename_i x y t t' d ho hd
    split at h
    · rename_i e h0 h1 h2
      have:=Nat.eq_of_beq_eq_true h1
      subst this
      split at h
      · rename_i s by' c c' h3 h4 h5
        split at h
        · rename_i q' xs s' ys h6 h7
          split at h
          · rename_i h8
            simp only [Option.some.injEq,Prod.mk.injEq] at h
            obtain ⟨rfl,rfl,_⟩:=h
            have:=Nat.eq_of_beq_eq_true h8
            subst this
            exact OpE.append ho hd (St.okB_spec h0) h2 h3 (by omega) (one?_eq h4) h6 (one?_eq h5) (.inl ⟨rfl,.inl h7⟩) hq.1 hq.2.1
          · cases h
        · cases h
      · cases h
    · rename_i e h0 h1 h2
      split at h
      · rename_i by' c b h3 h4 h5 h6
        split at h
        · rename_i q' xs h7
          simp only [Option.some.injEq,Prod.mk.injEq] at h
          obtain ⟨rfl,rfl,_⟩:=h
          exact OpE.append ho hd (St.okB_spec h0) h2 h4 (by omega) (one?_eq h5) h7 (one?_eq h6) (.inr ⟨h3,rfl,b,rfl,rfl⟩) hq.1 hq.2.1
        · cases h
      · cases h
    · cases h
  · cases h
/-- A row is taken out of the place where it stands. -/
theorem OpE.take {st : St} {p : Place} {e : TypeId} {xs : List (List PC)} {d : Nat} (h : Reads P o st ⟨.one, [.al p]⟩) (hp : st.at p = some (.own e xs)) (hod : o.dst = some d) (hd : st.okd d) :
    OpE P o st ((st.setAt p .dead).assign d ⟨.one,[.own e xs]⟩):=by
  intro a w r hi K Q hK
  obtain ⟨v,hrun,hhas⟩:=h a w r hi
  obtain ⟨h1,hc,_⟩:=hhas.out
  have hv:v = alpha a w r p:=hc.2 ⟨_,hp,by simp⟩
  have hrep:=hi.cell p _ hp
  simp only [RepC] at hrep
  rw [← hv] at hrep
  have hone:v.oneCell' = true:=by
    obtain ⟨vs,hvs,_⟩:=hrep
    rcases hvs.2 with ⟨rfl,_⟩ | ⟨_,_,_,_,rfl,_⟩ <;> rfl
  have hk:=hi.kill hp
  unfold Oper.wp
  rw [hrun,Oper.upon_value,hod]
  rw [hod] at hK
  have hnot:∀ g,r.γ p = some g → ¬ (r.clr p false).Sh g ∧ ¬ (r.clr p false).X (st.setAt p .dead).bx.length g:=by
    intro g hg
    refine ⟨fun hs=>(hi.sh g (by simpa [Rs.clr] using hs)).2.1 p hg,fun hx=>?_⟩
    rcases hx with ⟨p',hp'⟩ | ⟨b,hb,hbe⟩
    · simp only [Rs.clr] at hp'
      split at hp'
      · cases hp'
      · rename_i hne
        exact hne (hi.inj p' p g hp' hg)
    · rw [St.setAt_len] at hb
      exact hi.exb p g b hg hb hbe
  refine hK v w (((r.clr p false).dropT d).setT d fun c=>if c = 0 then r.γ p else none) (by rw [St.assign_m]; exact St.setAt_m) (hk.assign ⟨by rw [St.setAt_n]; exact hd.1,by rw [St.setAt_fx]; exact hd.2⟩ ⟨rfl,hone⟩ (fun c x hx=>?_) (fun c x q hx hn=>?_) (fun c g hg=>?_) (fun c c' g hg hg'=>?_)) ?_
  · cases c with
    | zero =>
      simp only [List.getElem?_cons_zero,Option.some.injEq] at hx
      subst hx
      refine ⟨fun q hq=>by simp [PC.names] at hq,?_⟩
      rw [flat_one hone]
      simp only [RepC,if_true]
      exact RepOwn.mono (fun g hg=>by simpa [Rs.clr] using hg) (fun _ _=>rfl) (fun _ _=>rfl) hrep
    | succ c=>simp at hx
  · cases c with
    | zero=>simp only [List.getElem?_cons_zero,Option.some.injEq] at hx; subst hx; simp [PC.names] at hn
    | succ c=>simp at hx
  · split at hg
    · rename_i e0; subst e0
      refine ⟨⟨e,_,rfl⟩,(hnot g hg).1,fun hx=>(hnot g hg).2 ?_⟩
      rcases hx with ⟨p',hp'⟩ | hb
      · simp only [Rs.dropT] at hp'
        split at hp'
        · cases hp'
        · exact .inl ⟨p',hp'⟩
      · exact .inr hb
    · cases hg
  · split at hg <;> split at hg' <;> first | omega | (cases hg; done) | (cases hg'; done)
  · refine ⟨rfl,rfl,rfl,Nat.le_refl _,fun _ _ _=>rfl,fun g hg=>by simpa [Rs.clr,Rs.setT,Rs.dropT] using hg,fun g hg=>.inl (by simpa [Rs.clr,Rs.setT,Rs.dropT] using hg),fun g hg=>.inl ?_,fun b _=>rfl,rfl,fun _ _ h=>h⟩
    rw [St.assign_bx,St.setAt_len] at hg
    rcases hg with ⟨p',hp'⟩ | ⟨b,hb,hbe⟩
    · cases p' with
      | t k c =>
        simp only [Rs.setT,Rs.dropT] at hp'
        split at hp'
        · split at hp'
          · exact .inl ⟨p,hp'⟩
          · cases hp'
        · split at hp'
          · cases hp'
          · simp only [Rs.clr] at hp'
            split at hp'
            · cases hp'
            · exact .inl ⟨_,hp'⟩
      | b b c =>
        simp only [Rs.setT,Rs.dropT,Place.isT] at hp'
        have hp':(r.clr p false).γ (.b b c) = some g:=by simpa using hp'
        simp only [Rs.clr] at hp'
        split at hp'
        · cases hp'
        · exact .inl ⟨_,hp'⟩
    · exact .inr ⟨b,hb,hbe⟩
def evTake (P:Program) (st:St) (o:Oper):Option St :=
  match o.op,o.dst with
  | .load _ _,some d=>match evRd P st [] o,st.okB d with
    | some ([],⟨.one,[.al p]⟩,[]),true=>match st.at p with
      | some (.own e xs)=>some ((st.setAt p .dead).assign d ⟨.one,[.own e xs]⟩)
      | _=>none
    | _,_=>none
  | _,_=>none
theorem evTake_spec {st st':St} (h:evTake P st o = some st'):OpE P o st st':=by
  unfold evTake at h
  split at h
  · rename_i t x d ho hd
    split at h
    · rename_i p h1 h2
      split at h
      · rename_i e xs h3
        simp only [Option.some.injEq] at h
        subst h
        exact OpE.take (evRd_spec h1 trivial) h3 hd (St.okB_spec h2)
      · cases h
    · cases h
  · cases h
/-- An operation that changes the state. -/
def evEff (P:Program) (i:Nat) (st:St) (hs:Hs) (o:Oper):Option (List Prop × St × Hs) :=
  match isCB i hs with
  | true=>evCB P i st hs o
  | false=>match isCp o with
    | true=>evCp P st hs o
    | false=>match o.op with
      | .alloc t=>match o.dst,P.zero? t with
        | some d,some l=>match st.okB d,l.all (·.oneCell') with
          | true,true=>some ([],(st.addBox (l.map zeroPC)).assign d ⟨.one,[.ref st.bx.length 0]⟩,hs)
          | _,_=>none
        | _,_=>none
      | .box t x=>match o.dst,st.use x with
        | some d,some pv=>match st.okB d,pv.cs.all (·.boxable),notTup pv.sh with
          | true,true,true=>some ([],(st.addBox pv.cs).assign d ⟨.one,[.ref st.bx.length 0]⟩,hs)
          | _,_,_=>none
        | _,_=>none
      | _=>match evTake P st o with
        | some st'=>some ([],st',hs)
        | none=>evAppE P st hs o
theorem evEff_spec {i:Nat} {st st':St} {hs hs':Hs} {q:List Prop} (h:evEff P i st hs o = some (q,st',hs')) (hq:AllP q):OpE P o st st':=by
  unfold evEff at h
  split at h
  · exact evCB_spec h hq
  · split at h
    · exact evCp_spec h hq
    · split at h
      · rename_i t ho
        split at h
        · rename_i d l hd hz
          split at h
          · rename_i h1 h2
            simp only [Option.some.injEq,Prod.mk.injEq] at h
            obtain ⟨_,rfl,_⟩:=h
            exact OpE.alloc ho hd (St.okB_spec h1) hz h2
          · cases h
        · cases h
      · rename_i t x ho
        split at h
        · rename_i d pv hd hx
          split at h
          · rename_i h1 h2 h3
            simp only [Option.some.injEq,Prod.mk.injEq] at h
            obtain ⟨_,rfl,_⟩:=h
            exact OpE.box ho hd (St.okB_spec h1) hx h2 h3
          · cases h
        · cases h
      · split at h
        · rename_i st1 h1
          simp only [Option.some.injEq,Prod.mk.injEq] at h
          obtain ⟨_,rfl,_⟩:=h
          exact evTake_spec h1
        · exact evAppE_spec h hq
/-- A reader, at these states one after the other. -/
def ckR (P:Program) (ops:Array Oper) (o:Oper) (i:Nat) (Ai:List Nat) (D:List (Nat × PV)) (hs:Hs) (x:Nat × PV):List St → Option (List Prop)
  | []=>some []
  | b :: l=>match closedB (b.sig D fun j=>inB j Ai),evG P ops i (b.sig D fun j=>inB j Ai) (hsAt i hs) o with
    | true,some (c,pv,[])=>match ckR P ops o i Ai D hs x l with
      | some c'=>some (c ++ (pv = x.2) :: c')
      | none=>none
    | _,_=>none
theorem ckR_spec {ops:Array Oper} {i:Nat} {Ai:List Nat} {D:List (Nat × PV)} {hs:Hs} {x:Nat × PV}:∀ {l:List St} {q:List Prop},ckR P ops o i Ai D hs x l = some q → AllP q → ∀ b ∈ l,closedB (b.sig D fun j=>inB j Ai) = true ∧ WOp P ops o (b.sig D fun j=>inB j Ai) x.2
  | [],q,_,_,b,hb=>by cases hb
  | b :: l,q,h,hq,b',hb=>by
    simp only [ckR] at h
    split at h
    · rename_i c pv h1 h2
      split at h
      · rename_i c' h3
        simp only [Option.some.injEq] at h
        subst h
        obtain ⟨q1,q2,q3⟩:=AllP_append hq
        rcases List.mem_cons.1 hb with rfl | hb
        · refine ⟨h1,?_⟩
          rw [← q2]; exact evG_spec h2 q1
        · exact ckR_spec h3 q3 b' hb
      · cases h
    · cases h
theorem look_in {t:Nat}:∀ {l:List (Nat × PV)},t ∈ keysOf l → ∃ v,look l t = some v
  | [],h=>by cases h
  | (k,v) :: l,h=>by
    simp only [look]
    split
    · exact ⟨v,rfl⟩
    · rename_i hne
      simp only [keysOf,List.mem_cons] at h
      rcases h with h | h
      · subst h
        simp at hne
      · exact look_in h
theorem St.assign_get_ne {st:St} {d t:Nat} {pv:PV} (hf:st.get d = none) (h:d ≠ t):(st.assign d pv).get t = st.get t:=by
  unfold St.assign
  split
  · rw [St.get_put,if_neg (fun e=>h e.symm)]
  · rename_i h1
    rw [hf] at h1; cases h1
/-- It turns no temporary but its own. -/
def isAl (o:Oper):Bool :=
  match o.op with
  | .alloc _ | .box ..=>true
  | _=>false
theorem evEff_al {i:Nat} {st s:St} {hs hs':Hs} {c:List Prop} (hf:∀ d,o.dst = some d → st.get d = none) (hc:isCB i hs = false) (ha:isAl o = true) (h:evEff P i st hs o = some (c,s,hs')):∀ t,o.dst ≠ some t → s.get t = st.get t:=by
  intro t ht
  have hcp:isCp o = false:=by
    unfold isAl at ha
    split at ha
    · rename_i t' e; unfold isCp; rw [e]
    · rename_i e; unfold isCp; rw [e]
    · cases ha
  have key:∀ (d:Nat) (x:St) (pv:PV),o.dst = some d → x.get d = none → (x.assign d pv).get t = x.get t:=fun d x pv hd hx=>by
    have hne:d ≠ t:=fun e=>ht (by rw [hd,e])
    exact St.assign_get_ne hx hne
  unfold evEff at h
  rw [hc] at h
  simp only [hcp] at h
  split at h
  · split at h
    · rename_i d l hd _
      split at h
      · simp only [Option.some.injEq,Prod.mk.injEq] at h
        obtain ⟨_,rfl,_⟩:=h
        exact key d (st.addBox _) _ hd (hf d hd)
      · cases h
    · cases h
  · split at h
    · rename_i d pv hd _
      split at h
      · simp only [Option.some.injEq,Prod.mk.injEq] at h
        obtain ⟨_,rfl,_⟩:=h
        exact key d (st.addBox _) _ hd (hf d hd)
      · cases h
    · cases h
  · rename_i hA hB
    exfalso
    unfold isAl at ha
    split at ha
    · rename_i t' e; exact hA _ e
    · rename_i t' x' e; exact hB _ _ e
    · cases ha
/-- The boxes that the operation leaves as they are. -/
def frEff (i:Nat) (hs:Hs):Nat → Bool:=match isCB i hs with
  | true=>frameOf i hs
  | false=>fun _=>false
theorem evEffF_spec {i:Nat} {st st':St} {hs hs':Hs} {q:List Prop} (h:evEff P i st hs o = some (q,st',hs')) (hq:AllP q):OpEF P o st st' (frEff i hs):=by
  unfold frEff
  cases hc:isCB i hs with
  | true =>
    unfold evEff at h
    rw [hc] at h
    exact evCBF_spec h hq
  | false=>exact (evEff_spec h hq).f
theorem OpEF.ext {st s t:St} {F:Nat → Bool} (h:OpEF P o st s F) (hg:∀ k,t.get k = s.get k) (hb:t.bx = s.bx) (hn:t.n = s.n) (hm:t.m = s.m) (hf:t.fx = s.fx):OpEF P o st t F:=by
  intro a w r hi K Q hK
  refine h a w r hi K Q fun v w' r' h1 h2 h3 h4=>hK v w' r' (by rw [hm]; exact h1) (h2.ext hg hb hn hm hf) (by rw [hb]; exact h3) h4
def boxName:PC → Option Nat
  | .al (.b b _) | .vw (.b b _) _ _ _ | .el (.b b _) _ _ _=>some b
  | _=>none
theorem boxName_eq {x:PC} {n:Nat} (h:boxName x = some n):∃ c,x.names = some (.b n c):=by
  unfold boxName at h
  split at h
  · cases h; exact ⟨_,rfl⟩
  · cases h; exact ⟨_,rfl⟩
  · cases h; exact ⟨_,rfl⟩
  · cases h
def namesBx (A:List (List Nat)) (i:Nat):Nat → List (Nat × PV) → List Nat
  | _,[]=>[]
  | j,y :: l=>match Nat.beq j i || inB j (A.getD i []) || inB i (A.getD j []) with
    | true=>namesBx A i (j + 1) l
    | false=>y.2.cs.filterMap boxName ++ namesBx A i (j + 1) l
def frP (b b':St):List Nat → List Prop
  | []=>[]
  | n :: l=>(b'.bx[n]? = b.bx[n]?) :: frP b b' l
theorem frP_at {b b':St} {n:Nat}:∀ {l:List Nat},AllP (frP b b' l) → n ∈ l → b'.bx[n]? = b.bx[n]?
  | m :: l,h,hm=>by
    obtain ⟨h1,h2⟩:=h
    rcases List.mem_cons.1 hm with rfl | hm
    · exact h1
    · exact frP_at h2 hm
theorem namesBx_at {A:List (List Nat)} {i:Nat} {n:Nat}:∀ {l:List (Nat × PV)} {k j:Nat} {y:Nat × PV} {z:PC},l[j]? = some y → k + j ≠ i → (k + j) ∉ A.getD i [] → i ∉ A.getD (k + j) [] → z ∈ y.2.cs → boxName z = some n → n ∈ namesBx A i k l
  | [],k,j,y,z,hy,_,_,_,_,_=>by simp at hy
  | x :: l,k,j,y,z,hy,h1,h2,h3,hz,hn=>by
    simp only [namesBx]
    cases j with
    | zero =>
      simp only [List.getElem?_cons_zero,Option.some.injEq] at hy
      subst hy
      split
      · rename_i hb
        rw [Bool.or_eq_true,Bool.or_eq_true] at hb
        rcases hb with (hb | hb) | hb
        · exact absurd (Nat.eq_of_beq_eq_true hb) h1
        · exact absurd (inB_spec hb) h2
        · exact absurd (inB_spec hb) h3
      · exact List.mem_append_left _ (List.mem_filterMap.2 ⟨z,hz,hn⟩)
    | succ j =>
      have e:k + (j + 1) = k + 1 + j:=by omega
      rw [e] at h1 h2 h3
      have ih:=namesBx_at (l:=l) (k:=k + 1) (j:=j) (by simpa using hy) h1 h2 h3 hz hn
      split
      · exact ih
      · exact List.mem_append_right _ ih
def ownB:PC → Bool
  | .own ..=>true
  | _=>false
theorem ownB_eq {x:PC} (h:ownB x = true):∃ e xs,x = .own e xs:=by
  unfold ownB at h
  split at h
  · exact ⟨_,_,rfl⟩
  · cases h
def keepB (ks:List Nat) (al:Bool) (fr:Nat → Bool) (d:Nat) (x:PC):Bool :=
  ownB x || x.stay || (match boxName x with | some n=>fr n | none=>false) || (al && match x.names with
    | some (.t t _)=>inB t ks && !Nat.beq t d
    | _=>false)
/-- Those that the operation i neither waits for nor is waited for by, stay. -/
def stayB (ks:List Nat) (al:Bool) (fr:Nat → Bool) (d:Nat) (A:List (List Nat)) (D:List (Nat × PV)) (i:Nat):Nat → List (Nat × PV) → Bool
  | _,[]=>true
  | j,y :: l=>(Nat.beq j i || inB j (A.getD i []) || inB i (A.getD j []) || y.2.cs.all (keepB ks al fr d)) && stayB ks al fr d A D i (j + 1) l
theorem stayB_spec {ks:List Nat} {al:Bool} {fr:Nat → Bool} {d:Nat} {A:List (List Nat)} {D:List (Nat × PV)} {i:Nat}:∀ {l:List (Nat × PV)} {k:Nat},stayB ks al fr d A D i k l = true → ∀ (j:Nat) (y:Nat × PV),l[j]? = some y → k + j ≠ i → (k + j) ∉ A.getD i [] → i ∉ A.getD (k + j) [] → y.2.cs.all (keepB ks al fr d) = true
  | [],k,h,j,y,hy,_,_,_=>by simp at hy
  | x :: l,k,h,j,y,hy,h1,h2,h3=>by
    simp only [stayB,Bool.and_eq_true,Bool.or_eq_true] at h
    cases j with
    | zero =>
      simp only [List.getElem?_cons_zero,Option.some.injEq] at hy
      subst hy
      rcases h.1 with ((h4 | h4) | h4) | h4
      · exact absurd (Nat.eq_of_beq_eq_true h4) h1
      · exact absurd (inB_spec h4) h2
      · exact absurd (inB_spec h4) h3
      · exact h4
    | succ j =>
      have e:k + (j + 1) = k + 1 + j:=by omega
      rw [e] at h1 h2 h3
      exact stayB_spec h.2 j y (by simpa using hy) h1 h2 h3
/-! An operation that puts out nothing: a store among those that float; a temporary of which nothing is known stands for it. -/
def anyPV:PV:=⟨.any,[]⟩
def isAny:PV → Bool
  | ⟨.any,[]⟩=>true
  | _=>false
theorem Inv.dummy {st:St} {a:Act} {w:World} {r:Rs} {d:Nat} (h:Inv P st a w r) (hd:st.get d = none) (hn:d < st.n):Inv P (st.put d anyPV) a w r:=by
  have hat:∀ p x,(st.put d anyPV).at p = some x → st.at p = some x:=by
    intro p x hx
    cases p with
    | t t c =>
      obtain ⟨pv,h1,h2⟩:=St.at_tmp hx
      rw [St.get_put] at h1
      split at h1
      · cases h1; simp [anyPV] at h2
      · simp [St.at,h1,h2]
    | b b c=>exact hx
  have hat':∀ p x,st.at p = some x → (st.put d anyPV).at p = some x:=by
    intro p x hx
    cases p with
    | t t c =>
      obtain ⟨pv,h1,h2⟩:=St.at_tmp hx
      have hne:t ≠ d:=fun e=>by rw [e,hd] at h1; cases h1
      simp [St.at,St.get_put,hne,h1,h2]
    | b b c=>exact hx
  have hex:∀ p,st.ex p → (st.put d anyPV).ex p:=by
    intro p hp
    cases p with
    | t t c =>
      obtain ⟨pv,hp⟩:=hp
      have hne:t ≠ d:=fun e=>by rw [e,hd] at hp; cases hp
      exact ⟨pv,by rw [St.get_put,if_neg hne]; exact hp⟩
    | b b c=>exact hp
  refine ⟨h.sz,h.m,fun t pv ht=>?_,h.bx,fun p x hx=>?_,fun p x q hx hq=>hex q (h.nm p x q (hat p x hx) hq),fun p g hg=>?_,h.inj,h.exb,h.bb,h.sh,h.defers,h.lw,h.fx⟩
  · rw [St.get_put] at ht
    split at ht
    · rename_i e
      subst e
      cases ht
      have hlt:t < a.tmps.size:=by rw [h.sz]; exact hn
      exact ⟨a.tmps[t],Array.getElem?_eq_getElem hlt,rfl⟩
    · exact h.tm t pv ht
  · refine (h.cell p x (hat p x hx)).mono (fun _ h=>h) (fun _ _=>rfl) (fun _ _=>rfl) (fun b hb=>⟨hb,rfl⟩) (fun q hq hl=>⟨?_,rfl⟩)
    obtain ⟨y,hy,hyd⟩:=hl
    exact ⟨y,hat q y hy,hyd⟩
  · obtain ⟨e,xs,hx⟩:=h.live p g hg
    exact ⟨e,xs,hat' p _ hx⟩
theorem OpE.dummy {st s:St} {d:Nat} (h:OpE P o st s) (hd:s.get d = none) (hn:d < s.n):OpE P o st (s.put d anyPV):=fun a w r hi K Q hK =>
  h a w r hi K Q fun v w' r' h1 h2 h3=>hK v w' r' h1 (h2.dummy hd hn) h3
theorem OpE.of_inv {st st':St} (h:∀ a w r,Inv P st a w r → OpE P o st st'):OpE P o st st':=fun a w r hi=>h a w r hi a w r hi
def evStoE (P:Program) (st:St) (o:Oper):Option St :=
  match o.op,o.dst with
  | .store t x y,none=>match one? (st.use x),st.use y,P.size? t with
    | some (.ref b off),some pv,some n=>match st.bx[b]? with
      | some cs=>match notTup pv.sh,Nat.beq pv.cs.length n,Nat.ble (off + n) cs.length,pv.cs.all (·.boxable),noNmB b off n st.tm with
        | true,true,true,true,true=>some (st.setBox b off pv.cs)
        | _,_,_,_,_=>none
      | none=>none
    | _,_,_=>none
  | _,_=>none
theorem evStoE_spec {st st':St} (h:evStoE P st o = some st'):OpE P o st st' ∧ o.dst = none:=by
  unfold evStoE at h
  split at h
  · rename_i t x y ho hd
    split at h
    · rename_i b off pv n h1 h2 h3
      split at h
      · rename_i cs h4
        split at h
        · rename_i h5 h6 h7 h8 h9
          simp only [Option.some.injEq] at h
          subst h
          refine ⟨OpE.of_inv fun a w r hi=>?_,hd⟩
          exact OpE.storeBox ho hd h3 (one?_eq h1) h2 h5 h4 (Nat.eq_of_beq_eq_true h6) (Nat.le_of_ble_eq_true h7) h8 (hi.noNm h9)
        · cases h
      · cases h
    · cases h
  · cases h
def ckS (P:Program) (i:Nat) (o:Oper) (x:Nat × PV) (D:List (Nat × PV)) (A:List (List Nat)) (b b':St):Option (List Prop) :=
  match o.guard,isAny x.2,closedB (b.sig D fun j=>inB j (A.getD i [])),evStoE P (b.sig D fun j=>inB j (A.getD i [])) o with
  | none,true,true,some s=>match sameB (s.put x.1 anyPV) (b'.sig D fun j=>inB j (A.getD i []) || Nat.beq j i) && Nat.ble b.bx.length b'.bx.length && stayB [] false (fun _=>false) x.1 A D i 0 D && !inB x.1 (keysOf s.tm) && Nat.ble (x.1 + 1) s.n with
    | true=>some [sameP (s.put x.1 anyPV) (b'.sig D fun j=>inB j (A.getD i []) || Nat.beq j i)]
    | false=>none
  | _,_,_,_=>none
theorem ckS_spec {i : Nat} {x : Nat × PV} {D : List (Nat × PV)} {A : List (List Nat)} {b b' : St} {q : List Prop} (h : ckS P i o x D A b b' = some q) (hq : AllP q) :
    o.dst = none ∧ o.guard = none ∧ closedB (b.sig D fun j=>inB j (A.getD i [])) = true ∧ OpEF P o (b.sig D fun j=>inB j (A.getD i [])) (b'.sig D fun j=>inB j (A.getD i []) || Nat.beq j i) (fun _=>false) ∧ b.bx.length ≤ b'.bx.length ∧
      ∀ (j':Nat) (y:Nat × PV),D[j']? = some y → j' ≠ i → j' ∉ A.getD i [] → i ∉ A.getD j' [] → ∀ z,z ∈ y.2.cs → keepsC (b.sig D fun j=>inB j (A.getD i [])) (b'.sig D fun j=>inB j (A.getD i []) || Nat.beq j i) o.dst z ∨ ∃ e xs,z = .own e xs:=by
  unfold ckS at h
  split at h
  · rename_i s hg hx hc hs
    split at h
    · rename_i h3
      simp only [Option.some.injEq] at h
      subst h
      simp only [Bool.and_eq_true,Bool.not_eq_true'] at h3
      obtain ⟨⟨⟨⟨k1,k2⟩,k3⟩,k4⟩,k5⟩:=h3
      obtain ⟨h4,h5⟩:=evStoE_spec hs
      obtain ⟨g1,g2,g3,g4,g5⟩:=same_get hq.1 k1
      have hnone:s.get x.1 = none:=look_keys (fun hm=>by rw [inB_mem hm] at k4; cases k4)
      refine ⟨h5,hg,hc,((h4.dummy hnone (Nat.le_of_ble_eq_true k5)).ext g1 g2 g3 g4 g5).f,Nat.le_of_ble_eq_true k2,fun j' y hy n1 n2 n3 z hz=>?_⟩
      have hst:=stayB_spec k3 j' y hy (by rw [Nat.zero_add]; exact n1) (by rw [Nat.zero_add]; exact n2) (by rw [Nat.zero_add]; exact n3)
      have hk:=List.all_eq_true.1 hst z hz
      unfold keepB at hk
      rw [Bool.or_eq_true,Bool.or_eq_true,Bool.or_eq_true] at hk
      rcases hk with ((hk | hk) | hk) | hk
      · exact .inr (ownB_eq hk)
      · exact .inl (.inl hk)
      · split at hk <;> cases hk
      · simp at hk
    · cases h
  · cases h
/-- The operations that float, one after the other. -/
def ck (P:Program) (ops:Array Oper) (D:List (Nat × PV)) (A:List (List Nat)) (E:List Nat) (Bs:List St) (hs:Hs):Nat → List Oper → List (Nat × PV) → Option (List Prop)
  | _,_,[]=>some []
  | _,[],_ :: _=>none
  | i,o :: l,x :: m=>match o.dst with
    | none=>match idxB i 0 E with
      | some p=>match Bs[p]?,Bs[p + 1]? with
        | some b,some b'=>match ckS P i o x D A b b',ck P ops D A E Bs hs (i + 1) l m with
          | some c,some c'=>some (c ++ c')
          | _,_=>none
        | _,_=>none
      | none=>none
    | some d=>match Nat.beq d x.1,idxB i 0 E with
      | true,some p=>match Bs[p]?,Bs[p + 1]?,o.guard with
        | some b,some b',none=>match closedB (b.sig D fun j=>inB j (A.getD i [])),evEff P i (b.sig D fun j=>inB j (A.getD i [])) (hsAt i hs) o with
          | true,some (c,s,[])=>match sameB s (b'.sig D fun j=>inB j (A.getD i []) || Nat.beq j i) && Nat.ble b.bx.length b'.bx.length && stayB (keysOf (b.sig D fun j=>inB j (A.getD i [])).tm) (isAl o && !isCB i (hsAt i hs) && !inB d (keysOf (b.sig D fun j=>inB j (A.getD i [])).tm)) (frEff i (hsAt i hs)) d A D i 0 D with
            | true=>match ck P ops D A E Bs hs (i + 1) l m with
              | some c'=>some (c ++ (sameP s (b'.sig D fun j=>inB j (A.getD i []) || Nat.beq j i)) :: (frP b b' (namesBx A i 0 D) ++ c'))
              | none=>none
            | false=>none
          | _,_=>none
        | _,_,_=>none
      | true,none=>match ckR P ops o i (A.getD i []) D hs x ((Bs.take (E.countP (fun e=>!inB i (A.getD e [])) + 1)).drop (E.countP fun e=>inB e (A.getD i []))) with
        | some c=>match ck P ops D A E Bs hs (i + 1) l m with
          | some c'=>some (c ++ c')
          | none=>none
        | none=>none
      | _,_=>none
theorem ck_spec {ops : Array Oper} {D : List (Nat × PV)} {A : List (List Nat)} {E : List Nat} {Bs : List St} {hs : Hs} (hBl : Bs.length = E.length + 1) : ∀ {m : List (Nat × PV)} {l : List Oper} {k : Nat} {q : List Prop}, ck P ops D A E Bs hs k l m = some q → AllP q → ∀ (j : Nat) (x : Nat × PV), m[j]? = some x → ∃ o, l[j]? = some o ∧ (o.dst = some x.1 ∨ (o.dst = none ∧ k + j ∈ E)) ∧
    (k + j ∉ E → ∀ p,E.countP (fun e=>inB e (A.getD (k + j) [])) ≤ p → p ≤ E.countP (fun e=>!inB (k + j) (A.getD e [])) → closedB ((Bs.getD p ⟨0,[],[],0,[]⟩).sig D fun i=>inB i (A.getD (k + j) [])) = true ∧ WOp P ops o ((Bs.getD p ⟨0,[],[],0,[]⟩).sig D fun i=>inB i (A.getD (k + j) [])) x.2) ∧
    (k + j ∈ E → ∃ p,∃ F:Nat → Bool,idxB (k + j) 0 E = some p ∧ o.guard = none ∧ closedB ((Bs.getD p ⟨0,[],[],0,[]⟩).sig D fun i=>inB i (A.getD (k + j) [])) = true ∧ OpEF P o ((Bs.getD p ⟨0,[],[],0,[]⟩).sig D fun i=>inB i (A.getD (k + j) [])) ((Bs.getD (p + 1) ⟨0,[],[],0,[]⟩).sig D fun i=>inB i (A.getD (k + j) []) || Nat.beq i (k + j)) F ∧
      (Bs.getD p ⟨0,[],[],0,[]⟩).bx.length ≤ (Bs.getD (p + 1) ⟨0,[],[],0,[]⟩).bx.length ∧ ∀ (j':Nat) (y:Nat × PV),D[j']? = some y → j' ≠ k + j → j' ∉ A.getD (k + j) [] → (k + j) ∉ A.getD j' [] → ∀ z,z ∈ y.2.cs → keepsC ((Bs.getD p ⟨0,[],[],0,[]⟩).sig D fun i=>inB i (A.getD (k + j) [])) ((Bs.getD (p + 1) ⟨0,[],[],0,[]⟩).sig D fun i=>inB i (A.getD (k + j) []) || Nat.beq i (k + j)) o.dst z ∨ (∃ e xs,z = .own e xs) ∨ ∃ b c,z.names = some (.b b c) ∧ F b = true ∧ (Bs.getD (p + 1) ⟨0,[],[],0,[]⟩).bx[b]? = (Bs.getD p ⟨0,[],[],0,[]⟩).bx[b]?)
  | [],l,k,q,h,hq,j,x,hx=>by simp at hx
  | y :: m,[],k,q,h,hq,j,x,hx=>by simp [ck] at h
  | y :: m,o :: l,k,q,h,hq,j,x,hx=>by
    have step:∀ {q':List Prop},ck P ops D A E Bs hs (k + 1) l m = some q' → AllP q' → ∀ (j:Nat) (x:Nat × PV),m[j]? = some x → _:=fun h' hq' j x hx=>ck_spec hBl h' hq' j x hx
    simp only [ck] at h
    split at h
    · rename_i hd0
      split at h
      · rename_i p hp
        split at h
        · rename_i b b' hb hb'
          split at h
          · rename_i c c' h1 h4
            simp only [Option.some.injEq] at h
            subst h
            obtain ⟨q1,q3⟩:=AllP_append hq
            cases j with
            | zero =>
              simp only [List.getElem?_cons_zero,Option.some.injEq] at hx
              subst hx
              have e1:Bs.getD p ⟨0,[],[],0,[]⟩ = b:=by simp [List.getD_eq_getElem?_getD,hb]
              have e2:Bs.getD (p + 1) ⟨0,[],[],0,[]⟩ = b':=by simp [List.getD_eq_getElem?_getD,hb']
              have hmem:=List.mem_of_getElem? (idxB_spec hp).2
              obtain ⟨_,g2,g3,g4,g5,g6⟩:=ckS_spec h1 q1
              refine ⟨o,rfl,.inr ⟨hd0,hmem⟩,fun hn=>absurd hmem hn,fun _=>⟨p,fun _=>false,hp,g2,?_⟩⟩
              rw [e1,e2]
              exact ⟨g3,g4,g5,fun j' y hy n1 n2 n3 z hz=>(g6 j' y hy n1 n2 n3 z hz).imp (fun h=>h) .inl⟩
            | succ j =>
              obtain ⟨o',g1,g2,g3,g4⟩:=step h4 q3 j x (by simpa using hx)
              have e:k + (j + 1) = k + 1 + j:=by omega
              rw [e]
              exact ⟨o',by simpa using g1,g2,g3,g4⟩
          · cases h
        · cases h
      · cases h
    · rename_i d hd
      split at h
      · rename_i p hdx hp
        have hdx:=Nat.eq_of_beq_eq_true hdx
        split at h
        · rename_i b b' hb hb' hg
          split at h
          · rename_i c s h1 h2
            split at h
            · rename_i h3
              split at h
              · rename_i c' h4
                simp only [Option.some.injEq] at h
                subst h
                obtain ⟨q1,q2,q3'⟩:=AllP_append hq
                obtain ⟨qf,q3⟩:=AllP_append q3'
                cases j with
                | zero =>
                  simp only [List.getElem?_cons_zero,Option.some.injEq] at hx
                  subst hx
                  simp only [Bool.and_eq_true] at h3
                  have e1:Bs.getD p ⟨0,[],[],0,[]⟩ = b:=by simp [List.getD_eq_getElem?_getD,hb]
                  have e2:Bs.getD (p + 1) ⟨0,[],[],0,[]⟩ = b':=by simp [List.getD_eq_getElem?_getD,hb']
                  have hmem:=List.mem_of_getElem? (idxB_spec hp).2
                  refine ⟨o,rfl,.inl (by rw [hd,hdx]),fun hn=>absurd hmem hn,fun _=>⟨p,frEff k (hsAt k hs),hp,hg,by rw [e1]; exact h1,?_,by rw [e1,e2]; exact Nat.le_of_ble_eq_true h3.1.2,?_⟩⟩
                  · rw [e1,e2]
                    obtain ⟨k1,k2,k3,k4,k5⟩:=same_get q2 h3.1.1
                    exact (evEffF_spec h2 q1).ext k1 k2 k3 k4 k5
                  · rw [e1,e2]
                    intro j' y hy g1 g2 g3 z hz
                    have hst:=stayB_spec h3.2 j' y hy (by rw [Nat.zero_add]; exact g1) (by rw [Nat.zero_add]; exact g2) (by rw [Nat.zero_add]; exact g3)
                    have hk:=List.all_eq_true.1 hst z hz
                    obtain ⟨k1,_⟩:=same_get q2 h3.1.1
                    unfold keepB at hk
                    rw [Bool.or_eq_true,Bool.or_eq_true,Bool.or_eq_true] at hk
                    rcases hk with ((hk | hk) | hk) | hk
                    · exact .inr (.inl (ownB_eq hk))
                    · exact .inl (.inl hk)
                    · split at hk
                      · rename_i n hn
                        obtain ⟨c9,hc9⟩:=boxName_eq hn
                        exact .inr (.inr ⟨n,c9,hc9,hk,frP_at qf (namesBx_at hy (by rw [Nat.zero_add]; exact g1) (by rw [Nat.zero_add]; exact g2) (by rw [Nat.zero_add]; exact g3) hz hn)⟩)
                      · cases hk
                    · refine .inl ?_
                      rw [Bool.and_eq_true,Bool.and_eq_true,Bool.and_eq_true,Bool.not_eq_true',Bool.not_eq_true'] at hk
                      obtain ⟨⟨⟨hal,hcb⟩,hfr⟩,hk⟩:=hk
                      split at hk
                      · rename_i t c hn
                        rw [Bool.and_eq_true,Bool.not_eq_true'] at hk
                        have hne:o.dst ≠ some t:=by
                          rw [hd]
                          intro e
                          have e:=Option.some.inj e
                          rw [e,Nat.beq_refl] at hk
                          cases hk.2
                        exact .inr ⟨t,c,hn,hne,(k1 t).trans (evEff_al (fun d' hd'=>by
                          rw [hd] at hd'
                          cases hd'
                          exact look_keys (fun h=>by rw [inB_mem h] at hfr; cases hfr)) hcb hal h2 t hne),look_in (inB_spec hk.1)⟩
                      · cases hk
                | succ j =>
                  obtain ⟨o',g1,g2,g3,g4⟩:=step h4 q3 j x (by simpa using hx)
                  have e:k + (j + 1) = k + 1 + j:=by omega
                  rw [e]
                  exact ⟨o',by simpa using g1,g2,g3,g4⟩
              · cases h
            · cases h
          · cases h
        · cases h
      · rename_i hdx hp
        have hdx:=Nat.eq_of_beq_eq_true hdx
        split at h
        · rename_i c h1
          split at h
          · rename_i c' h4
            simp only [Option.some.injEq] at h
            subst h
            obtain ⟨q1,q3⟩:=AllP_append hq
            cases j with
            | zero =>
              simp only [List.getElem?_cons_zero,Option.some.injEq] at hx
              subst hx
              refine ⟨o,rfl,.inl (by rw [hd,hdx]),fun _ p hlo hhi=>?_,fun hn=>absurd hn (idxB_none hp)⟩
              rw [Nat.add_zero] at hlo hhi ⊢
              refine ckR_spec h1 q1 _ ?_
              have hpl:p < Bs.length:=by
                have:=List.countP_le_length (p:=fun e=>!inB k (A.getD e [])) (l:=E)
                omega
              have e1:Bs.getD p ⟨0,[],[],0,[]⟩ = Bs[p]:=by simp [List.getD_eq_getElem?_getD,hpl]
              rw [e1]
              refine List.mem_of_getElem? (i:=p - E.countP fun e=>inB e (A.getD k [])) ?_
              rw [List.getElem?_drop,List.getElem?_take,if_pos (by omega),show E.countP (fun e=>inB e (A.getD k [])) + (p - E.countP fun e=>inB e (A.getD k [])) = p by omega]
              exact List.getElem?_eq_getElem hpl
            | succ j =>
              obtain ⟨o',g1,g2,g3,g4⟩:=step h4 q3 j x (by simpa using hx)
              have e:k + (j + 1) = k + 1 + j:=by omega
              rw [e]
              exact ⟨o',by simpa using g1,g2,g3,g4⟩
          · cases h
        · cases h
      · cases h
/-- Each of them waits for those ahead of it. -/
def chainB (A:List (List Nat)):List Nat → Bool
  | []=>true
  | e :: l=>l.all (fun e'=>inB e (A.getD e' [])) && chainB A l
theorem chainB_spec {A:List (List Nat)}:∀ {E:List Nat},chainB A E = true → ∀ (i j x y:Nat),i < j → E[i]? = some x → E[j]? = some y → x ∈ A.getD y []
  | [],_,i,j,x,y,_,hx,_=>by simp at hx
  | e :: E,h,i,j,x,y,hij,hx,hy=>by
    simp only [chainB,Bool.and_eq_true] at h
    cases j with
    | zero=>omega
    | succ j =>
      cases i with
      | zero =>
        simp only [List.getElem?_cons_zero,Option.some.injEq] at hx
        subst hx
        exact inB_spec (List.all_eq_true.1 h.1 y (List.mem_of_getElem? (by simpa using hy)))
      | succ i=>exact chainB_spec h.2 i j x y (by omega) (by simpa using hx) (by simpa using hy)
def basesB (D:List (Nat × PV)) (n:Nat) (Bs:List St):Bool:=Bs.all fun b=>freshB b.tm n D
def basesP (st:St):List St → List Prop
  | []=>[]
  | b :: l=>((b.n,b.m,b.fx) = (st.n,st.m,st.fx)) :: basesP st l
theorem basesP_spec {st:St}:∀ {l:List St},AllP (basesP st l) → ∀ b ∈ l,b.n = st.n ∧ b.m = st.m ∧ b.fx = st.fx
  | [],_,b,hb=>by cases hb
  | x :: l,h,b,hb=>by
    obtain ⟨h1,h2⟩:=h
    rcases List.mem_cons.1 hb with rfl | hb
    · simpa using h1
    · exact basesP_spec h2 b hb
def lastB:List St → St → St
  | [],d=>d
  | [b],_=>b
  | _ :: l,d=>lastB l d
theorem lastB_eq:∀ {l:List St} {d:St} {n:Nat},l.length = n + 1 → lastB l d = l.getD n ⟨0,[],[],0,[]⟩
  | [b], d, n, h => by have : n = 0 := by simp at h; omega
                       subst this; rfl
  | _ :: b :: l,d,0,h=>by simp at h
  | _ :: b :: l,d,n + 1,h=>by
    have:=lastB_eq (l:=b :: l) (d:=d) (n:=n) (by simpa using h)
    simpa [lastB,List.getD_eq_getElem?_getD] using this
/-- A whole such region: the bases are told. -/
def evDE (P:Program) (l:List Oper) (A:List (List Nat)) (E:List Nat) (Bs:List St) (D:List (Nat × PV)) (st:St) (hs:Hs) (hs2:Hs):Ez :=
  match Nat.ble D.length l.length && ancB l A && tailB l A D.length && chainB A E && basesB D st.n (st :: Bs) && (D.all fun x=>!inB x.1 st.fx) && Nat.beq Bs.length E.length && E.all (fun e=>Nat.ble (e + 1) D.length),ck P l.toArray D A E (st :: Bs) hs 0 l D with
  | true,some c=>match evN3 P l.toArray (l.length - D.length) D.length (l.drop D.length) { lastB (st :: Bs) st with tm:=D ++ (lastB (st :: Bs) st).tm } hs2 with
    | some (c',st',hs'')=>some (basesP st Bs ++ (c ++ c'),st',hs'')
    | none=>none
  | _,_=>none
theorem Tri.dE {id : Nat} {l : List Oper} {Q : Exit → St → Prop} {st : St} (hm : P.follows .mixedOrders = true) (A : List (List Nat)) (E : List Nat) (Bs : List St) (D : List (Nat × PV)) (ts : List Nat) (nb : Nat) (fx : List Fix) (hs hs2 : Hs) (q : List Prop) (st' : St)
    (hq:AllP q) (hy:Q .normal st') (h:(match evDE P l A E Bs D st hs hs2 with | some (c,s,[])=>(match fin P ts nb fx s with | some s'=>some (c,s') | none=>none) | _=>none) = some (q,st'):=by kernel_rfl):Tri P (.region id l.toArray true) Q st:=by
  split at h
  · rename_i c s h0
    split at h
    · rename_i s' hf
      cases h
      unfold evDE at h0
      split at h0
      · rename_i c0 h1 h2
        split at h0
        · rename_i c1 st1 hs1 h3
          simp only [Option.some.injEq,Prod.mk.injEq] at h0
          obtain ⟨rfl,rfl,rfl⟩:=h0
          obtain ⟨q1,q2⟩:=AllP_append hq
          obtain ⟨q3,q4⟩:=AllP_append q2
          simp only [Bool.and_eq_true] at h1
          obtain ⟨⟨⟨⟨⟨⟨⟨k1,k2⟩,k3⟩,k4⟩,k5⟩,k6⟩,k7⟩,k8⟩:=h1
          have hBl:(st :: Bs).length = E.length + 1:=by rw [List.length_cons,Nat.eq_of_beq_eq_true k7]
          have hck:=ck_spec (P:=P) hBl h2 q3
          have hlast:=lastB_eq (d:=st) hBl
          refine Tri.drawE hm D A E (fun p=>(st :: Bs).getD p ⟨0,[],[],0,[]⟩) rfl (fun p hp=>?_) k6 (by rw [k1,k2,k3]; rfl) (chainB_spec k4) (fun i x hx hiE=>?_) (fun p e hp=>?_) ?_
          · have hpl:p < (st :: Bs).length:=by omega
            have e1:(st :: Bs).getD p ⟨0,[],[],0,[]⟩ = (st :: Bs)[p]:=by rw [List.getD_eq_getElem?_getD,List.getElem?_eq_getElem hpl]; rfl
            have hmem:(st :: Bs)[p] ∈ st :: Bs:=List.getElem_mem hpl
            simp only [e1]
            have hfr:=List.all_eq_true.1 k5 _ hmem
            rcases List.mem_cons.1 hmem with e2 | e2
            · rw [e2]; rw [e2] at hfr; exact ⟨rfl,rfl,rfl,hfr⟩
            · obtain ⟨g1,g2,g3⟩:=basesP_spec q1 _ e2
              exact ⟨g1,g2,g3,hfr⟩
          · obtain ⟨o,g1,g2,g3,_⟩:=hck i x hx
            rw [Nat.zero_add] at g3 g2
            exact ⟨o,g1,g2.resolve_right (fun h=>hiE h.2),g3 hiE⟩
          · have hlt:=Nat.le_of_ble_eq_true (List.all_eq_true.1 k8 e (List.mem_of_getElem? hp))
            obtain ⟨o,g1,g2,_,g4⟩:=hck e D[e] (List.getElem?_eq_getElem hlt)
            have g2:o.dst = some (D[e]).1 ∨ o.dst = none:=g2.imp (fun h=>h) (fun h=>h.1)
            rw [Nat.zero_add] at g4
            obtain ⟨p',F,m1,m2,m3,m4,m5,m6⟩:=g4 (List.mem_of_getElem? hp)
            -- the place of e is one
            have hpp:p' = p:=by
              have e1:=(idxB_spec m1).2
              rw [Nat.sub_zero] at e1
              have self:e ∉ A.getD e []:=by
                intro hin'
                have hel:e < l.length:=Nat.lt_of_lt_of_le hlt (Nat.le_of_ble_eq_true k1)
                have:=ancB_in (f:=fun j=>decide (j < e)) k2 (fun i o ho hf e' he' hb=>by
                  have h1:=ancB_on k2 i o ho e' he' hb
                  have h2:=of_decide_eq_true hf
                  exact decide_eq_true (by omega)) e l[e] (List.getElem?_eq_getElem hel) (fun e' he' hb=>decide_eq_true (ancB_on k2 e l[e] (List.getElem?_eq_getElem hel) e' he' hb)) e hin'
                have:=of_decide_eq_true this
                omega
              rcases Nat.lt_trichotomy p' p with h | h | h
              · exact absurd (chainB_spec k4 p' p e e h e1 hp) self
              · exact h
              · exact absurd (chainB_spec k4 p p' e e h hp e1) self
            subst hpp
            refine ⟨o,D[e],F,g1,List.getElem?_eq_getElem hlt,g2,m2,m3,m4,m5,m6⟩
          · show TriO P l.toArray (l.drop D.length) (Q .normal) { (st :: Bs).getD E.length ⟨0,[],[],0,[]⟩ with tm:=D ++ ((st :: Bs).getD E.length ⟨0,[],[],0,[]⟩).tm }
            rw [← hlast]
            exact evN3_spec _ _ _ _ _ h3 q4 (TriO.turn (fin_turns hf) (by rw [List.drop_eq_nil_of_le (by simp)]; exact TriO.nil hy))
        · cases h0
      · cases h0
    · cases h
  · cases h
theorem Tri.dEn {id : Nat} {l : List Oper} {y : Code} {Q : Exit → St → Prop} {st : St} (hm : P.follows .mixedOrders = true) (A : List (List Nat)) (E : List Nat) (Bs : List St) (D : List (Nat × PV)) (ts : List Nat) (nb : Nat) (fx : List Fix) (hs hs2 : Hs) (q : List Prop) (st' : St)
    (hq:AllP q) (hy:Tri P y Q st') (h:(match evDE P l A E Bs D st hs hs2 with | some (c,s,[])=>(match fin P ts nb fx s with | some s'=>some (c,s') | none=>none) | _=>none) = some (q,st'):=by kernel_rfl):Tri P (.seq (.region id l.toArray true) y) Q st :=
  Tri.seq (Tri.dE hm A E Bs D ts nb fx hs hs2 q st' hq hy h)
end
end Go.Proofs.YtoclajfeeebbbadGreatDoor.E
