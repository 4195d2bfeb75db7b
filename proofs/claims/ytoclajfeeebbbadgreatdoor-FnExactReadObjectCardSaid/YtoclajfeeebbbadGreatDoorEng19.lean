/- The engine, part AG: rows told apart: a row that lies within a row is a header in the frame, a plain value; what it holds is told beside the frame. Plain lemmas; no program. -/
import Derived.Test.YtoclajfeeebbbadGreatDoorEng18
set_option linter.unusedVariables false
set_option linter.unusedSectionVars false
set_option linter.unusedSimpArgs false
namespace Go.Proofs.YtoclajfeeebbbadGreatDoor.E
open Go.RowKit
variable [LaidFacts]
section
variable {P:Program}
/-- A row told apart: its header, its elements' type, its cells. -/
structure Rw where
  v:Value
  e:TypeId
  xs:List (List PC)
def Rw.b (x:Rw):Option Nat:=x.v.ownBlock
def bks (ρ:List Rw):List Nat:=ρ.filterMap Rw.b
def X2 (r:Rs) (nb:Nat) (ρ:List Rw) (g:Nat):Prop:=r.X nb g ∨ g ∈ bks ρ
/-- They are there, each alone; their cells are plain values. -/
structure Held (P:Program) (w:World) (r:Rs) (nb:Nat) (ρ:List Rw):Prop where
  own:∀ x ∈ ρ,RepOwn P w (fun _=>False) x.e x.xs x.v x.b
  one:(bks ρ).Nodup
  off:∀ g ∈ bks ρ,¬ r.Sh g ∧ ¬ r.X nb g
theorem Held.nil {w:World} {r:Rs} {nb:Nat}:Held P w r nb []:=⟨fun _ h=>(by cases h),List.nodup_nil,fun g h=>(by cases h)⟩
theorem bks_mem {ρ:List Rw} {g:Nat}:g ∈ bks ρ ↔ ∃ x ∈ ρ,x.b = some g:=by simp [bks]
theorem bks_app (a b:List Rw):bks (a ++ b) = bks a ++ bks b:=by simp [bks]
theorem RepOwn.lt {w:World} {Sh:Nat → Prop} {e:TypeId} {xs:List (List PC)} {v:Value} {o:Option Nat} (h:RepOwn P w Sh e xs v o) {g:Nat} (hg:o = some g):g < w.heap.size:=by
  obtain ⟨vals,ho,hb,_⟩:=h
  exact (ho.lt g (hb.trans hg)).2
theorem Held.lt {w:World} {r:Rs} {nb:Nat} {ρ:List Rw} (h:Held P w r nb ρ) {g:Nat} (hg:g ∈ bks ρ):g < w.heap.size:=by
  obtain ⟨x,hx,hb⟩:=bks_mem.1 hg
  exact (h.own x hx).lt hb
structure Step2 (m:Nat) (w:World) (r:Rs) (nb:Nat) (ρ:List Rw) (w':World) (r':Rs) (nb':Nat) (ρ':List Rw):Prop where
  os:w'.os = w.os
  tape:w'.tape = w.tape
  output:w'.output = w.output
  size:w.heap.size ≤ w'.heap.size
  block:∀ g,g < w.heap.size → ¬ X2 r nb ρ g → w'.heap[g]? = w.heap[g]?
  sh:∀ g,r.Sh g → r'.Sh g
  shNew:∀ g,r'.Sh g → r.Sh g ∨ X2 r nb ρ g ∨ w.heap.size ≤ g
  x:∀ g,X2 r' nb' ρ' g → X2 r nb ρ g ∨ w.heap.size ≤ g
  β:∀ b,b < m → r'.β b = r.β b
  κ:r'.κ = r.κ
  ty:∀ g T,bty w g = some T → bty w' g = some T
theorem Step2.refl (m:Nat) (w:World) (r:Rs) (nb:Nat) (ρ:List Rw):Step2 m w r nb ρ w r nb ρ :=
  ⟨rfl,rfl,rfl,Nat.le_refl _,fun _ _ _=>rfl,fun _ h=>h,fun _ h=>.inl h,fun _ h=>.inl h,fun _ _=>rfl,rfl,fun _ _ h=>h⟩
theorem Step2.trans {m:Nat} {w₀ w₁ w₂:World} {r₀ r₁ r₂:Rs} {n₀ n₁ n₂:Nat} {ρ₀ ρ₁ ρ₂:List Rw} (h:Step2 m w₀ r₀ n₀ ρ₀ w₁ r₁ n₁ ρ₁) (k:Step2 m w₁ r₁ n₁ ρ₁ w₂ r₂ n₂ ρ₂):Step2 m w₀ r₀ n₀ ρ₀ w₂ r₂ n₂ ρ₂ where
  os:=k.os.trans h.os
  tape:=k.tape.trans h.tape
  output:=k.output.trans h.output
  size:=Nat.le_trans h.size k.size
  block:=fun g hg hx=>by
    rw [k.block g (Nat.lt_of_lt_of_le hg h.size) (fun h1=>(h.x g h1).elim hx (fun h2=>by omega)),h.block g hg hx]
  sh:=fun g hg=>k.sh g (h.sh g hg)
  shNew:=fun g hg=>by
    rcases k.shNew g hg with h1 | h1 | h1
    · exact h.shNew g h1
    · rcases h.x g h1 with h2 | h2
      · exact .inr (.inl h2)
      · exact .inr (.inr h2)
    · exact .inr (.inr (Nat.le_trans h.size h1))
  x:=fun g hg=>by
    rcases k.x g hg with h1 | h1
    · exact h.x g h1
    · exact .inr (Nat.le_trans h.size h1)
  β:=fun b hb=>by rw [k.β b hb,h.β b hb]
  κ:=k.κ.trans h.κ
  ty:=fun g T hg=>k.ty g T (h.ty g T hg)
/-- What is told apart stands while its blocks stand. -/
theorem Held.go {w w':World} {r r':Rs} {nb nb':Nat} {ρ:List Rw} (h:Held P w r nb ρ) (hw:∀ g ∈ bks ρ,w'.heap[g]? = w.heap[g]?) (ho:∀ g ∈ bks ρ,¬ r'.Sh g ∧ ¬ r'.X nb' g):Held P w' r' nb' ρ :=
  ⟨fun x hx=>(h.own x hx).mono (fun _ h=>h) (fun _ h=>h.elim) fun k hk=>hw k (bks_mem.2 ⟨x,hx,hk⟩),h.one,ho⟩
/-- An old step leaves rows told apart as they are. -/
theorem Held.step {m:Nat} {w w':World} {r r':Rs} {nb nb':Nat} {ρ:List Rw} (h:Held P w r nb ρ) (hs:Step m w r nb w' r' nb'):Held P w' r' nb' ρ ∧ Step2 m w r nb ρ w' r' nb' ρ:=by
  refine ⟨h.go (fun g hg=>hs.block g (h.lt hg) (h.off g hg).2) fun g hg=>?_,⟨hs.os,hs.tape,hs.output,hs.size,fun g hg hx=>hs.block g hg fun h1=>hx (.inl h1),hs.sh,fun g hg=>?_,fun g hg=>?_,hs.β,hs.κ,hs.ty⟩⟩
  · have hlt:=h.lt hg
    obtain ⟨h1,h2⟩:=h.off g hg
    refine ⟨fun h3=>?_,fun h3=>?_⟩
    · rcases hs.shNew g h3 with h4 | h4 | h4
      · exact h1 h4
      · exact h2 h4
      · omega
    · rcases hs.x g h3 with h4 | h4
      · exact h2 h4
      · omega
  · rcases hs.shNew g hg with h4 | h4 | h4
    · exact .inl h4
    · exact .inr (.inl (.inl h4))
    · exact .inr (.inr h4)
  · rcases hg with hg | hg
    · rcases hs.x g hg with h4 | h4
      · exact .inl (.inl h4)
      · exact .inr h4
    · exact .inl (.inr hg)
def Post2 (P:Program) (m:Nat) (w:World) (r:Rs) (nb:Nat) (ρ:List Rw) (Q:Exit → St → List Rw → Prop):Exit → Act → World → Prop :=
  fun e a' w'=>∃ st' r' ρ',Q e st' ρ' ∧ st'.m = m ∧ Inv P st' a' w' r' ∧ Held P w' r' st'.bx.length ρ' ∧ Step2 m w r nb ρ w' r' st'.bx.length ρ'
def Tri2 (P:Program) (c:Code) (Q:Exit → St → List Rw → Prop) (st:St) (ρ:List Rw):Prop :=
  ∀ a w r,Inv P st a w r → Held P w r st.bx.length ρ → c.wp P (Post2 P st.m w r st.bx.length ρ Q) a w
theorem Post2.step {m:Nat} {w₀ w₁:World} {r₀ r₁:Rs} {n₀ n₁:Nat} {ρ₀ ρ₁:List Rw} {Q:Exit → St → List Rw → Prop} (h:Step2 m w₀ r₀ n₀ ρ₀ w₁ r₁ n₁ ρ₁) {e:Exit} {a:Act} {w:World} (k:Post2 P m w₁ r₁ n₁ ρ₁ Q e a w):Post2 P m w₀ r₀ n₀ ρ₀ Q e a w:=by
  obtain ⟨st',r',ρ',h1,h2,h3,h4,h5⟩:=k
  exact ⟨st',r',ρ',h1,h2,h3,h4,h.trans h5⟩
theorem Post2.mono {m:Nat} {w₀:World} {r₀:Rs} {n₀:Nat} {ρ₀:List Rw} {Q Q':Exit → St → List Rw → Prop} (hq:∀ e st ρ,Q e st ρ → Q' e st ρ) {e:Exit} {a:Act} {w:World} (k:Post2 P m w₀ r₀ n₀ ρ₀ Q e a w):Post2 P m w₀ r₀ n₀ ρ₀ Q' e a w:=by
  obtain ⟨st',r',ρ',h1,h2⟩:=k
  exact ⟨st',r',ρ',hq _ _ _ h1,h2⟩
variable {st:St} {ρ:List Rw} {Q:Exit → St → List Rw → Prop}
theorem Tri2.mono {c:Code} {Q':Exit → St → List Rw → Prop} (hq:∀ e st ρ,Q e st ρ → Q' e st ρ) (h:Tri2 P c Q st ρ):Tri2 P c Q' st ρ :=
  fun a w r hi hh=>Code.wp_mono (fun _ _ _ k=>Post2.mono hq k) (h a w r hi hh)
/-- An old triple. -/
theorem Tri2.lift {c:Code} (h:Tri P c (fun e st'=>Q e st' ρ) st):Tri2 P c Q st ρ:=by
  intro a w r hi hh
  refine Code.wp_mono (fun e a' w' k=>?_) (h a w r hi)
  obtain ⟨st',r',h1,h2,h3,h4⟩:=k
  obtain ⟨h5,h6⟩:=hh.step h4
  exact ⟨st',r',ρ,h1,h2,h3,h5,h6⟩
def Ex2 (next:St → List Rw → Prop) (Q:Exit → St → List Rw → Prop):Exit → St → List Rw → Prop
  | .normal,st,ρ=>next st ρ
  | e,st,ρ=>Q e st ρ
theorem Tri2.seq {x y:Code} (h:Tri2 P x (Ex2 (Tri2 P y Q) Q) st ρ):Tri2 P (.seq x y) Q st ρ:=by
  intro a w r hi hh
  refine wp_seq (Code.wp_mono (fun e a' w' k=>?_) (h a w r hi hh))
  obtain ⟨st',r',ρ',h1,h2,h3,h4,h5⟩:=k
  cases e
  case normal =>
    refine Code.wp_mono (fun _ _ _ k=>Post2.step h5 ?_) (h1 a' w' r' h3 h4)
    rw [h2] at k; exact k
  all_goals exact ⟨st',r',ρ',h1,h2,h3,h4,h5⟩
theorem Tri2.sq {x y:Code} (h:Tri P x (Ex (fun st'=>Tri2 P y Q st' ρ) (fun e st'=>Q e st' ρ)) st):Tri2 P (.seq x y) Q st ρ :=
  Tri2.seq (Tri2.lift (Tri.mono (fun e st' k=>by cases e <;> exact k) h))
theorem Tri2.skip (h:Q .normal st ρ):Tri2 P .skip Q st ρ:=Tri2.lift (Tri.skip h)
theorem Tri2.ret (h:Q .ret st ρ):Tri2 P .ret Q st ρ:=Tri2.lift (Tri.ret h)
def Bk2 (id:Nat) (Q:Exit → St → List Rw → Prop):Exit → St → List Rw → Prop
  | .exit id',st,ρ=>if id' = id then Q .normal st ρ else Q (.exit id') st ρ
  | e,st,ρ=>Q e st ρ
theorem Tri2.block {id:Nat} {c:Code} (h:Tri2 P c (Bk2 id Q) st ρ):Tri2 P (.block id c) Q st ρ:=by
  intro a w r hi hh
  refine wp_block (Code.wp_mono (fun e a' w' k=>?_) (h a w r hi hh))
  obtain ⟨st',r',ρ',h1,h2,h3,h4⟩:=k
  cases e
  case exit id' =>
    simp only [Bk2] at h1
    simp only [Exit.inBlock]
    split
    · rename_i e; rw [if_pos e] at h1; exact ⟨st',r',ρ',h1,h2,h3,h4⟩
    · rename_i e; rw [if_neg e] at h1; exact ⟨st',r',ρ',h1,h2,h3,h4⟩
  all_goals exact ⟨st',r',ρ',h1,h2,h3,h4⟩
def TriR2 (P:Program) (c:Code) (Q:Exit → St → List Rw → Prop):Nat → St → List Rw → Prop
  | 0,_,_=>False
  | k + 1,st,ρ=>Tri2 P c (Ex2 (TriR2 P c Q k) Q) st ρ
theorem TriR2.rounds {c:Code}:∀ (k:Nat) (st:St) (ρ:List Rw),TriR2 P c Q k st ρ → ∀ a w r,Inv P st a w r → Held P w r st.bx.length ρ → Code.rounds P c (Post2 P st.m w r st.bx.length ρ Q) k a w
  | 0,_,_,h,_,_,_,_,_=>h.elim
  | k + 1,st,ρ,h,a,w,r,hi,hh=>by
    rw [rounds_succ]
    refine Code.wp_mono (fun e a' w' q=>?_) (h a w r hi hh)
    obtain ⟨st',r',ρ',h1,h2,h3,h4,h5⟩:=q
    cases e
    case normal =>
      refine rounds_mono (fun _ _ _ q=>Post2.step h5 ?_) k a' w' (TriR2.rounds k st' ρ' h1 a' w' r' h3 h4)
      rw [h2] at q; exact q
    all_goals exact ⟨st',r',ρ',h1,h2,h3,h4,h5⟩
theorem Tri2.loop {c:Code} (k:Nat) (h:TriR2 P c Q k st ρ):Tri2 P (.loop c) Q st ρ :=
  fun a w r hi hh=>wp_loop_rounds k (TriR2.rounds k st ρ h a w r hi hh)
/-- The state is turned, and what is told apart; the memory as it is. -/
def Turns2 (P:Program) (st:St) (ρ:List Rw) (st':St) (ρ':List Rw):Prop:=∀ a w r,Inv P st a w r → Held P w r st.bx.length ρ → ∃ r',st'.m = st.m ∧ Inv P st' a w r' ∧ Held P w r' st'.bx.length ρ' ∧ Step2 st.m w r st.bx.length ρ w r' st'.bx.length ρ'
theorem Tri2.turn {c:Code} {st':St} {ρ':List Rw} (ht:Turns2 P st ρ st' ρ') (h:Tri2 P c Q st' ρ'):Tri2 P c Q st ρ:=by
  intro a w r hi hh
  obtain ⟨r',h1,h2,h3,h4⟩:=ht a w r hi hh
  refine Code.wp_mono (fun _ _ _ k=>Post2.step h4 ?_) (h a w r' h2 h3)
  rw [h1] at k; exact k
/-! Regions. -/
def TriO2 (P:Program) (ops:Array Oper) (l:List Oper) (Q:St → List Rw → Prop) (st:St) (ρ:List Rw):Prop :=
  ∀ a w r,Inv P st a w r → Held P w r st.bx.length ρ → wpList P ops (Post2 P st.m w r st.bx.length ρ (fun e st' ρ'=>e = .normal ∧ Q st' ρ')) l a w
theorem wpList_app {ops:Array Oper} {Q Q1:Exit → Act → World → Prop} {l2:List Oper} (hq:∀ e a w,Q1 e a w → e = .normal ∧ wpList P ops Q l2 a w):∀ (l1:List Oper) (a:Act) (w:World),wpList P ops Q1 l1 a w → wpList P ops Q (l1 ++ l2) a w
  | [],a,w,h=>(hq _ _ _ h).2
  | o :: l,a,w,h=>by
    have no:∀ a w,¬ Q1 .outgrown a w:=fun a w h=>by cases (hq _ _ _ h).1
    unfold wpList at h
    rw [List.cons_append]
    unfold wpList
    split
    · rename_i hw
      rw [if_pos hw] at h
      rcases h with h | ⟨_,a',w',h2⟩
      · refine .inl ?_
        unfold Oper.wp at h ⊢
        generalize (execOp a.eval o).run P w = x at h ⊢
        cases x with
        | ok n w' =>
          cases n <;> simp only [Oper.upon] at h ⊢
          case value v=>exact wpList_app hq l _ _ h
          case skip=>exact wpList_app hq l _ _ h
          case defer d=>exact wpList_app hq l _ _ h
          case enter f args =>
            refine h.mono fun e w'' k=>?_
            cases e with
            | returned v=>exact wpList_app hq l _ _ k
            | panicked ch=>exact absurd (hq _ _ _ k).1 (by intro h; cases h)
            | outgrown=>exact absurd k (fun ⟨a,w,k⟩=>no a w k)
          case row rw args=>exact h.mono fun v w'' k=>wpList_app hq l _ _ k
        | halt x w' =>
          cases x <;> simp only [Oper.upon] at h ⊢
          exact absurd (hq _ _ _ h).1 (by intro h; cases h)
      · exact absurd h2 (no a' w')
    · rename_i hw
      rw [if_neg hw] at h
      exact wpList_app hq l _ _ h
theorem TriO2.turn {ops:Array Oper} {l:List Oper} {Q:St → List Rw → Prop} {st':St} {ρ':List Rw} (ht:Turns2 P st ρ st' ρ') (h:TriO2 P ops l Q st' ρ'):TriO2 P ops l Q st ρ:=by
  intro a w r hi hh
  obtain ⟨r',h1,h2,h3,h4⟩:=ht a w r hi hh
  refine wpList_mono (fun _ _ _ k=>Post2.step h4 ?_) l a w (h a w r' h2 h3)
  rw [h1] at k; exact k
/-- The first operations are old ones. -/
theorem TriO2.pre {ops:Array Oper} {l1 l2:List Oper} {Q:St → List Rw → Prop} (h:TriO P ops l1 (fun st'=>TriO2 P ops l2 Q st' ρ) st):TriO2 P ops (l1 ++ l2) Q st ρ:=by
  intro a w r hi hh
  refine wpList_app (fun e a' w' k=>?_) l1 a w (h a w r hi)
  obtain ⟨st',r',⟨h0,h1⟩,h2,h3,h4⟩:=k
  obtain ⟨h5,h6⟩:=hh.step h4
  refine ⟨h0,wpList_mono (fun _ _ _ k=>Post2.step h6 ?_) l2 a' w' (h1 a' w' r' h3 h5)⟩
  rw [h2] at k; exact k
theorem TriO2.nil {ops:Array Oper} {Q:St → List Rw → Prop} (h:Q st ρ):TriO2 P ops [] Q st ρ :=
  fun a w r hi hh=>⟨st,r,ρ,⟨rfl,h⟩,rfl,hi,hh,Step2.refl ..⟩
theorem Tri2.region {id:Nat} {l:List Oper} (h:TriO2 P l.toArray l (Q .normal) st ρ):Tri2 P (.region id l.toArray false) Q st ρ:=by
  intro a w r hi hh
  refine wp_region_lit (wpList_mono (fun e a' w' k=>?_) l a w (h a w r hi hh))
  obtain ⟨st',r',ρ',⟨rfl,h1⟩,h2⟩:=k
  exact ⟨st',r',ρ',h1,h2⟩
/-- The first n operations, computed. -/
theorem TriO2.ev {ops:Array Oper} {l:List Oper} {Q:St → List Rw → Prop} (n:Nat) (hp:List Hp) {st':St} (hy:TriO2 P ops (l.drop n) Q st' ρ) (h:evN3 P ops (l.take n).length 0 (l.take n) st (hsOf hp) = some (qsOf hp,st',[]):=by kernel_rfl):TriO2 P ops l Q st ρ:=by
  rw [← List.take_append_drop n l]
  refine TriO2.pre (evN3_spec _ _ _ _ _ h (qsOf_all hp) ?_)
  rw [List.drop_length]
  exact TriO.nil hy
theorem TriO2.fin {ops:Array Oper} {l:List Oper} {Q:St → List Rw → Prop} (ts:List Nat) (nb:Nat) (fx:List Fix) {st':St} (hy:TriO2 P ops l Q st' ρ) (h:fin P ts nb fx st = some st':=by kernel_rfl):TriO2 P ops l Q st ρ:=by
  refine TriO2.turn (fun a w r hi hh=>?_) hy
  obtain ⟨r',h1,h2,h3⟩:=fin_turns h a w r hi
  obtain ⟨h4,h5⟩:=hh.step h3
  exact ⟨r',h1,h2,h4,h5⟩
end
end Go.Proofs.YtoclajfeeebbbadGreatDoor.E
/- The engine, part AH: rows told apart: an owned row is told apart, and owned again; calls, bodies. Plain lemmas; no program. -/
set_option linter.unusedVariables false
set_option linter.unusedSectionVars false
set_option linter.unusedSimpArgs false
namespace Go.Proofs.YtoclajfeeebbbadGreatDoor.E
open Go.RowKit
variable [LaidFacts]
section
variable {P:Program} {st:St} {a:Act} {w:World} {r:Rs} {ρ:List Rw} {Q:Exit → St → List Rw → Prop}
def flatXs (xs:List (List PC)):Bool:=xs.all fun el=>el.all PC.scalar
theorem RepOwn.bare {w:World} {Sh Sh':Nat → Prop} {e:TypeId} {xs:List (List PC)} {v:Value} {o:Option Nat} (hs:flatXs xs = true) (h:RepOwn P w Sh e xs v o):RepOwn P w Sh' e xs v o:=by
  obtain ⟨vals,h1,h2,h3,h4⟩:=h
  refine ⟨vals,h1,h2,h3,fun i x hi=>?_⟩
  obtain ⟨u,hu,hr⟩:=h4 i x hi
  obtain ⟨el,hel,hxe⟩:=List.mem_flatten.1 (List.mem_of_getElem? hi)
  exact ⟨u,hu,scalar_rep (List.all_eq_true.1 (List.all_eq_true.1 hs el hel) x hxe) hr⟩
/-- An owned row is told apart. -/
theorem adopt_at (hi : Inv P st a w r) (hh : Held P w r st.bx.length ρ) {p : Place} {e : TypeId} {xs : List (List PC)} (hp : st.at p = some (.own e xs)) (hs : flatXs xs = true) :
    ∃ v:Value,v = alpha a w r p ∧ v.oneCell' = true ∧ ∃ r',r'.κ = r.κ ∧ (st.setAt p (.sc v)).m = st.m ∧ Inv P (st.setAt p (.sc v)) a w r' ∧ Held P w r' (st.setAt p (.sc v)).bx.length (ρ ++ [⟨v,e,xs⟩]) ∧ Step2 st.m w r st.bx.length ρ w r' (st.setAt p (.sc v)).bx.length (ρ ++ [⟨v,e,xs⟩]):=by
  have hc:=hi.cell _ _ hp
  simp only [RepC] at hc
  generalize hv:alpha a w r p = v at hc
  have h1:v.oneCell' = true:=by
    obtain ⟨vals,ho,_⟩:=hc
    rcases ho.2 with ⟨rfl,_⟩ | ⟨g,cap,cur,fz,rfl,_⟩ <;> rfl
  have hb:v.ownBlock = r.γ p:=by obtain ⟨vals,_,hb,_⟩:=hc; exact hb
  have hm:(st.setAt p (.sc v)).m = st.m:=St.setAt_m
  have hl:(st.setAt p (.sc v)).bx.length = st.bx.length:=St.setAt_len
  have hX:∀ g,(r.clr p false).X st.bx.length g → r.X st.bx.length g ∧ r.γ p ≠ some g:=fun g hg=>by
    rcases hg with ⟨q,hq⟩ | ⟨b,hb2,he⟩
    · simp only [Rs.clr] at hq
      split at hq
      · cases hq
      · rename_i hne
        exact ⟨.inl ⟨q,hq⟩,fun h=>hne (hi.inj _ _ g hq h)⟩
    · exact ⟨.inr ⟨b,hb2,he⟩,fun h=>hi.exb _ g b h hb2 he⟩
  have hS:∀ g,(r.clr p false).Sh g → r.Sh g:=fun g hg=>by
    rcases hg with h | ⟨h,_⟩
    · exact h
    · cases h
  refine ⟨v,rfl,h1,r.clr p false,rfl,hm,hi.setAt hp false (.inr rfl) (.inr (by intro h; cases h)) (fun q hq=>by cases hq) ⟨rfl,.s (by rw [hv]; exact .sc h1)⟩,⟨fun x hx=>?_,?_,fun g hg=>?_⟩,?_⟩
  · rcases List.mem_append.1 hx with hx | hx
    · exact hh.own x hx
    · simp only [List.mem_singleton] at hx
      subst hx
      show RepOwn P w _ e xs v v.ownBlock
      rw [hb]
      exact hc.bare hs
  · rw [bks_app]
    refine List.nodup_append.2 ⟨hh.one,by simp only [bks,List.filterMap_cons,List.filterMap_nil]; split <;> simp,fun g hg g' hg' e=>?_⟩
    subst e
    obtain ⟨x,hx,hxb⟩:=bks_mem.1 hg'
    simp only [List.mem_singleton] at hx
    subst hx
    exact (hh.off g hg).2 (.inl ⟨_,hb.symm.trans hxb⟩)
  · rw [hl]
    rw [bks_app] at hg
    rcases List.mem_append.1 hg with hg | hg
    · obtain ⟨h3,h4⟩:=hh.off g hg
      exact ⟨fun h=>h3 (hS g h),fun h=>h4 (hX g h).1⟩
    · obtain ⟨x,hx,hxb⟩:=bks_mem.1 hg
      simp only [List.mem_singleton] at hx
      subst hx
      have hg2:r.γ p = some g:=hb.symm.trans hxb
      exact ⟨fun h=>(hi.sh g (hS g h)).2.1 _ hg2,fun h=>(hX g h).2 hg2⟩
  · rw [hl]
    refine ⟨rfl,rfl,rfl,Nat.le_refl _,fun _ _ _=>rfl,fun _ h=>.inl h,fun g hg=>.inl (hS g hg),fun g hg=>.inl ?_,fun _ _=>rfl,rfl,fun _ _ h=>h⟩
    rcases hg with hg | hg
    · exact .inl (hX g hg).1
    · rw [bks_app] at hg
      rcases List.mem_append.1 hg with hg | hg
      · exact .inr hg
      · obtain ⟨x,hx,hxb⟩:=bks_mem.1 hg
        simp only [List.mem_singleton] at hx
        subst hx
        exact .inl (.inl ⟨_,hb.symm.trans hxb⟩)
theorem Tri2.adopt {c:Code} (p:Place) {e:TypeId} {xs:List (List PC)} (hs:flatXs xs = true) (h:∀ v:Value,v.oneCell' = true → Tri2 P c Q (st.setAt p (.sc v)) (ρ ++ [⟨v,e,xs⟩])) (hp:st.at p = some (.own e xs):=by kernel_rfl):Tri2 P c Q st ρ:=by
  intro a w r hi hh
  obtain ⟨v,_,h0,r',_,h1,h2,h3,h4⟩:=adopt_at hi hh hp hs
  refine Code.wp_mono (fun _ _ _ k=>Post2.step h4 ?_) (h v h0 a w r' h2 h3)
  rw [h1] at k; exact k
theorem TriO2.adopt {ops:Array Oper} {l:List Oper} {Q:St → List Rw → Prop} (p:Place) {e:TypeId} {xs:List (List PC)} (hs:flatXs xs = true) (h:∀ v:Value,v.oneCell' = true → TriO2 P ops l Q (st.setAt p (.sc v)) (ρ ++ [⟨v,e,xs⟩])) (hp:st.at p = some (.own e xs):=by kernel_rfl):TriO2 P ops l Q st ρ:=by
  intro a w r hi hh
  obtain ⟨v,_,h0,r',_,h1,h2,h3,h4⟩:=adopt_at hi hh hp hs
  refine wpList_mono (fun _ _ _ k=>Post2.step h4 ?_) l a w (h v h0 a w r' h2 h3)
  rw [h1] at k; exact k
/-- A row told apart is owned again. -/
theorem focus_at (hi : Inv P st a w r) {t c : Nat} {x : Rw} {ρ1 ρ2 : List Rw} (hh : Held P w r st.bx.length (ρ1 ++ x :: ρ2)) (hp : st.at (.t t c) = some (.sc x.v)) :
    ∃ r',(st.setAt (.t t c) (.own x.e x.xs)).m = st.m ∧ Inv P (st.setAt (.t t c) (.own x.e x.xs)) a w r' ∧ Held P w r' (st.setAt (.t t c) (.own x.e x.xs)).bx.length (ρ1 ++ ρ2) ∧ Step2 st.m w r st.bx.length (ρ1 ++ x :: ρ2) w r' (st.setAt (.t t c) (.own x.e x.xs)).bx.length (ρ1 ++ ρ2) ∧ r'.Sh = r.Sh ∧ r'.κ = r.κ:=by
  have hm:(st.setAt (.t t c) (.own x.e x.xs)).m = st.m:=by simp only [St.setAt]; split <;> rfl
  have hn:(st.setAt (.t t c) (.own x.e x.xs)).n = st.n:=by simp only [St.setAt]; split <;> rfl
  have hbx:(st.setAt (.t t c) (.own x.e x.xs)).bx = st.bx:=by simp only [St.setAt]; split <;> rfl
  have hat:=fun q=>St.at_setAt (x:=.own x.e x.xs) hp q
  have hc:=hi.cell _ _ hp
  have hv:alpha a w r (.t t c) = x.v:=by
    obtain ⟨_,hc⟩:=hc
    generalize alpha a w r (.t t c) = u at hc
    cases hc with
    | s h=>cases h; rfl
  have hxo:=hh.own x (by simp)
  have hmem:∀ g,x.b = some g → g ∈ bks (ρ1 ++ x :: ρ2):=fun g hg=>bks_mem.2 ⟨x,by simp,hg⟩
  let r':Rs:={ r with γ:=fun q=>if q = .t t c then x.b else r.γ q }
  have hal:alpha a w r' = alpha a w r:=by funext q; cases q <;> rfl
  have hγ:∀ q g,r'.γ q = some g → (q = .t t c ∧ x.b = some g) ∨ (q ≠ .t t c ∧ r.γ q = some g):=fun q g hq=>by
    simp only [r'] at hq
    split at hq
    · exact .inl ⟨‹_›,hq⟩
    · exact .inr ⟨‹_›,hq⟩
  have hlive:∀ q,(st.setAt (.t t c) (.own x.e x.xs)).lives q → st.lives q:=by
    intro q ⟨z,h1,h2⟩
    rw [hat] at h1
    split at h1
    · rename_i e; subst e; exact ⟨_,hp,by intro h; cases h⟩
    · exact ⟨z,h1,h2⟩
  have hex:∀ q,st.ex q → (st.setAt (.t t c) (.own x.e x.xs)).ex q:=fun q he=>by
    cases q with
    | t k d =>
      obtain ⟨pv,hk⟩:=he
      simp only [St.ex,St.setAt]
      split
      · rw [St.get_rep]
        split
        · exact ⟨_,rfl⟩
        · exact ⟨pv,hk⟩
      · exact ⟨pv,hk⟩
    | b b d=>simp only [St.ex,hbx]; exact he
  have hX:∀ g,r'.X st.bx.length g → r.X st.bx.length g ∨ x.b = some g:=fun g hg=>by
    rcases hg with ⟨q,hq⟩ | hb
    · rcases hγ q g hq with ⟨_,h⟩ | ⟨_,h⟩
      · exact .inr h
      · exact .inl (.inl ⟨q,h⟩)
    · exact .inl (.inr hb)
  refine ⟨r',hm,⟨hi.sz.trans hn.symm,by rw [hm,hbx]; exact hi.m,fun k pv hk=>?_,by rw [hbx]; exact hi.bx,fun q y hq=>?_,fun q y z hq hz=>?_,fun q g hg=>?_,fun q q' g hq hq'=>?_,fun q g b hq hb=>?_,by rw [hbx]; exact hi.bb,fun g hg=>?_,hi.defers,hi.lw,by rw [St.setAt_fx]; exact hi.fx⟩,?_,?_,rfl,rfl⟩
  · obtain ⟨pv0,h1,h2,h3⟩:=St.get_setAt hk
    obtain ⟨v,h4,h5⟩:=hi.tm k pv0 h1
    exact ⟨v,h4,by rw [← h2,← h3]; exact h5⟩
  · rw [hal]
    rw [hat] at hq
    by_cases e:q = .t t c
    · subst e
      rw [if_pos rfl] at hq; cases hq
      have:r'.γ (.t t c) = x.b:=by simp [r']
      rw [this,hv]
      exact hxo.mono (fun _ h=>h.elim) (fun _ h=>h.elim) (fun _ _=>rfl)
    · rw [if_neg e] at hq
      have:r'.γ q = r.γ q:=by simp [r',e]
      rw [this]
      exact (hi.cell q y hq).mono (fun _ h=>h) (fun _ _=>rfl) (fun _ _=>rfl) (fun b hb=>⟨by rw [hbx]; exact hb,rfl⟩) (fun q' _ hq'=>⟨hlive q' hq',rfl⟩)
  · rw [hat] at hq
    split at hq
    · cases hq; cases hz
    · exact hex _ (hi.nm q y z hq hz)
  · rcases hγ q g hg with ⟨rfl,_⟩ | ⟨hne,h⟩
    · exact ⟨_,_,by rw [hat,if_pos rfl]⟩
    · obtain ⟨e',xs',h1⟩:=hi.live q g h
      exact ⟨e',xs',by rw [hat,if_neg hne]; exact h1⟩
  · rcases hγ q g hq with ⟨rfl,h1⟩ | ⟨hne,h1⟩ <;> rcases hγ q' g hq' with ⟨rfl,h2⟩ | ⟨hne',h2⟩
    · rfl
    · exact absurd (.inl ⟨_,h2⟩) (hh.off g (hmem g h1)).2
    · exact absurd (.inl ⟨_,h1⟩) (hh.off g (hmem g h2)).2
    · exact hi.inj _ _ g h1 h2
  · rw [hbx] at hb
    rcases hγ q g hq with ⟨rfl,h1⟩ | ⟨hne,h1⟩
    · exact fun he=>(hh.off g (hmem g h1)).2 (.inr ⟨b,hb,he⟩)
    · exact hi.exb q g b h1 hb
  · obtain ⟨h1,h2,h3⟩:=hi.sh g hg
    refine ⟨h1,fun q hq=>?_,by rw [hbx]; exact h3⟩
    rcases hγ q g hq with ⟨rfl,h4⟩ | ⟨_,h4⟩
    · exact (hh.off g (hmem g h4)).1 hg
    · exact h2 q h4
  · have hsub : ∀ g, g ∈ bks (ρ1 ++ ρ2) → g ∈ bks (ρ1 ++ x :: ρ2) := fun g hg => by
      obtain ⟨y,hy,hyb⟩:=bks_mem.1 hg
      refine bks_mem.2 ⟨y,?_,hyb⟩
      rcases List.mem_append.1 hy with h | h
      · exact List.mem_append_left _ h
      · exact List.mem_append_right _ (List.mem_cons_of_mem _ h)
    have hnd:=hh.one
    have hd:∀ g,x.b = some g → g ∉ bks (ρ1 ++ ρ2):=fun g hg hm2=>by
      rw [bks_app] at hnd hm2
      have e:bks (x :: ρ2) = g :: bks ρ2:=by simp only [bks,List.filterMap_cons,hg]
      rw [e] at hnd
      obtain ⟨_,h2,h3⟩:=List.nodup_append.1 hnd
      rcases List.mem_append.1 hm2 with h | h
      · exact h3 g h g (List.mem_cons_self ..) rfl
      · exact (List.nodup_cons.1 h2).1 h
    rw [hbx]
    refine ⟨fun y hy=>hh.own y ?_,?_,fun g hg=>⟨(hh.off g (hsub g hg)).1,fun h=>?_⟩⟩
    · rcases List.mem_append.1 hy with h | h
      · exact List.mem_append_left _ h
      · exact List.mem_append_right _ (List.mem_cons_of_mem _ h)
    · rw [bks_app] at hnd ⊢
      refine hnd.sublist (List.Sublist.append (List.Sublist.refl _) ?_)
      simp only [bks,List.filterMap_cons]
      split
      · exact List.Sublist.refl _
      · exact List.sublist_cons_self ..
    · rcases hX g h with h | h
      · exact (hh.off g (hsub g hg)).2 h
      · exact hd g h hg
  · rw [hbx]
    refine ⟨rfl,rfl,rfl,Nat.le_refl _,fun _ _ _=>rfl,fun _ h=>h,fun g hg=>.inl hg,fun g hg=>.inl ?_,fun _ _=>rfl,rfl,fun _ _ h=>h⟩
    rcases hg with hg | hg
    · rcases hX g hg with h | h
      · exact .inl h
      · exact .inr (hmem g h)
    · obtain ⟨y,hy,hyb⟩:=bks_mem.1 hg
      refine .inr (bks_mem.2 ⟨y,?_,hyb⟩)
      rcases List.mem_append.1 hy with h | h
      · exact List.mem_append_left _ h
      · exact List.mem_append_right _ (List.mem_cons_of_mem _ h)
/-! Functions that take and give rows told apart. -/
def Fn2 (P:Program) (f:FuncId) (args:List PV) (ρa:List Rw) (R:PV → List Rw → Prop):Prop :=
  ∀ (vals:Array Value) (w:World) (r:Rs),Inv P ⟨args.length,enum 0 args,[],0,[]⟩ ⟨vals,[]⟩ w r → Held P w r 0 ρa →
    Calls P f vals w fun e w'=>∃ v r' res ρr,e = .returned v ∧ R res ρr ∧ Inv P ⟨1,[(0,res)],[],0,[]⟩ ⟨#[v],[]⟩ w' r' ∧ Held P w' r' 0 ρr ∧ Step2 0 w r 0 ρa w' r' 0 ρr
theorem Fn2.fn {f:FuncId} {args:List PV} {res:PV} (h:Fn2 P f args [] fun res' _=>res' = res):Fn P f args [] res []:=by
  intro vals w r hi
  refine (h vals w r hi Held.nil).mono fun e w' ⟨v,r',res',ρr,he,hR,h1,h2,h3⟩=>?_
  subst hR
  refine ⟨v,r',he,h1,⟨h3.os,h3.tape,h3.output,h3.size,fun g hg hx=>h3.block g hg fun h=>h.elim hx (fun h=>by cases h),h3.sh,fun g hg=>?_,fun g hg=>?_,h3.β,h3.κ,h3.ty⟩⟩
  · rcases h3.shNew g hg with h | h | h
    · exact .inl h
    · exact .inr (.inl (h.elim id (fun h=>by cases h)))
    · exact .inr (.inr h)
  · rcases h3.x g (.inl hg) with h | h
    · exact .inl (h.elim id (fun h=>by cases h))
    · exact .inr h
/-- The start of a body. -/
theorem start_at {args:List PV} {n:Nat} {vals:Array Value} {fx:List Nat} (hi:Inv P ⟨args.length,enum 0 args,[],0,fx⟩ ⟨vals,[]⟩ w r) (hn:args.length ≤ n):Inv P ⟨n,enum 0 args,[],0,fx⟩ ⟨vals ++ Array.replicate (n - vals.size) undef,[]⟩ w r:=by
  have hsz:vals.size = args.length:=hi.sz
  have hal:∀ p,(⟨args.length,enum 0 args,[],0,fx⟩:St).ex p → alpha ⟨vals ++ Array.replicate (n - vals.size) undef,[]⟩ w r p = alpha ⟨vals,[]⟩ w r p:=by
    intro p hp
    cases p with
    | t t c =>
      obtain ⟨pv,hp⟩:=hp
      obtain ⟨v,h1,_⟩:=hi.tm t pv hp
      have hlt:t < vals.size:=(Array.getElem?_eq_some_iff.1 h1).1
      simp only [alpha,Array.getD_eq_getD_getElem?]
      rw [Array.getElem?_append_left hlt]
    | b b c=>rfl
  have hex:∀ p x,(⟨n,enum 0 args,[],0,fx⟩:St).at p = some x → (⟨args.length,enum 0 args,[],0,fx⟩:St).ex p:=by
    intro p x hx
    cases p with
    | t t c=>obtain ⟨pv,h1,_⟩:=St.at_tmp hx; exact ⟨pv,h1⟩
    | b b c=>exact (St.at_box hx).1
  refine ⟨by simp; omega,Nat.le_refl _,fun t pv ht=>?_,hi.bx,fun p x hx=>?_,hi.nm,hi.live,hi.inj,hi.exb,hi.bb,hi.sh,rfl,hi.lw,fun t ht=>?_⟩
  · obtain ⟨v,h1,h2⟩:=hi.tm t pv ht
    exact ⟨v,by rw [Array.getElem?_append_left (Array.getElem?_eq_some_iff.1 h1).1]; exact h1,h2⟩
  · rw [hal p (hex p x hx)]
    exact (hi.cell p x hx).mono (fun _ h=>h) (fun _ _=>rfl) (fun _ _=>rfl) (fun b hb=>⟨hb,rfl⟩) (fun q hq hl=>⟨hl,hal q (hi.nm p x q hx hq)⟩)
  · have h1:=hi.fx t ht
    show (vals ++ Array.replicate (n - vals.size) undef)[t]? = _
    rw [Array.getElem?_append_left (Array.getElem?_eq_some_iff.1 h1).1]; exact h1
/-- Behind a frame that shrinks. -/
theorem Held.less {w:World} {r r':Rs} {nb nb':Nat} {ρ:List Rw} (h:Held P w r nb ρ) (hS:r'.Sh = r.Sh) (hX:∀ g,r'.X nb' g → r.X nb g):Held P w r' nb' ρ :=
  ⟨h.own,h.one,fun g hg=>⟨fun h1=>(h.off g hg).1 (hS ▸ h1),fun h1=>(h.off g hg).2 (hX g h1)⟩⟩
theorem Step2.less {m:Nat} {w:World} {r r':Rs} {nb nb':Nat} {ρ:List Rw} (hS:r'.Sh = r.Sh) (hX:∀ g,r'.X nb' g → r.X nb g) (hβ:∀ b,b < m → r'.β b = r.β b) (hκ:r'.κ = r.κ):Step2 m w r nb ρ w r' nb' ρ :=
  ⟨rfl,rfl,rfl,Nat.le_refl _,fun _ _ _=>rfl,fun g h=>hS ▸ h,fun g h=>.inl (hS ▸ h),fun g h=>.inl (h.imp (hX g) id),hβ,hκ,fun _ _ h=>h⟩
theorem Fn2.body {f : FuncId} {fn : Func} {c : Code} {args : List PV} {ρa : List Rw} {R : PV → List Rw → Prop} (t : Nat) (hf : P.funcs[f]? = some fn) (h : Tri2 P c (fun e st ρ => ∃ res, Ends [t] res [] e st ∧ R res ρ) ⟨fn.ntmps, enum 0 args, [], 0, []⟩ ρa) (hb : fn.body = some c := by rfl) (hres : fn.results = #[ResultVar.tmp t] := by rfl)
    (hn:Nat.ble args.length fn.ntmps = true:=by rfl):Fn2 P f args ρa R:=by
  intro vals w r hi hh
  refine calls_of_wp hf hb ?_
  refine Code.wp_mono (fun e a' w' k=>?_) (h _ w r (start_at hi (Nat.le_of_ble_eq_true hn)) hh)
  obtain ⟨st',r',ρ',⟨res,⟨he,hr,hfr,hle,htake,hbf⟩,hR⟩,hm,hinv,hheld,hstep⟩:=k
  obtain ⟨r'',h1,h2,h3,h5,h4⟩:=hinv.leave hr (by simp) hle hfr (by simp)
  rw [htake] at h1
  have hrun:=run_results (P:=P) (fn:=fn) (ts:=[t]) hres (by simp) a'.tmps w'
  have hstep':=hstep.trans (Step2.less (m:=0) h2 h4 (fun b hb=>by omega) h5)
  rcases he with rfl | rfl
  · exact ⟨hinv.defers,_,hrun,_,r'',res,ρ',rfl,hR,h1,hheld.less h2 h4,hstep'⟩
  · exact ⟨hinv.defers,_,hrun,_,r'',res,ρ',rfl,hR,h1,hheld.less h2 h4,hstep'⟩
end
end Go.Proofs.YtoclajfeeebbbadGreatDoor.E
/- The engine, part AI: rows told apart: calls; what is told apart is lent for a while, to be read. Plain lemmas; no program. -/
set_option linter.unusedVariables false
set_option linter.unusedSectionVars false
set_option linter.unusedSimpArgs false
namespace Go.Proofs.YtoclajfeeebbbadGreatDoor.E
open Go.RowKit
variable [LaidFacts]
section
variable {P:Program} {st:St} {a:Act} {w:World} {r:Rs} {ρ:List Rw} {Q:Exit → St → List Rw → Prop}
/-- A call of a function that takes and gives rows told apart. -/
def callP (P:Program) (st:St) (o:Oper) (f:FuncId) (ns:List Nat):Option (Nat × List PV) :=
  match o.op,o.guard,o.dst with
  | .call { callee:=.value x,args:=as,argTypes:=ts },none,some d=>match st.use x,mapO st.use as.toList with
    | some ⟨.one,[y]⟩,some pvs=>match calleeOf y with
      | some (f',[])=>match Nat.beq f' f && okFn P f && st.okB d && (st.get d).isNone with
        | true=>(passPVs (shX st) (pvs ++ ones []) ns).map fun args=>(d,args)
        | false=>none
      | _=>none
    | _,_=>none
  | _,_,_=>none
theorem mapO_map {α β:Type} {f:α → Option β}:∀ {l:List α} {m:List β},mapO f l = some m → l.map f = m.map some
  | [],m,h=>by simp only [mapO,Option.some.injEq] at h; subst h; rfl
  | x :: l,m,h=>by
    simp only [mapO] at h
    split at h
    · rename_i y m' h1 h2
      cases h
      rw [List.map_cons,List.map_cons,h1,mapO_map h2]
    · cases h
theorem callP_spec {o : Oper} {f : FuncId} {ns : List Nat} {d : Nat} {args : List PV} (h : callP P st o f ns = some (d, args)) :
    ∃ x as ts c pvs,o.op = .call { callee:=.value x,args:=as,argTypes:=ts } ∧ o.guard = none ∧ o.dst = some d ∧ st.use x = some ⟨.one,[c]⟩ ∧ calleeOf c = some (f,[]) ∧ okFn P f = true ∧ st.okd d ∧ st.get d = none ∧ as.toList.map st.use = pvs.map some ∧ passPVs (shX st) (pvs ++ ones []) ns = some args:=by
  unfold callP at h
  split at h
  · rename_i x as ts d' ho hg hd
    split at h
    · rename_i y pvs hx hm
      split at h
      · rename_i f' hc
        split at h
        · rename_i hb
          obtain ⟨args',h1,h2⟩:=Option.map_eq_some_iff.1 h
          simp only [Prod.mk.injEq] at h2
          obtain ⟨rfl,rfl⟩:=h2
          simp only [Bool.and_eq_true] at hb
          obtain ⟨⟨⟨h3,h4⟩,h5⟩,h6⟩:=hb
          have h3:=Nat.eq_of_beq_eq_true h3
          subst h3
          exact ⟨x,as,ts,y,pvs,ho,hg,hd,hx,hc,h4,St.okB_spec h5,by simpa using h6,mapO_map hm,h1⟩
        · cases h
      · cases h
    · cases h
  · cases h
theorem TriO2.call {ops : Array Oper} {l : List Oper} {o : Oper} {Q : St → List Rw → Prop} {f : FuncId} {d : Nat} {args : List PV} {ρa ρ0 : List Rw} {R : PV → List Rw → Prop} (ns : List Nat) (hF : Fn2 P f args ρa R) (hR : ∀ res ρr, R res ρr → res.cs.all PC.scalar = true)
    (hy:∀ res ρr,R res ρr → TriO2 P ops l Q (st.put d res) (ρr ++ ρ0)) (h:callP P st o f ns = some (d,args):=by kernel_rfl):TriO2 P ops (o :: l) Q st (ρa ++ ρ0):=by
  intro a w r hi hh
  obtain ⟨x,as,ts,c,pvs,ho,hg,hd,hx,hc,hf,hod,hno,hu,hp⟩:=callP_spec h
  refine wpList_plain hg fun K hK=>?_
  obtain ⟨vs,hv,hn,hr⟩:=hi.calleeUse hx hc
  have hargs:=call_args hi hu hp hn hr (Sc:=r.Sh) (fun u y v hc h=>⟨(hi.shX hc h).1,(hi.shX hc h).2.1⟩) (fun g hg=>(hi.sh g hg).1) (fun _ h=>h)
  have hXc:∀ g,¬ (⟨r.Sh,r.β,fun _=>none,fun _=>undef⟩:Rs).X 0 g:=fun g hg=>by
    rcases hg with ⟨p,hp⟩ | ⟨b,hb,_⟩
    · cases hp
    · omega
  have hona:∀ g,g ∈ bks ρa → g ∈ bks (ρa ++ ρ0):=fun g hg=>by rw [bks_app]; exact List.mem_append_left _ hg
  have hon0:∀ g,g ∈ bks ρ0 → g ∈ bks (ρa ++ ρ0):=fun g hg=>by rw [bks_app]; exact List.mem_append_right _ hg
  have hnd:=hh.one
  rw [bks_app] at hnd
  obtain ⟨nd1,nd2,nd3⟩:=List.nodup_append.1 hnd
  have hheld:Held P w ⟨r.Sh,r.β,fun _=>none,fun _=>undef⟩ 0 ρa:=⟨fun x hx=>hh.own x (List.mem_append_left _ hx),nd1,fun g hg=>⟨(hh.off g (hona g hg)).1,hXc g⟩⟩
  have hcalls:=hF _ w _ hargs hheld
  unfold Oper.wp
  rw [run_callV ho hv hf,Oper.upon_enter]
  refine hcalls.mono fun e w' ⟨v,r',res,ρr,he,hRr,hinv,hheld',hstep⟩=>?_
  subst he
  have hsc:=hR res ρr hRr
  have hw:∀ g,g < w.heap.size → g ∉ bks ρa → w'.heap[g]? = w.heap[g]?:=fun g hg hgn=>hstep.block g hg fun hx=>hx.elim (hXc g) hgn
  have hi':=hi.world (w':=w') (fun g hg=>by
    rcases hg with hg | hg
    · exact hw g (hi.sh g hg).1 fun h=>(hh.off g (hona g h)).1 hg
    · exact hw g (hi.X_lt hg) fun h=>(hh.off g (hona g h)).2 hg) hstep.size hstep.ty
  obtain ⟨v',hv',hfit⟩:=hinv.tm 0 res rfl
  have:v' = v:=by simpa using hv'.symm
  subst this
  have hput:=hi'.put (t:=d) (v:=v') (pv:=res) (γc:=fun _=>none) hod hno (hi'.noNames hno) hfit (fun c x hx=>by
    have hxs:=List.all_eq_true.1 hsc x (List.mem_of_getElem? hx)
    refine ⟨fun q hq=>?_,?_⟩
    · cases x <;> simp only [PC.scalar] at hxs <;> first | (cases hxs; done) | cases hq
    · have h3:=hinv.cell (.t 0 c) x (by simp [St.at,St.get,look,hx])
      have hxf:x.flatB = true:=by cases x <;> simp only [PC.scalar] at hxs <;> first | (cases hxs; done) | rfl
      have h4:=flatB_rep (r':=r) (st':=st) (al':=alpha a w' r) hxf h3
      have h5:r'.γ (.t 0 c) = none:=h3.g_none (fun e xs he=>by subst he; cases hxs)
      rw [h5] at h4
      exact h4) (fun c x q hx hq=>by
    have hxs:=List.all_eq_true.1 hsc x (List.mem_of_getElem? hx)
    cases x <;> simp only [PC.scalar] at hxs <;> first | (cases hxs; done) | cases hq) (fun _ _ h=>by cases h) (fun _ _ _ h=>by cases h)
  have hX':∀ g,(r.setT d fun _=>none).X st.bx.length g → r.X st.bx.length g:=fun g hg=>by
    rcases hg with ⟨q,hq⟩ | hb
    · cases q with
      | t k c =>
        simp only [Rs.setT] at hq
        split at hq
        · cases hq
        · exact .inl ⟨_,hq⟩
      | b b c=>exact .inl ⟨_,hq⟩
    · exact .inr hb
  have hnew:∀ g,g ∈ bks ρr → g ∈ bks ρa ∨ w.heap.size ≤ g:=fun g hg=>by
    rcases hstep.x g (.inr hg) with h | h
    · exact h.elim (fun h=>absurd h (hXc g)) .inl
    · exact .inr h
  have hheld2:Held P w' (r.setT d fun _=>none) st.bx.length (ρr ++ ρ0):=by
    refine ⟨fun x hx=>?_,?_,fun g hg=>?_⟩
    · rcases List.mem_append.1 hx with hx | hx
      · exact hheld'.own x hx
      · exact (hh.own x (List.mem_append_right _ hx)).mono (fun _ h => h) (fun _ h => h.elim) fun k hk => by
          have hk0:k ∈ bks ρ0:=bks_mem.2 ⟨x,hx,hk⟩
          exact hw k (hh.lt (hon0 k hk0)) fun h=>nd3 k h k hk0 rfl
    · rw [bks_app]
      refine List.nodup_append.2 ⟨hheld'.one,nd2,fun g hg g' hg' e=>?_⟩
      subst e
      rcases hnew g hg with h | h
      · exact nd3 g h g hg' rfl
      · have:=hh.lt (hon0 g hg'); omega
    · have key : ∀ g, (g ∈ bks (ρa ++ ρ0) ∨ w.heap.size ≤ g) → ¬ r.Sh g ∧ ¬ (r.setT d fun _ => none).X st.bx.length g := fun g hg => by
        rcases hg with hg | hg
        · exact ⟨(hh.off g hg).1,fun h=>(hh.off g hg).2 (hX' g h)⟩
        · exact ⟨fun h=>by have:=(hi.sh g h).1; omega,fun h=>by have:=hi.X_lt (hX' g h); omega⟩
      rw [bks_app] at hg
      rcases List.mem_append.1 hg with hg | hg
      · exact key g ((hnew g hg).imp (hona g) id)
      · exact key g (.inl (hon0 g hg))
  have hstep2:Step2 st.m w r st.bx.length (ρa ++ ρ0) w' (r.setT d fun _=>none) st.bx.length (ρr ++ ρ0):=by
    refine ⟨hstep.os,hstep.tape,hstep.output,hstep.size,fun g hg hx=>hw g hg fun h=>hx (.inr (hona g h)),fun _ h=>h,fun _ h=>.inl h,fun g hg=>?_,fun _ _=>rfl,rfl,hstep.ty⟩
    rcases hg with hg | hg
    · exact .inl (.inl (hX' g hg))
    · rw [bks_app] at hg
      rcases List.mem_append.1 hg with hg | hg
      · exact (hnew g hg).imp (fun h=>.inr (hona g h)) id
      · exact .inl (.inr (hon0 g hg))
  rw [hd]
  exact hK _ _ (wpList_mono (fun _ _ _ k=>Post2.step hstep2 k) l _ w' (hy res ρr hRr _ w' _ hput hheld2))
end
end Go.Proofs.YtoclajfeeebbbadGreatDoor.E
/- The engine, part AJ: rows told apart are lent: for some statements they are shared, and nobody keeps them. Plain lemmas; no program. -/
set_option linter.unusedVariables false
set_option linter.unusedSectionVars false
set_option linter.unusedSimpArgs false
namespace Go.Proofs.YtoclajfeeebbbadGreatDoor.E
open Go.RowKit
variable [LaidFacts]
section
variable {P:Program} {st:St} {a:Act} {w:World} {r:Rs} {ρ:List Rw} {Q:Exit → St → List Rw → Prop}
/-- A row, some of whose cells are rows that are shared too. -/
theorem RepOwn.shareD {S0 Sh' : Nat → Prop} {e : TypeId} {xs xs' : List (List PC)} {v : Value} {g : Option Nat} (h : RepOwn P w S0 e xs v g) (hg : ∀ k, g = some k → Sh' k) (hlen : xs'.length = xs.length) (hz : ∀ el ∈ xs', el.length = P.cellsOf e)
    (hc:∀ (i j:Nat) (el':List PC) (x':PC),xs'[i]? = some el' → el'[j]? = some x' → ∃ (el:List PC) (x:PC),xs[i]? = some el ∧ el[j]? = some x ∧ ∀ u,RepS w S0 x u → RepS w Sh' x' u):RepS w Sh' (.sl (P.cellsOf e) xs') v:=by
  obtain ⟨vals,ho,hb,hl,hr⟩:=h
  rcases ho.2 with ⟨rfl,hn⟩ | ⟨k,cap,cur,fz,rfl,_,hh,hnc,_⟩
  · have:xs' = []:=List.length_eq_zero_iff.1 (hlen.trans hn)
    subst this
    exact .nil
  · have hk:Sh' k:=hg k (by rw [← hb]; rfl)
    rw [← hlen] at ho hnc ⊢
    refine .sl (size:=P.cellsOf e) (fun i j=>vals.getD (i * P.cellsOf e + j) undef) hz hnc hk (fun i j el x hi hj=>?_) (fun i j el x hi hj=>?_)
    · obtain ⟨el0,x0,hi0,hj0,_⟩:=hc i j el x hi hj
      obtain ⟨u,hu,_⟩:=hr _ _ (flatten_at hl hi0 hj0)
      have hlt:i * P.cellsOf e + j < xs'.length * P.cellsOf e:=by
        have:=(List.getElem?_eq_some_iff.1 hu).1
        rw [ho.1] at this
        exact this
      rw [Nat.zero_add,ho.cellAt _ hlt,hu,List.getD_eq_getElem?_getD,hu]
      rfl
    · obtain ⟨el0,x0,hi0,hj0,hx0⟩:=hc i j el x hi hj
      obtain ⟨u,hu,hru⟩:=hr _ _ (flatten_at hl hi0 hj0)
      rw [List.getD_eq_getElem?_getD,hu]
      exact hx0 u hru
/-- More of the old memory is shared, that is nobody's. -/
theorem Inv.grow (hi:Inv P st a w r) {Sn:Nat → Prop} (h1:∀ g,r.Sh g → Sn g) (h2:∀ g,Sn g → r.Sh g ∨ (g < w.heap.size ∧ ¬ r.X st.bx.length g)):Inv P st a w { r with Sh:=Sn }:=by
  have ha:alpha a w { r with Sh:=Sn } = alpha a w r:=by funext p; cases p <;> rfl
  refine ⟨hi.sz,hi.m,hi.tm,hi.bx,fun p x hx=>?_,hi.nm,hi.live,hi.inj,hi.exb,hi.bb,fun g hg=>?_,hi.defers,LaidFacts.mono h1 (fun _ _=>rfl) hi.lw,hi.fx⟩
  · rw [ha]
    exact (hi.cell p x hx).mono (fun g h=>h1 g h) (fun _ _=>rfl) (fun _ _=>rfl) (fun b hb=>⟨hb,rfl⟩) (fun q _ hq=>⟨hq,rfl⟩)
  · rcases h2 g hg with h | ⟨h,h'⟩
    · exact hi.sh g h
    · exact ⟨h,fun p hp=>h' (.inl ⟨p,hp⟩),fun b hb he=>h' (.inr ⟨b,hb,he⟩)⟩
/-- Some temporaries stay from here on. -/
theorem Inv.hold (hi:Inv P st a w r) {keep:List Nat} {κ:Nat → Value} (h:∀ t,inB t keep = true → a.tmps[t]? = some (κ t)):Inv P { st with fx:=keep } a w { r with κ:=κ }:=by
  have ha:alpha a w { r with κ:=κ } = alpha a w r:=by funext p; cases p <;> rfl
  refine ⟨hi.sz,hi.m,hi.tm,hi.bx,fun p x hx=>?_,hi.nm,hi.live,hi.inj,hi.exb,hi.bb,hi.sh,hi.defers,hi.lw,h⟩
  rw [ha]
  exact (hi.cell p x hx).mono (fun _ h=>h) (fun _ _=>rfl) (fun _ _=>rfl) (fun b hb=>⟨hb,rfl⟩) (fun q _ hq=>⟨hq,rfl⟩)
/-- What the frame holds while ρ is lent. -/
def Rs.lent (r:Rs) (ρ:List Rw) (a:Act):Rs:={ r with Sh:=fun g=>r.Sh g ∨ g ∈ bks ρ,κ:=fun t=>a.tmps.getD t undef }
variable {a0:Act} {w0:World} {r0:Rs}
def pickT (f:Nat → Option PV):List Nat → List (Nat × PV)
  | []=>[]
  | t :: l=>match f t with
    | some pv=>(t,pv) :: pickT f l
    | none=>pickT f l
theorem pickT_look {f:Nat → Option PV}:∀ {l:List Nat} {t:Nat} {pv:PV},look (pickT f l) t = some pv → f t = some pv
  | [],t,pv,h=>by cases h
  | k :: l,t,pv,h=>by
    simp only [pickT] at h
    split at h
    · rename_i pv' hf
      simp only [look] at h
      split at h
      · rename_i e; subst e; cases h; exact hf
      · exact pickT_look h
    · exact pickT_look h
def PC.stays:PC → Bool
  | .sc _ | .sl .. | .cel ..=>true
  | _=>false
theorem pickT_mem {f:Nat → Option PV}:∀ {l:List Nat} {t:Nat} {pv:PV},look (pickT f l) t = some pv → t ∈ l
  | [],t,pv,h=>by cases h
  | k :: l,t,pv,h=>by
    simp only [pickT] at h
    split at h
    · rename_i pv' hf
      simp only [look] at h
      split at h
      · rename_i e; subst e; exact List.mem_cons_self ..
      · exact List.mem_cons_of_mem _ (pickT_mem h)
    · exact List.mem_cons_of_mem _ (pickT_mem h)
end
end Go.Proofs.YtoclajfeeebbbadGreatDoor.E
