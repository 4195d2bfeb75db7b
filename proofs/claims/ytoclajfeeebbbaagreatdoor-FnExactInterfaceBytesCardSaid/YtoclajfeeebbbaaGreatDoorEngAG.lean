/- The engine, part AG: rows told apart: a row that lies within a row is a header in the frame, a plain value; what it holds is told beside the frame. Plain lemmas; no program. -/
import Derived.Test.YtoclajfeeebbbaaGreatDoorEng18
set_option linter.unusedVariables false
set_option linter.unusedSectionVars false
set_option linter.unusedSimpArgs false
namespace Go.Proofs.YtoclajfeeebbbaaGreatDoor.E
open Go.RowKit
variable [LaidFacts]
section
variable {P : Program}
/-- A row told apart: its header, its elements' type, its cells. -/
structure Rw where
  v : Value
  e : TypeId
  xs : List (List PC)
def Rw.b (x : Rw) : Option Nat := x.v.ownBlock
def bks (ρ : List Rw) : List Nat := ρ.filterMap Rw.b
def X2 (r : Rs) (nb : Nat) (ρ : List Rw) (g : Nat) : Prop := r.X nb g ∨ g ∈ bks ρ
/-- They are there, each alone; their cells are plain values. -/
structure Held (P : Program) (w : World) (r : Rs) (nb : Nat) (ρ : List Rw) : Prop where
  own : ∀ x ∈ ρ, RepOwn P w (fun _ => False) x.e x.xs x.v x.b
  one : (bks ρ).Nodup
  off : ∀ g ∈ bks ρ, ¬ r.Sh g ∧ ¬ r.X nb g
theorem Held.nil {w : World} {r : Rs} {nb : Nat} : Held P w r nb [] := ⟨fun _ h => (by cases h), List.nodup_nil, fun g h => (by cases h)⟩
theorem bks_mem {ρ : List Rw} {g : Nat} : g ∈ bks ρ ↔ ∃ x ∈ ρ, x.b = some g := by simp [bks]
theorem bks_app (a b : List Rw) : bks (a ++ b) = bks a ++ bks b := by simp [bks]
theorem RepOwn.lt {w : World} {Sh : Nat → Prop} {e : TypeId} {xs : List (List PC)} {v : Value} {o : Option Nat} (h : RepOwn P w Sh e xs v o) {g : Nat} (hg : o = some g) : g < w.heap.size := by
  obtain ⟨vals, ho, hb, _⟩ := h
  exact (ho.lt g (hb.trans hg)).2
theorem Held.lt {w : World} {r : Rs} {nb : Nat} {ρ : List Rw} (h : Held P w r nb ρ) {g : Nat} (hg : g ∈ bks ρ) : g < w.heap.size := by
  obtain ⟨x, hx, hb⟩ := bks_mem.1 hg
  exact (h.own x hx).lt hb
structure Step2 (m : Nat) (w : World) (r : Rs) (nb : Nat) (ρ : List Rw) (w' : World) (r' : Rs) (nb' : Nat) (ρ' : List Rw) : Prop where
  os : w'.os = w.os
  tape : w'.tape = w.tape
  output : w'.output = w.output
  size : w.heap.size ≤ w'.heap.size
  block : ∀ g, g < w.heap.size → ¬ X2 r nb ρ g → w'.heap[g]? = w.heap[g]?
  sh : ∀ g, r.Sh g → r'.Sh g
  shNew : ∀ g, r'.Sh g → r.Sh g ∨ X2 r nb ρ g ∨ w.heap.size ≤ g
  x : ∀ g, X2 r' nb' ρ' g → X2 r nb ρ g ∨ w.heap.size ≤ g
  β : ∀ b, b < m → r'.β b = r.β b
  κ : r'.κ = r.κ
  ty : ∀ g T, bty w g = some T → bty w' g = some T
theorem Step2.refl (m : Nat) (w : World) (r : Rs) (nb : Nat) (ρ : List Rw) : Step2 m w r nb ρ w r nb ρ :=
  ⟨rfl, rfl, rfl, Nat.le_refl _, fun _ _ _ => rfl, fun _ h => h, fun _ h => .inl h, fun _ h => .inl h, fun _ _ => rfl, rfl, fun _ _ h => h⟩
theorem Step2.trans {m : Nat} {w₀ w₁ w₂ : World} {r₀ r₁ r₂ : Rs} {n₀ n₁ n₂ : Nat} {ρ₀ ρ₁ ρ₂ : List Rw} (h : Step2 m w₀ r₀ n₀ ρ₀ w₁ r₁ n₁ ρ₁) (k : Step2 m w₁ r₁ n₁ ρ₁ w₂ r₂ n₂ ρ₂) : Step2 m w₀ r₀ n₀ ρ₀ w₂ r₂ n₂ ρ₂ where
  os := k.os.trans h.os
  tape := k.tape.trans h.tape
  output := k.output.trans h.output
  size := Nat.le_trans h.size k.size
  block := fun g hg hx => by
    rw [k.block g (Nat.lt_of_lt_of_le hg h.size) (fun h1 => (h.x g h1).elim hx (fun h2 => by omega)), h.block g hg hx]
  sh := fun g hg => k.sh g (h.sh g hg)
  shNew := fun g hg => by
    rcases k.shNew g hg with h1 | h1 | h1
    · exact h.shNew g h1
    · rcases h.x g h1 with h2 | h2
      · exact .inr (.inl h2)
      · exact .inr (.inr h2)
    · exact .inr (.inr (Nat.le_trans h.size h1))
  x := fun g hg => by
    rcases k.x g hg with h1 | h1
    · exact h.x g h1
    · exact .inr (Nat.le_trans h.size h1)
  β := fun b hb => by rw [k.β b hb, h.β b hb]
  κ := k.κ.trans h.κ
  ty := fun g T hg => k.ty g T (h.ty g T hg)
/-- What is told apart stands while its blocks stand. -/
theorem Held.go {w w' : World} {r r' : Rs} {nb nb' : Nat} {ρ : List Rw} (h : Held P w r nb ρ) (hw : ∀ g ∈ bks ρ, w'.heap[g]? = w.heap[g]?) (ho : ∀ g ∈ bks ρ, ¬ r'.Sh g ∧ ¬ r'.X nb' g) : Held P w' r' nb' ρ :=
  ⟨fun x hx => (h.own x hx).mono (fun _ h => h) (fun _ h => h.elim) fun k hk => hw k (bks_mem.2 ⟨x, hx, hk⟩), h.one, ho⟩
/-- An old step leaves rows told apart as they are. -/
theorem Held.step {m : Nat} {w w' : World} {r r' : Rs} {nb nb' : Nat} {ρ : List Rw} (h : Held P w r nb ρ) (hs : Step m w r nb w' r' nb') : Held P w' r' nb' ρ ∧ Step2 m w r nb ρ w' r' nb' ρ := by
  refine ⟨h.go (fun g hg => hs.block g (h.lt hg) (h.off g hg).2) fun g hg => ?_, ⟨hs.os, hs.tape, hs.output, hs.size, fun g hg hx => hs.block g hg fun h1 => hx (.inl h1), hs.sh, fun g hg => ?_, fun g hg => ?_, hs.β, hs.κ, hs.ty⟩⟩
  · have hlt := h.lt hg
    obtain ⟨h1, h2⟩ := h.off g hg
    refine ⟨fun h3 => ?_, fun h3 => ?_⟩
    · rcases hs.shNew g h3 with h4 | h4 | h4
      · exact h1 h4
      · exact h2 h4
      · omega
    · rcases hs.x g h3 with h4 | h4
      · exact h2 h4
      · omega
  · rcases hs.shNew g hg with h4 | h4 | h4
    · exact .inl h4
    · exact .inr (.inl (.inl h4))
    · exact .inr (.inr h4)
  · rcases hg with hg | hg
    · rcases hs.x g hg with h4 | h4
      · exact .inl (.inl h4)
      · exact .inr h4
    · exact .inl (.inr hg)
def Post2 (P : Program) (m : Nat) (w : World) (r : Rs) (nb : Nat) (ρ : List Rw) (Q : Exit → St → List Rw → Prop) : Exit → Act → World → Prop :=
  fun e a' w' => ∃ st' r' ρ', Q e st' ρ' ∧ st'.m = m ∧ Inv P st' a' w' r' ∧ Held P w' r' st'.bx.length ρ' ∧ Step2 m w r nb ρ w' r' st'.bx.length ρ'
def Tri2 (P : Program) (c : Code) (Q : Exit → St → List Rw → Prop) (st : St) (ρ : List Rw) : Prop :=
  ∀ a w r, Inv P st a w r → Held P w r st.bx.length ρ → c.wp P (Post2 P st.m w r st.bx.length ρ Q) a w
theorem Post2.step {m : Nat} {w₀ w₁ : World} {r₀ r₁ : Rs} {n₀ n₁ : Nat} {ρ₀ ρ₁ : List Rw} {Q : Exit → St → List Rw → Prop} (h : Step2 m w₀ r₀ n₀ ρ₀ w₁ r₁ n₁ ρ₁) {e : Exit} {a : Act} {w : World} (k : Post2 P m w₁ r₁ n₁ ρ₁ Q e a w) : Post2 P m w₀ r₀ n₀ ρ₀ Q e a w := by
  obtain ⟨st', r', ρ', h1, h2, h3, h4, h5⟩ := k
  exact ⟨st', r', ρ', h1, h2, h3, h4, h.trans h5⟩
theorem Post2.mono {m : Nat} {w₀ : World} {r₀ : Rs} {n₀ : Nat} {ρ₀ : List Rw} {Q Q' : Exit → St → List Rw → Prop} (hq : ∀ e st ρ, Q e st ρ → Q' e st ρ) {e : Exit} {a : Act} {w : World} (k : Post2 P m w₀ r₀ n₀ ρ₀ Q e a w) : Post2 P m w₀ r₀ n₀ ρ₀ Q' e a w := by
  obtain ⟨st', r', ρ', h1, h2⟩ := k
  exact ⟨st', r', ρ', hq _ _ _ h1, h2⟩
variable {st : St} {ρ : List Rw} {Q : Exit → St → List Rw → Prop}
theorem Tri2.mono {c : Code} {Q' : Exit → St → List Rw → Prop} (hq : ∀ e st ρ, Q e st ρ → Q' e st ρ) (h : Tri2 P c Q st ρ) : Tri2 P c Q' st ρ :=
  fun a w r hi hh => Code.wp_mono (fun _ _ _ k => Post2.mono hq k) (h a w r hi hh)
/-- An old triple. -/
theorem Tri2.lift {c : Code} (h : Tri P c (fun e st' => Q e st' ρ) st) : Tri2 P c Q st ρ := by
  intro a w r hi hh
  refine Code.wp_mono (fun e a' w' k => ?_) (h a w r hi)
  obtain ⟨st', r', h1, h2, h3, h4⟩ := k
  obtain ⟨h5, h6⟩ := hh.step h4
  exact ⟨st', r', ρ, h1, h2, h3, h5, h6⟩
def Ex2 (next : St → List Rw → Prop) (Q : Exit → St → List Rw → Prop) : Exit → St → List Rw → Prop
  | .normal, st, ρ => next st ρ
  | e, st, ρ => Q e st ρ
theorem Tri2.seq {x y : Code} (h : Tri2 P x (Ex2 (Tri2 P y Q) Q) st ρ) : Tri2 P (.seq x y) Q st ρ := by
  intro a w r hi hh
  refine wp_seq (Code.wp_mono (fun e a' w' k => ?_) (h a w r hi hh))
  obtain ⟨st', r', ρ', h1, h2, h3, h4, h5⟩ := k
  cases e
  case normal =>
    refine Code.wp_mono (fun _ _ _ k => Post2.step h5 ?_) (h1 a' w' r' h3 h4)
    rw [h2] at k; exact k
  all_goals exact ⟨st', r', ρ', h1, h2, h3, h4, h5⟩
theorem Tri2.sq {x y : Code} (h : Tri P x (Ex (fun st' => Tri2 P y Q st' ρ) (fun e st' => Q e st' ρ)) st) : Tri2 P (.seq x y) Q st ρ :=
  Tri2.seq (Tri2.lift (Tri.mono (fun e st' k => by cases e <;> exact k) h))
theorem Tri2.skip (h : Q .normal st ρ) : Tri2 P .skip Q st ρ := Tri2.lift (Tri.skip h)
theorem Tri2.ret (h : Q .ret st ρ) : Tri2 P .ret Q st ρ := Tri2.lift (Tri.ret h)
def Bk2 (id : Nat) (Q : Exit → St → List Rw → Prop) : Exit → St → List Rw → Prop
  | .exit id', st, ρ => if id' = id then Q .normal st ρ else Q (.exit id') st ρ
  | e, st, ρ => Q e st ρ
theorem Tri2.block {id : Nat} {c : Code} (h : Tri2 P c (Bk2 id Q) st ρ) : Tri2 P (.block id c) Q st ρ := by
  intro a w r hi hh
  refine wp_block (Code.wp_mono (fun e a' w' k => ?_) (h a w r hi hh))
  obtain ⟨st', r', ρ', h1, h2, h3, h4⟩ := k
  cases e
  case exit id' =>
    simp only [Bk2] at h1
    simp only [Exit.inBlock]
    split
    · rename_i e; rw [if_pos e] at h1; exact ⟨st', r', ρ', h1, h2, h3, h4⟩
    · rename_i e; rw [if_neg e] at h1; exact ⟨st', r', ρ', h1, h2, h3, h4⟩
  all_goals exact ⟨st', r', ρ', h1, h2, h3, h4⟩
def TriR2 (P : Program) (c : Code) (Q : Exit → St → List Rw → Prop) : Nat → St → List Rw → Prop
  | 0, _, _ => False
  | k + 1, st, ρ => Tri2 P c (Ex2 (TriR2 P c Q k) Q) st ρ
theorem TriR2.rounds {c : Code} : ∀ (k : Nat) (st : St) (ρ : List Rw), TriR2 P c Q k st ρ → ∀ a w r, Inv P st a w r → Held P w r st.bx.length ρ → Code.rounds P c (Post2 P st.m w r st.bx.length ρ Q) k a w
  | 0, _, _, h, _, _, _, _, _ => h.elim
  | k + 1, st, ρ, h, a, w, r, hi, hh => by
    rw [rounds_succ]
    refine Code.wp_mono (fun e a' w' q => ?_) (h a w r hi hh)
    obtain ⟨st', r', ρ', h1, h2, h3, h4, h5⟩ := q
    cases e
    case normal =>
      refine rounds_mono (fun _ _ _ q => Post2.step h5 ?_) k a' w' (TriR2.rounds k st' ρ' h1 a' w' r' h3 h4)
      rw [h2] at q; exact q
    all_goals exact ⟨st', r', ρ', h1, h2, h3, h4, h5⟩
theorem Tri2.loop {c : Code} (k : Nat) (h : TriR2 P c Q k st ρ) : Tri2 P (.loop c) Q st ρ :=
  fun a w r hi hh => wp_loop_rounds k (TriR2.rounds k st ρ h a w r hi hh)
/-- The state is turned, and what is told apart; the memory as it is. -/
def Turns2 (P : Program) (st : St) (ρ : List Rw) (st' : St) (ρ' : List Rw) : Prop := ∀ a w r, Inv P st a w r → Held P w r st.bx.length ρ → ∃ r', st'.m = st.m ∧ Inv P st' a w r' ∧ Held P w r' st'.bx.length ρ' ∧ Step2 st.m w r st.bx.length ρ w r' st'.bx.length ρ'
theorem Tri2.turn {c : Code} {st' : St} {ρ' : List Rw} (ht : Turns2 P st ρ st' ρ') (h : Tri2 P c Q st' ρ') : Tri2 P c Q st ρ := by
  intro a w r hi hh
  obtain ⟨r', h1, h2, h3, h4⟩ := ht a w r hi hh
  refine Code.wp_mono (fun _ _ _ k => Post2.step h4 ?_) (h a w r' h2 h3)
  rw [h1] at k; exact k
/-! Regions. -/
def TriO2 (P : Program) (ops : Array Oper) (l : List Oper) (Q : St → List Rw → Prop) (st : St) (ρ : List Rw) : Prop :=
  ∀ a w r, Inv P st a w r → Held P w r st.bx.length ρ → wpList P ops (Post2 P st.m w r st.bx.length ρ (fun e st' ρ' => e = .normal ∧ Q st' ρ')) l a w
theorem wpList_app {ops : Array Oper} {Q Q1 : Exit → Act → World → Prop} {l2 : List Oper} (hq : ∀ e a w, Q1 e a w → e = .normal ∧ wpList P ops Q l2 a w) : ∀ (l1 : List Oper) (a : Act) (w : World), wpList P ops Q1 l1 a w → wpList P ops Q (l1 ++ l2) a w
  | [], a, w, h => (hq _ _ _ h).2
  | o :: l, a, w, h => by
    have no : ∀ a w, ¬ Q1 .outgrown a w := fun a w h => by cases (hq _ _ _ h).1
    unfold wpList at h
    rw [List.cons_append]
    unfold wpList
    split
    · rename_i hw
      rw [if_pos hw] at h
      rcases h with h | ⟨_, a', w', h2⟩
      · refine .inl ?_
        unfold Oper.wp at h ⊢
        generalize (execOp a.eval o).run P w = x at h ⊢
        cases x with
        | ok n w' =>
          cases n <;> simp only [Oper.upon] at h ⊢
          case value v => exact wpList_app hq l _ _ h
          case skip => exact wpList_app hq l _ _ h
          case defer d => exact wpList_app hq l _ _ h
          case enter f args =>
            refine h.mono fun e w'' k => ?_
            cases e with
            | returned v => exact wpList_app hq l _ _ k
            | panicked ch => exact absurd (hq _ _ _ k).1 (by intro h; cases h)
            | outgrown => exact absurd k (fun ⟨a, w, k⟩ => no a w k)
          case row rw args => exact h.mono fun v w'' k => wpList_app hq l _ _ k
        | halt x w' =>
          cases x <;> simp only [Oper.upon] at h ⊢
          exact absurd (hq _ _ _ h).1 (by intro h; cases h)
      · exact absurd h2 (no a' w')
    · rename_i hw
      rw [if_neg hw] at h
      exact wpList_app hq l _ _ h
theorem TriO2.turn {ops : Array Oper} {l : List Oper} {Q : St → List Rw → Prop} {st' : St} {ρ' : List Rw} (ht : Turns2 P st ρ st' ρ') (h : TriO2 P ops l Q st' ρ') : TriO2 P ops l Q st ρ := by
  intro a w r hi hh
  obtain ⟨r', h1, h2, h3, h4⟩ := ht a w r hi hh
  refine wpList_mono (fun _ _ _ k => Post2.step h4 ?_) l a w (h a w r' h2 h3)
  rw [h1] at k; exact k
/-- The first operations are old ones. -/
theorem TriO2.pre {ops : Array Oper} {l1 l2 : List Oper} {Q : St → List Rw → Prop} (h : TriO P ops l1 (fun st' => TriO2 P ops l2 Q st' ρ) st) : TriO2 P ops (l1 ++ l2) Q st ρ := by
  intro a w r hi hh
  refine wpList_app (fun e a' w' k => ?_) l1 a w (h a w r hi)
  obtain ⟨st', r', ⟨h0, h1⟩, h2, h3, h4⟩ := k
  obtain ⟨h5, h6⟩ := hh.step h4
  refine ⟨h0, wpList_mono (fun _ _ _ k => Post2.step h6 ?_) l2 a' w' (h1 a' w' r' h3 h5)⟩
  rw [h2] at k; exact k
theorem TriO2.nil {ops : Array Oper} {Q : St → List Rw → Prop} (h : Q st ρ) : TriO2 P ops [] Q st ρ :=
  fun a w r hi hh => ⟨st, r, ρ, ⟨rfl, h⟩, rfl, hi, hh, Step2.refl ..⟩
theorem Tri2.region {id : Nat} {l : List Oper} (h : TriO2 P l.toArray l (Q .normal) st ρ) : Tri2 P (.region id l.toArray false) Q st ρ := by
  intro a w r hi hh
  refine wp_region_lit (wpList_mono (fun e a' w' k => ?_) l a w (h a w r hi hh))
  obtain ⟨st', r', ρ', ⟨rfl, h1⟩, h2⟩ := k
  exact ⟨st', r', ρ', h1, h2⟩
/-- The first n operations, computed. -/
theorem TriO2.ev {ops : Array Oper} {l : List Oper} {Q : St → List Rw → Prop} (n : Nat) (hp : List Hp) {st' : St} (hy : TriO2 P ops (l.drop n) Q st' ρ) (h : evN3 P ops (l.take n).length 0 (l.take n) st (hsOf hp) = some (qsOf hp, st', []) := by kernel_rfl) : TriO2 P ops l Q st ρ := by
  rw [← List.take_append_drop n l]
  refine TriO2.pre (evN3_spec _ _ _ _ _ h (qsOf_all hp) ?_)
  rw [List.drop_length]
  exact TriO.nil hy
theorem TriO2.fin {ops : Array Oper} {l : List Oper} {Q : St → List Rw → Prop} (ts : List Nat) (nb : Nat) (fx : List Fix) {st' : St} (hy : TriO2 P ops l Q st' ρ) (h : fin P ts nb fx st = some st' := by kernel_rfl) : TriO2 P ops l Q st ρ := by
  refine TriO2.turn (fun a w r hi hh => ?_) hy
  obtain ⟨r', h1, h2, h3⟩ := fin_turns h a w r hi
  obtain ⟨h4, h5⟩ := hh.step h3
  exact ⟨r', h1, h2, h4, h5⟩
end
end Go.Proofs.YtoclajfeeebbbaaGreatDoor.E
