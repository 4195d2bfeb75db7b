/- The engine, part D: a frame's triples, control. Plain lemmas; no program. -/
import Derived.Test.YtaikjjlbfdkgmaaDoorEngC
set_option linter.unusedVariables false
set_option linter.unusedSectionVars false
set_option linter.unusedSimpArgs false
namespace Go.Proofs.YtaikjjlbfdkgmaaDoor.E
open Go.RowKit
variable [LaidFacts]

section
variable {P : Program}

/-- What a piece of code ends in: the pure state's own post, the memory behind it. -/
def Post (P : Program) (m : Nat) (w : World) (r : Rs) (nb : Nat) (Q : Exit → St → Prop) : Exit → Act → World → Prop :=
  fun e a' w' => ∃ st' r', Q e st' ∧ st'.m = m ∧ Inv P st' a' w' r' ∧ Step m w r nb w' r' st'.bx.length

def Tri (P : Program) (c : Code) (Q : Exit → St → Prop) (st : St) : Prop :=
  ∀ a w r, Inv P st a w r → c.wp P (Post P st.m w r st.bx.length Q) a w

theorem Post.step {m : Nat} {w₀ w₁ : World} {r₀ r₁ : Rs} {n₀ n₁ : Nat} {Q : Exit → St → Prop} (h : Step m w₀ r₀ n₀ w₁ r₁ n₁) {e : Exit} {a : Act} {w : World} (k : Post P m w₁ r₁ n₁ Q e a w) : Post P m w₀ r₀ n₀ Q e a w := by
  obtain ⟨st', r', h1, h2, h3, h4⟩ := k
  exact ⟨st', r', h1, h2, h3, h.trans h4⟩

theorem Post.mono {m : Nat} {w₀ : World} {r₀ : Rs} {n₀ : Nat} {Q Q' : Exit → St → Prop} (hq : ∀ e st, Q e st → Q' e st) {e : Exit} {a : Act} {w : World} (k : Post P m w₀ r₀ n₀ Q e a w) : Post P m w₀ r₀ n₀ Q' e a w := by
  obtain ⟨st', r', h1, h2, h3, h4⟩ := k
  exact ⟨st', r', hq _ _ h1, h2, h3, h4⟩

theorem Tri.mono {c : Code} {Q Q' : Exit → St → Prop} {st : St} (hq : ∀ e st, Q e st → Q' e st) (h : Tri P c Q st) : Tri P c Q' st :=
  fun a w r hi => Code.wp_mono (fun _ _ _ k => Post.mono hq k) (h a w r hi)

/-- The state may be turned, the memory as it is. -/
def Turns (P : Program) (st st' : St) : Prop := ∀ a w r, Inv P st a w r → ∃ r', st'.m = st.m ∧ Inv P st' a w r' ∧ Step st.m w r st.bx.length w r' st'.bx.length

theorem Turns.refl (st : St) : Turns P st st := fun a w r h => ⟨r, rfl, h, Step.refl ..⟩
theorem Turns.trans {st st₁ st₂ : St} (h : Turns P st st₁) (k : Turns P st₁ st₂) : Turns P st st₂ := fun a w r hi => by
  obtain ⟨r1, h1, h2, h3⟩ := h a w r hi
  obtain ⟨r2, k1, k2, k3⟩ := k a w r1 h2
  exact ⟨r2, k1.trans h1, k2, h3.trans (h1 ▸ k3)⟩
theorem Tri.turn {c : Code} {Q : Exit → St → Prop} {st st' : St} (ht : Turns P st st') (h : Tri P c Q st') : Tri P c Q st := by
  intro a w r hi
  obtain ⟨r', h1, h2, h3⟩ := ht a w r hi
  refine Code.wp_mono (fun _ _ _ k => Post.step h3 ?_) (h a w r' h2)
  rw [h1] at k; exact k

/-- Go on, or leave. -/
def Ex (next : St → Prop) (Q : Exit → St → Prop) : Exit → St → Prop
  | .normal, st => next st
  | e, st => Q e st

theorem Tri.seq {x y : Code} {Q : Exit → St → Prop} {st : St} (h : Tri P x (Ex (Tri P y Q) Q) st) : Tri P (.seq x y) Q st := by
  intro a w r hi
  refine wp_seq (Code.wp_mono (fun e a' w' k => ?_) (h a w r hi))
  obtain ⟨st', r', h1, h2, h3, h4⟩ := k
  cases e
  case normal =>
    refine Code.wp_mono (fun _ _ _ k => Post.step h4 ?_) (h1 a' w' r' h3)
    rw [h2] at k; exact k
  all_goals exact ⟨st', r', h1, h2, h3, h4⟩

theorem Tri.skip {Q : Exit → St → Prop} {st : St} (h : Q .normal st) : Tri P .skip Q st := fun a w r hi => wp_skip ⟨st, r, h, rfl, hi, Step.refl ..⟩
theorem Tri.ret {Q : Exit → St → Prop} {st : St} (h : Q .ret st) : Tri P .ret Q st := fun a w r hi => wp_ret ⟨st, r, h, rfl, hi, Step.refl ..⟩
theorem Tri.exit {id : Nat} {Q : Exit → St → Prop} {st : St} (h : Q (.exit id) st) : Tri P (.exit id) Q st := fun a w r hi => wp_exit ⟨st, r, h, rfl, hi, Step.refl ..⟩
theorem Tri.label {l : Nat} {Q : Exit → St → Prop} {st : St} (h : Q .normal st) : Tri P (.label l) Q st := fun a w r hi => wp_label ⟨st, r, h, rfl, hi, Step.refl ..⟩

/-- An exit to the block itself goes on behind it. -/
def Bk (id : Nat) (Q : Exit → St → Prop) : Exit → St → Prop
  | .exit id', st => if id' = id then Q .normal st else Q (.exit id') st
  | e, st => Q e st

theorem Tri.block {id : Nat} {c : Code} {Q : Exit → St → Prop} {st : St} (h : Tri P c (Bk id Q) st) : Tri P (.block id c) Q st := by
  intro a w r hi
  refine wp_block (Code.wp_mono (fun e a' w' k => ?_) (h a w r hi))
  obtain ⟨st', r', h1, h2, h3, h4⟩ := k
  cases e
  case exit id' =>
    simp only [Bk] at h1
    simp only [Exit.inBlock]
    split
    · rename_i e; rw [if_pos e] at h1; exact ⟨st', r', h1, h2, h3, h4⟩
    · rename_i e; rw [if_neg e] at h1; exact ⟨st', r', h1, h2, h3, h4⟩
  all_goals exact ⟨st', r', h1, h2, h3, h4⟩

/-! Loops, by rounds. -/
def TriR (P : Program) (c : Code) (Q : Exit → St → Prop) : Nat → St → Prop
  | 0, _ => False
  | k + 1, st => Tri P c (Ex (TriR P c Q k) Q) st

theorem rounds_mono {c : Code} {Q Q' : Exit → Act → World → Prop} (hq : ∀ e a w, Q e a w → Q' e a w) : ∀ n a w, Code.rounds P c Q n a w → Code.rounds P c Q' n a w
  | 0, _, _, h => h
  | n + 1, a, w, h => by
    rw [rounds_succ] at h ⊢
    refine Code.wp_mono (fun e a w k => ?_) h
    cases e
    case normal => exact rounds_mono hq n a w k
    all_goals exact hq _ _ _ k

theorem TriR.rounds {c : Code} {Q : Exit → St → Prop} : ∀ (k : Nat) (st : St), TriR P c Q k st → ∀ a w r, Inv P st a w r → Code.rounds P c (Post P st.m w r st.bx.length Q) k a w
  | 0, _, h, _, _, _, _ => h.elim
  | k + 1, st, h, a, w, r, hi => by
    rw [rounds_succ]
    refine Code.wp_mono (fun e a' w' q => ?_) (h a w r hi)
    obtain ⟨st', r', h1, h2, h3, h4⟩ := q
    cases e
    case normal =>
      refine rounds_mono (fun _ _ _ q => Post.step h4 ?_) k a' w' (TriR.rounds k st' h1 a' w' r' h3)
      rw [h2] at q; exact q
    all_goals exact ⟨st', r', h1, h2, h3, h4⟩

theorem Tri.loop {c : Code} {Q : Exit → St → Prop} {st : St} (k : Nat) (h : TriR P c Q k st) : Tri P (.loop c) Q st :=
  fun a w r hi => wp_loop_rounds k (TriR.rounds k st h a w r hi)

theorem TriR.turn {c : Code} {Q : Exit → St → Prop} {st st' : St} (ht : Turns P st st') : ∀ k, TriR P c Q k st' → TriR P c Q k st
  | 0, h => h
  | _ + 1, h => Tri.turn ht h

/-! Regions: a list of operations. -/
/-- An operation that yields, and turns the pure state. -/
def OpOK (P : Program) (o : Oper) (st st' : St) : Prop :=
  ∀ a w r, Inv P st a w r → ∀ (K : Act → World → Prop) (Q : Exit → Act → World → Prop),
    (∀ v w' r', st'.m = st.m → Inv P st' (a.put o.dst v) w' r' → Step st.m w r st.bx.length w' r' st'.bx.length → K (a.put o.dst v) w') → o.wp P a w K Q

theorem Step.le {m m' : Nat} {w w' : World} {r r' : Rs} {nb nb' : Nat} (hm : m' ≤ m) (h : Step m w r nb w' r' nb') : Step m' w r nb w' r' nb' :=
  ⟨h.os, h.tape, h.output, h.size, h.block, h.sh, h.shNew, h.x, fun b hb => h.β b (by omega), h.κ⟩

/-- The same; all boxes stay where they are. -/
def OpE (P : Program) (o : Oper) (st st' : St) : Prop :=
  ∀ a w r, Inv P st a w r → ∀ (K : Act → World → Prop) (Q : Exit → Act → World → Prop),
    (∀ v w' r', st'.m = st.m → Inv P st' (a.put o.dst v) w' r' → Step st.bx.length w r st.bx.length w' r' st'.bx.length → K (a.put o.dst v) w') → o.wp P a w K Q
theorem OpE.ok {o : Oper} {st st' : St} (h : OpE P o st st') : OpOK P o st st' := fun a w r hi K Q hK => h a w r hi K Q fun v w' r' h1 h2 h3 => hK v w' r' h1 h2 (h3.le hi.m)

def TriO (P : Program) (ops : Array Oper) (l : List Oper) (Q : St → Prop) (st : St) : Prop :=
  ∀ a w r, Inv P st a w r → wpList P ops (Post P st.m w r st.bx.length (fun e st' => e = .normal ∧ Q st')) l a w

theorem wpList_mono {ops : Array Oper} {Q Q' : Exit → Act → World → Prop} (hq : ∀ e a w, Q e a w → Q' e a w) : ∀ (l : List Oper) (a : Act) (w : World), wpList P ops Q l a w → wpList P ops Q' l a w
  | [], a, w, h => hq _ _ _ h
  | o :: l, a, w, h => by
    unfold wpList at h ⊢
    split
    · rename_i hw
      rw [if_pos hw] at h
      rcases h with h | ⟨h1, a', w', h2⟩
      · refine .inl ?_
        unfold Oper.wp at h ⊢
        generalize (execOp a.eval o).run P w = x at h ⊢
        have hl : LetsOut Q → LetsOut Q' := fun ⟨a, w, h⟩ => ⟨a, w, hq _ _ _ h⟩
        cases x with
        | ok n w' =>
          cases n <;> simp only [Oper.upon] at h ⊢
          case value v => exact wpList_mono hq l _ _ h
          case skip => exact wpList_mono hq l _ _ h
          case defer d => exact wpList_mono hq l _ _ h
          case enter f args =>
            refine h.mono fun e w'' k => ?_
            cases e with
            | returned v => exact wpList_mono hq l _ _ k
            | panicked ch => exact hq _ _ _ k
            | outgrown => exact hl k
          case row rw args => exact h.mono fun v w'' k => wpList_mono hq l _ _ k
        | halt x w' =>
          cases x <;> simp only [Oper.upon] at h ⊢
          exact hq _ _ _ h
      · exact .inr ⟨h1, a', w', hq _ _ _ h2⟩
    · rename_i hw
      rw [if_neg hw] at h
      exact wpList_mono hq l _ _ h

theorem TriO.nil {ops : Array Oper} {Q : St → Prop} {st : St} (h : Q st) : TriO P ops [] Q st :=
  fun a w r hi => ⟨st, r, ⟨rfl, h⟩, rfl, hi, Step.refl ..⟩

theorem TriO.turn {ops : Array Oper} {l : List Oper} {Q : St → Prop} {st st' : St} (ht : Turns P st st') (h : TriO P ops l Q st') : TriO P ops l Q st := by
  intro a w r hi
  obtain ⟨r', h1, h2, h3⟩ := ht a w r hi
  refine wpList_mono (fun _ _ _ k => Post.step h3 ?_) l a w (h a w r' h2)
  rw [h1] at k; exact k

theorem TriO.cons {ops : Array Oper} {o : Oper} {l : List Oper} {Q : St → Prop} {st st' : St} (hg : o.guard = none) (ho : OpOK P o st st') (h : TriO P ops l Q st') : TriO P ops (o :: l) Q st := by
  intro a w r hi
  refine wpList_plain hg fun K hK => ?_
  refine ho a w r hi K _ fun v w' r' h1 h2 h3 => hK _ _ ?_
  refine wpList_mono (fun _ _ _ k => Post.step h3 ?_) l _ w' (h _ w' r' h2)
  rw [h1] at k; exact k

theorem Tri.region {id : Nat} {l : List Oper} {Q : Exit → St → Prop} {st : St} (h : TriO P l.toArray l (Q .normal) st) : Tri P (.region id l.toArray false) Q st := by
  intro a w r hi
  refine wp_region_lit (wpList_mono (fun e a' w' k => ?_) l a w (h a w r hi))
  obtain ⟨st', r', ⟨rfl, h1⟩, h2⟩ := k
  exact ⟨st', r', h1, h2⟩

end
end Go.Proofs.YtaikjjlbfdkgmaaDoor.E
