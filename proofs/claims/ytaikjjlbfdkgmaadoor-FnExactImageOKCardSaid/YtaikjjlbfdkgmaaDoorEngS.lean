/- The engine, part S: what is owned goes from place to place; calls that share; loops. Plain lemmas; no program. -/
import Derived.Test.YtaikjjlbfdkgmaaDoorEngR
set_option linter.unusedVariables false
set_option linter.unusedSectionVars false
set_option linter.unusedSimpArgs false
namespace Go.Proofs.YtaikjjlbfdkgmaaDoor.E
open Go.RowKit
variable [LaidFacts]

section
variable {P : Program} {st : St} {a : Act} {w : World} {r : Rs} {o : Oper}

theorem OpOK.turn {st' st'' : St} (h : OpOK P o st st') (ht : Turns P st' st'') : OpOK P o st st'' := by
  intro a w r hi K Q hK
  refine h a w r hi K Q fun v w' r' h1 h2 h3 => ?_
  obtain ⟨r'', k1, k2, k3⟩ := ht _ _ _ h2
  exact hK v w' r'' (k1.trans h1) k2 (h3.trans (h1 ▸ k3))

/-- Two places that hold one row: the other one owns it from here on. -/
theorem Inv.swap (hi : Inv P st a w r) {p q : Place} {e : TypeId} {xs : List (List PC)} (hp : st.at p = some (.own e xs)) (hq : st.at q = some (.al p)) (htp : ∃ t c, p = .t t c) (htq : ∃ t c, q = .t t c) :
    ∃ r', Inv P ((st.setAt p (.al q)).setAt q (.own e xs)) a w r' ∧ r'.Sh = r.Sh ∧ r'.β = r.β ∧ r'.κ = r.κ ∧ ∀ g, r'.X st.bx.length g → r.X st.bx.length g := by
  have hne : p ≠ q := fun e => by subst e; rw [hp] at hq; cases hq
  have hv : alpha a w r q = alpha a w r p := by
    have := hi.cell q _ hq
    exact this.2 ⟨_, hp, by simp⟩
  have hat1 := fun z => St.at_setAt (x := .al q) hp z
  have hq1 : (st.setAt p (.al q)).at q = some (.al p) := by rw [hat1, if_neg (fun e => hne e.symm)]; exact hq
  have hat := fun z => St.at_setAt (x := .own e xs) hq1 z
  have hat' : ∀ z, ((st.setAt p (.al q)).setAt q (.own e xs)).at z = if z = q then some (.own e xs) else if z = p then some (.al q) else st.at z := fun z => by rw [hat, hat1]
  obtain ⟨tp, cp, rfl⟩ := htp
  obtain ⟨tq, cq, rfl⟩ := htq
  have hbx : ((st.setAt (.t tp cp) (.al (.t tq cq))).setAt (.t tq cq) (.own e xs)).bx = st.bx := by
    have h1 : ∀ (s : St) t c x, (s.setAt (.t t c) x).bx = s.bx := fun s t c x => by simp only [St.setAt]; split <;> rfl
    rw [h1, h1]
  have hγq : r.γ (.t tq cq) = none := (hi.cell _ _ hq).1
  have hlv : ∀ z, ((st.setAt (.t tp cp) (.al (.t tq cq))).setAt (.t tq cq) (.own e xs)).lives z → st.lives z := by
    intro z ⟨y, h1, h2⟩
    rw [hat'] at h1
    split at h1
    · rename_i hz; subst hz; exact ⟨_, hq, by simp⟩
    · split at h1
      · rename_i hz; subst hz; exact ⟨_, hp, by simp⟩
      · exact ⟨y, h1, h2⟩
  have hexs : ∀ z, st.ex z → ((st.setAt (.t tp cp) (.al (.t tq cq))).setAt (.t tq cq) (.own e xs)).ex z := by
    have h1 : ∀ (s : St) t c x z, s.ex z → (s.setAt (.t t c) x).ex z := by
      intro s t c x z hz
      cases z with
      | t k d =>
        obtain ⟨pv, hz⟩ := hz
        simp only [St.ex, St.setAt]
        split
        · rw [St.get_rep]; split
          · exact ⟨_, rfl⟩
          · exact ⟨pv, hz⟩
        · exact ⟨pv, hz⟩
      | b b d =>
        simp only [St.ex, St.setAt] at hz ⊢
        split <;> exact hz
    exact fun z hz => h1 _ _ _ _ _ (h1 _ _ _ _ _ hz)
  refine ⟨{ r with γ := fun z => if z = .t tq cq then r.γ (.t tp cp) else if z = .t tp cp then none else r.γ z }, ?_, rfl, rfl, rfl, ?_⟩
  · have hγ : ∀ z g, (if z = .t tq cq then r.γ (.t tp cp) else if z = .t tp cp then none else r.γ z) = some g → ∃ y, r.γ y = some g ∧ (z = .t tq cq ∧ y = .t tp cp ∨ (z ≠ .t tq cq ∧ z ≠ .t tp cp ∧ y = z)) := by
      intro z g hg
      split at hg
      · exact ⟨_, hg, .inl ⟨‹_›, rfl⟩⟩
      · split at hg
        · cases hg
        · exact ⟨z, hg, .inr ⟨‹_›, ‹_›, rfl⟩⟩
    have hal : alpha a w { r with γ := fun z => if z = .t tq cq then r.γ (.t tp cp) else if z = .t tp cp then none else r.γ z } = alpha a w r := by funext z; cases z <;> rfl
    refine ⟨by rw [St.setAt_n, St.setAt_n]; exact hi.sz, by rw [St.setAt_m, St.setAt_m, hbx]; exact hi.m, fun t pv' ht => ?_, fun b cs hb => hi.bx b cs (by rw [← hbx]; exact hb), fun z x hz => ?_, fun z x z' hz hn => ?_, fun z g hg => ?_, fun z z' g hg hg' => ?_, fun z g b hg hb => ?_, by rw [hbx]; exact hi.bb, fun g hg => ?_, hi.defers, hi.lw, by rw [St.setAt_fx, St.setAt_fx]; exact hi.fx⟩
    · obtain ⟨pv1, h1, h2, h3⟩ := St.get_setAt ht
      obtain ⟨pv2, h4, h5, h6⟩ := St.get_setAt h1
      obtain ⟨v, h7, h8⟩ := hi.tm t pv2 h4
      exact ⟨v, h7, by rw [← h2, ← h3, ← h5, ← h6]; exact h8⟩
    · rw [hal]
      rw [hat'] at hz
      have lift : ∀ x v g, RepC P w r st (alpha a w r) x v g → RepC P w { r with γ := fun z => if z = .t tq cq then r.γ (.t tp cp) else if z = .t tp cp then none else r.γ z } ((st.setAt (.t tp cp) (.al (.t tq cq))).setAt (.t tq cq) (.own e xs)) (alpha a w r) x v g := fun x v g h =>
        h.mono (fun _ h => h) (fun _ _ => rfl) (fun _ _ => rfl) (fun b hb => ⟨by rw [hbx]; exact hb, rfl⟩) (fun z _ hz => ⟨hlv z hz, rfl⟩)
      split at hz
      · rename_i he; subst he; cases hz
        simp only [if_true]
        rw [hv]
        exact lift _ _ _ (hi.cell _ _ hp)
      · rename_i he
        split at hz
        · rename_i he2; subst he2; cases hz
          simp only [if_neg he, if_true]
          exact ⟨rfl, fun _ => hv.symm⟩
        · rename_i he2
          simp only [if_neg he, if_neg he2]
          exact lift _ _ _ (hi.cell z x hz)
    · rw [hat'] at hz
      split at hz
      · cases hz; simp [PC.names] at hn
      · split at hz
        · cases hz
          simp only [PC.names, Option.some.injEq] at hn
          subst hn
          obtain ⟨pv, h1, _⟩ := St.at_tmp hq
          exact hexs _ ⟨pv, h1⟩
        · exact hexs _ (hi.nm z x z' hz hn)
    · obtain ⟨y, h1, h2⟩ := hγ z g hg
      rcases h2 with ⟨rfl, rfl⟩ | ⟨h3, h4, rfl⟩
      · exact ⟨e, xs, by rw [hat', if_pos rfl]⟩
      · obtain ⟨e', ys, h5⟩ := hi.live _ g h1
        exact ⟨e', ys, by rw [hat', if_neg h3, if_neg h4]; exact h5⟩
    · obtain ⟨y, h1, h2⟩ := hγ z g hg
      obtain ⟨y', h1', h2'⟩ := hγ z' g hg'
      have := hi.inj y y' g h1 h1'
      subst this
      rcases h2 with ⟨rfl, h2⟩ | ⟨h3, h4, h5⟩ <;> rcases h2' with ⟨rfl, h2'⟩ | ⟨h3', h4', h5'⟩
      · rfl
      · exact absurd (h5'.symm.trans h2) h4'
      · exact absurd (h5.symm.trans h2') h4
      · rw [← h5, ← h5']
    · obtain ⟨y, h1, _⟩ := hγ z g hg
      rw [hbx] at hb
      exact hi.exb y g b h1 hb
    · obtain ⟨h1, h2, h3⟩ := hi.sh g hg
      refine ⟨h1, fun z hz => ?_, by rw [hbx]; exact h3⟩
      obtain ⟨y, h4, _⟩ := hγ z g hz
      exact h2 y h4
  · intro g hg
    rcases hg with ⟨z, hz⟩ | hb
    · simp only at hz
      split at hz
      · exact .inl ⟨_, hz⟩
      · split at hz
        · cases hz
        · exact .inl ⟨_, hz⟩
    · exact .inr hb

def isTmp : Place → Bool
  | .t _ _ => true
  | _ => false
/-- What another temporary owns and this one names is this one's from here on. -/
def St.give (st : St) (q : Place) : St :=
  match st.at q with
  | some (.al p) => match isTmp p, isTmp q, st.at p with
    | true, true, some (.own e xs) => (st.setAt p (.al q)).setAt q (.own e xs)
    | _, _, _ => st
  | _ => st

theorem isTmp_eq {p : Place} (h : isTmp p = true) : ∃ t c, p = .t t c := by cases p with | t t c => exact ⟨t, c, rfl⟩ | b b c => cases h

theorem Turns.give (q : Place) : Turns P st (st.give q) := by
  unfold St.give
  split
  · rename_i p hq
    split
    · rename_i e xs h1 h2 hp
      intro a w r hi
      obtain ⟨r', k1, k2, k3, k5, k4⟩ := hi.swap hp hq (isTmp_eq h1) (isTmp_eq h2)
      have hbx : ((st.setAt p (.al q)).setAt q (.own e xs)).bx.length = st.bx.length := by rw [St.setAt_len, St.setAt_len]
      exact ⟨r', by rw [St.setAt_m, St.setAt_m], k1, rfl, rfl, rfl, Nat.le_refl _, fun _ _ _ => rfl, fun g hg => k2 ▸ hg, fun g hg => .inl (k2 ▸ hg), fun g hg => .inl (k4 g (hbx ▸ hg)), fun b _ => by rw [k3], k5⟩
    · exact Turns.refl _
  · exact Turns.refl _

def giveAll (d : Nat) : Nat → Nat → St → St
  | 0, _, st => st
  | n + 1, c, st => giveAll d n (c + 1) (st.give (.t d c))
theorem Turns.giveAll (d : Nat) : ∀ (n c : Nat) (st : St), Turns P st (giveAll d n c st)
  | 0, _, st => Turns.refl st
  | n + 1, c, st => (Turns.give (.t d c)).trans (Turns.giveAll d n (c + 1) _)

/-! Loops. -/
theorem TriR.mono {c : Code} {Q : Exit → St → Prop} : ∀ {k k' : Nat} {st : St}, k ≤ k' → TriR P c Q k st → TriR P c Q k' st
  | 0, _, _, _, h => h.elim
  | k + 1, 0, _, h, _ => by omega
  | k + 1, k' + 1, st, h, ht => Tri.mono (fun e st' q => by cases e <;> first | exact TriR.mono (by omega) q | exact q) ht

/-- A loop that a function with rounds tells. -/
theorem TriR.ind {α ρ : Type} {c : Code} {Q : Exit → St → Prop} {res : ρ} (F : Nat → α → Option ρ) (S : α → St) (hz : ∀ x, F 0 x = none)
    (hs : ∀ k x, F (k + 1) x = some res → (∀ k' y, k' ≤ k → F k' y = some res → TriR P c Q k (S y)) → Tri P c (Ex (TriR P c Q k) Q) (S x)) : ∀ (k : Nat) (x : α), F k x = some res → TriR P c Q k (S x) := by
  intro k
  induction k using Nat.strongRecOn with
  | _ k ih =>
    intro x hx
    cases k with
    | zero => rw [hz] at hx; cases hx
    | succ k => exact hs k x hx fun k' y hk hy => TriR.mono hk (ih k' (by omega) y hy)

end
end Go.Proofs.YtaikjjlbfdkgmaaDoor.E
