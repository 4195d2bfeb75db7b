/- The engine, part H: turns of the pure state; stores, rows that are made. Plain lemmas; no program. -/
import Derived.Test.YtaikjjlbfdkgmaaDoorEngG
set_option linter.unusedVariables false
set_option linter.unusedSectionVars false
set_option linter.unusedSimpArgs false
namespace Go.Proofs.YtaikjjlbfdkgmaaDoor.E
open Go.RowKit
variable [LaidFacts]

section
variable {P : Program} {st : St} {a : Act} {w : World} {r : Rs}

theorem Inv.alpha_clr (p : Place) (fz : Bool) : alpha a w (r.clr p fz) = alpha a w r := by funext q; cases q <;> rfl

theorem St.setAt_m {st : St} {p : Place} {x : PC} : (st.setAt p x).m = st.m := by
  cases p with
  | t t c => simp only [St.setAt]; split <;> rfl
  | b b c => rfl
theorem St.setAt_n {st : St} {p : Place} {x : PC} : (st.setAt p x).n = st.n := by
  cases p with
  | t t c => simp only [St.setAt]; split <;> rfl
  | b b c => rfl
theorem St.setAt_len {st : St} {p : Place} {x : PC} : (st.setAt p x).bx.length = st.bx.length := by
  cases p with
  | t t c => simp only [St.setAt]; split <;> rfl
  | b b c => simp [St.setAt]

theorem Turns.freeze {p : Place} {e : TypeId} {xs : List (List PC)} (hp : st.at p = some (.own e xs)) : Turns P st (st.setAt p (.sl (P.cellsOf e) xs)) :=
  fun a w r hi => ⟨_, St.setAt_m, hi.freeze hp, by rw [St.setAt_len]; exact Step.clr⟩

/-- A nil row is one that nothing shares. -/
theorem Turns.ownNil {p : Place} (e : TypeId) (hp : st.at p = some .nl) : Turns P st (st.setAt p (.own e [])) := by
  intro a w r hi
  refine ⟨_, St.setAt_m, hi.setAt hp false (.inr rfl) (.inr (by simp)) (fun _ h => by simp [PC.names] at h) ?_, by rw [St.setAt_len]; exact Step.clr⟩
  have hv : alpha a w r p = .slice none 0 0 := by
    obtain ⟨_, hc⟩ := hi.cell p _ hp
    generalize alpha a w r p = v at hc
    cases hc with
    | s hs => cases hs; rfl
  rw [hv]
  exact ⟨[], ⟨by simp, .inl ⟨rfl, rfl⟩⟩, rfl, by simp, fun i x h => by simp at h⟩

/-- A nil row as any shared one. -/
theorem Turns.slNil {p : Place} (s : Nat) (hp : st.at p = some .nl) : Turns P st (st.setAt p (.sl s [])) := by
  intro a w r hi
  refine ⟨_, St.setAt_m, hi.setAt hp false (.inr rfl) (.inr (by simp)) (fun _ h => by simp [PC.names] at h) ?_, by rw [St.setAt_len]; exact Step.clr⟩
  obtain ⟨_, hc⟩ := hi.cell p _ hp
  generalize alpha a w r p = v at hc
  cases hc with
  | s hs => cases hs; exact ⟨rfl, .s .nil⟩

/-- What a place holds is given up. -/
theorem Inv.kill (h : Inv P st a w r) {p : Place} {y : PC} (hp : st.at p = some y) : Inv P (st.setAt p .dead) a w (r.clr p false) :=
  h.setAt hp false (.inr rfl) (.inl rfl) (fun _ h => by simp [PC.names] at h) rfl

/-! Temporaries that are given up, many at once. -/
def Place.isP (f : Nat → Bool) : Place → Bool
  | .t t' _ => f t'
  | _ => false
def PC.wipeP (f : Nat → Bool) (x : PC) : PC :=
  match x with
  | .al p => if p.isP f then .dead else .al p
  | .vw p lo n s => if p.isP f then .dead else .vw p lo n s
  | .el p i off s => if p.isP f then .dead else .el p i off s
  | x => x
def delP (f : Nat → Bool) : List (Nat × PV) → List (Nat × PV)
  | [] => []
  | (k, u) :: r => if f k then delP f r else (k, ⟨u.sh, u.cs.map (PC.wipeP f)⟩) :: delP f r
/-- Only these temporaries count from here on. -/
def St.dropP (st : St) (f : Nat → Bool) : St := { st with tm := delP f st.tm }

theorem look_delP (f : Nat → Bool) (l : List (Nat × PV)) (k : Nat) : look (delP f l) k = if f k then none else (look l k).map fun u => ⟨u.sh, u.cs.map (PC.wipeP f)⟩ := by
  induction l with
  | nil => simp [delP, look]
  | cons x r ih =>
    obtain ⟨j, u⟩ := x
    simp only [delP]
    by_cases hj : f j = true
    · rw [if_pos hj, ih]
      simp only [look]
      by_cases hk : j = k
      · subst hk; simp [hj]
      · rw [if_neg hk]
    · rw [if_neg hj]
      simp only [look]
      by_cases hk : j = k
      · subst hk; simp [hj]
      · rw [if_neg hk, if_neg hk, ih]

theorem St.get_dropP (st : St) (f : Nat → Bool) (k : Nat) : (st.dropP f).get k = if f k then none else (st.get k).map fun u => ⟨u.sh, u.cs.map (PC.wipeP f)⟩ := look_delP f st.tm k

theorem PC.wipeP_own {f : Nat → Bool} {x : PC} {e : TypeId} {xs : List (List PC)} (h : x.wipeP f = .own e xs) : x = .own e xs := by
  cases x <;> simp only [PC.wipeP] at h <;> (first | exact h | (split at h <;> cases h))

theorem PC.wipeP_names {f : Nat → Bool} {x : PC} {p : Place} (h : (x.wipeP f).names = some p) : x.names = some p ∧ p.isP f = false := by
  cases x <;> simp only [PC.wipeP] at h
  case al q => split at h <;> simp_all [PC.names]
  case vw q lo n s => split at h <;> simp_all [PC.names]
  case el q i o s => split at h <;> simp_all [PC.names]
  all_goals simp [PC.names] at h

theorem RepC.wipeP {al : Place → Value} {x : PC} {v : Value} {g : Option Nat} (f : Nat → Bool) (h : RepC P w r st al x v g) : RepC P w r st al (x.wipeP f) v g := by
  cases x <;> simp only [PC.wipeP]
  case al q => split <;> first | exact h.1 | exact h
  case vw q lo n s => split <;> first | exact h.1 | exact h
  case el q i o s => split <;> first | exact h.1 | exact h
  all_goals exact h

theorem St.at_dropP {f : Nat → Bool} {p : Place} {x : PC} (h : (st.dropP f).at p = some x) : p.isP f = false ∧ ∃ y, st.at p = some y ∧ (x = y.wipeP f ∨ x = y) := by
  cases p with
  | t k c =>
    obtain ⟨pv, h1, h2⟩ := St.at_tmp h
    rw [St.get_dropP] at h1
    split at h1
    · cases h1
    · rename_i hk
      obtain ⟨u, hu, rfl⟩ := Option.map_eq_some_iff.1 h1
      simp only [List.getElem?_map] at h2
      obtain ⟨y, hy, rfl⟩ := Option.map_eq_some_iff.1 h2
      exact ⟨by simpa [Place.isP] using hk, y, by simp [St.at, hu, hy], .inl rfl⟩
  | b b c => exact ⟨rfl, x, h, .inr rfl⟩

theorem St.lives_dropP {f : Nat → Bool} {p : Place} (h : (st.dropP f).lives p) : st.lives p := by
  obtain ⟨x, h1, h2⟩ := h
  obtain ⟨_, y, hy, hx⟩ := St.at_dropP h1
  refine ⟨y, hy, fun e => h2 ?_⟩
  subst e
  rcases hx with hx | hx <;> exact hx

def Rs.dropP (r : Rs) (f : Nat → Bool) : Rs := { r with γ := fun p => if p.isP f then none else r.γ p }

theorem Inv.dropP (h : Inv P st a w r) (f : Nat → Bool) : Inv P (st.dropP f) a w (r.dropP f) := by
  refine h.restate rfl h.m ?_ (Nat.le_refl _) ?_ (fun _ _ => rfl) ?_ ?_ ?_ ?_ (fun g hg => .inl hg) (fun _ h => h) rfl rfl
  · intro k pv' hk
    rw [St.get_dropP] at hk
    split at hk
    · cases hk
    · obtain ⟨u, hu, rfl⟩ := Option.map_eq_some_iff.1 hk
      exact ⟨u, hu, rfl, by simp⟩
  · intro b cs' hb
    exact ⟨cs', hb, rfl, (h.bx b cs' hb).2⟩
  · intro p x hx
    obtain ⟨hp, y, hy, hxy⟩ := St.at_dropP hx
    have hg : (r.dropP f).γ p = r.γ p := by simp [Rs.dropP, hp]
    rw [hg]
    have hc : RepC P w r st (alpha a w r) x (alpha a w r p) (r.γ p) := by
      rcases hxy with rfl | rfl
      · exact (h.cell p y hy).wipeP f
      · exact h.cell p x hy
    exact hc.mono (fun _ h => h) (fun _ _ => rfl) (fun _ _ => rfl) (fun b hb => ⟨hb, rfl⟩) (fun q _ hq => ⟨St.lives_dropP hq, rfl⟩)
  · intro p x q hx hn
    obtain ⟨hp, y, hy, hxy⟩ := St.at_dropP hx
    cases p with
    | t j d =>
      obtain ⟨pv', h1, h2⟩ := St.at_tmp hx
      rw [St.get_dropP] at h1
      split at h1
      · cases h1
      · obtain ⟨u, hu, rfl⟩ := Option.map_eq_some_iff.1 h1
        simp only [List.getElem?_map] at h2
        obtain ⟨z, hz, rfl⟩ := Option.map_eq_some_iff.1 h2
        obtain ⟨h3, h4⟩ := PC.wipeP_names hn
        have he := h.nm (.t j d) z q (by simp [St.at, hu, hz]) h3
        cases q with
        | t k c =>
          obtain ⟨pv, hpv⟩ := he
          have hk : ¬ f k = true := by simpa [Place.isP] using h4
          exact ⟨_, by rw [St.get_dropP, if_neg hk, hpv]; rfl⟩
        | b b c => exact he
    | b b d =>
      obtain ⟨_, cs, h1, h2⟩ := St.at_box hx
      have := (h.bx b cs h1).2 x (List.mem_of_getElem? h2)
      cases x <;> simp [PC.boxable, PC.names] at this hn
  · intro p g hg
    simp only [Rs.dropP] at hg
    split at hg
    · cases hg
    · rename_i hp
      obtain ⟨e, xs, hx⟩ := h.live p g hg
      refine ⟨e, xs, ?_⟩
      cases p with
      | t k c =>
        obtain ⟨pv, h1, h2⟩ := St.at_tmp hx
        have hp' : f k = false := by simpa [Place.isP] using hp
        simp [St.at, St.get_dropP, hp', h1, h2, PC.wipeP]
      | b b c => exact hx
  · intro p g hg
    simp only [Rs.dropP] at hg
    split at hg
    · cases hg
    · exact hg

theorem Turns.dropP (f : Nat → Bool) : Turns P st (st.dropP f) := by
  intro a w r hi
  refine ⟨_, rfl, hi.dropP f, rfl, rfl, rfl, Nat.le_refl _, fun _ _ _ => rfl, fun _ h => h, fun _ h => .inl h, fun g hg => .inl ?_, fun _ _ => rfl, rfl⟩
  rcases hg with ⟨q, hq⟩ | hb
  · simp only [Rs.dropP] at hq
    split at hq
    · cases hq
    · exact .inl ⟨q, hq⟩
  · exact .inr hb

/-- Only these temporaries count from here on. -/
def St.keep (st : St) (ts : List Nat) : St := st.dropP fun t => !ts.contains t
theorem Turns.keep (ts : List Nat) : Turns P st (st.keep ts) := Turns.dropP _

/-- The pure state by its readings. -/
theorem Inv.ext {st' : St} (hi : Inv P st a w r) (hg : ∀ t, st'.get t = st.get t) (hb : st'.bx = st.bx) (hn : st'.n = st.n) (hm : st'.m = st.m) (hf : st'.fx = st.fx) : Inv P st' a w r := by
  have hat : ∀ p, st'.at p = st.at p := fun p => by cases p <;> simp [St.at, hg, hb]
  have hc : ∀ x v g, RepC P w r st (alpha a w r) x v g → RepC P w r st' (alpha a w r) x v g := fun x v g h =>
    h.mono (fun _ h => h) (fun _ _ => rfl) (fun _ _ => rfl) (fun b h => ⟨by rw [hb]; exact h, rfl⟩) (fun q _ hq => ⟨by obtain ⟨y, h1, h2⟩ := hq; exact ⟨y, by rw [← hat]; exact h1, h2⟩, rfl⟩)
  exact ⟨by rw [hn]; exact hi.sz, by rw [hm, hb]; exact hi.m, fun t pv h => hi.tm t pv (by rw [← hg]; exact h), fun b cs h => hi.bx b cs (by rw [← hb]; exact h), fun p x h => hc _ _ _ (hi.cell p x (by rw [← hat]; exact h)),
    fun p x q h h2 => by
      have h3 := hi.nm p x q (by rw [← hat]; exact h) h2
      cases q with
      | t k c => obtain ⟨pv, h3⟩ := h3; exact ⟨pv, by rw [hg]; exact h3⟩
      | b b c => simp only [St.ex, hb]; exact h3,
    fun p g h => by obtain ⟨e, xs, h1⟩ := hi.live p g h; exact ⟨e, xs, by rw [hat]; exact h1⟩, hi.inj, by rw [hb]; exact hi.exb, by rw [hb]; exact hi.bb, by rw [hb]; exact hi.sh, hi.defers, hi.lw, by rw [hf]; exact hi.fx⟩
theorem Turns.ext {st' : St} (hg : ∀ t, st'.get t = st.get t) (hb : st'.bx = st.bx) (hn : st'.n = st.n) (hm : st'.m = st.m) (hf : st'.fx = st.fx := by rfl) : Turns P st st' := by
  intro a w r hi
  exact ⟨r, hm, hi.ext hg hb hn hm hf, by rw [hb]; exact Step.refl ..⟩

end
end Go.Proofs.YtaikjjlbfdkgmaaDoor.E
