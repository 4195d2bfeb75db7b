/- The engine, part B: what keeps the invariant of a frame. Plain lemmas; no program. -/
import Derived.Test.YtaikjjlbfdkgmaaDoorEngA
set_option linter.unusedVariables false
set_option linter.unusedSectionVars false
set_option linter.unusedSimpArgs false
namespace Go.Proofs.YtaikjjlbfdkgmaaDoor.E
open Go.RowKit
variable [LaidFacts]

theorem RepC.mono {P : Program} {w w' : World} {r r' : Rs} {st st' : St} {al al' : Place → Value} {x : PC} {v : Value} {g : Option Nat} (h : RepC P w r st al x v g)
    (hS : ∀ k, r.Sh k → r'.Sh k) (hw : ∀ k, r.Sh k → w'.heap[k]? = w.heap[k]?) (hg : ∀ k, g = some k → w'.heap[k]? = w.heap[k]?)
    (hb : ∀ b, b < st.bx.length → b < st'.bx.length ∧ r'.β b = r.β b)
    (ho : ∀ p, x.names = some p → st'.lives p → st.lives p ∧ al' p = al p) : RepC P w' r' st' al' x v g := by
  cases x <;> simp only [RepC] at h ⊢
  case own e xs => exact RepOwn.mono hS hw hg h
  case al p => exact ⟨h.1, fun he => by obtain ⟨h1, h2⟩ := ho p rfl he; rw [h2]; exact h.2 h1⟩
  case vw p lo n s => exact ⟨h.1, fun he => by obtain ⟨h1, h2⟩ := ho p rfl he; rw [h2]; exact h.2 h1⟩
  case el p i off s => exact ⟨h.1, fun he => by obtain ⟨h1, h2⟩ := ho p rfl he; rw [h2]; exact h.2 h1⟩
  case dead => exact h
  all_goals exact ⟨h.1, h.2.mono hS hw hb⟩

/-- A cell that owns nothing. -/
theorem RepC.g_none {P : Program} {w : World} {r : Rs} {st : St} {al : Place → Value} {x : PC} {v : Value} {g : Option Nat} (h : RepC P w r st al x v g) (hx : ∀ e xs, x ≠ .own e xs) : g = none := by
  cases x <;> simp only [RepC] at h
  case own e xs => exact absurd rfl (hx e xs)
  case dead => exact h
  all_goals exact h.1

section
variable {P : Program} {st : St} {a : Act} {w : World} {r : Rs}

theorem St.at_box {st : St} {b c : Nat} {x : PC} (h : st.at (.b b c) = some x) : b < st.bx.length ∧ ∃ cs, st.bx[b]? = some cs ∧ cs[c]? = some x := by
  simp only [St.at, Option.bind_eq_some_iff] at h
  obtain ⟨cs, h1, h2⟩ := h
  exact ⟨(List.getElem?_eq_some_iff.1 h1).1, cs, h1, h2⟩

theorem St.at_tmp {st : St} {t c : Nat} {x : PC} (h : st.at (.t t c) = some x) : ∃ pv, st.get t = some pv ∧ pv.cs[c]? = some x := by
  simpa only [St.at, Option.bind_eq_some_iff] using h

theorem Inv.X_lt (h : Inv P st a w r) {g : Nat} (hg : r.X st.bx.length g) : g < w.heap.size := by
  rcases hg with ⟨p, hp⟩ | ⟨b, hb, rfl⟩
  · obtain ⟨e, xs, hx⟩ := h.live p g hp
    have := h.cell p _ hx
    simp only [RepC] at this
    obtain ⟨vals, ho, hk, _⟩ := this
    rw [hp] at hk
    exact (ho.lt g hk).2
  · obtain ⟨⟨vals, e, hh, _⟩, _⟩ := h.bx b _ (List.getElem?_eq_getElem hb)
    exact (Array.getElem?_eq_some_iff.1 hh).1

theorem Inv.not_sh (h : Inv P st a w r) {g : Nat} (hg : r.X st.bx.length g) : ¬ r.Sh g := fun hs => by
  obtain ⟨_, h1, h2⟩ := h.sh g hs
  rcases hg with ⟨p, hp⟩ | ⟨b, hb, rfl⟩
  · exact h1 p hp
  · exact h2 b hb rfl

theorem alpha_box_eq {a a' : Act} {w w' : World} {r r' : Rs} {b c : Nat} (hb : r'.β b = r.β b) (hw : w'.heap[r.β b]? = w.heap[r.β b]?) : alpha a' w' r' (.b b c) = alpha a w r (.b b c) := by
  simp only [alpha, hb]
  rw [World.cell?_of_block (a := ⟨r.β b, c, none⟩) hw]

/-- The world goes on: what is shared and what is the frame's own stands. -/
theorem Inv.world (h : Inv P st a w r) {w' : World} (hw : ∀ g, r.Sh g ∨ r.X st.bx.length g → w'.heap[g]? = w.heap[g]?) (hs : w.heap.size ≤ w'.heap.size) : Inv P st a w' r := by
  have hal : ∀ p x, st.at p = some x → alpha a w' r p = alpha a w r p := by
    intro p x hx
    cases p with
    | t t c => rfl
    | b b c => exact alpha_box_eq rfl (hw _ (.inr (.inr ⟨b, (St.at_box hx).1, rfl⟩)))
  refine ⟨h.sz, h.m, h.tm, fun b cs hb => ?_, fun p x hx => ?_, h.nm, h.live, h.inj, h.exb, h.bb, fun g hg => ?_, h.defers, LaidFacts.mono (fun _ h => h) (fun g hg => hw g (.inl hg)) h.lw, h.fx⟩
  · obtain ⟨⟨vals, e, h1, h2⟩, h3⟩ := h.bx b cs hb
    exact ⟨⟨vals, e, by rw [hw _ (.inr (.inr ⟨b, (List.getElem?_eq_some_iff.1 hb).1, rfl⟩))]; exact h1, h2⟩, h3⟩
  · rw [hal p x hx]
    exact (h.cell p x hx).mono (fun _ h => h) (fun k hk => hw k (.inl hk)) (fun k hk => hw k (.inr (.inl ⟨p, hk⟩))) (fun b hb => ⟨hb, rfl⟩)
      (fun q _ hq => ⟨hq, hal q _ hq.choose_spec.1⟩)
  · obtain ⟨h1, h2, h3⟩ := h.sh g hg
    exact ⟨Nat.lt_of_lt_of_le h1 hs, h2, h3⟩

/-- Whose cells are cells of another frame's state, or of the same, some turned. -/
theorem Inv.restate (h : Inv P st a w r) {st' : St} {r' : Rs} (hn : st'.n = st.n) (hm : st'.m ≤ st'.bx.length)
    (htm : ∀ t pv', st'.get t = some pv' → ∃ pv, st.get t = some pv ∧ pv.sh = pv'.sh ∧ pv.cs.length = pv'.cs.length)
    (hlen : st'.bx.length ≤ st.bx.length)
    (hbx : ∀ (b : Nat) (cs' : List PC), st'.bx[b]? = some cs' → ∃ cs : List PC, st.bx[b]? = some cs ∧ cs.length = cs'.length ∧ ∀ x ∈ cs', x.boxable = true)
    (hβ : ∀ b, b < st'.bx.length → r'.β b = r.β b)
    (hcell : ∀ p x, st'.at p = some x → RepC P w r' st' (alpha a w r') x (alpha a w r p) (r'.γ p))
    (hnm : ∀ p x q, st'.at p = some x → x.names = some q → st'.ex q)
    (hlive : ∀ p g, r'.γ p = some g → ∃ e xs, st'.at p = some (.own e xs))
    (hγ : ∀ p g, r'.γ p = some g → r.γ p = some g)
    (hsh : ∀ g, r'.Sh g → r.Sh g ∨ ((∃ p, r.γ p = some g ∧ r'.γ p = none))) (hup : ∀ g, r.Sh g → r'.Sh g) (hfx : st'.fx = st.fx) (hκ : r'.κ = r.κ) : Inv P st' a w r' := by
  have hal : ∀ p x, st'.at p = some x → alpha a w r' p = alpha a w r p := by
    intro p x hx
    cases p with
    | t t c => rfl
    | b b c => exact alpha_box_eq (hβ b (St.at_box hx).1) rfl
  refine ⟨h.sz.trans hn.symm, hm, fun t pv' ht => ?_, fun b cs' hb => ?_, fun p x hx => ?_, hnm, hlive, fun p q g hp hq => h.inj p q g (hγ p g hp) (hγ q g hq), fun p g b hp hb => ?_, fun b b' hb hb' he => ?_, fun g hg => ?_, h.defers, LaidFacts.mono hup (fun _ _ => rfl) h.lw, by rw [hfx, hκ]; exact h.fx⟩
  · obtain ⟨pv, h1, h2, h3⟩ := htm t pv' ht
    obtain ⟨v, h4, h5⟩ := h.tm t pv h1
    exact ⟨v, h4, by rw [← h2, ← h3]; exact h5⟩
  · obtain ⟨cs, h1, h2, h3⟩ := hbx b cs' hb
    obtain ⟨⟨vals, e, h4, h5, h6⟩, _⟩ := h.bx b cs h1
    exact ⟨⟨vals, e, by rw [hβ b (List.getElem?_eq_some_iff.1 hb).1]; exact h4, by rw [h5, h2], h6⟩, h3⟩
  · rw [hal p x hx]; exact hcell p x hx
  · rw [hβ b hb]; exact h.exb p g b (hγ p g hp) (by omega)
  · rw [hβ b hb, hβ b' hb'] at he; exact h.bb b b' (by omega) (by omega) he
  · rcases hsh g hg with h1 | ⟨p, h1, h2⟩
    · obtain ⟨h3, h4, h5⟩ := h.sh g h1
      exact ⟨h3, fun p hp => h4 p (hγ p g hp), fun b hb => by rw [hβ b hb]; exact h5 b (by omega)⟩
    · refine ⟨h.X_lt (.inl ⟨p, h1⟩), fun q hq => ?_, fun b hb => by rw [hβ b hb]; exact h.exb p g b h1 (by omega)⟩
      have := h.inj p q g h1 (hγ q g hq)
      subst this
      rw [h2] at hq; cases hq

/-! The pure state's own turns. -/

def setL : List (Nat × PV) → Nat → PV → List (Nat × PV)
  | [], t, v => [(t, v)]
  | (k, u) :: r, t, v => if k = t then (k, v) :: r else (k, u) :: setL r t v
def delL : List (Nat × PV) → Nat → List (Nat × PV)
  | [], _ => []
  | (k, u) :: r, t => if k = t then delL r t else (k, u) :: delL r t
def mapL (f : PC → PC) : List (Nat × PV) → List (Nat × PV)
  | [] => []
  | (k, u) :: r => (k, ⟨u.sh, u.cs.map f⟩) :: mapL f r

theorem look_setL (l : List (Nat × PV)) (t : Nat) (v : PV) (k : Nat) : look (setL l t v) k = if k = t then some v else look l k := by
  induction l with
  | nil => simp only [setL, look]; split <;> split <;> simp_all
  | cons x r ih =>
    obtain ⟨j, u⟩ := x
    simp only [setL]
    by_cases hj : j = t
    · subst hj
      simp only [if_true, look]
      by_cases hk : j = k
      · simp [hk]
      · rw [if_neg hk, if_neg hk, if_neg (fun e => hk e.symm)]
    · rw [if_neg hj]
      simp only [look]
      by_cases hk : j = k
      · subst hk; simp [hj]
      · rw [if_neg hk, if_neg hk, ih]

theorem look_delL (l : List (Nat × PV)) (t : Nat) (k : Nat) : look (delL l t) k = if k = t then none else look l k := by
  induction l with
  | nil => simp [delL, look]
  | cons x r ih =>
    obtain ⟨j, u⟩ := x
    simp only [delL]
    by_cases hj : j = t
    · subst hj
      simp only [if_true, ih, look]
      by_cases hk : k = j
      · simp [hk]
      · rw [if_neg hk, if_neg hk, if_neg (fun e => hk e.symm)]
    · rw [if_neg hj]
      simp only [look]
      by_cases hk : j = k
      · subst hk; simp [hj]
      · rw [if_neg hk, if_neg hk, ih]

theorem look_mapL (f : PC → PC) (l : List (Nat × PV)) (k : Nat) : look (mapL f l) k = (look l k).map fun u => ⟨u.sh, u.cs.map f⟩ := by
  induction l with
  | nil => simp [mapL, look]
  | cons x r ih =>
    obtain ⟨j, u⟩ := x
    simp only [mapL, look]
    by_cases hk : j = k
    · simp [hk]
    · rw [if_neg hk, if_neg hk, ih]

/-- Is it a cell of this temporary? -/
def Place.isT (t : Nat) : Place → Bool
  | .t t' _ => t' == t
  | _ => false
def PC.wipe (t : Nat) (x : PC) : PC :=
  match x with
  | .al p => if p.isT t then .dead else .al p
  | .vw p lo n s => if p.isT t then .dead else .vw p lo n s
  | .el p i off s => if p.isT t then .dead else .el p i off s
  | x => x
/-- The temporary is given up; what named it is lost. -/
def St.drop (st : St) (t : Nat) : St := { st with tm := mapL (PC.wipe t) (delL st.tm t) }

theorem St.get_drop (st : St) (t k : Nat) : (st.drop t).get k = if k = t then none else (st.get k).map fun u => ⟨u.sh, u.cs.map (PC.wipe t)⟩ := by
  simp only [St.get, St.drop, look_mapL, look_delL]
  split <;> rfl

theorem PC.wipe_own {t : Nat} {x : PC} {e : TypeId} {xs : List (List PC)} (h : x.wipe t = .own e xs) : x = .own e xs := by
  cases x <;> simp only [PC.wipe] at h <;> (first | exact h | (split at h <;> cases h))

theorem PC.wipe_names {t : Nat} {x : PC} {p : Place} (h : (x.wipe t).names = some p) : x.names = some p ∧ p.isT t = false := by
  cases x <;> simp only [PC.wipe] at h
  case al q => split at h <;> simp_all [PC.names]
  case vw q lo n s => split at h <;> simp_all [PC.names]
  case el q i o s => split at h <;> simp_all [PC.names]
  all_goals simp [PC.names] at h

theorem RepC.wipe {P : Program} {w : World} {r : Rs} {st : St} {al : Place → Value} {x : PC} {v : Value} {g : Option Nat} (t : Nat) (h : RepC P w r st al x v g) : RepC P w r st al (x.wipe t) v g := by
  cases x <;> simp only [PC.wipe]
  case al q => (split <;> first | exact h.1 | exact h)
  case vw q lo n s => (split <;> first | exact h.1 | exact h)
  case el q i o s => (split <;> first | exact h.1 | exact h)
  all_goals exact h

theorem St.at_drop {st : St} {t : Nat} {p : Place} {x : PC} (h : (st.drop t).at p = some x) : p.isT t = false ∧ ∃ y, st.at p = some y ∧ (x = y.wipe t ∨ x = y) := by
  cases p with
  | t k c =>
    obtain ⟨pv, h1, h2⟩ := St.at_tmp h
    rw [St.get_drop] at h1
    split at h1
    · cases h1
    · rename_i hk
      obtain ⟨u, hu, rfl⟩ := Option.map_eq_some_iff.1 h1
      simp only [List.getElem?_map] at h2
      obtain ⟨y, hy, rfl⟩ := Option.map_eq_some_iff.1 h2
      exact ⟨by simp [Place.isT, hk], y, by simp [St.at, hu, hy], .inl rfl⟩
  | b b c => exact ⟨rfl, x, h, .inr rfl⟩

theorem PC.wipe_dead {t : Nat} : PC.wipe t .dead = .dead := rfl
theorem St.lives_drop {st : St} {t : Nat} {p : Place} (h : (st.drop t).lives p) : st.lives p := by
  obtain ⟨x, h1, h2⟩ := h
  obtain ⟨_, y, hy, hx⟩ := St.at_drop h1
  refine ⟨y, hy, fun e => h2 ?_⟩
  subst e
  rcases hx with hx | hx <;> exact hx

def Rs.dropT (r : Rs) (t : Nat) : Rs := { r with γ := fun p => if p.isT t then none else r.γ p }

theorem Inv.drop (h : Inv P st a w r) (t : Nat) : Inv P (st.drop t) a w (r.dropT t) := by
  refine h.restate rfl h.m ?_ (Nat.le_refl _) ?_ (fun _ _ => rfl) ?_ ?_ ?_ ?_ (fun g hg => .inl hg) (fun _ h => h) rfl rfl
  · intro k pv' hk
    rw [St.get_drop] at hk
    split at hk
    · cases hk
    · obtain ⟨u, hu, rfl⟩ := Option.map_eq_some_iff.1 hk
      exact ⟨u, hu, rfl, by simp⟩
  · intro b cs' hb
    exact ⟨cs', hb, rfl, (h.bx b cs' hb).2⟩
  · intro p x hx
    obtain ⟨hp, y, hy, hxy⟩ := St.at_drop hx
    have hg : (r.dropT t).γ p = r.γ p := by simp [Rs.dropT, hp]
    rw [hg]
    have hc : RepC P w r st (alpha a w r) x (alpha a w r p) (r.γ p) := by
      rcases hxy with rfl | rfl
      · exact (h.cell p y hy).wipe t
      · exact h.cell p x hy
    exact hc.mono (fun _ h => h) (fun _ _ => rfl) (fun _ _ => rfl) (fun b hb => ⟨hb, rfl⟩) (fun q _ hq => ⟨St.lives_drop hq, rfl⟩)
  · intro p x q hx hn
    obtain ⟨hp, y, hy, hxy⟩ := St.at_drop hx
    cases p with
    | t j d =>
      obtain ⟨pv', h1, h2⟩ := St.at_tmp hx
      rw [St.get_drop] at h1
      split at h1
      · cases h1
      · obtain ⟨u, hu, rfl⟩ := Option.map_eq_some_iff.1 h1
        simp only [List.getElem?_map] at h2
        obtain ⟨z, hz, rfl⟩ := Option.map_eq_some_iff.1 h2
        obtain ⟨h3, h4⟩ := PC.wipe_names hn
        have he := h.nm (.t j d) z q (by simp [St.at, hu, hz]) h3
        cases q with
        | t k c =>
          obtain ⟨pv, hpv⟩ := he
          have hk : k ≠ t := by simpa [Place.isT] using h4
          exact ⟨_, by rw [St.get_drop, if_neg hk, hpv]; rfl⟩
        | b b c => exact he
    | b b d =>
      obtain ⟨_, cs, h1, h2⟩ := St.at_box hx
      have := (h.bx b cs h1).2 x (List.mem_of_getElem? h2)
      cases x <;> simp [PC.boxable, PC.names] at this hn
  · intro p g hg
    simp only [Rs.dropT] at hg
    split at hg
    · cases hg
    · rename_i hp
      obtain ⟨e, xs, hx⟩ := h.live p g hg
      refine ⟨e, xs, ?_⟩
      cases p with
      | t k c =>
        obtain ⟨pv, h1, h2⟩ := St.at_tmp hx
        simp only [Place.isT, beq_iff_eq] at hp
        simp [St.at, St.get_drop, hp, h1, h2, PC.wipe]
      | b b c => exact hx
  · intro p g hg
    simp only [Rs.dropT] at hg
    split at hg
    · cases hg
    · exact hg

end
end Go.Proofs.YtaikjjlbfdkgmaaDoor.E
