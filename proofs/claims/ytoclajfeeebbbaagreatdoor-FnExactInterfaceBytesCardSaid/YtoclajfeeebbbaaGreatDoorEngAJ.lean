/- The engine, part AJ: rows told apart are lent: for some statements they are shared, and nobody keeps them. Plain lemmas; no program. -/
import Derived.Test.YtoclajfeeebbbaaGreatDoorEngAI
set_option linter.unusedVariables false
set_option linter.unusedSectionVars false
set_option linter.unusedSimpArgs false
namespace Go.Proofs.YtoclajfeeebbbaaGreatDoor.E
open Go.RowKit
variable [LaidFacts]
section
variable {P : Program} {st : St} {a : Act} {w : World} {r : Rs} {ρ : List Rw} {Q : Exit → St → List Rw → Prop}
/-- A row, some of whose cells are rows that are shared too. -/
theorem RepOwn.shareD {S0 Sh' : Nat → Prop} {e : TypeId} {xs xs' : List (List PC)} {v : Value} {g : Option Nat} (h : RepOwn P w S0 e xs v g) (hg : ∀ k, g = some k → Sh' k) (hlen : xs'.length = xs.length) (hz : ∀ el ∈ xs', el.length = P.cellsOf e)
    (hc : ∀ (i j : Nat) (el' : List PC) (x' : PC), xs'[i]? = some el' → el'[j]? = some x' → ∃ (el : List PC) (x : PC), xs[i]? = some el ∧ el[j]? = some x ∧ ∀ u, RepS w S0 x u → RepS w Sh' x' u) : RepS w Sh' (.sl (P.cellsOf e) xs') v := by
  obtain ⟨vals, ho, hb, hl, hr⟩ := h
  rcases ho.2 with ⟨rfl, hn⟩ | ⟨k, cap, cur, fz, rfl, _, hh, hnc, _⟩
  · have : xs' = [] := List.length_eq_zero_iff.1 (hlen.trans hn)
    subst this
    exact .nil
  · have hk : Sh' k := hg k (by rw [← hb]; rfl)
    rw [← hlen] at ho hnc ⊢
    refine .sl (size := P.cellsOf e) (fun i j => vals.getD (i * P.cellsOf e + j) undef) hz hnc hk (fun i j el x hi hj => ?_) (fun i j el x hi hj => ?_)
    · obtain ⟨el0, x0, hi0, hj0, _⟩ := hc i j el x hi hj
      obtain ⟨u, hu, _⟩ := hr _ _ (flatten_at hl hi0 hj0)
      have hlt : i * P.cellsOf e + j < xs'.length * P.cellsOf e := by
        have := (List.getElem?_eq_some_iff.1 hu).1
        rw [ho.1] at this
        exact this
      rw [Nat.zero_add, ho.cellAt _ hlt, hu, List.getD_eq_getElem?_getD, hu]
      rfl
    · obtain ⟨el0, x0, hi0, hj0, hx0⟩ := hc i j el x hi hj
      obtain ⟨u, hu, hru⟩ := hr _ _ (flatten_at hl hi0 hj0)
      rw [List.getD_eq_getElem?_getD, hu]
      exact hx0 u hru
/-- More of the old memory is shared, that is nobody's. -/
theorem Inv.grow (hi : Inv P st a w r) {Sn : Nat → Prop} (h1 : ∀ g, r.Sh g → Sn g) (h2 : ∀ g, Sn g → r.Sh g ∨ (g < w.heap.size ∧ ¬ r.X st.bx.length g)) : Inv P st a w { r with Sh := Sn } := by
  have ha : alpha a w { r with Sh := Sn } = alpha a w r := by funext p; cases p <;> rfl
  refine ⟨hi.sz, hi.m, hi.tm, hi.bx, fun p x hx => ?_, hi.nm, hi.live, hi.inj, hi.exb, hi.bb, fun g hg => ?_, hi.defers, LaidFacts.mono h1 (fun _ _ => rfl) hi.lw, hi.fx⟩
  · rw [ha]
    exact (hi.cell p x hx).mono (fun g h => h1 g h) (fun _ _ => rfl) (fun _ _ => rfl) (fun b hb => ⟨hb, rfl⟩) (fun q _ hq => ⟨hq, rfl⟩)
  · rcases h2 g hg with h | ⟨h, h'⟩
    · exact hi.sh g h
    · exact ⟨h, fun p hp => h' (.inl ⟨p, hp⟩), fun b hb he => h' (.inr ⟨b, hb, he⟩)⟩
/-- Some temporaries stay from here on. -/
theorem Inv.hold (hi : Inv P st a w r) {keep : List Nat} {κ : Nat → Value} (h : ∀ t, inB t keep = true → a.tmps[t]? = some (κ t)) : Inv P { st with fx := keep } a w { r with κ := κ } := by
  have ha : alpha a w { r with κ := κ } = alpha a w r := by funext p; cases p <;> rfl
  refine ⟨hi.sz, hi.m, hi.tm, hi.bx, fun p x hx => ?_, hi.nm, hi.live, hi.inj, hi.exb, hi.bb, hi.sh, hi.defers, hi.lw, h⟩
  rw [ha]
  exact (hi.cell p x hx).mono (fun _ h => h) (fun _ _ => rfl) (fun _ _ => rfl) (fun b hb => ⟨hb, rfl⟩) (fun q _ hq => ⟨hq, rfl⟩)
/-- What the frame holds while ρ is lent. -/
def Rs.lent (r : Rs) (ρ : List Rw) (a : Act) : Rs := { r with Sh := fun g => r.Sh g ∨ g ∈ bks ρ, κ := fun t => a.tmps.getD t undef }
/-- A code that runs while ρ is lent, from the state st0. -/
def TriL (P : Program) (a0 : Act) (w0 : World) (r0 : Rs) (ρ : List Rw) (c : Code) (Q : Exit → St → List Rw → Prop) (st : St) : Prop :=
  ∀ a w r, Inv P st a w r → Step 0 w0 (r0.lent ρ a0) 0 w r st.bx.length → c.wp P (Post2 P 0 w0 r0 0 ρ Q) a w
variable {a0 : Act} {w0 : World} {r0 : Rs}
theorem TriL.sq {x y : Code} (h : Tri P x (Ex (fun st' => TriL P a0 w0 r0 ρ y Q st') (fun e st' => Q e { st' with fx := [] } [])) st) (hm : st.m = 0 := by rfl) : TriL P a0 w0 r0 ρ (.seq x y) Q st := by
  intro a w r hi hs
  refine wp_seq (Code.wp_mono (fun e a' w' k => ?_) (h a w r hi))
  obtain ⟨st', r', h1, h2, h3, h4⟩ := k
  have h5 := hs.trans (h4.le (Nat.zero_le _))
  have out : Q e { st' with fx := [] } [] → Post2 P 0 w0 r0 0 ρ Q e a' w' := fun hq => by
    refine ⟨{ st' with fx := [] }, { r' with κ := r0.κ }, [], hq, h2.trans hm, h3.hold (fun t ht => by cases ht), Held.nil, ⟨h5.os, h5.tape, h5.output, h5.size, fun g hg hx => h5.block g hg fun h => hx (.inl h), fun g hg => h5.sh g (.inl hg), fun g hg => ?_, fun g hg => ?_, fun b hb => by omega, rfl, h5.ty⟩⟩
    · rcases h5.shNew g hg with h | h | h
      · exact h.elim .inl fun h => .inr (.inl (.inr h))
      · exact .inr (.inl (.inl h))
      · exact .inr (.inr h)
    · rcases hg with hg | hg
      · exact (h5.x g hg).imp .inl id
      · cases hg
  cases e
  case normal => exact h1 a' w' r' h3 h5
  all_goals exact out h1
/-- It is lent: a temporary's cell reads what is told apart. -/
theorem Tri2.lend {c : Code} (t j : Nat) (keep : List Nat) {x x' : PC} (hc : ∀ a w r, Inv P st a w r → Held P w r 0 ρ → ∀ u, RepS w r.Sh x u → RepS w (fun g => r.Sh g ∨ g ∈ bks ρ) x' u) (hx' : x'.names = none) (hxo : ∀ e xs, x' ≠ .own e xs) (hxd : ∀ w' r' st' al v g, RepC P w' r' st' al x' v g ↔ g = none ∧ RepF w' r'.Sh r'.β st'.bx.length x' v)
    (hxc : ∀ w' r' st' al v g, RepC P w' r' st' al x v g → ∃ Sh, Sh = r'.Sh ∧ g = none ∧ RepS w' Sh x v) (h : ∀ a w r, Inv P st a w r → Held P w r 0 ρ → TriL P a w r ρ c Q { st.setAt (.t t j) x' with fx := keep })
    (hp : (st.at (.t t j), st.bx, st.m, st.fx, keep.all fun k => (st.get k).isSome) = (some x, [], 0, [], true) := by kernel_rfl) : Tri2 P c Q st ρ := by
  intro a w r hi hh
  simp only [Prod.mk.injEq] at hp
  obtain ⟨hp, hbx, hm, hfx, hk⟩ := hp
  have hbl : st.bx.length = 0 := by rw [hbx]; rfl
  rw [hbl] at hh ⊢
  rw [hm]
  have h1 := hi.grow (Sn := fun g => r.Sh g ∨ g ∈ bks ρ) (fun _ h => .inl h) (fun g hg => hg.imp id fun h => ⟨hh.lt h, by rw [hbl]; exact (hh.off g h).2⟩)
  have hcell := hi.cell _ _ hp
  obtain ⟨Sh, rfl, hg, hrep⟩ := hxc _ _ _ _ _ _ hcell
  have hal : alpha a w { r with Sh := fun g => r.Sh g ∨ g ∈ bks ρ } = alpha a w r := by funext p; cases p <;> rfl
  have h2 := h1.setAt hp (x := x') false (.inl ⟨t, j, rfl⟩) (.inr (by intro he; subst he; exact absurd hcell (by
    intro hd
    obtain ⟨Sh, _, _, hd⟩ := hxc _ _ _ _ _ _ hd
    cases hd))) (fun q hq => by rw [hx'] at hq; cases hq) ((hxd _ _ _ _ _ _).2 ⟨rfl, by
      rw [hal]
      exact .s ((hc a w r hi hh _ hrep).mono (fun g h => .inl h) (fun _ _ => rfl))⟩)
  have hclr : ∀ p, (Rs.clr { r with Sh := fun g => r.Sh g ∨ g ∈ bks ρ } (.t t j) false).γ p = r.γ p := fun p => by
    simp only [Rs.clr]
    split
    · rename_i e; subst e; exact hg.symm
    · rfl
  have h3 := h2.hold (keep := keep) (κ := fun t => a.tmps.getD t undef) (fun k hkk => by
    have := List.all_eq_true.1 hk k (inB_spec hkk)
    obtain ⟨pv, hpv⟩ := Option.isSome_iff_exists.1 this
    obtain ⟨v, hv, _⟩ := hi.tm k pv hpv
    simp [Array.getD_eq_getD_getElem?, hv])
  have hl3 : (st.setAt (.t t j) x').bx.length = 0 := by
    have : (st.setAt (.t t j) x').bx = st.bx := by simp only [St.setAt]; split <;> rfl
    rw [this]; exact hbl
  refine h a w r hi hh a w _ h3 ?_
  rw [hl3]
  refine ⟨rfl, rfl, rfl, Nat.le_refl _, fun _ _ _ => rfl, fun g hg => .inl hg, fun g hg => .inl ?_, fun g hg => .inl ?_, fun _ _ => rfl, rfl, fun _ _ h => h⟩
  · rcases hg with hg | ⟨hg, _⟩
    · exact hg
    · cases hg
  · rcases hg with ⟨p, hp⟩ | ⟨b, hb, _⟩
    · exact .inl ⟨p, (hclr p).symm.trans hp⟩
    · omega
def pickT (f : Nat → Option PV) : List Nat → List (Nat × PV)
  | [] => []
  | t :: l => match f t with
    | some pv => (t, pv) :: pickT f l
    | none => pickT f l
theorem pickT_look {f : Nat → Option PV} : ∀ {l : List Nat} {t : Nat} {pv : PV}, look (pickT f l) t = some pv → f t = some pv
  | [], t, pv, h => by cases h
  | k :: l, t, pv, h => by
    simp only [pickT] at h
    split at h
    · rename_i pv' hf
      simp only [look] at h
      split at h
      · rename_i e; subst e; cases h; exact hf
      · exact pickT_look h
    · exact pickT_look h
def PC.stays : PC → Bool
  | .sc _ | .sl .. | .cel .. => true
  | _ => false
/-- The state behind the lending: what stayed, as it was; what is plain, as it is. -/
def backSt (st0 st : St) (keep ts : List Nat) : St :=
  { st with tm := pickT (fun t => match inB t keep with
      | true => match st0.get t with
        | some pv => match pv.cs.all PC.stays with
          | true => some pv
          | false => none
        | none => none
      | false => st.get t) ts, fx := [] }
def flq (st : St) (keep : List Nat) : List Nat → List Prop
  | [] => []
  | t :: l => match inB t keep, st.get t with
    | false, some pv => (pv.cs.all PC.flatB = true) :: flq st keep l
    | _, _ => flq st keep l
theorem pickT_mem {f : Nat → Option PV} : ∀ {l : List Nat} {t : Nat} {pv : PV}, look (pickT f l) t = some pv → t ∈ l
  | [], t, pv, h => by cases h
  | k :: l, t, pv, h => by
    simp only [pickT] at h
    split at h
    · rename_i pv' hf
      simp only [look] at h
      split at h
      · rename_i e; subst e; exact List.mem_cons_self ..
      · exact List.mem_cons_of_mem _ (pickT_mem h)
    · exact List.mem_cons_of_mem _ (pickT_mem h)
theorem flq_at {st : St} {keep : List Nat} : ∀ {l : List Nat} {t : Nat} {pv : PV}, AllP (flq st keep l) → t ∈ l → inB t keep = false → st.get t = some pv → pv.cs.all PC.flatB = true
  | [], t, pv, _, h, _, _ => by cases h
  | k :: l, t, pv, hq, h, hk, hg => by
    rcases List.mem_cons.1 h with rfl | h
    · simp only [flq, hk, hg] at hq
      exact hq.1
    · simp only [flq] at hq
      split at hq
      · exact flq_at hq.2 h hk hg
      · exact flq_at hq h hk hg
theorem TriL.back {c : Code} {st0 : St} (ts : List Nat) (hi0 : Inv P st0 a0 w0 r0) (hh0 : Held P w0 r0 0 ρ) (st' : St) (q : List Prop) (hq : AllP q) (h : Tri2 P c Q st' ρ) (hb : (backSt st0 st st.fx ts, flq st st.fx ts, st.bx, st.m) = (st', q, [], 0) := by kernel_rfl) : TriL P a0 w0 r0 ρ c Q st := by
  intro a w r hi hs
  simp only [Prod.mk.injEq] at hb
  obtain ⟨rfl, rfl, hbx, hm⟩ := hb
  have hbl : st.bx.length = 0 := by rw [hbx]; rfl
  rw [hbl] at hs
  have hheap : ∀ g, r0.Sh g ∨ g ∈ bks ρ → w.heap[g]? = w0.heap[g]? := fun g hg => by
    refine hs.block g ?_ fun hx => ?_
    · rcases hg with hg | hg
      · exact (hi0.sh g hg).1
      · exact hh0.lt hg
    · have hX0 : r0.X 0 g := hx
      rcases hg with hg | hg
      · exact hi0.not_sh (by
          rcases hX0 with h | ⟨b, hb, _⟩
          · exact .inl h
          · omega) hg
      · exact (hh0.off g hg).2 hX0
  have hget : ∀ t pv, (backSt st0 st st.fx ts).get t = some pv → (inB t st.fx = true ∧ st0.get t = some pv ∧ pv.cs.all PC.stays = true) ∨ (inB t st.fx = false ∧ st.get t = some pv ∧ pv.cs.all PC.flatB = true) := fun t pv ht => by
    have h1 := pickT_look ht
    split at h1
    · rename_i hin
      split at h1
      · rename_i pv' hg
        split at h1
        · cases h1; exact .inl ⟨hin, hg, ‹_›⟩
        · cases h1
      · cases h1
    · rename_i hin
      exact .inr ⟨hin, h1, flq_at hq (pickT_mem ht) hin h1⟩
  have hkv : ∀ t pv, inB t st.fx = true → st0.get t = some pv → ∃ v, a0.tmps[t]? = some v ∧ a.tmps[t]? = some v ∧ pv.sh.fits pv.cs.length v := fun t pv hin hg => by
    obtain ⟨v, hv, hfit⟩ := hi0.tm t pv hg
    refine ⟨v, hv, ?_, hfit⟩
    have h1 := hi.fx t hin
    rw [h1, hs.κ]
    simp [Rs.lent, Array.getD_eq_getD_getElem?, hv]
  let B := backSt st0 st st.fx ts
  have hBbx : B.bx = [] := hbx
  have hownB : ∀ p g, (∃ e xs, B.at p = some (.own e xs)) → r.γ p = some g → True := fun _ _ _ _ => trivial
  let r' : Rs := { Sh := r0.Sh, β := r.β, κ := r0.κ, γ := fun p => match p with
    | .t t c => match inB t st.fx with
      | true => none
      | false => match B.get t with
        | some _ => r.γ (.t t c)
        | none => none
    | .b _ _ => none }
  have hγ : ∀ p g, r'.γ p = some g → r.γ p = some g ∧ ∃ t c pv, p = .t t c ∧ inB t st.fx = false ∧ B.get t = some pv := fun p g hp => by
    cases p with
    | t t c =>
      simp only [r'] at hp
      split at hp
      · cases hp
      · rename_i hin
        split at hp
        · rename_i pv hg
          exact ⟨hp, t, c, pv, rfl, hin, hg⟩
        · cases hp
    | b b c => cases hp
  have hSh : ∀ g, r0.Sh g → r.Sh g := fun g hg => hs.sh g (.inl hg)
  have hInv : Inv P B a w r' := by
    refine ⟨hi.sz, by rw [hBbx]; show st.m ≤ 0; omega, fun t pv ht => ?_, fun b cs hb => by rw [hBbx] at hb; simp at hb, fun p x hx => ?_, fun p x q hx hq => ?_, fun p g hg => ?_, fun p q g hp hq => hi.inj p q g (hγ p g hp).1 (hγ q g hq).1, fun p g b hp hb => by rw [hBbx] at hb; simp at hb, fun b b' hb => by rw [hBbx] at hb; simp at hb, fun g hg => ⟨Nat.lt_of_lt_of_le (hi0.sh g hg).1 hs.size, fun p hp => (hi.sh g (hSh g hg)).2.1 p (hγ p g hp).1, fun b hb => by rw [hBbx] at hb; simp at hb⟩, hi.defers, LaidFacts.mono (fun _ h => h) (fun g hg => hheap g (.inl hg)) hi0.lw, fun _ h => by cases h⟩
    · rcases hget t pv ht with ⟨hin, hg, _⟩ | ⟨_, hg, _⟩
      · obtain ⟨v, _, h2, h3⟩ := hkv t pv hin hg
        exact ⟨v, h2, h3⟩
      · exact hi.tm t pv hg
    · cases p with
      | t t c =>
        obtain ⟨pv, ht, hxc⟩ := St.at_tmp hx
        rcases hget t pv ht with ⟨hin, hg, hall⟩ | ⟨hin, hg, hall⟩
        · obtain ⟨v, h1, h2, h3⟩ := hkv t pv hin hg
          have hst := List.all_eq_true.1 hall x (List.mem_of_getElem? hxc)
          have hc := hi0.cell (.t t c) x (by simp [St.at, hg, hxc])
          have e0 : alpha a0 w0 r0 (.t t c) = (flat v).getD c undef := by simp [alpha, Array.getD_eq_getD_getElem?, h1]
          have e1 : alpha a w r' (.t t c) = (flat v).getD c undef := by simp [alpha, Array.getD_eq_getD_getElem?, h2]
          have hγn : r'.γ (.t t c) = none := by simp [r', hin]
          rw [e1, hγn]
          rw [e0] at hc
          cases x <;> simp only [PC.stays] at hst <;> try (cases hst; done)
          all_goals
            obtain ⟨_, hf⟩ := hc
            generalize (flat v).getD c undef = u at hf ⊢
            refine ⟨rfl, .s ?_⟩
            cases hf with
            | s hf => exact hf.mono (fun _ h => h) (fun g hg => hheap g (.inl hg))
        · have hfl := List.all_eq_true.1 hall x (List.mem_of_getElem? hxc)
          have hc := hi.cell (.t t c) x (by simp [St.at, hg, hxc])
          have hγe : r'.γ (.t t c) = r.γ (.t t c) := by
            have : B.get t = some pv := ht
            simp [r', hin, this]
          rw [hγe]
          exact flatB_rep hfl hc
      | b b c => simp only [St.at, hBbx] at hx; simp at hx
    · cases p with
      | t t c =>
        obtain ⟨pv, ht, hxc⟩ := St.at_tmp hx
        rcases hget t pv ht with ⟨hin, hg, hall⟩ | ⟨hin, hg, hall⟩
        · have hst := List.all_eq_true.1 hall x (List.mem_of_getElem? hxc)
          cases x <;> simp only [PC.stays] at hst <;> first | (cases hst; done) | cases hq
        · have hfl := List.all_eq_true.1 hall x (List.mem_of_getElem? hxc)
          rw [free_names (flatB_free x hfl)] at hq; cases hq
      | b b c => simp only [St.at, hBbx] at hx; simp at hx
    · obtain ⟨h1, t, c, pv, rfl, hin, hBg⟩ := hγ p g hg
      obtain ⟨e, xs, hx⟩ := hi.live _ g h1
      obtain ⟨pv2, h2, h3⟩ := St.at_tmp hx
      rcases hget t pv hBg with ⟨hin2, _, _⟩ | ⟨_, hg2, _⟩
      · rw [hin] at hin2; cases hin2
      · rw [hg2] at h2; cases h2
        exact ⟨e, xs, by simp [St.at, hBg, h3]⟩
  have hX' : ∀ g, r'.X 0 g → r.X 0 g := fun g hg => by
    rcases hg with ⟨p, hp⟩ | ⟨b, hb, _⟩
    · exact .inl ⟨p, (hγ p g hp).1⟩
    · omega
  have hHeld : Held P w r' 0 ρ := hh0.go (fun g hg => hheap g (.inr hg)) fun g hg => ⟨(hh0.off g hg).1, fun hx => by
    have h1 := hX' g hx
    have h2 : r.X st.bx.length g := by rw [hbl]; exact h1
    exact hi.not_sh h2 (hs.sh g (.inr hg))⟩
  have hB0 : B.bx.length = 0 := by rw [hBbx]; rfl
  have hBm : B.m = 0 := hm
  have hwp := h a w r' hInv (by show Held P w r' B.bx.length ρ; rw [hB0]; exact hHeld)
  refine Code.wp_mono (fun e a' w' k => ?_) hwp
  have k2 : Post2 P 0 w r' 0 ρ Q e a' w' := by
    have k : Post2 P B.m w r' B.bx.length ρ Q e a' w' := k
    rw [hB0, hBm] at k; exact k
  have hst : Step2 0 w0 r0 0 ρ w r' 0 ρ := by
   refine ⟨hs.os, hs.tape, hs.output, hs.size, fun g hg hx => hs.block g hg fun h => hx (.inl h), fun _ h => h, fun _ h => .inl h, fun g hg => ?_, fun b hb => by omega, rfl, hs.ty⟩
   rcases hg with hg | hg
   · exact (hs.x g (hX' g hg)).imp .inl id
   · exact .inl (.inr hg)
  exact Post2.step hst k2
end
end Go.Proofs.YtoclajfeeebbbaaGreatDoor.E
