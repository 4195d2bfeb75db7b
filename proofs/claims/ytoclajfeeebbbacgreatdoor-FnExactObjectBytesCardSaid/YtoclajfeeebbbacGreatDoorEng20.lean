/- The engine, part AK: rows told apart: their order, what is let go, loops, conditions, whole regions. Plain lemmas; no program. -/
import Derived.Test.YtoclajfeeebbbacGreatDoorEng19

set_option linter.unusedVariables false
set_option linter.unusedSectionVars false
set_option linter.unusedSimpArgs false
namespace Go.Proofs.YtoclajfeeebbbacGreatDoor.E
open Go.RowKit
variable [LaidFacts]
section
variable {P : Program} {st : St} {a : Act} {w : World} {r : Rs} {ρ ρ' : List Rw} {Q : Exit → St → List Rw → Prop}
theorem bks_perm (h : ρ.Perm ρ') : (bks ρ).Perm (bks ρ') := h.filterMap _
theorem Held.perm {nb : Nat} (h : Held P w r nb ρ) (hp : ρ.Perm ρ') : Held P w r nb ρ' :=
  ⟨fun x hx => h.own x (hp.mem_iff.2 hx), (bks_perm hp).nodup_iff.1 h.one, fun g hg => h.off g ((bks_perm hp).mem_iff.2 hg)⟩
theorem Held.left {nb : Nat} {σ : List Rw} (h : Held P w r nb (ρ ++ σ)) : Held P w r nb ρ :=
  ⟨fun x hx => h.own x (List.mem_append_left _ hx), by have := h.one; rw [bks_app] at this; exact (List.nodup_append.1 this).1, fun g hg => h.off g (by rw [bks_app]; exact List.mem_append_left _ hg)⟩
theorem Step2.same {m : Nat} {nb : Nat} (h : ∀ g, g ∈ bks ρ' → g ∈ bks ρ) : Step2 m w r nb ρ w r nb ρ' :=
  ⟨rfl, rfl, rfl, Nat.le_refl _, fun _ _ _ => rfl, fun _ h => h, fun _ h => .inl h, fun g hg => .inl (hg.imp id (h g)), fun _ _ => rfl, rfl, fun _ _ h => h⟩
theorem Turns2.sub {σ : List Rw} (hp : ρ.Perm (ρ' ++ σ)) : Turns2 P st ρ st ρ' := fun a w r hi hh =>
  ⟨r, rfl, hi, (hh.perm hp).left, Step2.same fun g hg => (bks_perm hp).mem_iff.2 (by rw [bks_app]; exact List.mem_append_left _ hg)⟩
theorem Turns2.perm (hp : ρ.Perm ρ') : Turns2 P st ρ st ρ' := Turns2.sub (σ := []) (by simpa using hp)
theorem TriO2.sub {ops : Array Oper} {l : List Oper} {Q : St → List Rw → Prop} {σ : List Rw} (hp : ρ.Perm (ρ' ++ σ)) (h : TriO2 P ops l Q st ρ') : TriO2 P ops l Q st ρ := TriO2.turn (Turns2.sub hp) h
theorem TriO2.perm {ops : Array Oper} {l : List Oper} {Q : St → List Rw → Prop} (hp : ρ.Perm ρ') (h : TriO2 P ops l Q st ρ') : TriO2 P ops l Q st ρ := TriO2.turn (Turns2.perm hp) h
/-! Nil rows. -/
def nilV : Value := .slice none 0 0
def nilR (e : TypeId) : Rw := ⟨nilV, e, []⟩
theorem nilR_own {Sh : Nat → Prop} (e : TypeId) : RepOwn P w Sh e [] nilV none := ⟨[], ⟨by simp, .inl ⟨rfl, rfl⟩⟩, rfl, by simp, fun i x h => by simp at h⟩
theorem bks_nils (n : Nat) (e : TypeId) : bks (List.replicate n (nilR e)) = [] := by
  induction n with
  | zero => rfl
  | succ n ih => rw [List.replicate_succ]; exact ih
theorem Turns2.nils (n : Nat) (e : TypeId) : Turns2 P st ρ st (List.replicate n (nilR e) ++ ρ) := fun a w r hi hh => by
  have hb : bks (List.replicate n (nilR e) ++ ρ) = bks ρ := by rw [bks_app, bks_nils, List.nil_append]
  refine ⟨r, rfl, hi, ⟨fun x hx => ?_, by rw [hb]; exact hh.one, fun g hg => hh.off g (hb ▸ hg)⟩, Step2.same fun g hg => hb ▸ hg⟩
  rcases List.mem_append.1 hx with h | h
  · rw [(List.mem_replicate.1 h).2]; exact nilR_own e
  · exact hh.own x h
/-- A row's cells told with less. -/
theorem Turns.weak {p : Place} {e : TypeId} {xs xs' : List (List PC)} (hp : st.at p = some (.own e xs)) (hl : xs'.length = xs.length)
    (hz : ∀ (i : Nat) (el el' : List PC), xs[i]? = some el → xs'[i]? = some el' → el'.length = el.length ∧ ∀ (j : Nat) (x x' : PC), el[j]? = some x → el'[j]? = some x' → ∀ (w : World) (Sh : Nat → Prop) (u : Value), RepS w Sh x u → RepS w Sh x' u) : Turns P st (st.setAt p (.own e xs')) := by
  intro a w r hi
  have hc := hi.cell _ _ hp
  simp only [RepC] at hc
  obtain ⟨vals, h1, h2, h3, h4⟩ := hc
  have hlen : ∀ el ∈ xs', el.length = P.cellsOf e := fun el hel => by
    obtain ⟨i, hi'⟩ := List.getElem?_of_mem hel
    have hlt : i < xs.length := by rw [← hl]; exact (List.getElem?_eq_some_iff.1 hi').1
    have h5 := (hz i _ el (List.getElem?_eq_getElem hlt) hi').1
    rw [h5]; exact h3 _ (List.getElem_mem hlt)
  have hown : RepOwn P w r.Sh e xs' (alpha a w r p) (r.γ p) := by
    refine ⟨vals, by rw [hl]; exact h1, h2, hlen, fun i x' hx' => ?_⟩
    by_cases h0 : P.cellsOf e = 0
    · have : xs'.flatten.length = xs'.length * P.cellsOf e := flatten_length hlen
      have hlt := (List.getElem?_eq_some_iff.1 hx').1
      rw [this, h0] at hlt; omega
    · obtain ⟨el', k1, k2⟩ := flatten_split (by omega) hlen hx'
      have hlt : i / P.cellsOf e < xs.length := by rw [← hl]; exact (List.getElem?_eq_some_iff.1 k1).1
      have k3 := List.getElem?_eq_getElem hlt
      have k4 := h3 _ (List.getElem_mem hlt)
      have k5 : i % P.cellsOf e < xs[i / P.cellsOf e].length := by rw [k4]; exact Nat.mod_lt _ (by omega)
      have k6 := flatten_at h3 k3 (List.getElem?_eq_getElem k5)
      rw [Nat.div_add_mod' i (P.cellsOf e)] at k6
      obtain ⟨u, hu, hr⟩ := h4 _ _ k6
      exact ⟨u, hu, (hz _ _ _ k3 k1).2 _ _ _ (List.getElem?_eq_getElem k5) k2 w r.Sh u hr⟩
  exact ⟨r, St.setAt_m, hi.reown hp hown (fun _ _ _ => rfl) (Nat.le_refl _), by rw [St.setAt_len]; exact Step.refl ..⟩
theorem Tri2.old {c : Code} {st' : St} (ht : Turns P st st') (hy : Tri2 P c Q st' ρ) : Tri2 P c Q st ρ := by
  refine Tri2.turn (fun a w r hi hh => ?_) hy
  obtain ⟨r', h1, h2, h3⟩ := ht a w r hi
  obtain ⟨h4, h5⟩ := hh.step h3
  exact ⟨r', h1, h2, h4, h5⟩
/-! Control. -/
theorem Tri2.exit {id : Nat} (h : Q (.exit id) st ρ) : Tri2 P (.exit id) Q st ρ := Tri2.lift (Tri.exit h)
theorem Tri2.cond {c : Operand} {x y : Code} (b : Bool) (hc : st.use c = some ⟨.one, [.sc (.bool b)]⟩) (h : Tri2 P (if b then x else y) Q st ρ) : Tri2 P (.cond c x y) Q st ρ := by
  intro a w r hi hh
  exact wp_cond (hi.use hc).out_sc (h a w r hi hh)
theorem ci2 {c : Operand} {x y : Code} {σ : Type} {p : Prop} [Decidable p] {t e : Option σ} {v : σ} (H : (if p then t else e) = some v) (hx : p → t = some v → Tri2 P x Q st ρ) (hy : ¬ p → e = some v → Tri2 P y Q st ρ)
    (hc : st.use c = some ⟨.one, [.sc (.bool (decide p))]⟩ := by kernel_rfl) : Tri2 P (.cond c x y) Q st ρ := by
  by_cases h : p
  · rw [if_pos h] at H; rw [decide_eq_true h] at hc; exact Tri2.cond true hc (hx h H)
  · rw [if_neg h] at H; rw [decide_eq_false h] at hc; exact Tri2.cond false hc (hy h H)
theorem rn2 {id : Nat} {l : List Oper} {y : Code} (ts : List Nat) (nb : Nat) (fx : List Fix) (hp : List Hp) (hy : Tri2 P y Q (nx (evR P l ts nb fx st (hsOf hp))) ρ) (h : (evR P l ts nb fx st (hsOf hp)).map (·.1) = some (qsOf hp) := by kernel_rfl) :
    Tri2 P (.seq (.region id l.toArray false) y) Q st ρ := Tri2.sq (rl (Q := Ex (fun st' => Tri2 P y Q st' ρ) (fun e st' => Q e st' ρ)) ts nb fx hp hy h)
theorem rx2 {id : Nat} {l : List Oper} {y : Code} (ts : List Nat) (nb : Nat) (fx : List Fix) (hp : List Hp) (st' : St) (hy : Tri2 P y Q st' ρ) (h : evR P l ts nb fx st (hsOf hp) = some (qsOf hp, st') := by kernel_rfl) :
    Tri2 P (.seq (.region id l.toArray false) y) Q st ρ := Tri2.sq (Tri.r1 (Q := Ex (fun st' => Tri2 P y Q st' ρ) (fun e st' => Q e st' ρ)) ts nb fx _ _ _ (qsOf_all hp) hy h)
theorem rlx2 {id : Nat} {l : List Oper} (ts : List Nat) (nb : Nat) (fx : List Fix) (hp : List Hp) (st' : St) (hy : Q .normal st' ρ) (h : evR P l ts nb fx st (hsOf hp) = some (qsOf hp, st') := by kernel_rfl) :
    Tri2 P (.region id l.toArray false) Q st ρ := Tri2.lift (Tri.r1 (Q := fun e st' => Q e st' ρ) ts nb fx _ _ _ (qsOf_all hp) hy h)
theorem fx2 {c : Code} (ts : List Nat) (nb : Nat) (l : List Fix) (hy : Tri2 P c Q (nf (fin P ts nb l st)) ρ) (h : (fin P ts nb l st).isSome = true := by kernel_rfl) : Tri2 P c Q st ρ := Tri2.old (fin_turns (nf_eq h)) hy
theorem bl2 {id : Nat} {c : Code} (h : Tri2 P c (Bk2 id Q) st ρ) : Tri2 P (.block id c) Q st ρ := Tri2.block h
theorem TriR2.mono {c : Code} : ∀ {k k' : Nat} {st : St} {ρ : List Rw}, k ≤ k' → TriR2 P c Q k st ρ → TriR2 P c Q k' st ρ
  | 0, _, _, _, _, h => h.elim
  | k + 1, 0, _, _, h, _ => by omega
  | k + 1, k' + 1, st, ρ, h, ht => Tri2.mono (fun e st' ρ' q => by cases e <;> first | exact TriR2.mono (by omega) q | exact q) ht
theorem TriR2.ind {α σ : Type} {c : Code} {res : σ} (F : Nat → α → Option σ) (S : α → St) (R : α → List Rw) (hz : ∀ x, F 0 x = none)
    (hs : ∀ k x, F (k + 1) x = some res → (∀ k' y, k' ≤ k → F k' y = some res → TriR2 P c Q k (S y) (R y)) → Tri2 P c (Ex2 (TriR2 P c Q k) Q) (S x) (R x)) : ∀ (k : Nat) (x : α), F k x = some res → TriR2 P c Q k (S x) (R x) := by
  intro k
  induction k using Nat.strongRecOn with
  | _ k ih =>
    intro x hx
    cases k with
    | zero => rw [hz] at hx; cases hx
    | succ k => exact hs k x hx fun k' y hk hy => TriR2.mono hk (ih k' (by omega) y hy)
/-- Ways that meet. -/
theorem Tri2.join {x y : Code} {α : Type} (C : α → Prop) (S : α → St) (R : α → List Rw) (hy : ∀ v, C v → Tri2 P y Q (S v) (R v)) (hx : Tri2 P x (Ex2 (fun st ρ => ∃ v, C v ∧ st = S v ∧ ρ = R v) Q) st ρ) : Tri2 P (.seq x y) Q st ρ := by
  refine Tri2.seq (Tri2.mono (fun e st' ρ' q => ?_) hx)
  cases e <;> first
    | (obtain ⟨v, h1, rfl, rfl⟩ := q; exact hy v h1)
    | exact q
/-- The first n operations, computed; the state as it is computed. -/
def nxE (x : Option (List Prop × St × Hs)) : St := match x with
  | some y => y.2.1
  | none => ⟨0, [], [], 0, []⟩
theorem nxE_eq {x : Option (List Prop × St × Hs)} {q : List Prop} (h : x.map (fun y => (y.1, y.2.2)) = some (q, [])) : x = some (q, nxE x, []) := by
  cases x with
  | none => cases h
  | some y => obtain ⟨a, b, c⟩ := y; simp only [Option.map_some, Option.some.injEq, Prod.mk.injEq] at h; obtain ⟨rfl, rfl⟩ := h; rfl
theorem ew {ops : Array Oper} {l : List Oper} {Q : St → List Rw → Prop} (n : Nat) (hp : List Hp) (hy : TriO2 P ops (l.drop n) Q (nxE (evN3 P ops (l.take n).length 0 (l.take n) st (hsOf hp))) ρ)
    (h : (evN3 P ops (l.take n).length 0 (l.take n) st (hsOf hp)).map (fun y => (y.1, y.2.2)) = some (qsOf hp, []) := by kernel_rfl) : TriO2 P ops l Q st ρ := TriO2.ev n hp hy (nxE_eq h)
theorem ef {ops : Array Oper} {l : List Oper} {Q : St → List Rw → Prop} (ts : List Nat) (nb : Nat) (fx : List Fix) (hy : TriO2 P ops l Q (nf (fin P ts nb fx st)) ρ) (h : (fin P ts nb fx st).isSome = true := by kernel_rfl) : TriO2 P ops l Q st ρ := TriO2.fin ts nb fx hy (nf_eq h)
theorem exx {ops : Array Oper} {l : List Oper} {Q : St → List Rw → Prop} (ts : List Nat) (nb : Nat) (fx : List Fix) (st' : St) (hy : TriO2 P ops l Q st' ρ) (h : fin P ts nb fx st = some st' := by kernel_rfl) : TriO2 P ops l Q st ρ := TriO2.fin ts nb fx hy h
/-! Lending. -/
theorem RepS.sc_eq {Sh : Nat → Prop} {u v : Value} (h : RepS w Sh (.sc u) v) : v = u := by cases h; rfl
/-- A row told apart, whose cells may be rows told apart, reads as shared. -/
theorem row_lent {α : Type} {e : TypeId} {s : Nat} {u : Value} {o : Option Nat} {S' : Nat → Prop} {z : List α} {eV eS : α → List PC} (he : P.cellsOf e = s) (hu : RepOwn P w (fun _ => False) e (z.map eV) u o) (hg : ∀ k, o = some k → S' k) (hlen : ∀ p ∈ z, (eS p).length = s)
    (hcell : ∀ p ∈ z, ∀ (j : Nat) (x' : PC), (eS p)[j]? = some x' → ∃ x, (eV p)[j]? = some x ∧ ∀ v, RepS w (fun _ => False) x v → RepS w S' x' v) : RepS w S' (.sl s (z.map eS)) u := by
  subst he
  refine hu.shareD hg (by simp) (fun el hel => by obtain ⟨p, hp, rfl⟩ := List.mem_map.1 hel; exact hlen p hp) fun i j el' x' hi hj => ?_
  rw [List.getElem?_map, Option.map_eq_some_iff] at hi
  obtain ⟨p, hp, rfl⟩ := hi
  obtain ⟨x, hx, h⟩ := hcell p (List.mem_of_getElem? hp) j x' hj
  exact ⟨eV p, x, by rw [List.getElem?_map, hp]; rfl, hx, h⟩
theorem RepS.bareS {Sh Sh' : Nat → Prop} {x : PC} {v : Value} (hs : x.scalar = true) (h : RepS w Sh x v) : RepS w Sh' x v := scalar_rep hs h
theorem cel_lent {S0 S' : Nat → Prop} {cs cs' : List PC} {u : Value} (hS : ∀ g, S0 g → S' g) (hc : ∀ (j : Nat) (x' : PC), cs'[j]? = some x' → ∃ x, cs[j]? = some x ∧ ∀ v, RepS w S0 x v → RepS w S' x' v) (h : RepS w S0 (.cel cs 0) u) : RepS w S' (.cel cs' 0) u := by
  generalize hx : PC.cel cs 0 = x at h
  cases h with
  | @cel cs0 off g o f hsh hcell hr =>
    injection hx with h1 h2
    subst h1 h2
    refine .cel f (hS _ hsh) (fun j x' hj => ?_) (fun j x' hj => ?_)
    · obtain ⟨x, hx, _⟩ := hc j x' hj; exact hcell j x hx
    · obtain ⟨x, hx, h⟩ := hc j x' hj; exact h _ (hr j x hx)
  | _ => cases hx
theorem Tri2.lendC {c : Code} (t : Nat) (keep : List Nat) {cs cs' : List PC} (hc : ∀ w (r : Rs), Held P w r 0 ρ → ∀ (j : Nat) (x' : PC), cs'[j]? = some x' → ∃ x, cs[j]? = some x ∧ ∀ v, RepS w r.Sh x v → RepS w (fun g => r.Sh g ∨ g ∈ bks ρ) x' v)
    (h : ∀ a w r, Inv P st a w r → Held P w r 0 ρ → TriL P a w r ρ c Q { st.setAt (.t t 0) (.cel cs' 0) with fx := keep })
    (hp : (st.at (.t t 0), st.bx, st.m, st.fx, keep.all fun k => (st.get k).isSome) = (some (.cel cs 0), [], 0, [], true) := by kernel_rfl) : Tri2 P c Q st ρ :=
  Tri2.lend t 0 keep (fun a w r hi hh u hu => cel_lent (fun g h => .inl h) (hc w r hh) hu) rfl (fun _ _ h => by cases h) (fun _ _ _ _ _ _ => Iff.rfl)
    (fun w' r' st' al v g h => by
      obtain ⟨hg, hf⟩ := h
      cases hf with
      | s h => exact ⟨_, rfl, hg, h⟩) h hp
theorem fb2 {c : Code} (st' : St) (hy : Tri2 P c Q st' ρ) (h : frzBB st = some st' := by kernel_rfl) : Tri2 P c Q st ρ := Tri2.old (Turns.frzB h) hy
theorem rnL {a0 : Act} {w0 : World} {r0 : Rs} {id : Nat} {l : List Oper} {y : Code} (ts : List Nat) (nb : Nat) (fx : List Fix) (hp : List Hp) (hy : TriL P a0 w0 r0 ρ y Q (nx (evR P l ts nb fx st (hsOf hp)))) (h : (evR P l ts nb fx st (hsOf hp)).map (·.1) = some (qsOf hp) := by kernel_rfl) (hm : st.m = 0 := by kernel_rfl) :
    TriL P a0 w0 r0 ρ (.seq (.region id l.toArray false) y) Q st := TriL.sq (rl (Q := Ex (fun st' => TriL P a0 w0 r0 ρ y Q st') (fun e st' => Q e { st' with fx := [] } [])) ts nb fx hp hy h) hm
theorem sqL {a0 : Act} {w0 : World} {r0 : Rs} {x y : Code} (h : Tri P x (Ex (fun st' => TriL P a0 w0 r0 ρ y Q st') (fun e st' => Q e { st' with fx := [] } [])) st) (hm : st.m = 0 := by kernel_rfl) : TriL P a0 w0 r0 ρ (.seq x y) Q st := TriL.sq h hm
/-! Lists of rows, beside lists of what they stand for. -/
theorem perm_set {α β : Type} {f : α → β} {n o : α} : ∀ {z : List α} {i : Nat}, z[i]? = some o → (f n :: z.map f).Perm ((z.set i n).map f ++ [f o])
  | [], i, h => by simp at h
  | x :: z, 0, h => by
    simp only [List.getElem?_cons_zero, Option.some.injEq] at h
    subst h
    simp only [List.map_cons, List.set_cons_zero, List.cons_append]
    exact List.Perm.cons _ (List.perm_append_singleton _ _).symm
  | x :: z, i + 1, h => by
    simp only [List.getElem?_cons_succ] at h
    simp only [List.map_cons, List.set_cons_succ, List.cons_append]
    exact (List.Perm.swap _ _ _).trans (List.Perm.cons _ (perm_set h))
theorem perm_at {α β : Type} {f : α → β} {o : α} : ∀ {z : List α} {i : Nat}, z[i]? = some o → (z.map f).Perm (f o :: (z.eraseIdx i).map f)
  | [], i, h => by simp at h
  | x :: z, 0, h => by
    simp only [List.getElem?_cons_zero, Option.some.injEq] at h
    subst h
    exact List.Perm.refl _
  | x :: z, i + 1, h => by
    simp only [List.getElem?_cons_succ] at h
    simp only [List.map_cons, List.eraseIdx_cons_succ]
    exact (List.Perm.cons _ (perm_at h)).trans (List.Perm.swap _ _ _)
theorem perm_back {α β : Type} {f : α → β} {n : α} {z : List α} {i : Nat} (h : i < z.length) : (f n :: (z.eraseIdx i).map f).Perm ((z.set i n).map f) := by
  have h1 : (z.set i n)[i]? = some n := by simp [h]
  have h2 := (perm_at (f := f) h1).symm
  rwa [List.eraseIdx_set_eq] at h2
end
end Go.Proofs.YtoclajfeeebbbacGreatDoor.E

/- The engine, part AL: rows told apart: a function that writes into a row of its first argument's gives it back; results in boxes. Plain lemmas; no program. -/
set_option linter.unusedVariables false
set_option linter.unusedSectionVars false
set_option linter.unusedSimpArgs false
namespace Go.Proofs.YtoclajfeeebbbacGreatDoor.E
open Go.RowKit
variable [LaidFacts]
section
variable {P : Program} {st : St} {a : Act} {w : World} {r : Rs} {ρ : List Rw} {Q : Exit → St → List Rw → Prop}
/-- What temporaries stay, and their values, are told anew. -/
theorem Inv.kap (hi : Inv P st a w r) {fx : List Nat} {κ : Nat → Value} (h : ∀ t, inB t fx = true → a.tmps[t]? = some (κ t)) : Inv P { st with fx := fx } a w { r with κ := κ } := hi.hold h
theorem focus_arg {vals : Array Value} {u : Value} {e : TypeId} {ys : List (List PC)} {rest : List PV} {ρa : List Rw} (hi : Inv P ⟨(⟨.one, [.sc u]⟩ :: rest).length, enum 0 (⟨.one, [.sc u]⟩ :: rest), [], 0, []⟩ ⟨vals, []⟩ w r) (hh : Held P w r 0 (ρa ++ [⟨u, e, ys⟩])) :
    ∃ r', Inv P ⟨(⟨.one, [.own e ys]⟩ :: rest).length, enum 0 (⟨.one, [.own e ys]⟩ :: rest), [], 0, [0]⟩ ⟨vals, []⟩ w r' ∧ Held P w r' 0 ρa ∧ r'.Sh = r.Sh ∧ r'.κ = (fun t => vals.getD t undef) ∧ vals[0]? = some u ∧ (∀ g, X2 r' 0 ρa g → X2 r 0 (ρa ++ [⟨u, e, ys⟩]) g) := by
  obtain ⟨r1, h1, h2, h3, h4, h5, h6⟩ := focus_at (ρ1 := ρa) (ρ2 := []) (t := 0) (c := 0) (x := ⟨u, e, ys⟩) hi hh rfl
  have hs : (⟨(⟨.one, [.sc u]⟩ :: rest).length, enum 0 (⟨.one, [.sc u]⟩ :: rest), [], 0, []⟩ : St).setAt (.t 0 0) (.own e ys) = ⟨(⟨.one, [.own e ys]⟩ :: rest).length, enum 0 (⟨.one, [.own e ys]⟩ :: rest), [], 0, []⟩ := by
    simp [St.setAt, St.get, enum, look, St.rep, setL]
  rw [hs] at h2 h3 h4
  rw [List.append_nil] at h3 h4
  have hv : vals[0]? = some u := by
    obtain ⟨v, hv, hfit⟩ := hi.tm 0 ⟨.one, [.sc u]⟩ rfl
    have hc := hi.cell (.t 0 0) (.sc u) rfl
    obtain ⟨_, hc⟩ := hc
    have hv : vals[0]? = some v := hv
    have ha : alpha ⟨vals, []⟩ w r (.t 0 0) = (flat v).getD 0 undef := by simp [alpha, Array.getD_eq_getD_getElem?, hv]
    rw [ha, flat_one hfit.2] at hc
    have hc : RepF w r.Sh r.β 0 (.sc u) v := hc
    have : v = u := by
      cases hc with
      | s h => exact h.sc_eq
    rw [hv, this]
  refine ⟨{ r1 with κ := fun t => vals.getD t undef }, h2.kap (fun t ht => ?_), ⟨h3.own, h3.one, h3.off⟩, h5, rfl, hv, fun g hg => ?_⟩
  · have ht0 : t = 0 := by simpa using inB_spec ht
    subst ht0
    show vals[0]? = some (vals.getD 0 undef)
    simp [Array.getD_eq_getD_getElem?, hv]
  · rcases h4.x g hg with h | h
    · exact h
    · have : g < w.heap.size := by
        rcases hg with hg | hg
        · exact h2.X_lt (g := g) hg
        · exact h3.lt hg
      omega
theorem Step2.pre {w w' : World} {r r1 r' : Rs} {ρ0 ρ1 ρ' : List Rw} (h : Step2 0 w r1 0 ρ1 w' r' 0 ρ') (hS : r1.Sh = r.Sh) (hX : ∀ g, X2 r1 0 ρ1 g → X2 r 0 ρ0 g) : Step2 0 w r 0 ρ0 w' { r' with κ := r.κ } 0 ρ' :=
  ⟨h.os, h.tape, h.output, h.size, fun g hg hx => h.block g hg (fun h' => hx (hX g h')), fun g hg => h.sh g (hS ▸ hg), fun g hg => (h.shNew g hg).imp (fun h' => hS ▸ h') (fun h' => h'.imp (hX g) id), fun g hg => (h.x g hg).imp (hX g) id, fun b hb => by omega, rfl, h.ty⟩
theorem alpha_u {a : Act} {w : World} {r : Rs} {t : Nat} {u : Value} (h : a.tmps[t]? = some u) (h1 : u.oneCell' = true) : alpha a w r (.t t 0) = u := by
  simp [alpha, Array.getD_eq_getD_getElem?, h, flat_one h1]
theorem Step2.le0 {m : Nat} {w w' : World} {r r' : Rs} {nb nb' : Nat} {ρ ρ' : List Rw} (h : Step2 m w r nb ρ w' r' nb' ρ') : Step2 0 w r nb ρ w' r' nb' ρ' :=
  ⟨h.os, h.tape, h.output, h.size, h.block, h.sh, h.shNew, h.x, fun b hb => by omega, h.κ, h.ty⟩
/-- A function that writes a row of its first argument's, and gives it back. -/
theorem Fn2.ofGK {f : FuncId} {u : Value} {e : TypeId} {ys ys' : List (List PC)} {rest : List PV} {res : PV} (h : FnG P f (⟨.one, [.own e ys]⟩ :: rest) [0] [] res [.own e ys'] []) (hflat : res.cs.all PC.flatB = true) (hys : flatXs ys' = true) :
    Fn2 P f (⟨.one, [.sc u]⟩ :: rest) [⟨u, e, ys⟩] (fun res' ρ' => res' = res ∧ ρ' = [⟨u, e, ys'⟩]) := by
  intro vals w r hi hh
  have hu1 : u.oneCell' = true := by
    obtain ⟨v, hv, hfit⟩ := hi.tm 0 ⟨.one, [.sc u]⟩ rfl
    obtain ⟨_, _, _, _, _, hv', _⟩ := focus_arg (ρa := []) hi hh
    have hv : vals[0]? = some v := hv
    rw [hv'] at hv
    cases hv
    exact hfit.2
  obtain ⟨r1, h2, h3, h5, hκ, hv, hX⟩ := focus_arg (ρa := []) hi hh
  refine (h vals w r1 h2).mono fun e' w' ⟨v, r2, he, hinv, hstep⟩ => ?_
  have hinv' : Inv P ⟨2, [(0, res), (1, ⟨.one, [.own e ys']⟩)], [], 0, []⟩ ⟨#[v, u], []⟩ w' r2 := by
    have e1 : vals.getD 0 undef = u := by simp [Array.getD_eq_getD_getElem?, hv]
    have : (⟨(v :: ([0] : List Nat).map fun j => vals.getD j undef).toArray, []⟩ : Act) = ⟨#[v, u], []⟩ := by
      show (⟨(v :: [vals.getD 0 undef]).toArray, []⟩ : Act) = _
      rw [e1]
    rw [this] at hinv
    exact hinv
  obtain ⟨v1, e1, h0, r3, k1, k2, k3, k4, k5⟩ := adopt_at (p := .t 1 0) hinv' (Held.nil (P := P)) rfl hys
  have hv1 : v1 = u := e1.trans (alpha_u rfl hu1)
  subst hv1
  have hs : (⟨2, [(0, res), (1, ⟨.one, [.own e ys']⟩)], [], 0, []⟩ : St).setAt (.t 1 0) (.sc v1) = ⟨2, [(0, res), (1, ⟨.one, [.sc v1]⟩)], [], 0, []⟩ := by
    simp [St.setAt, St.get, look, St.rep, setL]
  rw [hs] at k3 k4 k5
  obtain ⟨r4, g1, g2, g3, g4, g5⟩ := k3.leave (ts := [0]) (res := res) rfl (by simp) (n := 0) (Nat.zero_le _) (List.all_eq_true.2 fun x hx => flatB_free x (List.all_eq_true.1 hflat x hx)) (by simp)
  have g1 : Inv P ⟨1, [(0, res)], [], 0, []⟩ ⟨#[v], []⟩ w' r4 := g1
  have hst : Step2 0 w r1 0 [] w' r4 0 [⟨v1, e, ys'⟩] := ((Held.nil (P := P)).step hstep).2.trans (k5.trans (Step2.less (m := 0) g2 g5 (fun b hb => by omega) g4))
  exact ⟨v, { r4 with κ := r.κ }, res, _, he, ⟨rfl, rfl⟩, g1.kap (fun t ht => by cases ht), ⟨(k4.less g2 g5).own, (k4.less g2 g5).one, (k4.less g2 g5).off⟩, hst.pre h5 hX⟩
/-- The end of a body that gives its first argument's row back. -/
def EndsK (t : Nat) (res : PV) (e : TypeId) (ys : List (List PC)) (e' : Exit) (st : St) : Prop :=
  (e' = .normal ∨ e' = .ret) ∧ (st.get t, st.get 0, st.fx, st.bx) = (some res, some ⟨.one, [.own e ys]⟩, [0], []) ∧ res.cs.all PC.flatB = true ∧ t ≠ 0 ∧ flatXs ys = true
theorem Fn2.bodyK {f : FuncId} {fn : Func} {c : Code} {u : Value} {e : TypeId} {xs : List (List PC)} {rest : List PV} {ρa : List Rw} {R : PV → List Rw → Prop} (t : Nat) (hf : P.funcs[f]? = some fn)
    (h : Tri2 P c (fun e' st ρ => ∃ res ys, EndsK t res e ys e' st ∧ R res (ρ ++ [⟨u, e, ys⟩])) ⟨fn.ntmps, enum 0 (⟨.one, [.own e xs]⟩ :: rest), [], 0, [0]⟩ ρa) (hb : fn.body = some c := by rfl) (hres : fn.results = #[ResultVar.tmp t] := by rfl)
    (hn : Nat.ble (rest.length + 1) fn.ntmps = true := by rfl) : Fn2 P f (⟨.one, [.sc u]⟩ :: rest) (ρa ++ [⟨u, e, xs⟩]) R := by
  intro vals w r hi hh
  obtain ⟨v0, hv0, hfit⟩ := hi.tm 0 ⟨.one, [.sc u]⟩ rfl
  obtain ⟨r1, h2, h3, h5, hκ, hv, hX⟩ := focus_arg hi hh
  have hu1 : u.oneCell' = true := by
    have hv0 : vals[0]? = some v0 := hv0
    rw [hv] at hv0
    cases hv0
    exact hfit.2
  refine calls_of_wp hf hb ?_
  refine Code.wp_mono (fun e1 a' w' k => ?_) (h _ w r1 (start_at h2 (Nat.le_of_ble_eq_true hn)) h3)
  obtain ⟨st', r', ρ', ⟨res, ys, ⟨he, hq, hfl, ht, hys⟩, hR⟩, hm, hinv, hheld, hstep⟩ := k
  simp only [Prod.mk.injEq] at hq
  obtain ⟨hr, hg0, hfx, hbx⟩ := hq
  obtain ⟨v1, e1, h0, r3, k1, k2, k3, k4, k5⟩ := adopt_at (p := .t 0 0) hinv hheld (show st'.at (.t 0 0) = some (.own e ys) by simp only [St.at, hg0]; rfl) hys
  have hu : a'.tmps[0]? = some u := by
    have h6 := hinv.fx 0 (by rw [hfx]; rfl)
    rw [h6, hstep.κ, hκ]
    simp [Array.getD_eq_getD_getElem?, hv]
  have hv1 : v1 = u := e1.trans (alpha_u hu hu1)
  subst hv1
  have hget : (st'.setAt (.t 0 0) (.sc v1)).get t = some res := by
    simp only [St.setAt, hg0, St.get_rep]
    rw [if_neg ht]; exact hr
  have hbx2 : (st'.setAt (.t 0 0) (.sc v1)).bx = [] := by simp only [St.setAt, hg0]; exact hbx
  have hl2 : (st'.setAt (.t 0 0) (.sc v1)).bx.length = 0 := by rw [hbx2]; rfl
  obtain ⟨r4, g1, g2, g3, g4, g5⟩ := k3.leave (ts := [t]) (res := res) hget (by simp) (n := 0) (Nat.zero_le _) (List.all_eq_true.2 fun x hx => flatB_free x (List.all_eq_true.1 hfl x hx)) (by simp)
  have g1 : Inv P ⟨1, [(0, res)], [], 0, []⟩ ⟨#[a'.tmps.getD t undef], []⟩ w' r4 := by
    rw [List.take_zero] at g1; exact g1
  have hrun := run_results (P := P) (fn := fn) (ts := [t]) hres (by simp) a'.tmps w'
  rw [hl2] at k4 k5 g5
  have hb0 : st'.bx.length = 0 := by rw [hbx]; rfl
  rw [hb0] at hstep k5
  have hst := hstep.trans ((k5.le0).trans (Step2.less (m := 0) g2 g5 (fun b hb => by omega) g4))
  have hfin : ∀ P' : Prop, P' → P' := fun _ h => h
  have hh4 := k4.less g2 g5
  rcases he with rfl | rfl
  · exact ⟨hinv.defers, _, hrun, _, { r4 with κ := r.κ }, res, _, rfl, hR, g1.kap (fun t ht => by cases ht), ⟨hh4.own, hh4.one, hh4.off⟩, hst.pre h5 hX⟩
  · exact ⟨hinv.defers, _, hrun, _, { r4 with κ := r.κ }, res, _, rfl, hR, g1.kap (fun t ht => by cases ht), ⟨hh4.own, hh4.one, hh4.off⟩, hst.pre h5 hX⟩
end
end Go.Proofs.YtoclajfeeebbbacGreatDoor.E

/- The engine, part AM: rows told apart are lent: while they are, what is known of the world tells how they read; every header keeps its value. Plain lemmas; no program. -/
set_option linter.unusedVariables false
set_option linter.unusedSectionVars false
set_option linter.unusedSimpArgs false
namespace Go.Proofs.YtoclajfeeebbbacGreatDoor.E
open Go.RowKit
/-- Headers, and how they read. -/
class Lent where
  env : List (Value × PC)
section
variable {P : Program} {st : St} {a : Act} {w : World} {r : Rs} {ρ : List Rw} {L1 L2 : LaidFacts} {Q : Exit → St → List Rw → Prop}
variable {a0 : Act} {w0 : World} {r0 : Rs} {st0 : St}
/-! Behind it. -/
section
variable [LaidFacts] {ρ : List Rw}
end
section
variable [LaidFacts] {ρ : List Rw}
end
end
end Go.Proofs.YtoclajfeeebbbacGreatDoor.E
