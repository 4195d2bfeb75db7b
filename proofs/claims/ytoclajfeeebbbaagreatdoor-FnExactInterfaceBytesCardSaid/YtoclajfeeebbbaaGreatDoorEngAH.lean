/- The engine, part AH: rows told apart: an owned row is told apart, and owned again; calls, bodies. Plain lemmas; no program. -/
import Derived.Test.YtoclajfeeebbbaaGreatDoorEngAG
set_option linter.unusedVariables false
set_option linter.unusedSectionVars false
set_option linter.unusedSimpArgs false
namespace Go.Proofs.YtoclajfeeebbbaaGreatDoor.E
open Go.RowKit
variable [LaidFacts]
section
variable {P : Program} {st : St} {a : Act} {w : World} {r : Rs} {ρ : List Rw} {Q : Exit → St → List Rw → Prop}
def flatXs (xs : List (List PC)) : Bool := xs.all fun el => el.all PC.scalar
theorem RepOwn.bare {w : World} {Sh Sh' : Nat → Prop} {e : TypeId} {xs : List (List PC)} {v : Value} {o : Option Nat} (hs : flatXs xs = true) (h : RepOwn P w Sh e xs v o) : RepOwn P w Sh' e xs v o := by
  obtain ⟨vals, h1, h2, h3, h4⟩ := h
  refine ⟨vals, h1, h2, h3, fun i x hi => ?_⟩
  obtain ⟨u, hu, hr⟩ := h4 i x hi
  obtain ⟨el, hel, hxe⟩ := List.mem_flatten.1 (List.mem_of_getElem? hi)
  exact ⟨u, hu, scalar_rep (List.all_eq_true.1 (List.all_eq_true.1 hs el hel) x hxe) hr⟩
/-- An owned row is told apart. -/
theorem adopt_at (hi : Inv P st a w r) (hh : Held P w r st.bx.length ρ) {p : Place} {e : TypeId} {xs : List (List PC)} (hp : st.at p = some (.own e xs)) (hs : flatXs xs = true) :
    ∃ v : Value, v.oneCell' = true ∧ ∃ r', (st.setAt p (.sc v)).m = st.m ∧ Inv P (st.setAt p (.sc v)) a w r' ∧ Held P w r' (st.setAt p (.sc v)).bx.length (ρ ++ [⟨v, e, xs⟩]) ∧ Step2 st.m w r st.bx.length ρ w r' (st.setAt p (.sc v)).bx.length (ρ ++ [⟨v, e, xs⟩]) := by
  have hc := hi.cell _ _ hp
  simp only [RepC] at hc
  generalize hv : alpha a w r p = v at hc
  have h1 : v.oneCell' = true := by
    obtain ⟨vals, ho, _⟩ := hc
    rcases ho.2 with ⟨rfl, _⟩ | ⟨g, cap, cur, fz, rfl, _⟩ <;> rfl
  have hb : v.ownBlock = r.γ p := by obtain ⟨vals, _, hb, _⟩ := hc; exact hb
  have hm : (st.setAt p (.sc v)).m = st.m := St.setAt_m
  have hl : (st.setAt p (.sc v)).bx.length = st.bx.length := St.setAt_len
  have hX : ∀ g, (r.clr p false).X st.bx.length g → r.X st.bx.length g ∧ r.γ p ≠ some g := fun g hg => by
    rcases hg with ⟨q, hq⟩ | ⟨b, hb2, he⟩
    · simp only [Rs.clr] at hq
      split at hq
      · cases hq
      · rename_i hne
        exact ⟨.inl ⟨q, hq⟩, fun h => hne (hi.inj _ _ g hq h)⟩
    · exact ⟨.inr ⟨b, hb2, he⟩, fun h => hi.exb _ g b h hb2 he⟩
  have hS : ∀ g, (r.clr p false).Sh g → r.Sh g := fun g hg => by
    rcases hg with h | ⟨h, _⟩
    · exact h
    · cases h
  refine ⟨v, h1, r.clr p false, hm, hi.setAt hp false (.inr rfl) (.inr (by intro h; cases h)) (fun q hq => by cases hq) ⟨rfl, .s (by rw [hv]; exact .sc h1)⟩, ⟨fun x hx => ?_, ?_, fun g hg => ?_⟩, ?_⟩
  · rcases List.mem_append.1 hx with hx | hx
    · exact hh.own x hx
    · simp only [List.mem_singleton] at hx
      subst hx
      show RepOwn P w _ e xs v v.ownBlock
      rw [hb]
      exact hc.bare hs
  · rw [bks_app]
    refine List.nodup_append.2 ⟨hh.one, by simp only [bks, List.filterMap_cons, List.filterMap_nil]; split <;> simp, fun g hg g' hg' e => ?_⟩
    subst e
    obtain ⟨x, hx, hxb⟩ := bks_mem.1 hg'
    simp only [List.mem_singleton] at hx
    subst hx
    exact (hh.off g hg).2 (.inl ⟨_, hb.symm.trans hxb⟩)
  · rw [hl]
    rw [bks_app] at hg
    rcases List.mem_append.1 hg with hg | hg
    · obtain ⟨h3, h4⟩ := hh.off g hg
      exact ⟨fun h => h3 (hS g h), fun h => h4 (hX g h).1⟩
    · obtain ⟨x, hx, hxb⟩ := bks_mem.1 hg
      simp only [List.mem_singleton] at hx
      subst hx
      have hg2 : r.γ p = some g := hb.symm.trans hxb
      exact ⟨fun h => (hi.sh g (hS g h)).2.1 _ hg2, fun h => (hX g h).2 hg2⟩
  · rw [hl]
    refine ⟨rfl, rfl, rfl, Nat.le_refl _, fun _ _ _ => rfl, fun _ h => .inl h, fun g hg => .inl (hS g hg), fun g hg => .inl ?_, fun _ _ => rfl, rfl, fun _ _ h => h⟩
    rcases hg with hg | hg
    · exact .inl (hX g hg).1
    · rw [bks_app] at hg
      rcases List.mem_append.1 hg with hg | hg
      · exact .inr hg
      · obtain ⟨x, hx, hxb⟩ := bks_mem.1 hg
        simp only [List.mem_singleton] at hx
        subst hx
        exact .inl (.inl ⟨_, hb.symm.trans hxb⟩)
theorem Tri2.adopt {c : Code} (p : Place) {e : TypeId} {xs : List (List PC)} (hs : flatXs xs = true) (h : ∀ v : Value, v.oneCell' = true → Tri2 P c Q (st.setAt p (.sc v)) (ρ ++ [⟨v, e, xs⟩])) (hp : st.at p = some (.own e xs) := by kernel_rfl) : Tri2 P c Q st ρ := by
  intro a w r hi hh
  obtain ⟨v, h0, r', h1, h2, h3, h4⟩ := adopt_at hi hh hp hs
  refine Code.wp_mono (fun _ _ _ k => Post2.step h4 ?_) (h v h0 a w r' h2 h3)
  rw [h1] at k; exact k
theorem TriO2.adopt {ops : Array Oper} {l : List Oper} {Q : St → List Rw → Prop} (p : Place) {e : TypeId} {xs : List (List PC)} (hs : flatXs xs = true) (h : ∀ v : Value, v.oneCell' = true → TriO2 P ops l Q (st.setAt p (.sc v)) (ρ ++ [⟨v, e, xs⟩])) (hp : st.at p = some (.own e xs) := by kernel_rfl) : TriO2 P ops l Q st ρ := by
  intro a w r hi hh
  obtain ⟨v, h0, r', h1, h2, h3, h4⟩ := adopt_at hi hh hp hs
  refine wpList_mono (fun _ _ _ k => Post2.step h4 ?_) l a w (h v h0 a w r' h2 h3)
  rw [h1] at k; exact k
/-- A row told apart is owned again. -/
theorem focus_at (hi : Inv P st a w r) {t c : Nat} {x : Rw} {ρ1 ρ2 : List Rw} (hh : Held P w r st.bx.length (ρ1 ++ x :: ρ2)) (hp : st.at (.t t c) = some (.sc x.v)) :
    ∃ r', (st.setAt (.t t c) (.own x.e x.xs)).m = st.m ∧ Inv P (st.setAt (.t t c) (.own x.e x.xs)) a w r' ∧ Held P w r' (st.setAt (.t t c) (.own x.e x.xs)).bx.length (ρ1 ++ ρ2) ∧ Step2 st.m w r st.bx.length (ρ1 ++ x :: ρ2) w r' (st.setAt (.t t c) (.own x.e x.xs)).bx.length (ρ1 ++ ρ2) ∧ r'.Sh = r.Sh ∧ r'.κ = r.κ := by
  have hm : (st.setAt (.t t c) (.own x.e x.xs)).m = st.m := by simp only [St.setAt]; split <;> rfl
  have hn : (st.setAt (.t t c) (.own x.e x.xs)).n = st.n := by simp only [St.setAt]; split <;> rfl
  have hbx : (st.setAt (.t t c) (.own x.e x.xs)).bx = st.bx := by simp only [St.setAt]; split <;> rfl
  have hat := fun q => St.at_setAt (x := .own x.e x.xs) hp q
  have hc := hi.cell _ _ hp
  have hv : alpha a w r (.t t c) = x.v := by
    obtain ⟨_, hc⟩ := hc
    generalize alpha a w r (.t t c) = u at hc
    cases hc with
    | s h => cases h; rfl
  have hxo := hh.own x (by simp)
  have hmem : ∀ g, x.b = some g → g ∈ bks (ρ1 ++ x :: ρ2) := fun g hg => bks_mem.2 ⟨x, by simp, hg⟩
  let r' : Rs := { r with γ := fun q => if q = .t t c then x.b else r.γ q }
  have hal : alpha a w r' = alpha a w r := by funext q; cases q <;> rfl
  have hγ : ∀ q g, r'.γ q = some g → (q = .t t c ∧ x.b = some g) ∨ (q ≠ .t t c ∧ r.γ q = some g) := fun q g hq => by
    simp only [r'] at hq
    split at hq
    · exact .inl ⟨‹_›, hq⟩
    · exact .inr ⟨‹_›, hq⟩
  have hlive : ∀ q, (st.setAt (.t t c) (.own x.e x.xs)).lives q → st.lives q := by
    intro q ⟨z, h1, h2⟩
    rw [hat] at h1
    split at h1
    · rename_i e; subst e; exact ⟨_, hp, by intro h; cases h⟩
    · exact ⟨z, h1, h2⟩
  have hex : ∀ q, st.ex q → (st.setAt (.t t c) (.own x.e x.xs)).ex q := fun q he => by
    cases q with
    | t k d =>
      obtain ⟨pv, hk⟩ := he
      simp only [St.ex, St.setAt]
      split
      · rw [St.get_rep]
        split
        · exact ⟨_, rfl⟩
        · exact ⟨pv, hk⟩
      · exact ⟨pv, hk⟩
    | b b d => simp only [St.ex, hbx]; exact he
  have hX : ∀ g, r'.X st.bx.length g → r.X st.bx.length g ∨ x.b = some g := fun g hg => by
    rcases hg with ⟨q, hq⟩ | hb
    · rcases hγ q g hq with ⟨_, h⟩ | ⟨_, h⟩
      · exact .inr h
      · exact .inl (.inl ⟨q, h⟩)
    · exact .inl (.inr hb)
  refine ⟨r', hm, ⟨hi.sz.trans hn.symm, by rw [hm, hbx]; exact hi.m, fun k pv hk => ?_, by rw [hbx]; exact hi.bx, fun q y hq => ?_, fun q y z hq hz => ?_, fun q g hg => ?_, fun q q' g hq hq' => ?_, fun q g b hq hb => ?_, by rw [hbx]; exact hi.bb, fun g hg => ?_, hi.defers, hi.lw, by rw [St.setAt_fx]; exact hi.fx⟩, ?_, ?_, rfl, rfl⟩
  · obtain ⟨pv0, h1, h2, h3⟩ := St.get_setAt hk
    obtain ⟨v, h4, h5⟩ := hi.tm k pv0 h1
    exact ⟨v, h4, by rw [← h2, ← h3]; exact h5⟩
  · rw [hal]
    rw [hat] at hq
    by_cases e : q = .t t c
    · subst e
      rw [if_pos rfl] at hq; cases hq
      have : r'.γ (.t t c) = x.b := by simp [r']
      rw [this, hv]
      exact hxo.mono (fun _ h => h.elim) (fun _ h => h.elim) (fun _ _ => rfl)
    · rw [if_neg e] at hq
      have : r'.γ q = r.γ q := by simp [r', e]
      rw [this]
      exact (hi.cell q y hq).mono (fun _ h => h) (fun _ _ => rfl) (fun _ _ => rfl) (fun b hb => ⟨by rw [hbx]; exact hb, rfl⟩) (fun q' _ hq' => ⟨hlive q' hq', rfl⟩)
  · rw [hat] at hq
    split at hq
    · cases hq; cases hz
    · exact hex _ (hi.nm q y z hq hz)
  · rcases hγ q g hg with ⟨rfl, _⟩ | ⟨hne, h⟩
    · exact ⟨_, _, by rw [hat, if_pos rfl]⟩
    · obtain ⟨e', xs', h1⟩ := hi.live q g h
      exact ⟨e', xs', by rw [hat, if_neg hne]; exact h1⟩
  · rcases hγ q g hq with ⟨rfl, h1⟩ | ⟨hne, h1⟩ <;> rcases hγ q' g hq' with ⟨rfl, h2⟩ | ⟨hne', h2⟩
    · rfl
    · exact absurd (.inl ⟨_, h2⟩) (hh.off g (hmem g h1)).2
    · exact absurd (.inl ⟨_, h1⟩) (hh.off g (hmem g h2)).2
    · exact hi.inj _ _ g h1 h2
  · rw [hbx] at hb
    rcases hγ q g hq with ⟨rfl, h1⟩ | ⟨hne, h1⟩
    · exact fun he => (hh.off g (hmem g h1)).2 (.inr ⟨b, hb, he⟩)
    · exact hi.exb q g b h1 hb
  · obtain ⟨h1, h2, h3⟩ := hi.sh g hg
    refine ⟨h1, fun q hq => ?_, by rw [hbx]; exact h3⟩
    rcases hγ q g hq with ⟨rfl, h4⟩ | ⟨_, h4⟩
    · exact (hh.off g (hmem g h4)).1 hg
    · exact h2 q h4
  · have hsub : ∀ g, g ∈ bks (ρ1 ++ ρ2) → g ∈ bks (ρ1 ++ x :: ρ2) := fun g hg => by
      obtain ⟨y, hy, hyb⟩ := bks_mem.1 hg
      refine bks_mem.2 ⟨y, ?_, hyb⟩
      rcases List.mem_append.1 hy with h | h
      · exact List.mem_append_left _ h
      · exact List.mem_append_right _ (List.mem_cons_of_mem _ h)
    have hnd := hh.one
    have hd : ∀ g, x.b = some g → g ∉ bks (ρ1 ++ ρ2) := fun g hg hm2 => by
      rw [bks_app] at hnd hm2
      have e : bks (x :: ρ2) = g :: bks ρ2 := by simp only [bks, List.filterMap_cons, hg]
      rw [e] at hnd
      obtain ⟨_, h2, h3⟩ := List.nodup_append.1 hnd
      rcases List.mem_append.1 hm2 with h | h
      · exact h3 g h g (List.mem_cons_self ..) rfl
      · exact (List.nodup_cons.1 h2).1 h
    rw [hbx]
    refine ⟨fun y hy => hh.own y ?_, ?_, fun g hg => ⟨(hh.off g (hsub g hg)).1, fun h => ?_⟩⟩
    · rcases List.mem_append.1 hy with h | h
      · exact List.mem_append_left _ h
      · exact List.mem_append_right _ (List.mem_cons_of_mem _ h)
    · rw [bks_app] at hnd ⊢
      refine hnd.sublist (List.Sublist.append (List.Sublist.refl _) ?_)
      simp only [bks, List.filterMap_cons]
      split
      · exact List.Sublist.refl _
      · exact List.sublist_cons_self ..
    · rcases hX g h with h | h
      · exact (hh.off g (hsub g hg)).2 h
      · exact hd g h hg
  · rw [hbx]
    refine ⟨rfl, rfl, rfl, Nat.le_refl _, fun _ _ _ => rfl, fun _ h => h, fun g hg => .inl hg, fun g hg => .inl ?_, fun _ _ => rfl, rfl, fun _ _ h => h⟩
    rcases hg with hg | hg
    · rcases hX g hg with h | h
      · exact .inl h
      · exact .inr (hmem g h)
    · obtain ⟨y, hy, hyb⟩ := bks_mem.1 hg
      refine .inr (bks_mem.2 ⟨y, ?_, hyb⟩)
      rcases List.mem_append.1 hy with h | h
      · exact List.mem_append_left _ h
      · exact List.mem_append_right _ (List.mem_cons_of_mem _ h)
theorem Tri2.focus {c : Code} (t j : Nat) {x : Rw} {ρ1 ρ2 : List Rw} (h : Tri2 P c Q (st.setAt (.t t j) (.own x.e x.xs)) (ρ1 ++ ρ2)) (hp : st.at (.t t j) = some (.sc x.v) := by kernel_rfl) : Tri2 P c Q st (ρ1 ++ x :: ρ2) := by
  intro a w r hi hh
  obtain ⟨r', h1, h2, h3, h4, _⟩ := focus_at hi hh hp
  refine Code.wp_mono (fun _ _ _ k => Post2.step h4 ?_) (h a w r' h2 h3)
  rw [h1] at k; exact k
/-! Functions that take and give rows told apart. -/
def Fn2 (P : Program) (f : FuncId) (args : List PV) (ρa : List Rw) (R : PV → List Rw → Prop) : Prop :=
  ∀ (vals : Array Value) (w : World) (r : Rs), Inv P ⟨args.length, enum 0 args, [], 0, []⟩ ⟨vals, []⟩ w r → Held P w r 0 ρa →
    Calls P f vals w fun e w' => ∃ v r' res ρr, e = .returned v ∧ R res ρr ∧ Inv P ⟨1, [(0, res)], [], 0, []⟩ ⟨#[v], []⟩ w' r' ∧ Held P w' r' 0 ρr ∧ Step2 0 w r 0 ρa w' r' 0 ρr
theorem Fn2.fn {f : FuncId} {args : List PV} {res : PV} (h : Fn2 P f args [] fun res' _ => res' = res) : Fn P f args [] res [] := by
  intro vals w r hi
  refine (h vals w r hi Held.nil).mono fun e w' ⟨v, r', res', ρr, he, hR, h1, h2, h3⟩ => ?_
  subst hR
  refine ⟨v, r', he, h1, ⟨h3.os, h3.tape, h3.output, h3.size, fun g hg hx => h3.block g hg fun h => h.elim hx (fun h => by cases h), h3.sh, fun g hg => ?_, fun g hg => ?_, h3.β, h3.κ, h3.ty⟩⟩
  · rcases h3.shNew g hg with h | h | h
    · exact .inl h
    · exact .inr (.inl (h.elim id (fun h => by cases h)))
    · exact .inr (.inr h)
  · rcases h3.x g (.inl hg) with h | h
    · exact .inl (h.elim id (fun h => by cases h))
    · exact .inr h
/-- The start of a body. -/
theorem start_at {args : List PV} {n : Nat} {vals : Array Value} (hi : Inv P ⟨args.length, enum 0 args, [], 0, []⟩ ⟨vals, []⟩ w r) (hn : args.length ≤ n) : Inv P ⟨n, enum 0 args, [], 0, []⟩ ⟨vals ++ Array.replicate (n - vals.size) undef, []⟩ w r := by
  have hsz : vals.size = args.length := hi.sz
  have hal : ∀ p, (⟨args.length, enum 0 args, [], 0, []⟩ : St).ex p → alpha ⟨vals ++ Array.replicate (n - vals.size) undef, []⟩ w r p = alpha ⟨vals, []⟩ w r p := by
    intro p hp
    cases p with
    | t t c =>
      obtain ⟨pv, hp⟩ := hp
      obtain ⟨v, h1, _⟩ := hi.tm t pv hp
      have hlt : t < vals.size := (Array.getElem?_eq_some_iff.1 h1).1
      simp only [alpha, Array.getD_eq_getD_getElem?]
      rw [Array.getElem?_append_left hlt]
    | b b c => rfl
  have hex : ∀ p x, (⟨n, enum 0 args, [], 0, []⟩ : St).at p = some x → (⟨args.length, enum 0 args, [], 0, []⟩ : St).ex p := by
    intro p x hx
    cases p with
    | t t c => obtain ⟨pv, h1, _⟩ := St.at_tmp hx; exact ⟨pv, h1⟩
    | b b c => exact (St.at_box hx).1
  refine ⟨by simp; omega, Nat.le_refl _, fun t pv ht => ?_, hi.bx, fun p x hx => ?_, hi.nm, hi.live, hi.inj, hi.exb, hi.bb, hi.sh, rfl, hi.lw, fun _ h => by cases h⟩
  · obtain ⟨v, h1, h2⟩ := hi.tm t pv ht
    exact ⟨v, by rw [Array.getElem?_append_left (Array.getElem?_eq_some_iff.1 h1).1]; exact h1, h2⟩
  · rw [hal p (hex p x hx)]
    exact (hi.cell p x hx).mono (fun _ h => h) (fun _ _ => rfl) (fun _ _ => rfl) (fun b hb => ⟨hb, rfl⟩) (fun q hq hl => ⟨hl, hal q (hi.nm p x q hx hq)⟩)
/-- Behind a frame that shrinks. -/
theorem Held.less {w : World} {r r' : Rs} {nb nb' : Nat} {ρ : List Rw} (h : Held P w r nb ρ) (hS : r'.Sh = r.Sh) (hX : ∀ g, r'.X nb' g → r.X nb g) : Held P w r' nb' ρ :=
  ⟨h.own, h.one, fun g hg => ⟨fun h1 => (h.off g hg).1 (hS ▸ h1), fun h1 => (h.off g hg).2 (hX g h1)⟩⟩
theorem Step2.less {m : Nat} {w : World} {r r' : Rs} {nb nb' : Nat} {ρ : List Rw} (hS : r'.Sh = r.Sh) (hX : ∀ g, r'.X nb' g → r.X nb g) (hβ : ∀ b, b < m → r'.β b = r.β b) (hκ : r'.κ = r.κ) : Step2 m w r nb ρ w r' nb' ρ :=
  ⟨rfl, rfl, rfl, Nat.le_refl _, fun _ _ _ => rfl, fun g h => hS ▸ h, fun g h => .inl (hS ▸ h), fun g h => .inl (h.imp (hX g) id), hβ, hκ, fun _ _ h => h⟩
theorem Fn2.body {f : FuncId} {fn : Func} {c : Code} {args : List PV} {ρa : List Rw} {R : PV → List Rw → Prop} (t : Nat) (hf : P.funcs[f]? = some fn) (h : Tri2 P c (fun e st ρ => ∃ res, Ends [t] res [] e st ∧ R res ρ) ⟨fn.ntmps, enum 0 args, [], 0, []⟩ ρa) (hb : fn.body = some c := by rfl) (hres : fn.results = #[ResultVar.tmp t] := by rfl)
    (hn : Nat.ble args.length fn.ntmps = true := by rfl) : Fn2 P f args ρa R := by
  intro vals w r hi hh
  refine calls_of_wp hf hb ?_
  refine Code.wp_mono (fun e a' w' k => ?_) (h _ w r (start_at hi (Nat.le_of_ble_eq_true hn)) hh)
  obtain ⟨st', r', ρ', ⟨res, ⟨he, hr, hfr, hle, htake, hbf⟩, hR⟩, hm, hinv, hheld, hstep⟩ := k
  obtain ⟨r'', h1, h2, h3, h5, h4⟩ := hinv.leave hr (by simp) hle hfr (by simp)
  rw [htake] at h1
  have hrun := run_results (P := P) (fn := fn) (ts := [t]) hres (by simp) a'.tmps w'
  have hstep' := hstep.trans (Step2.less (m := 0) h2 h4 (fun b hb => by omega) h5)
  rcases he with rfl | rfl
  · exact ⟨hinv.defers, _, hrun, _, r'', res, ρ', rfl, hR, h1, hheld.less h2 h4, hstep'⟩
  · exact ⟨hinv.defers, _, hrun, _, r'', res, ρ', rfl, hR, h1, hheld.less h2 h4, hstep'⟩
/-- The result stands in a box. -/
theorem Fn2.bodyC {f : FuncId} {fn : Func} {c : Code} {args : List PV} {ρa : List Rw} {R : PV → List Rw → Prop} (t ty : Nat) (hf : P.funcs[f]? = some fn) (h : Tri2 P c (fun e st ρ => ∃ res, EndsC P t ty res e st ∧ R res ρ) ⟨fn.ntmps, enum 0 args, [], 0, []⟩ ρa) (hb : fn.body = some c := by rfl) (hres : fn.results = #[ResultVar.cell t ty] := by rfl)
    (hn : Nat.ble args.length fn.ntmps = true := by rfl) : Fn2 P f args ρa R := by
  intro vals w r hi hh
  refine calls_of_wp hf hb ?_
  refine Code.wp_mono (fun e a' w' k => ?_) (h _ w r (start_at hi (Nat.le_of_ble_eq_true hn)) hh)
  obtain ⟨st', r', ρ', ⟨res, ⟨he, ⟨b, off, hget⟩, hr, hno, htn0, hfr⟩, hR⟩, hm, hinv, hheld, hstep⟩ := k
  obtain ⟨⟨q0, pv0, hs0⟩, hr1, hr2⟩ := Option.map_eq_some_iff.1 hr
  simp only [Prod.mk.injEq] at hr2
  obtain ⟨rfl, rfl⟩ := hr2
  obtain ⟨v, hrun, hhas⟩ := evRd_spec hr1 trivial a' w' r' hinv
  have htn := St.okB_spec htn0
  have hA : ∃ A, a'.tmps.getD t undef = .pointer (some A) := by
    obtain ⟨h1, h2, _⟩ := (hinv.has hget).out
    have e2 : a'.eval (.tmp t) = a'.tmps.getD t undef := rfl
    rw [e2] at h2
    obtain ⟨_, h2⟩ := h2
    generalize a'.tmps.getD t undef = u at h2
    cases h2 with
    | ref h => exact ⟨_, rfl⟩
    | s h => cases h
  obtain ⟨A, hA⟩ := hA
  have hres' := run_resultsC hres hA hrun
  have h5 := hinv.assign_has htn hno hhas
  have hget' : (st'.assign t pv0).get t = some pv0 := by
    unfold St.assign
    split <;> (rw [St.get_put]; simp)
  obtain ⟨r'', h6, h7, h8, h8k, h9⟩ := h5.leave (ts := [t]) (res := pv0) hget' (by simp) (n := 0) (Nat.zero_le _) hfr (by simp)
  have hv : resV (a'.put (some t) v).tmps [t] = v := by
    have hlt : t < a'.tmps.size := by rw [hinv.sz]; exact htn.1
    simp [resV, Act.put, Array.getD_eq_getD_getElem?, hlt]
  rw [hv] at h6
  have hz : (st'.assign t pv0).bx.take 0 = [] := by simp
  rw [hz] at h6
  have hX : ∀ g, r''.X 0 g → r'.X st'.bx.length g := fun g hg => by
    have := h9 g hg
    rw [St.assign_bx] at this
    rcases this with ⟨p, hp⟩ | hb
    · cases p with
      | t k c =>
        simp only [Rs.setT, Rs.dropT] at hp
        split at hp
        · cases hp
        · split at hp
          · cases hp
          · exact .inl ⟨_, hp⟩
      | b b c =>
        simp only [Rs.setT, Rs.dropT, Place.isT] at hp
        exact .inl ⟨.b b c, by simpa using hp⟩
    · exact .inr hb
  have hstep' := hstep.trans (Step2.less (m := 0) h7 hX (fun b hb => by omega) h8k)
  rcases he with rfl | rfl
  · exact ⟨hinv.defers, _, hres', _, r'', pv0, ρ', rfl, hR, h6, hheld.less h7 hX, hstep'⟩
  · exact ⟨hinv.defers, _, hres', _, r'', pv0, ρ', rfl, hR, h6, hheld.less h7 hX, hstep'⟩
end
end Go.Proofs.YtoclajfeeebbbaaGreatDoor.E
