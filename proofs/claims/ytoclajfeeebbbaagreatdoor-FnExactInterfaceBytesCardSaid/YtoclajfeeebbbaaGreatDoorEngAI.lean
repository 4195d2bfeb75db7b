/- The engine, part AI: rows told apart: calls; what is told apart is lent for a while, to be read. Plain lemmas; no program. -/
import Derived.Test.YtoclajfeeebbbaaGreatDoorEngAH
set_option linter.unusedVariables false
set_option linter.unusedSectionVars false
set_option linter.unusedSimpArgs false
namespace Go.Proofs.YtoclajfeeebbbaaGreatDoor.E
open Go.RowKit
variable [LaidFacts]
section
variable {P : Program} {st : St} {a : Act} {w : World} {r : Rs} {ρ : List Rw} {Q : Exit → St → List Rw → Prop}
/-- A call of a function that takes and gives rows told apart. -/
def callP (P : Program) (st : St) (o : Oper) (f : FuncId) (ns : List Nat) : Option (Nat × List PV) :=
  match o.op, o.guard, o.dst with
  | .call { callee := .value x, args := as, argTypes := ts }, none, some d => match st.use x, mapO st.use as.toList with
    | some ⟨.one, [y]⟩, some pvs => match calleeOf y with
      | some (f', []) => match Nat.beq f' f && okFn P f && st.okB d && (st.get d).isNone with
        | true => (passPVs (shX st) (pvs ++ ones []) ns).map fun args => (d, args)
        | false => none
      | _ => none
    | _, _ => none
  | _, _, _ => none
theorem mapO_map {α β : Type} {f : α → Option β} : ∀ {l : List α} {m : List β}, mapO f l = some m → l.map f = m.map some
  | [], m, h => by simp only [mapO, Option.some.injEq] at h; subst h; rfl
  | x :: l, m, h => by
    simp only [mapO] at h
    split at h
    · rename_i y m' h1 h2
      cases h
      rw [List.map_cons, List.map_cons, h1, mapO_map h2]
    · cases h
theorem callP_spec {o : Oper} {f : FuncId} {ns : List Nat} {d : Nat} {args : List PV} (h : callP P st o f ns = some (d, args)) :
    ∃ x as ts c pvs, o.op = .call { callee := .value x, args := as, argTypes := ts } ∧ o.guard = none ∧ o.dst = some d ∧ st.use x = some ⟨.one, [c]⟩ ∧ calleeOf c = some (f, []) ∧ okFn P f = true ∧ st.okd d ∧ st.get d = none ∧ as.toList.map st.use = pvs.map some ∧ passPVs (shX st) (pvs ++ ones []) ns = some args := by
  unfold callP at h
  split at h
  · rename_i x as ts d' ho hg hd
    split at h
    · rename_i y pvs hx hm
      split at h
      · rename_i f' hc
        split at h
        · rename_i hb
          obtain ⟨args', h1, h2⟩ := Option.map_eq_some_iff.1 h
          simp only [Prod.mk.injEq] at h2
          obtain ⟨rfl, rfl⟩ := h2
          simp only [Bool.and_eq_true] at hb
          obtain ⟨⟨⟨h3, h4⟩, h5⟩, h6⟩ := hb
          have h3 := Nat.eq_of_beq_eq_true h3
          subst h3
          exact ⟨x, as, ts, y, pvs, ho, hg, hd, hx, hc, h4, St.okB_spec h5, by simpa using h6, mapO_map hm, h1⟩
        · cases h
      · cases h
    · cases h
  · cases h
theorem TriO2.call {ops : Array Oper} {l : List Oper} {o : Oper} {Q : St → List Rw → Prop} {f : FuncId} {d : Nat} {args : List PV} {ρa ρ0 : List Rw} {R : PV → List Rw → Prop} (ns : List Nat) (hF : Fn2 P f args ρa R) (hR : ∀ res ρr, R res ρr → res.cs.all PC.scalar = true)
    (hy : ∀ res ρr, R res ρr → TriO2 P ops l Q (st.put d res) (ρr ++ ρ0)) (h : callP P st o f ns = some (d, args) := by kernel_rfl) : TriO2 P ops (o :: l) Q st (ρa ++ ρ0) := by
  intro a w r hi hh
  obtain ⟨x, as, ts, c, pvs, ho, hg, hd, hx, hc, hf, hod, hno, hu, hp⟩ := callP_spec h
  refine wpList_plain hg fun K hK => ?_
  obtain ⟨vs, hv, hn, hr⟩ := hi.calleeUse hx hc
  have hargs := call_args hi hu hp hn hr (Sc := r.Sh) (fun u y v hc h => ⟨(hi.shX hc h).1, (hi.shX hc h).2.1⟩) (fun g hg => (hi.sh g hg).1) (fun _ h => h)
  have hXc : ∀ g, ¬ (⟨r.Sh, r.β, fun _ => none, fun _ => undef⟩ : Rs).X 0 g := fun g hg => by
    rcases hg with ⟨p, hp⟩ | ⟨b, hb, _⟩
    · cases hp
    · omega
  have hona : ∀ g, g ∈ bks ρa → g ∈ bks (ρa ++ ρ0) := fun g hg => by rw [bks_app]; exact List.mem_append_left _ hg
  have hon0 : ∀ g, g ∈ bks ρ0 → g ∈ bks (ρa ++ ρ0) := fun g hg => by rw [bks_app]; exact List.mem_append_right _ hg
  have hnd := hh.one
  rw [bks_app] at hnd
  obtain ⟨nd1, nd2, nd3⟩ := List.nodup_append.1 hnd
  have hheld : Held P w ⟨r.Sh, r.β, fun _ => none, fun _ => undef⟩ 0 ρa := ⟨fun x hx => hh.own x (List.mem_append_left _ hx), nd1, fun g hg => ⟨(hh.off g (hona g hg)).1, hXc g⟩⟩
  have hcalls := hF _ w _ hargs hheld
  unfold Oper.wp
  rw [run_callV ho hv hf, Oper.upon_enter]
  refine hcalls.mono fun e w' ⟨v, r', res, ρr, he, hRr, hinv, hheld', hstep⟩ => ?_
  subst he
  have hsc := hR res ρr hRr
  have hw : ∀ g, g < w.heap.size → g ∉ bks ρa → w'.heap[g]? = w.heap[g]? := fun g hg hgn => hstep.block g hg fun hx => hx.elim (hXc g) hgn
  have hi' := hi.world (w' := w') (fun g hg => by
    rcases hg with hg | hg
    · exact hw g (hi.sh g hg).1 fun h => (hh.off g (hona g h)).1 hg
    · exact hw g (hi.X_lt hg) fun h => (hh.off g (hona g h)).2 hg) hstep.size hstep.ty
  obtain ⟨v', hv', hfit⟩ := hinv.tm 0 res rfl
  have : v' = v := by simpa using hv'.symm
  subst this
  have hput := hi'.put (t := d) (v := v') (pv := res) (γc := fun _ => none) hod hno (hi'.noNames hno) hfit (fun c x hx => by
    have hxs := List.all_eq_true.1 hsc x (List.mem_of_getElem? hx)
    refine ⟨fun q hq => ?_, ?_⟩
    · cases x <;> simp only [PC.scalar] at hxs <;> first | (cases hxs; done) | cases hq
    · have h3 := hinv.cell (.t 0 c) x (by simp [St.at, St.get, look, hx])
      have hxf : x.flatB = true := by cases x <;> simp only [PC.scalar] at hxs <;> first | (cases hxs; done) | rfl
      have h4 := flatB_rep (r' := r) (st' := st) (al' := alpha a w' r) hxf h3
      have h5 : r'.γ (.t 0 c) = none := h3.g_none (fun e xs he => by subst he; cases hxs)
      rw [h5] at h4
      exact h4) (fun c x q hx hq => by
    have hxs := List.all_eq_true.1 hsc x (List.mem_of_getElem? hx)
    cases x <;> simp only [PC.scalar] at hxs <;> first | (cases hxs; done) | cases hq) (fun _ _ h => by cases h) (fun _ _ _ h => by cases h)
  have hX' : ∀ g, (r.setT d fun _ => none).X st.bx.length g → r.X st.bx.length g := fun g hg => by
    rcases hg with ⟨q, hq⟩ | hb
    · cases q with
      | t k c =>
        simp only [Rs.setT] at hq
        split at hq
        · cases hq
        · exact .inl ⟨_, hq⟩
      | b b c => exact .inl ⟨_, hq⟩
    · exact .inr hb
  have hnew : ∀ g, g ∈ bks ρr → g ∈ bks ρa ∨ w.heap.size ≤ g := fun g hg => by
    rcases hstep.x g (.inr hg) with h | h
    · exact h.elim (fun h => absurd h (hXc g)) .inl
    · exact .inr h
  have hheld2 : Held P w' (r.setT d fun _ => none) st.bx.length (ρr ++ ρ0) := by
    refine ⟨fun x hx => ?_, ?_, fun g hg => ?_⟩
    · rcases List.mem_append.1 hx with hx | hx
      · exact hheld'.own x hx
      · exact (hh.own x (List.mem_append_right _ hx)).mono (fun _ h => h) (fun _ h => h.elim) fun k hk => by
          have hk0 : k ∈ bks ρ0 := bks_mem.2 ⟨x, hx, hk⟩
          exact hw k (hh.lt (hon0 k hk0)) fun h => nd3 k h k hk0 rfl
    · rw [bks_app]
      refine List.nodup_append.2 ⟨hheld'.one, nd2, fun g hg g' hg' e => ?_⟩
      subst e
      rcases hnew g hg with h | h
      · exact nd3 g h g hg' rfl
      · have := hh.lt (hon0 g hg'); omega
    · have key : ∀ g, (g ∈ bks (ρa ++ ρ0) ∨ w.heap.size ≤ g) → ¬ r.Sh g ∧ ¬ (r.setT d fun _ => none).X st.bx.length g := fun g hg => by
        rcases hg with hg | hg
        · exact ⟨(hh.off g hg).1, fun h => (hh.off g hg).2 (hX' g h)⟩
        · exact ⟨fun h => by have := (hi.sh g h).1; omega, fun h => by have := hi.X_lt (hX' g h); omega⟩
      rw [bks_app] at hg
      rcases List.mem_append.1 hg with hg | hg
      · exact key g ((hnew g hg).imp (hona g) id)
      · exact key g (.inl (hon0 g hg))
  have hstep2 : Step2 st.m w r st.bx.length (ρa ++ ρ0) w' (r.setT d fun _ => none) st.bx.length (ρr ++ ρ0) := by
    refine ⟨hstep.os, hstep.tape, hstep.output, hstep.size, fun g hg hx => hw g hg fun h => hx (.inr (hona g h)), fun _ h => h, fun _ h => .inl h, fun g hg => ?_, fun _ _ => rfl, rfl, hstep.ty⟩
    rcases hg with hg | hg
    · exact .inl (.inl (hX' g hg))
    · rw [bks_app] at hg
      rcases List.mem_append.1 hg with hg | hg
      · exact (hnew g hg).imp (fun h => .inr (hona g h)) id
      · exact .inl (.inr (hon0 g hg))
  rw [hd]
  exact hK _ _ (wpList_mono (fun _ _ _ k => Post2.step hstep2 k) l _ w' (hy res ρr hRr _ w' _ hput hheld2))
/-- A function that writes a row of its first argument's; what it leaves there is let go. -/
theorem Fn2.ofG {f : FuncId} {u : Value} {e : TypeId} {ys : List (List PC)} {rest : List PV} {res : PV} {kcs : List PC} (h : FnG P f (⟨.one, [.own e ys]⟩ :: rest) [0] [] res kcs []) (hflat : res.cs.all PC.flatB = true) :
    Fn2 P f (⟨.one, [.sc u]⟩ :: rest) [⟨u, e, ys⟩] (fun res' ρ' => res' = res ∧ ρ' = []) := by
  intro vals w r hi hh
  obtain ⟨r1, h1, h2, h3, h4, h5, h6⟩ := focus_at (ρ1 := []) (ρ2 := []) (t := 0) (c := 0) (x := ⟨u, e, ys⟩) hi hh rfl
  have h2' : Inv P ⟨(⟨.one, [.own e ys]⟩ :: rest).length, enum 0 (⟨.one, [.own e ys]⟩ :: rest), [], 0, [0]⟩ ⟨vals, []⟩ w { r1 with κ := fun t => vals.getD t undef } := by
    have hs : (⟨(⟨.one, [.sc u]⟩ :: rest).length, enum 0 (⟨.one, [.sc u]⟩ :: rest), [], 0, []⟩ : St).setAt (.t 0 0) (.own e ys) = ⟨(⟨.one, [.own e ys]⟩ :: rest).length, enum 0 (⟨.one, [.own e ys]⟩ :: rest), [], 0, []⟩ := by
      simp [St.setAt, St.get, enum, look, St.rep, setL]
    rw [hs] at h2
    have hal : alpha ⟨vals, []⟩ w { r1 with κ := fun t => vals.getD t undef } = alpha ⟨vals, []⟩ w r1 := by funext q; cases q <;> rfl
    refine ⟨h2.sz, h2.m, h2.tm, h2.bx, fun p x hx => ?_, h2.nm, h2.live, h2.inj, h2.exb, h2.bb, h2.sh, h2.defers, h2.lw, fun t ht => ?_⟩
    · rw [hal]
      exact (h2.cell p x hx).mono (fun _ h => h) (fun _ _ => rfl) (fun _ _ => rfl) (fun b hb => ⟨hb, rfl⟩) (fun q _ hq => ⟨hq, rfl⟩)
    · have ht0 : t = 0 := by simpa using inB_spec ht
      subst ht0
      obtain ⟨v, hv, _⟩ := h2.tm 0 ⟨.one, [.own e ys]⟩ rfl
      have hv : vals[0]? = some v := hv
      show vals[0]? = some (vals.getD 0 undef)
      simp [Array.getD_eq_getD_getElem?, hv]
  refine (h vals w _ h2').mono fun e' w' ⟨v, r2, he, hinv, hstep⟩ => ?_
  have hres : resultsOf (⟨1 + 1, enum 0 (res :: kept kcs), [], 0, []⟩ : St) [0] = some res := rfl
  obtain ⟨r3, g1, g2, g3, g4, g5⟩ := hinv.leave hres (by simp) (n := 0) (Nat.zero_le _) (List.all_eq_true.2 fun x hx => flatB_free x (List.all_eq_true.1 hflat x hx)) (by simp)
  have hX1 : ∀ g, r1.X 0 g → X2 r 0 [⟨u, e, ys⟩] g := fun g hg => (h4.x g (.inl hg)).elim id (fun h => .inl (by
    have hr1 : r1.X 0 g := hg
    have := h2.X_lt (g := g) hr1
    omega))
  have g1' : Inv P ⟨1, [(0, res)], [], 0, []⟩ ⟨#[v], []⟩ w' { r3 with κ := r.κ } := by
    have hz : resV ((v :: ([0] : List Nat).map fun j => vals.getD j undef).toArray) [0] = v := rfl
    have hzz : Inv P ⟨1, [(0, res)], [], 0, []⟩ ⟨#[v], []⟩ w' r3 := g1
    have hal : alpha ⟨#[v], []⟩ w' { r3 with κ := r.κ } = alpha ⟨#[v], []⟩ w' r3 := by funext q; cases q <;> rfl
    refine ⟨hzz.sz, hzz.m, hzz.tm, hzz.bx, fun p x hx => ?_, hzz.nm, hzz.live, hzz.inj, hzz.exb, hzz.bb, hzz.sh, hzz.defers, hzz.lw, fun _ h => by cases h⟩
    rw [hal]
    exact (hzz.cell p x hx).mono (fun _ h => h) (fun _ _ => rfl) (fun _ _ => rfl) (fun b hb => ⟨hb, rfl⟩) (fun q _ hq => ⟨hq, rfl⟩)
  refine ⟨v, { r3 with κ := r.κ }, res, [], he, ⟨rfl, rfl⟩, g1', Held.nil, ⟨hstep.os, hstep.tape, hstep.output, hstep.size, fun g hg hx => hstep.block g hg fun h => hx (hX1 g h), fun g hg => ?_, fun g hg => ?_, fun g hg => ?_, fun b hb => by omega, rfl, hstep.ty⟩⟩
  · show r3.Sh g
    rw [g2]; exact hstep.sh g (show r1.Sh g from h5 ▸ hg)
  · have hg : r3.Sh g := hg
    rw [g2] at hg
    rcases hstep.shNew g hg with h | h | h
    · exact .inl (h5 ▸ (show r1.Sh g from h))
    · exact .inr (.inl (hX1 g h))
    · exact .inr (.inr h)
  · rcases hg with hg | hg
    · rcases hstep.x g (g5 g hg) with h | h
      · exact .inl (hX1 g h)
      · exact .inr h
    · cases hg
end
end Go.Proofs.YtoclajfeeebbbaaGreatDoor.E
