/- The engine, part WA: contracts of functions that write boxes, and one row of their caller. Plain lemmas; no program. -/
import Derived.Test.YtaikjjlbfdkgmaaDoorEngW
set_option linter.unusedVariables false
set_option linter.unusedSectionVars false
set_option linter.unusedSimpArgs false
namespace Go.Proofs.YtaikjjlbfdkgmaaDoor.E
open Go.RowKit
variable [LaidFacts]

section
variable {P : Program} {st : St} {a : Act} {w : World} {r : Rs}

/-- A row cell that a callee keeps, as a value. -/
def kept (l : List PC) : List PV := l.map fun c => ⟨.one, [c]⟩

/-- WHAT A FUNCTION DOES, more generally: the arguments `keep` stay where they are, what they own may be written; behind the call they read `kcs`. -/
def FnG (P : Program) (f : FuncId) (args : List PV) (keep : List Nat) (bx : List (List PC)) (res : PV) (kcs : List PC) (bx' : List (List PC)) : Prop :=
  ∀ (vals : Array Value) (w : World) (r : Rs), Inv P ⟨args.length, enum 0 args, bx, bx.length, keep⟩ ⟨vals, []⟩ w r →
    Calls P f vals w fun e w' => ∃ v r', e = .returned v ∧ Inv P ⟨keep.length + 1, enum 0 (res :: kept kcs), bx', 0, []⟩ ⟨(v :: keep.map fun j => vals.getD j undef).toArray, []⟩ w' r' ∧ Step bx.length w r bx.length w' r' bx'.length

theorem Fn.g {f : FuncId} {args : List PV} {bx bx' : List (List PC)} {res : PV} (h : Fn P f args bx res bx') : FnG P f args [] bx res [] bx' := h
theorem FnG.fn {f : FuncId} {args : List PV} {bx bx' : List (List PC)} {res : PV} (h : FnG P f args [] bx res [] bx') : Fn P f args bx res bx' := h

/-! Behind a body: several outputs. -/
def Rs.leaveG (r : Rs) (st : St) (tss : List (List Nat)) (n : Nat) : Rs :=
  { Sh := r.Sh, β := r.β, κ := r.κ, γ := fun p => match p with
    | .t t c => ((placesOf st (tss.getD t []))[c]?).bind r.γ
    | .b b c => if b < n then r.γ (.b b c) else none }

theorem Inv.leaveG (h : Inv P st a w r) {tss : List (List Nat)} {pvs : List PV} (hr : mapO (resultsOf st) tss = some pvs) (hnd : tss.flatten.Nodup) {n : Nat} (hn : n ≤ st.bx.length) (hfree : pvs.all (fun pv => pv.cs.all (·.free n)) = true) (hbx : ∀ cs ∈ st.bx.take n, cs.all (·.free n) = true) :
    ∃ r', Inv P ⟨tss.length, enum 0 pvs, st.bx.take n, 0, []⟩ ⟨(tss.map (resV a.tmps)).toArray, []⟩ w r' ∧ r'.Sh = r.Sh ∧ r'.β = r.β ∧ r'.κ = r.κ ∧ ∀ g, r'.X n g → r.X st.bx.length g := by
  obtain ⟨hlen0, hat0⟩ := mapO_at hr
  have hlen : (st.bx.take n).length = n := by simp; omega
  let S : St := ⟨tss.length, enum 0 pvs, st.bx.take n, 0, []⟩
  have hget : ∀ t pv, S.get t = some pv → ∃ ts, tss[t]? = some ts ∧ pvs[t]? = some pv ∧ resultsOf st ts = some pv ∧ tss.getD t [] = ts := by
    intro t pv ht
    have h1 : pvs[t]? = some pv := by
      simp only [S, St.get, look_enum, Nat.zero_le, if_true, Nat.sub_zero] at ht
      exact ht
    obtain ⟨ts, h2, h3⟩ := hat0 t pv h1
    exact ⟨ts, h2, h1, h3, by simp [List.getD_eq_getElem?_getD, h2]⟩
  have hputget : ∀ t pv, pvs[t]? = some pv → S.get t = some pv := by
    intro t pv ht
    simp only [S, St.get, look_enum, Nat.zero_le, if_true, Nat.sub_zero]
    exact ht
  have hval : ∀ t ts, tss[t]? = some ts → ((tss.map (resV a.tmps)).toArray).getD t undef = resV a.tmps ts := by
    intro t ts ht
    simp [Array.getD_eq_getD_getElem?, ht]
  have hndt : ∀ (t : Nat) (ts : List Nat), tss[t]? = some ts → ts.Nodup := fun t ts ht => (List.pairwise_flatten.1 hnd).1 ts (List.mem_of_getElem? ht)
  have hdis : ∀ (t t' : Nat) (ts ts' : List Nat), tss[t]? = some ts → tss[t']? = some ts' → t < t' → ∀ x ∈ ts, x ∉ ts' := by
    intro t t' ts ts' ht ht' hlt x hx hx'
    obtain ⟨hl, e⟩ := List.getElem?_eq_some_iff.1 ht
    obtain ⟨hl', e'⟩ := List.getElem?_eq_some_iff.1 ht'
    subst e e'
    exact (List.pairwise_iff_getElem.1 (List.pairwise_flatten.1 hnd).2 t t' hl hl' hlt) x hx x hx' rfl
  have hbox : ∀ b cs, (st.bx.take n)[b]? = some cs → b < n ∧ st.bx[b]? = some cs := by
    intro b cs hb
    rw [List.getElem?_take] at hb
    split at hb
    · exact ⟨‹_›, hb⟩
    · cases hb
  have hat : ∀ p x, S.at p = some x → (∃ t c ts pv, p = .t t c ∧ tss[t]? = some ts ∧ pvs[t]? = some pv ∧ resultsOf st ts = some pv ∧ pv.cs[c]? = some x) ∨ (∃ b c, p = .b b c ∧ b < n ∧ st.at (.b b c) = some x) := by
    intro p x hp
    cases p with
    | t t c =>
      obtain ⟨pv, h1, h2⟩ := St.at_tmp hp
      obtain ⟨ts, h3, h4, h5, _⟩ := hget t pv h1
      exact .inl ⟨t, c, ts, pv, rfl, h3, h4, h5, h2⟩
    | b b c =>
      obtain ⟨_, cs, h1, h2⟩ := St.at_box hp
      obtain ⟨h3, h4⟩ := hbox b cs h1
      exact .inr ⟨b, c, rfl, h3, by simp [St.at, h4, h2]⟩
  have hfr : ∀ p x, S.at p = some x → x.free n = true := by
    intro p x hp
    rcases hat p x hp with ⟨t, c, ts, pv, _, _, h4, _, hx⟩ | ⟨b, c, rfl, hb, hx⟩
    · exact List.all_eq_true.1 (List.all_eq_true.1 hfree pv (List.mem_of_getElem? h4)) x (List.mem_of_getElem? hx)
    · obtain ⟨_, cs, h1, h2⟩ := St.at_box hx
      refine List.all_eq_true.1 (hbx cs ?_) x (List.mem_of_getElem? h2)
      exact List.mem_of_getElem? (by rw [List.getElem?_take, if_pos hb]; exact h1)
  have hγ : ∀ p g, (r.leaveG st tss n).γ p = some g → (∃ t c q ts, p = .t t c ∧ tss[t]? = some ts ∧ (placesOf st ts)[c]? = some q ∧ r.γ q = some g) ∨ (∃ b c, p = .b b c ∧ b < n ∧ r.γ (.b b c) = some g) := by
    intro p g hg
    cases p with
    | t t c =>
      simp only [Rs.leaveG] at hg
      obtain ⟨q, h1, h2⟩ := Option.bind_eq_some_iff.1 hg
      cases ht : tss[t]? with
      | none => rw [List.getD_eq_getElem?_getD, ht] at h1; simp [placesOf] at h1
      | some ts => rw [List.getD_eq_getElem?_getD, ht] at h1; exact .inl ⟨t, c, q, ts, rfl, ht, h1, h2⟩
    | b b c =>
      simp only [Rs.leaveG] at hg
      split at hg
      · exact .inr ⟨b, c, rfl, ‹_›, hg⟩
      · cases hg
  refine ⟨r.leaveG st tss n, ?_, rfl, rfl, rfl, ?_⟩
  · refine ⟨by simp, Nat.zero_le _, fun t pv ht => ?_, fun b cs hb => ?_, fun p x hp => ?_, fun p x q hp hq => ?_, fun p g hg => ?_, fun p q g hp hq => ?_, fun p g b hg hb => ?_, fun b b' hb hb' => h.bb b b' (by simp at hb; omega) (by simp at hb'; omega), fun g hg => ?_, rfl, h.lw, fun _ h => by cases h⟩
    · obtain ⟨ts, h1, h2, h3, _⟩ := hget t pv ht
      exact ⟨resV a.tmps ts, by simp [h1], (resultsOf_spec h ts h3).1⟩
    · exact h.bx b cs (hbox b cs hb).2
    · have hf := hfr p x hp
      rcases hat p x hp with ⟨t, c, ts, pv, rfl, h1, h2, h3, hx⟩ | ⟨b, c, rfl, hb, hx⟩
      · obtain ⟨_, hpl, hres⟩ := resultsOf_spec h ts h3
        obtain ⟨q, k1, k2, k3⟩ := hres c x hx
        have hg : (r.leaveG st tss n).γ (.t t c) = r.γ q := by simp [Rs.leaveG, List.getD_eq_getElem?_getD, h1, k1]
        show RepC P w _ _ _ x (alpha _ _ _ (.t t c)) _
        have ha : alpha ⟨(tss.map (resV a.tmps)).toArray, []⟩ w (r.leaveG st tss n) (.t t c) = (flat (resV a.tmps ts)).getD c undef := by simp only [alpha, hval t ts h1]
        rw [hg, ha, k3]
        exact (h.cell q x k2).free (by simpa [hlen] using hf) (fun _ h => h) (fun _ _ => rfl)
      · have hg : (r.leaveG st tss n).γ (.b b c) = r.γ (.b b c) := by simp [Rs.leaveG, hb]
        show RepC P w _ _ _ x (alpha a w r (.b b c)) _
        rw [hg]
        exact (h.cell _ x hx).free (by simpa [hlen] using hf) (fun _ h => h) (fun _ _ => rfl)
    · rw [free_names (hfr p x hp)] at hq; cases hq
    · rcases hγ p g hg with ⟨t, c, q, ts, rfl, h0, h1, h2⟩ | ⟨b, c, rfl, hb, h2⟩
      · obtain ⟨e, xs, hx⟩ := h.live q g h2
        obtain ⟨hl, e0⟩ := List.getElem?_eq_some_iff.1 h0
        have hpv : pvs[t]? = some (pvs[t]'(by omega)) := List.getElem?_eq_getElem _
        obtain ⟨ts', k1, k2⟩ := hat0 t _ hpv
        rw [h0] at k1; cases k1
        obtain ⟨_, hpl, hres⟩ := resultsOf_spec h _ k2
        have hc : c < (pvs[t]'(by omega)).cs.length := by rw [← hpl]; exact (List.getElem?_eq_some_iff.1 h1).1
        obtain ⟨q', h3, h4, _⟩ := hres c _ (List.getElem?_eq_getElem hc)
        rw [h1] at h3; cases h3
        rw [hx] at h4
        refine ⟨e, xs, ?_⟩
        show S.at (.t t c) = _
        simp only [St.at, hputget t _ hpv, Option.bind_some]
        rw [List.getElem?_eq_getElem hc]; exact h4.symm
      · obtain ⟨e, xs, hx⟩ := h.live _ g h2
        obtain ⟨_, cs, h3, h4⟩ := St.at_box hx
        exact ⟨e, xs, by simp only [St.at, List.getElem?_take, if_pos hb, h3, Option.bind_some]; exact h4⟩
    · rcases hγ p g hp with ⟨t, c, z, ts, rfl, h0, h1, h2⟩ | ⟨b, c, rfl, hb, h2⟩ <;> rcases hγ q g hq with ⟨t', c', z', ts', rfl, h0', h1', h2'⟩ | ⟨b', c', rfl, hb', h2'⟩
      · have := h.inj z z' g h2 h2'
        subst this
        rcases Nat.lt_trichotomy t t' with hlt | rfl | hlt
        · obtain ⟨x, cx, e1, m1⟩ := placesOf_mem (List.mem_of_getElem? h1)
          obtain ⟨x', cx', e2, m2⟩ := placesOf_mem (List.mem_of_getElem? h1')
          rw [e1] at e2; cases e2
          exact absurd m2 (hdis t t' ts ts' h0 h0' hlt x m1)
        · rw [h0] at h0'; cases h0'
          have := (List.getElem?_inj (List.getElem?_eq_some_iff.1 h1).1 (placesOf_nodup (hndt t ts h0))).1 (h1.trans h1'.symm)
          rw [this]
        · obtain ⟨x, cx, e1, m1⟩ := placesOf_mem (List.mem_of_getElem? h1)
          obtain ⟨x', cx', e2, m2⟩ := placesOf_mem (List.mem_of_getElem? h1')
          rw [e1] at e2; cases e2
          exact absurd m1 (hdis t' t ts' ts h0' h0 hlt x m2)
      · have := h.inj z _ g h2 h2'
        obtain ⟨t', c'', e, _⟩ := placesOf_mem (List.mem_of_getElem? h1)
        rw [e] at this; cases this
      · have := h.inj _ z' g h2 h2'
        obtain ⟨t', c'', e, _⟩ := placesOf_mem (List.mem_of_getElem? h1')
        rw [e] at this; cases this
      · exact h.inj _ _ g h2 h2'
    · have hb' : b < st.bx.length := by simp at hb; omega
      rcases hγ p g hg with ⟨t, c, z, ts, rfl, h0, h1, h2⟩ | ⟨b2, c, rfl, hb2, h2⟩
      · exact h.exb z g b h2 hb'
      · exact h.exb _ g b h2 hb'
    · obtain ⟨h1, h2, h3⟩ := h.sh g hg
      refine ⟨h1, fun p hp => ?_, fun b hb => h3 b (by simp at hb; omega)⟩
      rcases hγ p g hp with ⟨t, c, z, ts, rfl, _, h4, h5⟩ | ⟨b2, c, rfl, hb2, h5⟩
      · exact h2 z h5
      · exact h2 _ h5
  · intro g hg
    rcases hg with ⟨p, hp⟩ | ⟨b, hb, hbe⟩
    · rcases hγ p g hp with ⟨t, c, z, ts, rfl, _, h4, h5⟩ | ⟨b2, c, rfl, hb2, h5⟩
      · exact .inl ⟨z, h5⟩
      · exact .inl ⟨_, h5⟩
    · exact .inr ⟨b, by omega, hbe⟩

theorem flat1 : ∀ (l : List Nat), (l.map fun j => [j]).flatten = l
  | [] => rfl
  | x :: l => by simp [flat1 l]
theorem inB_mem {j : Nat} : ∀ {l : List Nat}, j ∈ l → inB j l = true
  | [], h => by cases h
  | x :: l, h => by
    simp only [inB]
    split
    · rfl
    · rename_i hb
      rcases List.mem_cons.1 h with rfl | h
      · rw [Nat.beq_refl] at hb; cases hb
      · exact inB_mem h

/-- What a body must end in: results, the kept rows, the boxes. -/
def EndsG (ts : List Nat) (keep : List Nat) (res : PV) (kcs : List PC) (bx' : List (List PC)) (e : Exit) (st' : St) : Prop :=
  (e = .normal ∨ e = .ret) ∧ mapO (resultsOf st') (ts :: keep.map fun j => [j]) = some (res :: kept kcs) ∧ (res :: kept kcs).all (fun pv => pv.cs.all (·.free bx'.length)) = true ∧ bx'.length ≤ st'.bx.length ∧ st'.bx.take bx'.length = bx' ∧ bx'.all (fun cs => cs.all (·.free bx'.length)) = true ∧ st'.fx = keep

theorem FnG.body {f : FuncId} {fn : Func} {c : Code} {args : List PV} {keep : List Nat} {kcs : List PC} {bx bx' : List (List PC)} {res : PV} {ts : List Nat} (hf : P.funcs[f]? = some fn) (hb : fn.body = some c) (hres : fn.results = (ts.map ResultVar.tmp).toArray) (hl : ts.length ≤ 4) (hnd : (ts ++ keep).Nodup)
    (hn : args.length ≤ fn.ntmps) (hk : keep.all (fun j => Nat.ble (j + 1) args.length) = true) (hbl : bx.length ≤ bx'.length) (h : Tri P c (EndsG ts keep res kcs bx') ⟨fn.ntmps, enum 0 args, bx, bx.length, keep⟩) : FnG P f args keep bx res kcs bx' := by
  intro vals w r hi
  have hsz : vals.size = args.length := hi.sz
  refine calls_of_wp hf hb ?_
  have hstart : Inv P ⟨fn.ntmps, enum 0 args, bx, bx.length, keep⟩ ⟨vals ++ Array.replicate (fn.ntmps - vals.size) undef, []⟩ w r := by
    have hal : ∀ p, (⟨args.length, enum 0 args, bx, bx.length, keep⟩ : St).ex p → alpha ⟨vals ++ Array.replicate (fn.ntmps - vals.size) undef, []⟩ w r p = alpha ⟨vals, []⟩ w r p := by
      intro p hp
      cases p with
      | t t c =>
        obtain ⟨pv, hp⟩ := hp
        obtain ⟨v, h1, _⟩ := hi.tm t pv hp
        have hlt : t < vals.size := (Array.getElem?_eq_some_iff.1 h1).1
        simp only [alpha, Array.getD_eq_getD_getElem?]
        rw [Array.getElem?_append_left hlt]
      | b b c => rfl
    have hex : ∀ p x, (⟨fn.ntmps, enum 0 args, bx, bx.length, keep⟩ : St).at p = some x → (⟨args.length, enum 0 args, bx, bx.length, keep⟩ : St).ex p := by
      intro p x hx
      cases p with
      | t t c => obtain ⟨pv, h1, _⟩ := St.at_tmp hx; exact ⟨pv, h1⟩
      | b b c => exact (St.at_box hx).1
    refine ⟨by simp; omega, Nat.le_refl _, fun t pv ht => ?_, hi.bx, fun p x hx => ?_, hi.nm, hi.live, hi.inj, hi.exb, hi.bb, hi.sh, rfl, hi.lw, fun t ht => ?_⟩
    · obtain ⟨v, h1, h2⟩ := hi.tm t pv ht
      exact ⟨v, by rw [Array.getElem?_append_left (Array.getElem?_eq_some_iff.1 h1).1]; exact h1, h2⟩
    · rw [hal p (hex p x hx)]
      exact (hi.cell p x hx).mono (fun _ h => h) (fun _ _ => rfl) (fun _ _ => rfl) (fun b hb => ⟨hb, rfl⟩) (fun q hq hl => ⟨hl, hal q (hi.nm p x q hx hq)⟩)
    · have h1 := hi.fx t ht
      show (vals ++ Array.replicate (fn.ntmps - vals.size) undef)[t]? = _
      rw [Array.getElem?_append_left (Array.getElem?_eq_some_iff.1 h1).1]; exact h1
  refine Code.wp_mono (fun e a' w' k => ?_) (h _ w r hstart)
  obtain ⟨st', r', ⟨he, hr, hfr, hle, htake, hbf, hfx⟩, hm, hinv, hstep⟩ := k
  obtain ⟨r'', h1, h2, h3, h5, h4⟩ := hinv.leaveG hr (by rw [List.flatten_cons, flat1]; exact hnd) hle hfr (by rw [htake]; exact fun cs hcs => List.all_eq_true.1 hbf cs hcs)
  rw [htake] at h1
  have hstep' : Step bx.length w r bx.length w' r'' bx'.length := by
    refine hstep.trans ⟨rfl, rfl, rfl, Nat.le_refl _, fun _ _ _ => rfl, fun g hg => h2 ▸ hg, fun g hg => .inl (h2 ▸ hg), fun g hg => .inl (h4 g hg), fun b _ => by rw [h3], h5⟩
  have hkeep : (ts :: keep.map fun j => [j]).map (resV a'.tmps) = resV a'.tmps ts :: keep.map fun j => vals.getD j undef := by
    simp only [List.map_cons, List.map_map, List.cons.injEq, true_and]
    refine List.map_congr_left fun j hj => ?_
    have hin : inB j keep = true := inB_mem hj
    have e1 : a'.tmps[j]? = some (r'.κ j) := hinv.fx j (by rw [hfx]; exact hin)
    have e2 : vals[j]? = some (r.κ j) := hi.fx j hin
    have e3 : r'.κ = r.κ := hstep.κ
    simp only [Function.comp_apply, resV, Array.getD_eq_getD_getElem?, e1, e2, e3]
  have hlen1 : (ts :: keep.map fun j => [j]).length = keep.length + 1 := by simp
  rw [hkeep, hlen1] at h1
  have hrun := run_results (P := P) hres hl a'.tmps w'
  rcases he with rfl | rfl
  · exact ⟨hinv.defers, _, hrun, _, r'', rfl, h1, hstep'⟩
  · exact ⟨hinv.defers, _, hrun, _, r'', rfl, h1, hstep'⟩

end
end Go.Proofs.YtaikjjlbfdkgmaaDoor.E
