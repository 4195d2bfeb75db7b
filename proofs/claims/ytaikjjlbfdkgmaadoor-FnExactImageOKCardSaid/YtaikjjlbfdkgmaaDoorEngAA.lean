/- The engine, part AA: a result that stands in a box; rows made; rows frozen for all that name them. Plain lemmas; no program. -/
import Derived.Test.YtaikjjlbfdkgmaaDoorEngZ
set_option linter.unusedVariables false
set_option linter.unusedSectionVars false
set_option linter.unusedSimpArgs false
namespace Go.Proofs.YtaikjjlbfdkgmaaDoor.E
open Go.RowKit
variable [LaidFacts]

section
variable {P : Program}

def ldOp (t ty : Nat) : Oper := { dst := some t, op := .load ty (.tmp t), type := ty, pos := "", after := #[], guard := none }

def EndsC (P : Program) (t ty : Nat) (res : PV) (e : Exit) (st' : St) : Prop :=
  (e = .normal ∨ e = .ret) ∧ (∃ b off, st'.get t = some ⟨.one, [.ref b off]⟩) ∧ (evRd P st' [] (ldOp t ty)).map (fun x => (x.1, x.2.1)) = some ([], res) ∧ noNameB t res = true ∧ st'.okB t = true ∧ res.cs.all (·.free 0) = true

theorem run_resultsC {fn : Func} {t ty : Nat} (h : fn.results = #[ResultVar.cell t ty]) {a : Act} {w : World} {v : Value} {A : Addr} (hA : a.tmps.getD t undef = .pointer (some A)) (hl : (execOp a.eval (ldOp t ty)).run P w = .ok (.value v) w) : (results fn a.tmps).run P w = .ok v w := by
  have h1 : (Instr.loadAt ty (a.tmps.getD t undef)).run P w = .ok v w := by
    have e : (execOp a.eval (ldOp t ty)) = (do pure (.value (← Instr.loadAt ty (a.eval (.tmp t))))) := rfl
    rw [e] at hl
    have e2 : a.eval (.tmp t) = a.tmps.getD t undef := rfl
    rw [e2] at hl
    simp only [Sem.run_bind] at hl
    generalize (Instr.loadAt ty (a.tmps.getD t undef)).run P w = x at hl ⊢
    cases x with
    | ok u w' =>
      simp only [Result.andThen_ok, Sem.run_pure, Result.ok.injEq, Next.value.injEq] at hl
      rw [hl.1, hl.2]
    | halt x w' => simp [Result.andThen] at hl
  rw [hA] at h1
  have h2 : (loadVar ty A).run P w = .ok v w := by
    simpa [Instr.loadAt, Instr.sureAddr] using h1
  have hA' : a.tmps[t]?.getD undef = .pointer (some A) := by rw [← hA, Array.getD_eq_getD_getElem?]
  simp [results, h, hA', asAddr, h2]

theorem Fn.bodyC {f : FuncId} {fn : Func} {c : Code} {args : List PV} {res : PV} {t ty : Nat} (hf : P.funcs[f]? = some fn) (hb : fn.body = some c) (hres : fn.results = #[ResultVar.cell t ty])
    (hn : args.length ≤ fn.ntmps) (h : Tri P c (EndsC P t ty res) ⟨fn.ntmps, enum 0 args, [], 0, []⟩) : Fn P f args [] res [] := by
  intro vals w r hi
  have hsz : vals.size = args.length := hi.sz
  refine calls_of_wp hf hb ?_
  have hstart : Inv P ⟨fn.ntmps, enum 0 args, [], 0, []⟩ ⟨vals ++ Array.replicate (fn.ntmps - vals.size) undef, []⟩ w r := by
    have hal : ∀ p, (⟨args.length, enum 0 args, [], 0, []⟩ : St).ex p → alpha ⟨vals ++ Array.replicate (fn.ntmps - vals.size) undef, []⟩ w r p = alpha ⟨vals, []⟩ w r p := by
      intro p hp
      cases p with
      | t t c =>
        obtain ⟨pv, hp⟩ := hp
        obtain ⟨v, h1, _⟩ := hi.tm t pv hp
        have hlt : t < vals.size := (Array.getElem?_eq_some_iff.1 h1).1
        simp only [alpha, Array.getD_eq_getD_getElem?]
        rw [Array.getElem?_append_left hlt]
      | b b c => rfl
    have hex : ∀ p x, (⟨fn.ntmps, enum 0 args, [], 0, []⟩ : St).at p = some x → (⟨args.length, enum 0 args, [], 0, []⟩ : St).ex p := by
      intro p x hx
      cases p with
      | t t c => obtain ⟨pv, h1, _⟩ := St.at_tmp hx; exact ⟨pv, h1⟩
      | b b c => exact (St.at_box hx).1
    refine ⟨by simp; omega, Nat.le_refl _, fun t pv ht => ?_, hi.bx, fun p x hx => ?_, hi.nm, hi.live, hi.inj, hi.exb, hi.bb, hi.sh, rfl, hi.lw, fun _ h => by cases h⟩
    · obtain ⟨v, h1, h2⟩ := hi.tm t pv ht
      exact ⟨v, by rw [Array.getElem?_append_left (Array.getElem?_eq_some_iff.1 h1).1]; exact h1, h2⟩
    · rw [hal p (hex p x hx)]
      exact (hi.cell p x hx).mono (fun _ h => h) (fun _ _ => rfl) (fun _ _ => rfl) (fun b hb => ⟨hb, rfl⟩) (fun q hq hl => ⟨hl, hal q (hi.nm p x q hx hq)⟩)
  refine Code.wp_mono (fun e a' w' k => ?_) (h _ w r hstart)
  obtain ⟨st', r', ⟨he, ⟨b, off, hget⟩, hr, hno, htn0, hfr⟩, hm, hinv, hstep⟩ := k
  obtain ⟨⟨q0, pv0, hs0⟩, hr1, hr2⟩ := Option.map_eq_some_iff.1 hr
  simp only [Prod.mk.injEq] at hr2
  obtain ⟨rfl, rfl⟩ := hr2
  obtain ⟨v, hrun, hhas⟩ := evRd_spec hr1 trivial a' w' r' hinv
  have htn := St.okB_spec htn0
  have hA : ∃ A, a'.tmps.getD t undef = .pointer (some A) := by
    obtain ⟨h1, h2, _⟩ := (hinv.has hget).out
    have e2 : a'.eval (.tmp t) = a'.tmps.getD t undef := rfl
    rw [e2] at h2
    obtain ⟨_, h2⟩ := h2
    generalize a'.tmps.getD t undef = u at h2
    cases h2 with
    | ref h => exact ⟨_, rfl⟩
    | s h => cases h
  obtain ⟨A, hA⟩ := hA
  have hres' := run_resultsC hres hA hrun
  have h5 := hinv.assign_has htn hno hhas
  have hget' : (st'.assign t pv0).get t = some pv0 := by
    unfold St.assign
    split <;> (rw [St.get_put]; simp)
  obtain ⟨r'', h6, h7, h8, h8k, h9⟩ := h5.leave (ts := [t]) (res := pv0) hget' (by simp) (n := 0) (Nat.zero_le _) hfr (by simp)
  have hv : resV (a'.put (some t) v).tmps [t] = v := by
    have hlt : t < a'.tmps.size := by rw [hinv.sz]; exact htn.1
    simp [resV, Act.put, Array.getD_eq_getD_getElem?, hlt]
  rw [hv] at h6
  have hz : (st'.assign t pv0).bx.take 0 = [] := by simp
  rw [hz] at h6
  have hstep0 : Step 0 w r 0 w' r' st'.bx.length := hstep
  have hstep' : Step 0 w r 0 w' r'' 0 := by
    refine hstep0.trans ⟨rfl, rfl, rfl, Nat.le_refl _, fun _ _ _ => rfl, fun g hg => h7 ▸ hg, fun g hg => .inl (h7 ▸ hg), fun g hg => .inl ?_, fun b hb => by omega, h8k⟩
    have := h9 g hg
    rw [St.assign_bx] at this
    rcases this with ⟨p, hp⟩ | hb
    · cases p with
      | t k c =>
        simp only [Rs.setT, Rs.dropT] at hp
        split at hp
        · cases hp
        · split at hp
          · cases hp
          · exact .inl ⟨_, hp⟩
      | b b c =>
        simp only [Rs.setT, Rs.dropT, Place.isT] at hp
        exact .inl ⟨.b b c, by simpa using hp⟩
    · exact .inr hb
  have h10 : Inv P ⟨1, [(0, pv0)], [], 0, []⟩ ⟨#[v], []⟩ w' r'' := h6
  rcases he with rfl | rfl
  · exact ⟨hinv.defers, _, hres', _, r'', rfl, h10, hstep'⟩
  · exact ⟨hinv.defers, _, hres', _, r'', rfl, h10, hstep'⟩

end
/-- The end of a body with boxes. -/
theorem endsG {ts keep : List Nat} {res : PV} {kcs : List PC} {bx' : List (List PC)} {e : Exit} {st' : St} (he : e = .normal ∨ e = .ret) (h : (mapO (resultsOf st') (ts :: keep.map fun j => [j]), (res :: kept kcs).all (fun pv => pv.cs.all (·.free bx'.length)), Nat.ble bx'.length st'.bx.length, st'.bx.take bx'.length, bx'.all (fun cs => cs.all (·.free bx'.length)), st'.fx) = (some (res :: kept kcs), true, true, bx', true, keep)) : EndsG ts keep res kcs bx' e st' := by
  simp only [Prod.mk.injEq] at h
  obtain ⟨h1, h2, h3, h4, h5, h6⟩ := h
  exact ⟨he, h1, h2, Nat.le_of_ble_eq_true h3, h4, h5, h6⟩
end Go.Proofs.YtaikjjlbfdkgmaaDoor.E
