/- The engine, part Q: parts of results, cuts of rows and texts, structs, closures. Plain lemmas; no program. -/
import Derived.Test.YtaikjjlbfdkgmaaDoorEngP
set_option linter.unusedVariables false
set_option linter.unusedSectionVars false
set_option linter.unusedSimpArgs false
namespace Go.Proofs.YtaikjjlbfdkgmaaDoor.E
open Go.RowKit
variable [LaidFacts]

section
variable {P : Program} {st : St} {o : Oper}

def formT : Option Nat → Shape
  | none => .one
  | some _ => .agg
def cutPC (c : PC) (s : Nat) (xs : List (List PC)) (l h : Int) : Option PC :=
  match c with
  | .sl _ _ => some (.sl s ((xs.drop l.toNat).take (h - l).toNat))
  | .al p => some (.vw p l.toNat (h - l).toNat s)
  | .vw p 0 _ _ => some (.vw p l.toNat (h - l).toNat s)
  | _ => none
def sizeT : Option Nat → Nat
  | none => 1
  | some n => n
/-- Part i of several results: its form, where its cells begin. -/
def partT : List (Option Nat) → Nat → Option (Option Nat × Nat)
  | [], _ => none
  | s :: _, 0 => some (s, 0)
  | s :: l, i + 1 => (partT l i).map fun x => (x.1, sizeT s + x.2)

theorem size_cells {u : Value} (h : ∀ y ∈ u.cells, y.oneCell' = true) : u.cells.toList.length = sizeT (aggSize u) ∧ (aggSize u = none → u.oneCell' = true) := by
  cases u <;> simp [Value.cells, aggSize, sizeT, Value.oneCell'] at h ⊢

theorem partT_spec : ∀ (vs : List Value) (i : Nat) {s : Option Nat} {k : Nat}, (∀ x ∈ vs, ∀ y ∈ x.cells, y.oneCell' = true) → partT (vs.map aggSize) i = some (s, k) →
    ∃ u, vs[i]? = some u ∧ aggSize u = s ∧ (∀ y ∈ u.cells, y.oneCell' = true) ∧ ∀ c, c < sizeT s → (vs.flatMap fun v => v.cells.toList)[k + c]? = u.cells.toList[c]?
  | [], i, s, k, _, h => by simp [partT] at h
  | v :: vs, 0, s, k, h1, h => by
    simp only [List.map_cons, partT, Option.some.injEq, Prod.mk.injEq] at h
    obtain ⟨rfl, rfl⟩ := h
    have hv := h1 v (List.mem_cons_self ..)
    refine ⟨v, rfl, rfl, hv, fun c hc => ?_⟩
    simp only [List.flatMap_cons, Nat.zero_add]
    rw [List.getElem?_append_left (by rw [(size_cells hv).1]; exact hc)]
  | v :: vs, i + 1, s, k, h1, h => by
    simp only [List.map_cons, partT, Option.map_eq_some_iff] at h
    obtain ⟨⟨s', k'⟩, h2, h3⟩ := h
    simp only [Prod.mk.injEq] at h3
    obtain ⟨rfl, rfl⟩ := h3
    obtain ⟨u, h4, h5, h6, h7⟩ := partT_spec vs i (fun x hx => h1 x (List.mem_cons_of_mem _ hx)) h2
    have hv := h1 v (List.mem_cons_self ..)
    refine ⟨u, by simpa using h4, h5, h6, fun c hc => ?_⟩
    simp only [List.flatMap_cons]
    rw [List.getElem?_append_right (by rw [(size_cells hv).1]; omega), (size_cells hv).1, ← h7 c hc]
    congr 1
    omega

theorem Reads.extract {x : Operand} {i : Nat} {sh : List (Option Nat)} {cs : List PC} {s : Option Nat} {k : Nat} (ho : o.op = .extract x i) (hx : st.use x = some ⟨.tup sh, cs⟩) (hp : partT sh i = some (s, k)) (hle : k + sizeT s ≤ cs.length) :
    Reads P o st ⟨formT s, (cs.drop k).take (sizeT s)⟩ := fun a w r hi => by
  obtain ⟨⟨vs, hv, hfl, hsh, h1⟩, hc⟩ := hi.use hx
  obtain ⟨u, h2, h3, h4, h5⟩ := partT_spec vs.toList i (fun x hx => h1 x (by simpa using hx)) (by rw [← hsh]; exact hp)
  have hrun : (execOp a.eval o).run P w = .ok (.value u) w := by
    have : vs[i]? = some u := by simpa using h2
    simp [execOp, ho, hv, Instr.extract, this]
  obtain ⟨hs1, hs2⟩ := size_cells h4
  have hlen : ((cs.drop k).take (sizeT s)).length = sizeT s := by simp; omega
  have hflat : flat u = u.cells.toList := by
    cases u <;> first | rfl | (simp [aggSize] at h3; subst h3; simp [aggSize, Value.oneCell'] at hs2)
  refine ⟨u, hrun, ?_, fun c y hy => ?_⟩
  · rw [hlen]
    cases s with
    | none => exact ⟨rfl, hs2 h3⟩
    | some n =>
      cases u <;> simp only [aggSize] at h3 <;> try (cases h3; done)
      rename_i q
      simp only [Option.some.injEq] at h3
      exact ⟨q, rfl, h3, h4⟩
  · obtain ⟨hcl, hy⟩ := take_drop_at hy
    obtain ⟨h6, h7⟩ := hc (k + c) y hy
    refine ⟨?_, h7⟩
    have : (flat (a.eval x)).getD (k + c) undef = (flat u).getD c undef := by
      rw [hv, hflat, List.getD_eq_getElem?_getD, List.getD_eq_getElem?_getD]
      rw [← h5 c hcl]
      simp [flat]
    rw [← this]; exact h6

theorem run_sliceBound {k : IntKind} {i : Int} {y : Nat} {code : BoundsCode} (h0 : 0 ≤ i) (h1 : i ≤ y) (w : World) : (Instr.sliceBound (.int k i) y code).run P w = .ok i.toNat w := by
  simp [Instr.sliceBound, asIntOf, h0, h1]

/-- The bounds of a cut: the operands, what they come to. -/
def boundOf (st : St) (d : Nat) : Option Operand → Option (Int × Bool)
  | none => some (d, true)
  | some x => match one? (st.use x) with
    | some (.sc (.int _ i)) => some (i, false)
    | _ => none

theorem Reads.cutStr {t : TypeId} {x : Operand} {lo hi : Option Operand} {b : ByteArray} {l h : Int} {f g : Bool} (ho : o.op = .slice t x lo hi none) (ht : P.underlying t = some .string) (hx : st.use x = some ⟨.one, [.sc (.string b)]⟩) (hl : boundOf st 0 lo = some (l, f)) (hh : boundOf st b.size hi = some (h, g))
    (h0 : 0 ≤ l) (h1 : l ≤ h) (h2 : h ≤ (b.size : Int)) : Reads P o st ⟨.one, [.sc (.string (b.extract l.toNat h.toNat))]⟩ := fun a w r hi' => by
  have e1 := (hi'.use hx).out_sc
  refine ⟨_, ?_, Has.sc rfl⟩
  have hhb : (match hi.map a.eval with | some v => Instr.sliceBound v b.size BoundsCode.sliceAlen | none => pure b.size).run P w = .ok h.toNat w := by
    cases hi with
    | none => simp only [boundOf, Option.some.injEq, Prod.mk.injEq] at hh; obtain ⟨rfl, _⟩ := hh; simp
    | some y =>
      simp only [boundOf] at hh
      split at hh
      · rename_i k i hy
        simp only [Option.some.injEq, Prod.mk.injEq] at hh; obtain ⟨rfl, _⟩ := hh
        have e2 := (hi'.use (one?_eq hy)).out_sc
        simp only [Option.map_some, e2]
        exact run_sliceBound (by omega) h2 w
      · cases hh
  have hlb : (match lo.map a.eval with | some v => Instr.sliceBound v h.toNat BoundsCode.sliceB | none => pure 0).run P w = .ok l.toNat w := by
    cases lo with
    | none => simp only [boundOf, Option.some.injEq, Prod.mk.injEq] at hl; obtain ⟨rfl, _⟩ := hl; simp
    | some y =>
      simp only [boundOf] at hl
      split at hl
      · rename_i k i hy
        simp only [Option.some.injEq, Prod.mk.injEq] at hl; obtain ⟨rfl, _⟩ := hl
        have e2 := (hi'.use (one?_eq hy)).out_sc
        simp only [Option.map_some, e2]
        exact run_sliceBound h0 (by omega) w
      · cases hl
  have hb : (Instr.sliceBounds false b.size b.size (lo.map a.eval) (hi.map a.eval) none).run P w = .ok (l.toNat, h.toNat, b.size) w := by
    unfold Instr.sliceBounds
    simp only [Sem.run_bind, Sem.run_pure, Result.andThen_ok]
    have hhb' := hhb
    have hlb' := hlb
    cases hi <;> cases lo <;> simp_all
  have : Instr.sliceAt t (a.eval x) (lo.map a.eval) (hi.map a.eval) none = Instr.sliceAt t (.string b) (lo.map a.eval) (hi.map a.eval) none := by rw [e1]
  simp only [execOp, ho, Option.map_none, this]
  simp [Instr.sliceAt, run_underlying ht, Instr.slice, hb]

theorem Reads.cutRow {t e : TypeId} {x : Operand} {lo hi : Option Operand} {c d : PC} {s : Nat} {xs : List (List PC)} {l h : Int} {f g : Bool} (ho : o.op = .slice t x lo hi none) (ht : P.underlying t = some (.slice e)) (he : P.size? e = some s) (hx : st.use x = some ⟨.one, [c]⟩) (hr : St.row P st 4 c = some (s, xs))
    (hl : boundOf st 0 lo = some (l, f)) (hh : boundOf st xs.length hi = some (h, g)) (h0 : 0 ≤ l) (h1 : l ≤ h) (h2 : h ≤ (xs.length : Int))
    (hd : cutPC c s xs l h = some d) : Reads P o st ⟨.one, [d]⟩ := fun a w r hi' => by
  obtain ⟨hx1, hxc, hxn⟩ := (hi'.use hx).out
  obtain ⟨b, cp, hv, hcp, hb0⟩ := hi'.row 4 hxc hr
  have hhb : (match hi.map a.eval with | some v => Instr.sliceBound v cp BoundsCode.sliceAcap | none => pure xs.length).run P w = .ok h.toNat w := by
    cases hi with
    | none => simp only [boundOf, Option.some.injEq, Prod.mk.injEq] at hh; obtain ⟨rfl, _⟩ := hh; simp
    | some y =>
      simp only [boundOf] at hh
      split at hh
      · rename_i k i hy
        simp only [Option.some.injEq, Prod.mk.injEq] at hh; obtain ⟨rfl, _⟩ := hh
        have e2 := (hi'.use (one?_eq hy)).out_sc
        simp only [Option.map_some, e2]
        exact run_sliceBound (by omega) (by omega) w
      · cases hh
  have hlb : (match lo.map a.eval with | some v => Instr.sliceBound v h.toNat BoundsCode.sliceB | none => pure 0).run P w = .ok l.toNat w := by
    cases lo with
    | none => simp only [boundOf, Option.some.injEq, Prod.mk.injEq] at hl; obtain ⟨rfl, _⟩ := hl; simp
    | some y =>
      simp only [boundOf] at hl
      split at hl
      · rename_i k i hy
        simp only [Option.some.injEq, Prod.mk.injEq] at hl; obtain ⟨rfl, _⟩ := hl
        have e2 := (hi'.use (one?_eq hy)).out_sc
        simp only [Option.map_some, e2]
        exact run_sliceBound h0 (by omega) w
      · cases hl
  have hb : (Instr.sliceBounds true xs.length cp (lo.map a.eval) (hi.map a.eval) none).run P w = .ok (l.toNat, h.toNat, cp) w := by
    unfold Instr.sliceBounds
    simp only [Sem.run_bind, Sem.run_pure, Result.andThen_ok]
    have hhb' := hhb
    have hlb' := hlb
    cases hi <;> cases lo <;> simp_all
  have hrun : (execOp a.eval o).run P w = .ok (.value (vwVal (a.eval x) l.toNat (h - l).toNat s)) w := by
    have : Instr.sliceAt t (a.eval x) (lo.map a.eval) (hi.map a.eval) none = Instr.sliceAt t (.slice b xs.length cp) (lo.map a.eval) (hi.map a.eval) none := by rw [hv]
    simp only [execOp, ho, Option.map_none, this, hv]
    have hhl : (h - l).toNat = h.toNat - l.toNat := by omega
    simp [Instr.sliceAt, run_underlying ht, Instr.slice, hb, run_sizeOf he, vwVal, hhl]
  refine ⟨_, hrun, ?_⟩
  have hone : (vwVal (a.eval x) l.toNat (h - l).toNat s).oneCell' = true := by rw [hv]; rfl
  cases c <;> simp only [cutPC] at hd <;> try (cases hd; done)
  case sl s' xs' =>
    simp only [St.row, Option.some.injEq, Prod.mk.injEq] at hr
    obtain ⟨rfl, rfl⟩ := hr
    cases hd
    obtain ⟨_, hxc⟩ := hxc
    have hxs : RepS w r.Sh (.sl s' xs') (a.eval x) := by cases hxc with | s h => exact h
    exact Has.one hone ⟨rfl, .s (vw_rep hxs (by omega))⟩ (fun _ h => by simp [PC.names] at h)
  case al p =>
    cases hd
    exact Has.one hone ⟨rfl, fun hlv => by rw [← hxc.2 hlv]⟩ hxn
  case vw p lo' n' s' =>
    cases lo' with
    | succ k => simp at hd
    | zero =>
      simp only [Option.some.injEq] at hd
      subst hd
      have hss : s' = s := by
        simp only [St.row] at hr
        split at hr
        · split at hr
          · rename_i hcond
            simp only [Option.some.injEq, Prod.mk.injEq] at hr
            exact hr.1
          · cases hr
        · cases hr
      subst hss
      refine Has.one hone ⟨rfl, fun hlv => ?_⟩ hxn
      have := hxc.2 hlv
      rw [this]
      cases alpha a w r p <;> try rfl
      rename_i b' n' c'
      simp only [vwVal, Nat.zero_mul, Nat.sub_zero]
      congr 1
      have hadd : (if c' = 0 then b' else Option.map (fun x => x.add 0) b') = b' := by
        split
        · rfl
        · cases b' <;> simp [Addr.add]
      rw [hadd]

end
end Go.Proofs.YtaikjjlbfdkgmaaDoor.E
