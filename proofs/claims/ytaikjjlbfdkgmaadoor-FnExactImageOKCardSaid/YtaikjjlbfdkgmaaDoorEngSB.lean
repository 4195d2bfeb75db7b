/- The engine, part SB: a struct built of parts. Plain lemmas; no program. -/
import Derived.Test.YtaikjjlbfdkgmaaDoorEngS
import Derived.Laws.Tables
set_option linter.unusedVariables false
set_option linter.unusedSectionVars false
set_option linter.unusedSimpArgs false
namespace Go.Proofs.YtaikjjlbfdkgmaaDoor.E
open Go.RowKit
variable [LaidFacts]

def fillPC (places : List (Nat × Nat)) : List PC → List (Nat × PV) → Option (List PC)
  | cs, [] => some cs
  | cs, (i, pv) :: l => match places[i]? with
    | some (off, s) => match notTup pv.sh && Nat.beq pv.cs.length s && Nat.ble (off + s) cs.length with
      | true => fillPC places (put3 cs off pv.cs) l
      | false => none
    | none => none
def usesP (st : St) : List (Nat × Operand) → Option (List (Nat × PV))
  | [] => some []
  | (i, x) :: l => match st.use x, usesP st l with
    | some pv, some ps => some ((i, pv) :: ps)
    | _, _ => none
def placesP (P : Program) : List Field → Option (List (Nat × Nat))
  | [] => some []
  | f :: l => match P.size? f.type, placesP P l with
    | some s, some r => some ((f.offset, s) :: r)
    | _, _ => none

section
variable {P : Program} {st : St} {a : Act} {w : World} {r : Rs}

theorem placesP_spec : ∀ {fs : List Field} {pl : List (Nat × Nat)}, placesP P fs = some pl → fs.mapM (fun f => (P.info? f.type).map fun i => (f.offset, i.size)) = some pl
  | [], pl, h => by simp only [placesP, Option.some.injEq] at h; subst h; rfl
  | f :: l, pl, h => by
    simp only [placesP] at h
    split at h
    · rename_i s r' h1 h2
      simp only [Option.some.injEq] at h
      subst h
      obtain ⟨i, hi, rfl⟩ := Option.map_eq_some_iff.1 h1
      simp only [List.mapM_cons, hi, placesP_spec h2, Option.map_some, Option.bind_eq_bind, Option.bind_some, Option.pure_def]
    · cases h

theorem fill_rep (hi : Inv P st a w r) {places : List (Nat × Nat)} : ∀ {parts : List (Nat × Operand)} {ps : List (Nat × PV)} {cs0 cs : List PC} {cells0 : Array Value}, usesP st parts = some ps → fillPC places cs0 ps = some cs → cells0.size = cs0.length →
    (∀ v ∈ cells0, v.oneCell' = true) → (∀ (c : Nat) (x : PC), cs0[c]? = some x → RepC P w r st (alpha a w r) x (cells0.toList.getD c undef) none ∧ ∀ q, x.names = some q → st.ex q) →
    ∃ cells, Instr.fill (places[·]?) cells0 (parts.map fun x => (x.1, a.eval x.2)) = some cells ∧ cells.size = cs.length ∧ (∀ v ∈ cells, v.oneCell' = true) ∧
      ∀ (c : Nat) (x : PC), cs[c]? = some x → RepC P w r st (alpha a w r) x (cells.toList.getD c undef) none ∧ ∀ q, x.names = some q → st.ex q
  | [], ps, cs0, cs, cells0, hu, hf, hsz, h1, hr => by
    simp only [usesP, Option.some.injEq] at hu
    subst hu
    simp only [fillPC, Option.some.injEq] at hf
    subst hf
    exact ⟨cells0, rfl, hsz, h1, hr⟩
  | (i, x) :: l, ps, cs0, cs, cells0, hu, hf, hsz, h1, hr => by
    simp only [usesP] at hu
    split at hu
    · rename_i pv ps' hx hl
      simp only [Option.some.injEq] at hu
      subst hu
      simp only [fillPC] at hf
      split at hf
      · rename_i off s hpl
        split at hf
        · rename_i hc
          simp only [Bool.and_eq_true] at hc
          obtain ⟨⟨k1, k2⟩, k3⟩ := hc
          have k2 := Nat.eq_of_beq_eq_true k2
          have k3 := Nat.le_of_ble_eq_true k3
          obtain ⟨hfit, hcell⟩ := hi.use hx
          obtain ⟨f1, f2, f3, _⟩ := fits_flat hfit (fun l hl => by rw [hl] at k1; simp [notTup] at k1)
          have hvs : (a.eval x).cells.size = s := by rw [← k2, ← f1]; simp
          let cells1 := (a.eval x).cells.zipIdx.foldl (fun cs (c, j) => cs.setIfInBounds (off + j) c) cells0
          have hcl : cells1.toList = put3 cells0.toList off (a.eval x).cells.toList := by
            have := foldl_set off (a.eval x).cells.toList 0 cells0 (by simp only [Array.length_toList, hvs]; omega)
            rw [Nat.add_zero] at this
            rw [← this]
            simp only [cells1]
            congr 1
            rw [← Array.foldl_toList, Array.toList_zipIdx]
          have hlen1 : cells1.size = (put3 cs0 off pv.cs).length := by
            have e1 := congrArg List.length hcl
            rw [put3_length (by simp only [Array.length_toList, hvs]; omega)] at e1
            rw [put3_length (by omega)]
            simp only [Array.length_toList] at e1
            omega
          have hat : ∀ c, cells1.toList[c]? = if off ≤ c ∧ c < off + s then (flat (a.eval x))[c - off]? else cells0.toList[c]? := by
            intro c
            rw [hcl, put3_at (by simp only [Array.length_toList, hvs]; omega)]
            have hfl : (flat (a.eval x)).length = s := by rw [← f2]; simpa using hvs
            simp only [f2, hfl]
          obtain ⟨cells, e1, e2, e3, e4⟩ := fill_rep hi hl hf hlen1 (fun v hv => by
            obtain ⟨j, hj⟩ := List.getElem?_of_mem (show v ∈ cells1.toList by simpa using hv)
            rw [hat] at hj
            split at hj
            · refine f3 v ?_
              have := List.mem_of_getElem? hj
              rw [← f2] at this
              simpa using this
            · exact h1 v (by simpa using List.mem_of_getElem? hj)) (fun c y hy => by
            rw [put3_at (by omega)] at hy
            rw [List.getD_eq_getElem?_getD, hat c]
            rw [k2] at hy
            split at hy
            · rename_i hin
              rw [if_pos hin]
              have := hcell (c - off) y hy
              rw [List.getD_eq_getElem?_getD] at this
              exact this
            · rename_i hin
              rw [if_neg hin]
              have := hr c y hy
              rw [List.getD_eq_getElem?_getD] at this
              exact this)
          refine ⟨cells, ?_, e2, e3, e4⟩
          simp only [List.map_cons, Instr.fill, hpl, hvs]
          have hno : ¬ (off + s > cells0.size) := by omega
          have e5 : (if (decide (s ≠ s) || decide (off + s > cells0.size)) = true then none else Instr.fill (fun x => places[x]?) cells1 (List.map (fun x => (x.fst, a.eval x.snd)) l)) = some cells := by
            rw [if_neg (by simp [hno])]; exact e1
          exact e5
        · cases hf
      · cases hf
    · cases hu

theorem Reads.build {o : Oper} {t : TypeId} {parts : Array (Nat × Operand)} {fields : Array Field} {z : List Value} {pl : List (Nat × Nat)} {ps : List (Nat × PV)} {cs : List PC} (ho : o.op = .build t parts) (ht : P.underlying t = some (.struct fields)) (hz : P.zero? t = some z)
    (h1 : z.all (·.oneCell') = true) (hpl : placesP P fields.toList = some pl) (hu : usesP st parts.toList = some ps) (hf : fillPC pl (z.map zeroPC) ps = some cs) : Reads P o st ⟨.agg, cs⟩ := fun a w r hi => by
  obtain ⟨v, hv, hvc⟩ := Option.map_eq_some_iff.1 hz
  obtain ⟨i, hii, hiz⟩ := Option.bind_eq_some_iff.1 hv
  have hall := List.all_eq_true.1 h1
  obtain ⟨cells, e1, e2, e3, e4⟩ := fill_rep hi (places := pl) (cells0 := v.cells) hu hf (by rw [List.length_map, ← hvc]; simp) (fun x hx => hall x (by rw [← hvc]; simpa using hx)) (fun c x hx => by
    rw [List.getElem?_map] at hx
    obtain ⟨u, hu', rfl⟩ := Option.map_eq_some_iff.1 hx
    have := (zeroPC_rep (w := w) (r := r) (hall u (List.mem_of_getElem? hu'))).hasC (P := P) (st := st) (a := a)
    rw [List.getD_eq_getElem?_getD, hvc, hu']
    exact ⟨this.1, this.2.2⟩)
  have hb : P.built t (parts.map fun x => (x.1, a.eval x.2)).toList = some cells := by
    unfold Program.built
    simp only [hii, ht, hiz, placesP_spec hpl]
    rw [Array.toList_map]
    simpa using e1
  refine ⟨.agg cells, ?_, ⟨cells, rfl, e2, e3⟩, fun c x hx => ?_⟩
  · have := run_build w t (parts.map fun x => (x.1, a.eval x.2)) cells hb
    simp only [execOp, ho, Sem.run_bind]
    rw [show (parts.map fun x => match x with | (i, x) => (i, a.eval x)) = parts.map fun x => (x.1, a.eval x.2) from rfl, this]
    rfl
  · exact e4 c x hx

end
end Go.Proofs.YtaikjjlbfdkgmaaDoor.E
