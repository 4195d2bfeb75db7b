/- The engine, part T: whole lists of operations by computation. Plain lemmas; no program. -/
import Derived.Test.YtaikjjlbfdkgmaaDoorEngSC
set_option linter.unusedVariables false
set_option linter.unusedSectionVars false
set_option linter.unusedSimpArgs false
namespace Go.Proofs.YtaikjjlbfdkgmaaDoor.E
open Go.RowKit
variable [LaidFacts]

section
variable {P : Program}

/-- The parts of a row, in their order. -/
def partsB : List (Nat × Operand) → Nat → Option (List Operand)
  | [], _ => some []
  | (i, x) :: l, k => match Nat.beq i k with
    | true => (partsB l (k + 1)).map (x :: ·)
    | false => none
theorem partsB_spec : ∀ {l : List (Nat × Operand)} {k : Nat} {xs : List Operand}, partsB l k = some xs → l = (xs.zipIdx k).map fun x => (x.2, x.1)
  | [], k, xs, h => by simp only [partsB, Option.some.injEq] at h; subst h; rfl
  | (i, x) :: l, k, xs, h => by
    simp only [partsB] at h
    split at h
    · rename_i hb
      obtain ⟨ys, h1, rfl⟩ := Option.map_eq_some_iff.1 h
      rw [partsB_spec h1, Nat.eq_of_beq_eq_true hb]
      rfl
    · cases h
def usesB (st : St) : List Operand → Option (List PV)
  | [] => some []
  | x :: l => match st.use x, usesB st l with
    | some pv, some ps => some (pv :: ps)
    | _, _ => none
theorem usesB_spec {st : St} : ∀ {l : List Operand} {ps : List PV}, usesB st l = some ps → l.map st.use = ps.map some
  | [], ps, h => by simp only [usesB, Option.some.injEq] at h; subst h; rfl
  | x :: l, ps, h => by
    simp only [usesB] at h
    split at h
    · rename_i pv qs h1 h2
      simp only [Option.some.injEq] at h
      subst h
      simp [h1, usesB_spec h2]
    · cases h

/-- More readers. -/
def evRd2 (P : Program) (st : St) (o : Oper) : Option (List Prop × PV) :=
  match o.op with
  | .extract x i => match st.use x with
    | some ⟨.tup sh, cs⟩ => match partT sh i with
      | some (s, k) => match Nat.ble (k + sizeT s) cs.length with
        | true => some ([], ⟨formT s, (cs.drop k).take (sizeT s)⟩)
        | false => none
      | none => none
    | _ => none
  | .slice t x lo hi none => match P.underlying t, one? (st.use x) with
    | some .string, some (.sc (.string b)) => match boundOf st 0 lo, boundOf st b.size hi with
      | some (l, _), some (h, _) => some ([0 ≤ l, l ≤ h, h ≤ (b.size : Int)], ⟨.one, [.sc (.string (b.extract l.toNat h.toNat))]⟩)
      | _, _ => none
    | some (.slice e), some c => match P.size? e, St.row P st 4 c with
      | some s, some (s', xs) => match Nat.beq s s', boundOf st 0 lo, boundOf st xs.length hi with
        | true, some (l, _), some (h, _) => match cutPC c s xs l h with
          | some d => some ([0 ≤ l, l ≤ h, h ≤ (xs.length : Int)], ⟨.one, [d]⟩)
          | none => none
        | _, _, _ => none
      | _, _ => none
    | _, _ => none
  | .build t parts => match P.underlying t with
    | some (.struct fields) => match P.zero? t, placesP P fields.toList, usesP st parts.toList with
      | some z, some pl, some ps => match z.all (·.oneCell'), fillPC pl (z.map zeroPC) ps with
        | true, some cs => some ([], ⟨.agg, cs⟩)
        | _, _ => none
      | _, _, _ => none
    | _ => none
  | _ => none

theorem evRd2_spec {st : St} {o : Oper} {q : List Prop} {pv : PV} (h : evRd2 P st o = some (q, pv)) (hq : AllP q) : Reads P o st pv := by
  unfold evRd2 at h
  split at h
  · rename_i x i ho
    split at h
    · rename_i sh cs hx
      split at h
      · rename_i s k hp
        split at h
        · rename_i hle
          simp only [Option.some.injEq, Prod.mk.injEq] at h
          obtain ⟨_, rfl⟩ := h
          exact Reads.extract ho hx hp (Nat.le_of_ble_eq_true hle)
        · cases h
      · cases h
    · cases h
  · rename_i t x lo hi ho
    split at h
    · rename_i b h1 h2
      split at h
      · rename_i l f h' g h3 h4
        simp only [Option.some.injEq, Prod.mk.injEq] at h
        obtain ⟨rfl, rfl⟩ := h
        exact Reads.cutStr ho h1 (one?_eq h2) h3 h4 hq.1 hq.2.1 hq.2.2.1
      · cases h
    · rename_i e c h1 h2
      split at h
      · rename_i s s' xs h3 h4
        split at h
        · rename_i l f h' g h5 h6 h7
          split at h
          · rename_i d h8
            simp only [Option.some.injEq, Prod.mk.injEq] at h
            obtain ⟨rfl, rfl⟩ := h
            have := Nat.eq_of_beq_eq_true h5
            subst this
            exact Reads.cutRow ho h1 h3 (one?_eq h2) h4 h6 h7 hq.1 hq.2.1 hq.2.2.1 h8
          · cases h
        · cases h
      · cases h
    · cases h
  · rename_i t parts ho
    split at h
    · rename_i fields ht
      split at h
      · rename_i z pl ps h1 h2 h3
        split at h
        · rename_i cs h4 h5
          simp only [Option.some.injEq, Prod.mk.injEq] at h
          obtain ⟨_, rfl⟩ := h
          exact Reads.build ho ht h1 h4 h2 h3 h5
        · cases h
      · cases h
    · cases h
  · cases h

/-- One operation: what must hold, the state behind it. -/
def evOp2 (P : Program) (st : St) (hs : List (List PC)) (o : Oper) : Option (List Prop × St × List (List PC)) :=
  match o.op with
  | .assign _ => match evOp P st hs o, o.dst with
    | some (c, st', hs'), some d => match st'.get d with
      | some pv => some (c, giveAll d pv.cs.length 0 st', hs')
      | none => none
    | _, _ => none
  | .buildSlice t n parts => match o.dst, P.underlying t with
    | some d, some (.slice e) => match P.elem? e, partsB parts.toList 0 with
      | some (s + 1, _), some xs => match usesB st xs with
        | some ps => match st.okB d, Nat.beq n xs.length, Nat.ble (n * (s + 1)) (2 ^ 24), ps.all (fun pv => notTup pv.sh && Nat.beq pv.cs.length (s + 1) && pv.cs.all PC.plain) with
          | true, true, true, true => some ([], st.assign d ⟨.one, [.own e (ps.map (·.cs))]⟩, hs)
          | _, _, _, _ => none
        | none => none
      | _, _ => none
    | _, _ => none
  | .makeSlice t x y => match o.dst, P.underlying t with
    | some d, some (.slice e) => match P.elem? e, P.zero? e, one? (st.use x), one? (st.use y) with
      | some (s + 1, by'), some z, some (.sc (.int _ n)), some (.sc (.int _ n')) => match st.okB d, z.all (·.oneCell') with
        | true, true => some ([n' = n, 0 ≤ n, n ≤ 9223372036854775807, n * by' ≤ 140737488355328], st.assign d ⟨.one, [.own e (List.replicate n.toNat (z.map zeroPC))]⟩, hs)
        | _, _ => none
      | _, _, _, _ => none
    | _, _ => none
  | .store t x y => match one? (st.use x), hs with
    | some (.el p i off s), el :: hs' => match st.at p, st.use y, P.size? t, o.dst with
      | some (.own e xs), some pv, some n, none => match Nat.beq (P.cellsOf e) s, s, notTup pv.sh, Nat.beq pv.cs.length n, Nat.ble (off + n) s, pv.cs.all PC.plain with
        | true, _ + 1, true, true, true, true => some ([xs[i]? = some el], st.setAt p (.own e (xs.set i (put3 el off pv.cs))), hs')
        | _, _, _, _, _, _ => none
      | _, _, _, _ => none
    | _, _ => evOp P st hs o
  | _ => match evRd2 P st o, o.dst with
    | some (c, pv), some d => match st.okB d, noNameB d pv with
      | true, true => some (c, st.assign d pv, hs)
      | _, _ => none
    | _, _ => evOp P st hs o

theorem evOp2_spec {st st' : St} {hs hs' : List (List PC)} {o : Oper} {q : List Prop} (h : evOp2 P st hs o = some (q, st', hs')) (hq : AllP q) : OpOK P o st st' := by
  unfold evOp2 at h
  split at h
  · split at h
    · rename_i c st1 hs1 d h1 hd
      split at h
      · simp only [Option.some.injEq, Prod.mk.injEq] at h
        obtain ⟨rfl, rfl, _⟩ := h
        exact (evOp_spec h1 hq).turn (Turns.giveAll d _ _ _)
      · cases h
    · cases h
  · rename_i t n parts ho
    split at h
    · rename_i d e hd ht
      split at h
      · rename_i s by' xs h1 h2
        split at h
        · rename_i ps h3
          split at h
          · rename_i h4 h5 h6 h7
            simp only [Option.some.injEq, Prod.mk.injEq] at h
            obtain ⟨_, rfl, _⟩ := h
            exact OpOK.rowOf ho hd (St.okB_spec h4) ht h1 (by omega) (partsB_spec h2) (Nat.eq_of_beq_eq_true h5) (Nat.le_of_ble_eq_true h6) (usesB_spec h3) h7
          · cases h
        · cases h
      · cases h
    · cases h
  · rename_i t x y ho
    split at h
    · rename_i d e hd ht
      split at h
      · rename_i s by' z k n k' n' h1 h2 h3 h4
        split at h
        · rename_i h5 h6
          simp only [Option.some.injEq, Prod.mk.injEq] at h
          obtain ⟨rfl, rfl, _⟩ := h
          obtain ⟨q1, q2, q3, q4, _⟩ := hq
          subst q1
          exact OpOK.make ho hd (St.okB_spec h5) ht h1 (by omega) h2 h6 (one?_eq h3) (one?_eq h4) q2 q3 q4
        · cases h
      · cases h
    · cases h
  · rename_i t x y ho
    split at h
    · rename_i p i off s el hs1 hx
      split at h
      · rename_i e xs pv n hp hy hs2 hd
        split at h
        · rename_i s' h1 h3 h4 h5 h6
          simp only [Option.some.injEq, Prod.mk.injEq] at h
          obtain ⟨rfl, rfl, _⟩ := h
          exact OpOK.storeEl ho hd hs2 (one?_eq hx) hp (Nat.eq_of_beq_eq_true h5) (by omega) hy h1 (Nat.eq_of_beq_eq_true h3) (Nat.le_of_ble_eq_true h6) h4 hq.1
        · cases h
      · cases h
    · exact evOp_spec h hq
  · split at h
    · rename_i c pv d h1 hd
      split at h
      · rename_i h2 h3
        simp only [Option.some.injEq, Prod.mk.injEq] at h
        obtain ⟨rfl, rfl, _⟩ := h
        exact (evRd2_spec h1 hq).ok hd (St.okB_spec h2) h3
      · cases h
    · exact evOp_spec h hq

theorem AllP_append : ∀ {l m : List Prop}, AllP (l ++ m) → AllP l ∧ AllP m
  | [], _, h => ⟨trivial, h⟩
  | _ :: _, _, h => ⟨⟨h.1, (AllP_append h.2).1⟩, (AllP_append h.2).2⟩

abbrev Ev := Option (List Prop × St × List (List PC))
def seqE (x : Ev) (k : St → List (List PC) → Ev) : Ev :=
  match x with
  | some (c, st', hs') => match k st' hs' with
    | some (c', st'', hs'') => some (c ++ c', st'', hs'')
    | none => none
  | none => none
theorem seqE_eq {x : Ev} {k : St → List (List PC) → Ev} {q : List Prop} {st' : St} {hs' : List (List PC)} (h : seqE x k = some (q, st', hs')) : ∃ c1 st1 hs1 c2, x = some (c1, st1, hs1) ∧ k st1 hs1 = some (c2, st', hs') ∧ q = c1 ++ c2 := by
  unfold seqE at h
  split at h
  · rename_i c1 st1 hs1
    split at h
    · rename_i c2 st2 hs2 h2
      simp only [Option.some.injEq, Prod.mk.injEq] at h
      obtain ⟨rfl, rfl, rfl⟩ := h
      exact ⟨c1, st1, hs1, c2, rfl, h2, rfl⟩
    · cases h
  · cases h
def eqB : Bool → Bool → Bool
  | true, true | false, false => true
  | _, _ => false
/-- Not wanted. -/
def skipE (st : St) (d : Option Nat) (k : St → Ev) : Ev :=
  match d with
  | some e => match st.okB e with
    | true => k (st.assign e ⟨.tup [], []⟩)
    | false => none
  | none => none

/-- The first n operations, those that are wanted. -/
def evN (P : Program) (ops : Array Oper) : Nat → List Oper → St → List (List PC) → Ev
  | 0, _, st, hs => some ([], st, hs)
  | _ + 1, [], _, _ => none
  | n + 1, o :: l, st, hs => match o.guard with
    | none => seqE (evOp2 P st hs o) (evN P ops n l)
    | some (j, b) => match (ops[j]?).bind (·.dst) with
      | some d => match one? (st.get d) with
        | some (.sc (.bool c)) => match eqB b c with
          | true => seqE (evOp2 P st hs o) (evN P ops n l)
          | false => skipE st o.dst fun st' => evN P ops n l st' hs
        | _ => none
      | none => none

theorem evN_spec {ops : Array Oper} {Q : St → Prop} : ∀ (n : Nat) (l : List Oper) (st : St) (hs : List (List PC)) {q : List Prop} {st' : St} {hs' : List (List PC)}, evN P ops n l st hs = some (q, st', hs') → AllP q → TriO P ops (l.drop n) Q st' → TriO P ops l Q st
  | 0, l, st, hs, q, st', hs', h, hq, ht => by
    simp only [evN, Option.some.injEq, Prod.mk.injEq] at h
    obtain ⟨_, rfl, _⟩ := h
    exact ht
  | n + 1, [], st, hs, q, st', hs', h, hq, ht => by simp [evN] at h
  | n + 1, o :: l, st, hs, q, st', hs', h, hq, ht => by
    simp only [evN] at h
    split at h
    · rename_i hg
      obtain ⟨c1, st1, hs1, c2, h1, h2, rfl⟩ := seqE_eq h
      obtain ⟨q1, q2⟩ := AllP_append hq
      exact TriO.cons hg (evOp2_spec h1 q1) (evN_spec n l st1 hs1 h2 q2 ht)
    · rename_i j b hg
      split at h
      · rename_i d hj
        split at h
        · rename_i c hd
          have hd' := one?_eq hd
          split at h
          · rename_i hbc
            have hbc : b = c := by cases b <;> cases c <;> first | rfl | cases hbc
            subst hbc
            obtain ⟨c1, st1, hs1, c2, h1, h2, rfl⟩ := seqE_eq h
            obtain ⟨q1, q2⟩ := AllP_append hq
            exact TriO.consT hg hj hd' (evOp2_spec h1 q1) (evN_spec n l st1 hs1 h2 q2 ht)
          · rename_i hbc
            have hbc : c = !b := by cases b <;> cases c <;> first | rfl | cases hbc
            unfold skipE at h
            split at h
            · rename_i e ho
              split at h
              · rename_i he
                exact TriO.consF hg hj hd' hbc ho (St.okB_spec he) (evN_spec n l _ hs h hq ht)
              · cases h
            · cases h
        · cases h
      · cases h

/-- Some operations of a region, by computation; then only these temporaries count. -/
theorem TriO.run {ops : Array Oper} {l : List Oper} {Q : St → Prop} {st : St} (n : Nat) (ts : List Nat) (hs : List (List PC)) (q : List Prop) (st' : St) (h : (evN P ops n l st hs).map (fun x => (x.1, x.2.1.keep ts)) = some (q, st')) (hq : AllP q) (ht : TriO P ops (l.drop n) Q st') : TriO P ops l Q st := by
  obtain ⟨⟨q1, st1, hs1⟩, h1, h2⟩ := Option.map_eq_some_iff.1 h
  simp only [Prod.mk.injEq] at h2
  obtain ⟨rfl, rfl⟩ := h2
  exact evN_spec n l st hs h1 hq (TriO.turn (Turns.keep ts) ht)

/-- A whole region, by computation, then what follows. -/
theorem Tri.reg {id : Nat} {l : List Oper} {y : Code} {Q : Exit → St → Prop} {st : St} (ts : List Nat) (hs : List (List PC)) (q : List Prop) (st' : St) (h : (evN P l.toArray l.length l st hs).map (fun x => (x.1, x.2.1.keep ts)) = some (q, st')) (hq : AllP q) (hy : Tri P y Q st') : Tri P (.seq (.region id l.toArray false) y) Q st :=
  Tri.seq (Tri.region (TriO.run l.length ts hs q st' h hq (by rw [List.drop_length]; exact TriO.nil hy)))

end
end Go.Proofs.YtaikjjlbfdkgmaaDoor.E
