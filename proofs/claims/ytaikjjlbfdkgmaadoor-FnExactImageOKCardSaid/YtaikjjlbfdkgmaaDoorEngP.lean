/- The engine, part P: whole lists of operations by computation. Plain lemmas; no program. -/
import Derived.Test.YtaikjjlbfdkgmaaDoorEngO
set_option linter.unusedVariables false
set_option linter.unusedSectionVars false
set_option linter.unusedSimpArgs false
namespace Go.Proofs.YtaikjjlbfdkgmaaDoor.E
open Go.RowKit
variable [LaidFacts]

section
variable {P : Program}

/-- No temporary's cell names these cells of a box. -/
def noNmB (b off n : Nat) : List (Nat × PV) → Bool
  | [] => true
  | (_, pv) :: l => pv.cs.all (fun x => match x.names with
    | some (.b b' c) => !(Nat.beq b' b && Nat.ble off c && Nat.ble (c + 1) (off + n))
    | _ => true) && noNmB b off n l

theorem noNmB_look {b off n : Nat} : ∀ {l : List (Nat × PV)}, noNmB b off n l = true → ∀ t pv, look l t = some pv → ∀ x ∈ pv.cs, ∀ c, x.names = some (.b b c) → ¬ (off ≤ c ∧ c < off + n)
  | [], _, t, pv, h => by simp [look] at h
  | (k, u) :: l, h, t, pv, ht => by
    simp only [noNmB, Bool.and_eq_true] at h
    simp only [look] at ht
    split at ht
    · cases ht
      intro x hx c hc
      have := List.all_eq_true.1 h.1 x hx
      simp only [hc, Bool.not_eq_true', Bool.and_eq_false_iff] at this
      rintro ⟨h1, h2⟩
      rcases this with (h3 | h3) | h3
      · rw [Nat.beq_refl] at h3; cases h3
      · rw [Nat.ble_eq_true_of_le h1] at h3; cases h3
      · rw [Nat.ble_eq_true_of_le h2] at h3; cases h3
    · exact noNmB_look h.2 t pv ht

theorem Inv.noNm {st : St} {a : Act} {w : World} {r : Rs} (hi : Inv P st a w r) {b off n : Nat} (h : noNmB b off n st.tm = true) : st.noNm b off n := by
  intro p x c hp hx
  cases p with
  | t t d =>
    obtain ⟨pv, h1, h2⟩ := St.at_tmp hp
    exact noNmB_look h t pv h1 x (List.mem_of_getElem? h2) c hx
  | b b' d =>
    obtain ⟨_, cs, h1, h2⟩ := St.at_box hp
    have := (hi.bx b' cs h1).2 x (List.mem_of_getElem? h2)
    cases x <;> simp [PC.boxable, PC.names] at this hx

theorem OpOK.of_inv {o : Oper} {st st' : St} (h : ∀ a w r, Inv P st a w r → OpOK P o st st') : OpOK P o st st' := fun a w r hi => h a w r hi a w r hi

/-- One operation: what must hold, the state behind it. -/
def evOp (P : Program) (st : St) (hs : List (List PC)) (o : Oper) : Option (List Prop × St × List (List PC)) :=
  match o.dst with
  | none => match o.op with
    | .store t x y => match one? (st.use x), st.use y, P.size? t with
      | some (.ref b off), some pv, some n => match st.bx[b]? with
        | some cs => match notTup pv.sh, Nat.beq pv.cs.length n, Nat.ble (off + n) cs.length, pv.cs.all (·.boxable), noNmB b off n st.tm with
          | true, true, true, true, true => some ([], st.setBox b off pv.cs, hs)
          | _, _, _, _, _ => none
        | none => none
      | _, _, _ => none
    | _ => none
  | some d => match st.okB d with
    | false => none
    | true => match o.op with
      | .alloc t => match P.zero? t with
        | some l => match l.all (·.oneCell') with
          | true => some ([], (st.addBox (l.map zeroPC)).assign d ⟨.one, [.ref st.bx.length 0]⟩, hs)
          | false => none
        | none => none
      | .box _ x => match st.use x with
        | some pv => match notTup pv.sh, pv.cs.all (·.boxable) with
          | true, true => some ([], (st.addBox pv.cs).assign d ⟨.one, [.ref st.bx.length 0]⟩, hs)
          | _, _ => none
        | none => none
      | .call { callee := .builtin .append, args := as, argTypes := ts } => match as.toList, ts.toList with
        | [x, y], [t, t'] => match Nat.beq t t', P.underlying t with
          | true, some (.slice e) => match P.elem? e, one? (st.use x), one? (st.use y) with
            | some (s + 1, by'), some c, some c' => match st.ownedAt e c, St.row P st 4 c' with
              | some (q, xs), some (s', ys) => match Nat.beq s' (s + 1) with
                | true => some ([(xs.length + ys.length) ≤ 9223372036854775807, (xs.length + ys.length) * by' ≤ 140737488355328], (st.killed q).assign d ⟨.one, [.own e (xs ++ ys)]⟩, hs)
                | false => none
              | _, _ => none
            | _, _, _ => none
          | false, some (.slice e) => match P.underlying t', P.elem? e, one? (st.use x), one? (st.use y) with
            | some .string, some (1, by'), some c, some (.sc (.string b)) => match st.ownedAt e c with
              | some (q, xs) => some ([(xs.length + (strRow b).length) ≤ 9223372036854775807, (xs.length + (strRow b).length) * by' ≤ 140737488355328], (st.killed q).assign d ⟨.one, [.own e (xs ++ strRow b)]⟩, hs)
              | none => none
            | _, _, _, _ => none
          | _, _ => none
        | _, _ => none
      | _ => match evRd P st hs o with
        | some (c, pv, hs') => match noNameB d pv with
          | true => some (c, st.assign d pv, hs')
          | false => none
        | none => none

theorem evOp_spec {st st' : St} {hs hs' : List (List PC)} {o : Oper} {q : List Prop} (h : evOp P st hs o = some (q, st', hs')) (hq : AllP q) : OpOK P o st st' := by
  unfold evOp at h
  split at h
  · rename_i hd
    split at h
    · rename_i t x y ho
      split at h
      · rename_i b off pv n h1 h2 h3
        split at h
        · rename_i cs h4
          split at h
          · rename_i h5 h6 h7 h8 h9
            simp only [Option.some.injEq, Prod.mk.injEq] at h
            obtain ⟨_, rfl, _⟩ := h
            refine OpOK.of_inv fun a w r hi => ?_
            exact OpOK.storeBox ho hd h3 (one?_eq h1) h2 h5 h4 (Nat.eq_of_beq_eq_true h6) (Nat.le_of_ble_eq_true h7) h8 (hi.noNm h9)
          · cases h
        · cases h
      · cases h
    · cases h
  · rename_i d hd
    split at h
    · cases h
    · rename_i hdn
      have hdn' : st.okd d := St.okB_spec hdn
      split at h
      · rename_i t ho
        split at h
        · rename_i l h1
          split at h
          · rename_i h2
            simp only [Option.some.injEq, Prod.mk.injEq] at h
            obtain ⟨_, rfl, _⟩ := h
            exact OpOK.alloc ho hd hdn' h1 h2
          · cases h
        · cases h
      · rename_i t x ho
        split at h
        · rename_i pv h1
          split at h
          · rename_i h2 h3
            simp only [Option.some.injEq, Prod.mk.injEq] at h
            obtain ⟨_, rfl, _⟩ := h
            exact OpOK.box ho hd hdn' h1 h3 h2
          · cases h
        · cases h
      · rename_i as ts ho
        split at h
        · rename_i x y t t' has hts
          have e1 : as = #[x, y] := by apply Array.toList_inj.1; simpa using has
          have e2 : ts = #[t, t'] := by apply Array.toList_inj.1; simpa using hts
          subst e1 e2
          split at h
          · rename_i e h1 h2
            have := Nat.eq_of_beq_eq_true h1
            subst this
            split at h
            · rename_i s by' c c' h3 h4 h5
              split at h
              · rename_i q' xs s' ys h6 h7
                split at h
                · rename_i h8
                  simp only [Option.some.injEq, Prod.mk.injEq] at h
                  obtain ⟨rfl, rfl, _⟩ := h
                  have := Nat.eq_of_beq_eq_true h8
                  subst this
                  exact OpOK.append ho hd hdn' h2 h3 (by omega) (one?_eq h4) h6 (one?_eq h5) (.inl ⟨rfl, .inl h7⟩) hq.1 hq.2.1
                · cases h
              · cases h
            · cases h
          · rename_i e h1 h2
            split at h
            · rename_i by' c b h3 h4 h5 h6
              split at h
              · rename_i q' xs h7
                simp only [Option.some.injEq, Prod.mk.injEq] at h
                obtain ⟨rfl, rfl, _⟩ := h
                exact OpOK.append ho hd hdn' h2 h4 (by omega) (one?_eq h5) h7 (one?_eq h6) (.inr ⟨h3, rfl, b, rfl, rfl⟩) hq.1 hq.2.1
              · cases h
            · cases h
          · cases h
        · cases h
      · split at h
        · rename_i c pv hs2 h1
          split at h
          · rename_i h2
            simp only [Option.some.injEq, Prod.mk.injEq] at h
            obtain ⟨rfl, rfl, _⟩ := h
            exact (evRd_spec h1 hq).ok hd hdn' h2
          · cases h
        · cases h

end
end Go.Proofs.YtaikjjlbfdkgmaaDoor.E
