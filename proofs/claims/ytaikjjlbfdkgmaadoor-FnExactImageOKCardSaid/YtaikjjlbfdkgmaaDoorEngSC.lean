/- The engine, part SC: copies into a row of the frame's own. Plain lemmas; no program. -/
import Derived.Test.YtaikjjlbfdkgmaaDoorEngSB
set_option linter.unusedVariables false
set_option linter.unusedSectionVars false
set_option linter.unusedSimpArgs false
namespace Go.Proofs.YtaikjjlbfdkgmaaDoor.E
open Go.RowKit
variable [LaidFacts]

/-- So many elements of one row laid over another, from a place on. -/
def cpRow {α : Type} (xs ys : List α) (lo k : Nat) : List α := xs.take lo ++ (ys.take k ++ xs.drop (lo + k))
theorem cpRow_length {α : Type} {xs ys : List α} {lo k : Nat} (h : lo + k ≤ xs.length) (h' : k ≤ ys.length) : (cpRow xs ys lo k).length = xs.length := by simp [cpRow]; omega
theorem cpRow_at {α : Type} {xs ys : List α} {lo k : Nat} (h : lo + k ≤ xs.length) (h' : k ≤ ys.length) (i : Nat) : (cpRow xs ys lo k)[i]? = if lo ≤ i ∧ i < lo + k then ys[i - lo]? else xs[i]? := by
  unfold cpRow
  by_cases h1 : i < lo
  · rw [List.getElem?_append_left (by simp; omega), List.getElem?_take, if_pos h1, if_neg (by omega)]
  · rw [List.getElem?_append_right (by simp; omega)]
    simp only [List.length_take, Nat.min_eq_left (show lo ≤ xs.length by omega)]
    by_cases h2 : i < lo + k
    · rw [List.getElem?_append_left (by simp; omega), List.getElem?_take, if_pos (by omega), if_pos (by omega)]
    · rw [List.getElem?_append_right (by simp; omega), if_neg (by omega)]
      simp only [List.length_take, Nat.min_eq_left h', List.getElem?_drop]
      congr 1; omega
theorem cpRow_map {α β : Type} (f : α → β) (xs ys : List α) (lo k : Nat) : cpRow (xs.map f) (ys.map f) lo k = (cpRow xs ys lo k).map f := by simp [cpRow, List.map_take, List.map_drop]

theorem one_at {α : Type} : ∀ {xs : List (List α)} (hz : ∀ e ∈ xs, e.length = 1) {i : Nat} {x : α}, xs.flatten[i]? = some x → xs[i]? = some [x]
  | [], _, i, x, h => by simp at h
  | e :: xs, hz, i, x, h => by
    obtain ⟨y, rfl⟩ := List.length_eq_one_iff.1 (hz e (List.mem_cons_self ..))
    cases i with
    | zero => simpa using h
    | succ i => simpa using one_at (fun e he => hz e (List.mem_cons_of_mem _ he)) (by simpa using h)

section
variable {P : Program} {st : St} {a : Act} {w : World} {r : Rs}

/-- Where a copy goes: the place, the first element, how many there are. -/
def cpTo (st : St) : PC → Option (Place × Nat × Nat)
  | .al p => match st.at p with
    | some (.own _ xs) => some (p, 0, xs.length)
    | _ => none
  | .vw p lo n s => match Nat.beq s 1 with
    | true => some (p, lo, n)
    | false => none
  | _ => none

theorem OpE.copy {o : Oper} {x y : Operand} {t t' : TypeId} {d : Nat} {e : TypeId} {c c2 : PC} {p : Place} {lo n k : Nat} {xs ys : List (List PC)} (ho : o.op = .call { callee := .builtin .copy, args := #[x, y], argTypes := #[t, t'] }) (hd : o.dst = some d) (hod : st.okd d)
    (ht : P.underlying t = some (.slice e)) (hes : (P.info? e).map (·.size) = some 1) (he : P.cellsOf e = 1) (hx : st.use x = some ⟨.one, [c]⟩) (hc : cpTo st c = some (p, lo, n)) (hp : st.at p = some (.own e xs)) (hle : lo + n ≤ xs.length) (hy : st.use y = some ⟨.one, [c2]⟩) (hr : St.row P st 4 c2 = some (1, ys))
    (hk : k = Nat.min ys.length n) : OpE P o st ((st.setAt p (.own e (cpRow xs ys lo k))).assign d ⟨.one, [.sc (.int .i64 k)]⟩) := by
  intro a w r hi K Q hK
  have hlv : st.lives p := ⟨_, hp, by simp⟩
  have hce := hi.cell p _ hp
  simp only [RepC] at hce
  obtain ⟨vals, ho1, ho2, ho3, ho4⟩ := hce
  rw [he] at ho1 ho3
  obtain ⟨_, hxc, _⟩ := (hi.use hx).out
  -- what the operands are
  have hdst : ∃ dp dcap, a.eval x = .slice dp n dcap ∧ (0 < n → ∃ g cap, dp = some ⟨g, lo, none⟩ ∧ alpha a w r p = .slice (some ⟨g, 0, none⟩) xs.length cap) := by
    have hown : (alpha a w r p = .slice none 0 0 ∧ xs.length = 0) ∨ ∃ g cap cur, alpha a w r p = .slice (some ⟨g, 0, none⟩) xs.length cap ∧ w.heap[g]? = some (.cells cur e (0, 0)) ∧ xs.length ≤ cap := by
      rcases ho1.2 with ⟨h1, h2⟩ | ⟨g, cap, cur, h1, _, h2, h3, _⟩
      · exact .inl ⟨h1, h2⟩
      · exact .inr ⟨g, cap, cur, h1, h2, h3⟩
    cases c <;> simp only [cpTo] at hc <;> try (cases hc; done)
    case al q =>
      split at hc
      · rename_i xs' hq
        simp only [Option.some.injEq, Prod.mk.injEq] at hc
        obtain ⟨rfl, rfl, rfl⟩ := hc
        rw [hp] at hq
        cases hq
        have hv := hxc.2 hlv
        rcases hown with ⟨h1, h2⟩ | ⟨g, cap, cur, h1, _⟩
        · exact ⟨none, 0, by rw [hv, h1, h2], fun h => by omega⟩
        · exact ⟨_, cap, by rw [hv, h1], fun _ => ⟨g, cap, rfl, h1⟩⟩
      · cases hc
    case vw q lo' n' s' =>
      split at hc
      · rename_i hs1
        have hs1 := Nat.eq_of_beq_eq_true hs1
        subst hs1
        simp only [Option.some.injEq, Prod.mk.injEq] at hc
        obtain ⟨rfl, rfl, rfl⟩ := hc
        have hv := hxc.2 hlv
        rcases hown with ⟨h1, h2⟩ | ⟨g, cap, cur, h1, _, h3⟩
        · rw [h1] at hv
          exact ⟨_, _, by rw [hv]; rfl, fun h => by omega⟩
        · rw [h1] at hv
          refine ⟨_, _, by rw [hv]; rfl, fun h => ⟨g, cap, ?_, h1⟩⟩
          rw [if_neg (by omega)]
          simp only [Option.map_some, add_mk, Nat.zero_add, Nat.mul_one]
      · cases hc
  obtain ⟨dp, dcap, hxe, hdp⟩ := hdst
  obtain ⟨_, hyc, _⟩ := (hi.use hy).out
  obtain ⟨sp, scap, hye, _, hsrc⟩ := hi.row 4 hyc hr
  have hkn : k ≤ n := by rw [hk]; exact Nat.min_le_right _ _
  have hky : k ≤ ys.length := by rw [hk]; exact Nat.min_le_left _ _
  have hrd : ∀ (st' : St) (r' : Rs) (w' : World), Inv P st' a w' r' → st'.okd d → Inv P (st'.assign d ⟨.one, [.sc (.int .i64 k)]⟩) (a.put (some d) (.int .i64 k)) w' ((r'.dropT d).setT d fun _ => none) := fun st' r' w' hi' hd' =>
    hi'.assign_has hd' rfl (Has.sc rfl)
  by_cases h0 : k = 0
  · have hrun := run_copy_none (P := P) w t t' o.type e dp sp n dcap ys.length scap ht hes (by rw [← hk]; exact h0)
    have hsame : cpRow xs ys lo k = xs := by subst h0; simp [cpRow]
    have e2 : Inv P (st.setAt p (.own e (cpRow xs ys lo k))) a w r := by rw [hsame]; exact hi.reown hp (hi.cell p _ hp) (fun _ _ _ => rfl) (Nat.le_refl _)
    unfold Oper.wp
    simp only [execOp, ho, resolve, invoke, builtin, List.map_toArray, List.map_cons, List.map_nil, hxe, hye, Sem.run_bind, Sem.run_pure, Result.andThen_ok]
    rw [show (Builtin.copy_ #[t, t'] o.type #[.slice dp n dcap, .slice sp ys.length scap]).run P w = _ from hrun]
    simp only [Result.andThen_ok, Sem.run_pure]
    have hfin := hrd _ r w e2 ⟨by rw [St.setAt_n]; exact hod.1, by rw [St.setAt_fx]; exact hod.2⟩
    rw [hd] at hK
    have hgo : (goInt 0) = Value.int .i64 (k : Int) := by rw [h0]; rfl
    rw [hgo, Oper.upon_value, hd]
    exact hK _ w _ (by rw [St.assign_m]; exact St.setAt_m) hfin (by rw [St.assign_bx, St.setAt_len]; exact Step.assign (fun _ _ h => by cases h))
  · obtain ⟨g, cap, rfl, hav⟩ := hdp (by omega)
    rcases ho1.2 with ⟨h1, h2⟩ | ⟨g', cap', cur, h1, _, hh, hnc, hcm, hcs, htake⟩
    · omega
    rw [hav] at h1
    simp only [Value.slice.injEq, Option.some.injEq, Addr.mk.injEq, true_and, and_true] at h1
    obtain ⟨rfl, rfl⟩ := h1
    obtain ⟨kb, off, rfl, hyz, hcell⟩ := hsrc (fun e => by rw [e] at hky; simp at hky; omega)
    have hys : ∀ j, j < k → ∃ u, w.cell? ⟨kb, off + j, none⟩ = some u ∧ ∃ z, ys[j]? = some [z] ∧ RepS w r.Sh z u := by
      intro j hj
      have hjl : j < ys.length := by omega
      obtain ⟨z, hz⟩ := List.length_eq_one_iff.1 (hyz ys[j] (List.getElem_mem hjl))
      obtain ⟨u, hu, hru⟩ := hcell j 0 _ z (List.getElem?_eq_getElem hjl) (by rw [hz]; rfl)
      exact ⟨u, by simpa using hu, z, by rw [List.getElem?_eq_getElem hjl, hz], hru⟩
    let cs : List Value := (List.range k).map fun j => (w.cell? ⟨kb, off + j, none⟩).getD undef
    have hcsl : cs.length = k := by simp [cs]
    have hcsat : ∀ j u, cs[j]? = some u → j < k ∧ w.cell? ⟨kb, off + j, none⟩ = some u := by
      intro j u hu
      have hj : j < k := by rw [← hcsl]; exact (List.getElem?_eq_some_iff.1 hu).1
      obtain ⟨u', hu', _⟩ := hys j hj
      simp only [cs, List.getElem?_map, List.getElem?_range hj, Option.map_some, Option.some.injEq] at hu
      rw [hu'] at hu
      simp only [Option.getD_some] at hu
      rw [← hu]; exact ⟨hj, hu'⟩
    have hcl : cur.toList.length = cap := by simpa [he] using hcs
    have hvl : vals.length = xs.length := by simpa [he] using ho1.1
    have htk : cur.toList.take xs.length = vals := by simpa [he] using htake
    have hrun := run_copy_row (P := P) w t t' o.type e g lo n dcap ⟨kb, off, none⟩ ys.length scap cur e cs ht hes hh (by rw [hcsl, hk]) (fun j u hu => by rw [add_mk]; exact (hcsat j u hu).2) (by rw [hcsl]; have hcz : cur.size = cap := (by simpa using hcl); omega)
      (fun u hu => by
        obtain ⟨j, hj⟩ := List.getElem?_of_mem hu
        obtain ⟨h3, h4⟩ := hcsat j u hj
        obtain ⟨u', h5, z, _, hru⟩ := hys j h3
        rw [h4] at h5; cases h5
        exact hru.one)
    have hγ : r.γ p = some g := by rw [← ho2, hav]; rfl
    have hnew : (w.setRow g (cur.toList.take lo ++ cs ++ cur.toList.drop (lo + cs.length)).toArray).heap[g]? = some (.cells (cur.toList.take lo ++ cs ++ cur.toList.drop (lo + cs.length)).toArray e (0, 0)) := setRow_heap w g _ _ e (0, 0) hh
    have hSh : ∀ j, r.Sh j → (w.setRow g (cur.toList.take lo ++ cs ++ cur.toList.drop (lo + cs.length)).toArray).heap[j]? = w.heap[j]? := fun j hj => setRow_other w g j _ fun e => (hi.sh j hj).2.1 p (by rw [hγ, e])
    have hput : ∀ j, (cur.toList.take lo ++ cs ++ cur.toList.drop (lo + cs.length))[j]? = if lo ≤ j ∧ j < lo + k then cs[j - lo]? else cur.toList[j]? := by
      intro j
      have := put3_at (cs := cur.toList) (off := lo) (l := cs) (by rw [hcsl]; omega) j
      rw [hcsl] at this
      rw [← this, hcsl]
      simp [put3, hcsl]
    have hown : RepOwn P (w.setRow g (cur.toList.take lo ++ cs ++ cur.toList.drop (lo + cs.length)).toArray) r.Sh e (cpRow xs ys lo k) (alpha a w r p) (r.γ p) := by
      have hlen := cpRow_length (xs := xs) (ys := ys) (lo := lo) (k := k) (by omega) hky
      have hz : ∀ el ∈ cpRow xs ys lo k, el.length = 1 := by
        intro el hel
        obtain ⟨j, hj⟩ := List.getElem?_of_mem hel
        rw [cpRow_at (by omega) hky] at hj
        split at hj
        · exact hyz el (List.mem_of_getElem? hj)
        · exact ho3 el (List.mem_of_getElem? hj)
      refine ⟨(cur.toList.take lo ++ cs ++ cur.toList.drop (lo + cs.length)).take xs.length, ⟨?_, .inr ⟨g, cap, _, by rw [hav, hlen], Nat.zero_le _, hnew, by rw [hlen]; exact hnc, hcm, ?_, by rw [hlen, he, Nat.mul_one]⟩⟩, ho2, by rw [he]; exact hz, fun j z hj => ?_⟩
      · rw [he, Nat.mul_one, hlen]
        simp only [List.length_take, List.length_append, List.length_drop, hcsl, hcl]
        omega
      · rw [he, Nat.mul_one]
        simp only [List.size_toArray, List.length_append, List.length_take, List.length_drop, hcsl, hcl]
        omega
      · have h6 := one_at hz hj
        have hjl : j < xs.length := by rw [← hlen]; exact (List.getElem?_eq_some_iff.1 h6).1
        rw [cpRow_at (by omega) hky] at h6
        rw [List.getElem?_take, if_pos hjl, hput]
        split at h6
        · rename_i hin
          rw [if_pos hin]
          obtain ⟨u, hu, z', hz', hru⟩ := hys (j - lo) (by omega)
          rw [h6] at hz'; cases hz'
          refine ⟨u, ?_, hru.mono (fun _ h => h) hSh⟩
          simp only [cs, List.getElem?_map, List.getElem?_range (show j - lo < k by omega), Option.map_some, hu, Option.getD_some]
        · rename_i hin
          rw [if_neg hin]
          have h7 := flatten_at (s := 1) ho3 (i := j) (j := 0) h6 rfl
          rw [Nat.mul_one, Nat.add_zero] at h7
          obtain ⟨u, hu, hru⟩ := ho4 j z h7
          refine ⟨u, ?_, hru.mono (fun _ h => h) hSh⟩
          rw [← htk, List.getElem?_take, if_pos hjl] at hu
          exact hu
    have hinv := hi.reown hp hown (fun j _ hne => setRow_other w g j _ fun e => hne (by rw [hγ, e])) (by simp [World.setRow])
    unfold Oper.wp
    simp only [execOp, ho, resolve, invoke, builtin, List.map_toArray, List.map_cons, List.map_nil, hxe, hye, Sem.run_bind, Sem.run_pure, Result.andThen_ok]
    rw [show (Builtin.copy_ #[t, t'] o.type #[.slice (some ⟨g, lo, none⟩) n dcap, .slice (some ⟨kb, off, none⟩) ys.length scap]).run P w = _ from hrun]
    simp only [Result.andThen_ok, Sem.run_pure]
    have hfin := hrd _ r _ hinv ⟨by rw [St.setAt_n]; exact hod.1, by rw [St.setAt_fx]; exact hod.2⟩
    rw [hd] at hK
    have hgo : (goInt cs.length) = Value.int .i64 (k : Int) := by rw [hcsl]; rfl
    rw [hgo, Oper.upon_value, hd]
    exact hK _ _ _ (by rw [St.assign_m]; exact St.setAt_m) hfin (by
      rw [St.assign_bx, St.setAt_len]
      exact (Step.setRow (m := st.bx.length) (.inl ⟨p, hγ⟩) rfl rfl (fun _ h => h)).trans (Step.assign (fun _ _ h => by cases h)))

end
end Go.Proofs.YtaikjjlbfdkgmaaDoor.E
