/- The engine, part J: stores. Plain lemmas; no program. -/
import Derived.Test.YtaikjjlbfdkgmaaDoorEngI
set_option linter.unusedVariables false
set_option linter.unusedSectionVars false
set_option linter.unusedSimpArgs false
namespace Go.Proofs.YtaikjjlbfdkgmaaDoor.E
open Go.RowKit
variable [LaidFacts]

section
variable {P : Program} {st : St} {a : Act} {w : World} {r : Rs}

def put3 {α : Type} (cs : List α) (off : Nat) (l : List α) : List α := cs.take off ++ l ++ cs.drop (off + l.length)
theorem put3_length {α : Type} {cs : List α} {off : Nat} {l : List α} (h : off + l.length ≤ cs.length) : (put3 cs off l).length = cs.length := by simp [put3]; omega
theorem put3_at {α : Type} {cs : List α} {off : Nat} {l : List α} (h : off + l.length ≤ cs.length) (c : Nat) : (put3 cs off l)[c]? = if off ≤ c ∧ c < off + l.length then l[c - off]? else cs[c]? := by
  simp only [put3, List.append_assoc]
  by_cases h1 : c < off
  · rw [List.getElem?_append_left (by simp; omega), List.getElem?_take, if_pos h1, if_neg (by omega)]
  · rw [List.getElem?_append_right (by simp; omega)]
    have ht : (cs.take off).length = off := by simp; omega
    rw [ht]
    by_cases h2 : c < off + l.length
    · rw [List.getElem?_append_left (by omega), if_pos ⟨by omega, h2⟩]
    · rw [List.getElem?_append_right (by omega), List.getElem?_drop, if_neg (by omega)]
      congr 1
      omega

def St.setBox (st : St) (b off : Nat) (l : List PC) : St := { st with bx := st.bx.modify b fun cs => put3 cs off l }
def Rs.setB (r : Rs) (b off n : Nat) (γc : Nat → Option Nat) : Rs :=
  { r with γ := fun p => match p with
      | .b b' c => if b' = b ∧ off ≤ c ∧ c < off + n then γc (c - off) else r.γ (.b b' c)
      | p => r.γ p }
/-- No cell names these cells of a box. -/
def St.noNm (st : St) (b off n : Nat) : Prop := ∀ p x c, st.at p = some x → x.names = some (.b b c) → ¬ (off ≤ c ∧ c < off + n)

theorem St.bx_setBox {b off : Nat} {l : List PC} {b' : Nat} {cs : List PC} (h : (st.setBox b off l).bx[b']? = some cs) : ∃ cs0, st.bx[b']? = some cs0 ∧ cs = if b' = b then put3 cs0 off l else cs0 := by
  simp only [St.setBox, List.getElem?_modify] at h
  obtain ⟨cs0, h1, h2⟩ := Option.map_eq_some_iff.1 h
  refine ⟨cs0, h1, ?_⟩
  subst h2
  by_cases e : b = b'
  · subst e; simp
  · simp [e, Ne.symm e]

theorem St.at_setBox {b off : Nat} {cs l : List PC} (hb : st.bx[b]? = some cs) (hle : off + l.length ≤ cs.length) (p : Place) :
    (st.setBox b off l).at p = match p with
      | .b b' c => if b' = b ∧ off ≤ c ∧ c < off + l.length then l[c - off]? else st.at (.b b' c)
      | p => st.at p := by
  cases p with
  | t t c => rfl
  | b b' c =>
    simp only [St.at, St.setBox, List.getElem?_modify]
    by_cases e : b = b'
    · subst e
      simp only [hb, Option.map_some, Option.bind_some, if_true, true_and]
      exact put3_at hle c
    · simp [e, Ne.symm e]

theorem Inv.storeBox (h : Inv P st a w r) {b off : Nat} {cs l : List PC} {vs : List Value} {γc : Nat → Option Nat} {vals : Array Value} {e : TypeId} (hb : st.bx[b]? = some cs) (hh : w.heap[r.β b]? = some (.cells vals e (0, 0)))
    (hlen : vs.length = l.length) (hle : off + l.length ≤ cs.length) (h1 : ∀ v ∈ vs, v.oneCell' = true) (hbx : ∀ x ∈ l, x.boxable = true) (hno : st.noNm b off l.length)
    (hc : ∀ j x v, l[j]? = some x → vs[j]? = some v → RepC P w r st (alpha a w r) x v (γc j))
    (hγ : ∀ j g, γc j = some g → (∃ e xs, l[j]? = some (.own e xs)) ∧ ¬ r.Sh g ∧ (∀ p, r.γ p ≠ some g) ∧ ∀ b, b < st.bx.length → r.β b ≠ g)
    (hinj : ∀ j j' g, γc j = some g → γc j' = some g → j = j') :
    Inv P (st.setBox b off l) a (w.setRow (r.β b) (put3 vals.toList off vs).toArray) (r.setB b off l.length γc) := by
  have hbl : b < st.bx.length := (List.getElem?_eq_some_iff.1 hb).1
  obtain ⟨⟨vals', e', h2, h3, h4⟩, h5⟩ := h.bx b cs hb
  rw [hh] at h2
  simp only [Option.some.injEq, Obj.cells.injEq] at h2
  obtain ⟨rfl, rfl, _⟩ := h2
  have hvl : off + vs.length ≤ vals.toList.length := by simp; omega
  have hXg : r.X st.bx.length (r.β b) := .inr ⟨b, hbl, rfl⟩
  have hold : ∀ g, g ≠ r.β b → (w.setRow (r.β b) (put3 vals.toList off vs).toArray).heap[g]? = w.heap[g]? := fun g hg => setRow_other w _ g _ hg
  have hnew : (w.setRow (r.β b) (put3 vals.toList off vs).toArray).heap[r.β b]? = some (.cells (put3 vals.toList off vs).toArray e (0, 0)) := setRow_heap w _ _ _ e (0, 0) hh
  have hlens : (st.setBox b off l).bx.length = st.bx.length := by simp [St.setBox]
  have hat := St.at_setBox (st := st) hb hle
  -- what stands at a place that did not turn
  have hcell : ∀ c, (w.setRow (r.β b) (put3 vals.toList off vs).toArray).cell? ⟨r.β b, c, none⟩ = (put3 vals.toList off vs)[c]? := fun c => by
    rw [cell_of_row _ _ c _ e _ hnew]; simp
  have hcell0 : ∀ c, w.cell? ⟨r.β b, c, none⟩ = vals.toList[c]? := fun c => by rw [cell_of_row _ _ c _ e _ hh]; simp
  have hal : ∀ p, st.ex p → (∀ c, p = .b b c → ¬ (off ≤ c ∧ c < off + l.length)) → alpha a (w.setRow (r.β b) (put3 vals.toList off vs).toArray) (r.setB b off l.length γc) p = alpha a w r p := by
    intro p hp hn
    cases p with
    | t t c => rfl
    | b b' c =>
      by_cases e : b' = b
      · subst e
        simp only [alpha]
        show ((w.setRow (r.β b') _).cell? ⟨r.β b', c, none⟩).getD undef = _
        rw [hcell, hcell0, put3_at hvl, if_neg (by rw [hlen]; exact hn c rfl)]
      · refine alpha_box_eq rfl (hold _ fun he => e (h.bb b' b hp hbl he))
  have hown : ∀ p g, r.γ p = some g → g ≠ r.β b := fun p g hg e => h.exb p g b hg hbl e.symm
  have lift : ∀ x v g, (∀ q, x.names = some q → st.ex q ∧ ∀ c, q = .b b c → ¬ (off ≤ c ∧ c < off + l.length)) → (∀ k, g = some k → k ≠ r.β b) → RepC P w r st (alpha a w r) x v g →
      RepC P (w.setRow (r.β b) (put3 vals.toList off vs).toArray) (r.setB b off l.length γc) (st.setBox b off l) (alpha a (w.setRow (r.β b) (put3 vals.toList off vs).toArray) (r.setB b off l.length γc)) x v g := by
    intro x v g hn hg hx
    refine hx.mono (fun _ h => h) (fun k hk => hold k fun e => h.not_sh hXg (e ▸ hk)) (fun k hk => hold k (hg k hk)) (fun b hb => ⟨by rw [hlens]; exact hb, rfl⟩) (fun q hq hl => ?_)
    obtain ⟨h6, h7⟩ := hn q hq
    refine ⟨?_, hal q h6 h7⟩
    obtain ⟨y, hy, hd⟩ := hl
    rw [hat] at hy
    cases q with
    | t t c => exact ⟨y, hy, hd⟩
    | b b' c =>
      simp only at hy
      split at hy
      · rename_i hcond
        obtain ⟨rfl, hcond⟩ := hcond
        exact absurd hcond (h7 c rfl)
      · exact ⟨y, hy, hd⟩
  have hnames : ∀ p x, st.at p = some x → ∀ q, x.names = some q → st.ex q ∧ ∀ c, q = .b b c → ¬ (off ≤ c ∧ c < off + l.length) := fun p x hx q hq =>
    ⟨h.nm p x q hx hq, fun c e => by subst e; exact hno p x c hx hq⟩
  have hgam : ∀ p g, (r.setB b off l.length γc).γ p = some g → (∃ c, p = .b b c ∧ (off ≤ c ∧ c < off + l.length) ∧ γc (c - off) = some g) ∨ (r.γ p = some g ∧ ∀ c, p = .b b c → ¬ (off ≤ c ∧ c < off + l.length)) := by
    intro p g hg
    cases p with
    | t t c => exact .inr ⟨hg, fun _ h => by cases h⟩
    | b b' c =>
      simp only [Rs.setB] at hg
      split at hg
      · rename_i hcond
        obtain ⟨rfl, hcond⟩ := hcond
        exact .inl ⟨c, rfl, hcond, hg⟩
      · rename_i hcond
        exact .inr ⟨hg, fun c' he hcd => by cases he; exact hcond ⟨rfl, hcd⟩⟩
  refine ⟨h.sz, by rw [hlens]; exact h.m, h.tm, fun b' cs' hb' => ?_, fun p x hx => ?_, fun p x q hx hq => ?_, fun p g hg => ?_, fun p q g hp hq => ?_, fun p g b' hg hb' => ?_, by rw [hlens]; exact h.bb, fun g hg => ?_, h.defers, LaidFacts.mono (fun _ h => h) (fun g hg => hold g (fun e => (h.sh g hg).2.2 b hbl e.symm)) h.lw, h.fx⟩
  · obtain ⟨cs0, h6, h7⟩ := St.bx_setBox hb'
    by_cases e' : b' = b
    · subst e'
      rw [hb] at h6; cases h6
      rw [if_pos rfl] at h7; subst h7
      refine ⟨⟨_, e, hnew, by simp [put3_length hle, put3_length hvl, h3], fun x hx => ?_⟩, fun x hx => ?_⟩
      · simp only [List.mem_toArray, put3, List.mem_append] at hx
        rcases hx with (hx | hx) | hx
        · exact h4 x (by simpa using List.mem_of_mem_take hx)
        · exact h1 x hx
        · exact h4 x (by simpa using List.mem_of_mem_drop hx)
      · simp only [put3, List.mem_append] at hx
        rcases hx with (hx | hx) | hx
        · exact h5 x (List.mem_of_mem_take hx)
        · exact hbx x hx
        · exact h5 x (List.mem_of_mem_drop hx)
    · rw [if_neg e'] at h7; subst h7
      obtain ⟨⟨vs', e'', h8, h9⟩, h10⟩ := h.bx b' cs' h6
      exact ⟨⟨vs', e'', by rw [show (r.setB b off l.length γc).β b' = r.β b' from rfl, hold _ fun he => e' (h.bb b' b (List.getElem?_eq_some_iff.1 h6).1 hbl he)]; exact h8, h9⟩, h10⟩
  · rw [hat] at hx
    cases p with
    | t t c =>
      rw [hal _ (by obtain ⟨pv, h6, _⟩ := St.at_tmp hx; exact ⟨pv, h6⟩) (fun _ h => by cases h)]
      exact lift _ _ _ (hnames _ x hx) (fun k hk => hown _ k hk) (h.cell _ x hx)
    | b b' c =>
      simp only at hx
      split at hx
      · rename_i hcond
        obtain ⟨rfl, hcond⟩ := hcond
        have hj : c - off < l.length := by omega
        have hv : alpha a (w.setRow (r.β b') (put3 vals.toList off vs).toArray) (r.setB b' off l.length γc) (.b b' c) = vs[c - off] := by
          simp only [alpha]
          show ((w.setRow (r.β b') _).cell? ⟨r.β b', c, none⟩).getD undef = _
          rw [hcell, put3_at hvl, if_pos (by rw [hlen]; exact hcond), List.getElem?_eq_getElem (by omega)]
          rfl
        rw [hv]
        have hg : (r.setB b' off l.length γc).γ (.b b' c) = γc (c - off) := by simp only [Rs.setB]; rw [if_pos ⟨trivial, hcond⟩]
        rw [hg]
        refine lift _ _ _ (fun q hq => ?_) (fun k hk => ?_) (hc (c - off) x _ hx (List.getElem?_eq_getElem (by omega)))
        · have := hbx x (List.mem_of_getElem? hx)
          cases x <;> simp [PC.boxable, PC.names] at this hq
        · exact fun e => (hγ _ k hk).2.2.2 b' hbl e.symm
      · rename_i hcond
        rw [hal (.b b' c) (St.at_box hx).1 (fun c' he hcd => by cases he; exact hcond ⟨rfl, hcd⟩)]
        have hg : (r.setB b off l.length γc).γ (.b b' c) = r.γ (.b b' c) := by simp only [Rs.setB]; rw [if_neg hcond]
        rw [hg]
        exact lift _ _ _ (hnames _ x hx) (fun k hk => hown _ k hk) (h.cell _ x hx)
  · have go : st.ex q → (st.setBox b off l).ex q := fun he => by
      cases q with
      | t k c => exact he
      | b b c => simp only [St.ex, hlens] at he ⊢; exact he
    rw [hat] at hx
    cases p with
    | t t c => exact go (h.nm _ x q hx hq)
    | b b' c =>
      simp only at hx
      split at hx
      · have := hbx x (List.mem_of_getElem? hx)
        cases x <;> simp [PC.boxable, PC.names] at this hq
      · exact go (h.nm _ x q hx hq)
  · rcases hgam p g hg with ⟨c, rfl, hcond, hc'⟩ | ⟨hg', hn⟩
    · obtain ⟨e', xs, hx⟩ := (hγ _ g hc').1
      exact ⟨e', xs, by rw [hat]; simp only; rw [if_pos ⟨trivial, hcond⟩]; exact hx⟩
    · obtain ⟨e', xs, hx⟩ := h.live p g hg'
      refine ⟨e', xs, ?_⟩
      rw [hat]
      cases p with
      | t t c => exact hx
      | b b' c =>
        simp only
        rw [if_neg (fun hcond => by obtain ⟨rfl, hcd⟩ := hcond; exact hn c rfl hcd)]
        exact hx
  · rcases hgam p g hp with ⟨c, rfl, hcond, hc'⟩ | ⟨hg', hn⟩ <;> rcases hgam q g hq with ⟨c2, rfl, hcond2, hc2⟩ | ⟨hg2, hn2⟩
    · have := hinj _ _ g hc' hc2
      rw [show c = c2 by omega]
    · exact absurd hg2 ((hγ _ g hc').2.2.1 q)
    · exact absurd hg' ((hγ _ g hc2).2.2.1 p)
    · exact h.inj p q g hg' hg2
  · rw [hlens] at hb'
    rcases hgam p g hg with ⟨c, rfl, hcond, hc'⟩ | ⟨hg', hn⟩
    · exact (hγ _ g hc').2.2.2 b' hb'
    · exact h.exb p g b' hg' hb'
  · obtain ⟨h6, h7, h8⟩ := h.sh g hg
    refine ⟨by simpa [World.setRow] using h6, fun p hp => ?_, by rw [hlens]; exact h8⟩
    rcases hgam p g hp with ⟨c, rfl, hcond, hc'⟩ | ⟨hg', hn⟩
    · exact (hγ _ g hc').2.1 hg
    · exact h7 p hg'

theorem Step.setRow {m nb nb' : Nat} {g : Nat} {cs : Array Value} {r' : Rs} (hg : r.X nb g) (hS : r'.Sh = r.Sh) (hβ : r'.β = r.β) (hγ : ∀ k, r'.X nb' k → r.X nb k) (hκ : r'.κ = r.κ := by rfl) : Step m w r nb (w.setRow g cs) r' nb' :=
  ⟨rfl, rfl, rfl, by simp [World.setRow], fun k _ hk => setRow_other w g k cs (fun e => hk (e ▸ hg)), fun _ h => hS ▸ h, fun _ h => .inl (hS ▸ h), fun k hk => .inl (hγ k hk), fun _ _ => by rw [hβ], hκ⟩

theorem execOp_store {o : Oper} {t : TypeId} {x y : Operand} {g off : Nat} {v : Value} {vals : Array Value} {e : TypeId} (ho : o.op = .store t x y) (hx : a.eval x = .pointer (some ⟨g, off, none⟩)) (hy : a.eval y = v) (hs : P.size? t = some v.cells.size)
    (hh : w.heap[g]? = some (.cells vals e (0, 0))) (hle : off + v.cells.size ≤ vals.size) (h1 : ∀ u ∈ v.cells, u.oneCell' = true) :
    (execOp a.eval o).run P w = .ok .skip (w.setRow g (put3 vals.toList off v.cells.toList).toArray) := by
  have hr := run_storeCells_at (P := P) g off e v.cells.toList 0 vals w hh (by simpa using hle) (fun u hu => h1 u (by simpa using hu))
  simp only [Nat.add_zero] at hr
  simp only [execOp, ho, hx, hy, Instr.storeAt, Instr.sureAddr, storeVar, Sem.run_bind, Sem.run_pure, Result.andThen_ok, run_sizeOf hs]
  rw [Sem.run_ite, if_neg (by simp)]
  rw [hr]
  rfl

/-- A box is stored into: cells that own nothing. -/
theorem OpOK.storeBox {o : Oper} {t : TypeId} {x y : Operand} {b off n : Nat} {cs : List PC} {pv : PV} (ho : o.op = .store t x y) (hd : o.dst = none) (hs : P.size? t = some n) (hx : st.use x = some ⟨.one, [.ref b off]⟩) (hy : st.use y = some pv)
    (hsh : notTup pv.sh = true) (hb : st.bx[b]? = some cs) (hn : pv.cs.length = n) (hle : off + n ≤ cs.length) (hbx : pv.cs.all (·.boxable) = true) (hno : st.noNm b off n) :
    OpOK P o st (st.setBox b off pv.cs) := by
  intro a w r hi K Q hK
  obtain ⟨_, ⟨_, hc⟩, _⟩ := (hi.use hx).out
  have hv : a.eval x = .pointer (some ⟨r.β b, off, none⟩) := by
    generalize a.eval x = v at hc
    cases hc with
    | s hs => cases hs
    | ref h => rfl
  obtain ⟨hf, hcc⟩ := hi.use hy
  obtain ⟨⟨vals, e, hh, hvs, _⟩, _⟩ := hi.bx b cs hb
  have hcells : (a.eval y).cells.toList = flat (a.eval y) ∧ (a.eval y).cells.size = pv.cs.length ∧ ∀ u ∈ (a.eval y).cells, u.oneCell' = true := by
    cases hs' : pv.sh with
    | one =>
      rw [hs'] at hf
      obtain ⟨h1, h2⟩ := hf
      rw [flat_one h2, cells_one h2, h1]
      exact ⟨rfl, rfl, fun u hu => by simp at hu; subst hu; exact h2⟩
    | agg =>
      rw [hs'] at hf
      obtain ⟨c, h1, h2, h3⟩ := hf
      rw [h1]
      exact ⟨rfl, h2, h3⟩
    | tup l => rw [hs'] at hsh; simp [notTup] at hsh
  obtain ⟨e1, e2, e3⟩ := hcells
  subst hn
  have hrun := execOp_store (P := P) (a := a) (w := w) ho hv rfl (by rw [hs, e2]) hh (by rw [e2, hvs]; exact hle) e3
  have hinv := hi.storeBox (vs := (a.eval y).cells.toList) (γc := fun _ => none) hb hh (by rw [Array.length_toList, e2]) hle (fun v hv => e3 v (by simpa using hv)) (fun u hu => List.all_eq_true.1 hbx u hu) hno
    (fun j u v hu hv => by
      obtain ⟨h4, _⟩ := hcc j u hu
      rw [← e1, List.getD_eq_getElem?_getD, hv] at h4
      exact h4) (fun _ _ h => by cases h) (fun _ _ _ h => by cases h)
  unfold Oper.wp
  rw [hrun, Oper.upon_skip, hd]
  rw [hd] at hK
  refine hK undef _ _ rfl hinv ?_
  have hlens : (st.setBox b off pv.cs).bx.length = st.bx.length := by simp [St.setBox]
  refine Step.setRow (.inr ⟨b, (List.getElem?_eq_some_iff.1 hb).1, rfl⟩) rfl rfl (fun k hk => ?_)
  rw [hlens] at hk
  rcases hk with ⟨p, hp⟩ | hk
  · cases p with
    | t t c => exact .inl ⟨_, hp⟩
    | b b' c =>
      simp only [Rs.setB] at hp
      split at hp
      · cases hp
      · exact .inl ⟨_, hp⟩
  · exact .inr hk

end
end Go.Proofs.YtaikjjlbfdkgmaaDoor.E
