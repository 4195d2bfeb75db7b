/- The engine, part L: functions' contracts, bodies, calls. Plain lemmas; no program. -/
import Derived.Test.YtaikjjlbfdkgmaaDoorEngK
set_option linter.unusedVariables false
set_option linter.unusedSectionVars false
set_option linter.unusedSimpArgs false
namespace Go.Proofs.YtaikjjlbfdkgmaaDoor.E
open Go.RowKit
variable [LaidFacts]

section
variable {P : Program}

def enum : Nat → List PV → List (Nat × PV)
  | _, [] => []
  | k, x :: l => (k, x) :: enum (k + 1) l

theorem look_enum : ∀ (l : List PV) (k t : Nat), look (enum k l) t = if k ≤ t then l[t - k]? else none
  | [], k, t => by simp [enum, look]
  | x :: l, k, t => by
    simp only [enum, look, look_enum l (k + 1) t]
    by_cases h : k = t
    · subst h; simp
    · rw [if_neg h]
      by_cases h2 : k ≤ t
      · rw [if_pos (by omega), if_pos h2, show t - k = (t - (k + 1)) + 1 by omega, List.getElem?_cons_succ]
      · rw [if_neg (by omega), if_neg h2]

/-- WHAT A FUNCTION DOES: from these arguments, with these boxes, it comes to this result, and leaves the boxes so. -/
def Fn (P : Program) (f : FuncId) (args : List PV) (bx : List (List PC)) (res : PV) (bx' : List (List PC)) : Prop :=
  ∀ (vals : Array Value) (w : World) (r : Rs), Inv P ⟨args.length, enum 0 args, bx, bx.length, []⟩ ⟨vals, []⟩ w r →
    Calls P f vals w fun e w' => ∃ v r', e = .returned v ∧ Inv P ⟨1, [(0, res)], bx', 0, []⟩ ⟨#[v], []⟩ w' r' ∧ Step bx.length w r bx.length w' r' bx'.length

/-- A cell that may leave the frame: it names no place of it, and no box from n on. -/
def PC.free (n : Nat) : PC → Bool
  | .al _ | .vw .. | .el .. => false
  | .ref b _ => decide (b < n)
  | .fn _ caps => caps.all fun x => match x with
    | .ref b _ => decide (b < n)
    | .fn .. | .al _ | .vw .. | .el .. | .own .. | .dead => false
    | _ => true
  | _ => true

theorem RepF.free {w : World} {Sh : Nat → Prop} {β : Nat → Nat} {nb n : Nat} {x : PC} {v : Value} (h : RepF w Sh β nb x v) (hf : x.free n = true) : RepF w Sh β n x v := by
  cases h with
  | s h => exact .s h
  | ref h => exact .ref (by simpa [PC.free] using hf)
  | fn hn hr =>
    refine .fn hn fun j y u hj hu => ?_
    have hy := List.all_eq_true.1 hf y (List.mem_of_getElem? hj)
    have := hr j y u hj hu
    cases this with
    | s h => exact .s h
    | ref h => exact .ref (by simpa using hy)
    | fn _ _ => simp at hy

theorem RepC.free {w : World} {r r' : Rs} {st st' : St} {al al' : Place → Value} {x : PC} {v : Value} {g : Option Nat} (h : RepC P w r st al x v g) (hf : x.free st'.bx.length = true) (hS : ∀ k, r.Sh k → r'.Sh k) (hβ : ∀ b, b < st'.bx.length → r'.β b = r.β b) : RepC P w r' st' al' x v g := by
  cases x <;> try (simp only [PC.free] at hf; cases hf; done)
  case own e xs => exact RepOwn.mono hS (fun _ _ => rfl) (fun _ _ => rfl) h
  case dead => exact h
  all_goals exact ⟨h.1, (h.2.free hf).mono hS (fun _ _ => rfl) (fun b hb => ⟨hb, hβ b hb⟩)⟩

/-- The results, out of the temporaries. -/
def gather (st : St) : List Nat → Option (List (Option Nat) × List PC)
  | [] => some ([], [])
  | t :: l => match st.get t, gather st l with
    | some ⟨.one, cs⟩, some (sh, ds) => some (none :: sh, cs ++ ds)
    | some ⟨.agg, cs⟩, some (sh, ds) => some (some cs.length :: sh, cs ++ ds)
    | _, _ => none
def resultsOf (st : St) : List Nat → Option PV
  | [t] => st.get t
  | l => (gather st l).map fun x => ⟨.tup x.1, x.2⟩
/-- Where each cell of the results stands. -/
def placesOf (st : St) : List Nat → List Place
  | [] => []
  | t :: l => (match st.get t with | some pv => (List.range pv.cs.length).map (Place.t t) | none => []) ++ placesOf st l

def resV (tmps : Array Value) : List Nat → Value
  | [t] => tmps.getD t undef
  | l => .tuple (l.map fun t => tmps.getD t undef).toArray

theorem run_results {fn : Func} {ts : List Nat} (h : fn.results = (ts.map ResultVar.tmp).toArray) (hl : ts.length ≤ 4) (tmps : Array Value) (w : World) : (results fn tmps).run P w = .ok (resV tmps ts) w := by
  match ts, hl with
  | [], _ => simp [results, h, resV]
  | [a], _ => simp [results, h, resV]
  | [a, b], _ => simp [results, h, resV]
  | [a, b, c], _ => simp [results, h, resV]
  | [a, b, c, d], _ => simp [results, h, resV]
  | _ :: _ :: _ :: _ :: _ :: _, hl => simp at hl

variable {st : St} {a : Act} {w : World} {r : Rs}

theorem Inv.tmpv (h : Inv P st a w r) {t : Nat} {pv : PV} (ht : st.get t = some pv) : pv.sh.fits pv.cs.length (a.tmps.getD t undef) ∧ ∀ c, alpha a w r (.t t c) = (flat (a.tmps.getD t undef)).getD c undef := by
  obtain ⟨v, h1, h2⟩ := h.tm t pv ht
  have he' : a.tmps.getD t undef = v := by simp [Array.getD_eq_getD_getElem?, h1]
  exact ⟨by rw [he']; exact h2, fun c => rfl⟩

theorem fits_flat {sh : Shape} {n : Nat} {v : Value} (h : sh.fits n v) (hs : ∀ l, sh ≠ .tup l) : v.cells.toList.length = n ∧ v.cells.toList = flat v ∧ (∀ x ∈ v.cells, x.oneCell' = true) ∧ (match sh with | .agg => ∃ cs, v = .agg cs ∧ cs.size = n | _ => v.oneCell' = true) := by
  cases sh with
  | one =>
    obtain ⟨h1, h2⟩ := h
    rw [cells_one h2, flat_one h2]
    exact ⟨by simp [h1], rfl, fun x hx => by simp at hx; subst hx; exact h2, h2⟩
  | agg =>
    obtain ⟨cs, rfl, h2, h3⟩ := h
    exact ⟨by simpa [Value.cells] using h2, rfl, h3, cs, rfl, h2⟩
  | tup l => exact absurd rfl (hs l)

theorem gather_spec (h : Inv P st a w r) : ∀ (ts : List Nat) {sh : List (Option Nat)} {cs : List PC}, gather st ts = some (sh, cs) →
    (placesOf st ts).length = cs.length ∧ (∀ c x, cs[c]? = some x → ∃ p, (placesOf st ts)[c]? = some p ∧ st.at p = some x ∧ ((ts.map fun t => a.tmps.getD t undef).flatMap fun v => v.cells.toList).getD c undef = alpha a w r p) ∧
    ((ts.map fun t => a.tmps.getD t undef).flatMap fun v => v.cells.toList).length = cs.length ∧ sh = (ts.map fun t => a.tmps.getD t undef).map aggSize ∧
    ∀ v ∈ (ts.map fun t => a.tmps.getD t undef), ∀ y ∈ v.cells, y.oneCell' = true
  | [], sh, cs, hg => by
    simp only [gather, Option.some.injEq, Prod.mk.injEq] at hg
    obtain ⟨rfl, rfl⟩ := hg
    simp [placesOf]
  | t :: l, sh, cs, hg => by
    have key : ∀ (s0 : Shape) (c0 : List PC) (o0 : Option Nat) (sh' : List (Option Nat)) (ds : List PC), st.get t = some ⟨s0, c0⟩ → gather st l = some (sh', ds) → (∀ l, s0 ≠ .tup l) → (aggSize (a.tmps.getD t undef) = o0) → sh = o0 :: sh' → cs = c0 ++ ds →
        (placesOf st (t :: l)).length = cs.length ∧ (∀ c x, cs[c]? = some x → ∃ p, (placesOf st (t :: l))[c]? = some p ∧ st.at p = some x ∧ (((t :: l).map fun t => a.tmps.getD t undef).flatMap fun v => v.cells.toList).getD c undef = alpha a w r p) ∧
        (((t :: l).map fun t => a.tmps.getD t undef).flatMap fun v => v.cells.toList).length = cs.length ∧ sh = ((t :: l).map fun t => a.tmps.getD t undef).map aggSize ∧
        ∀ v ∈ ((t :: l).map fun t => a.tmps.getD t undef), ∀ y ∈ v.cells, y.oneCell' = true := by
      intro s0 c0 o0 sh' ds h1 h2 h3 h4 h5 h6
      subst h5 h6
      obtain ⟨i1, i2, i3, i4, i5⟩ := gather_spec h l h2
      obtain ⟨f1, f2⟩ := h.tmpv h1
      obtain ⟨f3, f4, f5, _⟩ := fits_flat f1 h3
      have hp : placesOf st (t :: l) = (List.range c0.length).map (Place.t t) ++ placesOf st l := by simp [placesOf, h1]
      refine ⟨by rw [hp]; simp [i1], fun c x hx => ?_, by simp only [List.map_cons, List.flatMap_cons, List.length_append, f3, i3], by simp only [List.map_cons, h4, i4], fun v hv => ?_⟩
      · rw [List.getElem?_append] at hx
        rw [hp]
        simp only [List.map_cons, List.flatMap_cons, List.getD_eq_getElem?_getD]
        split at hx
        · rename_i hlt
          refine ⟨.t t c, by rw [List.getElem?_append_left (by simpa using hlt)]; simp [hlt], by simp [St.at, h1, hx], ?_⟩
          rw [List.getElem?_append_left (by rw [f3]; exact hlt), f2, f4, List.getD_eq_getElem?_getD]
        · rename_i hge
          obtain ⟨p, j1, j2, j3⟩ := i2 _ x hx
          refine ⟨p, by rw [List.getElem?_append_right (by simpa using Nat.le_of_not_lt hge)]; simpa using j1, j2, ?_⟩
          rw [List.getElem?_append_right (by rw [f3]; exact Nat.le_of_not_lt hge), f3]
          simpa [List.getD_eq_getElem?_getD] using j3
      · simp only [List.map_cons, List.mem_cons] at hv
        rcases hv with rfl | hv
        · exact f5
        · exact i5 v hv
    simp only [gather] at hg
    split at hg
    · rename_i c0 sh' ds h1 h2
      simp only [Option.some.injEq, Prod.mk.injEq] at hg
      obtain ⟨f1, _⟩ := h.tmpv h1
      have : aggSize (a.tmps.getD t undef) = (none : Option Nat) := by
        obtain ⟨_, h3⟩ := f1
        generalize a.tmps.getD t undef = v at h3
        cases v <;> first | rfl | simp [Value.oneCell'] at h3
      exact key .one c0 none sh' ds h1 h2 (fun _ h => by cases h) this hg.1.symm hg.2.symm
    · rename_i c0 sh' ds h1 h2
      simp only [Option.some.injEq, Prod.mk.injEq] at hg
      obtain ⟨f1, _⟩ := h.tmpv h1
      have : aggSize (a.tmps.getD t undef) = some c0.length := by
        obtain ⟨cs', h3, h4, _⟩ := f1
        rw [h3]; simp only [aggSize, h4]
      exact key .agg c0 (some c0.length) sh' ds h1 h2 (fun _ h => by cases h) this hg.1.symm hg.2.symm
    · cases hg

theorem resultsOf_spec (h : Inv P st a w r) (ts : List Nat) {res : PV} (hr : resultsOf st ts = some res) :
    res.sh.fits res.cs.length (resV a.tmps ts) ∧ (placesOf st ts).length = res.cs.length ∧ ∀ c x, res.cs[c]? = some x → ∃ p, (placesOf st ts)[c]? = some p ∧ st.at p = some x ∧ (flat (resV a.tmps ts)).getD c undef = alpha a w r p := by
  have multi : ∀ sh cs, gather st ts = some (sh, cs) → resV a.tmps ts = .tuple (ts.map fun t => a.tmps.getD t undef).toArray → res = ⟨.tup sh, cs⟩ →
      res.sh.fits res.cs.length (resV a.tmps ts) ∧ (placesOf st ts).length = res.cs.length ∧ ∀ c x, res.cs[c]? = some x → ∃ p, (placesOf st ts)[c]? = some p ∧ st.at p = some x ∧ (flat (resV a.tmps ts)).getD c undef = alpha a w r p := by
    intro sh cs hg hv hres
    subst hres
    obtain ⟨i1, i2, i3, i4, i5⟩ := gather_spec h ts hg
    rw [hv]
    exact ⟨⟨_, rfl, by simpa [flat] using i3, by simpa using i4, fun x hx y hy => i5 x (by simpa using hx) y hy⟩, i1, fun c x hx => by simpa [flat] using i2 c x hx⟩
  match ts, hr with
  | [t], hr =>
    obtain ⟨f1, f2⟩ := h.tmpv hr
    refine ⟨f1, by simp only [placesOf, show st.get t = some res from hr]; simp, fun c x hx => ⟨.t t c, ?_, by simp [St.at, show st.get t = some res from hr, hx], (f2 c).symm⟩⟩
    have hc : c < res.cs.length := (List.getElem?_eq_some_iff.1 hx).1
    simp only [placesOf, show st.get t = some res from hr]
    simp [hc]
  | [], hr =>
    simp only [resultsOf] at hr
    obtain ⟨x, hx, rfl⟩ := Option.map_eq_some_iff.1 hr
    exact multi x.1 x.2 hx rfl rfl
  | a1 :: a2 :: l, hr =>
    simp only [resultsOf] at hr
    obtain ⟨x, hx, rfl⟩ := Option.map_eq_some_iff.1 hr
    exact multi x.1 x.2 hx rfl rfl

theorem placesOf_mem {ts : List Nat} {p : Place} (h : p ∈ placesOf st ts) : ∃ t c, p = .t t c ∧ t ∈ ts := by
  induction ts with
  | nil => simp [placesOf] at h
  | cons t l ih =>
    simp only [placesOf, List.mem_append] at h
    rcases h with h | h
    · split at h
      · obtain ⟨c, _, rfl⟩ := List.mem_map.1 h
        exact ⟨t, c, rfl, List.mem_cons_self ..⟩
      · simp at h
    · obtain ⟨t', c, h1, h2⟩ := ih h
      exact ⟨t', c, h1, List.mem_cons_of_mem _ h2⟩

theorem placesOf_nodup : ∀ {ts : List Nat}, ts.Nodup → (placesOf st ts).Nodup
  | [], _ => by simp [placesOf]
  | t :: l, h => by
    obtain ⟨h1, h2⟩ := List.nodup_cons.1 h
    simp only [placesOf]
    refine List.nodup_append.2 ⟨?_, placesOf_nodup h2, fun p hp q hq e => ?_⟩
    · split
      · refine List.Pairwise.map (R := (· ≠ ·)) _ (fun a b hab e => ?_) List.nodup_range
        cases e; exact hab rfl
      · exact List.nodup_nil
    · subst e
      obtain ⟨t', c, rfl, ht'⟩ := placesOf_mem hq
      split at hp
      · obtain ⟨c', _, e⟩ := List.mem_map.1 hp
        cases e
        exact h1 ht'
      · simp at hp

theorem free_names {n : Nat} {x : PC} (h : x.free n = true) : x.names = none := by cases x <;> first | rfl | simp [PC.free] at h

def Rs.leave (r : Rs) (pl : List Place) (n : Nat) : Rs :=
  { Sh := r.Sh, β := r.β, κ := r.κ, γ := fun p => match p with
    | .t t c => if t = 0 then (pl[c]?).bind r.γ else none
    | .b b c => if b < n then r.γ (.b b c) else none }

/-- Behind a body: the result alone, and the boxes that were there. -/
theorem Inv.leave (h : Inv P st a w r) {ts : List Nat} {res : PV} (hr : resultsOf st ts = some res) (hnd : ts.Nodup) {n : Nat} (hn : n ≤ st.bx.length) (hfree : res.cs.all (·.free n) = true) (hbx : ∀ cs ∈ st.bx.take n, cs.all (·.free n) = true) :
    ∃ r', Inv P ⟨1, [(0, res)], st.bx.take n, 0, []⟩ ⟨#[resV a.tmps ts], []⟩ w r' ∧ r'.Sh = r.Sh ∧ r'.β = r.β ∧ r'.κ = r.κ ∧ ∀ g, r'.X n g → r.X st.bx.length g := by
  obtain ⟨hfit, hpl, hres⟩ := resultsOf_spec h ts hr
  have hnodup := placesOf_nodup (st := st) hnd
  have hlen : (st.bx.take n).length = n := by simp; omega
  refine ⟨r.leave (placesOf st ts) n, ?_, rfl, rfl, rfl, ?_⟩
  · have hget : ∀ t pv, (⟨1, [(0, res)], st.bx.take n, 0, []⟩ : St).get t = some pv → t = 0 ∧ pv = res := by
      intro t pv ht
      simp only [St.get, look] at ht
      split at ht
      · rename_i e; cases ht; exact ⟨e.symm, rfl⟩
      · cases ht
    have hbox : ∀ b cs, (st.bx.take n)[b]? = some cs → b < n ∧ st.bx[b]? = some cs := by
      intro b cs hb
      rw [List.getElem?_take] at hb
      split at hb
      · exact ⟨‹_›, hb⟩
      · cases hb
    have hat : ∀ p x, (⟨1, [(0, res)], st.bx.take n, 0, []⟩ : St).at p = some x → (∃ c, p = .t 0 c ∧ res.cs[c]? = some x) ∨ (∃ b c, p = .b b c ∧ b < n ∧ st.at (.b b c) = some x) := by
      intro p x hp
      cases p with
      | t t c =>
        obtain ⟨pv, h1, h2⟩ := St.at_tmp hp
        obtain ⟨rfl, rfl⟩ := hget t pv h1
        exact .inl ⟨c, rfl, h2⟩
      | b b c =>
        obtain ⟨_, cs, h1, h2⟩ := St.at_box hp
        obtain ⟨h3, h4⟩ := hbox b cs h1
        exact .inr ⟨b, c, rfl, h3, by simp [St.at, h4, h2]⟩
    have hfr : ∀ p x, (⟨1, [(0, res)], st.bx.take n, 0, []⟩ : St).at p = some x → x.free n = true := by
      intro p x hp
      rcases hat p x hp with ⟨c, _, hx⟩ | ⟨b, c, rfl, hb, hx⟩
      · exact List.all_eq_true.1 hfree x (List.mem_of_getElem? hx)
      · obtain ⟨_, cs, h1, h2⟩ := St.at_box hx
        refine List.all_eq_true.1 (hbx cs ?_) x (List.mem_of_getElem? h2)
        exact List.mem_of_getElem? (by rw [List.getElem?_take, if_pos hb]; exact h1)
    have hγ : ∀ p g, (r.leave (placesOf st ts) n).γ p = some g → (∃ c q, p = .t 0 c ∧ (placesOf st ts)[c]? = some q ∧ r.γ q = some g) ∨ (∃ b c, p = .b b c ∧ b < n ∧ r.γ (.b b c) = some g) := by
      intro p g hg
      cases p with
      | t t c =>
        simp only [Rs.leave] at hg
        split at hg
        · rename_i e; subst e
          obtain ⟨q, h1, h2⟩ := Option.bind_eq_some_iff.1 hg
          exact .inl ⟨c, q, rfl, h1, h2⟩
        · cases hg
      | b b c =>
        simp only [Rs.leave] at hg
        split at hg
        · exact .inr ⟨b, c, rfl, ‹_›, hg⟩
        · cases hg
    refine ⟨rfl, Nat.zero_le _, fun t pv ht => ?_, fun b cs hb => ?_, fun p x hp => ?_, fun p x q hp hq => ?_, fun p g hg => ?_, fun p q g hp hq => ?_, fun p g b hg hb => ?_, fun b b' hb hb' => h.bb b b' (by simp at hb; omega) (by simp at hb'; omega), fun g hg => ?_, rfl, h.lw, fun _ h => by cases h⟩
    · obtain ⟨rfl, rfl⟩ := hget t pv ht
      exact ⟨_, rfl, hfit⟩
    · exact h.bx b cs (hbox b cs hb).2
    · have hf := hfr p x hp
      rcases hat p x hp with ⟨c, rfl, hx⟩ | ⟨b, c, rfl, hb, hx⟩
      · obtain ⟨q, h1, h2, h3⟩ := hres c x hx
        have hg : (r.leave (placesOf st ts) n).γ (.t 0 c) = r.γ q := by simp [Rs.leave, h1]
        show RepC P w _ _ _ x ((flat (resV a.tmps ts)).getD c undef) _
        rw [hg, h3]
        exact (h.cell q x h2).free (by simpa [hlen] using hf) (fun _ h => h) (fun _ _ => rfl)
      · have hg : (r.leave (placesOf st ts) n).γ (.b b c) = r.γ (.b b c) := by simp [Rs.leave, hb]
        show RepC P w _ _ _ x (alpha a w r (.b b c)) _
        rw [hg]
        exact (h.cell _ x hx).free (by simpa [hlen] using hf) (fun _ h => h) (fun _ _ => rfl)
    · rw [free_names (hfr p x hp)] at hq; cases hq
    · rcases hγ p g hg with ⟨c, q, rfl, h1, h2⟩ | ⟨b, c, rfl, hb, h2⟩
      · obtain ⟨e, xs, hx⟩ := h.live q g h2
        have hc : c < res.cs.length := by rw [← hpl]; exact (List.getElem?_eq_some_iff.1 h1).1
        obtain ⟨q', h3, h4, _⟩ := hres c _ (List.getElem?_eq_getElem hc)
        rw [h1] at h3; cases h3
        rw [hx] at h4
        exact ⟨e, xs, by simp only [St.at, St.get, look, if_true, Option.bind_some]; rw [List.getElem?_eq_getElem hc]; exact h4.symm⟩
      · obtain ⟨e, xs, hx⟩ := h.live _ g h2
        obtain ⟨_, cs, h3, h4⟩ := St.at_box hx
        exact ⟨e, xs, by simp only [St.at, List.getElem?_take, if_pos hb, h3, Option.bind_some]; exact h4⟩
    · rcases hγ p g hp with ⟨c, z, rfl, h1, h2⟩ | ⟨b, c, rfl, hb, h2⟩ <;> rcases hγ q g hq with ⟨c', z', rfl, h1', h2'⟩ | ⟨b', c', rfl, hb', h2'⟩
      · have := h.inj z z' g h2 h2'
        subst this
        have := (List.getElem?_inj (List.getElem?_eq_some_iff.1 h1).1 hnodup).1 (h1.trans h1'.symm)
        rw [this]
      · have := h.inj z _ g h2 h2'
        obtain ⟨t', c'', e, _⟩ := placesOf_mem (List.mem_of_getElem? h1)
        rw [e] at this; cases this
      · have := h.inj _ z' g h2 h2'
        obtain ⟨t', c'', e, _⟩ := placesOf_mem (List.mem_of_getElem? h1')
        rw [e] at this; cases this
      · exact h.inj _ _ g h2 h2'
    · have hb' : b < st.bx.length := by simp at hb; omega
      rcases hγ p g hg with ⟨c, z, rfl, h1, h2⟩ | ⟨b2, c, rfl, hb2, h2⟩
      · exact h.exb z g b h2 hb'
      · exact h.exb _ g b h2 hb'
    · obtain ⟨h1, h2, h3⟩ := h.sh g hg
      refine ⟨h1, fun p hp => ?_, fun b hb => h3 b (by simp at hb; omega)⟩
      rcases hγ p g hp with ⟨c, z, rfl, h4, h5⟩ | ⟨b2, c, rfl, hb2, h5⟩
      · exact h2 z h5
      · exact h2 _ h5
  · intro g hg
    rcases hg with ⟨p, hp⟩ | ⟨b, hb, hbe⟩
    · cases p with
      | t t c =>
        simp only [Rs.leave] at hp
        split at hp
        · obtain ⟨q, h1, h2⟩ := Option.bind_eq_some_iff.1 hp
          exact .inl ⟨q, h2⟩
        · cases hp
      | b b c =>
        simp only [Rs.leave] at hp
        split at hp
        · exact .inl ⟨_, hp⟩
        · cases hp
    · exact .inr ⟨b, by omega, hbe⟩

/-- What a body must end in. -/
def Ends (ts : List Nat) (res : PV) (bx' : List (List PC)) (e : Exit) (st' : St) : Prop :=
  (e = .normal ∨ e = .ret) ∧ resultsOf st' ts = some res ∧ res.cs.all (·.free bx'.length) = true ∧ bx'.length ≤ st'.bx.length ∧ st'.bx.take bx'.length = bx' ∧ ∀ cs ∈ bx', cs.all (·.free bx'.length) = true

theorem Fn.body {f : FuncId} {fn : Func} {c : Code} {args : List PV} {bx bx' : List (List PC)} {res : PV} {ts : List Nat} (hf : P.funcs[f]? = some fn) (hb : fn.body = some c) (hres : fn.results = (ts.map ResultVar.tmp).toArray) (hl : ts.length ≤ 4) (hnd : ts.Nodup)
    (hn : args.length ≤ fn.ntmps) (hbl : bx.length ≤ bx'.length) (h : Tri P c (Ends ts res bx') ⟨fn.ntmps, enum 0 args, bx, bx.length, []⟩) : Fn P f args bx res bx' := by
  intro vals w r hi
  have hsz : vals.size = args.length := hi.sz
  refine calls_of_wp hf hb ?_
  have hstart : Inv P ⟨fn.ntmps, enum 0 args, bx, bx.length, []⟩ ⟨vals ++ Array.replicate (fn.ntmps - vals.size) undef, []⟩ w r := by
    have hal : ∀ p, (⟨args.length, enum 0 args, bx, bx.length, []⟩ : St).ex p → alpha ⟨vals ++ Array.replicate (fn.ntmps - vals.size) undef, []⟩ w r p = alpha ⟨vals, []⟩ w r p := by
      intro p hp
      cases p with
      | t t c =>
        obtain ⟨pv, hp⟩ := hp
        obtain ⟨v, h1, _⟩ := hi.tm t pv hp
        have hlt : t < vals.size := (Array.getElem?_eq_some_iff.1 h1).1
        simp only [alpha, Array.getD_eq_getD_getElem?]
        rw [Array.getElem?_append_left hlt]
      | b b c => rfl
    have hex : ∀ p x, (⟨fn.ntmps, enum 0 args, bx, bx.length, []⟩ : St).at p = some x → (⟨args.length, enum 0 args, bx, bx.length, []⟩ : St).ex p := by
      intro p x hx
      cases p with
      | t t c => obtain ⟨pv, h1, _⟩ := St.at_tmp hx; exact ⟨pv, h1⟩
      | b b c => exact (St.at_box hx).1
    refine ⟨by simp; omega, Nat.le_refl _, fun t pv ht => ?_, hi.bx, fun p x hx => ?_, hi.nm, hi.live, hi.inj, hi.exb, hi.bb, hi.sh, rfl, hi.lw, fun _ h => by cases h⟩
    · obtain ⟨v, h1, h2⟩ := hi.tm t pv ht
      exact ⟨v, by rw [Array.getElem?_append_left (Array.getElem?_eq_some_iff.1 h1).1]; exact h1, h2⟩
    · rw [hal p (hex p x hx)]
      exact (hi.cell p x hx).mono (fun _ h => h) (fun _ _ => rfl) (fun _ _ => rfl) (fun b hb => ⟨hb, rfl⟩) (fun q hq hl => ⟨hl, hal q (hi.nm p x q hx hq)⟩)
  refine Code.wp_mono (fun e a' w' k => ?_) (h _ w r hstart)
  obtain ⟨st', r', ⟨he, hr, hfr, hle, htake, hbf⟩, hm, hinv, hstep⟩ := k
  obtain ⟨r'', h1, h2, h3, h5, h4⟩ := hinv.leave hr hnd hle hfr (by rw [htake]; exact hbf)
  rw [htake] at h1
  have hstep' : Step bx.length w r bx.length w' r'' bx'.length := by
    refine hstep.trans ⟨rfl, rfl, rfl, Nat.le_refl _, fun _ _ _ => rfl, fun g hg => h2 ▸ hg, fun g hg => .inl (h2 ▸ hg), fun g hg => .inl (h4 g hg), fun b _ => by rw [h3], h5⟩
  have hrun := run_results (P := P) hres hl a'.tmps w'
  rcases he with rfl | rfl
  · exact ⟨hinv.defers, _, hrun, _, r'', rfl, h1, hstep'⟩
  · exact ⟨hinv.defers, _, hrun, _, r'', rfl, h1, hstep'⟩

end
end Go.Proofs.YtaikjjlbfdkgmaaDoor.E
