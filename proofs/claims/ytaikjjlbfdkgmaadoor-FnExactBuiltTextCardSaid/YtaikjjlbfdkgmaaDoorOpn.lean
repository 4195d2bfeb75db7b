/- Whatever reads as data of a type holds what its kind says: one lemma a kind, put together for structs, slices and trees. Plain lemmas, for rows of laws over such arguments. -/
import Derived.Test.YtaikjjlbfdkgmaaDoorWWords
import Derived.WideShapes
import Derived.SizedLaws
import Derived.ProofKit
set_option linter.unusedVariables false
set_option linter.unusedSimpArgs false
namespace Go.Proofs.YtaikjjlbfdkgmaaDoorW.Opn
open Go.RowKit Go.WideShapes Go.Proofs.YtaikjjlbfdkgmaaDoorW.PrintWords

/-- What reads, within n steps of depth, as data of type t, is of kind d, and good. -/
def OpF {α : Type} (P : Program) (n : Nat) (t : TypeId) (d : Kd α) (good : α → Prop) : Prop :=
  ∀ (H : Type) (enc : TypeId × Value → H) (w : World) (sp : Nat → Bool) (held : Bool) (fuel : Nat) (cs : List Value) (r : DataW H × List MemPlace), fuel ≤ n →
    DataW.trod enc P w 0 sp held fuel t cs = some r → ∃ x, d.K w x cs ∧ good x

theorem OpF.zero {α : Type} {P : Program} {t : TypeId} {d : Kd α} {good : α → Prop} : OpF P 0 t d good := by
  intro H enc w sp held fuel cs r hf h
  obtain rfl : fuel = 0 := by omega
  simp [DataW.trod] at h

theorem op_int {P : Program} {t : TypeId} {k : IntKind} (ht : P.underlying t = some (.int k)) (n : Nat) : OpF P n t (Kd.int k) (fun x => (Lit.int k x).wf = true) := by
  intro H enc w sp held fuel cs r hf h
  obtain ⟨x, rfl, _, hw⟩ := DataW.trod_int ht h
  exact ⟨x, rfl, hw⟩

theorem op_bool {P : Program} {t : TypeId} (ht : P.underlying t = some .bool) (n : Nat) : OpF P n t Kd.bool (fun _ => True) := by
  intro H enc w sp held fuel cs r hf h
  obtain ⟨x, rfl, _⟩ := DataW.trod_bool ht h
  exact ⟨x, rfl, trivial⟩

theorem op_string {P : Program} {t : TypeId} (ht : P.underlying t = some .string) (n : Nat) : OpF P n t Kd.string (fun x => x.size ≤ maxLen) := by
  intro H enc w sp held fuel cs r hf h
  obtain ⟨x, rfl, _, hw⟩ := DataW.trod_string ht h
  exact ⟨x, rfl, hw⟩

theorem mapM_get {α β : Type} {f : α → Option β} : ∀ {l : List α} {r : List β}, l.mapM f = some r → r.length = l.length ∧ ∀ (j : Nat) (x : α), l[j]? = some x → ∃ y, f x = some y ∧ r[j]? = some y := by
  intro l
  induction l with
  | nil => intro r h; simp at h; subst h; simp
  | cons a l ih =>
    intro r h
    rw [List.mapM_cons] at h
    obtain ⟨y, hy, h⟩ := Option.bind_eq_some_iff.mp h
    obtain ⟨ys, hys, h⟩ := Option.bind_eq_some_iff.mp h
    obtain rfl := Option.some.inj h
    obtain ⟨hl, hg⟩ := ih hys
    refine ⟨by simp [hl], fun j x hx => ?_⟩
    cases j with
    | zero => simp at hx; subst hx; exact ⟨y, hy, rfl⟩
    | succ j => simpa using hg j x (by simpa using hx)

theorem cells_get {w : World} {base : Nat} {a : Addr} {n : Nat} {cs : List Value} (h : w.cells? base a n = some cs) : cs.length = n ∧ ∀ i u, cs[i]? = some u → w.cell? (a.add i) = some u := by
  unfold World.cells? at h
  split at h
  · obtain ⟨hl, hg⟩ := mapM_get h
    refine ⟨by simpa using hl, fun i u hu => ?_⟩
    have hi : i < n := by
      have := (List.getElem?_eq_some_iff.1 hu).1
      simp at hl
      omega
    obtain ⟨y, hy, hr⟩ := hg i i (by simp [List.getElem?_range, hi])
    rw [hu] at hr
    rw [hy, ← hr]
  · cases h

theorem pick_list {α : Type} (n : Nat) (p : Nat → α → Prop) (h : ∀ i, i < n → ∃ x, p i x) : ∃ xs : List α, xs.length = n ∧ ∀ i x, xs[i]? = some x → p i x := by
  induction n with
  | zero => exact ⟨[], rfl, fun i x h => by simp at h⟩
  | succ n ih =>
    obtain ⟨xs, hl, hx⟩ := ih (fun i hi => h i (by omega))
    obtain ⟨x, hp⟩ := h n (by omega)
    refine ⟨xs ++ [x], by simp [hl], fun i y hy => ?_⟩
    by_cases hi : i < n
    · rw [List.getElem?_append_left (by omega)] at hy
      exact hx i y hy
    · have hi2 : i = n := by
        have := (List.getElem?_eq_some_iff.1 hy).1
        simp [hl] at this
        omega
      subst hi2
      rw [List.getElem?_append_right (by omega)] at hy
      simp [hl] at hy
      subst hy
      exact hp

theorem addr_add (a : Addr) (i j : Nat) : (a.add i).add j = a.add (i + j) := by
  unfold Addr.add
  by_cases h1 : i = 0 <;> by_cases h2 : j = 0 <;> simp [h1, h2, Nat.add_assoc]

theorem op_slice {α : Type} {P : Program} {t e : TypeId} {d : Kd α} {good : α → Prop} {n : Nat} (ht : P.underlying t = some (.slice e)) (hs : P.cellsOf e = d.sz) (he : OpF P n e d good) :
    OpF P (n + 1) t (Kd.slice e d) (fun xs => xs.length ≤ maxLen ∧ ∀ x, x ∈ xs → good x) := by
  intro H enc w sp held fuel cs r hf h
  rcases DataW.trod_slice ht h with ⟨rfl, _⟩ | ⟨a, len, cap, elems, rest, m, rfl, rfl, _, _, hlc, hcm, hel, hg, _⟩
  · exact ⟨[], ⟨none, 0, rfl, Nat.le_refl _, rfl, Nat.zero_le _, fun h => absurd h (by simp)⟩, Nat.zero_le _, fun x h => by cases h⟩
  · have hpick : ∀ i, i < len → ∃ x, (∃ c, c.length = d.sz ∧ d.K w x c ∧ ∀ q u, c[q]? = some u → w.cell? (a.add (i * d.sz + q)) = some u) ∧ good x := by
      intro i hi
      have h1 := hg i hi
      rw [List.getElem?_eq_getElem (by omega)] at h1
      obtain ⟨c, hc, hy⟩ := Option.bind_eq_some_iff.mp h1
      obtain ⟨hcl, hcg⟩ := cells_get hc
      obtain ⟨x, hK, hgood⟩ := he H enc w sp held m c _ (by omega) hy
      refine ⟨x, ⟨c, by rw [hcl, hs], hK, fun q u hu => ?_⟩, hgood⟩
      rw [← hs, ← addr_add]
      exact hcg q u hu
    obtain ⟨xs, hxl, hx⟩ := pick_list len _ hpick
    have hm : maxLen ≤ 9223372036854775807 := by simp [maxLen]
    refine ⟨xs, ⟨some a, cap, by rw [hxl], by omega, rfl, by omega, fun _ => ⟨a, rfl, fun j p hp => (hx j p hp).1⟩⟩, by omega, fun x hm => ?_⟩
    obtain ⟨j, hj, rfl⟩ := List.mem_iff_getElem.1 hm
    exact (hx j _ (List.getElem?_eq_getElem hj)).2

/-- A struct's fields from some place on: fs, off; read by kind d. -/
def SufF {α : Type} (P : Program) (n : Nat) (fs : List Field) (off : Nat) (d : Kd α) (good : α → Prop) : Prop :=
  ∀ (H : Type) (enc : TypeId × Value → H) (w : World) (sp : Nat → Bool) (held : Bool) (fuel : Nat) (cs : List Value), fuel ≤ n → off + d.sz = cs.length →
    (∀ f, f ∈ fs → ∃ r, DataW.trod enc P w 0 sp held fuel f.type ((cs.drop f.offset).take (P.cellsOf f.type)) = some r) → ∃ x, d.K w x (cs.drop off) ∧ good x

theorem suf_one {α : Type} {P : Program} {n : Nat} {f : Field} {off : Nat} {d : Kd α} {good : α → Prop} {t : TypeId} (ho : f.offset = off) (hty : f.type = t) (hs : P.cellsOf t = d.sz) (h : OpF P n t d good) : SufF P n [f] off d good := by
  intro H enc w sp held fuel cs hf hl hall
  obtain ⟨r, hr⟩ := hall f (by simp)
  rw [hty, ho, hs, List.take_of_length_le (by rw [List.length_drop]; omega)] at hr
  exact h H enc w sp held fuel _ r hf hr

theorem suf_cons {α β : Type} {P : Program} {n : Nat} {f : Field} {fs : List Field} {off : Nat} {a : Kd α} {b : Kd β} {ga : α → Prop} {gb : β → Prop} {t : TypeId} (ho : f.offset = off) (hty : f.type = t) (hs : P.cellsOf t = a.sz) (h : OpF P n t a ga) (k : SufF P n fs (off + a.sz) b gb) :
    SufF P n (f :: fs) off (Kd.pair a b) (fun x => ga x.1 ∧ gb x.2) := by
  intro H enc w sp held fuel cs hf hl hall
  have hl' : off + (a.sz + b.sz) = cs.length := hl
  obtain ⟨r, hr⟩ := hall f (by simp)
  rw [hty, ho, hs] at hr
  obtain ⟨x, hx, gx⟩ := h H enc w sp held fuel _ r hf hr
  obtain ⟨y, hy, gy⟩ := k H enc w sp held fuel cs hf (by omega) (fun g hg => hall g (by simp [hg]))
  refine ⟨(x, y), ⟨_, _, ?_, hx, hy⟩, gx, gy⟩
  rw [← List.drop_drop, List.take_append_drop]

theorem op_slice_all {α : Type} {P : Program} {t e : TypeId} {d : Kd α} {good : α → Prop} (ht : P.underlying t = some (.slice e)) (hs : P.cellsOf e = d.sz) (he : ∀ n, OpF P n e d good) :
    ∀ n, OpF P n t (Kd.slice e d) (fun xs => xs.length ≤ maxLen ∧ ∀ x, x ∈ xs → good x)
  | 0 => OpF.zero
  | n + 1 => op_slice ht hs (he n)

theorem op_struct {α : Type} {P : Program} {n : Nat} {t : TypeId} {arr : Array Field} {fs : List Field} {d : Kd α} {good : α → Prop} (ht : P.underlying t = some (.struct arr)) (ha : arr.toList = fs) (hc : P.cellsOf t = d.sz) (h : SufF P n fs 0 d good) : OpF P (n + 1) t d good := by
  intro H enc w sp held fuel cs r hf hr
  obtain ⟨xs, m, rfl, _, hlen, hxl, hg⟩ := DataW.trod_struct ht hr
  have := h H enc w sp held m cs (by omega) (by omega) (fun f hf => by
    rw [← ha] at hf
    obtain ⟨j, hj, rfl⟩ := List.mem_iff_getElem.1 hf
    have hj2 : j < arr.size := by simpa using hj
    have h1 := hg j arr[j] (Array.getElem?_eq_getElem hj2)
    rw [List.getElem?_eq_getElem (by omega)] at h1
    exact ⟨_, by simpa using h1⟩)
  simpa using this

theorem op_iso {α β : Type} {P : Program} {n : Nat} {t : TypeId} {d : Kd α} {good : α → Prop} {f : β → α} (g : α → β) (hfg : ∀ y, f (g y) = y) (h : OpF P n t d good) : OpF P n t (Kd.iso d f) (fun x => good (f x)) := by
  intro H enc w sp held fuel cs r hf hr
  obtain ⟨x, hx, gx⟩ := h H enc w sp held fuel cs r hf hr
  refine ⟨g x, ?_, ?_⟩
  · show d.K w (f (g x)) cs
    rw [hfg]; exact hx
  · show good (f (g x))
    rw [hfg]; exact gx

theorem op_good {α : Type} {P : Program} {n : Nat} {t : TypeId} {d : Kd α} {good good' : α → Prop} (h : OpF P n t d good) (hg : ∀ x, good x → good' x) : OpF P n t d good' := by
  intro H enc w sp held fuel cs r hf hr
  obtain ⟨x, hx, gx⟩ := h H enc w sp held fuel cs r hf hr
  exact ⟨x, hx, hg x gx⟩

theorem op_fix {α : Type} {P : Program} {n : Nat} {t : TypeId} {F : Kd α → Kd α} {sz : Nat} {E : List Nat} {hs : ∀ n, (Kd.upto F sz E n).sz = sz} {hE : ∀ n q, q ∈ (Kd.upto F sz E n).E → q ∈ E} {good : α → Prop} (m : Nat) (h : OpF P n t (Kd.upto F sz E m) good) : OpF P n t (Kd.fix F sz E hs hE) good := by
  intro H enc w sp held fuel cs r hf hr
  obtain ⟨x, hx, gx⟩ := h H enc w sp held fuel cs r hf hr
  exact ⟨x, ⟨m, hx⟩, gx⟩

theorem op_le {α : Type} {P : Program} {n m : Nat} {t : TypeId} {d : Kd α} {good : α → Prop} (h : OpF P m t d good) (hn : n ≤ m) : OpF P n t d good := by
  intro H enc w sp held fuel cs r hf hr
  exact h H enc w sp held fuel cs r (by omega) hr

theorem op_slice_same {α : Type} {P : Program} {t e : TypeId} {d : Kd α} {good : α → Prop} {n : Nat} (ht : P.underlying t = some (.slice e)) (hs : P.cellsOf e = d.sz) (he : OpF P n e d good) :
    OpF P n t (Kd.slice e d) (fun xs => xs.length ≤ maxLen ∧ ∀ x, x ∈ xs → good x) := by
  cases n with
  | zero => exact OpF.zero
  | succ m => exact op_slice ht hs (op_le he (by omega))

end Go.Proofs.YtaikjjlbfdkgmaaDoorW.Opn
