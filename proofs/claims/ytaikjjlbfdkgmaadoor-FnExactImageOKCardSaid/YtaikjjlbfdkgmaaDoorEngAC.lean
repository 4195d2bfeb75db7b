/- The engine, part AC: from what reads as data to a frame's arguments. Plain lemmas; no program. -/
import Derived.Test.YtaikjjlbfdkgmaaDoorEngAB
import Derived.WideShapes
import Derived.SizedLaws
import Derived.ProofKit
set_option linter.unusedVariables false
set_option linter.unusedSectionVars false
set_option linter.unusedSimpArgs false
namespace Go.Proofs.YtaikjjlbfdkgmaaDoor.E
open Go.RowKit Go.WideShapes
variable [LaidFacts]

/-- Cells that read as told, whatever memory holds. -/
def CellsR (w : World) (l : List PC) (cs : List Value) : Prop := l.length = cs.length ∧ ∀ (j : Nat) (c : PC), l[j]? = some c → ∃ u, cs[j]? = some u ∧ RepS w (fun g => g < w.heap.size) c u
theorem CellsR.one {w : World} {c : PC} {u : Value} (h : RepS w (fun g => g < w.heap.size) c u) : CellsR w [c] [u] := ⟨rfl, fun j d hd => by
  cases j with
  | zero => simp only [List.getElem?_cons_zero, Option.some.injEq] at hd; subst hd; exact ⟨u, rfl, h⟩
  | succ j => simp at hd⟩
theorem CellsR.append {w : World} {l m : List PC} {cs ds : List Value} (h : CellsR w l cs) (k : CellsR w m ds) : CellsR w (l ++ m) (cs ++ ds) := by
  refine ⟨by simp [h.1, k.1], fun j c hj => ?_⟩
  by_cases hlt : j < l.length
  · rw [List.getElem?_append_left hlt] at hj
    obtain ⟨u, hu, hr⟩ := h.2 j c hj
    exact ⟨u, by rw [List.getElem?_append_left (by rw [← h.1]; exact hlt)]; exact hu, hr⟩
  · rw [List.getElem?_append_right (by omega)] at hj
    obtain ⟨u, hu, hr⟩ := k.2 _ c hj
    exact ⟨u, by rw [List.getElem?_append_right (by rw [← h.1]; omega), ← h.1]; exact hu, hr⟩

/-- What reads, within n steps of depth, as data of type t, holds cells that are told. -/
def OpR {α : Type} (P : Program) (n : Nat) (t : TypeId) (f : α → List PC) (good : α → Prop) : Prop :=
  ∀ (H : Type) (enc : TypeId × Value → H) (w : World) (sp : Nat → Bool) (held : Bool) (fuel : Nat) (cs : List Value) (r : DataW H × List MemPlace), fuel ≤ n →
    DataW.trod enc P w 0 sp held fuel t cs = some r → ∃ x, CellsR w (f x) cs ∧ good x

theorem OpR.zero {α : Type} {P : Program} {t : TypeId} {f : α → List PC} {good : α → Prop} : OpR P 0 t f good := by
  intro H enc w sp held fuel cs r hf h
  obtain rfl : fuel = 0 := by omega
  simp [DataW.trod] at h
theorem opR_int {P : Program} {t : TypeId} {k : IntKind} (ht : P.underlying t = some (.int k)) (n : Nat) : OpR P n t (eK k) (fun x => (Lit.int k x).wf = true) := by
  intro H enc w sp held fuel cs r hf h
  obtain ⟨x, rfl, _, hw⟩ := DataW.trod_int ht h
  exact ⟨x, CellsR.one (.sc rfl), hw⟩
theorem opR_bool {P : Program} {t : TypeId} (ht : P.underlying t = some .bool) (n : Nat) : OpR P n t eB (fun _ => True) := by
  intro H enc w sp held fuel cs r hf h
  obtain ⟨x, rfl, _⟩ := DataW.trod_bool ht h
  exact ⟨x, CellsR.one (.sc rfl), trivial⟩
theorem opR_string {P : Program} {t : TypeId} (ht : P.underlying t = some .string) (n : Nat) : OpR P n t eS (fun x => x.size ≤ maxLen) := by
  intro H enc w sp held fuel cs r hf h
  obtain ⟨x, rfl, _, hw⟩ := DataW.trod_string ht h
  exact ⟨x, CellsR.one (.sc rfl), hw⟩

theorem mapMR_get {α β : Type} {f : α → Option β} : ∀ {l : List α} {r : List β}, l.mapM f = some r → r.length = l.length ∧ ∀ (j : Nat) (x : α), l[j]? = some x → ∃ y, f x = some y ∧ r[j]? = some y := by
  intro l
  induction l with
  | nil => intro r h; simp at h; subst h; simp
  | cons a l ih =>
    intro r h
    rw [List.mapM_cons] at h
    obtain ⟨y, hy, h⟩ := Option.bind_eq_some_iff.mp h
    obtain ⟨ys, hys, h⟩ := Option.bind_eq_some_iff.mp h
    obtain rfl := Option.some.inj h
    obtain ⟨hl, hg⟩ := ih hys
    refine ⟨by simp [hl], fun j x hx => ?_⟩
    cases j with
    | zero => simp at hx; subst hx; exact ⟨y, hy, rfl⟩
    | succ j => simpa using hg j x (by simpa using hx)
theorem cellsR_get {w : World} {base : Nat} {a : Addr} {n : Nat} {cs : List Value} (h : w.cells? base a n = some cs) : cs.length = n ∧ ∀ i u, cs[i]? = some u → w.cell? (a.add i) = some u := by
  unfold World.cells? at h
  split at h
  · obtain ⟨hl, hg⟩ := mapMR_get h
    refine ⟨by simpa using hl, fun i u hu => ?_⟩
    have hi : i < n := by
      have := (List.getElem?_eq_some_iff.1 hu).1
      simp at hl
      omega
    obtain ⟨y, hy, hr⟩ := hg i i (by simp [List.getElem?_range, hi])
    rw [hu] at hr
    rw [hy, ← hr]
  · cases h
theorem pickR_list {α : Type} (n : Nat) (p : Nat → α → Prop) (h : ∀ i, i < n → ∃ x, p i x) : ∃ xs : List α, xs.length = n ∧ ∀ i x, xs[i]? = some x → p i x := by
  induction n with
  | zero => exact ⟨[], rfl, fun i x h => by simp at h⟩
  | succ n ih =>
    obtain ⟨xs, hl, hx⟩ := ih (fun i hi => h i (by omega))
    obtain ⟨x, hp⟩ := h n (by omega)
    refine ⟨xs ++ [x], by simp [hl], fun i y hy => ?_⟩
    by_cases hi : i < n
    · rw [List.getElem?_append_left (by omega)] at hy
      exact hx i y hy
    · have hi2 : i = n := by
        have := (List.getElem?_eq_some_iff.1 hy).1
        simp [hl] at this
        omega
      subst hi2
      rw [List.getElem?_append_right (by omega)] at hy
      simp [hl] at hy
      subst hy
      exact hp

theorem opR_slice {α : Type} {P : Program} {t e : TypeId} {f : α → List PC} {good : α → Prop} {n s : Nat} (ht : P.underlying t = some (.slice e)) (hs : P.cellsOf e = s) (hs0 : 0 < s) (he : OpR P n e f good) :
    OpR P (n + 1) t (eL s f) (fun xs => xs.length ≤ maxLen ∧ ∀ x, x ∈ xs → good x) := by
  intro H enc w sp held fuel cs r hf h
  rcases DataW.trod_slice ht h with ⟨rfl, _⟩ | ⟨a, len, cap, elems, rest, m, rfl, rfl, _, _, hlc, hcm, hel, hg, _⟩
  · exact ⟨[], CellsR.one .nil, Nat.zero_le _, fun x h => by cases h⟩
  · have hpick : ∀ i, i < len → ∃ x, ((f x).length = s ∧ ∀ (j : Nat) (c : PC), (f x)[j]? = some c → ∃ u, w.cell? (a.add (i * s + j)) = some u ∧ RepS w (fun g => g < w.heap.size) c u) ∧ good x := by
      intro i hi
      have h1 := hg i hi
      rw [List.getElem?_eq_getElem (by omega)] at h1
      obtain ⟨c, hc, hy⟩ := Option.bind_eq_some_iff.mp h1
      obtain ⟨hcl, hcg⟩ := cellsR_get hc
      obtain ⟨x, hK, hgood⟩ := he H enc w sp held m c _ (by omega) hy
      refine ⟨x, ⟨by rw [hK.1, hcl, hs], fun j d hd => ?_⟩, hgood⟩
      obtain ⟨u, hu, hru⟩ := hK.2 j d hd
      refine ⟨u, ?_, hru⟩
      rw [← hs, ← add_add]
      exact hcg j u hu
    obtain ⟨xs, hxl, hx⟩ := pickR_list len _ hpick
    refine ⟨xs, CellsR.one ?_, by omega, fun x hm => ?_⟩
    · show RepS w _ (.sl s (xs.map f)) _
      cases hxs : xs with
      | nil =>
        subst hxs
        have : len = 0 := by simpa using hxl.symm
        subst this
        exact .nil
      | cons x0 xs' =>
        -- the block is there, and is no other block's part
        have h0 := (hx 0 x0 (by rw [hxs]; rfl)).1
        obtain ⟨c0, hc0⟩ : ∃ c, (f x0)[0]? = some c := by
          have : 0 < (f x0).length := by rw [h0.1]; exact hs0
          exact ⟨_, List.getElem?_eq_getElem this⟩
        obtain ⟨u0, hu0, _⟩ := h0.2 0 c0 hc0
        have hspot : a.spot = none ∧ a.block < w.heap.size := by
          unfold World.cell? at hu0
          have e1 : (a.add (0 * s + 0)) = a := by simp [Addr.add]
          rw [e1] at hu0
          split at hu0
          · rename_i c2 t2 z2 hh
            split at hu0
            · cases hu0
            · rename_i hsn
              exact ⟨by simpa using hsn, (Array.getElem?_eq_some_iff.1 hh).1⟩
          · cases hu0
        obtain ⟨g, off, spot⟩ := a
        obtain ⟨hs1, hs2⟩ := hspot
        simp only at hs1 hs2
        subst hs1
        rw [← hxs]
        have hlen : (xs.map f).length = len := by rw [List.length_map, hxl]
        have key := RepS.sl (w := w) (Sh := fun g => g < w.heap.size) (xs := xs.map f) (g := g) (off := off) (c := cap) (size := s) (fun i j => (w.cell? ⟨g, off + i * s + j, none⟩).getD undef) (fun el hel => by
          obtain ⟨x, hxm, rfl⟩ := List.mem_map.1 hel
          obtain ⟨i, hi⟩ := List.getElem?_of_mem hxm
          exact (hx i x hi).1.1) (by rw [hlen]; exact hlc) hs2 (fun i j el y hi hj => by
          rw [List.getElem?_map] at hi
          obtain ⟨x, hxi, rfl⟩ := Option.map_eq_some_iff.1 hi
          obtain ⟨u, hu, _⟩ := (hx i x hxi).1.2 j y hj
          rw [add_mk, show off + (i * s + j) = off + i * s + j by omega] at hu
          rw [hu]; rfl) (fun i j el y hi hj => by
          rw [List.getElem?_map] at hi
          obtain ⟨x, hxi, rfl⟩ := Option.map_eq_some_iff.1 hi
          obtain ⟨u, hu, hru⟩ := (hx i x hxi).1.2 j y hj
          rw [add_mk, show off + (i * s + j) = off + i * s + j by omega] at hu
          rw [hu]; exact hru)
        rw [hlen] at key
        exact key
    · obtain ⟨j, hj, rfl⟩ := List.mem_iff_getElem.1 hm
      exact (hx j _ (List.getElem?_eq_getElem hj)).2

theorem opR_slice_all {α : Type} {P : Program} {t e : TypeId} {f : α → List PC} {good : α → Prop} {s : Nat} (ht : P.underlying t = some (.slice e)) (hs : P.cellsOf e = s) (hs0 : 0 < s) (he : ∀ n, OpR P n e f good) :
    ∀ n, OpR P n t (eL s f) (fun xs => xs.length ≤ maxLen ∧ ∀ x, x ∈ xs → good x)
  | 0 => OpR.zero
  | n + 1 => opR_slice ht hs hs0 (he n)

/-- A struct's fields from some place on. -/
def SufR {α : Type} (P : Program) (n : Nat) (fs : List Field) (off : Nat) (f : α → List PC) (good : α → Prop) : Prop :=
  ∀ (H : Type) (enc : TypeId × Value → H) (w : World) (sp : Nat → Bool) (held : Bool) (fuel : Nat) (cs : List Value), fuel ≤ n →
    (∀ f, f ∈ fs → ∃ r, DataW.trod enc P w 0 sp held fuel f.type ((cs.drop f.offset).take (P.cellsOf f.type)) = some r) → off ≤ cs.length → (∀ x, off + (f x).length = cs.length) → ∃ x, CellsR w (f x) (cs.drop off) ∧ good x

theorem sufR_one {α : Type} {P : Program} {n : Nat} {fl : Field} {off s : Nat} {f : α → List PC} {good : α → Prop} {t : TypeId} (ho : fl.offset = off) (hty : fl.type = t) (hs : P.cellsOf t = s) (hf1 : ∀ x, (f x).length = s) (hin : Nonempty α) (h : OpR P n t f good) : SufR P n [fl] off f good := by
  intro H enc w sp held fuel cs hf hall hle hl
  obtain ⟨r, hr⟩ := hall fl (by simp)
  obtain ⟨x0⟩ := hin
  have := hl x0
  rw [hf1] at this
  rw [hty, ho, hs, List.take_of_length_le (by rw [List.length_drop]; omega)] at hr
  exact h H enc w sp held fuel _ r hf hr

theorem sufR_cons {α β : Type} {P : Program} {n : Nat} {fl : Field} {fs : List Field} {off s : Nat} {f : α → List PC} {g : β → List PC} {ga : α → Prop} {gb : β → Prop} {t : TypeId} (ho : fl.offset = off) (hty : fl.type = t) (hs : P.cellsOf t = s) (hf1 : ∀ x, (f x).length = s) (hin : Nonempty (α × β)) (h : OpR P n t f ga) (k : SufR P n fs (off + s) g gb) :
    SufR P n (fl :: fs) off (fun x : α × β => f x.1 ++ g x.2) (fun x => ga x.1 ∧ gb x.2) := by
  intro H enc w sp held fuel cs hf hall hle hl
  obtain ⟨⟨a0, b0⟩⟩ := hin
  have hl0 := hl (a0, b0)
  simp only [List.length_append, hf1] at hl0
  obtain ⟨r, hr⟩ := hall fl (by simp)
  rw [hty, ho, hs] at hr
  obtain ⟨x, hx, gx⟩ := h H enc w sp held fuel _ r hf hr
  obtain ⟨y, hy, gy⟩ := k H enc w sp held fuel cs hf (fun g hg => hall g (by simp [hg])) (by omega) (fun y => by have := hl (a0, y); simp only [List.length_append, hf1] at this; omega)
  refine ⟨(x, y), ?_, gx, gy⟩
  have := hx.append hy
  rw [← List.drop_drop, List.take_append_drop] at this
  exact this

theorem opR_struct {α β : Type} {P : Program} {n : Nat} {t : TypeId} {arr : Array Field} {fs : List Field} {f : α → List PC} {g : β → List PC} {good : α → Prop} {good' : β → Prop} {s : Nat} (m : α → β) (ht : P.underlying t = some (.struct arr)) (ha : arr.toList = fs) (hc : P.cellsOf t = s) (hfl : ∀ x, (f x).length = s) (hfg : ∀ x, g (m x) = f x) (hg : ∀ x, good x → good' (m x))
    (h : SufR P n fs 0 f good) : OpR P (n + 1) t g good' := by
  intro H enc w sp held fuel cs r hf hr
  obtain ⟨xs, k, rfl, _, hlen, hxl, hgt⟩ := DataW.trod_struct ht hr
  obtain ⟨x, hx, gx⟩ := h H enc w sp held k cs (by omega) (fun f hf => by
    rw [← ha] at hf
    obtain ⟨j, hj, rfl⟩ := List.mem_iff_getElem.1 hf
    have hj2 : j < arr.size := by simpa using hj
    have h1 := hgt j arr[j] (Array.getElem?_eq_getElem hj2)
    rw [List.getElem?_eq_getElem (by omega)] at h1
    exact ⟨_, by simpa using h1⟩) (Nat.zero_le _) (fun x => by rw [hfl]; omega)
  exact ⟨m x, by rw [hfg]; simpa using hx, hg x gx⟩
theorem opR_struct_all {α β : Type} {P : Program} {t : TypeId} {arr : Array Field} {fs : List Field} {f : α → List PC} {g : β → List PC} {good : α → Prop} {good' : β → Prop} {s : Nat} (m : α → β) (ht : P.underlying t = some (.struct arr)) (ha : arr.toList = fs) (hc : P.cellsOf t = s) (hfl : ∀ x, (f x).length = s) (hfg : ∀ x, g (m x) = f x) (hg : ∀ x, good x → good' (m x))
    (h : ∀ n, SufR P n fs 0 f good) : ∀ n, OpR P n t g good'
  | 0 => OpR.zero
  | n + 1 => opR_struct m ht ha hc hfl hfg hg (h n)

/-! Arguments. -/
def ArgR (w : World) (pv : PV) (v : Value) : Prop := pv.sh.fits pv.cs.length v ∧ ∀ (c : Nat) (x : PC), pv.cs[c]? = some x → RepS w (fun g => g < w.heap.size) x ((flat v).getD c undef) ∧ x.names = none
theorem RepS.nameless {w : World} {Sh : Nat → Prop} {x : PC} {v : Value} (h : RepS w Sh x v) : x.names = none := by cases h <;> rfl
theorem ArgR.agg {w : World} {l : List PC} {cs : Array Value} (h : CellsR w l cs.toList) : ArgR w ⟨.agg, l⟩ (.agg cs) := by
  refine ⟨⟨cs, rfl, by rw [h.1]; simp, fun x hx => ?_⟩, fun c x hc => ?_⟩
  · obtain ⟨j, hj⟩ := List.getElem?_of_mem (show x ∈ cs.toList by simpa using hx)
    have hjl : j < l.length := by rw [h.1]; exact (List.getElem?_eq_some_iff.1 hj).1
    obtain ⟨u, hu, hr⟩ := h.2 j _ (List.getElem?_eq_getElem hjl)
    rw [hj] at hu; cases hu
    exact hr.one
  · obtain ⟨u, hu, hr⟩ := h.2 c x hc
    have : (flat (.agg cs)).getD c undef = u := by rw [List.getD_eq_getElem?_getD]; show (cs.toList[c]?).getD undef = u; rw [hu]; rfl
    rw [this]
    exact ⟨hr, hr.nameless⟩
theorem ArgR.one {w : World} {x : PC} {v : Value} (hv : v.oneCell' = true) (h : CellsR w [x] v.cells.toList) : ArgR w ⟨.one, [x]⟩ v := by
  refine ⟨⟨rfl, hv⟩, fun c y hc => ?_⟩
  cases c with
  | succ c => simp at hc
  | zero =>
    simp only [List.getElem?_cons_zero, Option.some.injEq] at hc
    subst hc
    obtain ⟨u, hu, hr⟩ := h.2 0 x rfl
    rw [cells_one hv] at hu
    simp only [List.getElem?_cons_zero, Option.some.injEq] at hu
    subst hu
    rw [flat_one hv]
    exact ⟨hr, hr.nameless⟩
def ArgsR (w : World) : List PV → List Value → Prop
  | [], [] => True
  | pv :: l, v :: m => ArgR w pv v ∧ ArgsR w l m
  | _, _ => False
theorem ArgsR.at {w : World} : ∀ {l : List PV} {m : List Value}, ArgsR w l m → l.length = m.length ∧ ∀ (t : Nat) (pv : PV), l[t]? = some pv → ∃ v, m[t]? = some v ∧ ArgR w pv v
  | [], [], _ => ⟨rfl, fun t pv h => by simp at h⟩
  | pv :: l, v :: m, h => by
    obtain ⟨h1, h2⟩ := h
    obtain ⟨h3, h4⟩ := h2.at
    refine ⟨by simp [h3], fun t q hq => ?_⟩
    cases t with
    | zero => simp only [List.getElem?_cons_zero, Option.some.injEq] at hq; subst hq; exact ⟨v, rfl, h1⟩
    | succ t => exact h4 t q (by simpa using hq)
  | [], _ :: _, h => h.elim
  | _ :: _, [], h => h.elim

/-- A law's function, called with what reads as data. -/
theorem Fn.law {P : Program} {f : FuncId} {args : List PV} {vals : List Value} {w : World} {b : Bool} (hF : Fn P f args [] (oB b) []) (ha : ArgsR w args vals) (hlw : LaidFacts.LW w (fun g => g < w.heap.size)) :
    Calls P f vals.toArray w fun e w' => e = .returned (.bool b) ∧ Below w.heap.size w w' := by
  obtain ⟨hl, hat⟩ := ha.at
  have hi := frame_mk (P := P) (args := args) (vals := vals) (w := w) (Sc := fun g => g < w.heap.size) (β := fun _ => 0) hl.symm (fun _ h => h) hlw (fun t pv ht => by
    obtain ⟨v, h1, h2, h3⟩ := hat t pv ht
    exact ⟨v, h1, h2, h3⟩)
  refine (hF _ w _ hi).mono fun e w' ⟨v, r', he, hinv, hs⟩ => ?_
  have hX : ∀ g, ¬ (⟨fun g => g < w.heap.size, fun _ => 0, fun _ => none, fun _ => undef⟩ : Rs).X 0 g := fun g hg => by
    rcases hg with ⟨p, hp⟩ | ⟨b, hb, _⟩
    · cases hp
    · omega
  refine ⟨?_, hs.os, hs.tape, hs.output, hs.size, fun g hg => hs.block g hg (hX g)⟩
  rw [he]
  obtain ⟨v', h1, h2⟩ := hinv.tm 0 (oB b) rfl
  have e1 : v' = v := by simpa using h1.symm
  subst e1
  have hc := hinv.cell (.t 0 0) (.sc (.bool b)) rfl
  obtain ⟨_, hc⟩ := hc
  have ha : alpha ⟨#[v'], []⟩ w' r' (.t 0 0) = v' := by
    obtain ⟨_, h2⟩ := h2
    show (flat v').getD 0 undef = v'
    rw [flat_one h2]; rfl
  rw [ha] at hc
  cases hc with
  | s h => cases h; rfl

end Go.Proofs.YtaikjjlbfdkgmaaDoor.E
