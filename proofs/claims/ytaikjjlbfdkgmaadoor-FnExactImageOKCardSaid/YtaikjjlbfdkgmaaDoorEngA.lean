/- The engine, part A: pure values, what of memory they stand for, the invariant of a frame. Plain lemmas; no program. -/
import Derived.Below
import Derived.Laws.OwnMore
import Derived.Laws.MakeOwn
import Derived.Laws.CopyOwn
import Derived.Laws.BytesString
import Derived.LoopN
import Derived.Orders
import Derived.Tactics
import Derived.ArgAppend
set_option linter.unusedVariables false
set_option linter.unusedSectionVars false
set_option linter.unusedSimpArgs false
namespace Go.Proofs.YtaikjjlbfdkgmaaDoor.E
open Go.RowKit

/-- A place that may own a row: a cell of a temporary, a cell of a box. -/
inductive Place where
  | t (t c : Nat)
  | b (b c : Nat)
  deriving DecidableEq

/-- A cell's pure value. -/
inductive PC where
  | sc (v : Value)
  | sl (s : Nat) (xs : List (List PC))
  | own (e : TypeId) (xs : List (List PC))
  | al (p : Place)
  | vw (p : Place) (lo n s : Nat)
  | ref (b off : Nat)
  | el (p : Place) (i off s : Nat)
  | cel (cs : List PC) (off : Nat)
  | fn (f : FuncId) (caps : List PC)
  | bnd (f : FuncId) (cs : List PC)
  | er
  | nl
  | dead

/-- A cell that may be shared: it reads memory that nobody writes any more. -/
inductive RepS (w : World) (Sh : Nat → Prop) : PC → Value → Prop where
  | sc {v : Value} (h : v.oneCell' = true) : RepS w Sh (.sc v) v
  | nil {a : Option Addr} {size c : Nat} : RepS w Sh (.sl size []) (.slice a 0 c)
  | sl {xs : List (List PC)} {g off c size : Nat} (f : Nat → Nat → Value) (hz : ∀ e ∈ xs, e.length = size) (hc : xs.length ≤ c) (hsh : Sh g)
      (hcell : ∀ (i j : Nat) (e : List PC) (x : PC), xs[i]? = some e → e[j]? = some x → w.cell? ⟨g, off + i * size + j, none⟩ = some (f i j))
      (hr : ∀ (i j : Nat) (e : List PC) (x : PC), xs[i]? = some e → e[j]? = some x → RepS w Sh x (f i j)) : RepS w Sh (.sl size xs) (.slice (some ⟨g, off, none⟩) xs.length c)
  | cel {cs : List PC} {off g o : Nat} (f : Nat → Value) (hsh : Sh g) (hcell : ∀ (j : Nat) (x : PC), cs[j]? = some x → w.cell? ⟨g, o + j, none⟩ = some (f j))
      (hr : ∀ (j : Nat) (x : PC), cs[j]? = some x → RepS w Sh x (f j)) : RepS w Sh (.cel cs off) (.pointer (some ⟨g, o + off, none⟩))
  | fn {f : FuncId} {caps : List PC} {vs : Array Value} (hn : vs.size = caps.length) (hr : ∀ (j : Nat) (x : PC) (v : Value), caps[j]? = some x → vs[j]? = some v → RepS w Sh x v) :
      RepS w Sh (.fn f caps) (.func (.func f) #[] vs)
  | bnd {f : FuncId} {cs : List PC} {vs : Array Value} (hn : vs.size = cs.length) (hr : ∀ (j : Nat) (x : PC) (v : Value), cs[j]? = some x → vs[j]? = some v → RepS w Sh x v) :
      RepS w Sh (.bnd f cs) (.func (.func f) #[.agg vs] #[])
  | er {t : TypeId} {v : Value} : RepS w Sh .er (.iface t v)
  | nl : RepS w Sh .nl (.slice none 0 0)

theorem RepS.one {w : World} {Sh : Nat → Prop} {x : PC} {v : Value} (h : RepS w Sh x v) : v.oneCell' = true := by
  cases h <;> first | rfl | assumption

/-- What is shared reads on while its memory stands, and while more becomes shared. -/
theorem RepS.mono {w w' : World} {Sh Sh' : Nat → Prop} (hS : ∀ g, Sh g → Sh' g) (hw : ∀ g, Sh g → w'.heap[g]? = w.heap[g]?) {x : PC} {v : Value} (h : RepS w Sh x v) : RepS w' Sh' x v := by
  induction h with
  | sc h => exact .sc h
  | nil => exact .nil
  | sl f hz hc hsh hcell hr ih =>
    exact .sl f hz hc (hS _ hsh) (fun i j e x hi hj => by rw [World.cell?_of_block (hw _ hsh)]; exact hcell i j e x hi hj) (fun i j e x hi hj => ih i j e x hi hj)
  | cel f hsh hcell hr ih => exact .cel f (hS _ hsh) (fun j x hj => by rw [World.cell?_of_block (hw _ hsh)]; exact hcell j x hj) (fun j x hj => ih j x hj)
  | fn hn hr ih => exact .fn hn ih
  | bnd hn hr ih => exact .bnd hn ih
  | er => exact .er
  | nl => exact .nl

/-- A row that one place alone owns. -/
def RepOwn (P : Program) (w : World) (Sh : Nat → Prop) (e : TypeId) (xs : List (List PC)) (v : Value) (g : Option Nat) : Prop :=
  ∃ vals : List Value, w.ownsRow 0 e (P.cellsOf e) v xs.length vals ∧ v.ownBlock = g ∧ (∀ el ∈ xs, el.length = P.cellsOf e) ∧
    ∀ (i : Nat) (x : PC), xs.flatten[i]? = some x → ∃ u, vals[i]? = some u ∧ RepS w Sh x u

theorem RepOwn.mono {P : Program} {w w' : World} {Sh Sh' : Nat → Prop} (hS : ∀ g, Sh g → Sh' g) (hw : ∀ g, Sh g → w'.heap[g]? = w.heap[g]?) {e : TypeId} {xs : List (List PC)} {v : Value} {g : Option Nat}
    (hg : ∀ k, g = some k → w'.heap[k]? = w.heap[k]?) (h : RepOwn P w Sh e xs v g) : RepOwn P w' Sh' e xs v g := by
  obtain ⟨vals, ho, hb, hl, hr⟩ := h
  refine ⟨vals, ⟨ho.1, ?_⟩, hb, hl, fun i x hx => ?_⟩
  · rcases ho.2 with hn | ⟨g', cap, cur, rfl, hbg, hgg, rest⟩
    · exact .inl hn
    · refine .inr ⟨g', cap, cur, rfl, hbg, ?_, rest⟩
      rw [hg g' (by rw [← hb]; rfl)]
      exact hgg
  · obtain ⟨u, hu, hru⟩ := hr i x hx
    exact ⟨u, hu, hru.mono hS hw⟩

/-- What a frame holds of memory: what is shared, where its boxes lie, which block a place owns. -/
structure Rs where
  Sh : Nat → Prop
  β : Nat → Nat
  γ : Place → Option Nat
  κ : Nat → Value

/-- The cells of a value in a temporary. -/
def flat : Value → List Value
  | .agg cs => cs.toList
  | .tuple vs => vs.toList.flatMap fun v => v.cells.toList
  | v => [v]

/-- What stands at a place. -/
def alpha (a : Act) (w : World) (r : Rs) : Place → Value
  | .t t c => (flat (a.tmps.getD t undef)).getD c undef
  | .b b c => (w.cell? ⟨r.β b, c, none⟩).getD undef

/-- A captured value: shared, or a box. -/
inductive RepF (w : World) (Sh : Nat → Prop) (β : Nat → Nat) (nb : Nat) : PC → Value → Prop where
  | s {x : PC} {v : Value} (h : RepS w Sh x v) : RepF w Sh β nb x v
  | ref {b off : Nat} (h : b < nb) : RepF w Sh β nb (.ref b off) (.pointer (some ⟨β b, off, none⟩))
  | fn {f : FuncId} {caps : List PC} {vs : Array Value} (hn : vs.size = caps.length) (hr : ∀ (j : Nat) (x : PC) (v : Value), caps[j]? = some x → vs[j]? = some v → RepF w Sh β nb x v) :
      RepF w Sh β nb (.fn f caps) (.func (.func f) #[] vs)

theorem RepF.one {w : World} {Sh : Nat → Prop} {β : Nat → Nat} {nb : Nat} {x : PC} {v : Value} (h : RepF w Sh β nb x v) : v.oneCell' = true := by
  cases h with
  | s h => exact h.one
  | ref h => rfl
  | fn hn hr => rfl

theorem RepF.mono {w w' : World} {Sh Sh' : Nat → Prop} {β β' : Nat → Nat} {nb nb' : Nat} (hS : ∀ g, Sh g → Sh' g) (hw : ∀ g, Sh g → w'.heap[g]? = w.heap[g]?) (hb : ∀ b, b < nb → b < nb' ∧ β' b = β b)
    {x : PC} {v : Value} (h : RepF w Sh β nb x v) : RepF w' Sh' β' nb' x v := by
  induction h with
  | s h => exact .s (h.mono hS hw)
  | ref h => rw [← (hb _ h).2]; exact .ref (hb _ h).1
  | fn hn hr ih => exact .fn hn ih

/-- The form of a temporary's value. -/
inductive Shape where
  | one | agg | tup (l : List (Option Nat))

structure PV where
  sh : Shape
  cs : List PC

def inB (i : Nat) : List Nat → Bool
  | [] => false
  | x :: l => match Nat.beq i x with
    | true => true
    | false => inB i l
theorem inB_spec {i : Nat} : ∀ {l : List Nat}, inB i l = true → i ∈ l
  | [], h => by cases h
  | x :: l, h => by
    simp only [inB] at h
    split at h
    · rename_i hb; rw [Nat.eq_of_beq_eq_true hb]; exact List.mem_cons_self ..
    · exact List.mem_cons_of_mem _ (inB_spec h)

/-- A frame's pure state: its temporaries (those that count), the boxes. -/
structure St where
  n : Nat
  tm : List (Nat × PV)
  bx : List (List PC)
  m : Nat
  fx : List Nat

/-- May a temporary be a destination? -/
def St.okd (st : St) (d : Nat) : Prop := d < st.n ∧ inB d st.fx = false
def St.okB (st : St) (d : Nat) : Bool := Nat.ble (d + 1) st.n && !inB d st.fx
theorem St.okB_spec {st : St} {d : Nat} (h : st.okB d = true) : st.okd d := by
  simp only [St.okB, Bool.and_eq_true, Bool.not_eq_true'] at h
  exact ⟨Nat.le_of_ble_eq_true h.1, h.2⟩

def look : List (Nat × PV) → Nat → Option PV
  | [], _ => none
  | (k, v) :: r, t => if k = t then some v else look r t

def St.get (st : St) (t : Nat) : Option PV := look st.tm t
def St.at (st : St) : Place → Option PC
  | .t t c => (st.get t).bind fun pv => pv.cs[c]?
  | .b b c => (st.bx[b]?).bind fun cs => cs[c]?

def aggSize : Value → Option Nat
  | .agg cs => some cs.size
  | _ => none

def Shape.fits (n : Nat) : Shape → Value → Prop
  | .one, v => n = 1 ∧ v.oneCell' = true
  | .agg, v => ∃ cs : Array Value, v = .agg cs ∧ cs.size = n ∧ ∀ x ∈ cs, x.oneCell' = true
  | .tup l, v => ∃ vs : Array Value, v = .tuple vs ∧ (flat v).length = n ∧ l = vs.toList.map aggSize ∧ (∀ x ∈ vs, ∀ y ∈ x.cells, y.oneCell' = true)

/-- The place that a cell names. -/
def PC.names : PC → Option Place
  | .al p | .vw p _ _ _ | .el p _ _ _ => some p
  | _ => none

/-- What may lie in a box. -/
def PC.boxable : PC → Bool
  | .al _ | .vw .. | .el .. => false
  | _ => true

/-- The place is there. -/
def St.ex (st : St) : Place → Prop
  | .t t _ => ∃ pv, st.get t = some pv
  | .b b _ => b < st.bx.length

/-- Something stands at the place. -/
def St.lives (st : St) (p : Place) : Prop := ∃ y, st.at p = some y ∧ y ≠ .dead

def vwVal : Value → Nat → Nat → Nat → Value
  | .slice a _ c, lo, n, s => .slice (if c = lo then a else a.map (·.add (lo * s))) n (c - lo)
  | v, _, _, _ => v
def elVal : Value → Nat → Nat → Nat → Value
  | .slice (some a) _ _, i, off, s => .pointer (some ((a.add (i * s)).add off))
  | _, _, _, _ => .nilFunc

/-- The value of a cell of the frame. -/
def RepC (P : Program) (w : World) (r : Rs) (st : St) (al : Place → Value) : PC → Value → Option Nat → Prop
  | .own e xs, v, g => RepOwn P w r.Sh e xs v g
  | .al p, v, g => g = none ∧ (st.lives p → v = al p)
  | .vw p lo n s, v, g => g = none ∧ (st.lives p → v = vwVal (al p) lo n s)
  | .el p i off s, v, g => g = none ∧ (st.lives p → v = elVal (al p) i off s)
  | .dead, _, g => g = none
  | x, v, g => g = none ∧ RepF w r.Sh r.β st.bx.length x v

/-- What is known of the world and of what is shared, and stays: tables that were laid before. -/
class LaidFacts where
  LW : World → (Nat → Prop) → Prop
  mono : ∀ {w w' : World} {Sh Sh' : Nat → Prop}, (∀ g, Sh g → Sh' g) → (∀ g, Sh g → w'.heap[g]? = w.heap[g]?) → LW w Sh → LW w' Sh'
variable [LaidFacts]

/-- The frame's invariant. -/
structure Inv (P : Program) (st : St) (a : Act) (w : World) (r : Rs) : Prop where
  sz : a.tmps.size = st.n
  m : st.m ≤ st.bx.length
  tm : ∀ t pv, st.get t = some pv → ∃ v, a.tmps[t]? = some v ∧ pv.sh.fits pv.cs.length v
  bx : ∀ b cs, st.bx[b]? = some cs → (∃ vals e, w.heap[r.β b]? = some (.cells vals e (0, 0)) ∧ vals.size = cs.length ∧ ∀ x ∈ vals, x.oneCell' = true) ∧ ∀ x ∈ cs, x.boxable = true
  cell : ∀ p x, st.at p = some x → RepC P w r st (alpha a w r) x (alpha a w r p) (r.γ p)
  nm : ∀ p x q, st.at p = some x → x.names = some q → st.ex q
  live : ∀ p g, r.γ p = some g → ∃ e xs, st.at p = some (.own e xs)
  inj : ∀ p q g, r.γ p = some g → r.γ q = some g → p = q
  exb : ∀ p g b, r.γ p = some g → b < st.bx.length → r.β b ≠ g
  bb : ∀ b b', b < st.bx.length → b' < st.bx.length → r.β b = r.β b' → b = b'
  sh : ∀ g, r.Sh g → g < w.heap.size ∧ (∀ p, r.γ p ≠ some g) ∧ ∀ b, b < st.bx.length → r.β b ≠ g
  defers : a.defers = []
  lw : LaidFacts.LW w r.Sh
  fx : ∀ t, inB t st.fx = true → a.tmps[t]? = some (r.κ t)

/-- The blocks that the frame alone may write. -/
def Rs.X (r : Rs) (nb : Nat) (g : Nat) : Prop := (∃ p, r.γ p = some g) ∨ ∃ b, b < nb ∧ r.β b = g

/-- How the world and what a frame holds may go on; the first m boxes stay. -/
structure Step (m : Nat) (w : World) (r : Rs) (nb : Nat) (w' : World) (r' : Rs) (nb' : Nat) : Prop where
  os : w'.os = w.os
  tape : w'.tape = w.tape
  output : w'.output = w.output
  size : w.heap.size ≤ w'.heap.size
  block : ∀ g, g < w.heap.size → ¬ r.X nb g → w'.heap[g]? = w.heap[g]?
  sh : ∀ g, r.Sh g → r'.Sh g
  shNew : ∀ g, r'.Sh g → r.Sh g ∨ r.X nb g ∨ w.heap.size ≤ g
  x : ∀ g, r'.X nb' g → r.X nb g ∨ w.heap.size ≤ g
  β : ∀ b, b < m → r'.β b = r.β b
  κ : r'.κ = r.κ

theorem Step.refl (m : Nat) (w : World) (r : Rs) (nb : Nat) : Step m w r nb w r nb :=
  ⟨rfl, rfl, rfl, Nat.le_refl _, fun _ _ _ => rfl, fun _ h => h, fun _ h => .inl h, fun _ h => .inl h, fun _ _ => rfl, rfl⟩

theorem Step.trans {m : Nat} {w₀ w₁ w₂ : World} {r₀ r₁ r₂ : Rs} {n₀ n₁ n₂ : Nat} (h : Step m w₀ r₀ n₀ w₁ r₁ n₁) (k : Step m w₁ r₁ n₁ w₂ r₂ n₂) : Step m w₀ r₀ n₀ w₂ r₂ n₂ where
  os := k.os.trans h.os
  tape := k.tape.trans h.tape
  output := k.output.trans h.output
  size := Nat.le_trans h.size k.size
  block := fun g hg hx => by
    rw [k.block g (Nat.lt_of_lt_of_le hg h.size) (fun h1 => (h.x g h1).elim hx (fun h2 => by omega)), h.block g hg hx]
  sh := fun g hg => k.sh g (h.sh g hg)
  shNew := fun g hg => by
    rcases k.shNew g hg with h1 | h1 | h1
    · exact h.shNew g h1
    · rcases h.x g h1 with h2 | h2
      · exact .inr (.inl h2)
      · exact .inr (.inr h2)
    · exact .inr (.inr (Nat.le_trans h.size h1))
  x := fun g hg => by
    rcases k.x g hg with h1 | h1
    · exact h.x g h1
    · exact .inr (Nat.le_trans h.size h1)
  β := fun b hb => by rw [k.β b hb, h.β b hb]
  κ := k.κ.trans h.κ

end Go.Proofs.YtaikjjlbfdkgmaaDoor.E
