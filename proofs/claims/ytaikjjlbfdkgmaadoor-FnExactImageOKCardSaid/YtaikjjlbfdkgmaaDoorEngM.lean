/- The engine, part M: calls. Plain lemmas; no program. -/
import Derived.Test.YtaikjjlbfdkgmaaDoorEngL
set_option linter.unusedVariables false
set_option linter.unusedSectionVars false
set_option linter.unusedSimpArgs false
namespace Go.Proofs.YtaikjjlbfdkgmaaDoor.E
open Go.RowKit
variable [LaidFacts]

section
variable {P : Program} {st : St} {a : Act} {w : World} {r : Rs}

/-- A cell that may be shared as it stands. -/
def PC.plain : PC → Bool
  | .sc _ | .sl .. | .cel .. | .bnd .. | .er | .nl => true
  | _ => false
/-- A cell as a callee gets it. -/
def passC (P : Program) (st : St) : PC → Option PC
  | .al p => (St.row P st 4 (.al p)).map fun x => .sl x.1 x.2
  | .vw p lo n s => (St.row P st 4 (.vw p lo n s)).map fun x => .sl x.1 x.2
  | .fn f caps => if caps.all PC.plain then some (.fn f caps) else none
  | x => if x.plain then some x else none
def passR (P : Program) (st : St) (x y : PC) : Prop := passC P st x = some y ∨ ∃ s s', St.row P st 4 x = some (s, []) ∧ y = .sl s' []
def passCs (P : Program) (st : St) : List PC → List PC → Prop
  | [], [] => True
  | x :: l, y :: m => passR P st x y ∧ passCs P st l m
  | _, _ => False
def passL (P : Program) (st : St) : List PV → List PV → Prop
  | [], [] => True
  | x :: l, y :: m => x.sh = y.sh ∧ passCs P st x.cs y.cs ∧ passL P st l m
  | _, _ => False

def Rs.all (r : Rs) (g : Nat) : Prop := r.Sh g ∨ ∃ p, r.γ p = some g

theorem vw_rep {w : World} {Sh : Nat → Prop} {s lo n : Nat} {xs : List (List PC)} {u : Value} (h : RepS w Sh (.sl s xs) u) (hle : lo + n ≤ xs.length) : RepS w Sh (.sl s ((xs.drop lo).take n)) (vwVal u lo n s) := by
  rcases Nat.eq_zero_or_pos n with e | hn
  · subst e
    cases h with
    | nil => simp only [List.take_zero, vwVal]; exact .nil
    | sl f hz hc hsh hcell hr => simp only [List.take_zero, vwVal]; exact .nil
  · cases h with
    | nil => simp at hle; omega
    | sl f hz hc hsh hcell hr =>
      rename_i g off c
      have hlen : ((xs.drop lo).take n).length = n := by simp; omega
      have hcl : c ≠ lo := by omega
      have hi : ∀ i el, ((xs.drop lo).take n)[i]? = some el → xs[lo + i]? = some el := fun i el h => (take_drop_at h).2
      have := RepS.sl (w := w) (Sh := Sh) (xs := (xs.drop lo).take n) (g := g) (off := off + lo * s) (c := c - lo) (size := s) (fun i j => f (lo + i) j) (fun el he => hz el (List.mem_of_mem_drop (List.mem_of_mem_take he))) (by omega) hsh
        (fun i j el x h1 h2 => by rw [← hcell (lo + i) j el x (hi i el h1) h2]; congr 2; rw [Nat.add_mul]; omega) (fun i j el x h1 h2 => hr (lo + i) j el x (hi i el h1) h2)
      rw [hlen] at this
      simp only [vwVal, if_neg hcl, Option.map_some, add_mk]
      exact this

theorem Inv.rowS (h : Inv P st a w r) : ∀ (k : Nat) {x : PC} {v : Value} {g : Option Nat} {s : Nat} {xs : List (List PC)}, (∀ k, g = some k → r.all k) → RepC P w r st (alpha a w r) x v g → St.row P st k x = some (s, xs) → RepS w r.all (.sl s xs) v
  | k, .sl s' xs', v, g, s, xs, hg, hx, hr => by
    obtain ⟨_, hx⟩ := hx
    cases k <;> simp only [St.row, Option.some.injEq, Prod.mk.injEq] at hr <;> obtain ⟨rfl, rfl⟩ := hr <;> (cases hx with | s hs => exact hs.mono (fun _ h => .inl h) (fun _ _ => rfl))
  | k, .own e xs', v, g, s, xs, hg, hx, hr => by
    cases k <;> simp only [St.row, Option.some.injEq, Prod.mk.injEq] at hr <;> obtain ⟨rfl, rfl⟩ := hr <;> exact RepOwn.share hx (fun _ h => .inl h) hg
  | k, .nl, v, g, s, xs, hg, hx, hr => by
    obtain ⟨_, hx⟩ := hx
    have hv : v = .slice none 0 0 := by cases hx with | s hs => cases hs; rfl
    subst hv
    cases k <;> simp only [St.row, Option.some.injEq, Prod.mk.injEq] at hr <;> obtain ⟨rfl, rfl⟩ := hr <;> exact .nil
  | 0, .al p, v, g, s, xs, hg, hx, hr => by simp [St.row] at hr
  | k + 1, .al p, v, g, s, xs, hg, hx, hr => by
    simp only [St.row, Option.bind_eq_some_iff] at hr
    obtain ⟨y, hy, hr⟩ := hr
    have hl : st.lives p := ⟨y, hy, fun e => by subst e; cases k <;> simp [St.row] at hr⟩
    rw [hx.2 hl]
    exact Inv.rowS h k (fun k hk => .inr ⟨p, hk⟩) (h.cell p y hy) hr
  | 0, .vw p lo n s', v, g, s, xs, hg, hx, hr => by simp [St.row] at hr
  | k + 1, .vw p lo n s', v, g, s, xs, hg, hx, hr => by
    simp only [St.row] at hr
    split at hr
    · rename_i s0 xs0 h0
      split at hr
      · rename_i hc
        obtain ⟨rfl, hle⟩ := hc
        simp only [Option.some.injEq, Prod.mk.injEq] at hr
        obtain ⟨rfl, rfl⟩ := hr
        simp only [Option.bind_eq_some_iff] at h0
        obtain ⟨y, hy, h0⟩ := h0
        have hl : st.lives p := ⟨y, hy, fun e => by subst e; cases k <;> simp [St.row] at h0⟩
        rw [hx.2 hl]
        exact vw_rep (Inv.rowS h k (fun k hk => .inr ⟨p, hk⟩) (h.cell p y hy) h0) hle
      · cases hr
    · cases hr
  | k, .sc _, v, g, s, xs, hg, hx, hr => by cases k <;> simp [St.row] at hr
  | k, .ref _ _, v, g, s, xs, hg, hx, hr => by cases k <;> simp [St.row] at hr
  | k, .el _ _ _ _, v, g, s, xs, hg, hx, hr => by cases k <;> simp [St.row] at hr
  | k, .cel _ _, v, g, s, xs, hg, hx, hr => by cases k <;> simp [St.row] at hr
  | k, .fn _ _, v, g, s, xs, hg, hx, hr => by cases k <;> simp [St.row] at hr
  | k, .bnd _ _, v, g, s, xs, hg, hx, hr => by cases k <;> simp [St.row] at hr
  | k, .er, v, g, s, xs, hg, hx, hr => by cases k <;> simp [St.row] at hr
  | k, .dead, v, g, s, xs, hg, hx, hr => by cases k <;> simp [St.row] at hr

theorem plain_rep {x : PC} {v : Value} (hp : x.plain = true) (h : RepC P w r st (alpha a w r) x v none) : RepS w r.Sh x v := by
  cases x <;> simp only [PC.plain] at hp <;> try (cases hp; done)
  all_goals
    obtain ⟨_, h⟩ := h
    cases h with
    | s h => exact h
theorem plainF_rep {Sh : Nat → Prop} {β : Nat → Nat} {nb : Nat} {x : PC} {v : Value} (hp : x.plain = true) (h : RepF w Sh β nb x v) : RepS w Sh x v := by
  cases h with
  | s h => exact h
  | ref h => cases hp
  | fn _ _ => cases hp

theorem row_nil_rep {Sh : Nat → Prop} {s s' : Nat} {v : Value} (h : RepS w Sh (.sl s []) v) : RepS w Sh (.sl s' []) v := by
  cases h with
  | nil => exact .nil
  | sl f hz hc hsh hcell hr => exact .nil

theorem Inv.pass (hi : Inv P st a w r) {x y : PC} {v : Value} (hx : RepC P w r st (alpha a w r) x v none) (hp : passR P st x y) : RepS w r.all y v ∧ y.names = none ∧ (∀ e xs, y ≠ .own e xs) := by
  have up : ∀ {y : PC} {v : Value}, RepS w r.Sh y v → RepS w r.all y v := fun h => h.mono (fun _ h => .inl h) (fun _ _ => rfl)
  rcases hp with hp | ⟨s, s', hr, rfl⟩
  · have hrow : ∀ s xs, St.row P st 4 x = some (s, xs) → RepS w r.all (.sl s xs) v := fun s xs hr => hi.rowS 4 (fun _ h => by cases h) hx hr
    cases x <;> simp only [passC, PC.plain, if_true, Bool.false_eq_true, if_false] at hp <;> try (cases hp; done)
    case al p =>
      obtain ⟨z, hz, rfl⟩ := Option.map_eq_some_iff.1 hp
      exact ⟨hrow _ _ hz, rfl, fun _ _ h => by cases h⟩
    case vw p lo n s =>
      obtain ⟨z, hz, rfl⟩ := Option.map_eq_some_iff.1 hp
      exact ⟨hrow _ _ hz, rfl, fun _ _ h => by cases h⟩
    case fn f caps =>
      split at hp
      · rename_i hc
        cases hp
        refine ⟨?_, rfl, fun _ _ h => by cases h⟩
        obtain ⟨_, hx⟩ := hx
        cases hx with
        | s h => exact up h
        | fn hn hr => exact .fn hn fun j x u hj hu => up (plainF_rep (List.all_eq_true.1 hc x (List.mem_of_getElem? hj)) (hr j x u hj hu))
      · cases hp
    all_goals
      cases hp
      exact ⟨up (plain_rep rfl hx), rfl, fun _ _ h => by cases h⟩
  · exact ⟨row_nil_rep (hi.rowS 4 (fun _ h => by cases h) hx hr), rfl, fun _ _ h => by cases h⟩

theorem passCs_at : ∀ {l m : List PC}, passCs P st l m → l.length = m.length ∧ ∀ (c : Nat) (y : PC), m[c]? = some y → ∃ x, l[c]? = some x ∧ passR P st x y
  | [], [], _ => ⟨rfl, fun c y h => by simp at h⟩
  | x :: l, y :: m, h => by
    obtain ⟨h1, h2⟩ := h
    obtain ⟨h3, h4⟩ := passCs_at h2
    refine ⟨by simp [h3], fun c z hz => ?_⟩
    cases c with
    | zero => simp only [List.getElem?_cons_zero, Option.some.injEq] at hz; subst hz; exact ⟨x, rfl, h1⟩
    | succ c => exact h4 c z hz
  | [], y :: m, h => h.elim
  | x :: l, [], h => h.elim

theorem passL_at : ∀ {l m : List PV}, passL P st l m → l.length = m.length ∧ ∀ (t : Nat) (y : PV), m[t]? = some y → ∃ x, l[t]? = some x ∧ x.sh = y.sh ∧ passCs P st x.cs y.cs
  | [], [], _ => ⟨rfl, fun c y h => by simp at h⟩
  | x :: l, y :: m, h => by
    obtain ⟨h0, h1, h2⟩ := h
    obtain ⟨h3, h4⟩ := passL_at h2
    refine ⟨by simp [h3], fun c z hz => ?_⟩
    cases c with
    | zero => simp only [List.getElem?_cons_zero, Option.some.injEq] at hz; subst hz; exact ⟨x, rfl, h0, h1⟩
    | succ c => exact h4 c z hz
  | [], y :: m, h => h.elim
  | x :: l, [], h => h.elim

theorem run_enter {f : FuncId} {fn : Func} (hf : P.funcs[f]? = some fn) (hname : (fn.name == "runtime.NumGoroutine") = false) (hbody : fn.body.isSome = true) (args : Array Value) (w : World) : (callFunc f args).run P w = .ok (.enter f args) w := by
  have h1 : fn.name ≠ "runtime.NumGoroutine" := by simpa using hname
  obtain ⟨c, hc⟩ := Option.isSome_iff_exists.1 hbody
  simp [callFunc, hf, h1, hc]

/-- What is made of single values alone. -/
def PC.scalar : PC → Bool
  | .sc _ | .er | .nl => true
  | _ => false
def PC.flatB : PC → Bool
  | .own _ xs => xs.all fun el => el.all PC.scalar
  | x => x.scalar

theorem scalar_rep {w w' : World} {Sh Sh' : Nat → Prop} {x : PC} {v : Value} (hx : x.scalar = true) (h : RepS w Sh x v) : RepS w' Sh' x v := by
  cases h <;> simp only [PC.scalar] at hx <;> first | (cases hx; done) | exact .sc ‹_› | exact .er | exact .nl

theorem flatB_rep {r' : Rs} {st' : St} {al al' : Place → Value} {x : PC} {v : Value} {g : Option Nat} (hx : x.flatB = true) (h : RepC P w r st al x v g) : RepC P w r' st' al' x v g := by
  cases x <;> simp only [PC.flatB, PC.scalar] at hx <;> try (cases hx; done)
  case own e xs =>
    obtain ⟨vals, h1, h2, h3, h4⟩ := h
    refine ⟨vals, h1, h2, h3, fun i x hi => ?_⟩
    obtain ⟨u, hu, hr⟩ := h4 i x hi
    obtain ⟨el, hel, hxe⟩ := List.mem_flatten.1 (List.mem_of_getElem? hi)
    exact ⟨u, hu, scalar_rep (List.all_eq_true.1 (List.all_eq_true.1 hx el hel) x hxe) hr⟩
  all_goals
    obtain ⟨h1, h2⟩ := h
    refine ⟨h1, ?_⟩
    cases h2 with
    | s h => exact .s (scalar_rep rfl h)

theorem flatB_free : ∀ (x : PC), x.flatB = true → x.free 0 = true
  | .sc _, _ | .sl .., _ | .own .., _ | .er, _ | .nl, _ | .dead, _ | .cel .., _ => rfl
  | .fn .., h | .ref .., h | .al _, h | .vw .., h | .el .., h => by simp [PC.flatB, PC.scalar] at h

end
end Go.Proofs.YtaikjjlbfdkgmaaDoor.E
