/- The engine, part W: arguments of calls; calls of function values. Plain lemmas; no program. -/
import Derived.Test.YtaikjjlbfdkgmaaDoorEngV
import Derived.Lib.ConvBytes
import Derived.Laws.BytesArg
set_option linter.unusedVariables false
set_option linter.unusedSectionVars false
set_option linter.unusedSimpArgs false
namespace Go.Proofs.YtaikjjlbfdkgmaaDoor.E
open Go.RowKit
variable [LaidFacts]

def mapO {α β : Type} (f : α → Option β) : List α → Option (List β)
  | [] => some []
  | x :: l => match f x, mapO f l with
    | some y, some m => some (y :: m)
    | _, _ => none
theorem mapO_at {α β : Type} {f : α → Option β} : ∀ {l : List α} {m : List β}, mapO f l = some m → l.length = m.length ∧ ∀ (j : Nat) (y : β), m[j]? = some y → ∃ x, l[j]? = some x ∧ f x = some y
  | [], m, h => by simp only [mapO, Option.some.injEq] at h; subst h; exact ⟨rfl, fun j y h => by simp at h⟩
  | x :: l, m, h => by
    simp only [mapO] at h
    split at h
    · rename_i y m' h1 h2
      simp only [Option.some.injEq] at h
      subst h
      obtain ⟨h3, h4⟩ := mapO_at h2
      refine ⟨by simp [h3], fun j z hz => ?_⟩
      cases j with
      | zero => simp only [List.getElem?_cons_zero, Option.some.injEq] at hz; subst hz; exact ⟨x, rfl, h1⟩
      | succ j => exact h4 j z hz
    · cases h

/-- A cell as a callee gets it: it reads what we own, and our boxes. -/
def passX (P : Program) (st : St) : Nat → PC → Option PC
  | _, .al p => (St.row P st 4 (.al p)).map fun x => .sl x.1 x.2
  | _, .vw p lo n s => (St.row P st 4 (.vw p lo n s)).map fun x => .sl x.1 x.2
  | k + 1, .fn f caps => (mapO (passX P st k) caps).map (.fn f)
  | k + 1, .ref b off => match st.bx[b]? with
    | some cs => (mapO (passX P st k) cs).map fun l => .cel l off
    | none => none
  | _, .own e xs => some (.sl (P.cellsOf e) xs)
  | _, .sc v => some (.sc v)
  | _, .sl s xs => some (.sl s xs)
  | _, .cel cs off => some (.cel cs off)
  | _, .bnd f cs => some (.bnd f cs)
  | _, .er => some .er
  | _, .nl => some .nl
  | _, _ => none

def Rs.allB (r : Rs) (nb g : Nat) : Prop := r.Sh g ∨ r.X nb g

section
variable {P : Program} {st : St} {a : Act} {w : World} {r : Rs} {o : Oper}

theorem passX_flat : ∀ {k : Nat} {x y : PC}, passX P st k x = some y → y.names = none ∧ ∀ e xs, y ≠ .own e xs := by
  intro k x y h
  cases x <;> cases k <;> simp only [passX] at h <;> first
    | (cases h; done)
    | (cases h; exact ⟨rfl, fun _ _ h => by cases h⟩)
    | (obtain ⟨z, _, rfl⟩ := Option.map_eq_some_iff.1 h; exact ⟨rfl, fun _ _ h => by cases h⟩)
    | (split at h
       · obtain ⟨z, _, rfl⟩ := Option.map_eq_some_iff.1 h; exact ⟨rfl, fun _ _ h => by cases h⟩
       · cases h)

theorem Inv.passX (hi : Inv P st a w r) : ∀ (k : Nat), (∀ (x y : PC) (v : Value), RepF w r.Sh r.β st.bx.length x v → E.passX P st k x = some y → RepS w (r.allB st.bx.length) y v) ∧
    (∀ (x y : PC) (v : Value) (g : Option Nat), (∀ j, g = some j → r.allB st.bx.length j) → RepC P w r st (alpha a w r) x v g → E.passX P st k x = some y → RepS w (r.allB st.bx.length) y v) := by
  have up : ∀ {y : PC} {v : Value}, RepS w r.Sh y v → RepS w (r.allB st.bx.length) y v := fun h => h.mono (fun _ h => .inl h) (fun _ _ => rfl)
  have upA : ∀ {y : PC} {v : Value}, RepS w r.all y v → RepS w (r.allB st.bx.length) y v := fun h => h.mono (fun _ h => h.elim .inl fun h => .inr (.inl h)) (fun _ _ => rfl)
  intro k
  induction k with
  | zero =>
    have hF : ∀ (x y : PC) (v : Value), RepF w r.Sh r.β st.bx.length x v → E.passX P st 0 x = some y → RepS w (r.allB st.bx.length) y v := by
      intro x y v hx hp
      cases hx with
      | s h =>
        cases h <;> simp only [E.passX] at hp <;> first | (cases hp; done) | (cases hp; exact up (by first | exact .sc ‹_› | exact .nil | exact .er | exact .nl | exact .bnd ‹_› ‹_› | exact .sl _ ‹_› ‹_› ‹_› ‹_› ‹_› | exact .cel _ ‹_› ‹_› ‹_›))
      | ref h => simp [E.passX] at hp
      | fn hn hr => simp [E.passX] at hp
    refine ⟨hF, fun x y v g hg hx hp => ?_⟩
    cases x
    case al p =>
      obtain ⟨z, hz, rfl⟩ := Option.map_eq_some_iff.1 (show (St.row P st 4 (.al p)).map _ = some y by simpa only [E.passX] using hp)
      exact upA (hi.rowS 4 (fun j hj => by rw [hx.1] at hj; cases hj) hx hz)
    case vw p lo n s =>
      obtain ⟨z, hz, rfl⟩ := Option.map_eq_some_iff.1 (show (St.row P st 4 (.vw p lo n s)).map _ = some y by simpa only [E.passX] using hp)
      exact upA (hi.rowS 4 (fun j hj => by rw [hx.1] at hj; cases hj) hx hz)
    case own e xs =>
      simp only [E.passX, Option.some.injEq] at hp
      subst hp
      exact RepOwn.share hx (fun _ h => .inl h) (fun j hj => hg j hj)
    case el => simp [E.passX] at hp
    case dead => simp [E.passX] at hp
    all_goals exact hF _ _ _ hx.2 hp
  | succ k ih =>
    obtain ⟨ihF, ihC⟩ := ih
    have hF : ∀ (x y : PC) (v : Value), RepF w r.Sh r.β st.bx.length x v → E.passX P st (k + 1) x = some y → RepS w (r.allB st.bx.length) y v := by
      intro x y v hx hp
      cases hx with
      | s h =>
        cases h
        case fn f caps vs hn hr =>
          simp only [E.passX] at hp
          obtain ⟨l, hl, rfl⟩ := Option.map_eq_some_iff.1 hp
          obtain ⟨h1, h2⟩ := mapO_at hl
          refine .fn (by rw [hn, h1]) fun j x u hj hu => ?_
          obtain ⟨z, hz, hpz⟩ := h2 j x hj
          exact ihF z x u (.s (hr j z u hz hu)) hpz
        all_goals
          simp only [E.passX] at hp
          cases hp
          exact up (by first | exact .sc ‹_› | exact .bnd ‹_› ‹_› | exact .nil | exact .er | exact .nl | exact .sl _ ‹_› ‹_› ‹_› ‹_› ‹_› | exact .cel _ ‹_› ‹_› ‹_›)
      | ref h =>
        rename_i b off
        simp only [E.passX] at hp
        split at hp
        · rename_i cs hcs
          obtain ⟨l, hl, rfl⟩ := Option.map_eq_some_iff.1 hp
          obtain ⟨h1, h2⟩ := mapO_at hl
          obtain ⟨⟨vals, e, hh, hv, _⟩, _⟩ := hi.bx b cs hcs
          have hb : r.allB st.bx.length (r.β b) := .inr (.inr ⟨b, h, rfl⟩)
          have hcell : ∀ j, j < cs.length → w.cell? ⟨r.β b, j, none⟩ = some (alpha a w r (.b b j)) := by
            intro j hj
            have : w.cell? ⟨r.β b, j, none⟩ = some (vals[j]'(by omega)) := by
              simp [World.cell?, hh, hv, hj]
            simp only [alpha, this, Option.getD_some]
          have := RepS.cel (w := w) (Sh := r.allB st.bx.length) (cs := l) (off := off) (g := r.β b) (o := 0) (fun j => alpha a w r (.b b j)) hb
            (fun j x hj => by
              have hj' := (List.getElem?_eq_some_iff.1 hj).1
              rw [Nat.zero_add]
              exact hcell j (by omega))
            (fun j x hj => by
              obtain ⟨z, hz, hpz⟩ := h2 j x hj
              exact ihC z x _ (r.γ (.b b j)) (fun i hi' => .inr (.inl ⟨_, hi'⟩)) (hi.cell (.b b j) z (by simp [St.at, hcs, hz])) hpz)
          rw [Nat.zero_add] at this
          exact this
        · cases hp
      | fn hn hr =>
        simp only [E.passX] at hp
        obtain ⟨l, hl, rfl⟩ := Option.map_eq_some_iff.1 hp
        obtain ⟨h1, h2⟩ := mapO_at hl
        refine .fn (by rw [hn, h1]) fun j x u hj hu => ?_
        obtain ⟨z, hz, hpz⟩ := h2 j x hj
        exact ihF z x u (hr j z u hz hu) hpz
    refine ⟨hF, fun x y v g hg hx hp => ?_⟩
    cases x
    case al p =>
      obtain ⟨z, hz, rfl⟩ := Option.map_eq_some_iff.1 (show (St.row P st 4 (.al p)).map _ = some y by simpa only [E.passX] using hp)
      exact upA (hi.rowS 4 (fun j hj => by rw [hx.1] at hj; cases hj) hx hz)
    case vw p lo n s =>
      obtain ⟨z, hz, rfl⟩ := Option.map_eq_some_iff.1 (show (St.row P st 4 (.vw p lo n s)).map _ = some y by simpa only [E.passX] using hp)
      exact upA (hi.rowS 4 (fun j hj => by rw [hx.1] at hj; cases hj) hx hz)
    case own e xs =>
      simp only [E.passX, Option.some.injEq] at hp
      subst hp
      exact RepOwn.share hx (fun _ h => .inl h) (fun j hj => hg j hj)
    case el => simp [E.passX] at hp
    case dead => simp [E.passX] at hp
    all_goals exact hF _ _ _ hx.2 hp

/-- A cell that is shared already, or that names one. -/
def shX (st : St) : PC → Option PC
  | .al p => match st.at p with
    | some (.sl s xs) => some (.sl s xs)
    | some .nl => some .nl
    | _ => none
  | .fn f caps => match caps.all PC.plain with
    | true => some (.fn f caps)
    | false => none
  | .sc v => some (.sc v)
  | .sl s xs => some (.sl s xs)
  | .cel cs off => some (.cel cs off)
  | .bnd f cs => some (.bnd f cs)
  | .er => some .er
  | .nl => some .nl
  | _ => none

theorem Inv.shX (hi : Inv P st a w r) {x y : PC} {v : Value} {g : Option Nat} (hx : RepC P w r st (alpha a w r) x v g) (hp : E.shX st x = some y) : RepS w r.Sh y v ∧ y.names = none ∧ ∀ e xs, y ≠ .own e xs := by
  have plain : ∀ (x : PC) (v : Value) (g : Option Nat), x.plain = true → RepC P w r st (alpha a w r) x v g → RepS w r.Sh x v := by
    intro x v g hpl h
    cases x <;> simp only [PC.plain] at hpl <;> try (cases hpl; done)
    all_goals
      obtain ⟨_, h⟩ := h
      cases h with
      | s h => exact h
  cases x <;> simp only [E.shX] at hp <;> try (cases hp; done)
  case al p =>
    split at hp
    · rename_i s xs hat
      cases hp
      rw [hx.2 ⟨_, hat, by simp⟩]
      exact ⟨plain _ _ _ rfl (hi.cell p _ hat), rfl, fun _ _ h => by cases h⟩
    · rename_i hat
      cases hp
      rw [hx.2 ⟨_, hat, by simp⟩]
      exact ⟨plain _ _ _ rfl (hi.cell p _ hat), rfl, fun _ _ h => by cases h⟩
    · cases hp
  case fn f caps =>
    split at hp
    · rename_i hc
      cases hp
      refine ⟨?_, rfl, fun _ _ h => by cases h⟩
      obtain ⟨_, hx⟩ := hx
      cases hx with
      | s h => exact h
      | fn hn hr => exact .fn hn fun j x u hj hu => plainF_rep (List.all_eq_true.1 hc x (List.mem_of_getElem? hj)) (hr j x u hj hu)
    · cases hp
  all_goals
    cases hp
    exact ⟨plain _ _ _ rfl hx, rfl, fun _ _ h => by cases h⟩

def nilHint : PC → List Nat → Option (Nat × List Nat)
  | .nl, s :: ns => some (s, ns)
  | _, _ => none
theorem nilHint_eq {x : PC} {ns ns' : List Nat} {s : Nat} (h : nilHint x ns = some (s, ns')) : x = .nl := by
  cases x <;> cases ns <;> simp only [nilHint] at h <;> first | rfl | (cases h; done)
/-- Cells as a callee gets them; an empty row may be one of any kind. -/
def passCs2 (f : PC → Option PC) : List PC → List Nat → Option (List PC × List Nat)
  | [], ns => some ([], ns)
  | x :: l, ns => match nilHint x ns with
    | some (s, ns') => match passCs2 f l ns' with
      | some (m, ns'') => some (.sl s [] :: m, ns'')
      | none => none
    | none => match f x with
      | some y => match passCs2 f l ns with
        | some (m, ns') => some (y :: m, ns')
        | none => none
      | none => none
def passPVs (f : PC → Option PC) : List PV → List Nat → Option (List PV)
  | [], _ => some []
  | ⟨sh, cs⟩ :: l, ns => match passCs2 f cs ns with
    | some (m, ns') => match passPVs f l ns' with
      | some l' => some (⟨sh, m⟩ :: l')
      | none => none
    | none => none

theorem passCs2_at {f : PC → Option PC} : ∀ {l : List PC} {ns : List Nat} {m : List PC} {ns' : List Nat}, passCs2 f l ns = some (m, ns') → l.length = m.length ∧ ∀ (j : Nat) (y : PC), m[j]? = some y → ∃ x, l[j]? = some x ∧ (f x = some y ∨ (x = .nl ∧ ∃ s, y = .sl s []))
  | [], ns, m, ns', h => by simp only [passCs2, Option.some.injEq, Prod.mk.injEq] at h; obtain ⟨rfl, _⟩ := h; exact ⟨rfl, fun j y h => by simp at h⟩
  | x :: l, ns, m, ns', h => by
    simp only [passCs2] at h
    split at h
    · rename_i s ns1 hn
      have hx := nilHint_eq hn
      split at h
      · rename_i m1 ns2 h2
        simp only [Option.some.injEq, Prod.mk.injEq] at h
        obtain ⟨rfl, _⟩ := h
        obtain ⟨h3, h4⟩ := passCs2_at h2
        refine ⟨by simp [h3], fun j z hz => ?_⟩
        cases j with
        | zero => simp only [List.getElem?_cons_zero, Option.some.injEq] at hz; subst hz; exact ⟨x, rfl, .inr ⟨hx, _, rfl⟩⟩
        | succ j => exact h4 j z hz
      · cases h
    · split at h
      · rename_i y h1
        split at h
        · rename_i m1 ns2 h2
          simp only [Option.some.injEq, Prod.mk.injEq] at h
          obtain ⟨rfl, _⟩ := h
          obtain ⟨h3, h4⟩ := passCs2_at h2
          refine ⟨by simp [h3], fun j z hz => ?_⟩
          cases j with
          | zero => simp only [List.getElem?_cons_zero, Option.some.injEq] at hz; subst hz; exact ⟨_, rfl, .inl h1⟩
          | succ j => exact h4 j z hz
        · cases h
      · cases h

theorem passPVs_at {f : PC → Option PC} : ∀ {l : List PV} {ns : List Nat} {m : List PV}, passPVs f l ns = some m → l.length = m.length ∧ ∀ (t : Nat) (y : PV), m[t]? = some y → ∃ x, l[t]? = some x ∧ x.sh = y.sh ∧ x.cs.length = y.cs.length ∧
    ∀ (j : Nat) (z : PC), y.cs[j]? = some z → ∃ u, x.cs[j]? = some u ∧ (f u = some z ∨ (u = .nl ∧ ∃ s, z = .sl s []))
  | [], ns, m, h => by simp only [passPVs, Option.some.injEq] at h; subst h; exact ⟨rfl, fun j y h => by simp at h⟩
  | ⟨sh, cs⟩ :: l, ns, m, h => by
    simp only [passPVs] at h
    split at h
    · rename_i m1 ns1 h1
      split at h
      · rename_i l' h2
        simp only [Option.some.injEq] at h
        subst h
        obtain ⟨h3, h4⟩ := passPVs_at h2
        obtain ⟨h5, h6⟩ := passCs2_at h1
        refine ⟨by simp [h3], fun t y hy => ?_⟩
        cases t with
        | zero => simp only [List.getElem?_cons_zero, Option.some.injEq] at hy; subst hy; exact ⟨_, rfl, rfl, h5, h6⟩
        | succ t => exact h4 t y hy
      · cases h
    · cases h

/-- The callee's frame, from what its arguments read as. -/
theorem frame_mk {args : List PV} {vals : List Value} {w : World} {Sc : Nat → Prop} {β : Nat → Nat} (hlen : vals.length = args.length) (hSc : ∀ g, Sc g → g < w.heap.size) (hlw : LaidFacts.LW w Sc)
    (h : ∀ (t : Nat) (pv : PV), args[t]? = some pv → ∃ v, vals[t]? = some v ∧ pv.sh.fits pv.cs.length v ∧ ∀ (c : Nat) (x : PC), pv.cs[c]? = some x → RepS w Sc x ((flat v).getD c undef) ∧ x.names = none) :
    Inv P ⟨args.length, enum 0 args, [], 0, []⟩ ⟨vals.toArray, []⟩ w ⟨Sc, β, fun _ => none, fun _ => undef⟩ := by
  have hget : ∀ t pv, (⟨args.length, enum 0 args, [], 0, []⟩ : St).get t = some pv → args[t]? = some pv := by
    intro t pv ht
    simp only [St.get, look_enum, Nat.zero_le, if_true, Nat.sub_zero] at ht
    exact ht
  refine ⟨by simp [hlen], Nat.le_refl _, fun t pv ht => ?_, fun b cs hb => (by simp at hb), fun p x hp' => ?_, fun p x q hp' hq => ?_, (fun p g hg => nomatch hg), (fun p q g hg => nomatch hg), (fun p g b hg => nomatch hg), (fun b b' hb => nomatch hb), fun g hg => ⟨hSc g hg, (fun _ h => nomatch h), (fun b hb => nomatch hb)⟩, rfl, hlw, fun _ h => by cases h⟩
  · obtain ⟨v, h1, h2, _⟩ := h t pv (hget t pv ht)
    exact ⟨v, by simpa using h1, h2⟩
  · cases p with
    | t t c =>
      obtain ⟨pv, h1, h2⟩ := St.at_tmp hp'
      obtain ⟨v, h3, _, h4⟩ := h t pv (hget t pv h1)
      have ha : alpha ⟨vals.toArray, []⟩ w ⟨Sc, β, fun _ => none, fun _ => undef⟩ (.t t c) = (flat v).getD c undef := by
        simp [alpha, Array.getD_eq_getD_getElem?, h3]
      rw [ha]
      exact ((h4 c x h2).1.hasC (P := P) (st := ⟨args.length, enum 0 args, [], 0, []⟩) (a := ⟨vals.toArray, []⟩) (r := ⟨Sc, β, fun _ => none, fun _ => undef⟩)).1
    | b b c => simp [St.at] at hp'
  · cases p with
    | t t c =>
      obtain ⟨pv, h1, h2⟩ := St.at_tmp hp'
      obtain ⟨v, h3, _, h4⟩ := h t pv (hget t pv h1)
      rw [(h4 c x h2).2] at hq; cases hq
    | b b c => simp [St.at] at hp'

/-- The function that a callee's cell names, and what it holds. -/
def calleeOf : PC → Option (FuncId × List PC)
  | .sc (.func (.func f) ⟨[]⟩ ⟨[]⟩) => some (f, [])
  | .fn f caps => some (f, caps)
  | _ => none

theorem callee_rep {w : World} {Sh : Nat → Prop} {β : Nat → Nat} {nb : Nat} {x : PC} {v : Value} {f : FuncId} {caps : List PC} (hc : calleeOf x = some (f, caps)) (h : RepF w Sh β nb x v) :
    ∃ vs : Array Value, v = .func (.func f) #[] vs ∧ vs.size = caps.length ∧ ∀ (j : Nat) (y : PC) (u : Value), caps[j]? = some y → vs[j]? = some u → RepF w Sh β nb y u := by
  unfold calleeOf at hc
  split at hc
  · cases hc
    cases h with
    | s h => cases h; exact ⟨#[], rfl, rfl, fun j y u h => by simp at h⟩
  · cases hc
    cases h with
    | s h => cases h with
      | fn hn hr => exact ⟨_, rfl, hn, fun j y u hj hu => .s (hr j y u hj hu)⟩
    | fn hn hr => exact ⟨_, rfl, hn, hr⟩
  · cases hc

def okFn (P : Program) (f : FuncId) : Bool :=
  match P.funcs[f]? with
  | some fn => fn.body.isSome && !(fn.name == "runtime.NumGoroutine")
  | none => false

theorem run_callV {x : Operand} {as : Array Operand} {ts : Array TypeId} {f : FuncId} {vs : Array Value} (ho : o.op = .call { callee := .value x, args := as, argTypes := ts }) (hx : a.eval x = .func (.func f) #[] vs) (hf : okFn P f = true) (w : World) :
    (execOp a.eval o).run P w = .ok (.enter f (as.toList.map a.eval ++ vs.toList).toArray) w := by
  unfold okFn at hf
  split at hf
  · rename_i fn hfn
    simp only [Bool.and_eq_true, Bool.not_eq_true'] at hf
    have he := run_enter hfn hf.2 hf.1 (as.toList.map a.eval ++ vs.toList).toArray w
    have hm : as.map a.eval ++ vs = (as.toList.map a.eval ++ vs.toList).toArray := by apply Array.toList_inj.1; simp
    simp only [execOp, ho, resolve, hx, Deferred.ofValue, Sem.run_bind, Sem.run_pure, Result.andThen_ok, invoke, Array.empty_append, hm]
    exact he
  · cases hf

/-- The cells of what a callee captured, each as an argument. -/
def ones (l : List PC) : List PV := l.map fun c => ⟨.one, [c]⟩

theorem call_args (hi : Inv P st a w r) {as : List Operand} {pvs args : List PV} {caps : List PC} {vs : Array Value} {ns : List Nat} {fx : PC → Option PC} {Sc : Nat → Prop} (hu : as.map st.use = pvs.map some) (hp : passPVs fx (pvs ++ ones caps) ns = some args)
    (hn : vs.size = caps.length) (hr : ∀ (j : Nat) (y : PC) (u : Value), caps[j]? = some y → vs[j]? = some u → RepF w r.Sh r.β st.bx.length y u)
    (hfx : ∀ (x y : PC) (v : Value), RepC P w r st (alpha a w r) x v none → fx x = some y → RepS w Sc y v ∧ y.names = none) (hSc : ∀ g, Sc g → g < w.heap.size) (hup : ∀ g, r.Sh g → Sc g) :
    Inv P ⟨args.length, enum 0 args, [], 0, []⟩ ⟨(as.map a.eval ++ vs.toList).toArray, []⟩ w ⟨Sc, r.β, fun _ => none, fun _ => undef⟩ := by
  obtain ⟨hl, hat⟩ := passPVs_at hp
  have hlp : as.length = pvs.length := by have := congrArg List.length hu; simpa using this
  refine frame_mk (by simp [← hl, ones, hlp, hn]) hSc (LaidFacts.mono hup (fun _ _ => rfl) hi.lw) fun t pv ht => ?_
  obtain ⟨z, hz, h1, h2, h3⟩ := hat t pv ht
  have nilOK : ∀ (u y : PC) (v : Value), RepC P w r st (alpha a w r) u v none → (fx u = some y ∨ (u = .nl ∧ ∃ s, y = .sl s [])) → RepS w Sc y v ∧ y.names = none := by
    intro u y v hc h
    rcases h with h | ⟨rfl, s, rfl⟩
    · exact hfx u y v hc h
    · obtain ⟨_, hc⟩ := hc
      have : v = .slice none 0 0 := by cases hc with | s hs => cases hs; rfl
      subst this
      exact ⟨.nil, rfl⟩
  by_cases hlt : t < pvs.length
  · rw [List.getElem?_append_left hlt] at hz
    have h4 := congrArg (fun l => l[t]?) hu
    simp only [List.getElem?_map, hz, Option.map_some] at h4
    obtain ⟨x, hx, hux⟩ := Option.map_eq_some_iff.1 h4
    have hh := hi.use hux
    refine ⟨a.eval x, by rw [List.getElem?_append_left (by simpa [hlp] using hlt)]; simp [hx], by rw [← h1, ← h2]; exact hh.1, fun c y hy => ?_⟩
    obtain ⟨u, hu', hpu⟩ := h3 c y hy
    exact nilOK u y _ (hh.2 c u hu').1 hpu
  · rw [List.getElem?_append_right (by omega)] at hz
    simp only [ones, List.getElem?_map] at hz
    obtain ⟨c, hc, rfl⟩ := Option.map_eq_some_iff.1 hz
    have hcl := (List.getElem?_eq_some_iff.1 hc).1
    have hv : vs[t - pvs.length]? = some (vs[t - pvs.length]'(by omega)) := Array.getElem?_eq_getElem (by omega)
    have hrep := hr _ c _ hc hv
    refine ⟨vs[t - pvs.length]'(by omega), ?_, ?_, fun j y hy => ?_⟩
    · rw [List.getElem?_append_right (by simp [hlp]; omega)]
      simp only [List.length_map, hlp]
      simp
    · rw [← h1, ← h2]; exact ⟨rfl, hrep.one⟩
    · obtain ⟨u, hu', hpu⟩ := h3 j y hy
      cases j with
      | zero =>
        simp only [List.getElem?_cons_zero, Option.some.injEq] at hu'
        subst hu'
        rw [flat_one hrep.one]
        refine nilOK c y _ ?_ hpu
        cases c <;> first
          | exact ⟨rfl, hrep⟩
          | (cases hrep with | s h => cases h)
      | succ j => simp at hu'

theorem Inv.calleeUse (hi : Inv P st a w r) {x : Operand} {c : PC} {f : FuncId} {caps : List PC} (hx : st.use x = some ⟨.one, [c]⟩) (hc : calleeOf c = some (f, caps)) :
    ∃ vs : Array Value, a.eval x = .func (.func f) #[] vs ∧ vs.size = caps.length ∧ ∀ (j : Nat) (y : PC) (u : Value), caps[j]? = some y → vs[j]? = some u → RepF w r.Sh r.β st.bx.length y u := by
  obtain ⟨_, h, _⟩ := (hi.use hx).out
  refine callee_rep hc ?_
  unfold calleeOf at hc
  split at hc
  · exact h.2
  · exact h.2
  · cases hc

/-- A bound method value: the function, and the cells of what it is bound to. -/
theorem Inv.bndUse (hi : Inv P st a w r) {x : Operand} {f : FuncId} {cs : List PC} (hx : st.use x = some ⟨.one, [.bnd f cs]⟩) :
    ∃ vs : Array Value, a.eval x = .func (.func f) #[.agg vs] #[] ∧ vs.size = cs.length ∧ ∀ (j : Nat) (y : PC) (u : Value), cs[j]? = some y → vs[j]? = some u → RepS w r.Sh y u := by
  obtain ⟨_, h, _⟩ := (hi.use hx).out
  obtain ⟨_, h⟩ := h
  generalize a.eval x = v at h
  cases h with
  | s h => cases h with
    | bnd hn hr => exact ⟨_, rfl, hn, hr⟩
theorem run_callBnd {x : Operand} {as : Array Operand} {ts : Array TypeId} {f : FuncId} {u : Value} (ho : o.op = .call { callee := .value x, args := as, argTypes := ts }) (hx : a.eval x = .func (.func f) #[u] #[]) (hf : okFn P f = true) (w : World) :
    (execOp a.eval o).run P w = .ok (.enter f (u :: as.toList.map a.eval).toArray) w := by
  unfold okFn at hf
  split at hf
  · rename_i fn hfn
    simp only [Bool.and_eq_true, Bool.not_eq_true'] at hf
    have he := run_enter hfn hf.2 hf.1 (u :: as.toList.map a.eval).toArray w
    have hm : #[u] ++ as.map a.eval = (u :: as.toList.map a.eval).toArray := by apply Array.toList_inj.1; simp
    simp only [execOp, ho, resolve, hx, Deferred.ofValue, Sem.run_bind, Sem.run_pure, Result.andThen_ok, invoke, Array.append_empty, hm]
    exact he
  · cases hf
theorem call_args_bnd (hi : Inv P st a w r) {as : List Operand} {pvs args : List PV} {cs : List PC} {vs : Array Value} {ns : List Nat} {fx : PC → Option PC} {Sc : Nat → Prop} (hu : as.map st.use = pvs.map some) (hp : passPVs fx (⟨.agg, cs⟩ :: pvs) ns = some args)
    (hn : vs.size = cs.length) (hr : ∀ (j : Nat) (y : PC) (u : Value), cs[j]? = some y → vs[j]? = some u → RepS w r.Sh y u)
    (hfx : ∀ (x y : PC) (v : Value), RepC P w r st (alpha a w r) x v none → fx x = some y → RepS w Sc y v ∧ y.names = none) (hSc : ∀ g, Sc g → g < w.heap.size) (hup : ∀ g, r.Sh g → Sc g) :
    Inv P ⟨args.length, enum 0 args, [], 0, []⟩ ⟨(.agg vs :: as.map a.eval).toArray, []⟩ w ⟨Sc, r.β, fun _ => none, fun _ => undef⟩ := by
  obtain ⟨hl, hat⟩ := passPVs_at hp
  have hlp : as.length = pvs.length := by have := congrArg List.length hu; simpa using this
  refine frame_mk (by simp [← hl, hlp]) hSc (LaidFacts.mono hup (fun _ _ => rfl) hi.lw) fun t pv ht => ?_
  obtain ⟨z, hz, h1, h2, h3⟩ := hat t pv ht
  have nilOK : ∀ (u y : PC) (v : Value), RepC P w r st (alpha a w r) u v none → (fx u = some y ∨ (u = .nl ∧ ∃ s, y = .sl s [])) → RepS w Sc y v ∧ y.names = none := by
    intro u y v hc h
    rcases h with h | ⟨rfl, s, rfl⟩
    · exact hfx u y v hc h
    · obtain ⟨_, hc⟩ := hc
      have : v = .slice none 0 0 := by cases hc with | s hs => cases hs; rfl
      subst this
      exact ⟨.nil, rfl⟩
  cases t with
  | succ t =>
    simp only [List.getElem?_cons_succ] at hz
    have h4 := congrArg (fun l => l[t]?) hu
    simp only [List.getElem?_map, hz, Option.map_some] at h4
    obtain ⟨x, hx, hux⟩ := Option.map_eq_some_iff.1 h4
    have hh := hi.use hux
    refine ⟨a.eval x, by simp [hx], by rw [← h1, ← h2]; exact hh.1, fun c y hy => ?_⟩
    obtain ⟨u, hu', hpu⟩ := h3 c y hy
    exact nilOK u y _ (hh.2 c u hu').1 hpu
  | zero =>
    simp only [List.getElem?_cons_zero, Option.some.injEq] at hz
    subst hz
    refine ⟨.agg vs, by simp, by rw [← h1, ← h2]; exact ⟨vs, rfl, hn, fun v hv => by
      obtain ⟨j, hj, rfl⟩ := Array.mem_iff_getElem.1 hv
      exact (hr j _ _ (List.getElem?_eq_getElem (by omega)) (Array.getElem?_eq_getElem hj)).one⟩, fun c y hy => ?_⟩
    obtain ⟨u, hu', hpu⟩ := h3 c y hy
    have hc := (List.getElem?_eq_some_iff.1 hu').1
    simp only at hc
    have hv : vs[c]? = some (vs[c]'(by omega)) := Array.getElem?_eq_getElem (by omega)
    have hf : (flat (.agg vs)).getD c undef = vs[c]'(by omega) := by
      simp [flat, List.getD_eq_getElem?_getD, hv]
    rw [hf]
    exact nilOK u y _ (hr c u _ hu' hv).hasC.1 hpu

theorem DOp.callBnd {x : Operand} {as : Array Operand} {ts : Array TypeId} {f : FuncId} {cs : List PC} {pvs args : List PV} {ns : List Nat} {res : PV} (ho : o.op = .call { callee := .value x, args := as, argTypes := ts }) (hx : st.use x = some ⟨.one, [.bnd f cs]⟩)
    (hf : okFn P f = true) (hu : as.toList.map st.use = pvs.map some) (hp : passPVs (passX P st 4) (⟨.agg, cs⟩ :: pvs) ns = some args) (hF : Fn P f args [] res []) (hflat : res.cs.all PC.flatB = true) : DOp P o st res := by
  intro a w r hi K Q hK
  obtain ⟨vs, hv, hn, hr⟩ := hi.bndUse hx
  have hcalls := hF _ w _ (call_args_bnd hi hu hp hn hr (Sc := r.allB st.bx.length) (fun u y v hc h => ⟨(hi.passX 4).2 u y v none (fun _ h => by cases h) hc h, (passX_flat h).1⟩) (fun g hg => hg.elim (fun h => (hi.sh g h).1) fun h => hi.X_lt h) (fun _ h => .inl h))
  have hfree : res.cs.all (·.free 0) = true := List.all_eq_true.2 fun x hx => flatB_free x (List.all_eq_true.1 hflat x hx)
  unfold Oper.wp
  rw [run_callBnd ho hv hf, Oper.upon_enter]
  refine hcalls.mono fun e w' ⟨v, r', he, hinv, hstep⟩ => ?_
  subst he
  exact hK v w' _ _ (News.called hi hstep hinv (fun _ => rfl) (Sn := r.Sh) hfree (fun _ h => h) (fun _ h => .inl h) (fun x u g hx hc => flatB_rep (List.all_eq_true.1 hflat x hx) hc))

/-- A call; the callee reads what is ours; its result is made of single values. -/
theorem DOp.callV {x : Operand} {as : Array Operand} {ts : Array TypeId} {c : PC} {f : FuncId} {caps : List PC} {pvs args : List PV} {ns : List Nat} {res : PV} (ho : o.op = .call { callee := .value x, args := as, argTypes := ts }) (hx : st.use x = some ⟨.one, [c]⟩)
    (hc : calleeOf c = some (f, caps)) (hf : okFn P f = true) (hu : as.toList.map st.use = pvs.map some) (hp : passPVs (passX P st 4) (pvs ++ ones caps) ns = some args) (hF : Fn P f args [] res []) (hflat : res.cs.all PC.flatB = true) : DOp P o st res := by
  intro a w r hi K Q hK
  obtain ⟨vs, hv, hn, hr⟩ := hi.calleeUse hx hc
  have hcalls := hF _ w _ (call_args hi hu hp hn hr (Sc := r.allB st.bx.length) (fun u y v hc h => ⟨(hi.passX 4).2 u y v none (fun _ h => by cases h) hc h, (passX_flat h).1⟩) (fun g hg => hg.elim (fun h => (hi.sh g h).1) fun h => hi.X_lt h) (fun _ h => .inl h))
  have hfree : res.cs.all (·.free 0) = true := List.all_eq_true.2 fun x hx => flatB_free x (List.all_eq_true.1 hflat x hx)
  unfold Oper.wp
  rw [run_callV ho hv hf, Oper.upon_enter]
  refine hcalls.mono fun e w' ⟨v, r', he, hinv, hstep⟩ => ?_
  subst he
  exact hK v w' _ _ (News.called hi hstep hinv (fun _ => rfl) (Sn := r.Sh) hfree (fun _ h => h) (fun _ h => .inl h) (fun x u g hx hc => flatB_rep (List.all_eq_true.1 hflat x hx) hc))

/-- A call whose arguments are shared already: its result may share with them. -/
theorem DOp.callVS {x : Operand} {as : Array Operand} {ts : Array TypeId} {c : PC} {f : FuncId} {caps : List PC} {pvs args : List PV} {ns : List Nat} {res : PV} (ho : o.op = .call { callee := .value x, args := as, argTypes := ts }) (hx : st.use x = some ⟨.one, [c]⟩)
    (hc : calleeOf c = some (f, caps)) (hf : okFn P f = true) (hu : as.toList.map st.use = pvs.map some) (hp : passPVs (shX st) (pvs ++ ones caps) ns = some args) (hF : Fn P f args [] res []) (hfree : (res.cs.all fun x => x.free 0) = true) : DOp P o st res := by
  intro a w r hi K Q hK
  obtain ⟨vs, hv, hn, hr⟩ := hi.calleeUse hx hc
  have hcalls := hF _ w _ (call_args hi hu hp hn hr (Sc := r.Sh) (fun u y v hc h => ⟨(hi.shX hc h).1, (hi.shX hc h).2.1⟩) (fun g hg => (hi.sh g hg).1) (fun _ h => h))
  unfold Oper.wp
  rw [run_callV ho hv hf, Oper.upon_enter]
  refine hcalls.mono fun e w' ⟨v, r', he, hinv, hstep⟩ => ?_
  subst he
  have hXc : ∀ g, ¬ (⟨r.Sh, r.β, fun _ => none, fun _ => undef⟩ : Rs).X 0 g := fun g hg => by
    rcases hg with ⟨p, hp⟩ | ⟨b, hb, _⟩
    · cases hp
    · omega
  exact hK v w' _ _ (News.called hi hstep hinv (fun _ => rfl) (Sn := r'.Sh) hfree (fun g h => hstep.sh g h) (fun g hg => (hstep.shNew g hg).elim .inl fun h => h.elim (fun h => absurd h (hXc g)) fun h => .inr ⟨h, hg⟩)
    (fun x u g hx hc => by
      have hfx := List.all_eq_true.1 hfree x hx
      have := hc.free (r' := { r with Sh := r'.Sh }) (st' := ⟨0, [], [], 0, []⟩) (al' := alpha a w r) hfx (fun _ h => h) (fun b hb => by simp at hb)
      exact this.mono (fun _ h => h) (fun _ _ => rfl) (fun _ _ => rfl) (fun b hb => by simp at hb) (fun q hq _ => by rw [free_names hfx] at hq; cases hq)))

/-- A row of parts. -/
theorem DOp.rowOf {t e : TypeId} {n s by' : Nat} {parts : Array (Nat × Operand)} {xs : List Operand} {pvs : List PV} (ho : o.op = .buildSlice t n parts) (ht : P.underlying t = some (.slice e)) (he : P.elem? e = some (s, by')) (hs0 : 0 < s)
    (hparts : parts.toList = (xs.zipIdx 0).map fun x => (x.2, x.1)) (hn : n = xs.length) (hsmall : n * s ≤ 2 ^ 24) (hu : xs.map st.use = pvs.map some) (hp : (pvs.all fun pv => notTup pv.sh && Nat.beq pv.cs.length s && pv.cs.all PC.plain) = true) :
    DOp P o st ⟨.one, [.own e (pvs.map (·.cs))]⟩ := by
  intro a w r hi K Q hK
  obtain ⟨i, z, hi', hz, hsize, hbytes, hzs, hcs, hsz⟩ := elem?_spec he
  have hp' : ∀ pv ∈ pvs, notTup pv.sh = true ∧ pv.cs.length = s ∧ pv.cs.all PC.plain = true := fun pv hpv => by
    have := List.all_eq_true.1 hp pv hpv
    simp only [Bool.and_eq_true] at this
    exact ⟨this.1.1, Nat.eq_of_beq_eq_true this.1.2, this.2⟩
  obtain ⟨h1, h2, h3⟩ := parts_rep hi hu hp'
  have hlen : pvs.length = xs.length := by have := congrArg List.length hu; simpa using this.symm
  let vals := (xs.map a.eval).flatMap fun v => v.cells.toList
  have hvl : vals.length = n * s := by rw [hn, ← hlen]; exact h2
  have hfill := fill_all (size := s) (xs.map a.eval) 0 ((Array.range (n * s)).map fun j => (z.cells)[j % z.cells.size]!) (fun v hv => (h1 v hv).1) (by simp [hn])
  have hrun : (execOp a.eval o).run P w = .ok (.value (.slice (some ⟨w.heap.size, 0, none⟩) n n)) (w.alloc (.cells vals.toArray e)) := by
    have hpm : (parts.map fun x => (x.1, a.eval x.2)).toList = ((xs.map a.eval).zipIdx 0).map fun x => (x.2, x.1) := by
      rw [Array.toList_map, hparts, List.zipIdx_map]
      simp [List.map_map, Function.comp_def]
    have hbig : ¬ (n * s > 2 ^ 24) := by omega
    simp only [Nat.zero_mul, List.take_zero, List.nil_append] at hfill
    have hz0 : ((if n * s = 0 then (pure #[] : Sem (Array Value)) else do pure (← zeroValue e).cells)).run P w = .ok (if n * s = 0 then #[] else z.cells) w := by
      split
      · rfl
      · simp [zeroValue, typeInfo, hi', hz]
    have hfill' : Instr.fill (fun i => some (i * s, s)) ((Array.range (n * s)).map fun j => ((if n * s = 0 then #[] else z.cells : Array Value))[j % (if n * s = 0 then #[] else z.cells : Array Value).size]!) (parts.map fun x => (x.1, a.eval x.2)).toList = some vals.toArray := by
      rw [hpm, ← hfill]
      by_cases h0 : n * s = 0
      · have hr0 : Array.range 0 = #[] := rfl
        rw [h0, hr0]; simp only [Array.map_empty]
      · rw [if_neg h0]
    simp only [execOp, ho, Instr.buildSlice, Sem.run_bind, Sem.run_pure, Result.andThen_ok, run_underlying ht, run_sizeOf hsz]
    rw [Sem.run_ite, if_neg hbig]
    by_cases h0 : n * s = 0
    · simp only [if_pos h0] at hfill'
      rw [if_pos h0]
      simp only [Sem.run_bind, Sem.run_pure, Result.andThen_ok, hfill']
      simp [newRow]
    · simp only [if_neg h0] at hfill'
      rw [if_neg h0]
      simp only [Sem.run_bind, Sem.run_pure, Result.andThen_ok, zeroValue, typeInfo, run_program, hi', hz, hfill']
      simp [newRow]
  have hsm : n ≤ 2 ^ 24 := Nat.le_trans (Nat.le_mul_of_pos_right n hs0) hsmall
  have hrow := World.ownsRow_lit (base := 0) (e := e) (size := s) w vals.toArray n (Nat.zero_le _) (by simp only [maxLen]; omega) (by simpa using hvl)
  have hel : ∀ el ∈ pvs.map (·.cs), el.length = s := fun el hel => by obtain ⟨pv, hpv, rfl⟩ := List.mem_map.1 hel; exact (hp' pv hpv).2.1
  have hown : RepOwn P (w.alloc (.cells vals.toArray e)) r.Sh e (pvs.map (·.cs)) (.slice (some ⟨w.heap.size, 0, none⟩) n n) (Value.slice (some ⟨w.heap.size, 0, none⟩) n n).ownBlock := by
    refine ⟨vals, by rw [hcs, List.length_map, hlen, ← hn]; exact hrow, rfl, by rw [hcs]; exact hel, fun i x hx => ?_⟩
    obtain ⟨u, hu', hr⟩ := h3 i x hx
    exact ⟨u, hu', hr.mono (fun _ h => h) (fun g hg => heap_alloc_old w _ g (hi.sh g hg).1)⟩
  have hblk : ∀ g, (Value.slice (some ⟨w.heap.size, 0, none⟩) n n).ownBlock = some g → w.heap.size ≤ g := fun g hg => by simp [Value.ownBlock] at hg; omega
  unfold Oper.wp
  rw [hrun, Oper.upon_value]
  exact hK _ (w.alloc (.cells vals.toArray e)) _ _ (News.row hi hown rfl rfl rfl (fun g hg => heap_alloc_old w _ g hg) (by simp) hblk)

/-- The bytes of a text. -/
def bytesOf (b : ByteArray) : List Int := b.data.toList.map fun x => (x.toNat : Int)
theorem DOp.strBytes {s t e : TypeId} {d : TypeDesc} {x : Operand} {b : ByteArray} (ho : o.op = .convert s t x) (hs : P.underlying s = some d) (ht : P.underlying t = some (.slice e)) (he : P.underlying e = some (.int .u8)) (hx : st.use x = some ⟨.one, [.sc (.string b)]⟩) :
    DOp P o st ⟨.one, [.sl 1 ((bytesOf b).map fun n => [.sc (.int .u8 n)])]⟩ := by
  intro a w r hi K Q hK
  have e1 := (hi.use hx).out_sc
  have hrun : (execOp a.eval o).run P w = .ok (.value (.slice (some ⟨w.heap.size, 0, none⟩) b.size (grownCap w b.size 0 e))) (Lib.bytesWorld w e b) := by
    simp [execOp, ho, e1, Lib.run_convert_string_bytes w s t e b hs ht he]
  have hlen : ((bytesOf b).map fun n => [PC.sc (.int .u8 n)]).length = b.size := by
    simp only [List.length_map, bytesOf, Array.length_toList]; rfl
  unfold Oper.wp
  rw [hrun, Oper.upon_value]
  refine hK _ (Lib.bytesWorld w e b) (fun g => r.Sh g ∨ g = w.heap.size) (fun _ => none) ⟨by rfl, by rfl, by rfl, by rw [Lib.bytesWorld_size]; omega, fun g hg => Lib.bytesWorld_at_old w e b g hg, fun g h => .inl h, fun g hg => hg.elim .inl fun h => .inr ⟨by omega, by rw [Lib.bytesWorld_size]; omega⟩, ⟨rfl, rfl⟩, fun c y hy => ?_, fun c y q hy hq => ?_, (fun _ _ h => by cases h), (fun _ _ _ h => by cases h)⟩
  · cases c with
    | succ c => simp at hy
    | zero =>
      simp only [List.getElem?_cons_zero, Option.some.injEq] at hy
      subst hy
      refine ⟨rfl, .s ?_⟩
      have hat : ∀ (i : Nat) (el : List PC), ((bytesOf b).map fun n => [PC.sc (.int .u8 n)])[i]? = some el → i < b.size ∧ el = [.sc (.int .u8 ((b.data.toList.getD i 0).toNat : Int))] := by
        intro i el h
        have hi' : i < b.size := by rw [← hlen]; exact (List.getElem?_eq_some_iff.1 h).1
        have hi2 : i < b.data.toList.length := by simpa using hi'
        simp only [bytesOf, List.map_map, List.getElem?_map, List.getElem?_eq_getElem hi2, Option.map_some, Option.some.injEq, Function.comp_apply] at h
        refine ⟨hi', ?_⟩
        rw [← h, List.getD_eq_getElem?_getD, List.getElem?_eq_getElem hi2]
        rfl
      have h := RepS.sl (w := Lib.bytesWorld w e b) (Sh := fun g => r.Sh g ∨ g = w.heap.size) (xs := (bytesOf b).map fun n => [PC.sc (.int .u8 n)]) (g := w.heap.size) (off := 0) (c := grownCap w b.size 0 e) (size := 1)
        (fun i _ => .int .u8 ((b.data.toList.getD i 0).toNat : Int)) (fun el hel => by obtain ⟨n, _, rfl⟩ := List.mem_map.1 hel; rfl) (by rw [hlen]; exact grownCap_ge ..) (.inr rfl)
        (fun i j el y h1 h2 => by
          obtain ⟨h3, rfl⟩ := hat i el h1
          cases j with
          | zero => have := Lib.bytesWorld_cell w e b i h3; simpa using this
          | succ j => simp at h2)
        (fun i j el y h1 h2 => by
          obtain ⟨h3, rfl⟩ := hat i el h1
          cases j with
          | zero => simp only [List.getElem?_cons_zero, Option.some.injEq] at h2; subst h2; exact .sc rfl
          | succ j => simp at h2)
      rw [hlen] at h
      exact h
  · cases c with
    | succ c => simp at hy
    | zero =>
      simp only [List.getElem?_cons_zero, Option.some.injEq] at hy
      subst hy
      simp [PC.names] at hq

/-- Bytes made a text. -/
theorem Reads.bytesStr {s t e : TypeId} {x : Operand} {c : PC} {sz : Nat} {xs : List (List PC)} {ns : List Int} (ho : o.op = .convert s t x) (hs : P.underlying s = some (.slice e)) (he : P.underlying e = some (.int .u8)) (ht : P.underlying t = some .string)
    (hx : st.use x = some ⟨.one, [c]⟩) (hr : St.row P st 4 c = some (sz, xs)) (hsz : sz = 1) (hn : xs = ns.map fun n => [PC.sc (.int .u8 n)]) (hne : xs ≠ []) : Reads P o st ⟨.one, [.sc (.string (strOfNums ns))]⟩ := fun a w r hi => by
  obtain ⟨_, h1, _⟩ := (hi.use hx).out
  obtain ⟨ad, cp, hv, _, hb⟩ := hi.row 4 h1 hr
  obtain ⟨k, off, rfl, hz, hcell⟩ := hb hne
  have hlen : ns.length = xs.length := by rw [hn, List.length_map]
  refine ⟨_, ?_, Has.sc rfl⟩
  have := run_convert_bytes_arg (P := P) w s e hs he k off xs.length cp ns hlen (fun i hi' => by
    have hi2 : i < ns.length := by omega
    have hel : xs[i]? = some [PC.sc (.int .u8 ns[i])] := by rw [hn, List.getElem?_map, List.getElem?_eq_getElem hi2]; rfl
    obtain ⟨u, hu, hru⟩ := hcell i 0 _ _ hel rfl
    subst hsz
    cases hru
    rw [List.getD_eq_getElem?_getD, List.getElem?_eq_getElem hi2]
    simpa using hu) t ht
  simp [execOp, ho, hv, this]

/-- What makes one new value, in an order of ours. -/
theorem DOp.ok {pv : PV} {d : Nat} (h : DOp P o st pv) (ho : o.dst = some d) (hd : st.okd d) (hno : st.get d = none) : OpOK P o st (st.put d pv) := by
  intro a w r hi K Q hK
  refine h a w r hi K Q fun v w' Sn γd hn => ?_
  obtain ⟨r'', h1, h2⟩ := hi.news hd hno hn
  rw [ho] at hK ⊢
  exact hK v w' r'' rfl h1 h2
end
end Go.Proofs.YtaikjjlbfdkgmaaDoor.E
