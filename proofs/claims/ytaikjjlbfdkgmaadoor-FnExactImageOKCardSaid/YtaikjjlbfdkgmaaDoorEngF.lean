/- The engine, part F: the operations that read, one by one. Plain lemmas; no program. -/
import Derived.Test.YtaikjjlbfdkgmaaDoorEngE
import Derived.Laws.Strings
import Derived.Laws.Small
import Derived.Laws.Cover3
import Derived.Laws.Pointers
set_option linter.unusedVariables false
set_option linter.unusedSectionVars false
set_option linter.unusedSimpArgs false
namespace Go.Proofs.YtaikjjlbfdkgmaaDoor.E
open Go.RowKit
variable [LaidFacts]

/-- Arithmetic and comparison of whole numbers. -/
def intV : BinOp → IntKind → Int → Int → Option Value
  | .add, k, a, b => some (.int k (k.wrap (a + b)))
  | .sub, k, a, b => some (.int k (k.wrap (a - b)))
  | .mul, k, a, b => some (.int k (k.wrap (a * b)))
  | .quo, k, a, b => if b = 0 then none else some (.int k (k.wrap (a.tdiv b)))
  | .rem, k, a, b => if b = 0 then none else some (.int k (a.tmod b))
  | .eql, _, a, b => some (.bool (decide (a = b)))
  | .neq, _, a, b => some (.bool (!decide (a = b)))
  | .lss, _, a, b => some (.bool (decide (a < b)))
  | .leq, _, a, b => some (.bool (decide (a ≤ b)))
  | .gtr, _, a, b => some (.bool (decide (b < a)))
  | .geq, _, a, b => some (.bool (decide (b ≤ a)))
  | _, _, _, _ => none
def strV : BinOp → ByteArray → ByteArray → Option Value
  | .add, a, b => if a.size + b.size ≤ 9223372036854775807 then some (.string (a ++ b)) else none
  | .eql, a, b => some (.bool (decide (a = b)))
  | .neq, a, b => some (.bool (!decide (a = b)))
  | .lss, a, b => some (.bool (Op.bytesLess a.toList b.toList))
  | _, _, _ => none
/-- A binary operation of two cells. -/
def binV (d : Option TypeDesc) (op : BinOp) (x y : PC) : Option Value :=
  match x, y with
  | .sc (.int k a), .sc (.int k' b) => if k = k' then intV op k a b else none
  | .sc (.string a), .sc (.string b) => strV op a b
  | .sc (.bool a), .sc (.bool b) => match d, op with
    | some .bool, .eql => some (.bool (a == b))
    | some .bool, .neq => some (.bool (!(a == b)))
    | _, _ => none
  | _, _ => none

theorem decide_beq {α : Type} [DecidableEq α] [BEq α] [LawfulBEq α] (a b : α) : (a == b) = decide (a = b) := by
  by_cases h : a = b <;> simp [h]

theorem toList_beq (a b : ByteArray) : (a.toList == b.toList) = decide (a = b) := by
  have : (a.toList = b.toList) ↔ a = b := by
    constructor
    · intro h
      rw [ByteArray.toList_eq, ByteArray.toList_eq] at h
      exact ByteArray.ext (Array.toList_inj.1 h)
    · rintro rfl; rfl
  by_cases h : a = b
  · simp [h]
  · simp [h, this]

section
variable {P : Program} {st : St} {o : Oper}

theorem Reads.move {x : Operand} {pv : PV} (ho : o.op = .move x ∨ o.op = .assign x) (hu : st.use x = some pv) : Reads P o st pv := fun a w r hi =>
  ⟨a.eval x, by rcases ho with ho | ho <;> simp [execOp, ho], hi.use hu⟩

theorem Reads.pick {c x y : Operand} {pv : PV} {b : Bool} (ho : o.op = .pick c x y) (hc : st.use c = some ⟨.one, [.sc (.bool b)]⟩) (hu : st.use (if b then x else y) = some pv) : Reads P o st pv := fun a w r hi => by
  have h1 := (hi.use hc).out_sc
  refine ⟨_, ?_, hi.use hu⟩
  simp only [execOp, ho, h1, asBool]
  cases b <;> rfl

theorem run_intV {op : BinOp} {t : TypeId} {x y : Operand} {k : IntKind} {a b : Int} {v : Value} (h : intV op k a b = some v) (w : World) :
    (do eqGuard op t x y (.int k a) (.int k b); Go.binOp op t (.int k a) (.int k b)).run P w = .ok v w := by
  cases op <;> simp only [intV] at h <;> (try split at h) <;> first
    | (cases h; done)
    | (cases h; simp [eqGuard, Go.binOp, Op.intArith, Op.intCmp, Op.intDiv, decide_beq, bne, *])

theorem run_strV {op : BinOp} {t : TypeId} {x y : Operand} {a b : ByteArray} {v : Value} (h : strV op a b = some v) (w : World) :
    (do eqGuard op t x y (.string a) (.string b); Go.binOp op t (.string a) (.string b)).run P w = .ok v w := by
  have hm : IntKind.i64.max = 9223372036854775807 := by decide
  cases op <;> simp only [strV] at h <;> (try split at h) <;> first
    | (cases h; done)
    | (cases h; rename_i hs; have hs' : ¬ (((a.size + b.size : Nat) : Int) > IntKind.i64.max) := by rw [hm]; omega
       simp only [eqGuard, Go.binOp, Op.stringOp, if_neg hs']; rfl)
    | (cases h; simp [eqGuard, Go.binOp, Op.stringOp, toList_beq])

theorem Reads.binOp {op : BinOp} {t t' : TypeId} {x y : Operand} {c d : PC} {v : Value} (ho : o.op = .binOp op t x y t') (hx : st.use x = some ⟨.one, [c]⟩) (hy : st.use y = some ⟨.one, [d]⟩)
    (hv : binV (P.underlying t) op c d = some v) : Reads P o st ⟨.one, [.sc v]⟩ := fun a w r hi => by
  have h1 := hi.use hx
  have h2 := hi.use hy
  unfold binV at hv
  split at hv
  · split at hv
    · rename_i e; subst e
      have e1 := h1.out_sc
      have e2 := h2.out_sc
      have hr := run_intV (P := P) (t := t) (x := x) (y := y) hv w
      refine ⟨v, ?_, Has.sc ?_⟩
      · simp only [execOp, ho, e1, e2]
        rw [Sem.run_bind, hr]
        rfl
      · cases op <;> simp only [intV] at hv <;> (try split at hv) <;> first | (cases hv; done) | (cases hv; rfl)
    · cases hv
  · have e1 := h1.out_sc
    have e2 := h2.out_sc
    have hr := run_strV (P := P) (t := t) (x := x) (y := y) hv w
    refine ⟨v, ?_, Has.sc ?_⟩
    · simp only [execOp, ho, e1, e2]
      rw [Sem.run_bind, hr]
      rfl
    · cases op <;> simp only [strV] at hv <;> (try split at hv) <;> first | (cases hv; done) | (cases hv; rfl)
  · have e1 := h1.out_sc
    have e2 := h2.out_sc
    split at hv
    · rename_i hd
      cases hv
      exact ⟨_, by simp only [execOp, ho, e1, e2, eqGuard, Go.binOp, Bool.not_true, Bool.false_eq_true, if_false, Sem.run_bind, Sem.run_pure, Result.andThen_ok, run_equal_bool w _ _ _ hd], Has.sc rfl⟩
    · rename_i hd
      cases hv
      exact ⟨_, by simp only [execOp, ho, e1, e2, eqGuard, Go.binOp, Bool.not_true, Bool.false_eq_true, if_false, Sem.run_bind, Sem.run_pure, Result.andThen_ok, run_equal_bool w _ _ _ hd], Has.sc rfl⟩
    · cases hv
  · cases hv

theorem Reads.not {t : TypeId} {x : Operand} {b : Bool} (ho : o.op = .unOp .not t x) (hx : st.use x = some ⟨.one, [.sc (.bool b)]⟩) : Reads P o st ⟨.one, [.sc (.bool (!b))]⟩ := fun a w r hi => by
  have e1 := (hi.use hx).out_sc
  exact ⟨_, by simp [execOp, ho, e1, Op.unary], Has.sc rfl⟩
theorem Reads.neg {t : TypeId} {x : Operand} {k : IntKind} {n : Int} (ho : o.op = .unOp .neg t x) (hx : st.use x = some ⟨.one, [.sc (.int k n)]⟩) : Reads P o st ⟨.one, [.sc (.int k (k.wrap (0 - n)))]⟩ := fun a w r hi => by
  have e1 := (hi.use hx).out_sc
  exact ⟨_, by simp [execOp, ho, e1, Op.unary, Op.intArith], Has.sc rfl⟩
theorem Reads.toInt {s t : TypeId} {d : TypeDesc} {x : Operand} {k k' : IntKind} {n : Int} (ho : o.op = .convert s t x) (hs : P.underlying s = some d) (ht : P.underlying t = some (.int k)) (hx : st.use x = some ⟨.one, [.sc (.int k' n)]⟩) :
    Reads P o st ⟨.one, [.sc (.int k (k.wrap n))]⟩ := fun a w r hi => by
  have e1 := (hi.use hx).out_sc
  exact ⟨_, by simp [execOp, ho, e1, convert, run_underlying hs, run_underlying ht, Conv.intToInt], Has.sc rfl⟩
theorem Reads.toStr {s t : TypeId} {x : Operand} {b : ByteArray} (ho : o.op = .convert s t x) (hs : P.underlying s = some .string) (ht : P.underlying t = some .string) (hx : st.use x = some ⟨.one, [.sc (.string b)]⟩) :
    Reads P o st ⟨.one, [.sc (.string b)]⟩ := fun a w r hi => by
  have e1 := (hi.use hx).out_sc
  exact ⟨_, by simp [execOp, ho, e1, convert, run_underlying hs, run_underlying ht], Has.sc rfl⟩
theorem Reads.charStr {s t : TypeId} {x : Operand} {k k' : IntKind} {n : Int} (ho : o.op = .convert s t x) (hs : P.underlying s = some (.int k)) (ht : P.underlying t = some .string) (hx : st.use x = some ⟨.one, [.sc (.int k' n)]⟩) :
    Reads P o st ⟨.one, [.sc (.string (Utf8.encode n))]⟩ := fun a w r hi => by
  have e1 := (hi.use hx).out_sc
  exact ⟨_, by simp [execOp, ho, e1, convert, run_underlying hs, run_underlying ht, Conv.intToString], Has.sc rfl⟩
end
end Go.Proofs.YtaikjjlbfdkgmaaDoor.E
