/- The engine, part Z: words of the printed proofs. Plain lemmas; no program. -/
import Derived.Test.YtaikjjlbfdkgmaaDoorEngYD
set_option linter.unusedVariables false
set_option linter.unusedSectionVars false
set_option linter.unusedSimpArgs false
namespace Go.Proofs.YtaikjjlbfdkgmaaDoor.E
open Go.RowKit
variable [LaidFacts]

theorem Ex.exit {N : St → Prop} {Q : Exit → St → Prop} {id : Nat} {st : St} (h : Q (.exit id) st) : Ex N Q (.exit id) st := h

/-- Several ways meet at the end of a code. -/
theorem Tri.joinT {P : Program} {x : Code} {Q : Exit → St → Prop} {st : St} {α : Type} (C : α → Prop) (S : α → St) (hy : ∀ v, C v → Q .normal (S v)) (hx : Tri P x (Ex (fun st => ∃ v, C v ∧ st = S v) Q) st) : Tri P x Q st := by
  refine Tri.mono (fun e st' q => ?_) hx
  cases e <;> first
    | (obtain ⟨v, h1, rfl⟩ := q; exact hy v h1)
    | exact q

def cI (n : Int) : PC := .sc (.int .i64 n)
def cK (k : IntKind) (n : Int) : PC := .sc (.int k n)
def cB (b : Bool) : PC := .sc (.bool b)
def cS (s : ByteArray) : PC := .sc (.string s)
def o1 (c : PC) : PV := ⟨.one, [c]⟩
def oI (n : Int) : PV := ⟨.one, [cI n]⟩
def oB (b : Bool) : PV := ⟨.one, [cB b]⟩
def oS (s : ByteArray) : PV := ⟨.one, [cS s]⟩
def ag (l : List PC) : PV := ⟨.agg, l⟩
def tp (s : List (Option Nat)) (l : List PC) : PV := ⟨.tup s, l⟩
def eI (n : Int) : List PC := [.sc (.int .i64 n)]
def eK (k : IntKind) (n : Int) : List PC := [.sc (.int k n)]
def eB (b : Bool) : List PC := [.sc (.bool b)]
def eS (s : ByteArray) : List PC := [.sc (.string s)]
def eL {α : Type} (s : Nat) (f : α → List PC) (l : List α) : List PC := [.sl s (l.map f)]

theorem need_some {α : Type} {c : Prop} [Decidable c] {x : Option α} {r : α} (h : (if c then x else none) = some r) : c ∧ x = some r := by
  split at h
  · exact ⟨‹_›, h⟩
  · cases h
theorem beqv {a b c d : Bool} (h : a = c) (k : b = d) : (a == b) = (c == d) := by rw [h, k]
theorem ovset {α : Type} {e : TypeId} {l : List α} {f : α → List PC} {i : Nat} {v : α} : PC.own e ((l.map f).set i (f v)) = PC.own e ((l.set i v).map f) := by rw [List.map_set]
theorem ovapp {α : Type} {e : TypeId} {l m : List α} {f : α → List PC} : [PC.own e (l.map f ++ m.map f)] = [PC.own e ((l ++ m).map f)] := by rw [List.map_append]
theorem strRow_eq (s : ByteArray) : strRow s = (bytesOf s).map (eK .u8) := by simp [strRow, bytesOf, eK]
theorem ovappS {e : TypeId} {l : List Int} {s : ByteArray} : [PC.own e (l.map (eK .u8) ++ strRow s)] = [PC.own e ((l ++ bytesOf s).map (eK .u8))] := by rw [strRow_eq, List.map_append]
theorem appS2 {l : List Int} {s : ByteArray} {b : Nat} (h : (l ++ bytesOf s).length * b ≤ 140737488355328) : ((l.map (eK .u8)).length + (strRow s).length) * b ≤ 140737488355328 := by
  rw [strRow_eq, List.length_map, List.length_map, ← List.length_append]; exact h
theorem appS1 {l : List Int} {s : ByteArray} {b : Nat} (hb : 1 ≤ b) (h : (l ++ bytesOf s).length * b ≤ 140737488355328) : (l.map (eK .u8)).length + (strRow s).length ≤ 9223372036854775807 := by
  rw [strRow_eq, List.length_map, List.length_map, ← List.length_append]
  have := Nat.le_mul_of_pos_right (l ++ bytesOf s).length hb
  omega
theorem ovrep {α : Type} {e : TypeId} {n : Nat} {z : α} {f : α → List PC} : [PC.own e (List.replicate n (f z))] = [PC.own e ((List.replicate n z).map f)] := by rw [List.map_replicate]
theorem mkN {n : Int} {b : Int} (hb : 1 ≤ b) (h0 : 0 ≤ n) (h : n * b ≤ 140737488355328) : n ≤ 9223372036854775807 := by
  have : n * 1 ≤ n * b := Int.mul_le_mul_of_nonneg_left hb h0
  omega
theorem mapne {α β : Type} {f : α → β} {l : List α} (h : l ≠ []) : l.map f ≠ [] := fun e => h (List.map_eq_nil_iff.1 e)
theorem ovcut {α : Type} {s a b : Nat} {l : List α} {f : α → List PC} : [PC.sl s (((l.map f).drop a).take b)] = [PC.sl s (((l.drop a).take b).map f)] := by rw [List.map_take, List.map_drop]
theorem ovcutE {α : Type} {s : Nat} {l : List α} {f : α → List PC} {i : Int} (h : 0 ≤ i) : [PC.sl s (((l.map f).drop i.toNat).take (((l.map f).length : Int) - i).toNat)] = [PC.sl s ((l.drop i.toNat).map f)] := by
  rw [List.take_of_length_le (by rw [List.length_drop]; omega), List.map_drop]
theorem vwle {α : Type} {f : α → List PC} {l : List α} {a b : Int} (h0 : 0 ≤ a) (h1 : a ≤ b) (h2 : b ≤ ((l.map f).length : Int)) : a.toNat + (b - a).toNat ≤ (l.map f).length := by omega
theorem lenle {α : Type} {l : List α} {f : α → List PC} {i : Int} (h : i ≤ (l.length : Int)) : i ≤ ((l.map f).length : Int) := by rw [List.length_map]; exact h
theorem app2 {α : Type} {l m : List α} {f : α → List PC} {b : Nat} (h : (l ++ m).length * b ≤ 140737488355328) : ((l.map f).length + (m.map f).length) * b ≤ 140737488355328 := by
  rw [List.length_map, List.length_map, ← List.length_append]; exact h
theorem app1 {α : Type} {l m : List α} {f : α → List PC} {b : Nat} (hb : 1 ≤ b) (h : (l ++ m).length * b ≤ 140737488355328) : (l.map f).length + (m.map f).length ≤ 9223372036854775807 := by
  rw [List.length_map, List.length_map, ← List.length_append]
  have := Nat.le_mul_of_pos_right (l ++ m).length hb
  omega

theorem Tri.fix {P : Program} {c : Code} {Q : Exit → St → Prop} {st : St} (ts : List Nat) (nb : Nat) (fx : List Fix) (st' : St) (h : fin P ts nb fx st = some st') (hy : Tri P c Q st') : Tri P c Q st := Tri.turn (fin_turns h) hy
end Go.Proofs.YtaikjjlbfdkgmaaDoor.E
