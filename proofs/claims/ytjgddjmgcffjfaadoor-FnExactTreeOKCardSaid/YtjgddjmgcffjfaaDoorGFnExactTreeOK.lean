/- The library's functions that this law reaches, as the engine takes them. -/
import Derived.Test.YtjgddjmgcffjfaaDoorEng18
import Derived.Test.YtjgddjmgcffjfaaDoorProg
import Derived.Test.YtjgddjmgcffjfaaDoorShelf
import Derived.Test.YtjgddjmgcffjfaaDoorRows
import Derived.Lib.LaidU8
import Derived.LaidMore
set_option linter.unusedVariables false
set_option linter.unusedSectionVars false
set_option linter.unusedSimpArgs false
namespace Go.Proofs.YtjgddjmgcffjfaaDoor.E
open Go.RowKit
/-- A table of the library's stays as it was laid. -/
def TabSh (w : World) (Sh : Nat → Prop) (name : String) (k : IntKind) (zs : List Int) : Prop := Lib.TabIs Tryd.prog w name k zs ∧ ∀ g, Tryd.prog.globalNamed name = some g → Sh g
theorem TabSh.mono {w w' : World} {Sh Sh' : Nat → Prop} {name : String} {k : IntKind} {zs : List Int} (hS : ∀ g, Sh g → Sh' g) (hw : ∀ g, Sh g → w'.heap[g]? = w.heap[g]?) (h : TabSh w Sh name k zs) : TabSh w' Sh' name k zs := by
  refine ⟨?_, fun g hg => hS g (h.2 g hg)⟩
  have h1 := h.1
  unfold Lib.TabIs World.var? at *
  cases hg : Tryd.prog.globalNamed name with
  | none => rw [hg] at h1; simp at h1
  | some g =>
    rw [hg] at h1
    simp only [Option.bind_some] at h1 ⊢
    rw [hw g (h.2 g hg)]
    exact h1

instance : LaidFacts where
  LW w Sh := TabSh w Sh "strings.asciiSpace" .u8 Lib.asciiSpaceTab ∧ True
  mono hS hw h := ⟨(h.1).mono hS hw, trivial⟩
theorem tab0_laid {l : List (String × DataW Unit)} {w : World} (h : laidMet Tryd.prog l w) (hm : ("strings.asciiSpace", (Rows.laid_strings_asciiSpace : DataW Unit)) ∈ l) : TabSh w (fun g => g < w.heap.size) "strings.asciiSpace" .u8 Lib.asciiSpaceTab := by
  obtain ⟨g, t, cs, fuel, p, hg, hty, hvar, hd⟩ := Lib.laidMet.reads h hm
  have h1 : Lib.TabIs Tryd.prog w "strings.asciiSpace" .u8 Lib.asciiSpaceTab := by
    obtain rfl := Option.some.inj ((show Tryd.prog.globalNamed "strings.asciiSpace" = some 2 by kernel_rfl).symm.trans hg)
    obtain rfl := Option.some.inj ((show (Tryd.prog.globals[2]?).map (·.type) = some 127 by kernel_rfl).symm.trans hty)
    unfold Lib.TabIs
    rw [hvar, ← Lib.cells_of_tab (zs := Lib.asciiSpaceTab) (n := 256) Tryd.underlying127 Tryd.underlying5 (by kernel_rfl) (by kernel_rfl) ((show (Rows.laid_strings_asciiSpace : DataW Unit) = Lib.tabData .u8 Lib.asciiSpaceTab by kernel_rfl) ▸ hd)]
  refine ⟨h1, fun g' hg' => ?_⟩
  unfold Lib.TabIs World.var? at h1
  rw [hg'] at h1
  simp only [Option.bind_some] at h1
  cases hh : w.heap[g']? with
  | none => rw [hh] at h1; cases h1
  | some o => exact (Array.getElem?_eq_some_iff.1 hh).1
def isAscii (s : ByteArray) : Bool := s.data.toList.all fun b => decide (b.toNat < 128)
def strings_Fields.f (k : Nat) (s : ByteArray) : Option (List ByteArray) := if s.size < 1000000 ∧ isAscii s = true ∧ (Lib.fields s.data.toList).length < 1000000 then some ((Lib.fields s.data.toList).map fun l => ⟨l.toArray⟩) else none
theorem strings_Fields.fn (k : Nat) (a0 : ByteArray) (r : List ByteArray) (h : strings_Fields.f k a0 = some r) : Fn Tryd.prog 105 [oS a0] [] (o1 (.own 9 (List.map eS r))) [] := by
  unfold strings_Fields.f at h
  split at h
  · rename_i hc
    obtain ⟨h1, h2, h3⟩ := hc
    obtain rfl := Option.some.inj h
    have ha : ∀ (j : Nat) b, a0.data.toList[j]? = some b → b.toNat < 128 := fun j b hj => of_decide_eq_true (List.all_eq_true.1 h2 b (List.mem_of_getElem? hj))
    have := Fn.ofRow (P := Tryd.prog) (f := 105) (vs := [.string a0]) (e := 9) (us := (Lib.fields a0.data.toList).map fun l => Value.string ⟨l.toArray⟩) (by kernel_rfl) (fun u hu => by obtain ⟨l, _, rfl⟩ := List.mem_map.1 hu; rfl) (by simp [maxLen]; omega) fun w Sh hlw => by
      refine (Tryd.strings_Fields_laid a0 w (by omega) ha hlw.1.1).mono fun e w' ⟨k1, k2⟩ => ⟨by rw [k1]; simp, k2⟩
    simpa [List.map_map, Function.comp_def, scArgs, oS, o1, cS, eS] using this
  · cases h


end Go.Proofs.YtjgddjmgcffjfaaDoor.E
