/- The library's functions that this law reaches, as the engine takes them. -/
import Derived.Test.YtjgddjmgcffjfaaDoorEng18
import Derived.Test.YtjgddjmgcffjfaaDoorProg
import Derived.Test.YtjgddjmgcffjfaaDoorShelf
import Derived.Test.YtjgddjmgcffjfaaDoorRows
import Derived.Lib.LaidU8
import Derived.LaidMore
import Derived.Test.YtjgddjmgcffjfaaDoorFI
import Derived.Lib.TrailingZeros
set_option linter.unusedVariables false
set_option linter.unusedSectionVars false
set_option linter.unusedSimpArgs false
namespace Go.Proofs.YtjgddjmgcffjfaaDoor.E
open Go.RowKit
/-- A table of the library's stays as it was laid. -/
def TabSh (w : World) (Sh : Nat → Prop) (name : String) (k : IntKind) (zs : List Int) : Prop := Lib.TabIs Tryd.prog w name k zs ∧ ∀ g, Tryd.prog.globalNamed name = some g → Sh g
theorem TabSh.mono {w w' : World} {Sh Sh' : Nat → Prop} {name : String} {k : IntKind} {zs : List Int} (hS : ∀ g, Sh g → Sh' g) (hw : ∀ g, Sh g → w'.heap[g]? = w.heap[g]?) (h : TabSh w Sh name k zs) : TabSh w' Sh' name k zs := by
  refine ⟨?_, fun g hg => hS g (h.2 g hg)⟩
  have h1 := h.1
  unfold Lib.TabIs World.var? at *
  cases hg : Tryd.prog.globalNamed name with
  | none => rw [hg] at h1; simp at h1
  | some g =>
    rw [hg] at h1
    simp only [Option.bind_some] at h1 ⊢
    rw [hw g (h.2 g hg)]
    exact h1

instance : LaidFacts where
  LW w Sh := TabSh w Sh "math/bits.deBruijn64tab" .u8 (Lib.deBruijn64tab.map Int.ofNat) ∧ True
  mono hS hw h := ⟨(h.1).mono hS hw, trivial⟩
theorem tab0_laid {l : List (String × DataW Unit)} {w : World} (h : laidMet Tryd.prog l w) (hm : ("math/bits.deBruijn64tab", (Rows.laid_math_bits_deBruijn64tab : DataW Unit)) ∈ l) : TabSh w (fun g => g < w.heap.size) "math/bits.deBruijn64tab" .u8 (Lib.deBruijn64tab.map Int.ofNat) := by
  obtain ⟨g, t, cs, fuel, p, hg, hty, hvar, hd⟩ := Lib.laidMet.reads h hm
  have h1 : Lib.TabIs Tryd.prog w "math/bits.deBruijn64tab" .u8 (Lib.deBruijn64tab.map Int.ofNat) := by
    obtain rfl := Option.some.inj ((show Tryd.prog.globalNamed "math/bits.deBruijn64tab" = some 8 by kernel_rfl).symm.trans hg)
    obtain rfl := Option.some.inj ((show (Tryd.prog.globals[8]?).map (·.type) = some 147 by kernel_rfl).symm.trans hty)
    unfold Lib.TabIs
    rw [hvar, ← Lib.cells_of_tab (zs := (Lib.deBruijn64tab.map Int.ofNat)) (n := 64) Tryd.underlying147 Tryd.underlying5 (by kernel_rfl) (by kernel_rfl) ((show (Rows.laid_math_bits_deBruijn64tab : DataW Unit) = Lib.tabData .u8 (Lib.deBruijn64tab.map Int.ofNat) by kernel_rfl) ▸ hd)]
  refine ⟨h1, fun g' hg' => ?_⟩
  unfold Lib.TabIs World.var? at h1
  rw [hg'] at h1
  simp only [Option.bind_some] at h1
  cases hh : w.heap[g']? with
  | none => rw [hh] at h1; cases h1
  | some o => exact (Array.getElem?_eq_some_iff.1 hh).1
def strconv_FormatInt.f (k : Nat) (a0 a1 : Int) : Option ByteArray := if a1 = 16 ∧ 0 ≤ a0 ∧ a0 < 256 then some ⟨(Fi.hex a0.toNat).toArray⟩ else none
theorem strconv_FormatInt.fn (k : Nat) (a0 a1 : Int) (r : ByteArray) (h : strconv_FormatInt.f k a0 a1 = some r) : Fn Tryd.prog 41 [oI a0, oI a1] [] (oS r) [] := by
  unfold strconv_FormatInt.f at h
  split at h
  · rename_i hc
    obtain ⟨rfl, h0, h1⟩ := hc
    obtain rfl := Option.some.inj h
    obtain ⟨n, rfl⟩ : ∃ n : Nat, a0 = n := ⟨a0.toNat, by omega⟩
    refine Fn.ofSc (P := Tryd.prog) (f := 41) (vs := [.int .i64 n, .int .i64 16]) (v := .string ⟨(Fi.hex n).toArray⟩) ⟨rfl, rfl⟩ (fun c x hx => ?_) fun w Sh hlw => ?_
    · match c, hx with
      | 0, hx => simp only [oS, List.getElem?_cons_zero, Option.some.injEq] at hx; subst hx; exact ⟨_, rfl, rfl, rfl⟩
      | c + 1, hx => simp [oS] at hx
    · refine Fi.format16 n (by omega) w fun X => ?_
      have h2 := Lib.tabIs_alloc (hlw.1.1) X
      exact h2.cell (g := 8) (by kernel_rfl) 15 (by decide)
  · cases h

def strings_ToUpper.f (k : Nat) (a0 : ByteArray) : Option ByteArray := if a0.size ≤ 1000000 ∧ a0.data.toList.all (fun b => decide (b.toNat < 128)) = true then some ⟨(Lib.toUpperA a0.data.toList).toArray⟩ else none
theorem strings_ToUpper.fn (k : Nat) (a0 : ByteArray) (r : ByteArray) (h : strings_ToUpper.f k a0 = some r) : Fn Tryd.prog 40 [oS a0] [] (oS r) [] := by
  unfold strings_ToUpper.f at h
  split at h
  · rename_i hc
    obtain ⟨h1, h2⟩ := hc
    obtain rfl := Option.some.inj h
    refine Fn.ofSc (P := Tryd.prog) (f := 40) (vs := [.string a0]) (v := .string ⟨(Lib.toUpperA a0.data.toList).toArray⟩) ⟨rfl, rfl⟩ (fun c x hx => ?_) fun w Sh hlw => ?_
    · match c, hx with
      | 0, hx => simp only [oS, List.getElem?_cons_zero, Option.some.injEq] at hx; subst hx; exact ⟨_, rfl, rfl, rfl⟩
      | c + 1, hx => simp [oS] at hx
    · exact Tryd.strings_ToUpper_ascii a0 w (by omega) fun j b hj => of_decide_eq_true (List.all_eq_true.1 h2 b (List.mem_of_getElem? hj))
  · cases h

end Go.Proofs.YtjgddjmgcffjfaaDoor.E
