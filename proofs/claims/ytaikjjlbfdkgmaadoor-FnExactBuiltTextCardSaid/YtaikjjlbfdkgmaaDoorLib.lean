/- strings.Fields as the printed walks take it: at a text of ASCII bytes, in a world whose table strings.asciiSpace is as it was laid, it hands back the fields in a new row. -/
import Derived.Test.YtaikjjlbfdkgmaaDoorShelf
import Derived.Test.YtaikjjlbfdkgmaaDoorRows
import Derived.Test.YtaikjjlbfdkgmaaDoorWMore
import Derived.Lib.LaidU8
namespace Go.Proofs.YtaikjjlbfdkgmaaDoor
open Go.RowKit Go.Proofs.YtaikjjlbfdkgmaaDoorW.PrintWords Go.Proofs.YtaikjjlbfdkgmaaDoorW.PrintLast Go.Proofs.YtaikjjlbfdkgmaaDoorW.PrintMore

/-- A table of the library's stays in a world that is as it was below its heap. -/
theorem tabIs_below {P : Program} {w w' : World} {B : Nat} {name : String} {k : IntKind} {zs : List Int} (h : Lib.TabIs P w name k zs) (hb : Below B w w') (hB : ∀ g, P.globalNamed name = some g → g < B) : Lib.TabIs P w' name k zs := by
  unfold Lib.TabIs World.var? at *
  cases hg : P.globalNamed name with
  | none => rw [hg] at h; simp at h
  | some g =>
    rw [hg] at h
    simp only [Option.bind_some] at h ⊢
    rw [hb.block g (hB g hg)]
    exact h
theorem tabIs_below' {P : Program} {w w' : World} {name : String} {k : IntKind} {zs : List Int} (h : Lib.TabIs P w name k zs) (hb : Below w.heap.size w w') : Lib.TabIs P w' name k zs :=
  tabIs_below h hb fun g hg => by
    unfold Lib.TabIs World.var? at h
    rw [hg] at h
    simp only [Option.bind_some] at h
    cases hh : w.heap[g]? with
    | none => rw [hh] at h; cases h
    | some o => exact (Array.getElem?_eq_some_iff.1 hh).1

theorem heap_last (w : World) (o : Obj) : (w.alloc o).heap[w.heap.size]? = some o := by
  show (w.heap.push o)[w.heap.size]? = some o
  simp
/-- What strings.Fields asks of the world. -/
structure LFields (w : World) : Prop where
  tab : Lib.TabIs Tryd.prog w "strings.asciiSpace" .u8 Lib.asciiSpaceTab
theorem LFields.below {w w' : World} (h : LFields w) (hb : Below w.heap.size w w') : LFields w' := ⟨tabIs_below' h.tab hb⟩
theorem LFields.of_laid {l : List (String × DataW Unit)} {w : World} (h : laidMet Tryd.prog l w) (hm : ("strings.asciiSpace", (Rows.laid_strings_asciiSpace : DataW Unit)) ∈ l) : LFields w := by
  obtain ⟨g, t, cs, fuel, p, hg, hty, hvar, hd⟩ := Lib.laidMet.reads h hm
  obtain rfl := Option.some.inj ((show Tryd.prog.globalNamed "strings.asciiSpace" = some 0 by kernel_rfl).symm.trans hg)
  obtain rfl := Option.some.inj ((show (Tryd.prog.globals[0]?).map (·.type) = some 204 by kernel_rfl).symm.trans hty)
  refine ⟨?_⟩
  unfold Lib.TabIs
  rw [hvar, ← Lib.cells_of_tab (zs := Lib.asciiSpaceTab) (n := 256) Tryd.underlying204 Tryd.underlying5 (by kernel_rfl) (by kernel_rfl) ((show (Rows.laid_strings_asciiSpace : DataW Unit) = Lib.tabData .u8 Lib.asciiSpaceTab by kernel_rfl) ▸ hd)]

def isAscii (s : ByteArray) : Bool := s.data.toList.all fun b => decide (b.toNat < 128)
/-- strings.Fields, where the text is ASCII and no giant. -/
def strings_Fields.f (s : ByteArray) : Option (List ByteArray) := if s.size < 1000000 ∧ isAscii s = true ∧ (Lib.fields s.data.toList).length < 1000000 then some ((Lib.fields s.data.toList).map fun l => ⟨l.toArray⟩) else none
theorem strings_Fields.calls (a0 : ByteArray) (r : List ByteArray) (w : World) (hLW : LFields w) (h : strings_Fields.f a0 = some r) :
    Calls Tryd.prog 168 #[.string a0] w fun e w' => ∃ v0_ : Value, e = .returned (v0_) ∧ Kd.R Kd.string 9 w' w.heap.size (fun _ => True) v0_ r ∧ Below w.heap.size w w' := by
  unfold strings_Fields.f at h
  split at h
  · rename_i hc
    obtain ⟨h1, h2, h3⟩ := hc
    obtain rfl := Option.some.inj h
    have ha : ∀ (j : Nat) b, a0.data.toList[j]? = some b → b.toNat < 128 := fun j b hj => of_decide_eq_true (List.all_eq_true.1 h2 b (List.mem_of_getElem? hj))
    refine (Tryd.strings_Fields_laid a0 w (by omega) ha hLW.tab).mono ?_
    rintro e w' ⟨rfl, rfl⟩
    refine ⟨_, rfl, ⟨fun _ _ => trivial, ?_⟩, (Below.refl _ _).alloc (Nat.le_refl _) _⟩
    refine ⟨(Lib.fields a0.data.toList).map fun l => Value.string ⟨l.toArray⟩, ⟨by simp [Kd.string, Kd.scalar], .inr ⟨w.heap.size, _, _, by rw [List.length_map], Nat.le_refl _, (heap_last w _), by simp, by simp [maxLen]; omega, by simp [Kd.string, Kd.scalar], by simpa [Kd.string, Kd.scalar] using List.take_of_length_le (by simp)⟩⟩, ?_⟩
    refine ⟨by simp [Kd.string, Kd.scalar], fun j p hj => ?_⟩
    have hj' : ∃ l, (Lib.fields a0.data.toList)[j]? = some l ∧ (⟨l.toArray⟩ : ByteArray) = p := by simpa [List.getElem?_map, Option.map_eq_some_iff] using hj
    obtain ⟨l, hl, rfl⟩ := hj'
    show _ = _
    apply List.ext_getElem?
    intro i
    cases i with
    | zero => simp [Kd.string, Kd.scalar, List.getElem?_drop, List.getElem?_map, hl]
    | succ i => simp [Kd.string, Kd.scalar, List.getElem?_take]
  · cases h
end Go.Proofs.YtaikjjlbfdkgmaaDoor
