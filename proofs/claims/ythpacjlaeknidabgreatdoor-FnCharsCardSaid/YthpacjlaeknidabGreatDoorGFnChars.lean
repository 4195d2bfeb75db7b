/- The library's functions that this law reaches, as the engine takes them. -/
import Derived.Test.YthpacjlaeknidabGreatDoorEng18
import Derived.Test.YthpacjlaeknidabGreatDoorProg
import Derived.Test.YthpacjlaeknidabGreatDoorShelf
import Derived.Test.YthpacjlaeknidabGreatDoorRows
import Derived.Lib.LaidU8
import Derived.LaidMore
import Derived.Test.YthpacjlaeknidabGreatDoorNm
import Derived.Stop.LaidErr
import Derived.Test.YthpacjlaeknidabGreatDoorFI
import Derived.Lib.TrailingZeros
set_option linter.unusedVariables false
set_option linter.unusedSectionVars false
set_option linter.unusedSimpArgs false
namespace Go.Proofs.YthpacjlaeknidabGreatDoor.E
open Go.RowKit
/-- A table of the library's stays as it was laid. -/
def TabSh (w : World) (Sh : Nat → Prop) (name : String) (k : IntKind) (zs : List Int) : Prop := Lib.TabIs Tryz.prog w name k zs ∧ ∀ g, Tryz.prog.globalNamed name = some g → Sh g
theorem TabSh.mono {w w' : World} {Sh Sh' : Nat → Prop} {name : String} {k : IntKind} {zs : List Int} (hS : ∀ g, Sh g → Sh' g) (hw : ∀ g, Sh g → w'.heap[g]? = w.heap[g]?) (h : TabSh w Sh name k zs) : TabSh w' Sh' name k zs := by
  refine ⟨?_, fun g hg => hS g (h.2 g hg)⟩
  have h1 := h.1
  unfold Lib.TabIs World.var? at *
  cases hg : Tryz.prog.globalNamed name with
  | none => rw [hg] at h1; simp at h1
  | some g =>
    rw [hg] at h1
    simp only [Option.bind_some] at h1 ⊢
    rw [hw g (h.2 g hg)]
    exact h1

def ErrSh (w : World) (Sh : Nat → Prop) : Prop := (Nm.ErrAt w 9 ∧ Sh 9) ∧ Nm.ErrAt w 10 ∧ Sh 10
theorem errAt_mono {w w' : World} {g : Nat} (h : Nm.ErrAt w g) (he : w'.heap[g]? = w.heap[g]?) : Nm.ErrAt w' g := by
  obtain ⟨te, pe, h⟩ := h
  exact ⟨te, pe, by rw [World.cell?_of_block he]; exact h⟩
theorem ErrSh.mono {w w' : World} {Sh Sh' : Nat → Prop} (hS : ∀ g, Sh g → Sh' g) (hw : ∀ g, Sh g → w'.heap[g]? = w.heap[g]?) (h : ErrSh w Sh) : ErrSh w' Sh' :=
  ⟨⟨errAt_mono h.1.1 (hw _ h.1.2), hS _ h.1.2⟩, errAt_mono h.2.1 (hw _ h.2.2), hS _ h.2.2⟩

def UtfSh (w : World) (Sh : Nat → Prop) : Prop := Lib.Utf8Tabs 4 5 w ∧ Sh 4 ∧ Sh 5
theorem UtfSh.mono {w w' : World} {Sh Sh' : Nat → Prop} (hS : ∀ g, Sh g → Sh' g) (hw : ∀ g, Sh g → w'.heap[g]? = w.heap[g]?) (h : UtfSh w Sh) : UtfSh w' Sh' := by
  obtain ⟨⟨h1, h2⟩, h3, h4⟩ := h
  refine ⟨⟨fun c hc => ?_, fun i hi => ⟨?_, ?_⟩⟩, hS _ h3, hS _ h4⟩
  · rw [World.cell?_of_block (hw _ h3)]; exact h1 c hc
  · rw [World.cell?_of_block (hw _ h4)]; exact (h2 i hi).1
  · rw [World.cell?_of_block (hw _ h4)]; exact (h2 i hi).2

instance : LaidFacts where
  LW w Sh := TabSh w Sh "internal/strconv.uint64pow10" .u64 Lib.pow10Tab ∧ TabSh w Sh "math/bits.deBruijn64tab" .u8 (Lib.deBruijn64tab.map Int.ofNat) ∧ TabSh w Sh "strings.asciiSpace" .u8 Lib.asciiSpaceTab ∧ ErrSh w Sh ∧ UtfSh w Sh ∧ True
  mono hS hw h := ⟨(h.1).mono hS hw, (h.2.1).mono hS hw, (h.2.2.1).mono hS hw, (h.2.2.2.1).mono hS hw, (h.2.2.2.2.1).mono hS hw, trivial⟩
theorem tab0_laid {l : List (String × DataW Unit)} {w : World} (h : laidMet Tryz.prog l w) (hm : ("internal/strconv.uint64pow10", (Rows.laid_internal_strconv_uint64pow10 : DataW Unit)) ∈ l) : TabSh w (fun g => g < w.heap.size) "internal/strconv.uint64pow10" .u64 Lib.pow10Tab := by
  obtain ⟨g, t, cs, fuel, p, hg, hty, hvar, hd⟩ := Lib.laidMet.reads h hm
  have h1 : Lib.TabIs Tryz.prog w "internal/strconv.uint64pow10" .u64 Lib.pow10Tab := by
    obtain rfl := Option.some.inj ((show Tryz.prog.globalNamed "internal/strconv.uint64pow10" = some 1 by kernel_rfl).symm.trans hg)
    obtain rfl := Option.some.inj ((show (Tryz.prog.globals[1]?).map (·.type) = some 101 by kernel_rfl).symm.trans hty)
    unfold Lib.TabIs
    rw [hvar, ← Lib.cells_of_tab (zs := Lib.pow10Tab) (n := 20) Tryz.underlying101 Tryz.underlying80 (by kernel_rfl) (by kernel_rfl) ((show (Rows.laid_internal_strconv_uint64pow10 : DataW Unit) = Lib.tabData .u64 Lib.pow10Tab by kernel_rfl) ▸ hd)]
  refine ⟨h1, fun g' hg' => ?_⟩
  unfold Lib.TabIs World.var? at h1
  rw [hg'] at h1
  simp only [Option.bind_some] at h1
  cases hh : w.heap[g']? with
  | none => rw [hh] at h1; cases h1
  | some o => exact (Array.getElem?_eq_some_iff.1 hh).1
theorem tab1_laid {l : List (String × DataW Unit)} {w : World} (h : laidMet Tryz.prog l w) (hm : ("math/bits.deBruijn64tab", (Rows.laid_math_bits_deBruijn64tab : DataW Unit)) ∈ l) : TabSh w (fun g => g < w.heap.size) "math/bits.deBruijn64tab" .u8 (Lib.deBruijn64tab.map Int.ofNat) := by
  obtain ⟨g, t, cs, fuel, p, hg, hty, hvar, hd⟩ := Lib.laidMet.reads h hm
  have h1 : Lib.TabIs Tryz.prog w "math/bits.deBruijn64tab" .u8 (Lib.deBruijn64tab.map Int.ofNat) := by
    obtain rfl := Option.some.inj ((show Tryz.prog.globalNamed "math/bits.deBruijn64tab" = some 8 by kernel_rfl).symm.trans hg)
    obtain rfl := Option.some.inj ((show (Tryz.prog.globals[8]?).map (·.type) = some 136 by kernel_rfl).symm.trans hty)
    unfold Lib.TabIs
    rw [hvar, ← Lib.cells_of_tab (zs := (Lib.deBruijn64tab.map Int.ofNat)) (n := 64) Tryz.underlying136 Tryz.underlying5 (by kernel_rfl) (by kernel_rfl) ((show (Rows.laid_math_bits_deBruijn64tab : DataW Unit) = Lib.tabData .u8 (Lib.deBruijn64tab.map Int.ofNat) by kernel_rfl) ▸ hd)]
  refine ⟨h1, fun g' hg' => ?_⟩
  unfold Lib.TabIs World.var? at h1
  rw [hg'] at h1
  simp only [Option.bind_some] at h1
  cases hh : w.heap[g']? with
  | none => rw [hh] at h1; cases h1
  | some o => exact (Array.getElem?_eq_some_iff.1 hh).1
theorem tab2_laid {l : List (String × DataW Unit)} {w : World} (h : laidMet Tryz.prog l w) (hm : ("strings.asciiSpace", (Rows.laid_strings_asciiSpace : DataW Unit)) ∈ l) : TabSh w (fun g => g < w.heap.size) "strings.asciiSpace" .u8 Lib.asciiSpaceTab := by
  obtain ⟨g, t, cs, fuel, p, hg, hty, hvar, hd⟩ := Lib.laidMet.reads h hm
  have h1 : Lib.TabIs Tryz.prog w "strings.asciiSpace" .u8 Lib.asciiSpaceTab := by
    obtain rfl := Option.some.inj ((show Tryz.prog.globalNamed "strings.asciiSpace" = some 2 by kernel_rfl).symm.trans hg)
    obtain rfl := Option.some.inj ((show (Tryz.prog.globals[2]?).map (·.type) = some 110 by kernel_rfl).symm.trans hty)
    unfold Lib.TabIs
    rw [hvar, ← Lib.cells_of_tab (zs := Lib.asciiSpaceTab) (n := 256) Tryz.underlying110 Tryz.underlying5 (by kernel_rfl) (by kernel_rfl) ((show (Rows.laid_strings_asciiSpace : DataW Unit) = Lib.tabData .u8 Lib.asciiSpaceTab by kernel_rfl) ▸ hd)]
  refine ⟨h1, fun g' hg' => ?_⟩
  unfold Lib.TabIs World.var? at h1
  rw [hg'] at h1
  simp only [Option.bind_some] at h1
  cases hh : w.heap[g']? with
  | none => rw [hh] at h1; cases h1
  | some o => exact (Array.getElem?_eq_some_iff.1 hh).1
theorem err_star : "*" ++ "errors.errorString" = "*errors.errorString" := by decide
theorem err_row (u : TypeId) (h : Tryz.prog.typeName? 3 u = some "*errors.errorString") : u = 154 :=
  typeName_ptr_named (nm := "errors.errorString") (by rw [err_star]; kernel_rfl) (by kernel_rfl) (by decide) u (by rw [err_star]; exact h)
theorem laid_cut {P : Program} {x : String × DataW Unit} {w : World} : ∀ {l : List (String × DataW Unit)}, laidMet P l w → x ∈ l → ∃ r, laidMet P (x :: r) w
  | y :: r, h, hm => by
    rcases List.mem_cons.1 hm with rfl | hm
    · exact ⟨r, h⟩
    · exact laid_cut h.tail hm
theorem errAt_laid {n : String} {text : List UInt8} {l : List (String × DataW Unit)} {w : World} {g : Nat} (h : laidMet Tryz.prog l w) (hm : (n, (.iface "*errors.errorString" (.ptr (.agg [.lit (.string text)])) : DataW Unit)) ∈ l) (hg : Tryz.prog.globalNamed n = some g) (ht : (Tryz.prog.globals[g]?).map (·.type) = some 56) : Nm.ErrAt w g ∧ g < w.heap.size := by
  obtain ⟨r, h2⟩ := laid_cut h hm
  obtain ⟨a, s, hv, hc, hs, hz⟩ := laid_sentinel h2 hg ht Tryz.underlying56 err_row Tryz.underlying154 Tryz.underlying156 rfl rfl Tryz.underlying9 (by kernel_rfl) (by kernel_rfl)
  have hk := World.var?_cell hg hv 0
  refine ⟨⟨_, _, hk⟩, ?_⟩
  refine Decidable.byContradiction fun hn => ?_
  unfold World.cell? at hk
  rw [Array.getElem?_eq_none (Nat.le_of_not_lt hn)] at hk
  cases hk
theorem errSh_laid {l : List (String × DataW Unit)} {w : World} (h : laidMet Tryz.prog l w) (h1 : ("strconv.ErrSyntax", (Rows.laid_strconv_ErrSyntax : DataW Unit)) ∈ l) (h2 : ("strconv.ErrRange", (Rows.laid_strconv_ErrRange : DataW Unit)) ∈ l) : ErrSh w (fun g => g < w.heap.size) :=
  ⟨errAt_laid h h1 (by kernel_rfl) (by kernel_rfl), errAt_laid h h2 (by kernel_rfl) (by kernel_rfl)⟩

theorem utfSh_laid {l : List (String × DataW Unit)} {w : World} (h : laidMet Tryz.prog l w) (h1 : ("unicode/utf8.first", (Rows.laid_unicode_utf8_first : DataW Unit)) ∈ l) (h2 : ("unicode/utf8.acceptRanges", (Rows.laid_unicode_utf8_acceptRanges : DataW Unit)) ∈ l) : UtfSh w (fun g => g < w.heap.size) := by
  have hU : Lib.Utf8Tabs 4 5 w := utf8Tabs_of_reads (ρ := Tryz.lays197_ren) { Tryz.lays197 with } ⟨by kernel_rfl, by kernel_rfl, by kernel_rfl, by kernel_rfl, by kernel_rfl, by kernel_rfl, by kernel_rfl⟩ (Lib.laidMet.reads h ((show (Rows.laid_unicode_utf8_first : DataW Unit) = Lib.firstData by kernel_rfl) ▸ h1)) (Lib.laidMet.reads h ((show (Rows.laid_unicode_utf8_acceptRanges : DataW Unit) = Lib.acceptData by kernel_rfl) ▸ h2))
  have lt : ∀ g c v, w.cell? ⟨g, c, none⟩ = some v → g < w.heap.size := fun g c v hc => by
    refine Decidable.byContradiction fun hn => ?_
    unfold World.cell? at hc
    rw [Array.getElem?_eq_none (Nat.le_of_not_lt hn)] at hc
    cases hc
  exact ⟨hU, lt _ _ _ (hU.1 0 (by decide)), lt _ _ _ (hU.2 0 (by decide)).1⟩


def strconv_FormatInt.f (k : Nat) (a0 a1 : Int) : Option ByteArray := if a1 = 16 ∧ 0 ≤ a0 ∧ a0 < 256 then some ⟨(Fi.hex a0.toNat).toArray⟩ else none
theorem strconv_FormatInt.fn (k : Nat) (a0 a1 : Int) (r : ByteArray) (h : strconv_FormatInt.f k a0 a1 = some r) : Fn Tryz.prog 20 [oI a0, oI a1] [] (oS r) [] := by
  unfold strconv_FormatInt.f at h
  split at h
  · rename_i hc
    obtain ⟨rfl, h0, h1⟩ := hc
    obtain rfl := Option.some.inj h
    obtain ⟨n, rfl⟩ : ∃ n : Nat, a0 = n := ⟨a0.toNat, by omega⟩
    refine Fn.ofSc (P := Tryz.prog) (f := 20) (vs := [.int .i64 n, .int .i64 16]) (v := .string ⟨(Fi.hex n).toArray⟩) ⟨rfl, rfl⟩ (fun c x hx => ?_) fun w Sh hlw => ?_
    · match c, hx with
      | 0, hx => simp only [oS, List.getElem?_cons_zero, Option.some.injEq] at hx; subst hx; exact ⟨_, rfl, rfl, rfl⟩
      | c + 1, hx => simp [oS] at hx
    · refine Fi.format16 n (by omega) w fun X => ?_
      have h2 := Lib.tabIs_alloc (hlw.2.1.1) X
      exact h2.cell (g := 8) (by kernel_rfl) 15 (by decide)
  · cases h

def isAscii (s : ByteArray) : Bool := s.data.toList.all fun b => decide (b.toNat < 128)
def strings_Fields.f (k : Nat) (s : ByteArray) : Option (List ByteArray) := if s.size < 1000000 ∧ isAscii s = true ∧ (Lib.fields s.data.toList).length < 1000000 then some ((Lib.fields s.data.toList).map fun l => ⟨l.toArray⟩) else none
theorem strings_Fields.fn (k : Nat) (a0 : ByteArray) (r : List ByteArray) (h : strings_Fields.f k a0 = some r) : Fn Tryz.prog 66 [oS a0] [] (o1 (.own 9 (List.map eS r))) [] := by
  unfold strings_Fields.f at h
  split at h
  · rename_i hc
    obtain ⟨h1, h2, h3⟩ := hc
    obtain rfl := Option.some.inj h
    have ha : ∀ (j : Nat) b, a0.data.toList[j]? = some b → b.toNat < 128 := fun j b hj => of_decide_eq_true (List.all_eq_true.1 h2 b (List.mem_of_getElem? hj))
    have := Fn.ofRow (P := Tryz.prog) (f := 66) (vs := [.string a0]) (e := 9) (us := (Lib.fields a0.data.toList).map fun l => Value.string ⟨l.toArray⟩) (by kernel_rfl) (fun u hu => by obtain ⟨l, _, rfl⟩ := List.mem_map.1 hu; rfl) (by simp [maxLen]; omega) fun w Sh hlw => by
      refine (Tryz.strings_Fields_laid a0 w (by omega) ha hlw.2.2.1.1).mono fun e w' ⟨k1, k2⟩ => ⟨by rw [k1]; simp, k2⟩
    simpa [List.map_map, Function.comp_def, scArgs, oS, o1, cS, eS] using this
  · cases h


def strings_HasPrefix.f (k : Nat) (a0 a1 : ByteArray) : Option Bool := some (Lib.hasPrefix a0.data.toList a1.data.toList)
theorem strings_HasPrefix.fn (k : Nat) (a0 a1 : ByteArray) (r : Bool) (h : strings_HasPrefix.f k a0 a1 = some r) : Fn Tryz.prog 35 [oS a0, oS a1] [] (oB r) [] := by
  obtain rfl := Option.some.inj h
  refine Fn.ofSc (P := Tryz.prog) (f := 35) (vs := [.string a0, .string a1]) (v := .bool (Lib.hasPrefix a0.data.toList a1.data.toList)) ⟨rfl, rfl⟩ (fun c x hx => ?_) fun w Sh hlw => ?_
  · match c, hx with
    | 0, hx => simp only [oB, List.getElem?_cons_zero, Option.some.injEq] at hx; subst hx; exact ⟨_, rfl, rfl, rfl⟩
    | c + 1, hx => simp [oB] at hx
  · exact (Tryz.strings_HasPrefix a0 a1 w).mono fun e w' ⟨he, hw⟩ => ⟨he, hw ▸ Below.refl _ _⟩

def strings_IndexByte.f (k : Nat) (a0 : ByteArray) (a1 : Int) : Option Int := some (Lib.indexByte a0.data.toList a1.toNat.toUInt8)
theorem strings_IndexByte.fn (k : Nat) (a0 : ByteArray) (a1 : Int) (r : Int) (h : strings_IndexByte.f k a0 a1 = some r) : Fn Tryz.prog 34 [oS a0, o1 (cK .u8 a1)] [] (oI r) [] := by
  obtain rfl := Option.some.inj h
  refine Fn.ofSc (P := Tryz.prog) (f := 34) (vs := [.string a0, .int .u8 a1]) (v := .int .i64 (Lib.indexByte a0.data.toList a1.toNat.toUInt8)) ⟨rfl, rfl⟩ (fun c x hx => ?_) fun w Sh hlw => ?_
  · match c, hx with
    | 0, hx => simp only [oI, List.getElem?_cons_zero, Option.some.injEq] at hx; subst hx; exact ⟨_, rfl, rfl, rfl⟩
    | c + 1, hx => simp [oI] at hx
  · exact (Tryz.strings_IndexByte a0 a1 w).mono fun e w' ⟨he, hw⟩ => ⟨he, hw ▸ Below.refl _ _⟩

def strings_ToUpper.f (k : Nat) (a0 : ByteArray) : Option ByteArray := if a0.size ≤ 1000000 ∧ a0.data.toList.all (fun b => decide (b.toNat < 128)) = true then some ⟨(Lib.toUpperA a0.data.toList).toArray⟩ else none
theorem strings_ToUpper.fn (k : Nat) (a0 : ByteArray) (r : ByteArray) (h : strings_ToUpper.f k a0 = some r) : Fn Tryz.prog 19 [oS a0] [] (oS r) [] := by
  unfold strings_ToUpper.f at h
  split at h
  · rename_i hc
    obtain ⟨h1, h2⟩ := hc
    obtain rfl := Option.some.inj h
    refine Fn.ofSc (P := Tryz.prog) (f := 19) (vs := [.string a0]) (v := .string ⟨(Lib.toUpperA a0.data.toList).toArray⟩) ⟨rfl, rfl⟩ (fun c x hx => ?_) fun w Sh hlw => ?_
    · match c, hx with
      | 0, hx => simp only [oS, List.getElem?_cons_zero, Option.some.injEq] at hx; subst hx; exact ⟨_, rfl, rfl, rfl⟩
      | c + 1, hx => simp [oS] at hx
    · exact Tryz.strings_ToUpper_ascii a0 w (by omega) fun j b hj => of_decide_eq_true (List.all_eq_true.1 h2 b (List.mem_of_getElem? hj))
  · cases h

def unicode_utf8_DecodeRuneInString.f (k : Nat) (a0 : ByteArray) : Option (Int × Int) := some (((Lib.decodeGo a0).1 : Int), ((Lib.decodeGo a0).2 : Int))
theorem unicode_utf8_DecodeRuneInString.fn (k : Nat) (a0 : ByteArray) (r : Int × Int) (h : unicode_utf8_DecodeRuneInString.f k a0 = some r) : Fn Tryz.prog 48 [oS a0] [] (tp [none, none] [cK .i32 r.1, cI r.2]) [] := by
  obtain rfl := Option.some.inj h
  exact Fn.ofSc (P := Tryz.prog) (f := 48) (vs := [.string a0]) (res := tp [none, none] [cK .i32 ((Lib.decodeGo a0).1 : Int), cI ((Lib.decodeGo a0).2 : Int)])
    (v := .tuple #[.int .i32 ((Lib.decodeGo a0).1 : Int), .int .i64 ((Lib.decodeGo a0).2 : Int)])
    ⟨_, rfl, rfl, rfl, fun x hx y hy => by simp at hx; rcases hx with rfl | rfl <;> (simp [Value.cells] at hy; subst hy; rfl)⟩ (fun c x hx => by
      match c, hx with
      | 0, hx => simp only [tp, List.getElem?_cons_zero, Option.some.injEq] at hx; subst hx; exact ⟨_, rfl, rfl, rfl⟩
      | 1, hx => simp only [tp, List.getElem?_cons_succ, List.getElem?_cons_zero, Option.some.injEq] at hx; subst hx; exact ⟨_, rfl, rfl, rfl⟩
      | c + 2, hx => simp [tp] at hx) fun w Sh hlw => Tryz.utf8_DecodeRuneInString a0 w (hlw.2.2.2.2.1).1

end Go.Proofs.YthpacjlaeknidabGreatDoor.E
