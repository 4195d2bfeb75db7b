/- The library's functions that this law reaches, as the engine takes them. -/
import Derived.Test.YtoclajfeeebbbadGreatDoorEng20
import Derived.Test.YtoclajfeeebbbadGreatDoorProg
import Derived.Test.YtoclajfeeebbbadGreatDoorShelf
import Derived.Test.YtoclajfeeebbbadGreatDoorRows
import Derived.Lib.LaidU8
import Derived.LaidMore
import Derived.Test.YtoclajfeeebbbadGreatDoorDif
import Derived.Test.YtoclajfeeebbbadGreatDoorEng18
set_option linter.unusedVariables false
set_option linter.unusedSectionVars false
set_option linter.unusedSimpArgs false
namespace Go.Proofs.YtoclajfeeebbbadGreatDoor.E
open Go.RowKit
/-- A table of the library's stays as it was laid. -/
def TabSh (w : World) (Sh : Nat → Prop) (name : String) (k : IntKind) (zs : List Int) : Prop := Lib.TabIs Tryz.prog w name k zs ∧ ∀ g, Tryz.prog.globalNamed name = some g → Sh g
theorem TabSh.mono {w w' : World} {Sh Sh' : Nat → Prop} {name : String} {k : IntKind} {zs : List Int} (hS : ∀ g, Sh g → Sh' g) (hw : ∀ g, Sh g → w'.heap[g]? = w.heap[g]?) (h : TabSh w Sh name k zs) : TabSh w' Sh' name k zs := by
  refine ⟨?_, fun g hg => hS g (h.2 g hg)⟩
  have h1 := h.1
  unfold Lib.TabIs World.var? at *
  cases hg : Tryz.prog.globalNamed name with
  | none => rw [hg] at h1; simp at h1
  | some g =>
    rw [hg] at h1
    simp only [Option.bind_some] at h1 ⊢
    rw [hw g (h.2 g hg)]
    exact h1

variable [Lent]
instance lf : LaidFacts where
  LW w Sh := TabSh w Sh "strings.asciiSpace" .u8 Lib.asciiSpaceTab ∧ LentOK w Sh
  mono hS hw h := ⟨(h.1).mono hS hw, h.2.mono hS hw⟩
theorem lf_more {E E2 : Lent} {w : World} {Sh Sh2 : Nat → Prop} (h : @LaidFacts.LW (@lf E) w Sh) (hS : ∀ g, Sh g → Sh2 g) (hE : ∀ p ∈ E2.env, p ∈ E.env ∨ RepS w Sh2 p.2 p.1) : @LaidFacts.LW (@lf E2) w Sh2 := by
  have h2 := @LaidFacts.mono (@lf E) w w Sh Sh2 hS (fun _ _ => rfl) h
  exact ⟨h2.1, fun p hp => (hE p hp).elim (fun q => h2.2 p q) id⟩
theorem lf_at {E : Lent} {w : World} {Sh : Nat → Prop} {p : Value × PC} (h : @LaidFacts.LW (@lf E) w Sh) (hp : p ∈ E.env) : RepS w Sh p.2 p.1 := h.2 p hp
theorem tab0_laid {l : List (String × DataW Unit)} {w : World} (h : laidMet Tryz.prog l w) (hm : ("strings.asciiSpace", (Rows.laid_strings_asciiSpace : DataW Unit)) ∈ l) : TabSh w (fun g => g < w.heap.size) "strings.asciiSpace" .u8 Lib.asciiSpaceTab := by
  obtain ⟨g, t, cs, fuel, p, hg, hty, hvar, hd⟩ := Lib.laidMet.reads h hm
  have h1 : Lib.TabIs Tryz.prog w "strings.asciiSpace" .u8 Lib.asciiSpaceTab := by
    obtain rfl := Option.some.inj ((show Tryz.prog.globalNamed "strings.asciiSpace" = some 0 by kernel_rfl).symm.trans hg)
    obtain rfl := Option.some.inj ((show (Tryz.prog.globals[0]?).map (·.type) = some 110 by kernel_rfl).symm.trans hty)
    unfold Lib.TabIs
    rw [hvar, ← Lib.cells_of_tab (zs := Lib.asciiSpaceTab) (n := 256) Tryz.underlying110 Tryz.underlying5 (by kernel_rfl) (by kernel_rfl) ((show (Rows.laid_strings_asciiSpace : DataW Unit) = Lib.tabData .u8 Lib.asciiSpaceTab by kernel_rfl) ▸ hd)]
  refine ⟨h1, fun g' hg' => ?_⟩
  unfold Lib.TabIs World.var? at h1
  rw [hg'] at h1
  simp only [Option.bind_some] at h1
  cases hh : w.heap[g']? with
  | none => rw [hh] at h1; cases h1
  | some o => exact (Array.getElem?_eq_some_iff.1 hh).1
def impl_areDifferent.f (k : Nat) (a0 : List ByteArray) : Option Bool := if a0.length ≤ 4194304 then some (Sq.differ (a0.map fun s => s.data.toList)) else none
theorem impl_areDifferent.strs {w : World} {Sh : Nat → Prop} {u : Value} {a0 : List ByteArray} (hS : ∀ g, Sh g → g < w.heap.size) (h : RepS w Sh (.sl 1 (List.map eS a0)) u) : ∃ a cap, u = .slice a a0.length cap ∧ Sq.Strs w.heap.size w u (a0.map fun s => s.data.toList) := by
  generalize hx : PC.sl 1 (List.map eS a0) = x at h
  cases h with
  | @sl xs g off c size f hz hc hsh hcell hr =>
    injection hx with h1 h2
    subst h1 h2
    refine ⟨_, _, by simp only [List.length_map]; rfl, .inr ⟨g, off, c, by simp, hS g hsh, fun j hj => ?_⟩⟩
    simp only [List.length_map] at hj
    have he : (List.map eS a0)[j]? = some (eS a0[j]) := by simp [hj]
    have h3 := hcell j 0 (eS a0[j]) (cS a0[j]) he rfl
    have h4 := hr j 0 (eS a0[j]) (cS a0[j]) he rfl
    have key : ∀ (y : PC) (z : Value), RepS w Sh y z → y = cS a0[j] → z = .string a0[j] := fun y z hyz hy => by
      unfold cS at hy
      cases hyz <;> first | (injection hy) | (cases hy)
    have h5 : f j 0 = .string a0[j] := key _ _ h4 rfl
    rw [Nat.mul_one, Nat.add_zero] at h3
    rw [h3, h5]
    simp [hj, Go.Proofs.encStr]
  | nil =>
    injection hx with h1 h2
    obtain rfl : a0 = [] := List.map_eq_nil_iff.1 h2
    exact ⟨_, _, rfl, .inl ⟨_, _, rfl, rfl⟩⟩
  | _ => cases hx
theorem impl_areDifferent.fn (k : Nat) (a0 : List ByteArray) (r : Bool) (h : impl_areDifferent.f k a0 = some r) : Fn Tryz.prog 50 [o1 (.sl 1 (List.map eS a0))] [] (oB r) [] := by
  unfold impl_areDifferent.f at h
  split at h
  · rename_i hc
    obtain rfl := Option.some.inj h
    refine Fn.ofSl (v := .bool (Sq.differ (a0.map fun s => s.data.toList))) ⟨rfl, rfl⟩ (fun c x hx => ?_) fun w Sh u hlw hS hr => ?_
    · match c, hx with
      | 0, hx => simp only [oB, List.getElem?_cons_zero, Option.some.injEq] at hx; subst hx; exact ⟨_, rfl, rfl, rfl⟩
      | c + 1, hx => simp [oB] at hx
    · obtain ⟨a, cap, rfl, hs⟩ := impl_areDifferent.strs hS hr
      have := Sq.areDiff a cap (a0.map fun s => s.data.toList) (by simp; omega) w (by simpa using hs)
      simpa using this
  · cases h


def math_bits_Mul.f (k : Nat) (a b : Int) : Option (Int × Int) := if 0 ≤ a ∧ a < 18446744073709551616 ∧ 0 ≤ b ∧ b < 18446744073709551616 then some (((a.toNat * b.toNat / 18446744073709551616 : Nat) : Int), ((a.toNat * b.toNat % 18446744073709551616 : Nat) : Int)) else none
theorem math_bits_Mul.fn (k : Nat) (a0 a1 : Int) (r : Int × Int) (h : math_bits_Mul.f k a0 a1 = some r) : Fn Tryz.prog 100 [o1 (cK .u64 a0), o1 (cK .u64 a1)] [] (tp [none, none] [cK .u64 r.1, cK .u64 r.2]) [] := by
  unfold math_bits_Mul.f at h
  split at h
  · rename_i hc
    obtain rfl := Option.some.inj h
    have := Fn.ofSc (P := Tryz.prog) (f := 100) (vs := [.int .u64 a0, .int .u64 a1]) (res := tp [none, none] [cK .u64 ((a0.toNat * a1.toNat / 18446744073709551616 : Nat) : Int), cK .u64 ((a0.toNat * a1.toNat % 18446744073709551616 : Nat) : Int)])
      (v := .tuple #[.int .u64 ((a0.toNat * a1.toNat / 18446744073709551616 : Nat) : Int), .int .u64 ((a0.toNat * a1.toNat % 18446744073709551616 : Nat) : Int)])
      ⟨_, rfl, rfl, rfl, fun x hx y hy => by simp at hx; rcases hx with rfl | rfl <;> (simp [Value.cells] at hy; subst hy; rfl)⟩ (fun c x hx => by
        match c, hx with
        | 0, hx => simp only [tp, List.getElem?_cons_zero, Option.some.injEq] at hx; subst hx; exact ⟨_, rfl, rfl, rfl⟩
        | 1, hx => simp only [tp, List.getElem?_cons_succ, List.getElem?_cons_zero, Option.some.injEq] at hx; subst hx; exact ⟨_, rfl, rfl, rfl⟩
        | c + 2, hx => simp [tp] at hx) fun w Sh _ => by
        have hm := Tryz.bits_Mul a0.toNat a1.toNat (by omega) (by omega) w
        rw [Int.toNat_of_nonneg hc.1, Int.toNat_of_nonneg hc.2.2.1] at hm
        exact hm.mono fun e w' ⟨k1, k2⟩ => ⟨k1, by rw [k2]; exact Below.refl _ _⟩
    exact this
  · cases h

def isAscii (s : ByteArray) : Bool := s.data.toList.all fun b => decide (b.toNat < 128)
def strings_Fields.f (k : Nat) (s : ByteArray) : Option (List ByteArray) := if s.size < 1000000 ∧ isAscii s = true ∧ (Lib.fields s.data.toList).length < 1000000 then some ((Lib.fields s.data.toList).map fun l => ⟨l.toArray⟩) else none
theorem strings_Fields.fn (k : Nat) (a0 : ByteArray) (r : List ByteArray) (h : strings_Fields.f k a0 = some r) : Fn Tryz.prog 89 [oS a0] [] (o1 (.own 9 (List.map eS r))) [] := by
  unfold strings_Fields.f at h
  split at h
  · rename_i hc
    obtain ⟨h1, h2, h3⟩ := hc
    obtain rfl := Option.some.inj h
    have ha : ∀ (j : Nat) b, a0.data.toList[j]? = some b → b.toNat < 128 := fun j b hj => of_decide_eq_true (List.all_eq_true.1 h2 b (List.mem_of_getElem? hj))
    have := Fn.ofRow (P := Tryz.prog) (f := 89) (vs := [.string a0]) (e := 9) (us := (Lib.fields a0.data.toList).map fun l => Value.string ⟨l.toArray⟩) (by kernel_rfl) (fun u hu => by obtain ⟨l, _, rfl⟩ := List.mem_map.1 hu; rfl) (by simp [maxLen]; omega) fun w Sh hlw => by
      refine (Tryz.strings_Fields_laid a0 w (by omega) ha hlw.1.1).mono fun e w' ⟨k1, k2⟩ => ⟨by rw [k1]; simp, k2⟩
    simpa [List.map_map, Function.comp_def, scArgs, oS, o1, cS, eS] using this
  · cases h


end Go.Proofs.YtoclajfeeebbbadGreatDoor.E
