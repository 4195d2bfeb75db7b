/- strings.Join as the printed walks take it. -/
import Derived.Test.YtaikjjlbfdkgmaaDoorShelf
import Derived.Test.YtaikjjlbfdkgmaaDoorWMore
import Derived.Lib.LaidU8
namespace Go.Proofs.YtaikjjlbfdkgmaaDoor
open Go.RowKit Go.Proofs.YtaikjjlbfdkgmaaDoorW.PrintWords Go.Proofs.YtaikjjlbfdkgmaaDoorW.PrintLast Go.Proofs.YtaikjjlbfdkgmaaDoorW.PrintMore

/-- The texts joined by a separator. -/
def joinOf (l : List ByteArray) (s : ByteArray) : ByteArray := ⟨(Lib.join (l.map (·.data.toList)) s.data.toList).toArray⟩
def strings_Join.f (l0 : List ByteArray) (a1 : ByteArray) : Option ByteArray := if l0.length ≤ 140737488355328 ∧ (joinOf l0 a1).size ≤ 140737488355328 then some (joinOf l0 a1) else none
theorem strings_Join.calls (A0 : Option Addr) (c0 : Nat) (l0 : List ByteArray) (a1 : ByteArray) (r : ByteArray) (w : World) (hr0 : Kd.C Kd.string w A0 l0.length l0) (hc0 : l0.length ≤ c0) (h : strings_Join.f l0 a1 = some r) :
    Calls Tryd.prog 116 #[.slice A0 l0.length c0, .string a1] w fun e w' => e = .returned (.string r) ∧ Below w.heap.size w w' := by
  unfold strings_Join.f at h
  split at h
  · rename_i hc
    obtain rfl := Option.some.inj h
    cases l0 with
    | nil =>
      refine (Tryd.strings_Join_none A0 c0 a1 w).mono ?_
      rintro e w' ⟨rfl, rfl⟩
      exact ⟨rfl, Below.refl _ _⟩
    | cons x xs =>
      obtain ⟨hl, hn, hr⟩ := hr0
      obtain ⟨ad, hA, hrr⟩ := hr (by simp)
      subst hA
      have cell : ∀ (j : Nat) y, (x :: xs)[j]? = some y → w.cell? (ad.add j) = some (.string y) := fun j y hj => by
        obtain ⟨cs, hcl, hR, hcells⟩ := hrr j y hj
        have hcs : cs = [Value.string y] := hR
        have := hcells 0 (.string y) (by rw [hcs]; rfl)
        simpa [Kd.string, Kd.scalar] using this
      obtain ⟨bk, o, sp⟩ := ad
      have h0 := cell 0 x rfl
      have hsp : sp = none := by
        have := Go.Proofs.cell_spot (w := w) (b := bk) (o := o) (sp := sp) (v := .string x) (by simpa [Addr.add] using h0)
        exact this
      subst hsp
      have hsz : (Lib.join ((x :: xs).map (·.data.toList)) a1.data.toList).length ≤ 140737488355328 := by
        have := hc.2
        simpa [joinOf, ByteArray.size] using this
      exact (Tryd.strings_Join bk o c0 (x :: xs) a1 w (fun j y hj => by have hc := cell j y hj; by_cases hz : j = 0 <;> simpa [Addr.add, hz] using hc) (World.block_lt_of_cell? w _ h0) hc.1 hc0 hsz).mono fun e w' ⟨he, hb⟩ => ⟨he, hb⟩
  · cases h
end Go.Proofs.YtaikjjlbfdkgmaaDoor
