/- What a word is: the program's and the reference's answer, as one Bool. Plain lemmas over the printed functions. -/
import Derived.Test.YtnjbmpabnceneaaDoorPFnExactFilesOKx
import Derived.Test.YtnjbmpabnceneaaDoorLoops
set_option linter.unusedVariables false
set_option linter.unusedSimpArgs false
namespace Go.Proofs.YtnjbmpabnceneaaDoor.KyFnExactFilesOK
open Go.RowKit Go.Proofs.YtnjbmpabnceneaaDoor Go.Proofs.YtnjbmpabnceneaaDoor.PFnExactFilesOK Go.Proofs.YtnjbmpabnceneaaDoorW.PrintWords Go.Proofs.YtnjbmpabnceneaaDoorW.PrintLast Go.Proofs.YtnjbmpabnceneaaDoorW.Loops

def keysL : List ByteArray := (spec_l01Keys.f).getD []
theorem specKeys_eq : spec_l01Keys.f = some keysL := rfl
set_option maxRecDepth 100000 in
theorem implKeys_eq : impl_keys.f = some keysL := by kernel_rfl
/-- Is it one of these? -/
def oneOf (l : List ByteArray) (a : ByteArray) : Bool := l.any fun x => decide (x.toList = a.toList)
def keyB (a : ByteArray) : Bool := oneOf keysL a
theorem keysL_length : keysL.length ≤ 9223372036854775806 := by decide +kernel

theorem specPlace_ev (l : List ByteArray) (a : ByteArray) (hn : l.length ≤ 9223372036854775806) : Ev (fun k => spec_l01Place.f k l a) (idxOf (fun x => decide (x.toList = a.toList)) l) := by
  unfold spec_l01Place.f
  refine place_loop l ByteArray.empty _ (fun k i => spec_l01Place.l0 k l a i) (fun k i hi => ?_) (fun k => ?_) hn
  · show spec_l01Place.l0 (k + 1) l a (i : Int) = _
    rw [spec_l01Place.l0.eq_2, if_pos (by omega), if_pos (by omega)]
    by_cases hx : (l.getD i ByteArray.empty).toList = a.toList
    · simp only [rdOf, Int.toNat_natCast, hx, if_true, decide_true]
    · simp only [rdOf, Int.toNat_natCast, hx, if_false, decide_false, Bool.false_eq_true]
  · show spec_l01Place.l0 (k + 1) l a (l.length : Int) = _
    rw [spec_l01Place.l0.eq_2, if_neg (by omega)]
theorem implPlace_ev (l : List ByteArray) (a : ByteArray) (hn : l.length ≤ 9223372036854775806) : Ev (fun k => slices_Index_string_string.f k l a) (idxOf (fun x => decide (x.toList = a.toList)) l) := by
  unfold slices_Index_string_string.f
  refine place_loop l ByteArray.empty _ (fun k i => slices_Index_string_string.l0 k l a (l.length : Int) i) (fun k i hi => ?_) (fun k => ?_) hn
  · show slices_Index_string_string.l0 (k + 1) l a (l.length : Int) (i : Int) = _
    rw [slices_Index_string_string.l0.eq_2, if_pos (by omega), if_pos (by omega), if_pos (by omega)]
    by_cases hx : (l.getD i ByteArray.empty).toList = a.toList
    · simp only [rdOf, Int.toNat_natCast, hx, if_true, decide_true]
    · simp only [rdOf, Int.toNat_natCast, hx, if_false, decide_false, Bool.false_eq_true]
      exact if_neg (fun e => hx (Eq.symm e))
  · show slices_Index_string_string.l0 (k + 1) l a (l.length : Int) (l.length : Int) = _
    rw [slices_Index_string_string.l0.eq_2, if_neg (by omega)]
theorem implContains_ev (l : List ByteArray) (a : ByteArray) (hn : l.length ≤ 9223372036854775806) : Ev (fun k => slices_Contains_string_string.f k l a) (oneOf l a) := by
  unfold slices_Contains_string_string.f
  refine ev_bind _ (implPlace_ev l a hn) ?_
  rw [idxOf_ge]
  exact ev_some
theorem specKey_ev (a : ByteArray) : Ev (fun k => spec_IsKey.f k a) (keyB a) := by
  unfold spec_IsKey.f
  rw [specKeys_eq]
  refine ev_bind _ ev_some (ev_bind _ (specPlace_ev keysL a keysL_length) ?_)
  rw [idxOf_ge]
  exact ev_some
theorem implKey_ev (a : ByteArray) : Ev (fun k => impl_IsKey.f k a) (keyB a) := by
  unfold impl_IsKey.f
  rw [implKeys_eq]
  exact ev_bind _ ev_some (ev_bind _ (implContains_ev keysL a keysL_length) ev_some)

end Go.Proofs.YtnjbmpabnceneaaDoor.KyFnExactFilesOK
