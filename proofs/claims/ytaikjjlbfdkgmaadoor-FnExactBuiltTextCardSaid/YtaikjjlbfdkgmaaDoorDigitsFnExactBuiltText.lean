/- The decimal numeral of the reference is strconv.Itoa's. Plain lemmas over the printed functions. -/
import Derived.Test.YtaikjjlbfdkgmaaDoorPFnExactBuiltTextx
import Derived.Test.YtaikjjlbfdkgmaaDoorLoops
import Derived.Lib.ItoaNum
set_option linter.unusedVariables false
set_option linter.unusedSimpArgs false
namespace Go.Proofs.YtaikjjlbfdkgmaaDoor.DgFnExactBuiltText
open Go.RowKit Go.Proofs.YtaikjjlbfdkgmaaDoor Go.Proofs.YtaikjjlbfdkgmaaDoor.PFnExactBuiltText Go.Proofs.YtaikjjlbfdkgmaaDoorW.PrintWords Go.Proofs.YtaikjjlbfdkgmaaDoorW.PrintLast Go.Proofs.YtaikjjlbfdkgmaaDoorW.PrintMore Go.Proofs.YtaikjjlbfdkgmaaDoorW.Loops

theorem bl_append (a b : ByteArray) : (a ++ b).data.toList = a.data.toList ++ b.data.toList := by simp
theorem sz_append (a b : ByteArray) : (a ++ b).size = a.size + b.size := by simp
theorem dec_len (k u : Nat) (h : u < 10 ^ k) (hk : 1 ≤ k) : (Lib.decDigits u).length ≤ k := by
  induction k generalizing u with
  | zero => omega
  | succ k ih =>
    rw [Lib.decDigits]
    split
    · simp
    · rename_i hu
      have hk1 : 1 ≤ k := by
        cases k with
        | zero => simp at h; omega
        | succ k => omega
      have := ih (u / 10) (by rw [Nat.pow_succ] at h; omega) hk1
      simp
      omega
theorem minT : Lib.itoa (-9223372036854775808) = [45, 57, 50, 50, 51, 51, 55, 50, 48, 51, 54, 56, 53, 52, 55, 55, 53, 56, 48, 56] := by simp [Lib.itoa, Lib.decDigits]
theorem tdivN (u : Nat) : Int.tdiv (u : Int) 10 = ((u / 10 : Nat) : Int) := by rw [Int.tdiv_eq_ediv_of_nonneg (by omega)]; omega
theorem tmodN (u : Nat) : Int.tmod (u : Int) 10 = ((u % 10 : Nat) : Int) := by rw [Int.tmod_eq_emod_of_nonneg (by omega)]; omega
theorem chr1 (u : Nat) (h : u < 10) : strOfNums [(wrap64 (48 + (u : Int))) % 256] = ⟨#[UInt8.ofNat (48 + u)]⟩ := by
  have : (wrap64 (48 + (u : Int))) % 256 = ((48 + u : Nat) : Int) := by unfold wrap64; omega
  rw [this]
  rfl
/-- A number's digits. -/
def digitsB (n : Int) : ByteArray := ⟨(Lib.itoa n).toArray⟩
theorem digitsB_size (n : Int) (h0 : -9223372036854775808 ≤ n) (h1 : n ≤ 9223372036854775807) : (digitsB n).size ≤ 20 := by
  show (Lib.itoa n).toArray.size ≤ 20
  have e : (9223372036854775808 : Nat) < 10 ^ 19 := by decide
  unfold Lib.itoa
  split
  · have := dec_len 19 n.natAbs (by omega) (by omega)
    simp
    omega
  · have := dec_len 19 n.toNat (by omega) (by omega)
    simp
    omega
theorem decSize (u : Nat) (h : u ≤ 9223372036854775807) : (⟨(Lib.decDigits u).toArray⟩ : ByteArray).size ≤ 19 := by
  have e : (9223372036854775808 : Nat) < 10 ^ 19 := by decide
  have := dec_len 19 u (by omega) (by omega)
  show (Lib.decDigits u).toArray.size ≤ 19
  simpa using this
theorem dec_ev (u : Nat) : u ≤ 9223372036854775807 → Ev (fun k => spec_l00Digits.f k (u : Int)) ⟨(Lib.decDigits u).toArray⟩ := by
  induction u using Nat.strongRecOn with
  | _ u ih =>
    intro hu
    refine ev_step _ (fun k => spec_l00Digits.f.eq_2 _ k) (ev_if_neg (by omega) (ev_if_neg (by omega) ?_))
    by_cases h : u < 10
    · refine ev_if_pos (by omega) ?_
      rw [chr1 u h, Lib.decDigits, dif_pos h]
      exact ev_some
    · refine ev_if_neg (by omega) ?_
      have e1 : wrap64 (Int.tdiv (u : Int) 10) = ((u / 10 : Nat) : Int) := by rw [tdivN]; unfold wrap64; omega
      rw [e1, tmodN]
      refine ev_bind _ (ih (u / 10) (by omega) (by omega)) ?_
      have hs := decSize (u / 10) (by omega)
      refine ev_bind _ ev_some (ev_if_pos ?_ ?_)
      · rw [chr1 (u % 10) (by omega)]
        have : (⟨#[UInt8.ofNat (48 + u % 10)]⟩ : ByteArray).size = 1 := rfl
        omega
      · rw [chr1 (u % 10) (by omega), Lib.decDigits.eq_1 u, dif_neg h]
        refine ev_eq ev_some ?_
        apply ByteArray.ext
        apply Array.toList_inj.1
        rw [bl_append]
theorem digits_ev (n : Int) (h0 : -9223372036854775808 ≤ n) (h1 : n ≤ 9223372036854775807) : Ev (fun k => spec_l00Digits.f k n) (digitsB n) := by
  unfold digitsB
  by_cases hm : n = -9223372036854775808
  · subst hm
    rw [minT]
    exact ev_step _ (fun k => spec_l00Digits.f.eq_2 _ k) (ev_if_pos rfl ev_some)
  · by_cases hn : n < 0
    · have e1 : wrap64 (-n) = ((n.natAbs : Nat) : Int) := by unfold wrap64; omega
      refine ev_step _ (fun k => spec_l00Digits.f.eq_2 _ k) (ev_if_neg hm (ev_if_pos hn ?_))
      rw [e1]
      have hs := decSize n.natAbs (by omega)
      refine ev_bind _ (dec_ev n.natAbs (by omega)) (ev_if_pos (by omega) ?_)
      refine ev_eq ev_some ?_
      apply ByteArray.ext
      apply Array.toList_inj.1
      rw [bl_append]
      simp [Lib.itoa, hn]
    · have h := dec_ev n.toNat (by omega)
      rw [show ((n.toNat : Nat) : Int) = n by omega] at h
      rw [Lib.itoa, if_neg hn]
      exact h

end Go.Proofs.YtaikjjlbfdkgmaaDoor.DgFnExactBuiltText
