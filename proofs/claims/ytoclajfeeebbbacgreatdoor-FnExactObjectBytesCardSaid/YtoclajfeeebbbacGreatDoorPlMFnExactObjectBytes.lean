/- A number's bytes, and the sum of bytes, as both write them. -/
import Derived.Test.YtoclajfeeebbbacGreatDoorPlNFnExactObjectBytes
import Derived.Test.YtoclajfeeebbbacGreatDoorPlL
set_option linter.unusedVariables false
set_option linter.unusedSimpArgs false
namespace Go.Proofs.YtoclajfeeebbbacGreatDoor.V
open Go.RowKit Go.Proofs.YtoclajfeeebbbacGreatDoor.E
def u8 (n : Int) : Int := IntKind.u8.wrap n
theorem u8_ok (n : Int) : 0 ≤ u8 n ∧ u8 n < 256 := by unfold u8; rw [IntKind.wrap_u8]; omega
def Oct (l : List Int) : Prop := ∀ v ∈ l, 0 ≤ v ∧ v < 256
theorem Oct.app {a b : List Int} (ha : Oct a) (hb : Oct b) : Oct (a ++ b) := fun v hv => by
  rcases List.mem_append.1 hv with h | h
  · exact ha v h
  · exact hb v h
theorem Oct.flat {α : Type} {f : α → List Int} {l : List α} (h : ∀ x ∈ l, Oct (f x)) : Oct (l.flatMap f) := fun v hv => by
  obtain ⟨x, hx, hv⟩ := List.mem_flatMap.1 hv
  exact h x hx v hv
theorem Oct.byte (n : Int) : Oct [u8 n] := fun v hv => by
  rw [List.mem_singleton] at hv
  rw [hv]
  exact u8_ok n
theorem Oct.of (a : ByteArray) : Oct (bytesOf a) := fun v hv => by
  unfold bytesOf at hv
  obtain ⟨b, _, rfl⟩ := List.mem_map.1 hv
  have := b.toNat_lt
  omega
theorem bytes_str {l : List Int} (h : Oct l) : bytesOf (strOfNums l) = l := by
  unfold bytesOf strOfNums
  simp only [List.map_map]
  conv => rhs; rw [← List.map_id l]
  refine List.map_congr_left fun v hv => ?_
  have := h v hv
  simp only [Function.comp, UInt8.toNat_ofNat', id]
  omega
theorem bytes_app (a b : ByteArray) : bytesOf (a ++ b) = bytesOf a ++ bytesOf b := by
  simp [bytesOf, ByteArray.data_append]
/-! A number's bytes, the high one first. -/
def atB (v : Int) (t : Nat) : Int := u8 (ishr .i64 v ((8 * t : Nat) : Int))
def bigL (v : Int) (m : Nat) : List Int := (List.range m).map fun j => atB v (m - 1 - j)
theorem bigL_len (v : Int) (m : Nat) : (bigL v m).length = m := by simp [bigL]
theorem bigL_ok (v : Int) (m : Nat) : Oct (bigL v m) := fun x hx => by
  unfold bigL at hx
  obtain ⟨j, _, rfl⟩ := List.mem_map.1 hx
  exact u8_ok _
theorem shr0 (v : Int) : ishr .i64 v 0 = v := by
  unfold ishr
  show v.fdiv (2 ^ 0) = v
  rw [Int.pow_zero]
  exact Int.fdiv_one v
theorem big1 (v : Int) : bigL v 1 = [u8 v] := by
  show [atB v 0] = _
  unfold atB
  rw [show ((8 * 0 : Nat) : Int) = 0 from rfl, shr0]
def part (v : Int) (m i : Nat) : List Int := (List.range m).map fun j => if m - 1 - j < i then atB v (m - 1 - j) else 0
theorem part_len (v : Int) (m i : Nat) : (part v m i).length = m := by simp [part]
theorem part0 (v : Int) (m : Nat) : part v m 0 = List.replicate m 0 := by
  apply List.ext_getElem
  · simp [part]
  · intro j h1 h2
    simp [part]
theorem part_set (v : Int) {m i : Nat} (hi : i < m) : (part v m i).set (m - 1 - i) (atB v i) = part v m (i + 1) := by
  apply List.ext_getElem
  · simp [part]
  · intro j h1 h2
    rw [List.getElem_set]
    have hj : j < m := by simpa [part] using h2
    simp only [part, List.getElem_map, List.getElem_range]
    by_cases h : m - 1 - i = j
    · rw [if_pos h, if_pos (by omega)]
      congr 1
      omega
    · rw [if_neg h]
      by_cases h' : m - 1 - j < i
      · rw [if_pos h', if_pos (by omega)]
      · rw [if_neg h', if_neg (by omega)]
theorem part_all (v : Int) (m : Nat) : part v m m = bigL v m := by
  apply List.ext_getElem
  · simp [part, bigL]
  · intro j h1 h2
    have hj : j < m := by simpa [part] using h1
    simp only [part, bigL, List.getElem_map, List.getElem_range]
    rw [if_pos (by omega)]
theorem ibig_loop (v : Int) {m : Nat} (hm : m ≤ 100) : ∀ (n i : Nat), i + n = m → Evr (fun k => impl_big.l1 k v (m : Int) (part v m i) (i : Int)) (bigL v m)
  | 0, i, h => by
    obtain rfl : i = m := by omega
    refine ev_step _ (fun k => rfl) (ev_neg (by simp) ?_)
    rw [part_all]
    exact ev_some
  | n + 1, i, h => by
    have hi : i < m := by omega
    have e1 : w64 (8 * (i : Int)) = ((8 * i : Nat) : Int) := by rw [w64_id (by omega) (by omega)]; omega
    have e2 : w64 (w64 ((m : Int) - 1) - (i : Int)) = ((m - 1 - i : Nat) : Int) := by
      have : w64 ((m : Int) - 1) = (m : Int) - 1 := w64_id (by omega) (by omega)
      rw [this, w64_id (by omega) (by omega)]; omega
    refine ev_step _ (fun k => rfl) (ev_pos (by simp; omega) ?_)
    rw [e1, e2]
    refine ev_pos (by omega) ?_
    rw [at?_nat (l := part v m i) (i := m - 1 - i) (by rw [part_len]; omega)]
    simp only [Option.bind_some, Int.toNat_natCast]
    rw [w64_next (by omega)]
    show Evr (fun k => impl_big.l1 k v (m : Int) ((part v m i).set (m - 1 - i) (atB v i)) ((i + 1 : Nat) : Int)) _
    rw [part_set v hi]
    exact ibig_loop v hm n (i + 1) (by omega)
theorem ibig_ev (v : Int) {m : Nat} (h0 : 1 ≤ m) (hm : m ≤ 100) : Evr (fun k => impl_big.f k v (m : Int)) (strOfNums (bigL v m)) := by
  unfold impl_big.f impl_big.e2
  refine ev_pos (by omega) (ev_pos (by omega) (ev_bind _ ?_ ev_some))
  rw [Int.toNat_natCast, ← part0 v]
  exact ibig_loop v hm m 0 (Nat.zero_add _)
theorem ibig1_ev (v : Int) : Evr (fun k => impl_big.f k v 1) (strOfNums [u8 v]) := by
  have := ibig_ev v (m := 1) (by omega) (by omega)
  rw [big1] at this
  exact this
theorem ibig8_ev (v : Int) : Evr (fun k => impl_big.f k v 8) (strOfNums (bigL v 8)) := ibig_ev v (m := 8) (by omega) (by omega)
theorem seight_loop (v : Int) : ∀ (n : Nat) (s : List Int), s.length + n ≤ 8 → Evr (fun k => spec_l03Eight.l1 k v s ((n : Int) - 1)) (s ++ bigL v n)
  | 0, s, _ => by
    refine ev_step _ (fun k => rfl) (ev_neg (by omega) ?_)
    rw [show bigL v 0 = [] from rfl, List.append_nil]
    exact ev_some
  | n + 1, s, hn => by
    have e0 : ((n + 1 : Nat) : Int) - 1 = (n : Int) := by omega
    rw [e0]
    have e1 : w64 (8 * (n : Int)) = ((8 * n : Nat) : Int) := by rw [w64_id (by omega) (by omega)]; omega
    have e2 : IntKind.u64.wrap ((8 * n : Nat) : Int) = ((8 * n : Nat) : Int) := IntWalk.u64_in _ (by omega)
    have e3 : w64 ((n : Int) - 1) = (n : Int) - 1 := w64_id (by omega) (by omega)
    refine ev_step _ (fun k => rfl) (ev_pos (by omega) ?_)
    rw [e1, e2, e3]
    have hl : bigL v (n + 1) = [atB v n] ++ bigL v n := by
      unfold bigL
      rw [List.range_succ_eq_map, List.map_cons, List.map_map]
      simp only [List.singleton_append]
      congr 1
      refine List.map_congr_left fun j _ => ?_
      simp only [Function.comp]
      congr 1
      omega
    refine ev_pos (by omega) (ev_pos (by simp; omega) ?_)
    rw [hl, ← List.append_assoc]
    exact seight_loop v n _ (by simp; omega)
theorem seight_ev (v : Int) : Evr (fun k => spec_l03Eight.f k v) (bigL v 8) := by
  unfold spec_l03Eight.f spec_l03Eight.e2
  have := seight_loop v 8 [] (by simp)
  rw [List.nil_append] at this
  exact ev_bind _ this ev_some
/-! The sum. -/
end Go.Proofs.YtoclajfeeebbbacGreatDoor.V
