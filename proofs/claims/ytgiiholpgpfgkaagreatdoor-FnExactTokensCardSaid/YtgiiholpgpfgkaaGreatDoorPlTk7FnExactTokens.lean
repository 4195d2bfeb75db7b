/- Two scanners along one text: the library's decoder and the reference's agree. -/
import Derived.Test.YtgiiholpgpfgkaaGreatDoorPlTk6FnExactTokens
import Derived.Lib.MapLaws
set_option linter.unusedVariables false
set_option linter.unusedSimpArgs false
namespace Go.Proofs.YtgiiholpgpfgkaaGreatDoor.E
theorem utf_1 {c : Nat} {x : Int} : utfL c = [x] ↔ c < 128 ∧ (c : Int) = x := by
  unfold utfL
  by_cases h1 : c < 128
  · rw [if_pos h1]; simp [h1]
  · rw [if_neg h1]
    constructor
    · intro h; split at h
      · injection h with _ h; cases h
      · split at h
        · injection h with _ h; cases h
        · injection h with _ h; cases h
    · rintro ⟨h, _⟩; exact absurd h h1
theorem utf_2 {c : Nat} {x y : Int} : utfL c = [x, y] ↔ 128 ≤ c ∧ c < 2048 ∧ 192 + (c : Int) / 64 = x ∧ 128 + (c : Int) % 64 = y := by
  unfold utfL
  by_cases h1 : c < 128
  · rw [if_pos h1]
    exact ⟨fun h => (by injection h with _ h; cases h), fun h => by omega⟩
  · rw [if_neg h1]
    by_cases h2 : c < 2048
    · rw [if_pos h2]
      constructor
      · intro h
        injection h with a1 h
        injection h with a2 _
        exact ⟨by omega, h2, a1, a2⟩
      · rintro ⟨_, _, a1, a2⟩; rw [a1, a2]
    · rw [if_neg h2]
      constructor
      · intro h; split at h
        · injection h with _ h; injection h with _ h; cases h
        · injection h with _ h; injection h with _ h; cases h
      · rintro ⟨_, h, _⟩; exact absurd h h2
theorem utf_3 {c : Nat} {x y z : Int} : utfL c = [x, y, z] ↔ 2048 ≤ c ∧ c < 65536 ∧ 224 + (c : Int) / 4096 = x ∧ 128 + (c : Int) / 64 % 64 = y ∧ 128 + (c : Int) % 64 = z := by
  unfold utfL
  by_cases h1 : c < 128
  · rw [if_pos h1]
    exact ⟨fun h => (by injection h with _ h; cases h), fun h => by omega⟩
  · rw [if_neg h1]
    by_cases h2 : c < 2048
    · rw [if_pos h2]
      exact ⟨fun h => (by injection h with _ h; injection h with _ h; cases h), fun h => by omega⟩
    · rw [if_neg h2]
      by_cases h3 : c < 65536
      · rw [if_pos h3]
        constructor
        · intro h
          injection h with a1 h
          injection h with a2 h
          injection h with a3 _
          exact ⟨by omega, h3, a1, a2, a3⟩
        · rintro ⟨_, _, a1, a2, a3⟩; rw [a1, a2, a3]
      · rw [if_neg h3]
        exact ⟨fun h => (by injection h with _ h; injection h with _ h; injection h with _ h; cases h), fun h => by omega⟩
theorem utf_4 {c : Nat} {x y z v : Int} : utfL c = [x, y, z, v] ↔ 65536 ≤ c ∧ 240 + (c : Int) / 262144 = x ∧ 128 + (c : Int) / 4096 % 64 = y ∧ 128 + (c : Int) / 64 % 64 = z ∧ 128 + (c : Int) % 64 = v := by
  unfold utfL
  by_cases h1 : c < 128
  · rw [if_pos h1]
    exact ⟨fun h => (by injection h with _ h; cases h), fun h => by omega⟩
  · rw [if_neg h1]
    by_cases h2 : c < 2048
    · rw [if_pos h2]
      exact ⟨fun h => (by injection h with _ h; injection h with _ h; cases h), fun h => by omega⟩
    · rw [if_neg h2]
      by_cases h3 : c < 65536
      · rw [if_pos h3]
        exact ⟨fun h => (by injection h with _ h; injection h with _ h; injection h with _ h; cases h), fun h => by omega⟩
      · rw [if_neg h3]
        constructor
        · intro h
          injection h with a1 h
          injection h with a2 h
          injection h with a3 h
          injection h with a4 _
          exact ⟨by omega, a1, a2, a3, a4⟩
        · rintro ⟨_, a1, a2, a3, a4⟩; rw [a1, a2, a3, a4]
theorem chOK_iff {n : Nat} : Nm.chOK n = true ↔ n ≤ 1114111 ∧ (n < 55296 ∨ 57344 ≤ n) := by
  unfold Nm.chOK
  simp only [Bool.and_eq_true, Bool.or_eq_true, Bool.not_eq_true', decide_eq_true_eq, decide_eq_false_iff_not]
  omega
theorem okj_iff {t : ByteArray} {u j : Nat} : okj t u j = true ↔ u + j ≤ t.size ∧ Nm.chOK (cj t u j) = true ∧ utfL (cj t u j) = ((bytesOf t).drop u).take j := by
  unfold okj
  simp only [Bool.and_eq_true, decide_eq_true_eq]
  exact ⟨fun h => ⟨h.1.1, h.1.2, h.2⟩, fun h => ⟨⟨h.1, h.2.1⟩, h.2.2⟩⟩
theorem dropb (t : ByteArray) {u : Nat} (h : u < t.size) : (bytesOf t).drop u = (bt t u : Int) :: (bytesOf t).drop (u + 1) := by rw [drop_cons2 t h, byte_bt]
theorem ok_1 {t : ByteArray} {u : Nat} : okj t u 1 = true ↔ u + 1 ≤ t.size ∧ bt t u < 128 := by
  have hb := bt_lt t u
  rw [okj_iff]
  have e : cj t u 1 = base (bt t u) := rfl
  rw [e]
  constructor
  · rintro ⟨h1, h2, h3⟩
    rw [dropb t (by omega), List.take_succ_cons, List.take_zero, utf_1] at h3
    refine ⟨h1, ?_⟩
    obtain ⟨h3, h4⟩ := h3
    unfold base at h3 h4
    split at h4
    · assumption
    · rename_i hn
      exfalso
      split at h4
      · omega
      · split at h4 <;> omega
  · rintro ⟨h1, h2⟩
    have e : base (bt t u) = bt t u := by unfold base; rw [if_pos h2]
    rw [e]
    refine ⟨h1, chOK_iff.2 ⟨by omega, by omega⟩, ?_⟩
    rw [dropb t (by omega), List.take_succ_cons, List.take_zero, utf_1]
    exact ⟨h2, rfl⟩
def c2 (b0 b1 : Nat) : Nat := b0 % 32 * 64 + b1 % 64
def c3 (b0 b1 b2 : Nat) : Nat := b0 % 16 * 4096 + b1 % 64 * 64 + b2 % 64
def c4 (b0 b1 b2 b3 : Nat) : Nat := b0 % 8 * 262144 + b1 % 64 * 4096 + b2 % 64 * 64 + b3 % 64
theorem ok_2 {t : ByteArray} {u : Nat} (h0 : 128 ≤ bt t u) : (okj t u 2 = true ↔ u + 2 ≤ t.size ∧ bt t u / 32 = 6 ∧ bt t (u + 1) / 64 = 2 ∧ 128 ≤ c2 (bt t u) (bt t (u + 1))) ∧ (bt t u / 32 = 6 → cj t u 2 = c2 (bt t u) (bt t (u + 1))) := by
  have hb0 := bt_lt t u
  have hb1 := bt_lt t (u + 1)
  have e : cj t u 2 = base (bt t u) * 64 + bt t (u + 1) % 64 := rfl
  have hcj : bt t u / 32 = 6 → cj t u 2 = c2 (bt t u) (bt t (u + 1)) := fun h => by
    rw [e]
    unfold base c2
    rw [if_neg (by omega), if_neg (by omega), if_neg (by omega)]
  refine ⟨?_, hcj⟩
  rw [okj_iff]
  constructor
  · rintro ⟨h1, h2, h3⟩
    rw [dropb t (by omega), dropb t (by omega), List.take_succ_cons, List.take_succ_cons, List.take_zero, utf_2] at h3
    have h6 : bt t u / 32 = 6 := by
      rw [e] at h3
      unfold base at h3
      split at h3
      · omega
      · split at h3
        · omega
        · split at h3 <;> omega
    rw [hcj h6] at h3
    unfold c2 at h3 ⊢
    exact ⟨h1, h6, by omega, by omega⟩
  · rintro ⟨h1, h6, h2, h3⟩
    rw [hcj h6]
    refine ⟨h1, ?_, ?_⟩
    · unfold c2 at h3 ⊢
      exact chOK_iff.2 ⟨by omega, by omega⟩
    · rw [dropb t (by omega), dropb t (by omega), List.take_succ_cons, List.take_succ_cons, List.take_zero, utf_2]
      unfold c2 at h3 ⊢
      exact ⟨h3, by omega, by omega, by omega⟩
theorem cont {z : Int} {b : Nat} (h : 128 + z % 64 = (b : Int)) : b / 64 = 2 := by omega
theorem con2 {b : Nat} (h : b / 64 = 2) : 128 + ((b % 64 : Nat) : Int) = (b : Int) := by omega
theorem d3 {x y z : Nat} (hy : y < 64) (hz : z < 64) : ((x * 4096 + y * 64 + z : Nat) : Int) / 4096 = x ∧ ((x * 4096 + y * 64 + z : Nat) : Int) / 64 % 64 = y ∧ ((x * 4096 + y * 64 + z : Nat) : Int) % 64 = z := by
  refine ⟨by omega, ?_, by omega⟩
  have : ((x * 4096 + y * 64 + z : Nat) : Int) / 64 = x * 64 + y := by omega
  rw [this]; omega
theorem d4 {x y z v : Nat} (hy : y < 64) (hz : z < 64) (hv : v < 64) : ((x * 262144 + y * 4096 + z * 64 + v : Nat) : Int) / 262144 = x ∧ ((x * 262144 + y * 4096 + z * 64 + v : Nat) : Int) / 4096 % 64 = y ∧ ((x * 262144 + y * 4096 + z * 64 + v : Nat) : Int) / 64 % 64 = z ∧ ((x * 262144 + y * 4096 + z * 64 + v : Nat) : Int) % 64 = v := by
  refine ⟨by omega, ?_, ?_, by omega⟩
  · have : ((x * 262144 + y * 4096 + z * 64 + v : Nat) : Int) / 4096 = x * 64 + y := by omega
    rw [this]; omega
  · have : ((x * 262144 + y * 4096 + z * 64 + v : Nat) : Int) / 64 = x * 4096 + y * 64 + z := by omega
    rw [this]; omega
theorem ok_3 {t : ByteArray} {u : Nat} (h0 : 128 ≤ bt t u) : (okj t u 3 = true ↔ u + 3 ≤ t.size ∧ bt t u / 16 = 14 ∧ bt t (u + 1) / 64 = 2 ∧ bt t (u + 2) / 64 = 2 ∧ 2048 ≤ c3 (bt t u) (bt t (u + 1)) (bt t (u + 2)) ∧ (c3 (bt t u) (bt t (u + 1)) (bt t (u + 2)) < 55296 ∨ 57344 ≤ c3 (bt t u) (bt t (u + 1)) (bt t (u + 2)))) ∧
    (bt t u / 16 = 14 → cj t u 3 = c3 (bt t u) (bt t (u + 1)) (bt t (u + 2))) := by
  have hb0 := bt_lt t u
  have hb1 := bt_lt t (u + 1)
  have hb2 := bt_lt t (u + 2)
  have e : cj t u 3 = (base (bt t u) * 64 + bt t (u + 1) % 64) * 64 + bt t (u + 2) % 64 := rfl
  have hcj : bt t u / 16 = 14 → cj t u 3 = c3 (bt t u) (bt t (u + 1)) (bt t (u + 2)) := fun h => by
    rw [e]
    unfold base c3
    rw [if_neg (by omega), if_neg (by omega), if_pos (by omega)]
    omega
  refine ⟨?_, hcj⟩
  rw [okj_iff]
  constructor
  · rintro ⟨h1, h2, h3⟩
    rw [dropb t (by omega), dropb t (by omega), dropb t (by omega), List.take_succ_cons, List.take_succ_cons, List.take_succ_cons, List.take_zero, utf_3] at h3
    have h6 : bt t u / 16 = 14 := by
      rw [e] at h3
      unfold base at h3
      split at h3
      · omega
      · split at h3
        · omega
        · split at h3 <;> omega
    have h7 := chOK_iff.1 h2
    rw [hcj h6] at h3 h7
    obtain ⟨l1, l2, l3, l4, l5⟩ := h3
    exact ⟨h1, h6, cont l4, cont l5, l1, h7.2⟩
  · rintro ⟨h1, h6, h2, h3, h4, h5⟩
    rw [hcj h6]
    refine ⟨h1, ?_, ?_⟩
    · unfold c3 at h4 h5 ⊢
      exact chOK_iff.2 ⟨by omega, by omega⟩
    · rw [dropb t (by omega), dropb t (by omega), dropb t (by omega), List.take_succ_cons, List.take_succ_cons, List.take_succ_cons, List.take_zero, utf_3]
      unfold c3 at h4 h5 ⊢
      obtain ⟨l1, l2, l3⟩ := d3 (x := bt t u % 16) (y := bt t (u + 1) % 64) (z := bt t (u + 2) % 64) (by omega) (by omega)
      rw [l1, l2, l3]
      exact ⟨h4, by omega, by omega, con2 h2, con2 h3⟩
theorem ok_4 {t : ByteArray} {u : Nat} (h0 : 128 ≤ bt t u) : (okj t u 4 = true ↔ u + 4 ≤ t.size ∧ bt t u / 8 = 30 ∧ bt t (u + 1) / 64 = 2 ∧ bt t (u + 2) / 64 = 2 ∧ bt t (u + 3) / 64 = 2 ∧ 65536 ≤ c4 (bt t u) (bt t (u + 1)) (bt t (u + 2)) (bt t (u + 3)) ∧ c4 (bt t u) (bt t (u + 1)) (bt t (u + 2)) (bt t (u + 3)) ≤ 1114111) ∧
    (bt t u / 8 = 30 → cj t u 4 = c4 (bt t u) (bt t (u + 1)) (bt t (u + 2)) (bt t (u + 3))) := by
  have hb0 := bt_lt t u
  have hb1 := bt_lt t (u + 1)
  have hb2 := bt_lt t (u + 2)
  have hb3 := bt_lt t (u + 3)
  have e : cj t u 4 = ((base (bt t u) * 64 + bt t (u + 1) % 64) * 64 + bt t (u + 2) % 64) * 64 + bt t (u + 3) % 64 := rfl
  have hcj : bt t u / 8 = 30 → cj t u 4 = c4 (bt t u) (bt t (u + 1)) (bt t (u + 2)) (bt t (u + 3)) := fun h => by
    rw [e]
    unfold base c4
    rw [if_neg (by omega), if_pos (by omega)]
    omega
  refine ⟨?_, hcj⟩
  rw [okj_iff]
  constructor
  · rintro ⟨h1, h2, h3⟩
    rw [dropb t (by omega), dropb t (by omega), dropb t (by omega), dropb t (by omega), List.take_succ_cons, List.take_succ_cons, List.take_succ_cons, List.take_succ_cons, List.take_zero, utf_4] at h3
    have h7 := chOK_iff.1 h2
    have h6 : bt t u / 8 = 30 := by
      rw [e] at h3 h7
      unfold base at h3 h7
      split at h3
      · omega
      · split at h3
        · omega
        · split at h3 <;> omega
    rw [hcj h6] at h3 h7
    obtain ⟨l1, l3, l4, l5, l6⟩ := h3
    exact ⟨h1, h6, cont l4, cont l5, cont l6, l1, h7.1⟩
  · rintro ⟨h1, h6, h2, h3, h4, h5, h8⟩
    rw [hcj h6]
    refine ⟨h1, ?_, ?_⟩
    · unfold c4 at h5 h8 ⊢
      exact chOK_iff.2 ⟨by omega, by omega⟩
    · rw [dropb t (by omega), dropb t (by omega), dropb t (by omega), dropb t (by omega), List.take_succ_cons, List.take_succ_cons, List.take_succ_cons, List.take_succ_cons, List.take_zero, utf_4]
      unfold c4 at h5 h8 ⊢
      obtain ⟨l1, l2, l3, l4⟩ := d4 (x := bt t u % 8) (y := bt t (u + 1) % 64) (z := bt t (u + 2) % 64) (v := bt t (u + 3) % 64) (by omega) (by omega) (by omega)
      rw [l1, l2, l3, l4]
      exact ⟨h5, by omega, con2 h2, con2 h3, con2 h4⟩
theorem decode_bt (t : ByteArray) {u : Nat} (hu : u < t.size) : Lib.decodeGo (t.extract u t.size) = Lib.decodeN (t.size - u) (bt t u) (bt t (u + 1)) (bt t (u + 2)) (bt t (u + 3)) := by
  have hl : (t.extract u t.size).data.toList = t.data.toList.drop u := by
    rw [Lib.extract_data]; exact List.take_of_length_le (by rw [List.length_drop, ← Lib.size_eq]; exact Nat.le_refl _)
  have hs : (t.extract u t.size).size = t.size - u := cut_size t (Nat.le_refl _)
  unfold Lib.decodeGo
  rw [if_neg (by omega), Lib.decode_N, hl, List.length_drop, ← Lib.size_eq, Lib.getD_dropU, Lib.getD_dropU, Lib.getD_dropU, Lib.getD_dropU]
  rfl
/-- Both decoders: no character to both, or the same one. -/
theorem rune_both (t : ByteArray) (u : Nat) (hu : u ≤ t.size) :
    ((runeR t u).2 = 0 ∧ (Lib.decodeGo (t.extract u t.size)).1 = 65533 ∧ (Lib.decodeGo (t.extract u t.size)).2 < 2) ∨
    (1 ≤ (runeR t u).2 ∧ Lib.decodeGo (t.extract u t.size) = runeR t u ∧ ¬ ((runeR t u).1 = 65533 ∧ (runeR t u).2 < 2) ∧ u + (runeR t u).2 ≤ t.size ∧ (runeR t u).1 ≤ 1114111 ∧ (runeR t u).2 ≤ 4) := by
  by_cases hs : u < t.size
  · rw [decode_bt t hs]
    have hb0 := bt_lt t u
    have hb1 := bt_lt t (u + 1)
    have hb2 := bt_lt t (u + 2)
    have hb3 := bt_lt t (u + 3)
    by_cases h1 : okj t u 1 = true
    · have k1 := ok_1.1 h1
      have hR : runeR t u = (bt t u, 1) := by
        unfold runeR
        rw [if_pos h1]
        have e : cj t u 1 = base (bt t u) := rfl
        rw [e]
        unfold base
        rw [if_pos k1.2]
      rw [hR]
      right
      refine ⟨Nat.le_refl _, ?_, by simp only; omega, by simp only; omega, by simp only; omega, by simp only; omega⟩
      unfold Lib.decodeN
      rw [if_pos k1.2]
    · have h128 : 128 ≤ bt t u := by
        refine Decidable.byContradiction fun h => h1 (ok_1.2 ⟨by omega, by omega⟩)
      obtain ⟨o2, v2⟩ := ok_2 (t := t) (u := u) h128
      obtain ⟨o3, v3⟩ := ok_3 (t := t) (u := u) h128
      obtain ⟨o4, v4⟩ := ok_4 (t := t) (u := u) h128
      by_cases h2 : okj t u 2 = true
      · obtain ⟨k0, k1, k2, k3⟩ := o2.1 h2
        have hR : runeR t u = (c2 (bt t u) (bt t (u + 1)), 2) := by unfold runeR; rw [if_neg h1, if_pos h2, v2 k1]
        rw [hR]
        right
        unfold c2 at k3 ⊢
        refine ⟨by simp only; omega, ?_, by simp only; omega, by simp only; omega, by simp only; omega, by simp only; omega⟩
        unfold Lib.decodeN
        rw [if_neg (by omega), if_pos ⟨k1, by omega, k2⟩, if_pos (by omega)]
      · by_cases h3 : okj t u 3 = true
        · obtain ⟨k0, k1, k2, k3, k4, k5⟩ := o3.1 h3
          have hR : runeR t u = (c3 (bt t u) (bt t (u + 1)) (bt t (u + 2)), 3) := by unfold runeR; rw [if_neg h1, if_neg h2, if_pos h3, v3 k1]
          rw [hR]
          right
          unfold c3 at k4 k5 ⊢
          refine ⟨by simp only; omega, ?_, by simp only; omega, by simp only; omega, by simp only; omega, by simp only; omega⟩
          unfold Lib.decodeN
          rw [if_neg (by omega), if_neg (by omega), if_pos ⟨k1, ⟨by omega, k2⟩, by omega, k3⟩, if_pos ⟨by omega, by omega⟩]
        · by_cases h4 : okj t u 4 = true
          · obtain ⟨k0, k1, k2, k3, k4, k5, k6⟩ := o4.1 h4
            have hR : runeR t u = (c4 (bt t u) (bt t (u + 1)) (bt t (u + 2)) (bt t (u + 3)), 4) := by unfold runeR; rw [if_neg h1, if_neg h2, if_neg h3, if_pos h4, v4 k1]
            rw [hR]
            right
            unfold c4 at k5 k6 ⊢
            refine ⟨by simp only; omega, ?_, by simp only; omega, by simp only; omega, by simp only; omega, by simp only; omega⟩
            unfold Lib.decodeN
            rw [if_neg (by omega), if_neg (by omega), if_neg (by omega), if_pos ⟨k1, ⟨by omega, k2⟩, ⟨by omega, k3⟩, by omega, k4⟩, if_pos ⟨by omega, by omega⟩]
          · have hR : runeR t u = (0, 0) := by unfold runeR; rw [if_neg h1, if_neg h2, if_neg h3, if_neg h4]
            rw [hR]
            left
            have hD : Lib.decodeN (t.size - u) (bt t u) (bt t (u + 1)) (bt t (u + 2)) (bt t (u + 3)) = (65533, 1) := by
              rcases Lib.decodeN_shape (t.size - u) (bt t u) (bt t (u + 1)) (bt t (u + 2)) (bt t (u + 3)) with ⟨a1, _⟩ | ⟨a1, a2, a3, a4, _⟩ | ⟨a1, a2, a3, a4, a5, a6, _⟩ | ⟨a1, a2, a3, a4, a5, a6, a7, _⟩ | hd
              · omega
              · exact absurd (o2.2 ⟨by omega, a1, a3, a4⟩) h2
              · exact absurd (o3.2 ⟨by omega, a1, a3, a4, a5, a6⟩) h3
              · exact absurd (o4.2 ⟨by omega, a1, a3, a4, a5, a6, a7⟩) h4
              · exact hd
            rw [hD]
            exact ⟨rfl, rfl, by decide⟩
  · left
    have hR : runeR t u = (0, 0) := by
      unfold runeR
      rw [okj_short (show ¬ u + 1 ≤ t.size by omega), okj_short (show ¬ u + 2 ≤ t.size by omega), okj_short (show ¬ u + 3 ≤ t.size by omega), okj_short (show ¬ u + 4 ≤ t.size by omega)]
      rfl
    rw [hR]
    unfold Lib.decodeGo
    rw [if_pos (by rw [cut_size t (Nat.le_refl _)]; omega)]
    exact ⟨rfl, rfl, by decide⟩
end Go.Proofs.YtgiiholpgpfgkaaGreatDoor.E
