/- Two scanners along one text: a character's bytes, decoded by the library and by the reference. -/
import Derived.Test.YtgiiholpgpfgkaaGreatDoorPlTk5FnExactTokens
import Derived.Lib.TrimUEq
set_option linter.unusedVariables false
set_option linter.unusedSimpArgs false
namespace Go.Proofs.YtgiiholpgpfgkaaGreatDoor.E
def bt (t : ByteArray) (i : Nat) : Nat := (t.data.toList.getD i 0).toNat
theorem bt_lt (t : ByteArray) (i : Nat) : bt t i < 256 := (t.data.toList.getD i 0).toNat_lt
theorem byte_bt (t : ByteArray) (i : Nat) : byteAt t (i : Int) = (bt t i : Int) := byte_u8 t i
/-! The reference's encoder, as a list. -/
def utfL (c : Nat) : List Int :=
  if c < 128 then [(c : Int)] else if c < 2048 then [192 + (c : Int) / 64, 128 + (c : Int) % 64]
  else if c < 65536 then [224 + (c : Int) / 4096, 128 + (c : Int) / 64 % 64, 128 + (c : Int) % 64]
  else [240 + (c : Int) / 262144, 128 + (c : Int) / 4096 % 64, 128 + (c : Int) / 64 % 64, 128 + (c : Int) % 64]
theorem u8a : ∀ n : Fin 256, IntKind.u8.wrap ((n : Nat) : Int) = ((n : Nat) : Int) := by decide +kernel
theorem wrap8 {z : Int} (h0 : 0 ≤ z) (h : z < 256) : IntKind.u8.wrap z = z := by
  have := u8a ⟨z.toNat, by omega⟩
  simp only [Int.toNat_of_nonneg h0] at this
  exact this
theorem strU8 : ∀ {l : List Int}, (∀ v ∈ l, 0 ≤ v ∧ v < 256) → bytesOf (strOfNums l) = l := by
  intro l h
  unfold bytesOf strOfNums
  simp only [List.map_map]
  conv => rhs; rw [← List.map_id l]
  refine List.map_congr_left fun v hv => ?_
  have h1 := h v hv
  simp only [Function.comp_apply, id_eq]
  first
    | (rw [UInt8.toNat_ofNat', Nat.mod_eq_of_lt (by omega)]; omega)
    | (simp; omega)
theorem tdiv_nat (a b : Nat) : Int.tdiv (a : Int) (b : Int) = ((a / b : Nat) : Int) := rfl
theorem tmod_nat (a b : Nat) : Int.tmod (a : Int) (b : Int) = ((a % b : Nat) : Int) := rfl
theorem utf_range {c : Nat} (h : c ≤ 1114111) : ∀ v ∈ utfL c, 0 ≤ v ∧ v < 256 := by
  intro v hv
  unfold utfL at hv
  split at hv
  · simp only [List.mem_cons, List.mem_nil_iff, or_false] at hv; omega
  · split at hv
    · simp only [List.mem_cons, List.mem_nil_iff, or_false] at hv; omega
    · split at hv
      · simp only [List.mem_cons, List.mem_nil_iff, or_false] at hv; omega
      · simp only [List.mem_cons, List.mem_nil_iff, or_false] at hv; omega
theorem utf8_eq (k : Nat) {c : Nat} (h : c ≤ 1114111) : spec_l01Utf8.f k (c : Int) = some (strOfNums (utfL c)) := by
  have tm : Int.tmod (c : Int) 64 = (c : Int) % 64 := rfl
  have q64 : Int.tdiv (c : Int) 64 = (c : Int) / 64 := rfl
  have q4096 : Int.tdiv (c : Int) 4096 = (c : Int) / 4096 := rfl
  have q262144 : Int.tdiv (c : Int) 262144 = (c : Int) / 262144 := rfl
  have d64 : w64 (Int.tdiv (c : Int) 64) = (c : Int) / 64 := by rw [q64, w64_id (by omega) (by omega)]
  have d4096 : w64 (Int.tdiv (c : Int) 4096) = (c : Int) / 4096 := by rw [q4096, w64_id (by omega) (by omega)]
  have d262144 : w64 (Int.tdiv (c : Int) 262144) = (c : Int) / 262144 := by rw [q262144, w64_id (by omega) (by omega)]
  have m64 : Int.tmod ((c : Int) / 64) 64 = (c : Int) / 64 % 64 := rfl
  have m4096 : Int.tmod ((c : Int) / 4096) 64 = (c : Int) / 4096 % 64 := rfl
  unfold spec_l01Utf8.f utfL
  by_cases h1 : c < 128
  · rw [if_pos (by omega), if_pos h1, wrap8 (by omega) (by omega)]
  · rw [if_neg (by omega), if_neg h1]
    by_cases h2 : c < 2048
    · rw [if_pos (by omega), if_pos h2, tm, d64, w64_id (by omega) (by omega), w64_id (by omega) (by omega), wrap8 (by omega) (by omega), wrap8 (by omega) (by omega)]
    · rw [if_neg (by omega), if_neg h2]
      by_cases h3 : c < 65536
      · rw [if_pos (by omega), if_pos h3, tm, d64, d4096, m64, w64_id (by omega) (by omega), w64_id (by omega) (by omega), w64_id (by omega) (by omega), wrap8 (by omega) (by omega), wrap8 (by omega) (by omega), wrap8 (by omega) (by omega)]
      · rw [if_neg (by omega), if_neg h3, tm, d64, d4096, d262144, m64, m4096, w64_id (by omega) (by omega), w64_id (by omega) (by omega), w64_id (by omega) (by omega), w64_id (by omega) (by omega), wrap8 (by omega) (by omega), wrap8 (by omega) (by omega), wrap8 (by omega) (by omega), wrap8 (by omega) (by omega)]
/-! The reference's candidates. -/
def base (b : Nat) : Nat := if b < 128 then b else if 240 ≤ b then b % 8 else if 224 ≤ b then b % 16 else b % 32
def fold (t : ByteArray) (u : Nat) : Nat → Nat → Nat → Nat
  | 0, _, acc => acc
  | m + 1, i, acc => fold t u m (i + 1) (acc * 64 + bt t (u + i) % 64)
theorem fold_ev (t : ByteArray) (h : t.size ≤ 4000) (u j : Nat) (hj : u + j ≤ t.size) (hj4 : j ≤ 4) : ∀ (m i acc : Nat), i + m = j → acc < 64 ^ (i + 3) → Evr (fun k => spec_l01Rune.l3 k t u j acc i) (fold t u m i acc : Int) := by
  intro m
  induction m with
  | zero =>
    intro i acc hi ha
    exact ev_step _ (fun k => by rw [spec_l01Rune.l3.eq_2, if_neg (by omega)]; rfl) ev_some
  | succ m ih =>
    intro i acc hi ha
    have hb := bt_lt t (u + i)
    have p1 : (64 : Nat) ^ (i + 1 + 3) = 64 ^ (i + 3) * 64 := Nat.pow_succ ..
    have p2 : (64 : Nat) ^ (i + 3) ≤ 64 ^ 7 := Nat.pow_le_pow_right (by decide) (by omega)
    have p3 : (64 : Nat) ^ 7 = 4398046511104 := by decide
    refine ev_step (fun k => spec_l01Rune.l3 k t u j ((acc * 64 + bt t (u + i) % 64 : Nat) : Int) ((i + 1 : Nat) : Int)) (fun k => ?_) (ih (i + 1) (acc * 64 + bt t (u + i) % 64) (by omega) (by omega))
    rw [spec_l01Rune.l3.eq_2, if_pos (by omega), show w64 ((u : Int) + (i : Int)) = ((u + i : Nat) : Int) by rw [w64_id (by omega) (by omega)]; rfl, if_pos (by omega), if_pos (by omega), byte_bt, w64_id (n := (acc : Int) * 64) (by omega) (by omega), w64_id (n := (bt t (u + i) : Int)) (by omega) (by omega), w64_1 (by omega)]
    have e : Int.tmod (bt t (u + i) : Int) 64 = ((bt t (u + i) % 64 : Nat) : Int) := rfl
    rw [e, w64_id (by omega) (by omega)]
    congr 1
theorem base_eq (k : Nat) (t : ByteArray) (u : Nat) : spec_l01Rune.e2 k t u = some ((base (bt t u) : Nat) : Int) := by
  have hb := bt_lt t u
  unfold spec_l01Rune.e2 base
  rw [byte_bt, w64_id (by omega) (by omega)]
  by_cases h1 : bt t u < 128
  · rw [if_pos (by omega), if_pos h1]
  · rw [if_neg (by omega), if_neg h1]
    by_cases h2 : 240 ≤ bt t u
    · rw [if_pos (by omega), if_pos h2]; rfl
    · rw [if_neg (by omega), if_neg h2]
      by_cases h3 : 224 ≤ bt t u
      · rw [if_pos (by omega), if_pos h3]; rfl
      · rw [if_neg (by omega), if_neg h3]; rfl
def cj (t : ByteArray) (u j : Nat) : Nat := fold t u (j - 1) 1 (base (bt t u))
def okj (t : ByteArray) (u j : Nat) : Bool := decide (u + j ≤ t.size) && Nm.chOK (cj t u j) && decide (utfL (cj t u j) = ((bytesOf t).drop u).take j)
theorem chOK_le {n : Nat} (h : Nm.chOK n = true) : n ≤ 1114111 := by
  unfold Nm.chOK at h
  simp only [Bool.and_eq_true, decide_eq_true_eq] at h
  omega
theorem rune_e6 (t : ByteArray) (h : t.size ≤ 4000) (u j : Nat) (h1 : 1 ≤ j) (hj : u + j ≤ t.size) (hj4 : j ≤ 4) : Evr (fun k => spec_l01Rune.e6 k t u j) (if okj t u j = true then .inl ((cj t u j : Int), (j : Int)) else .inr ()) := by
  have hb := bt_lt t u
  have hbase : base (bt t u) < 64 ^ (1 + 3) := by
    have p3 : (64 : Nat) ^ (1 + 3) = 16777216 := by decide
    unfold base
    repeat' split
    all_goals omega
  have hf := fold_ev t h u j hj hj4 (j - 1) 1 (base (bt t u)) (by omega) hbase
  unfold spec_l01Rune.e6
  refine ev_pos (by omega) (ev_pos (by omega) ?_)
  refine ev_bind _ (ev_of fun k => base_eq k t u) ?_
  unfold spec_l01Rune.e4
  refine ev_bind _ hf ?_
  have he : ∀ k, spec_l01Rune.e5 k t u j ((fold t u (j - 1) 1 (base (bt t u)) : Nat) : Int) = some (okj t u j) := fun k => by
    unfold spec_l01Rune.e5 okj
    rw [charOK_nat]
    simp only [Option.bind_some]
    rw [decide_eq_true hj, Bool.true_and]
    show (if Nm.chOK (cj t u j) = true then _ else _) = _
    cases hc : Nm.chOK (cj t u j)
    · rfl
    · rw [if_pos rfl]
      have hle := chOK_le hc
      show ((spec_l01Utf8.f k ((cj t u j : Nat) : Int)).bind _) = _
      rw [utf8_eq k hle]
      simp only [Option.bind_some]
      rw [show w64 ((u : Int) + (j : Int)) = ((u + j : Nat) : Int) by rw [w64_id (by omega) (by omega)]; rfl, if_pos (by omega), if_pos (by omega), Int.toNat_natCast, Int.toNat_natCast, Bool.true_and]
      congr 1
      refine decide_eq_decide.2 ⟨fun hx => ?_, fun hx => ?_⟩
      · have h2 := congrArg bytesOf hx
        rw [strU8 (utf_range hle), bytes_cut, Nat.add_sub_cancel_left] at h2
        exact h2
      · apply bytes_inj
        rw [strU8 (utf_range hle), bytes_cut, Nat.add_sub_cancel_left]
        exact hx
  refine ev_bind _ (ev_of he) ?_
  cases okj t u j
  · exact ev_some
  · exact ev_some
/-- The character at a place, and how many bytes it has. -/
def runeR (t : ByteArray) (u : Nat) : Nat × Nat := if okj t u 1 = true then (cj t u 1, 1) else if okj t u 2 = true then (cj t u 2, 2) else if okj t u 3 = true then (cj t u 3, 3) else if okj t u 4 = true then (cj t u 4, 4) else (0, 0)
theorem okj_short {t : ByteArray} {u j : Nat} (h : ¬ u + j ≤ t.size) : okj t u j = false := by unfold okj; rw [decide_eq_false h]; rfl
theorem srune_ev (t : ByteArray) (h : t.size ≤ 4000) (u : Nat) (hu : u ≤ t.size) : Evr (fun k => spec_l01Rune.f k t u) (((runeR t u).1 : Int), ((runeR t u).2 : Int)) := by
  have he1 : ∀ (k j : Nat), j ≤ 5 → spec_l01Rune.e1 k t u j = some (decide (j ≤ 4 ∧ u + j ≤ t.size)) := fun k j hj => by
    unfold spec_l01Rune.e1
    by_cases h4 : j ≤ 4
    · rw [if_pos (by omega), show w64 ((u : Int) + (j : Int)) = ((u + j : Nat) : Int) by rw [w64_id (by omega) (by omega)]; rfl]
      congr 1
      exact decide_eq_decide.2 (by omega)
    · rw [if_neg (by omega), decide_eq_false (by omega)]
  have stop : ∀ j : Nat, j ≤ 5 → ¬ (j ≤ 4 ∧ u + j ≤ t.size) → Evr (fun k => spec_l01Rune.l7 k t u j) (.inr ()) := fun j hj hn =>
    ev_step _ (fun k => by rw [spec_l01Rune.l7.eq_2, he1 k j hj, decide_eq_false hn]; rfl) ev_some
  have step : ∀ (j : Nat) (r : (Int × Int) ⊕ Unit), 1 ≤ j → j ≤ 4 → u + j ≤ t.size → (okj t u j = true → r = .inl ((cj t u j : Int), (j : Int))) → (okj t u j = false → Evr (fun k => spec_l01Rune.l7 k t u ((j + 1 : Nat) : Int)) r) → Evr (fun k => spec_l01Rune.l7 k t u j) r := fun j r h1 h4 hs ht hf => by
    have h6 := rune_e6 t h u j h1 hs h4
    refine ev_step _ (fun k => by rw [spec_l01Rune.l7.eq_2, he1 k j (by omega), decide_eq_true ⟨h4, hs⟩, Option.bind_some, if_pos rfl, w64_1 (by omega)]) ?_
    cases ho : okj t u j
    · rw [ho] at h6
      exact ev_bind _ h6 (hf ho)
    · rw [ho] at h6
      refine ev_bind _ h6 ?_
      rw [ht ho]
      exact ev_some
  have main : Evr (fun k => spec_l01Rune.l7 k t u ((1 : Nat) : Int)) (if okj t u 1 = true then .inl ((cj t u 1 : Int), ((1 : Nat) : Int)) else if okj t u 2 = true then .inl ((cj t u 2 : Int), ((2 : Nat) : Int)) else if okj t u 3 = true then .inl ((cj t u 3 : Int), ((3 : Nat) : Int)) else if okj t u 4 = true then .inl ((cj t u 4 : Int), ((4 : Nat) : Int)) else .inr ()) := by
    by_cases s1 : u + 1 ≤ t.size
    · refine step 1 _ (by omega) (by omega) s1 (fun h => if_pos h) fun h1 => ?_
      rw [if_neg (by rw [h1]; simp)]
      by_cases s2 : u + 2 ≤ t.size
      · refine step 2 _ (by omega) (by omega) s2 (fun h => if_pos h) fun h2 => ?_
        rw [if_neg (by rw [h2]; simp)]
        by_cases s3 : u + 3 ≤ t.size
        · refine step 3 _ (by omega) (by omega) s3 (fun h => if_pos h) fun h3 => ?_
          rw [if_neg (by rw [h3]; simp)]
          by_cases s4 : u + 4 ≤ t.size
          · refine step 4 _ (by omega) (by omega) s4 (fun h => if_pos h) fun h4 => ?_
            rw [if_neg (by rw [h4]; simp)]
            exact stop 5 (by omega) (by omega)
          · rw [okj_short s4]
            exact stop 4 (by omega) (by omega)
        · rw [okj_short s3, okj_short (show ¬ u + 4 ≤ t.size by omega)]
          exact stop 3 (by omega) (by omega)
      · rw [okj_short s2, okj_short (show ¬ u + 3 ≤ t.size by omega), okj_short (show ¬ u + 4 ≤ t.size by omega)]
        exact stop 2 (by omega) (by omega)
    · rw [okj_short s1, okj_short (show ¬ u + 2 ≤ t.size by omega), okj_short (show ¬ u + 3 ≤ t.size by omega), okj_short (show ¬ u + 4 ≤ t.size by omega)]
      exact stop 1 (by omega) (by omega)
  unfold spec_l01Rune.f spec_l01Rune.e8
  refine ev_bind _ main ?_
  unfold runeR
  cases okj t u 1 <;> cases okj t u 2 <;> cases okj t u 3 <;> cases okj t u 4 <;> exact ev_of fun k => rfl
end Go.Proofs.YtgiiholpgpfgkaaGreatDoor.E
