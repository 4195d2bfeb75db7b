/- strconv.ParseInt at base 16 and 64 bits, of at most 15 digits and capital letters: the number, or an error. Plain walks of the library's code (turned from the worked ones at base 10), over any program that lays it. -/
import Derived.Shelf.LaysC
import Derived.Shelf.LaysM
import Derived.Shelf.Strconv.Lower
import Derived.Shelf.Strconv.ToError
import Derived.Lib.Strings
import Derived.Lib.Walk
import Derived.Lib.ConvBytes
import Derived.Lib.AtoiAllMem
import Derived.Lib.AtoiErrMem
import Derived.Lib.Hide
import Derived.Lib.IfaceNeq
import Derived.Lib.ItoaWalk
import Derived.Laws.Strings3
import Derived.Laws.Closers25
import Derived.Laws.Closers25b
import Derived.WalkKit
import Derived.BigCall
import Derived.BigGuard
set_option linter.unusedVariables false
set_option linter.unusedSectionVars false
set_option linter.unusedSimpArgs false
namespace Go.Proofs.YthpacjlaeknidabGreatDoor.Hx
open Go.Shelf Go.RowKit Go.Proofs
variable {P : Program} {ρ : Ren}
/-- The number that digits at base 16 are, behind a number; none where a byte is no digit. -/
def val : Nat → List UInt8 → Option Nat
  | acc, [] => some acc
  | acc, c :: r => if 48 ≤ c.toNat ∧ c.toNat ≤ 57 then val (acc * 16 + (c.toNat - 48)) r else if 65 ≤ c.toNat ∧ c.toNat ≤ 70 then val (acc * 16 + (c.toNat - 55)) r else none
/-- A digit or a capital letter. -/
def big (c : UInt8) : Bool := (decide (48 ≤ c.toNat) && decide (c.toNat ≤ 57)) || (decide (65 ≤ c.toNat) && decide (c.toNat ≤ 90))
def utup (e : TypeId) : Option Nat → Value
  | some n => .tuple #[.int .u64 n, .nilIface]
  | none => .tuple #[.int .u64 0, .iface e (.int .i64 2)]
theorem or32_all : ∀ n : Fin 256, 65 ≤ (n : Nat) → (n : Nat) ≤ 90 → bits BinOp.or IntKind.u8 ((n : Nat) : Int) 32 = (((n : Nat) + 32 : Nat) : Int) := by decide +kernel
theorem or32 (c : UInt8) (h0 : 65 ≤ c.toNat) (h1 : c.toNat ≤ 90) : bits BinOp.or IntKind.u8 (c.toNat : Int) 32 = (c.toNat : Int) + 32 := by
  have := or32_all ⟨c.toNat, c.toNat_lt⟩ h0 h1
  simpa using this
theorem val_lt : ∀ (l : List UInt8) (acc k n : Nat), val acc l = some n → acc < 16 ^ k → n < 16 ^ (k + l.length)
  | [], acc, k, n, h, h1 => by cases h; exact h1
  | c :: r, acc, k, n, h, h1 => by
    have e : k + (c :: r).length = (k + 1) + r.length := by simp; omega
    have p : (16 : Nat) ^ (k + 1) = 16 ^ k * 16 := Nat.pow_succ ..
    rw [e]
    unfold val at h
    split at h
    · exact val_lt r _ (k + 1) n h (by omega)
    · split at h
      · exact val_lt r _ (k + 1) n h (by omega)
      · cases h
set_option maxHeartbeats 32000000 in
set_option maxRecDepth 100000 in
/-- internal/strconv.ParseUint(s, 16, 64), s not empty, at most 15 digits and capital letters. -/
theorem parseUint (L : Lays.n287 P ρ) (t : ByteArray) (hne : t.size ≠ 0) (hmax : t.size ≤ 15) (hbig : ∀ c, c ∈ t.data.toList → big c = true) (w : World) :
    Calls P (ρ.f 287) #[.string t, .int .i64 16, .int .i64 64] w fun e w' => e = .returned (utup (ρ.t 167) (val 0 t.data.toList)) ∧ w' = Lib.bytesWorld w (ρ.t 5) t := by
  have mixed := L.mixed
  have t9 := L.t9; have a9 := L.a9; have z9 := L.z9; have v9 := L.v9
  have t3 := L.t3; have a3 := L.a3; have z3 := L.z3; have v3 := L.v3
  have t53 := L.t53; have a53 := L.a53; have z53 := L.z53; have v53 := L.v53
  have t75 := L.t75; have a75 := L.a75; have z75 := L.z75; have v75 := L.v75
  have t4 := L.t4; have a4 := L.a4; have z4 := L.z4; have v4 := L.v4
  have t167 := L.t167; have a167 := L.a167; have z167 := L.z167; have v167 := L.v167
  have t5 := L.t5; have a5 := L.a5; have z5 := L.z5; have v5 := L.v5
  have t46 := L.t46; have a46 := L.a46; have z46 := L.z46; have v46 := L.v46
  have t37 := L.t37; have a37 := L.a37; have z37 := L.z37; have v37 := L.v37
  have t0 := L.t0; have a0 := L.a0; have z0 := L.z0; have v0 := L.v0
  have e321 : ∀ args w, (callFunc (ρ.f 321) args).run P w = .ok (.enter (ρ.f 321) args) w := enters_of L.f321 (by kernel_rfl) rfl
  have hemp : t.toList.isEmpty = false := by
    rw [← decide_eq_emptyBytes]
    exact decide_eq_false (fun h => hne (by rw [h]; rfl))
  have hcv := Lib.run_convert_string_bytes (P := P) w (ρ.t 9) (ρ.t 37) (ρ.t 5) t (u := .string) L.t9 L.t37 L.t5
  have hB : ∀ j, j < t.size → (Lib.bytesWorld w (ρ.t 5) t).cell? ⟨w.heap.size, j, none⟩ = some (.int .u8 (t.data.toList.getD j 0).toNat) := fun j hj => Lib.bytesWorld_cell w (ρ.t 5) t j hj
  obtain ⟨W1, hW1⟩ : ∃ W1, W1 = Lib.bytesWorld w (ρ.t 5) t := ⟨_, rfl⟩
  rw [← hW1] at hcv hB ⊢
  clear hW1
  obtain ⟨bs, hL⟩ : ∃ bs, bs = t.data.toList := ⟨_, rfl⟩
  have hLn : bs.length = t.size := by rw [hL, Lib.size_eq]
  rw [← hL] at hB hbig ⊢
  clear hL
  have hmv : IntKind.u64.wrap (IntKind.u64.wrap 18446744073709551616 - 1) = 18446744073709551615 := by
    rw [IntKind.wrap_u64, IntKind.wrap_u64]
    decide
  go_enter L.f287, Body.n287_ntmps ρ
  go_wp2
  go_loop [12, 13, 101] (fun vu vn vi => ∃ (k acc : Nat) (a : Int), vu = .bool false ∧ vn = .int .u64 a ∧ vi = .int .i64 k ∧ k ≤ t.size ∧ Hid (a = (acc : Int) ∧ acc < 16 ^ k ∧ val 0 bs = val acc (bs.drop k)))
    (fun _ _ vi => t.size - (intOf vi).toNat)
  case atStart => exact ⟨0, 0, 0, rfl, rfl, rfl, by omega, rfl, by decide, rfl⟩
  case round =>
    obtain ⟨k, acc, a, rfl, rfl, rfl, hk, hh⟩ := hrel
    obtain ⟨ha, hacc, hdec⟩ := hh.out
    clear hh
    have a0 : 0 ≤ a := by omega
    by_cases hkn : k < t.size
    · have hpw : (16 : Nat) ^ k ≤ 16 ^ 14 := Nat.pow_le_pow_right (by decide) (by omega)
      have hp14 : (16 : Nat) ^ 14 = 72057594037927936 := by decide
      have hps : (16 : Nat) ^ (k + 1) = 16 ^ k * 16 := Nat.pow_succ ..
      have hc := hB k hkn
      have hdrop : bs.drop k = bs[k]'(by omega) :: bs.drop (k + 1) := List.drop_eq_getElem_cons (by omega)
      have hget : bs.getD k 0 = bs[k]'(by omega) := by simp [List.getD, List.getElem?_eq_getElem (show k < bs.length by omega)]
      have hbc := hbig _ (List.getElem_mem (show k < bs.length by omega))
      rw [hdrop] at hdec
      rw [hget] at hc
      generalize bs[k]'(by omega) = c at hc hdec hbc
      have hc256 : c.toNat < 256 := c.toNat_lt
      have a1 : a < 72057594037927936 := by omega
      clear hB hdrop hget hbig
      by_cases hdig : 48 ≤ c.toNat ∧ c.toNat ≤ 57
      · obtain ⟨hd0, hd1⟩ := hdig
        have hF : val acc (c :: bs.drop (k + 1)) = val (acc * 16 + (c.toNat - 48)) (bs.drop (k + 1)) := by simp [val, hd0, hd1]
        have HN : Hid (a * 16 + ((c.toNat : Int) - 48) = ((acc * 16 + (c.toNat - 48) : Nat) : Int) ∧ acc * 16 + (c.toNat - 48) < 16 ^ (k + 1) ∧ val 0 bs = val (acc * 16 + (c.toNat - 48)) (bs.drop (k + 1))) := Lib.hid ⟨by omega, by omega, hdec.trans hF⟩
        have iov : a * 16 + ((c.toNat : Int) - 48) < 18446744073709551616 := by omega
        clear hacc hF hdec ha hps hpw hp14 hbc
        go_wp2
        refine ⟨⟨k + 1, acc * 16 + (c.toNat - 48), a * 16 + ((c.toNat : Int) - 48), rfl, (by first | rfl | (congr 1; omega)), (by first | rfl | (congr 1; omega)), by omega, HN⟩, by simp [intOf]; omega⟩
      · have hlet : 65 ≤ c.toNat ∧ c.toNat ≤ 90 := by
          unfold big at hbc
          simp only [Bool.or_eq_true, Bool.and_eq_true, decide_eq_true_eq] at hbc
          rcases hbc with h | h
          · exact absurd h hdig
          · exact h
        have hor := or32 c hlet.1 hlet.2
        by_cases hhex : c.toNat ≤ 70
        · have hF : val acc (c :: bs.drop (k + 1)) = val (acc * 16 + (c.toNat - 55)) (bs.drop (k + 1)) := by rw [val, if_neg hdig, if_pos ⟨hlet.1, hhex⟩]
          have HN : Hid (a * 16 + ((c.toNat : Int) - 55) = ((acc * 16 + (c.toNat - 55) : Nat) : Int) ∧ acc * 16 + (c.toNat - 55) < 16 ^ (k + 1) ∧ val 0 bs = val (acc * 16 + (c.toNat - 55)) (bs.drop (k + 1))) := Lib.hid ⟨by omega, by omega, hdec.trans hF⟩
          have iov : a * 16 + ((c.toNat : Int) - 55) < 18446744073709551616 := by omega
          obtain ⟨h65, h90⟩ := hlet
          clear hacc hF hdec ha hps hpw hp14 hbc
          go_wp2_with (go_at_fn (ρ.f 321); refine (Any.internal_strconv_lower { L with } _ _).mono ?_; rintro e w' ⟨rfl, rfl⟩; try rw [hor])
          all_goals refine ⟨⟨k + 1, acc * 16 + (c.toNat - 55), a * 16 + ((c.toNat : Int) - 55), rfl, (by first | rfl | (congr 1; omega)), (by first | rfl | (congr 1; omega)), by omega, HN⟩, by simp [intOf]; omega⟩
        · have hF : val acc (c :: bs.drop (k + 1)) = none := by rw [val, if_neg hdig, if_neg (fun h => hhex h.2)]
          rw [hF] at hdec
          obtain ⟨h65, h90⟩ := hlet
          clear hacc hF ha hps hpw hp14 hbc
          go_wp2_with (go_at_fn (ρ.f 321); refine (Any.internal_strconv_lower { L with } _ _).mono ?_; rintro e w' ⟨rfl, rfl⟩; try rw [hor])
          all_goals go_ret2
          all_goals first | exact ⟨rfl, rfl⟩ | exact ⟨by rw [hdec]; rfl, rfl⟩
    · have hkk : k = t.size := by omega
      subst hkk
      have hF : val acc (bs.drop t.size) = some acc := by rw [List.drop_eq_nil_of_le (by omega)]; rfl
      rw [hF] at hdec
      subst ha
      clear hacc hF a0
      go_wp2
      go_ret2
      exact ⟨rfl, rfl⟩
/-- What internal/strconv.ParseInt and strconv.ParseInt tell, at base 16. -/
def itup (e : TypeId) : Option Nat → Value
  | some n => .tuple #[.int .i64 n, .nilIface]
  | none => .tuple #[.int .i64 0, .iface e (.int .i64 2)]
set_option maxHeartbeats 32000000 in
set_option maxRecDepth 100000 in
theorem parseIntI (L : LaysC.n247 P ρ) (s : ByteArray) (hne : s.size ≠ 0) (hmax : s.size ≤ 15) (hbig : ∀ c, c ∈ s.data.toList → big c = true) (w : World) :
    Calls P (ρ.f 247) #[.string s, .int .i64 16, .int .i64 64] w fun e w' => e = .returned (itup (ρ.t 167) (val 0 s.data.toList)) ∧ w' = Lib.bytesWorld w (ρ.t 5) s := by
  have mixed := L.mixed
  have t9 := L.t9; have a9 := L.a9; have z9 := L.z9; have v9 := L.v9
  have t3 := L.t3; have a3 := L.a3; have z3 := L.z3; have v3 := L.v3
  have t2 := L.t2; have a2 := L.a2; have z2 := L.z2; have v2 := L.v2
  have t75 := L.t75; have a75 := L.a75; have z75 := L.z75; have v75 := L.v75
  have t4 := L.t4; have a4 := L.a4; have z4 := L.z4; have v4 := L.v4
  have t167 := L.t167; have a167 := L.a167; have z167 := L.z167; have v167 := L.v167
  have t5 := L.t5; have a5 := L.a5; have z5 := L.z5; have v5 := L.v5
  have t53 := L.t53; have a53 := L.a53; have z53 := L.z53; have v53 := L.v53
  have t175 := L.t175; have a175 := L.a175; have z175 := L.z175; have v175 := L.v175
  have t46 := L.t46; have a46 := L.a46; have z46 := L.z46; have v46 := L.v46
  have e287 : ∀ args w, (callFunc (ρ.f 287) args).run P w = .ok (.enter (ρ.f 287) args) w := enters_of L.f287 (by kernel_rfl) rfl
  have hemp : s.toList.isEmpty = false := by
    rw [← decide_eq_emptyBytes]
    exact decide_eq_false (fun h => hne (by rw [h]; rfl))
  have hpos : 0 < s.size := by omega
  obtain ⟨c0, r, hL⟩ : ∃ c0 r, s.data.toList = c0 :: r := by
    cases h : s.data.toList with
    | nil => exact absurd (by rw [Lib.size_eq, h]; rfl) hne
    | cons c0 r => exact ⟨c0, r, rfl⟩
  have hsz : s.size = r.length + 1 := by rw [Lib.size_eq, hL]; rfl
  have hs0 : s[0]'hpos = c0 := by have := Lib.getD_at s 0 hpos; rw [hL] at this; exact this
  have hq2 : ∀ W, (binOp .neq (ρ.t 75) (.iface (ρ.t 167) (.int .i64 2)) (.iface (ρ.t 167) (.int .i64 1))).run P W = .ok (.bool true) W := fun W => Lib.run_neq_iface_int W 2 1 L.t75 L.c167 L.t167
  have hmin : wrap64 (-wrap64 9223372036854775808) = -9223372036854775808 := by
    unfold wrap64
    omega
  have hb0 : big c0 = true := hbig c0 (by rw [hL]; exact List.mem_cons_self ..)
  have hb1 : 48 ≤ c0.toNat := by
    unfold big at hb0
    simp only [Bool.or_eq_true, Bool.and_eq_true, decide_eq_true_eq] at hb0
    omega
  have i43 : ¬ (c0.toNat : Int) = 43 := by omega
  have i45 : ¬ (c0.toNat : Int) = 45 := by omega
  have hU := parseUint { L with } s hne hmax hbig w
  have hlen : s.data.toList.length = s.size := (Lib.size_eq s).symm
  cases hE : val 0 s.data.toList with
  | none =>
    rw [hE] at hU
    have hU : Calls P (ρ.f 287) #[.string s, .int .i64 16, .int .i64 64] w fun e w' => e = .returned (.tuple #[.int .u64 0, .iface (ρ.t 167) (.int .i64 2)]) ∧ w' = Lib.bytesWorld w (ρ.t 5) s := hU
    clear hL hE hbig hlen
    go_enter L.f247, Body.n247_ntmps ρ
    go_wp2_with (go_at_fn (ρ.f 287); refine hU.mono ?_; rintro e w1 ⟨rfl, rfl⟩)
    go_wp2
    go_ret2
    exact ⟨rfl, rfl⟩
  | some u =>
    have hlt := val_lt _ 0 0 u hE (by decide)
    have hpw : (16 : Nat) ^ (0 + s.data.toList.length) ≤ 16 ^ 15 := Nat.pow_le_pow_right (by decide) (by omega)
    have hp15 : (16 : Nat) ^ 15 = 1152921504606846976 := by decide
    rw [hE] at hU
    obtain ⟨a, ha⟩ : ∃ a : Int, a = (u : Int) := ⟨_, rfl⟩
    have hU : Calls P (ρ.f 287) #[.string s, .int .i64 16, .int .i64 64] w fun e w' => e = .returned (.tuple #[.int .u64 a, .nilIface]) ∧ w' = Lib.bytesWorld w (ρ.t 5) s := by rw [ha]; exact hU
    have hres : itup (ρ.t 167) (some u) = .tuple #[.int .i64 a, .nilIface] := by rw [ha]; rfl
    rw [hres]
    have a0 : 0 ≤ a := by omega
    have a1 : a < 9223372036854775808 := by omega
    clear hL hE hbig hlen hlt hpw hp15 ha hres
    go_enter L.f247, Body.n247_ntmps ρ
    go_wp2_with (go_at_fn (ρ.f 287); refine hU.mono ?_; rintro e w1 ⟨rfl, rfl⟩)
    go_wp2
    go_ret2
    exact ⟨rfl, rfl⟩
set_option maxHeartbeats 4000000 in
set_option maxRecDepth 100000 in
/-- strconv.ParseInt(s, 16, 64), at a text that spells a number. -/
theorem parseInt_ok (L : LaysC.n174 P ρ) (s : ByteArray) (hne : s.size ≠ 0) (hmax : s.size ≤ 15) (hbig : ∀ c, c ∈ s.data.toList → big c = true) (n : Nat) (h : val 0 s.data.toList = some n) (w : World) :
    Calls P (ρ.f 174) #[.string s, .int .i64 16, .int .i64 64] w fun e w' => e = .returned (.tuple #[.int .i64 n, .nilIface]) ∧ Below w.heap.size w w' := by
  have mixed := L.mixed
  have t9 := L.t9; have a9 := L.a9; have z9 := L.z9; have v9 := L.v9
  have t3 := L.t3; have a3 := L.a3; have z3 := L.z3; have v3 := L.v3
  have t2 := L.t2; have a2 := L.a2; have z2 := L.z2; have v2 := L.v2
  have t75 := L.t75; have a75 := L.a75; have z75 := L.z75; have v75 := L.v75
  have t85 := L.t85; have a85 := L.a85; have z85 := L.z85; have v85 := L.v85
  have t4 := L.t4; have a4 := L.a4; have z4 := L.z4; have v4 := L.v4
  have e247 : ∀ args w, (callFunc (ρ.f 247) args).run P w = .ok (.enter (ρ.f 247) args) w := enters_of L.f247 (by kernel_rfl) rfl
  have hI := parseIntI { L with } s hne hmax hbig w
  rw [h] at hI
  have hI : Calls P (ρ.f 247) #[.string s, .int .i64 16, .int .i64 64] w fun e w' => e = .returned (.tuple #[.int .i64 n, .nilIface]) ∧ w' = Lib.bytesWorld w (ρ.t 5) s := hI
  clear h
  go_enter L.f174, Body.n174_ntmps ρ
  go_wp2_with (go_at_fn (ρ.f 247); refine hI.mono ?_; rintro e W1 ⟨rfl, hW⟩)
  go_wp2
  go_ret2
  subst hW
  exact ⟨rfl, Lib.bytesWorld_below _ _ _⟩
set_option maxHeartbeats 4000000 in
set_option maxRecDepth 100000 in
/-- strconv.ParseInt(s, 16, 64), at a text that spells none: an error that is not nil. -/
theorem parseInt_no (L : LaysC.n174 P ρ) (s : ByteArray) (hne : s.size ≠ 0) (hmax : s.size ≤ 15) (hbig : ∀ c, c ∈ s.data.toList → big c = true) (h : val 0 s.data.toList = none) (ev : Value) (w : World) (hv : w.cell? ⟨(ρ.g 15), 0, none⟩ = some ev) (hev : ev = .nilIface ∨ ∃ te pe, ev = .iface te pe) :
    Calls P (ρ.f 174) #[.string s, .int .i64 16, .int .i64 64] w fun e w' => ∃ t N, e = .returned (.tuple #[.int .i64 0, .iface t (.pointer (some ⟨N, 0, none⟩))]) ∧ Below w.heap.size w w' := by
  have mixed := L.mixed
  have t9 := L.t9; have a9 := L.a9; have z9 := L.z9; have v9 := L.v9
  have t3 := L.t3; have a3 := L.a3; have z3 := L.z3; have v3 := L.v3
  have t2 := L.t2; have a2 := L.a2; have z2 := L.z2; have v2 := L.v2
  have t75 := L.t75; have a75 := L.a75; have z75 := L.z75; have v75 := L.v75
  have t85 := L.t85; have a85 := L.a85; have z85 := L.z85; have v85 := L.v85
  have t4 := L.t4; have a4 := L.a4; have z4 := L.z4; have v4 := L.v4
  have e247 : ∀ args w, (callFunc (ρ.f 247) args).run P w = .ok (.enter (ρ.f 247) args) w := enters_of L.f247 (by kernel_rfl) rfl
  have e245 : ∀ args w, (callFunc (ρ.f 245) args).run P w = .ok (.enter (ρ.f 245) args) w := enters_of L.f245 (by kernel_rfl) rfl
  have hG : (ρ.g 15) < w.heap.size := Lib.lt_of_cell hv
  have hI := parseIntI { L with } s hne hmax hbig w
  rw [h] at hI
  have hI : Calls P (ρ.f 247) #[.string s, .int .i64 16, .int .i64 64] w fun e w' => e = .returned (.tuple #[.int .i64 0, .iface (ρ.t 167) (.int .i64 2)]) ∧ w' = Lib.bytesWorld w (ρ.t 5) s := hI
  clear h
  go_enter L.f174, Body.n174_ntmps ρ
  go_wp2_with (go_at_fn (ρ.f 247); refine hI.mono ?_)
  rintro e W1 ⟨rfl, hW⟩
  have hb1 : Below w.heap.size w W1 := by subst hW; exact Lib.bytesWorld_below _ _ _
  have hv1 : W1.cell? ⟨(ρ.g 15), 0, none⟩ = some ev := (hb1.cell (show (⟨(ρ.g 15), 0, none⟩ : Addr).block < w.heap.size from hG)).trans hv
  clear hW
  go_wp2_with (go_at_fn (ρ.f 245); refine (Any.strconv_toError_syntax { L with } ⟨#[80, 97, 114, 115, 101, 73, 110, 116]⟩ s 16 64 ev _ (by omega) ?_ hev).mono ?_)
  · exact hv1
  rintro e W2 ⟨N, rfl, h1, h2, h3⟩
  go_wp2
  go_ret2
  exact ⟨_, N, rfl, hb1.trans (h3.mono hb1.size)⟩
end Go.Proofs.YthpacjlaeknidabGreatDoor.Hx
