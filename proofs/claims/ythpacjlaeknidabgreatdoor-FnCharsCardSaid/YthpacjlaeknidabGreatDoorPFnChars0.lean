/- Functions of the program and their contracts: printed by ep3.py, a program of this session. -/
import Derived.Test.YthpacjlaeknidabGreatDoorGFnChars
import Derived.Test.YthpacjlaeknidabGreatDoorProg
set_option maxRecDepth 100000
set_option linter.unusedVariables false
set_option linter.unusedSectionVars false
set_option linter.unusedSimpArgs false
namespace Go.Proofs.YthpacjlaeknidabGreatDoor.E
open Go.RowKit
structure S7c69fe where
  f0 : (List Int)
  f1 : Int
  f2 : Int
def eS7c69fe (x : S7c69fe) : List PC := [.sl 1 (List.map (eK .u8) x.f0), cI x.f1, cI x.f2]
structure STok where
  f0 : Int
  f1 : Int
  f2 : ByteArray
  f3 : Int
def eSTok (x : STok) : List PC := [cI x.f0, cI x.f1, cS x.f2, cI x.f3]
structure SNeed where
  f0 : ByteArray
  f1 : Int
def eSNeed (x : SNeed) : List PC := [cS x.f0, cI x.f1]
theorem hmix : Tryz.prog.follows .mixedOrders = true := by kernel_rfl
def impl_numeral.f (k : Nat) (a0 : ByteArray) : Option (STok × Bool) := if a0.size ≤ 4000 ∧ Nm.word a0.data.toList = true then some (⟨(Nm.res a0.data.toList).1, (Nm.res a0.data.toList).2.1, ⟨#[]⟩, 0⟩, (Nm.res a0.data.toList).2.2) else none
theorem impl_numeral.fn (k : Nat) (a0 : ByteArray) (r : STok × Bool) (h : impl_numeral.f k a0 = some r) : Fn Tryz.prog 41 [oS a0] [] (tp [some 4, none] [cI r.1.f0, cI r.1.f1, cS r.1.f2, cI r.1.f3, cB r.2]) [] := by
  unfold impl_numeral.f at h
  split at h
  · rename_i hc
    obtain ⟨h1, h2⟩ := hc
    obtain rfl := Option.some.inj h
    exact Fn.ofSc (P := Tryz.prog) (f := 41) (vs := [.string a0]) (v := .tuple #[.agg #[.int .i64 (Nm.res a0.data.toList).1, .int .i64 (Nm.res a0.data.toList).2.1, .string ⟨#[]⟩, .int .i64 0], .bool (Nm.res a0.data.toList).2.2])
      ⟨_, rfl, rfl, rfl, fun x hx y hy => by simp at hx; rcases hx with rfl | rfl <;> (simp [Value.cells] at hy; first | (subst hy; rfl) | (rcases hy with h | h | h | h <;> subst h <;> rfl))⟩ (fun c x hx => by
        match c, hx with
        | 0, hx => simp only [tp, List.getElem?_cons_zero, Option.some.injEq] at hx; subst hx; exact ⟨_, rfl, rfl, rfl⟩
        | 1, hx => simp only [tp, List.getElem?_cons_succ, List.getElem?_cons_zero, Option.some.injEq] at hx; subst hx; exact ⟨_, rfl, rfl, rfl⟩
        | 2, hx => simp only [tp, List.getElem?_cons_succ, List.getElem?_cons_zero, Option.some.injEq] at hx; subst hx; exact ⟨_, rfl, rfl, rfl⟩
        | 3, hx => simp only [tp, List.getElem?_cons_succ, List.getElem?_cons_zero, Option.some.injEq] at hx; subst hx; exact ⟨_, rfl, rfl, rfl⟩
        | 4, hx => simp only [tp, List.getElem?_cons_succ, List.getElem?_cons_zero, Option.some.injEq] at hx; subst hx; exact ⟨_, rfl, rfl, rfl⟩
        | c + 5, hx => simp [tp] at hx) fun w Sh hlw => Nm.numeral_run a0 h1 h2 w (hlw.1.1) (hlw.2.2.2.1.1.1) (hlw.2.2.2.1.2.1)
  · cases h

/-! spec_l00Source: function 9 -/
def spec_l00Source.f (k : Nat) (a0 : (List Int)) : Option ((List Int) × Int × Int) := some (a0, 0, (Int.tmod (a0.length : Int) 1000))
theorem spec_l00Source.fn {k : Nat} {a0 : (List Int)} {r : ((List Int) × Int × Int)} (H : spec_l00Source.f k a0 = some r) : FnG Tryz.prog 9 [o1 (.sl 1 (List.map (eK .u8) a0))] [] [] (o1 (.ref 0 0)) [] [[.sl 1 (List.map (eK .u8) r.1), cI r.2.1, cI r.2.2]] := by
 refine FnG.body (ts := [2]) Tryz.func9 rfl rfl (by decide) (by decide) (Nat.le_of_ble_eq_true rfl) rfl (Nat.le_of_ble_eq_true rfl) ?_
 refine rn [0] 0 [] [] ?_
 refine rn [2] 1 [] [hL 2 (eK .u8) a0, p1 (show (1000 : Int) ≠ 0 by decide)] ?_
 refine Tri.ret ?_
 obtain rfl := si H;exact endsG (.inr rfl) (by kernel_rfl)
/-! spec_l00Src__byte_2: function 26 -/
def spec_l00Src__byte_2.f (k : Nat) (b0 : S7c69fe) : Option (Int × Int × Int) := if (w64 (b0.f1 + 1)) ≤ (b0.f0.length : Int) then ((at? b0.f0 (w64 ((w64 (b0.f1 + 1)) - 1))).bind fun x2 => some (w64 (x2), w64 (b0.f1 + 1), (Int.tmod (w64 ((w64 ((w64 (b0.f2 * 31)) + (w64 (x2)))) + 7)) 2147483648))) else (if (3000 : Int) < (w64 (b0.f1 + 1)) then (some (0, w64 (b0.f1 + 1), b0.f2)) else (some ((Int.tmod (w64 (Int.tdiv (Int.tmod (w64 ((w64 (b0.f2 * 1103515245)) + 12345)) 2147483648) 65536)) 256), w64 (b0.f1 + 1), (Int.tmod (w64 ((w64 (b0.f2 * 1103515245)) + 12345)) 2147483648))))
theorem spec_l00Src__byte_2.fn {k : Nat} {b0 : S7c69fe} {r : (Int × Int × Int)} (H : spec_l00Src__byte_2.f k b0 = some r) : FnG Tryz.prog 26 [o1 (.ref 0 0)] [] [eS7c69fe b0] (oI r.1) [] [[.sl 1 (List.map (eK .u8) b0.f0), cI r.2.1, cI r.2.2]] := by
 refine FnG.body (ts := [2]) Tryz.func26 rfl rfl (by decide) (by decide) (Nat.le_of_ble_eq_true rfl) rfl (Nat.le_of_ble_eq_true rfl) ?_
 refine rn [0] 1 [] [] ?_
 refine rn [0] 1 [] [] ?_
 refine sq ?_
 refine dn hmix 9 [[], [0], [0, 1], [0, 1, 2], [], [4], [4, 5], [4, 5, 6], [4, 5, 6, 7], [0, 1, 2, 3, 4, 5, 6, 7, 8]] [0, 19] 1 [] [hL 8 (eK .u8) b0.f0] ?_
 refine ci H (fun h1 H => ?_) fun h1 H => ?_
 ·obtain ⟨x2, h3, H⟩ := bs H
  refine dn hmix 21 [[], [], [1], [1, 2], [1, 2, 3], [1, 2, 3, 4], [], [6], [6, 7], [6, 7, 8], [], [10], [10, 11], [10, 11, 12], [10, 11, 12, 13], [6, 7, 8, 9, 10, 11, 12, 13, 14], [6, 7, 8, 9, 10, 11, 12, 13, 14, 15], [6, 7, 8, 9, 10, 11, 12, 13, 14, 15, 16], [1, 2, 3, 4, 5, 6, 7, 8, 9, 10, 11, 12, 13, 14, 15, 16, 17], [1, 2, 3, 4, 5, 6, 7, 8, 9, 10, 11, 12, 13, 14, 15, 16, 17, 18], [1, 2, 3, 4, 5, 6, 7, 8, 9, 10, 11, 12, 13, 14, 15, 16, 17, 18, 19], [0, 1, 2, 3, 4, 5, 6, 7, 8, 9, 10, 11, 12, 13, 14, 15, 16, 17, 18, 19, 20], [0, 1, 2, 3, 4, 5, 6, 7, 8, 9, 10, 11, 12, 13, 14, 15, 16, 17, 18, 19, 20, 21], [0, 1, 2, 3, 4, 5, 6, 7, 8, 9, 10, 11, 12, 13, 14, 15, 16, 17, 18, 19, 20, 21, 22]] [0] 1 [] [hE 15 (eK .u8) h3, p1 (show (2147483648 : Int) ≠ 0 by decide)] ?_
  refine dn hmix 9 [[], [0], [0, 1], [0, 1, 2], [], [4], [4, 5], [4, 5, 6], [4, 5, 6, 7], [0, 1, 2, 3, 4, 5, 6, 7, 8], [0, 1, 2, 3, 4, 5, 6, 7, 8, 9], [0, 1, 2, 3, 4, 5, 6, 7, 8, 9, 10], [0, 1, 2, 3, 4, 5, 6, 7, 8, 9, 10, 11]] [2] 1 [] [hE 9 (eK .u8) h3] ?_
  refine Tri.ret ?_
  obtain rfl := si H;exact endsG (.inr rfl) (by kernel_rfl)
 refine sk ?_
 refine sq ?_
 refine rn [0, 59] 1 [] [] ?_
 refine ci H (fun h4 H => ?_) fun h4 H => ?_
 ·refine rn [2] 1 [] [] ?_
  refine Tri.ret ?_
  obtain rfl := si H;exact endsG (.inr rfl) (by kernel_rfl)
 refine sk ?_
 refine rn [0] 1 [] [p1 (show (2147483648 : Int) ≠ 0 by decide)] ?_
 refine rx [2] 1 [] [p1 (show (65536 : Int) ≠ 0 by decide), p1 (show (256 : Int) ≠ 0 by decide)] ⟨76, [(2, oI (Int.tmod (w64 (Int.tdiv (Int.tmod (w64 ((w64 (b0.f2 * 1103515245)) + 12345)) 2147483648) 65536)) 256))], [[.sl 1 (List.map (eK .u8) b0.f0), cI (w64 (b0.f1 + 1)), cI (Int.tmod (w64 ((w64 (b0.f2 * 1103515245)) + 12345)) 2147483648)]], 1, []⟩ ?_
 refine Tri.ret ?_
 obtain rfl := si H;exact endsG (.inr rfl) (by kernel_rfl)
/-! spec_l00Src__next_2: function 17 -/
def spec_l00Src__next_2.f (k : Nat) (a1 : Int) (b0 : S7c69fe) : Option (Int × Int × Int) := if a1 ≤ 1 then (some (0, b0.f1, b0.f2)) else (if a1 ≤ 256 then ((spec_l00Src__byte_2.f k b0).bind fun r3 => if a1 ≠ 0 then (some ((Int.tmod r3.1 a1), r3.2.1, r3.2.2)) else none) else ((spec_l00Src__byte_2.f k b0).bind fun r6 => (spec_l00Src__byte_2.f k (⟨b0.f0, r6.2.1, r6.2.2⟩ : S7c69fe)).bind fun r8 => (spec_l00Src__byte_2.f k (⟨b0.f0, r8.2.1, r8.2.2⟩ : S7c69fe)).bind fun r10 => if a1 ≠ 0 then (some ((Int.tmod (w64 ((w64 ((w64 (r6.1 * 65536)) + (w64 (r8.1 * 256)))) + r10.1)) a1), r10.2.1, r10.2.2)) else none))
theorem spec_l00Src__next_2.fn {k : Nat} {a1 : Int} {b0 : S7c69fe} {r : (Int × Int × Int)} (H : spec_l00Src__next_2.f k a1 b0 = some r) : FnG Tryz.prog 17 [o1 (.ref 0 0), oI a1] [] [eS7c69fe b0] (oI r.1) [] [[.sl 1 (List.map (eK .u8) b0.f0), cI r.2.1, cI r.2.2]] := by
 refine FnG.body (ts := [4]) Tryz.func17 rfl rfl (by decide) (by decide) (Nat.le_of_ble_eq_true rfl) rfl (Nat.le_of_ble_eq_true rfl) ?_
 refine rn [0, 1] 1 [] [] ?_
 refine sq ?_
 refine rn [0, 1, 9] 1 [] [] ?_
 refine ci H (fun h1 H => ?_) fun h1 H => ?_
 ·refine rn [4] 1 [] [] ?_
  refine Tri.ret ?_
  obtain rfl := si H;exact endsG (.inr rfl) (by kernel_rfl)
 refine sk ?_
 refine sq ?_
 refine rn [0, 1, 11] 1 [] [] ?_
 refine ci H (fun h2 H => ?_) fun h2 H => ?_
 ·obtain ⟨r3, h4, H⟩ := bs H
  obtain ⟨h5, H⟩ := nd H
  refine rn [4] 1 [] [hG 1 [] [0] none (spec_l00Src__byte_2.fn h4), p1 h5] ?_
  refine Tri.ret ?_
  obtain rfl := si H;exact endsG (.inr rfl) (by kernel_rfl)
 refine sk ?_
 obtain ⟨r6, h7, H⟩ := bs H
 refine rn [0, 1, 5] 1 [] [hG 1 [] [0] none (spec_l00Src__byte_2.fn h7)] ?_
 obtain ⟨r8, h9, H⟩ := bs H
 refine rn [0, 1, 5, 6] 1 [] [hG 1 [] [0] none (spec_l00Src__byte_2.fn h9)] ?_
 obtain ⟨r10, h11, H⟩ := bs H
 refine rx [1, 5, 6, 7] 1 [] [hG 1 [] [0] none (spec_l00Src__byte_2.fn h11)] ⟨31, [(1, oI a1), (5, oI r6.1), (6, oI r8.1), (7, oI r10.1)], [[.sl 1 (List.map (eK .u8) b0.f0), cI r10.2.1, cI r10.2.2]], 1, []⟩ ?_
 obtain ⟨h12, H⟩ := nd H
 refine rn [4] 1 [] [p1 h12] ?_
 refine Tri.ret ?_
 obtain rfl := si H;exact endsG (.inr rfl) (by kernel_rfl)
/-! spec_l00Src__char_2: function 10 -/
def spec_l00Src__char_2.f (k : Nat) (b0 : S7c69fe) : Option (Int × Int × Int) := (spec_l00Src__next_2.f k 17 b0).bind fun r1 => (at? ([97, 122, 32, 126, 233, 945, 8364, 128512, 0, 10, 34, 127, 2047, 2048, 65535, 65536, 1114111] : List Int) r1.1).bind fun x3 => some (x3, r1.2.1, r1.2.2)
theorem spec_l00Src__char_2.fn {k : Nat} {b0 : S7c69fe} {r : (Int × Int × Int)} (H : spec_l00Src__char_2.f k b0 = some r) : FnG Tryz.prog 10 [o1 (.ref 0 0)] [] [eS7c69fe b0] (oI r.1) [] [[.sl 1 (List.map (eK .u8) b0.f0), cI r.2.1, cI r.2.2]] := by
 refine FnG.body (ts := [2]) Tryz.func10 rfl rfl (by decide) (by decide) (Nat.le_of_ble_eq_true rfl) rfl (Nat.le_of_ble_eq_true rfl) ?_
 refine rn [0] 1 [] [] ?_
 obtain ⟨r1, h2, H⟩ := bs H
 obtain ⟨x3, h4, H⟩ := bs H
 refine rn [2] 1 [] [hG 2 [] [0] none (spec_l00Src__next_2.fn h2), hE 3 eI h4, hF 4 eI h4] ?_
 refine Tri.ret ?_
 obtain rfl := si H;exact endsG (.inr rfl) (by kernel_rfl)
/-! spec_CharOf: function 4 -/
def spec_CharOf.f (k : Nat) (a0 : (List Int)) : Option Int := (spec_l00Source.f k a0).bind fun r1 => (spec_l00Src__char_2.f k (⟨r1.1, r1.2.1, r1.2.2⟩ : S7c69fe)).bind fun r3 => some r3.1
theorem spec_CharOf.fn {k : Nat} {a0 : (List Int)} {r : Int} (H : spec_CharOf.f k a0 = some r) : Fn Tryz.prog 4 [o1 (.sl 1 (List.map (eK .u8) a0))] [] (oI r) [] := by
 refine Fn.bd [2] Tryz.func4 ?_
 refine rn [0] 0 [] [] ?_
 obtain ⟨r1, h2, H⟩ := bs H
 obtain ⟨r3, h4, H⟩ := bs H
 refine rn [2] 0 [] [hG 1 [] [] none (spec_l00Source.fn h2), hG 2 [] [0] none (spec_l00Src__char_2.fn h4)] ?_
 refine Tri.ret ?_
 obtain rfl := si H;exact eR
/-! impl_within: function 16 -/
def impl_within.e1 (k : Nat) (a0 : Int) (a1 : Int) (a2 : Int) : Option Bool := if a1 ≤ a0 then (some (decide (a0 ≤ a2))) else (some false)
def impl_within.f (k : Nat) (a0 : Int) (a1 : Int) (a2 : Int) : Option Bool := (impl_within.e1 k a0 a1 a2).bind fun y2 => some y2
theorem impl_within.fn {k : Nat} {a0 : Int} {a1 : Int} {a2 : Int} {r : Bool} (H : impl_within.f k a0 a1 a2 = some r) : Fn Tryz.prog 16 [oI a0, oI a1, oI a2] [] (oB r) [] := by
 refine Fn.bd [6] Tryz.func16 ?_
 refine rn [0, 1, 2] 0 [] [] ?_
 refine jo H (fun y2 => ⟨15, [(6, oB y2)], [], 0, []⟩) (fun y2 H => ?_) fun v4 h3 H => ?_
 ·refine Tri.ret ?_
  obtain rfl := si H;exact eR
 rcases ite_some h3 with ⟨h1, h3⟩ | ⟨h1, h3⟩
 ·refine rl [6] 0 [] [hB 2 (decide_eq_true h1)] ?_
  exact pf (decide (a0 ≤ a2)) h3
 refine rl [6] 0 [] [hB 2 (decide_eq_false h1)] ?_
 exact pf false h3
/-! impl_CharOK: function 8 -/
def impl_CharOK.e1 (k : Nat) (a0 : Int) : Option Bool := (impl_within.f k a0 0 1114111).bind fun r1 => if r1 = true then ((impl_within.f k a0 55296 57343).bind fun r4 => some (!r4)) else (some false)
def impl_CharOK.f (k : Nat) (a0 : Int) : Option Bool := (impl_CharOK.e1 k a0).bind fun y6 => some y6
theorem impl_CharOK.fn {k : Nat} {a0 : Int} {r : Bool} (H : impl_CharOK.f k a0 = some r) : Fn Tryz.prog 8 [oI a0] [] (oB r) [] := by
 refine Fn.bd [2] Tryz.func8 ?_
 refine rn [0] 0 [] [] ?_
 refine jo H (fun y6 => ⟨10, [(2, oB y6)], [], 0, []⟩) (fun y6 H => ?_) fun v8 h7 H => ?_
 ·refine Tri.ret ?_
  obtain rfl := si H;exact eR
 obtain ⟨r1, h2, h7⟩ := bs h7
 rcases iteb_some h7 with ⟨h3, h7⟩ | ⟨h3, h7⟩
 ·obtain ⟨r4, h5, h7⟩ := bs h7
  refine rl [2] 0 [] [hC 1 (impl_within.fn h2), hB 1 h3, hC 4 (impl_within.fn h5)] ?_
  exact pf (!r4) h7
 refine rl [2] 0 [] [hC 1 (impl_within.fn h2), hB 1 h3] ?_
 exact pf false h7
/-! impl_isPlain: function 18 -/
def impl_isPlain.e1 (k : Nat) (a0 : Int) : Option Bool := if (32 : Int) ≤ a0 then (if a0 = 127 then (some false) else (some (!(decide (a0 = 34))))) else (some false)
def impl_isPlain.f (k : Nat) (a0 : Int) : Option Bool := (impl_isPlain.e1 k a0).bind fun y3 => some y3
theorem impl_isPlain.fn {k : Nat} {a0 : Int} {r : Bool} (H : impl_isPlain.f k a0 = some r) : Fn Tryz.prog 18 [oI a0] [] (oB r) [] := by
 refine Fn.bd [2] Tryz.func18 ?_
 refine rn [0] 0 [] [] ?_
 refine jo H (fun y3 => ⟨13, [(2, oB y3)], [], 0, []⟩) (fun y3 H => ?_) fun v5 h4 H => ?_
 ·refine Tri.ret ?_
  obtain rfl := si H;exact eR
 rcases ite_some h4 with ⟨h1, h4⟩ | ⟨h1, h4⟩
 ·rcases ite_some h4 with ⟨h2, h4⟩ | ⟨h2, h4⟩
  ·refine rl [2] 0 [] [hB 1 (decide_eq_true h1), hB 4 (nF (decide_eq_true h2))] ?_
   exact pf false h4
  refine rl [2] 0 [] [hB 1 (decide_eq_true h1), hB 4 (nT (decide_eq_false h2))] ?_
  exact pf (!(decide (a0 = 34))) h4
 refine rl [2] 0 [] [hB 1 (decide_eq_false h1)] ?_
 exact pf false h4
/-! impl_charText: function 11 -/
def impl_charText.f (k : Nat) (a0 : Int) : Option ByteArray := (impl_isPlain.f k a0).bind fun r1 => if r1 = true then (if (⟨#[34]⟩ : ByteArray).size + (Utf8.encode (IntKind.i32.wrap (a0))).size ≤ 9223372036854775807 then (if ((⟨#[34]⟩ : ByteArray) ++ (Utf8.encode (IntKind.i32.wrap (a0)))).size + (⟨#[34]⟩ : ByteArray).size ≤ 9223372036854775807 then (some (((⟨#[34]⟩ : ByteArray) ++ (Utf8.encode (IntKind.i32.wrap (a0)))) ++ (⟨#[34]⟩ : ByteArray))) else none) else none) else ((strconv_FormatInt.f k a0 16).bind fun r6 => (strings_ToUpper.f k r6).bind fun r8 => if (⟨#[48]⟩ : ByteArray).size + r8.size ≤ 9223372036854775807 then (if ((⟨#[48]⟩ : ByteArray) ++ r8).size + (⟨#[88]⟩ : ByteArray).size ≤ 9223372036854775807 then (some (((⟨#[48]⟩ : ByteArray) ++ r8) ++ (⟨#[88]⟩ : ByteArray))) else none) else none)
theorem impl_charText.fn {k : Nat} {a0 : Int} {r : ByteArray} (H : impl_charText.f k a0 = some r) : Fn Tryz.prog 11 [oI a0] [] (oS r) [] := by
 refine Fn.bd [2] Tryz.func11 ?_
 refine rn [0] 0 [] [] ?_
 refine sq ?_
 obtain ⟨r1, h2, H⟩ := bs H
 refine rn [0, 4] 0 [] [hC 1 (impl_isPlain.fn h2)] ?_
 refine cb H (fun h3 H => ?_) fun h3 H => ?_
 ·obtain ⟨h4, H⟩ := nd H
  obtain ⟨h5, H⟩ := nd H
  refine rn [2] 0 [] [p1 h4, p1 h5] ?_
  refine Tri.ret ?_
  obtain rfl := si H;exact eR
 refine sk ?_
 obtain ⟨r6, h7, H⟩ := bs H
 obtain ⟨r8, h9, H⟩ := bs H
 obtain ⟨h10, H⟩ := nd H
 obtain ⟨h11, H⟩ := nd H
 refine rn [2] 0 [] [hC 1 (strconv_FormatInt.fn k a0 16 r6 h7), hC 2 (strings_ToUpper.fn k r6 r8 h9), p1 h10, p1 h11] ?_
 refine Tri.ret ?_
 obtain rfl := si H;exact eR
/-! impl_CharText: function 5 -/
def impl_CharText.f (k : Nat) (a0 : Int) : Option (ByteArray × Int) := (impl_CharOK.f k a0).bind fun r1 => if r1 = true then ((impl_charText.f k a0).bind fun r4 => some (r4, 0)) else (some ((⟨#[]⟩ : ByteArray), 11))
theorem impl_CharText.fn {k : Nat} {a0 : Int} {r : (ByteArray × Int)} (H : impl_CharText.f k a0 = some r) : Fn Tryz.prog 5 [oI a0] [] (tp [none, none] [cS r.1, cI r.2]) [] := by
 refine Fn.bd [2, 3] Tryz.func5 ?_
 refine rn [0] 0 [] [] ?_
 refine sq ?_
 obtain ⟨r1, h2, H⟩ := bs H
 refine rn [0, 6] 0 [] [hC 1 (impl_CharOK.fn h2)] ?_
 refine cm H (fun h3 H => ?_) fun h3 H => ?_
 ·refine sk ?_
  obtain ⟨r4, h5, H⟩ := bs H
  refine rn [2, 3] 0 [] [hC 1 (impl_charText.fn h5)] ?_
  refine Tri.ret ?_
  obtain rfl := si H;exact eR
 refine rn [2, 3] 0 [] [] ?_
 refine Tri.ret ?_
 obtain rfl := si H;exact eR
/-! spec_l01In: function 21 -/
def spec_l01In.e1 (k : Nat) (a0 : Int) (a1 : Int) (a2 : Int) : Option Bool := if a1 ≤ a0 then (some (decide (a0 ≤ a2))) else (some false)
def spec_l01In.f (k : Nat) (a0 : Int) (a1 : Int) (a2 : Int) : Option Bool := (spec_l01In.e1 k a0 a1 a2).bind fun y2 => some y2
theorem spec_l01In.fn {k : Nat} {a0 : Int} {a1 : Int} {a2 : Int} {r : Bool} (H : spec_l01In.f k a0 a1 a2 = some r) : Fn Tryz.prog 21 [oI a0, oI a1, oI a2] [] (oB r) [] := by
 refine Fn.bd [6] Tryz.func21 ?_
 refine rn [0, 1, 2] 0 [] [] ?_
 refine jo H (fun y2 => ⟨15, [(6, oB y2)], [], 0, []⟩) (fun y2 H => ?_) fun v4 h3 H => ?_
 ·refine Tri.ret ?_
  obtain rfl := si H;exact eR
 rcases ite_some h3 with ⟨h1, h3⟩ | ⟨h1, h3⟩
 ·refine rl [6] 0 [] [hB 2 (decide_eq_true h1)] ?_
  exact pf (decide (a0 ≤ a2)) h3
 refine rl [6] 0 [] [hB 2 (decide_eq_false h1)] ?_
 exact pf false h3
/-! spec_CharOK: function 12 -/
def spec_CharOK.e1 (k : Nat) (a0 : Int) : Option Bool := (spec_l01In.f k a0 0 55295).bind fun r1 => if r1 = true then (some true) else ((spec_l01In.f k a0 57344 1114111).bind fun r4 => some r4)
def spec_CharOK.f (k : Nat) (a0 : Int) : Option Bool := (spec_CharOK.e1 k a0).bind fun y6 => some y6
theorem spec_CharOK.fn {k : Nat} {a0 : Int} {r : Bool} (H : spec_CharOK.f k a0 = some r) : Fn Tryz.prog 12 [oI a0] [] (oB r) [] := by
 refine Fn.bd [2] Tryz.func12 ?_
 refine rn [0] 0 [] [] ?_
 refine jo H (fun y6 => ⟨9, [(2, oB y6)], [], 0, []⟩) (fun y6 H => ?_) fun v8 h7 H => ?_
 ·refine Tri.ret ?_
  obtain rfl := si H;exact eR
 obtain ⟨r1, h2, h7⟩ := bs h7
 rcases iteb_some h7 with ⟨h3, h7⟩ | ⟨h3, h7⟩
 ·refine rl [2] 0 [] [hC 1 (spec_l01In.fn h2), hB 1 h3] ?_
  exact pf true h7
 obtain ⟨r4, h5, h7⟩ := bs h7
 refine rl [2] 0 [] [hC 1 (spec_l01In.fn h2), hB 1 h3, hC 4 (spec_l01In.fn h5)] ?_
 exact pf r4 h7
/-! spec_l01Hex: function 22 -/
def spec_l01Hex.f : Nat → Int → Option ByteArray
  | 0, _ => none
  | k + 1, a0 => if a0 < 16 then (if (0 : Int) ≤ a0 then (if a0 < ((⟨#[48, 49, 50, 51, 52, 53, 54, 55, 56, 57, 65, 66, 67, 68, 69, 70]⟩ : ByteArray).size : Int) then (some (Utf8.encode (byteAt (⟨#[48, 49, 50, 51, 52, 53, 54, 55, 56, 57, 65, 66, 67, 68, 69, 70]⟩ : ByteArray) a0))) else none) else none) else (((spec_l01Hex.f k) (w64 (Int.tdiv a0 16))).bind fun r4 => if (0 : Int) ≤ (Int.tmod a0 16) then (if (Int.tmod a0 16) < ((⟨#[48, 49, 50, 51, 52, 53, 54, 55, 56, 57, 65, 66, 67, 68, 69, 70]⟩ : ByteArray).size : Int) then (if r4.size + (Utf8.encode (byteAt (⟨#[48, 49, 50, 51, 52, 53, 54, 55, 56, 57, 65, 66, 67, 68, 69, 70]⟩ : ByteArray) (Int.tmod a0 16))).size ≤ 9223372036854775807 then (some (r4 ++ (Utf8.encode (byteAt (⟨#[48, 49, 50, 51, 52, 53, 54, 55, 56, 57, 65, 66, 67, 68, 69, 70]⟩ : ByteArray) (Int.tmod a0 16))))) else none) else none) else none)
theorem spec_l01Hex.fn {k : Nat} : ∀ {a0 : Int} {r : ByteArray} (H : spec_l01Hex.f k a0 = some r), Fn Tryz.prog 22 [oI a0] [] (oS r) [] := by
 induction k with
 | zero => intro a0 r H; exact absurd H (by simp [spec_l01Hex.f])
 | succ k ih_spec_l01Hex =>
 intro a0 r H
 rw [spec_l01Hex.f.eq_2] at H
 generalize spec_l01Hex.f k = rec_spec_l01Hex at H ih_spec_l01Hex
 refine Fn.bd [2] Tryz.func22 ?_
 refine rn [0] 0 [] [] ?_
 refine sq ?_
 refine rn [0, 4] 0 [] [] ?_
 refine ci H (fun h1 H => ?_) fun h1 H => ?_
 ·obtain ⟨h2, H⟩ := nd H
  obtain ⟨h3, H⟩ := nd H
  refine rn [2] 0 [] [p2 h2 h3] ?_
  refine Tri.ret ?_
  obtain rfl := si H;exact eR
 refine sk ?_
 obtain ⟨r4, h5, H⟩ := bs H
 obtain ⟨h6, H⟩ := nd H
 obtain ⟨h7, H⟩ := nd H
 obtain ⟨h8, H⟩ := nd H
 refine dn hmix 7 [[], [0], [0, 1], [], [3], [3, 4], [3, 4, 5], [0, 1, 2, 3, 4, 5, 6], [0, 1, 2, 3, 4, 5, 6, 7]] [2] 0 [] [p1 (show (16 : Int) ≠ 0 by decide), hC 2 (ih_spec_l01Hex h5), p1 (show (16 : Int) ≠ 0 by decide), p2 h6 h7, p1 h8] ?_
 refine Tri.ret ?_
 obtain rfl := si H;exact eR
/-! spec_l01Utf8: function 23 -/
def spec_l01Utf8.f (k : Nat) (a0 : Int) : Option ByteArray := if a0 < 128 then (some (strOfNums ([IntKind.u8.wrap (a0)] : List Int))) else (if a0 < 2048 then (some (strOfNums ([IntKind.u8.wrap (w64 (192 + (w64 (Int.tdiv a0 64)))), IntKind.u8.wrap (w64 (128 + (Int.tmod a0 64)))] : List Int))) else (if a0 < 65536 then (some (strOfNums ([IntKind.u8.wrap (w64 (224 + (w64 (Int.tdiv a0 4096)))), IntKind.u8.wrap (w64 (128 + (Int.tmod (w64 (Int.tdiv a0 64)) 64))), IntKind.u8.wrap (w64 (128 + (Int.tmod a0 64)))] : List Int))) else (some (strOfNums ([IntKind.u8.wrap (w64 (240 + (w64 (Int.tdiv a0 262144)))), IntKind.u8.wrap (w64 (128 + (Int.tmod (w64 (Int.tdiv a0 4096)) 64))), IntKind.u8.wrap (w64 (128 + (Int.tmod (w64 (Int.tdiv a0 64)) 64))), IntKind.u8.wrap (w64 (128 + (Int.tmod a0 64)))] : List Int)))))
theorem spec_l01Utf8.fn {k : Nat} {a0 : Int} {r : ByteArray} (H : spec_l01Utf8.f k a0 = some r) : Fn Tryz.prog 23 [oI a0] [] (oS r) [] := by
 refine Fn.bd [2] Tryz.func23 ?_
 refine rn [0] 0 [] [] ?_
 refine sq ?_
 refine bl ?_
 refine rn [0, 3] 0 [] [] ?_
 refine ci H (fun h1 H => ?_) fun h1 H => ?_
 ·refine rn [2] 0 [] [q1 3 (.nums ([IntKind.u8.wrap (a0)] : List Int)) (rfl : List.map (eK .u8) ([IntKind.u8.wrap (a0)] : List Int) = List.map (fun n => [PC.sc (.int .u8 n)]) ([IntKind.u8.wrap (a0)] : List Int))] ?_
  refine Tri.ret ?_
  obtain rfl := si H;exact eR
 refine rn [0, 10] 0 [] [] ?_
 refine ci H (fun h2 H => ?_) fun h2 H => ?_
 ·refine rn [2] 0 [] [p1 (show (64 : Int) ≠ 0 by decide), p1 (show (64 : Int) ≠ 0 by decide), q1 9 (.nums ([IntKind.u8.wrap (w64 (192 + (w64 (Int.tdiv a0 64)))), IntKind.u8.wrap (w64 (128 + (Int.tmod a0 64)))] : List Int)) (rfl : List.map (eK .u8) ([IntKind.u8.wrap (w64 (192 + (w64 (Int.tdiv a0 64)))), IntKind.u8.wrap (w64 (128 + (Int.tmod a0 64)))] : List Int) = List.map (fun n => [PC.sc (.int .u8 n)]) ([IntKind.u8.wrap (w64 (192 + (w64 (Int.tdiv a0 64)))), IntKind.u8.wrap (w64 (128 + (Int.tmod a0 64)))] : List Int))] ?_
  refine Tri.ret ?_
  obtain rfl := si H;exact eR
 refine rn [0, 23] 0 [] [] ?_
 refine ci H (fun h3 H => ?_) fun h3 H => ?_
 ·refine rn [2] 0 [] [p1 (show (4096 : Int) ≠ 0 by decide), p1 (show (64 : Int) ≠ 0 by decide), p1 (show (64 : Int) ≠ 0 by decide), p1 (show (64 : Int) ≠ 0 by decide), q1 14 (.nums ([IntKind.u8.wrap (w64 (224 + (w64 (Int.tdiv a0 4096)))), IntKind.u8.wrap (w64 (128 + (Int.tmod (w64 (Int.tdiv a0 64)) 64))), IntKind.u8.wrap (w64 (128 + (Int.tmod a0 64)))] : List Int)) (rfl : List.map (eK .u8) ([IntKind.u8.wrap (w64 (224 + (w64 (Int.tdiv a0 4096)))), IntKind.u8.wrap (w64 (128 + (Int.tmod (w64 (Int.tdiv a0 64)) 64))), IntKind.u8.wrap (w64 (128 + (Int.tmod a0 64)))] : List Int) = List.map (fun n => [PC.sc (.int .u8 n)]) ([IntKind.u8.wrap (w64 (224 + (w64 (Int.tdiv a0 4096)))), IntKind.u8.wrap (w64 (128 + (Int.tmod (w64 (Int.tdiv a0 64)) 64))), IntKind.u8.wrap (w64 (128 + (Int.tmod a0 64)))] : List Int))] ?_
  refine Tri.ret ?_
  obtain rfl := si H;exact eR
 refine sk ?_
 refine rn [2] 0 [] [p1 (show (262144 : Int) ≠ 0 by decide), p1 (show (4096 : Int) ≠ 0 by decide), p1 (show (64 : Int) ≠ 0 by decide), p1 (show (64 : Int) ≠ 0 by decide), p1 (show (64 : Int) ≠ 0 by decide), p1 (show (64 : Int) ≠ 0 by decide), q1 19 (.nums ([IntKind.u8.wrap (w64 (240 + (w64 (Int.tdiv a0 262144)))), IntKind.u8.wrap (w64 (128 + (Int.tmod (w64 (Int.tdiv a0 4096)) 64))), IntKind.u8.wrap (w64 (128 + (Int.tmod (w64 (Int.tdiv a0 64)) 64))), IntKind.u8.wrap (w64 (128 + (Int.tmod a0 64)))] : List Int)) (rfl : List.map (eK .u8) ([IntKind.u8.wrap (w64 (240 + (w64 (Int.tdiv a0 262144)))), IntKind.u8.wrap (w64 (128 + (Int.tmod (w64 (Int.tdiv a0 4096)) 64))), IntKind.u8.wrap (w64 (128 + (Int.tmod (w64 (Int.tdiv a0 64)) 64))), IntKind.u8.wrap (w64 (128 + (Int.tmod a0 64)))] : List Int) = List.map (fun n => [PC.sc (.int .u8 n)]) ([IntKind.u8.wrap (w64 (240 + (w64 (Int.tdiv a0 262144)))), IntKind.u8.wrap (w64 (128 + (Int.tmod (w64 (Int.tdiv a0 4096)) 64))), IntKind.u8.wrap (w64 (128 + (Int.tmod (w64 (Int.tdiv a0 64)) 64))), IntKind.u8.wrap (w64 (128 + (Int.tmod a0 64)))] : List Int))] ?_
 refine Tri.ret ?_
 obtain rfl := si H;exact eR
/-! spec_l01Char: function 13 -/
def spec_l01Char.e1 (k : Nat) (a0 : Int) : Option Bool := if a0 < 32 then (some true) else (if a0 = 34 then (some true) else (some (decide (a0 = 127))))
def spec_l01Char.f (k : Nat) (a0 : Int) : Option ByteArray := (spec_l01Char.e1 k a0).bind fun y3 => if y3 = true then ((spec_l01Hex.f k a0).bind fun r7 => if (⟨#[48]⟩ : ByteArray).size + r7.size ≤ 9223372036854775807 then (if ((⟨#[48]⟩ : ByteArray) ++ r7).size + (⟨#[88]⟩ : ByteArray).size ≤ 9223372036854775807 then (some (((⟨#[48]⟩ : ByteArray) ++ r7) ++ (⟨#[88]⟩ : ByteArray))) else none) else none) else ((spec_l01Utf8.f k a0).bind fun r11 => if (⟨#[34]⟩ : ByteArray).size + r11.size ≤ 9223372036854775807 then (if ((⟨#[34]⟩ : ByteArray) ++ r11).size + (⟨#[34]⟩ : ByteArray).size ≤ 9223372036854775807 then (some (((⟨#[34]⟩ : ByteArray) ++ r11) ++ (⟨#[34]⟩ : ByteArray))) else none) else none)
theorem spec_l01Char.fn {k : Nat} {a0 : Int} {r : ByteArray} (H : spec_l01Char.f k a0 = some r) : Fn Tryz.prog 13 [oI a0] [] (oS r) [] := by
 refine Fn.bd [2] Tryz.func13 ?_
 refine rn [0] 0 [] [] ?_
 refine sq ?_
 refine jo H (fun y3 => ⟨21, [(0, oI a0), (12, oB y3)], [], 0, []⟩) (fun y3 H => ?_) fun v5 h4 H => ?_
 ·refine cb H (fun h6 H => ?_) fun h6 H => ?_
  ·obtain ⟨r7, h8, H⟩ := bs H
   obtain ⟨h9, H⟩ := nd H
   obtain ⟨h10, H⟩ := nd H
   refine rn [2] 0 [] [hC 1 (spec_l01Hex.fn h8), p1 h9, p1 h10] ?_
   refine Tri.ret ?_
   obtain rfl := si H;exact eR
  refine sk ?_
  obtain ⟨r11, h12, H⟩ := bs H
  obtain ⟨h13, H⟩ := nd H
  obtain ⟨h14, H⟩ := nd H
  refine rn [2] 0 [] [hC 1 (spec_l01Utf8.fn h12), p1 h13, p1 h14] ?_
  refine Tri.ret ?_
  obtain rfl := si H;exact eR
 rcases ite_some h4 with ⟨h1, h4⟩ | ⟨h1, h4⟩
 ·refine rl [0, 12] 0 [] [hB 1 (decide_eq_true h1)] ?_
  exact pf true h4
 rcases ite_some h4 with ⟨h2, h4⟩ | ⟨h2, h4⟩
 ·refine rl [0, 12] 0 [] [hB 1 (decide_eq_false h1), hB 4 (decide_eq_true h2)] ?_
  exact pf true h4
 refine rl [0, 12] 0 [] [hB 1 (decide_eq_false h1), hB 4 (decide_eq_false h2)] ?_
 exact pf (decide (a0 = 127)) h4
/-! spec_CharText: function 6 -/
def spec_CharText.f (k : Nat) (a0 : Int) : Option (ByteArray × Int) := (spec_CharOK.f k a0).bind fun r1 => if r1 = true then ((spec_l01Char.f k a0).bind fun r4 => some (r4, 0)) else (some ((⟨#[]⟩ : ByteArray), 11))
theorem spec_CharText.fn {k : Nat} {a0 : Int} {r : (ByteArray × Int)} (H : spec_CharText.f k a0 = some r) : Fn Tryz.prog 6 [oI a0] [] (tp [none, none] [cS r.1, cI r.2]) [] := by
 refine Fn.bd [2, 3] Tryz.func6 ?_
 refine rn [0] 0 [] [] ?_
 refine sq ?_
 obtain ⟨r1, h2, H⟩ := bs H
 refine rn [0, 6] 0 [] [hC 1 (spec_CharOK.fn h2)] ?_
 refine cm H (fun h3 H => ?_) fun h3 H => ?_
 ·refine sk ?_
  obtain ⟨r4, h5, H⟩ := bs H
  refine rn [2, 3] 0 [] [hC 1 (spec_l01Char.fn h5)] ?_
  refine Tri.ret ?_
  obtain rfl := si H;exact eR
 refine rn [2, 3] 0 [] [] ?_
 refine Tri.ret ?_
 obtain rfl := si H;exact eR
/-! impl_isShort_string: function 14 -/
def impl_isShort_string.f (k : Nat) (a0 : ByteArray) : Option Bool := some (decide ((a0.size : Int) ≤ 65536))
theorem impl_isShort_string.fn {k : Nat} {a0 : ByteArray} {r : Bool} (H : impl_isShort_string.f k a0 = some r) : Fn Tryz.prog 14 [oS a0] [] (oB r) [] := by
 refine Fn.bd [2] Tryz.func14 ?_
 refine rn [0] 0 [] [] ?_
 refine rn [2] 0 [] [] ?_
 refine Tri.ret ?_
 obtain rfl := si H;exact eR
/-! impl_remark: function 36 -/
def impl_remark.e1 (k : Nat) (a0 : ByteArray) (z11 : Int) (z12 : Int) : Option (Int ⊕ (Int × Int)) := if (0 : Int) ≤ z12 then (if z12 ≤ w64 (z12 + 2) then (if (w64 (z12 + 2)) ≤ (a0.size : Int) then (if (a0.extract (Int.toNat z12) (Int.toNat (w64 (z12 + 2)))) = (⟨#[40, 42]⟩ : ByteArray) then (some (.inr (w64 (z11 + 1), w64 (z12 + 1)))) else (if (a0.extract (Int.toNat z12) (Int.toNat (w64 (z12 + 2)))) = (⟨#[42, 41]⟩ : ByteArray) then (if (w64 (z11 - 1)) = 0 then (some (.inl (w64 ((w64 (z12 + 1)) + 1)))) else (some (.inr (w64 (z11 - 1), w64 (z12 + 1))))) else (some (.inr (z11, z12))))) else none) else none) else none
def impl_remark.l2 : Nat → ByteArray → Int → Int → Option (Int ⊕ Unit)
  | 0, _, _, _ => none
  | k + 1, a0, z11, z12 => if (w64 (z12 + 1)) < (a0.size : Int) then ((impl_remark.e1 k a0 z11 z12).bind fun v => match v with | .inl r => some (.inl r) | .inr (y20, y21) => impl_remark.l2 k a0 y20 (w64 (y21 + 1))) else (some (.inr ()))
def impl_remark.e3 (k : Nat) (a0 : ByteArray) : Option (Int ⊕ Unit) := impl_remark.l2 k a0 0 0
def impl_remark.f (k : Nat) (a0 : ByteArray) : Option Int := (impl_remark.e3 k a0).bind fun v => match v with | .inl r => some r | .inr _ => some 0
theorem impl_remark.fn {k : Nat} {a0 : ByteArray} {r : Int} (H : impl_remark.f k a0 = some r) : Fn Tryz.prog 36 [oS a0] [] (oI r) [] := by
 refine Fn.bd [2] Tryz.func36 ?_
 refine rn [0] 0 [] [] ?_
 refine rn [0, 3] 0 [] [] ?_
 refine jr H (fun _ => ⟨33, [], [], 0, []⟩) (fun _ H => ?_) fun v26 h25 H => ?_
 ·refine rn [2] 0 [] [] ?_
  refine Tri.ret ?_
  obtain rfl := si H;exact eR
 refine rn [0, 3, 4] 0 [] [] ?_
 refine bl ?_
 refine lo (Int × Int) k (fun k x => impl_remark.l2 k a0 x.1 x.2) (fun x => ⟨33, [(0, oS a0), (3, oI x.1), (4, oI x.2)], [], 0, []⟩) (0, 0) h25 fun k x h25 IH24 => ?_
 obtain ⟨z11, z12⟩ := x
 rw [impl_remark.l2.eq_2] at h25
 refine sq ?_
 refine rn [0, 3, 4, 9] 0 [] [] ?_
 refine ci h25 (fun h13 h25 => ?_) fun h13 h25 => ?_
 ·refine sk ?_
  refine jr h25 (fun w => ⟨33, [(0, oS a0), (3, oI w.1), (4, oI w.2)], [], 0, []⟩) (fun w h25 => ?_) fun v23 h22 h25 => ?_
  ·obtain ⟨y20, y21⟩ := w
   refine rl [0, 3, 4] 0 [] [] ?_
   exact lb IH24 (y20, w64 (y21 + 1)) h25
  refine bl ?_
  obtain ⟨h14, h22⟩ := nd h22
  obtain ⟨h15, h22⟩ := nd h22
  obtain ⟨h16, h22⟩ := nd h22
  refine rn [0, 3, 4, 16] 0 [] [p3 h14 h15 h16] ?_
  refine bl ?_
  refine rn [0, 3, 4, 16, 17] 0 [] [] ?_
  refine ci h22 (fun h17 h22 => ?_) fun h17 h22 => ?_
  ·refine rn [0, 3, 4] 0 [] [] ?_
   refine rl [0, 3, 4] 0 [] [] ?_
   exact pe (w64 (z11 + 1), w64 (z12 + 1)) h22
  refine rn [0, 3, 4, 23] 0 [] [] ?_
  refine ci h22 (fun h18 h22 => ?_) fun h18 h22 => ?_
  ·refine rn [0, 3, 4] 0 [] [] ?_
   refine rx [0, 3, 4] 0 [] [] ⟨33, [(0, oS a0), (3, oI (w64 (z11 - 1))), (4, oI (w64 (z12 + 1)))], [], 0, []⟩ ?_
   refine rn [0, 3, 4, 30] 0 [] [] ?_
   refine ci h22 (fun h19 h22 => ?_) fun h19 h22 => ?_
   ·refine rn [2] 0 [] [] ?_
    refine Tri.ret ?_
    obtain rfl := si h22;obtain rfl := si h25;obtain rfl := si H;exact eR
   refine fx [0, 3, 4] 0 [] ?_
   refine sk ?_
   exact pe (w64 (z11 - 1), w64 (z12 + 1)) h22
  refine fx [0, 3, 4] 0 [] ?_
  refine sk ?_
  exact pe (z11, z12) h22
 refine fx [] 0 [] ?_
 refine xi ?_
 exact pe () h25
/-! impl_scanner__skip_2: function 24 -/
def impl_scanner__skip_2.l1 : Nat → SNeed → Int → Option ((Bool × Int) ⊕ Int)
  | 0, _, _ => none
  | k + 1, b0, z13 => if z13 < (b0.f0.size : Int) then (if (0 : Int) ≤ z13 then ((strings_IndexByte.f k (⟨#[32, 9, 10, 13]⟩ : ByteArray) (byteAt b0.f0 z13)).bind fun r16 => if (0 : Int) ≤ r16 then (impl_scanner__skip_2.l1 k b0 (w64 (z13 + 1))) else (if z13 ≤ (b0.f0.size : Int) then ((strings_HasPrefix.f k (b0.f0.extract (Int.toNat z13) (Int.toNat (b0.f0.size : Int))) (⟨#[40, 42]⟩ : ByteArray)).bind fun r20 => if r20 = true then ((impl_remark.f k (b0.f0.extract (Int.toNat z13) (Int.toNat (b0.f0.size : Int)))).bind fun r23 => if r23 = 0 then (some (.inl (false, z13))) else (impl_scanner__skip_2.l1 k b0 (w64 (z13 + r23)))) else (some (.inl (true, z13)))) else none)) else none) else (some (.inr z13))
def impl_scanner__skip_2.e2 (k : Nat) (b0 : SNeed) : Option ((Bool × Int) ⊕ Int) := impl_scanner__skip_2.l1 k b0 b0.f1
def impl_scanner__skip_2.f (k : Nat) (b0 : SNeed) : Option (Bool × Int) := (impl_scanner__skip_2.e2 k b0).bind fun v => match v with | .inl r => some r | .inr y27 => some (true, y27)
theorem impl_scanner__skip_2.fn {k : Nat} {b0 : SNeed} {r : (Bool × Int)} (H : impl_scanner__skip_2.f k b0 = some r) : FnG Tryz.prog 24 [o1 (.ref 0 0)] [] [eSNeed b0] (oB r.1) [] [[cS b0.f0, cI r.2]] := by
 refine FnG.body (ts := [2]) Tryz.func24 rfl rfl (by decide) (by decide) (Nat.le_of_ble_eq_true rfl) rfl (Nat.le_of_ble_eq_true rfl) ?_
 refine rn [0] 1 [] [] ?_
 refine jr H (fun y27 => ⟨64, [], [[cS b0.f0, cI y27]], 1, []⟩) (fun y27 H => ?_) fun v29 h28 H => ?_
 ·refine rn [2] 1 [] [] ?_
  refine Tri.ret ?_
  obtain rfl := si H;exact endsG (.inr rfl) (by kernel_rfl)
 refine bl ?_
 refine lo Int k (fun k x => impl_scanner__skip_2.l1 k b0 x) (fun x => ⟨64, [(0, o1 (.ref 0 0))], [[cS b0.f0, cI x]], 1, []⟩) b0.f1 h28 fun k z13 h28 IH26 => ?_
 rw [impl_scanner__skip_2.l1.eq_2] at h28
 refine sq ?_
 refine dn hmix 9 [[], [0], [0, 1], [0, 1, 2], [], [4], [4, 5], [4, 5, 6], [4, 5, 6, 7], [0, 1, 2, 3, 4, 5, 6, 7, 8]] [0, 13] 1 [] [] ?_
 refine ci h28 (fun h14 h28 => ?_) fun h14 h28 => ?_
 ·refine sk ?_
  refine bl ?_
  refine bl ?_
  obtain ⟨h15, h28⟩ := nd h28
  obtain ⟨r16, h17, h28⟩ := bs h28
  refine dn hmix 8 [[], [0], [0, 1], [0, 1, 2], [], [4], [4, 5], [4, 5, 6], [0, 1, 2, 3, 4, 5, 6, 7], [0, 1, 2, 3, 4, 5, 6, 7, 8], [0, 1, 2, 3, 4, 5, 6, 7, 8, 9], [0, 1, 2, 3, 4, 5, 6, 7, 8, 9, 10]] [0, 14] 1 [] [p2 h15 h14, hC 9 (strings_IndexByte.fn k (⟨#[32, 9, 10, 13]⟩ : ByteArray) (byteAt b0.f0 z13) r16 h17)] ?_
  refine ci h28 (fun h18 h28 => ?_) fun h18 h28 => ?_
  ·refine rl [0] 1 [] [] ?_
   exact lb IH26 (w64 (z13 + 1)) h28
  obtain ⟨h19, h28⟩ := nd h28
  obtain ⟨r20, h21, h28⟩ := bs h28
  refine dn hmix 8 [[], [0], [0, 1], [0, 1, 2], [], [4], [4, 5], [4, 5, 6], [0, 1, 2, 3, 4, 5, 6, 7], [0, 1, 2, 3, 4, 5, 6, 7, 8], [0, 1, 2, 3, 4, 5, 6, 7, 8, 9]] [0, 33] 1 [] [p3 h15 h19 (Int.le_refl (b0.f0.size : Int)), hC 9 (strings_HasPrefix.fn k (b0.f0.extract (Int.toNat z13) (Int.toNat (b0.f0.size : Int))) (⟨#[40, 42]⟩ : ByteArray) r20 h21)] ?_
  refine cb h28 (fun h22 h28 => ?_) fun h22 h28 => ?_
  ·obtain ⟨r23, h24, h28⟩ := bs h28
   refine dn hmix 8 [[], [0], [0, 1], [0, 1, 2], [], [4], [4, 5], [4, 5, 6], [0, 1, 2, 3, 4, 5, 6, 7], [0, 1, 2, 3, 4, 5, 6, 7, 8], [0, 1, 2, 3, 4, 5, 6, 7, 8, 9]] [0, 3] 1 [] [p3 h15 h19 (Int.le_refl (b0.f0.size : Int)), hC 9 (impl_remark.fn h24)] ?_
   refine sq ?_
   refine rn [0, 3, 55] 1 [] [] ?_
   refine ci h28 (fun h25 h28 => ?_) fun h25 h28 => ?_
   ·refine rx [2] 1 [] [] ⟨64, [(2, oB false)], [[cS b0.f0, cI z13]], 1, []⟩ ?_
    refine Tri.ret ?_
    obtain rfl := si h28;obtain rfl := si H;exact endsG (.inr rfl) (by kernel_rfl)
   refine sk ?_
   refine rl [0] 1 [] [] ?_
   exact lb IH26 (w64 (z13 + r23)) h28
  refine rn [2] 1 [] [] ?_
  refine Tri.ret ?_
  obtain rfl := si h28;obtain rfl := si H;exact endsG (.inr rfl) (by kernel_rfl)
 refine fx [] 1 [] ?_
 refine xi ?_
 exact pe z13 h28
/-! impl_isLetter: function 38 -/
def impl_isLetter.e1 (k : Nat) (a0 : Int) : Option Bool := if (97 : Int) ≤ a0 then (if a0 ≤ 122 then (some true) else (if (65 : Int) ≤ a0 then (if a0 ≤ 90 then (some true) else (some (decide (a0 = 95)))) else (some (decide (a0 = 95))))) else (if (65 : Int) ≤ a0 then (if a0 ≤ 90 then (some true) else (some (decide (a0 = 95)))) else (some (decide (a0 = 95))))
def impl_isLetter.f (k : Nat) (a0 : Int) : Option Bool := (impl_isLetter.e1 k a0).bind fun y7 => some y7
theorem impl_isLetter.fn {k : Nat} {a0 : Int} {r : Bool} (H : impl_isLetter.f k a0 = some r) : Fn Tryz.prog 38 [o1 (cK .u8 a0)] [] (oB r) [] := by
 refine Fn.bd [2] Tryz.func38 ?_
 refine rn [0] 0 [] [] ?_
 refine jo H (fun y7 => ⟨21, [(2, oB y7)], [], 0, []⟩) (fun y7 H => ?_) fun v9 h8 H => ?_
 ·refine Tri.ret ?_
  obtain rfl := si H;exact eR
 rcases ite_some h8 with ⟨h1, h8⟩ | ⟨h1, h8⟩
 ·rcases ite_some h8 with ⟨h2, h8⟩ | ⟨h2, h8⟩
  ·refine rl [2] 0 [] [hB 1 (decide_eq_true h1), hB 4 (decide_eq_true h2)] ?_
   exact pf true h8
  rcases ite_some h8 with ⟨h3, h8⟩ | ⟨h3, h8⟩
  ·rcases ite_some h8 with ⟨h4, h8⟩ | ⟨h4, h8⟩
   ·refine rl [2] 0 [] [hB 1 (decide_eq_true h1), hB 4 (decide_eq_false h2), hB 8 (decide_eq_true h3), hB 11 (decide_eq_true h4)] ?_
    exact pf true h8
   refine rl [2] 0 [] [hB 1 (decide_eq_true h1), hB 4 (decide_eq_false h2), hB 8 (decide_eq_true h3), hB 11 (decide_eq_false h4)] ?_
   exact pf (decide (a0 = 95)) h8
  refine rl [2] 0 [] [hB 1 (decide_eq_true h1), hB 4 (decide_eq_false h2), hB 8 (decide_eq_false h3)] ?_
  exact pf (decide (a0 = 95)) h8
 rcases ite_some h8 with ⟨h5, h8⟩ | ⟨h5, h8⟩
 ·rcases ite_some h8 with ⟨h6, h8⟩ | ⟨h6, h8⟩
  ·refine rl [2] 0 [] [hB 1 (decide_eq_false h1), hB 8 (decide_eq_true h5), hB 11 (decide_eq_true h6)] ?_
   exact pf true h8
  refine rl [2] 0 [] [hB 1 (decide_eq_false h1), hB 8 (decide_eq_true h5), hB 11 (decide_eq_false h6)] ?_
  exact pf (decide (a0 = 95)) h8
 refine rl [2] 0 [] [hB 1 (decide_eq_false h1), hB 8 (decide_eq_false h5)] ?_
 exact pf (decide (a0 = 95)) h8
/-! impl_isDigit: function 40 -/
def impl_isDigit.e1 (k : Nat) (a0 : Int) : Option Bool := if (48 : Int) ≤ a0 then (some (decide (a0 ≤ 57))) else (some false)
def impl_isDigit.f (k : Nat) (a0 : Int) : Option Bool := (impl_isDigit.e1 k a0).bind fun y2 => some y2
theorem impl_isDigit.fn {k : Nat} {a0 : Int} {r : Bool} (H : impl_isDigit.f k a0 = some r) : Fn Tryz.prog 40 [o1 (cK .u8 a0)] [] (oB r) [] := by
 refine Fn.bd [2] Tryz.func40 ?_
 refine rn [0] 0 [] [] ?_
 refine jo H (fun y2 => ⟨9, [(2, oB y2)], [], 0, []⟩) (fun y2 H => ?_) fun v4 h3 H => ?_
 ·refine Tri.ret ?_
  obtain rfl := si H;exact eR
 rcases ite_some h3 with ⟨h1, h3⟩ | ⟨h1, h3⟩
 ·refine rl [2] 0 [] [hB 1 (decide_eq_true h1)] ?_
  exact pf (decide (a0 ≤ 57)) h3
 refine rl [2] 0 [] [hB 1 (decide_eq_false h1)] ?_
 exact pf false h3
/-! impl_isWordByte: function 59 -/
def impl_isWordByte.e1 (k : Nat) (a0 : Int) : Option Bool := (impl_isLetter.f k a0).bind fun r1 => if r1 = true then (some true) else ((impl_isDigit.f k a0).bind fun r4 => some r4)
def impl_isWordByte.f (k : Nat) (a0 : Int) : Option Bool := (impl_isWordByte.e1 k a0).bind fun y6 => some y6
theorem impl_isWordByte.fn {k : Nat} {a0 : Int} {r : Bool} (H : impl_isWordByte.f k a0 = some r) : Fn Tryz.prog 59 [o1 (cK .u8 a0)] [] (oB r) [] := by
 refine Fn.bd [2] Tryz.func59 ?_
 refine rn [0] 0 [] [] ?_
 refine jo H (fun y6 => ⟨9, [(2, oB y6)], [], 0, []⟩) (fun y6 H => ?_) fun v8 h7 H => ?_
 ·refine Tri.ret ?_
  obtain rfl := si H;exact eR
 obtain ⟨r1, h2, h7⟩ := bs h7
 rcases iteb_some h7 with ⟨h3, h7⟩ | ⟨h3, h7⟩
 ·refine rl [2] 0 [] [hC 1 (impl_isLetter.fn h2), hB 1 h3] ?_
  exact pf true h7
 obtain ⟨r4, h5, h7⟩ := bs h7
 refine rl [2] 0 [] [hC 1 (impl_isLetter.fn h2), hB 1 h3, hC 4 (impl_isDigit.fn h5)] ?_
 exact pf r4 h7
/-! impl_wordSize: function 37 -/
def impl_wordSize.e1 (k : Nat) (a0 : ByteArray) (z10 : Int) : Option Bool := if z10 < (a0.size : Int) then (if (0 : Int) ≤ z10 then ((impl_isWordByte.f k (byteAt a0 z10)).bind fun r13 => some r13) else none) else (some false)
def impl_wordSize.l2 : Nat → ByteArray → Int → Option Int
  | 0, _, _ => none
  | k + 1, a0, z10 => (impl_wordSize.e1 k a0 z10).bind fun y15 => if y15 = true then (impl_wordSize.l2 k a0 (w64 (z10 + 1))) else (some z10)
def impl_wordSize.e3 (k : Nat) (a0 : ByteArray) : Option Int := impl_wordSize.l2 k a0 0
def impl_wordSize.f (k : Nat) (a0 : ByteArray) : Option Int := (impl_wordSize.e3 k a0).bind fun y20 => some y20
theorem impl_wordSize.fn {k : Nat} {a0 : ByteArray} {r : Int} (H : impl_wordSize.f k a0 = some r) : Fn Tryz.prog 37 [oS a0] [] (oI r) [] := by
 refine Fn.bd [2] Tryz.func37 ?_
 refine rn [0] 0 [] [] ?_
 refine rn [0, 3] 0 [] [] ?_
 refine jo H (fun y20 => ⟨17, [(3, oI y20)], [], 0, []⟩) (fun y20 H => ?_) fun v22 h21 H => ?_
 ·refine rn [2] 0 [] [] ?_
  refine Tri.ret ?_
  obtain rfl := si H;exact eR
 refine bl ?_
 refine lo Int k (fun k x => impl_wordSize.l2 k a0 x) (fun x => ⟨17, [(0, oS a0), (3, oI x)], [], 0, []⟩) 0 h21 fun k z10 h21 IH19 => ?_
 rw [impl_wordSize.l2.eq_2] at h21
 refine sq ?_
 refine jo h21 (fun y15 => ⟨17, [(0, oS a0), (3, oI z10), (13, oB y15)], [], 0, []⟩) (fun y15 h21 => ?_) fun v17 h16 h21 => ?_
 ·refine cb h21 (fun h18 h21 => ?_) fun h18 h21 => ?_
  ·refine sk ?_
   refine bl ?_
   refine rl [0, 3] 0 [] [] ?_
   exact lb IH19 (w64 (z10 + 1)) h21
  refine fx [3] 0 [] ?_
  refine xi ?_
  exact pf z10 h21
 rcases ite_some h16 with ⟨h11, h16⟩ | ⟨h11, h16⟩
 ·obtain ⟨h12, h16⟩ := nd h16
  obtain ⟨r13, h14, h16⟩ := bs h16
  refine rl [0, 3, 13] 0 [] [hB 3 (decide_eq_true h11), p2 h12 h11, hC 8 (impl_isWordByte.fn h14)] ?_
  exact pf r13 h16
 refine rl [0, 3, 13] 0 [] [hB 3 (decide_eq_false h11)] ?_
 exact pf false h16
/-! impl_keys: function 61 -/
def impl_keys.f (k : Nat) : Option (List ByteArray) := (strings_Fields.f k (⟨#[77, 79, 68, 85, 76, 69, 32, 73, 77, 80, 79, 82, 84, 32, 67, 79, 78, 83, 84, 32, 86, 65, 82, 32, 80, 82, 79, 67, 69, 68, 85, 82, 69, 32, 66, 69, 71, 73, 78, 32, 69, 78, 68, 32, 73, 70, 32, 84, 72, 69, 78, 32, 69, 76, 83, 73, 70, 32, 69, 76, 83, 69, 32, 87, 72, 73, 76, 69, 32, 68, 79, 32, 82, 69, 84, 85, 82, 78, 32, 79, 82, 32, 68, 73, 86, 32, 77, 79, 68, 32, 84, 82, 85, 69, 32, 70, 65, 76, 83, 69, 32, 65, 82, 82, 65, 89, 32, 79, 70, 32, 73, 78, 84, 69, 71, 69, 82, 32, 66, 79, 79, 76, 69, 65, 78, 32, 67, 72, 65, 82, 32, 87, 82, 73, 84, 69, 32, 82, 69, 65, 68, 32, 79, 82, 68, 32, 67, 72, 82, 32, 76, 69, 78]⟩ : ByteArray)).bind fun r1 => some r1
theorem impl_keys.fn {k : Nat} {r : (List ByteArray)} (H : impl_keys.f k  = some r) : Fn Tryz.prog 61 [] [] (o1 (.own 9 (List.map eS r))) [] := by
 refine Fn.bd [0] Tryz.func61 ?_
 refine rn [] 0 [] [] ?_
 obtain ⟨r1, h2, H⟩ := bs H
 refine rn [0] 0 [] [hC 0 (strings_Fields.fn k (⟨#[77, 79, 68, 85, 76, 69, 32, 73, 77, 80, 79, 82, 84, 32, 67, 79, 78, 83, 84, 32, 86, 65, 82, 32, 80, 82, 79, 67, 69, 68, 85, 82, 69, 32, 66, 69, 71, 73, 78, 32, 69, 78, 68, 32, 73, 70, 32, 84, 72, 69, 78, 32, 69, 76, 83, 73, 70, 32, 69, 76, 83, 69, 32, 87, 72, 73, 76, 69, 32, 68, 79, 32, 82, 69, 84, 85, 82, 78, 32, 79, 82, 32, 68, 73, 86, 32, 77, 79, 68, 32, 84, 82, 85, 69, 32, 70, 65, 76, 83, 69, 32, 65, 82, 82, 65, 89, 32, 79, 70, 32, 73, 78, 84, 69, 71, 69, 82, 32, 66, 79, 79, 76, 69, 65, 78, 32, 67, 72, 65, 82, 32, 87, 82, 73, 84, 69, 32, 82, 69, 65, 68, 32, 79, 82, 68, 32, 67, 72, 82, 32, 76, 69, 78]⟩ : ByteArray) r1 h2) (show (List.all [.own 9 (List.map eS r1)] PC.flatB) = true by simp [PC.flatB, PC.scalar, cI, cK, cB, cS, eS])] ?_
 refine Tri.ret ?_
 obtain rfl := si H;exact eR
/-! slices_Index___string_string: function 78 -/
def slices_Index___string_string.l1 : Nat → (List ByteArray) → ByteArray → Int → Option (Int ⊕ Unit)
  | 0, _, _, _ => none
  | k + 1, a0, a1, z5 => if z5 < (a0.length : Int) then ((at? a0 z5).bind fun x7 => if a1 = x7 then (some (.inl z5)) else (slices_Index___string_string.l1 k a0 a1 (w64 (z5 + 1)))) else (some (.inr ()))
def slices_Index___string_string.e2 (k : Nat) (a0 : (List ByteArray)) (a1 : ByteArray) : Option (Int ⊕ Unit) := slices_Index___string_string.l1 k a0 a1 0
def slices_Index___string_string.f (k : Nat) (a0 : (List ByteArray)) (a1 : ByteArray) : Option Int := (slices_Index___string_string.e2 k a0 a1).bind fun v => match v with | .inl r => some r | .inr _ => some (-1)
theorem slices_Index___string_string.fn {k : Nat} {a0 : (List ByteArray)} {a1 : ByteArray} {r : Int} (H : slices_Index___string_string.f k a0 a1 = some r) : Fn Tryz.prog 78 [o1 (.sl 1 (List.map eS a0)), oS a1] [] (oI r) [] := by
 refine Fn.bd [4] Tryz.func78 ?_
 refine rn [0, 1] 0 [] [] ?_
 refine jr H (fun _ => ⟨19, [], [], 0, []⟩) (fun _ H => ?_) fun v12 h11 H => ?_
 ·refine rn [4] 0 [] [] ?_
  refine Tri.ret ?_
  obtain rfl := si H;exact eR
 refine rn [0, 1, 7, 8] 0 [] [hL 1 eS a0] ?_
 refine bl ?_
 refine lo Int k (fun k x => slices_Index___string_string.l1 k a0 a1 x) (fun x => ⟨19, [(0, o1 (.sl 1 (List.map eS a0))), (1, oS a1), (7, oI (a0.length : Int)), (8, oI x)], [], 0, []⟩) 0 h11 fun k z5 h11 IH10 => ?_
 rw [slices_Index___string_string.l1.eq_2] at h11
 refine rn [0, 1, 7, 8, 9] 0 [] [] ?_
 refine sq ?_
 refine ci h11 (fun h6 h11 => ?_) fun h6 h11 => ?_
 ·refine sk ?_
  refine sq ?_
  refine bl ?_
  refine rn [0, 1, 5, 7, 8] 0 [] [] ?_
  obtain ⟨x7, h8, h11⟩ := bs h11
  refine rn [0, 1, 5, 7, 8, 16] 0 [] [hE 3 eS h8] ?_
  refine ci h11 (fun h9 h11 => ?_) fun h9 h11 => ?_
  ·refine rn [4] 0 [] [] ?_
   refine Tri.ret ?_
   obtain rfl := si h11;obtain rfl := si H;exact eR
  refine sk ?_
  refine rl [0, 1, 7, 8] 0 [] [] ?_
  exact lb IH10 (w64 (z5 + 1)) h11
 refine fx [] 0 [] ?_
 refine xi ?_
 exact pe () h11
/-! slices_Contains___string_string: function 60 -/
def slices_Contains___string_string.f (k : Nat) (a0 : (List ByteArray)) (a1 : ByteArray) : Option Bool := (slices_Index___string_string.f k a0 a1).bind fun r1 => some (decide ((0 : Int) ≤ r1))
theorem slices_Contains___string_string.fn {k : Nat} {a0 : (List ByteArray)} {a1 : ByteArray} {r : Bool} (H : slices_Contains___string_string.f k a0 a1 = some r) : Fn Tryz.prog 60 [o1 (.sl 1 (List.map eS a0)), oS a1] [] (oB r) [] := by
 refine Fn.bd [4] Tryz.func60 ?_
 refine rn [0, 1] 0 [] [] ?_
 obtain ⟨r1, h2, H⟩ := bs H
 refine rn [4] 0 [] [hC 2 (slices_Index___string_string.fn h2)] ?_
 refine Tri.ret ?_
 obtain rfl := si H;exact eR
/-! impl_IsKey: function 39 -/
def impl_IsKey.f (k : Nat) (a0 : ByteArray) : Option Bool := (impl_keys.f k).bind fun r1 => (slices_Contains___string_string.f k r1 a0).bind fun r3 => some r3
theorem impl_IsKey.fn {k : Nat} {a0 : ByteArray} {r : Bool} (H : impl_IsKey.f k a0 = some r) : Fn Tryz.prog 39 [oS a0] [] (oB r) [] := by
 refine Fn.bd [2] Tryz.func39 ?_
 refine rn [0] 0 [] [] ?_
 obtain ⟨r1, h2, H⟩ := bs H
 obtain ⟨r3, h4, H⟩ := bs H
 refine rn [2] 0 [] [hC 0 (impl_keys.fn h2) (show (List.all [.own 9 (List.map eS r1)] PC.flatB) = true by simp [PC.flatB, PC.scalar, cI, cK, cB, cS, eS]), hC 2 (slices_Contains___string_string.fn h4)] ?_
 refine Tri.ret ?_
 obtain rfl := si H;exact eR
/-! impl_quoted: function 42 -/
def impl_quoted.e1 (k : Nat) (a0 : ByteArray) (r2 : (Int × Int)) : Option Bool := if r2.1 = 65533 then (if r2.2 < 2 then (some true) else ((impl_isPlain.f k (w64 (r2.1))).bind fun r6 => if r6 = true then (if (0 : Int) ≤ (w64 (1 + r2.2)) then (if (w64 (1 + r2.2)) ≤ (a0.size : Int) then ((strings_HasPrefix.f k (a0.extract (Int.toNat (w64 (1 + r2.2))) (Int.toNat (a0.size : Int))) (⟨#[34]⟩ : ByteArray)).bind fun r11 => some (!r11)) else none) else none) else (some true))) else ((impl_isPlain.f k (w64 (r2.1))).bind fun r13 => if r13 = true then (if (0 : Int) ≤ (w64 (1 + r2.2)) then (if (w64 (1 + r2.2)) ≤ (a0.size : Int) then ((strings_HasPrefix.f k (a0.extract (Int.toNat (w64 (1 + r2.2))) (Int.toNat (a0.size : Int))) (⟨#[34]⟩ : ByteArray)).bind fun r18 => some (!r18)) else none) else none) else (some true))
def impl_quoted.f (k : Nat) (a0 : ByteArray) : Option (STok × Int × Bool × Int × Int × ByteArray × Int) := if (1 : Int) ≤ (a0.size : Int) then ((unicode_utf8_DecodeRuneInString.f k (a0.extract (Int.toNat 1) (Int.toNat (a0.size : Int)))).bind fun r2 => (impl_quoted.e1 k a0 r2).bind fun y20 => if y20 = true then (some ((⟨0, 0, (⟨#[]⟩ : ByteArray), 0⟩ : STok), 0, false, 0, 0, (⟨#[]⟩ : ByteArray), 0)) else (some ((⟨4, w64 (r2.1), (⟨#[]⟩ : ByteArray), 0⟩ : STok), w64 (r2.2 + 2), true, 4, w64 (r2.1), (⟨#[]⟩ : ByteArray), 0))) else none
theorem impl_quoted.fn {k : Nat} {a0 : ByteArray} {r : (STok × Int × Bool × Int × Int × ByteArray × Int)} (H : impl_quoted.f k a0 = some r) : FnG Tryz.prog 42 [oS a0] [] [] (tp [some 4, none, none] [cI r.1.f0, cI r.1.f1, cS r.1.f2, cI r.1.f3, cI r.2.1, cB r.2.2.1]) [] [[cI r.2.2.2.1, cI r.2.2.2.2.1, cS r.2.2.2.2.2.1, cI r.2.2.2.2.2.2]] := by
 refine FnG.bodyR (rv := [(2, some 31), (3, none), (4, none)]) Tryz.func42 rfl rfl (by decide) (by decide) (Nat.le_of_ble_eq_true rfl) rfl (Nat.le_of_ble_eq_true rfl) ?_
 refine rn [0, 2] 1 [] [] ?_
 obtain ⟨h1, H⟩ := nd H
 obtain ⟨r2, h3, H⟩ := bs H
 refine rn [0, 2, 5, 6] 1 [] [p3 (show (0 : Int) ≤ 1 by decide) h1 (Int.le_refl (a0.size : Int)), hC 2 (unicode_utf8_DecodeRuneInString.fn k (a0.extract (Int.toNat 1) (Int.toNat (a0.size : Int))) r2 h3)] ?_
 refine sq ?_
 refine jo H (fun y20 => ⟨39, [(2, o1 (.ref 0 0)), (5, o1 (cK .i32 r2.1)), (6, oI r2.2), (32, oB y20)], [[cI 0, cI 0, cS (⟨#[]⟩ : ByteArray), cI 0]], 0, []⟩) (fun y20 H => ?_) fun v22 h21 H => ?_
 ·refine cb H (fun h23 H => ?_) fun h23 H => ?_
  ·refine rn [2, 3, 4] 1 [] [] ?_
   refine Tri.ret ?_
   obtain rfl := si H;exact endsR (.inr rfl) (by kernel_rfl)
  refine sk ?_
  refine rn [2, 3, 4] 1 [] [] ?_
  refine Tri.ret ?_
  obtain rfl := si H;exact endsR (.inr rfl) (by kernel_rfl)
 rcases ite_some h21 with ⟨h4, h21⟩ | ⟨h4, h21⟩
 ·rcases ite_some h21 with ⟨h5, h21⟩ | ⟨h5, h21⟩
  ·refine rl [2, 5, 6, 32] 1 [] [hB 1 (decide_eq_true h4), hB 4 (decide_eq_true h5)] ?_
   exact pf true h21
  obtain ⟨r6, h7, h21⟩ := bs h21
  rcases iteb_some h21 with ⟨h8, h21⟩ | ⟨h8, h21⟩
  ·obtain ⟨h9, h21⟩ := nd h21
   obtain ⟨h10, h21⟩ := nd h21
   obtain ⟨r11, h12, h21⟩ := bs h21
   refine rl [2, 5, 6, 32] 1 [] [hB 1 (decide_eq_true h4), hB 4 (decide_eq_false h5), hC 9 (impl_isPlain.fn h7), hB 9 h8, p3 h9 h10 (Int.le_refl (a0.size : Int)), hC 17 (strings_HasPrefix.fn k (a0.extract (Int.toNat (w64 (1 + r2.2))) (Int.toNat (a0.size : Int))) (⟨#[34]⟩ : ByteArray) r11 h12)] ?_
   exact pf (!r11) h21
  refine rl [2, 5, 6, 32] 1 [] [hB 1 (decide_eq_true h4), hB 4 (decide_eq_false h5), hC 9 (impl_isPlain.fn h7), hB 9 h8] ?_
  exact pf true h21
 obtain ⟨r13, h14, h21⟩ := bs h21
 rcases iteb_some h21 with ⟨h15, h21⟩ | ⟨h15, h21⟩
 ·obtain ⟨h16, h21⟩ := nd h21
  obtain ⟨h17, h21⟩ := nd h21
  obtain ⟨r18, h19, h21⟩ := bs h21
  refine rl [2, 5, 6, 32] 1 [] [hB 1 (decide_eq_false h4), hC 9 (impl_isPlain.fn h14), hB 9 h15, p3 h16 h17 (Int.le_refl (a0.size : Int)), hC 17 (strings_HasPrefix.fn k (a0.extract (Int.toNat (w64 (1 + r2.2))) (Int.toNat (a0.size : Int))) (⟨#[34]⟩ : ByteArray) r18 h19)] ?_
  exact pf (!r18) h21
 refine rl [2, 5, 6, 32] 1 [] [hB 1 (decide_eq_false h4), hC 9 (impl_isPlain.fn h14), hB 9 h15] ?_
 exact pf true h21
/-! impl_signs: function 44 -/
def impl_signs.f (k : Nat) : Option (List ByteArray) := (strings_Fields.f k (⟨#[58, 61, 32, 60, 61, 32, 62, 61, 32, 61, 32, 35, 32, 60, 32, 62, 32, 43, 32, 45, 32, 42, 32, 40, 32, 41, 32, 91, 32, 93, 32, 44, 32, 59, 32, 58, 32, 46, 32, 38, 32, 126]⟩ : ByteArray)).bind fun r1 => some r1
theorem impl_signs.fn {k : Nat} {r : (List ByteArray)} (H : impl_signs.f k  = some r) : Fn Tryz.prog 44 [] [] (o1 (.own 9 (List.map eS r))) [] := by
 refine Fn.bd [0] Tryz.func44 ?_
 refine rn [] 0 [] [] ?_
 obtain ⟨r1, h2, H⟩ := bs H
 refine rn [0] 0 [] [hC 0 (strings_Fields.fn k (⟨#[58, 61, 32, 60, 61, 32, 62, 61, 32, 61, 32, 35, 32, 60, 32, 62, 32, 43, 32, 45, 32, 42, 32, 40, 32, 41, 32, 91, 32, 93, 32, 44, 32, 59, 32, 58, 32, 46, 32, 38, 32, 126]⟩ : ByteArray) r1 h2) (show (List.all [.own 9 (List.map eS r1)] PC.flatB) = true by simp [PC.flatB, PC.scalar, cI, cK, cB, cS, eS])] ?_
 refine Tri.ret ?_
 obtain rfl := si H;exact eR
/-! impl_scanner__next_1_1: function 45 -/
def impl_scanner__next_1_1.f (k : Nat) (a0 : ByteArray) (a1_1 : ByteArray) : Option Bool := (strings_HasPrefix.f k a1_1 a0).bind fun r1 => some r1
theorem impl_scanner__next_1_1.fn {k : Nat} {a0 : ByteArray} {a1_1 : ByteArray} {r : Bool} (H : impl_scanner__next_1_1.f k a0 a1_1 = some r) : Fn Tryz.prog 45 [oS a0, o1 (.cel [cS a1_1] 0)] [] (oB r) [] := by
 refine Fn.bd [3] Tryz.func45 ?_
 refine rn [0, 1] 0 [] [] ?_
 obtain ⟨r1, h2, H⟩ := bs H
 refine rn [3] 0 [] [hC 2 (strings_HasPrefix.fn k a1_1 a0 r1 h2)] ?_
 refine Tri.ret ?_
 obtain rfl := si H;exact eR
/-! slices_IndexFunc___string_string_1: function 43 -/
def slices_IndexFunc___string_string_1.l1 : Nat → (List ByteArray) → ByteArray → Int → Option (Int ⊕ Unit)
  | 0, _, _, _ => none
  | k + 1, a0, a1_1, z7 => if z7 < (a0.length : Int) then ((at? a0 z7).bind fun x9 => (impl_scanner__next_1_1.f k x9 a1_1).bind fun r11 => if r11 = true then (some (.inl z7)) else (slices_IndexFunc___string_string_1.l1 k a0 a1_1 (w64 (z7 + 1)))) else (some (.inr ()))
def slices_IndexFunc___string_string_1.e2 (k : Nat) (a0 : (List ByteArray)) (a1_1 : ByteArray) : Option (Int ⊕ Unit) := slices_IndexFunc___string_string_1.l1 k a0 a1_1 0
def slices_IndexFunc___string_string_1.f (k : Nat) (a0 : (List ByteArray)) (a1_1 : ByteArray) : Option Int := (slices_IndexFunc___string_string_1.e2 k a0 a1_1).bind fun v => match v with | .inl r => some r | .inr _ => some (-1)
theorem slices_IndexFunc___string_string_1.fn {k : Nat} {a0 : (List ByteArray)} {a1_1 : ByteArray} {r : Int} (H : slices_IndexFunc___string_string_1.f k a0 a1_1 = some r) : Fn Tryz.prog 43 [o1 (.sl 1 (List.map eS a0)), o1 (.fn 45 [.cel [cS a1_1] 0])] [] (oI r) [] := by
 refine Fn.bd [4] Tryz.func43 ?_
 refine rn [0, 1] 0 [] [] ?_
 refine jr H (fun _ => ⟨19, [], [], 0, []⟩) (fun _ H => ?_) fun v16 h15 H => ?_
 ·refine rn [4] 0 [] [] ?_
  refine Tri.ret ?_
  obtain rfl := si H;exact eR
 refine rn [0, 1, 7, 8] 0 [] [hL 1 eS a0] ?_
 refine bl ?_
 refine lo Int k (fun k x => slices_IndexFunc___string_string_1.l1 k a0 a1_1 x) (fun x => ⟨19, [(0, o1 (.sl 1 (List.map eS a0))), (1, o1 (.fn 45 [.cel [cS a1_1] 0])), (7, oI (a0.length : Int)), (8, oI x)], [], 0, []⟩) 0 h15 fun k z7 h15 IH14 => ?_
 rw [slices_IndexFunc___string_string_1.l1.eq_2] at h15
 refine rn [0, 1, 7, 8, 9] 0 [] [] ?_
 refine sq ?_
 refine ci h15 (fun h8 h15 => ?_) fun h8 h15 => ?_
 ·refine sk ?_
  refine sq ?_
  refine bl ?_
  refine rn [0, 1, 5, 7, 8] 0 [] [] ?_
  obtain ⟨x9, h10, h15⟩ := bs h15
  obtain ⟨r11, h12, h15⟩ := bs h15
  refine rn [0, 1, 5, 7, 8, 16] 0 [] [hE 3 eS h10, hC 5 (impl_scanner__next_1_1.fn h12)] ?_
  refine cb h15 (fun h13 h15 => ?_) fun h13 h15 => ?_
  ·refine rn [4] 0 [] [] ?_
   refine Tri.ret ?_
   obtain rfl := si h15;obtain rfl := si H;exact eR
  refine sk ?_
  refine rl [0, 1, 7, 8] 0 [] [] ?_
  exact lb IH14 (w64 (z7 + 1)) h15
 refine fx [] 0 [] ?_
 refine xi ?_
 exact pe () h15
/-! impl_scanner__next_2: function 25 -/
def impl_scanner__next_2.e1 (k : Nat) (b0 : SNeed) (r3 : Int) : Option Int := (impl_IsKey.f k ((b0.f0.extract (Int.toNat b0.f1) (Int.toNat (b0.f0.size : Int))).extract (Int.toNat 0) (Int.toNat r3))).bind fun r12 => if r12 = true then (some 2) else (some 1)
def impl_scanner__next_2.e2 (k : Nat) (b0 : SNeed) (r3 : Int) : Option ((STok × Bool × Int × Int × Int × ByteArray × Int) ⊕ (Int × Bool × Int × Int × ByteArray × Int)) := if (0 : Int) ≤ 0 then (if 0 < ((b0.f0.extract (Int.toNat b0.f1) (Int.toNat (b0.f0.size : Int))).size : Int) then ((impl_isLetter.f k (byteAt (b0.f0.extract (Int.toNat b0.f1) (Int.toNat (b0.f0.size : Int))) 0)).bind fun r7 => if r7 = true then (if (0 : Int) ≤ r3 then (if r3 ≤ ((b0.f0.extract (Int.toNat b0.f1) (Int.toNat (b0.f0.size : Int))).size : Int) then ((impl_scanner__next_2.e1 k b0 r3).bind fun y15 => some (.inr (r3, (decide (r3 ≤ 40)), y15, 0, (b0.f0.extract (Int.toNat b0.f1) (Int.toNat (b0.f0.size : Int))).extract (Int.toNat 0) (Int.toNat r3), 0))) else none) else none) else ((impl_isDigit.f k (byteAt (b0.f0.extract (Int.toNat b0.f1) (Int.toNat (b0.f0.size : Int))) 0)).bind fun r18 => if r18 = true then (if (0 : Int) ≤ r3 then (if r3 ≤ ((b0.f0.extract (Int.toNat b0.f1) (Int.toNat (b0.f0.size : Int))).size : Int) then ((impl_numeral.f k ((b0.f0.extract (Int.toNat b0.f1) (Int.toNat (b0.f0.size : Int))).extract (Int.toNat 0) (Int.toNat r3))).bind fun r23 => some (.inr (r3, r23.2, r23.1.f0, r23.1.f1, r23.1.f2, r23.1.f3))) else none) else none) else (if (byteAt (b0.f0.extract (Int.toNat b0.f1) (Int.toNat (b0.f0.size : Int))) 0) = 34 then ((impl_quoted.f k (b0.f0.extract (Int.toNat b0.f1) (Int.toNat (b0.f0.size : Int)))).bind fun r26 => some (.inr (r26.2.1, r26.2.2.1, r26.1.f0, r26.1.f1, r26.1.f2, r26.1.f3))) else ((impl_signs.f k).bind fun r28 => (slices_IndexFunc___string_string_1.f k r28 (b0.f0.extract (Int.toNat b0.f1) (Int.toNat (b0.f0.size : Int)))).bind fun r30 => if r30 < 0 then (some (.inl ((⟨0, 0, (⟨#[]⟩ : ByteArray), 0⟩ : STok), false, b0.f1, 0, 0, (⟨#[]⟩ : ByteArray), 0))) else ((impl_signs.f k).bind fun r33 => (at? r33 r30).bind fun x35 => some (.inr ((x35.size : Int), true, 5, 0, x35, 0))))))) else none) else none
def impl_scanner__next_2.f (k : Nat) (b0 : SNeed) : Option (STok × Bool × Int × Int × Int × ByteArray × Int) := if (0 : Int) ≤ b0.f1 then (if b0.f1 ≤ (b0.f0.size : Int) then ((impl_wordSize.f k (b0.f0.extract (Int.toNat b0.f1) (Int.toNat (b0.f0.size : Int)))).bind fun r3 => (impl_scanner__next_2.e2 k b0 r3).bind fun v => match v with | .inl r => some r | .inr (y37, y38, y39, y40, y41, y42) => some ((⟨y39, y40, y41, b0.f1⟩ : STok), y38, w64 (b0.f1 + y37), y39, y40, y41, b0.f1)) else none) else none
theorem impl_scanner__next_2.fn {k : Nat} {b0 : SNeed} {r : (STok × Bool × Int × Int × Int × ByteArray × Int)} (H : impl_scanner__next_2.f k b0 = some r) : FnG Tryz.prog 25 [o1 (.ref 0 0)] [] [eSNeed b0] (tp [some 4, none] [cI r.1.f0, cI r.1.f1, cS r.1.f2, cI r.1.f3, cB r.2.1]) [] [[cS b0.f0, cI r.2.2.1], [cI r.2.2.2.1, cI r.2.2.2.2.1, cS r.2.2.2.2.2.1, cI r.2.2.2.2.2.2]] := by
 refine FnG.bodyR (rv := [(2, some 31), (3, none)]) Tryz.func25 rfl rfl (by decide) (by decide) (Nat.le_of_ble_eq_true rfl) rfl (Nat.le_of_ble_eq_true rfl) ?_
 refine rn [0, 2] 2 [] [] ?_
 obtain ⟨h1, H⟩ := nd H
 obtain ⟨h2, H⟩ := nd H
 refine deN hmix [[], [0], [0, 1], [0, 1, 2], [], [4], [4, 5], [4, 5, 6], [0, 1, 2, 3, 4, 5, 6, 7], [], [0, 1, 2, 3, 4, 5, 6, 7, 8, 9]] [9] [⟨85, [(0, o1 (.ref 0 0)), (2, o1 (.ref 1 0))], [eSNeed b0, [cI 0, cI 0, cS (⟨#[]⟩ : ByteArray), cI 0], [cS (⟨#[]⟩ : ByteArray)]], 1, []⟩] [(9, o1 (.ref 0 0)), (10, o1 (.ref 0 0)), (11, o1 (.ref 0 0)), (12, oS b0.f0), (13, o1 (.ref 0 0)), (14, o1 (.ref 0 0)), (15, o1 (.ref 0 1)), (16, oI b0.f1), (17, oS (b0.f0.extract (Int.toNat b0.f1) (Int.toNat (b0.f0.size : Int)))), (4, o1 (.ref 2 0))] [0, 2, 4] 3 [] (fun A D B => ([hz B 1, ht D 0, ht D 0, ht D 1, ht D 1, ht D 2, ht D 2, ht D 3, ht D 3, ht D 4, ht D 4, ht D 5, ht D 5, ht D 6, ht D 6, ht D 7, ht D 7, p3 h1 h2 (Int.le_refl (b0.f0.size : Int)), ht D 8, hn (p3 h1 h2 (Int.le_refl (b0.f0.size : Int))), ht D 8, hm A D B 0 9 [4, 0, 2]], [])) ?_
 obtain ⟨r3, h4, H⟩ := bs H
 refine rn [0, 2, 4, 5, 6] 3 [] [hC 1 (impl_wordSize.fn h4)] ?_
 refine rn [0, 2, 4, 5, 6, 7] 4 [] [] ?_
 refine jr H (fun w => ⟨85, [(0, o1 (.ref 0 0)), (2, o1 (.ref 1 0)), (5, oI w.1), (6, oB w.2.1), (7, o1 (.ref 3 0))], [eSNeed b0, [cI 0, cI 0, cS (⟨#[]⟩ : ByteArray), cI 0], [cS (b0.f0.extract (Int.toNat b0.f1) (Int.toNat (b0.f0.size : Int)))], [cI w.2.2.1, cI w.2.2.2.1, cS w.2.2.2.2.1, cI w.2.2.2.2.2]], 1, []⟩) (fun w H => ?_) fun v44 h43 H => ?_
 ·obtain ⟨y37, y38, y39, y40, y41, y42⟩ := w
  refine rn [0, 2, 5, 6, 7] 4 [] [] ?_
  refine rn [2, 6, 7] 4 [] [] ?_
  refine rn [2, 3] 2 [] [] ?_
  refine Tri.ret ?_
  obtain rfl := si H;exact endsR (.inr rfl) (by kernel_rfl)
 refine bl ?_
 obtain ⟨h5, h43⟩ := nd h43
 obtain ⟨h6, h43⟩ := nd h43
 obtain ⟨r7, h8, h43⟩ := bs h43
 refine rn [0, 2, 4, 5, 6, 7, 34] 4 [] [p2 h5 h6, hC 2 (impl_isLetter.fn h8)] ?_
 refine cb h43 (fun h9 h43 => ?_) fun h9 h43 => ?_
 ·obtain ⟨h10, h43⟩ := nd h43
  obtain ⟨h11, h43⟩ := nd h43
  refine rx [0, 2, 4, 5, 7] 4 [] [p3 (show (0 : Int) ≤ 0 by decide) h10 h11] ⟨85, [(0, o1 (.ref 0 0)), (2, o1 (.ref 1 0)), (4, o1 (.ref 2 0)), (5, oI r3), (7, o1 (.ref 3 0))], [eSNeed b0, [cI 0, cI 0, cS (⟨#[]⟩ : ByteArray), cI 0], [cS (b0.f0.extract (Int.toNat b0.f1) (Int.toNat (b0.f0.size : Int)))], [cI 1, cI 0, cS ((b0.f0.extract (Int.toNat b0.f1) (Int.toNat (b0.f0.size : Int))).extract (Int.toNat 0) (Int.toNat r3)), cI 0]], 1, []⟩ ?_
  refine jo h43 (fun y15 => ⟨85, [(0, o1 (.ref 0 0)), (2, o1 (.ref 1 0)), (5, oI r3), (7, o1 (.ref 3 0))], [eSNeed b0, [cI 0, cI 0, cS (⟨#[]⟩ : ByteArray), cI 0], [cS (b0.f0.extract (Int.toNat b0.f1) (Int.toNat (b0.f0.size : Int)))], [cI y15, cI 0, cS ((b0.f0.extract (Int.toNat b0.f1) (Int.toNat (b0.f0.size : Int))).extract (Int.toNat 0) (Int.toNat r3)), cI 0]], 1, []⟩) (fun y15 h43 => ?_) fun v17 h16 h43 => ?_
  ·refine rl [0, 2, 5, 6, 7] 4 [] [] ?_
   exact pe (r3, (decide (r3 ≤ 40)), y15, 0, (b0.f0.extract (Int.toNat b0.f1) (Int.toNat (b0.f0.size : Int))).extract (Int.toNat 0) (Int.toNat r3), 0) h43
  obtain ⟨r12, h13, h16⟩ := bs h16
  refine rn [0, 2, 5, 7, 45] 4 [] [p3 (show (0 : Int) ≤ 0 by decide) h10 h11, hC 3 (impl_IsKey.fn h13)] ?_
  refine cb h16 (fun h14 h16 => ?_) fun h14 h16 => ?_
  ·refine rl [0, 2, 5, 7] 4 [] [] ?_
   exact pf 2 h16
  refine fx [0, 2, 5, 7] 4 [] ?_
  refine sk ?_
  exact pf 1 h16
 obtain ⟨r18, h19, h43⟩ := bs h43
 refine rx [0, 2, 4, 5, 6, 7, 49] 4 [] [p2 h5 h6, hC 2 (impl_isDigit.fn h19)] ⟨85, [(0, o1 (.ref 0 0)), (2, o1 (.ref 1 0)), (4, o1 (.ref 2 0)), (5, oI r3), (6, oB true), (7, o1 (.ref 3 0)), (49, oB r18)], [eSNeed b0, [cI 0, cI 0, cS (⟨#[]⟩ : ByteArray), cI 0], [cS (b0.f0.extract (Int.toNat b0.f1) (Int.toNat (b0.f0.size : Int)))], [cI 0, cI 0, cS (⟨#[]⟩ : ByteArray), cI 0]], 1, []⟩ ?_
 refine cb h43 (fun h20 h43 => ?_) fun h20 h43 => ?_
 ·obtain ⟨h21, h43⟩ := nd h43
  obtain ⟨h22, h43⟩ := nd h43
  obtain ⟨r23, h24, h43⟩ := bs h43
  refine rl [0, 2, 5, 6, 7] 4 [] [p3 (show (0 : Int) ≤ 0 by decide) h21 h22, hC 3 (impl_numeral.fn k ((b0.f0.extract (Int.toNat b0.f1) (Int.toNat (b0.f0.size : Int))).extract (Int.toNat 0) (Int.toNat r3)) r23 h24)] ?_
  exact pe (r3, r23.2, r23.1.f0, r23.1.f1, r23.1.f2, r23.1.f3) h43
 refine rn [0, 2, 4, 6, 7, 60] 4 [] [p2 h5 h6] ?_
 refine ci h43 (fun h25 h43 => ?_) fun h25 h43 => ?_
 ·obtain ⟨r26, h27, h43⟩ := bs h43
  refine rl [0, 2, 5, 6, 7] 4 [] [hG 1 [] [] none (impl_quoted.fn h27)] ?_
  exact pe (r26.2.1, r26.2.2.1, r26.1.f0, r26.1.f1, r26.1.f2, r26.1.f3) h43
 obtain ⟨r28, h29, h43⟩ := bs h43
 obtain ⟨r30, h31, h43⟩ := bs h43
 refine rn [0, 2, 6, 7, 8] 4 [] [hC 0 (impl_signs.fn h29) (show (List.all [.own 9 (List.map eS r28)] PC.flatB) = true by simp [PC.flatB, PC.scalar, cI, cK, cB, cS, eS]), hC 2 (slices_IndexFunc___string_string_1.fn h31)] ?_
 refine sq ?_
 refine rn [0, 2, 6, 7, 8, 24] 4 [] [] ?_
 refine ci h43 (fun h32 h43 => ?_) fun h32 h43 => ?_
 ·refine rn [2, 3] 2 [] [] ?_
  refine Tri.ret ?_
  obtain rfl := si h43;obtain rfl := si H;exact endsR (.inr rfl) (by kernel_rfl)
 refine sk ?_
 obtain ⟨r33, h34, h43⟩ := bs h43
 obtain ⟨x35, h36, h43⟩ := bs h43
 refine rn [0, 2, 6, 7] 4 [] [hC 0 (impl_signs.fn h34) (show (List.all [.own 9 (List.map eS r33)] PC.flatB) = true by simp [PC.flatB, PC.scalar, cI, cK, cB, cS, eS]), hE 2 eS h36, hF 3 eS h36] ?_
 refine rl [0, 2, 5, 6, 7] 4 [] [] ?_
 exact pe ((x35.size : Int), true, 5, 0, x35, 0) h43
/-! impl_tokens: function 15 -/
def impl_tokens.l1 : Nat → ByteArray → (List STok) → Int → Option ((List STok) × Int × Int)
  | 0, _, _, _ => none
  | k + 1, a0, z20, z21 => (impl_scanner__skip_2.f k (⟨a0, z21⟩ : SNeed)).bind fun r22 => if r22.1 = true then (if r22.2 = (a0.size : Int) then (some (z20, 0, 0)) else ((impl_scanner__next_2.f k (⟨a0, r22.2⟩ : SNeed)).bind fun r26 => if r26.2.1 = true then (if (z20.length : Int) = 1200 then (some (([] : List STok), 13, r22.2)) else (if (z20 ++ ([r26.1] : List STok)).length * 40 ≤ 140737488355328 then (impl_tokens.l1 k a0 (z20 ++ ([r26.1] : List STok)) r26.2.2.1) else none)) else (some (([] : List STok), 4, r22.2)))) else (some (([] : List STok), 4, r22.2))
def impl_tokens.f (k : Nat) (a0 : ByteArray) : Option ((List STok) × Int × Int) := if (4000 : Int) < (a0.size : Int) then (some (([] : List STok), 15, 0)) else (impl_tokens.l1 k a0 ([] : List STok) 0)
theorem impl_tokens.fn {k : Nat} {a0 : ByteArray} {r : ((List STok) × Int × Int)} (H : impl_tokens.f k a0 = some r) : Fn Tryz.prog 15 [oS a0] [] (tp [none, none, none] [.own 31 (List.map eSTok r.1), cI r.2.1, cI r.2.2]) [] := by
 refine Fn.bd [2, 3, 4] Tryz.func15 ?_
 refine rn [0] 0 [] [] ?_
 refine sq ?_
 refine rn [0, 12] 0 [] [] ?_
 refine ci H (fun h1 H => ?_) fun h1 H => ?_
 ·refine rn [2, 3, 4] 0 [] [] ?_
  refine fx [2, 3, 4] 0 [.own (.t 2 0) 31] ?_
  refine Tri.ret ?_
  obtain rfl := si H;exact eR
 refine sk ?_
 refine rn [0, 5] 1 [] [] ?_
 refine rn [0, 5, 6] 1 [] [] ?_
 refine bl ?_
 refine fx [0, 5, 6] 1 [.own (.t 6 0) 31] ?_
 refine lo ((List STok) × Int) k (fun k x => impl_tokens.l1 k a0 x.1 x.2) (fun x => ⟨51, [(0, oS a0), (5, o1 (.ref 0 0)), (6, o1 (.own 31 (List.map eSTok x.1)))], [[cS a0, cI x.2]], 0, []⟩) (([] : List STok), 0) H fun k x H IH31 => ?_
 obtain ⟨z20, z21⟩ := x
 rw [impl_tokens.l1.eq_2] at H
 refine bl ?_
 refine sq ?_
 obtain ⟨r22, h23, H⟩ := bs H
 refine rn [0, 5, 6, 18] 1 [] [hG 1 [] [0] none (impl_scanner__skip_2.fn h23)] ?_
 refine cm H (fun h24 H => ?_) fun h24 H => ?_
 ·refine sk ?_
  refine sq ?_
  refine rn [0, 5, 6, 29] 1 [] [] ?_
  refine ci H (fun h25 H => ?_) fun h25 H => ?_
  ·refine rn [2, 3, 4] 0 [] [] ?_
   refine Tri.ret ?_
   obtain rfl := si H;exact eR
  refine sk ?_
  refine rn [0, 5, 6, 7] 1 [] [] ?_
  obtain ⟨r26, h27, H⟩ := bs H
  refine rn [0, 5, 6, 7, 8, 9] 3 [] [hG 1 [] [0] none (impl_scanner__next_2.fn h27)] ?_
  refine sq ?_
  refine rn [0, 5, 6, 7, 8, 41] 3 [] [] ?_
  refine cm H (fun h28 H => ?_) fun h28 H => ?_
  ·refine sk ?_
   refine sq ?_
   refine rx [0, 5, 6, 7, 8, 45] 3 [] [hL 1 eSTok z20] ⟨51, [(0, oS a0), (5, o1 (.ref 0 0)), (6, o1 (.own 31 (List.map eSTok z20))), (7, oI r22.2), (8, o1 (.ref 2 0)), (45, oB (decide ((z20.length : Int) = 1200)))], [[cS a0, cI r26.2.2.1], [cI r26.2.2.2.1, cI r26.2.2.2.2.1, cS r26.2.2.2.2.2.1, cI r26.2.2.2.2.2.2], eSTok r26.1], 0, []⟩ ?_
   refine ci H (fun h29 H => ?_) fun h29 H => ?_
   ·refine rn [2, 3, 4] 0 [] [] ?_
    refine fx [2, 3, 4] 0 [.own (.t 2 0) 31] ?_
    refine Tri.ret ?_
    obtain rfl := si H;exact eR
   refine sk ?_
   obtain ⟨h30, H⟩ := nd H
   refine rl [0, 5, 6] 1 [] [hA 3 31 eSTok h30] ?_
   exact lb IH31 (z20 ++ ([r26.1] : List STok), r26.2.2.1) H
  refine rx [2, 3, 4] 0 [] [] ⟨51, [(2, o1 .nl), (3, oI 4), (4, oI r22.2)], [], 0, []⟩ ?_
  refine fx [2, 3, 4] 0 [.own (.t 2 0) 31] ?_
  refine Tri.ret ?_
  obtain rfl := si H;exact eR
 refine dn hmix 6 [[], [0], [0, 1], [0, 1, 2], [], [4], [0, 1, 2, 3, 4, 5]] [2, 3, 4] 0 [] [] ?_
 refine fx [2, 3, 4] 0 [.own (.t 2 0) 31] ?_
 refine Tri.ret ?_
 obtain rfl := si H;exact eR
/-! impl_Tokens: function 7 -/
def impl_Tokens.f (k : Nat) (a0 : ByteArray) : Option ((List STok) × Int × Int) := (impl_isShort_string.f k a0).bind fun r1 => if r1 = true then ((impl_tokens.f k a0).bind fun r4 => some (r4.1, r4.2.1, r4.2.2)) else (some (([] : List STok), 2, 0))
theorem impl_Tokens.fn {k : Nat} {a0 : ByteArray} {r : ((List STok) × Int × Int)} (H : impl_Tokens.f k a0 = some r) : Fn Tryz.prog 7 [oS a0] [] (tp [none, none, none] [.own 31 (List.map eSTok r.1), cI r.2.1, cI r.2.2]) [] := by
 refine Fn.bd [2, 3, 4] Tryz.func7 ?_
 refine rn [0] 0 [] [] ?_
 refine sq ?_
 obtain ⟨r1, h2, H⟩ := bs H
 refine rn [0, 7] 0 [] [hC 1 (impl_isShort_string.fn h2)] ?_
 refine cm H (fun h3 H => ?_) fun h3 H => ?_
 ·refine sk ?_
  obtain ⟨r4, h5, H⟩ := bs H
  refine rn [2, 3, 4] 0 [] [hC 1 (impl_tokens.fn h5) (show (List.all [.own 31 (List.map eSTok r4.1), cI r4.2.1, cI r4.2.2] PC.flatB) = true by simp [PC.flatB, PC.scalar, cI, cK, cB, cS, eSTok])] ?_
  refine Tri.ret ?_
  obtain rfl := si H;exact eR
 refine rn [2, 3, 4] 0 [] [] ?_
 refine fx [2, 3, 4] 0 [.own (.t 2 0) 31] ?_
 refine Tri.ret ?_
 obtain rfl := si H;exact eR
/-! laws_FnChars: function 3 -/
def laws_FnChars.e1 (k : Nat) (r2 : Int) (r4 : (ByteArray × Int)) (r6 : (ByteArray × Int)) (r8 : ((List STok) × Int × Int)) : Option Bool := if r4.2 = 0 then (if r4.1 = r6.1 then ((impl_CharOK.f k r2).bind fun r12 => if r12 = true then (if r8.2.1 = 0 then (if r8.2.2 = 0 then (if (r8.1.length : Int) = 1 then ((at? r8.1 0).bind fun x18 => some ((decide (x18.f0 = 4) && (decide (x18.f1 = r2) && (decide (x18.f2 = (⟨#[]⟩ : ByteArray)) && (decide (x18.f3 = 0) && true)))))) else (some false)) else (some false)) else (some false)) else (some false)) else (some false)) else (some false)
def laws_FnChars.f (k : Nat) (a0 : (List Int)) : Option Bool := if (1048576 : Int) < (a0.length : Int) then (some true) else ((spec_CharOf.f k a0).bind fun r2 => (impl_CharText.f k r2).bind fun r4 => (spec_CharText.f k r2).bind fun r6 => (impl_Tokens.f k r4.1).bind fun r8 => (laws_FnChars.e1 k r2 r4 r6 r8).bind fun y20 => some y20)
theorem laws_FnChars.fn {k : Nat} {a0 : (List Int)} {r : Bool} (H : laws_FnChars.f k a0 = some r) : Fn Tryz.prog 3 [o1 (.sl 1 (List.map (eK .u8) a0))] [] (oB r) [] := by
 refine Fn.bd [2] Tryz.func3 ?_
 refine rn [0] 0 [] [] ?_
 refine sq ?_
 refine rn [0, 13] 0 [] [hL 1 (eK .u8) a0] ?_
 refine ci H (fun h1 H => ?_) fun h1 H => ?_
 ·refine rn [2] 0 [] [] ?_
  refine Tri.ret ?_
  obtain rfl := si H;exact eR
 refine sk ?_
 obtain ⟨r2, h3, H⟩ := bs H
 refine rn [3] 0 [] [hC 1 (spec_CharOf.fn h3)] ?_
 obtain ⟨r4, h5, H⟩ := bs H
 refine rn [3, 4, 5] 0 [] [hC 1 (impl_CharText.fn h5)] ?_
 obtain ⟨r6, h7, H⟩ := bs H
 refine rn [3, 4, 5, 6] 0 [] [hC 1 (spec_CharText.fn h7)] ?_
 obtain ⟨r8, h9, H⟩ := bs H
 refine rx [3, 4, 5, 6, 8, 9, 10] 0 [] [hC 1 (impl_Tokens.fn h9) (show (List.all [.own 31 (List.map eSTok r8.1), cI r8.2.1, cI r8.2.2] PC.flatB) = true by simp [PC.flatB, PC.scalar, cI, cK, cB, cS, eSTok])] ⟨64, [(3, oI r2), (4, oS r4.1), (5, oI r4.2), (6, oS r6.1), (8, o1 (.own 31 (List.map eSTok r8.1))), (9, oI r8.2.1), (10, oI r8.2.2)], [], 0, []⟩ ?_
 refine jo H (fun y20 => ⟨64, [(2, oB y20)], [], 0, []⟩) (fun y20 H => ?_) fun v22 h21 H => ?_
 ·refine Tri.ret ?_
  obtain rfl := si H;exact eR
 rcases ite_some h21 with ⟨h10, h21⟩ | ⟨h10, h21⟩
 ·rcases ite_some h21 with ⟨h11, h21⟩ | ⟨h11, h21⟩
  ·obtain ⟨r12, h13, h21⟩ := bs h21
   rcases iteb_some h21 with ⟨h14, h21⟩ | ⟨h14, h21⟩
   ·rcases ite_some h21 with ⟨h15, h21⟩ | ⟨h15, h21⟩
    ·rcases ite_some h21 with ⟨h16, h21⟩ | ⟨h16, h21⟩
     ·rcases ite_some h21 with ⟨h17, h21⟩ | ⟨h17, h21⟩
      ·obtain ⟨x18, h19, h21⟩ := bs h21
       refine rl [2] 0 [] [hB 1 (decide_eq_true h10), hB 5 (decide_eq_true h11), hC 9 (impl_CharOK.fn h13), hB 9 h14, hB 13 (decide_eq_true h15), hB 17 (decide_eq_true h16), hL 21 eSTok r8.1, hB 22 (decide_eq_true h17), hE 26 eSTok h19, hF 27 eSTok h19] ?_
       exact pf ((decide (x18.f0 = 4) && (decide (x18.f1 = r2) && (decide (x18.f2 = (⟨#[]⟩ : ByteArray)) && (decide (x18.f3 = 0) && true))))) h21
      refine rl [2] 0 [] [hB 1 (decide_eq_true h10), hB 5 (decide_eq_true h11), hC 9 (impl_CharOK.fn h13), hB 9 h14, hB 13 (decide_eq_true h15), hB 17 (decide_eq_true h16), hL 21 eSTok r8.1, hB 22 (decide_eq_false h17)] ?_
      exact pf false h21
     refine rl [2] 0 [] [hB 1 (decide_eq_true h10), hB 5 (decide_eq_true h11), hC 9 (impl_CharOK.fn h13), hB 9 h14, hB 13 (decide_eq_true h15), hB 17 (decide_eq_false h16)] ?_
     exact pf false h21
    refine rl [2] 0 [] [hB 1 (decide_eq_true h10), hB 5 (decide_eq_true h11), hC 9 (impl_CharOK.fn h13), hB 9 h14, hB 13 (decide_eq_false h15)] ?_
    exact pf false h21
   refine rl [2] 0 [] [hB 1 (decide_eq_true h10), hB 5 (decide_eq_true h11), hC 9 (impl_CharOK.fn h13), hB 9 h14] ?_
   exact pf false h21
  refine rl [2] 0 [] [hB 1 (decide_eq_true h10), hB 5 (decide_eq_false h11)] ?_
  exact pf false h21
 refine rl [2] 0 [] [hB 1 (decide_eq_false h10)] ?_
 exact pf false h21
end Go.Proofs.YthpacjlaeknidabGreatDoor.E
