-- PRINTED BY gp.py, a program of this session over the kit's printer; Lean checks it.
import Derived.Test.YtaikjjlbfdkgmaaDoorPFnExactBuiltTextx0
import Derived.Test.YtaikjjlbfdkgmaaDoorPFnExactBuiltTextx1
import Derived.Test.YtaikjjlbfdkgmaaDoorPFnExactBuiltTextx3
import Derived.Test.YtaikjjlbfdkgmaaDoorPFnExactBuiltTextx4
import Derived.Test.YtaikjjlbfdkgmaaDoorPFnExactBuiltTextx5
import Derived.Test.YtaikjjlbfdkgmaaDoorPFnExactBuiltTextx7
namespace Go.Proofs.YtaikjjlbfdkgmaaDoor.PFnExactBuiltText
open Go.Proofs.YtaikjjlbfdkgmaaDoorW.Fnv
open Go.RowKit Go.Proofs.YtaikjjlbfdkgmaaDoorW.PrintWords Go.Proofs.YtaikjjlbfdkgmaaDoorW.PrintLast Go.Proofs.YtaikjjlbfdkgmaaDoorW.PrintMore
attribute [local go_sem] max2_int min2_int max_two min_two max_three min_three max_four min_four   -- for this text's walks alone
set_option linter.unusedVariables false
set_option linter.unusedSimpArgs false

/-! ### laws_FnExactBuiltText: function 5 -/
def laws_FnExactBuiltText.j0 : Nat → Bool → Int → Int → ByteArray → Int → List (S24) → List ByteArray → List Int → List ByteArray → Int → Int → ByteArray → Int → List (S30) → List ByteArray → List Int → List ByteArray → Option (Bool)
 | 0, _, _, _, _, _, _, _, _, _, _, _, _, _, _, _, _, _ => none
 | k + 1, x34, x265000, x265001, x265002, x265003, x265004, x265005, x265006, x265007, x301000, x301001, x301002, x301003, x301004, x301005, x301006, x301007 => if x34 = true then (some false) else ((laws_toBuilt.f k x265000 x265001 x265002 x265003 x265004 x265005 x265006 x265007).bind fun bt303 => ((laws_eqBuilt.f k x301000 x301001 x301002 x301003 x301004 x301005 x301006 x301007 bt303.1 bt303.2.1 bt303.2.2.1 bt303.2.2.2.1 bt303.2.2.2.2.1 bt303.2.2.2.2.2.1 bt303.2.2.2.2.2.2.1 bt303.2.2.2.2.2.2.2).bind fun t319 => (if t319 = true then (some true) else (some false))))
def laws_FnExactBuiltText.f (k : Nat) (a0_0 : Int) (a0_1 : Int) (a0_2 : ByteArray) (a0_3 : Int) (l0_4 : List (S24)) (l0_5 : List ByteArray) (l0_6 : List Int) (l0_7 : List ByteArray) : Option (Bool) := (laws_szBuilt.f k a0_0 a0_1 a0_2 a0_3 l0_4 l0_5 l0_6 l0_7 1048576).bind fun t265 => (if t265 < 0 then (some true) else ((laws_toBuilt.f k a0_0 a0_1 a0_2 a0_3 l0_4 l0_5 l0_6 l0_7).bind fun bt266 => ((spec_BuiltText.f k bt266.1 bt266.2.1 bt266.2.2.1 bt266.2.2.2.1 bt266.2.2.2.2.1 bt266.2.2.2.2.2.1 bt266.2.2.2.2.2.2.1 bt266.2.2.2.2.2.2.2).bind fun bt282 => ((laws_toBuilt.f k a0_0 a0_1 a0_2 a0_3 l0_4 l0_5 l0_6 l0_7).bind fun bt284 => ((impl_BuiltText.f k bt284.1 bt284.2.1 bt284.2.2.1 bt284.2.2.2.1 bt284.2.2.2.2.1 bt284.2.2.2.2.2.1 bt284.2.2.2.2.2.2.1 bt284.2.2.2.2.2.2.2).bind fun bt301 => (if bt301.1.toList = bt282.1.toList then (laws_FnExactBuiltText.j0 k (bt301.2 != bt282.2) a0_0 a0_1 a0_2 a0_3 l0_4 l0_5 l0_6 l0_7 bt284.1 bt284.2.1 bt284.2.2.1 bt284.2.2.2.1 bt284.2.2.2.2.1 bt284.2.2.2.2.2.1 bt284.2.2.2.2.2.2.1 bt284.2.2.2.2.2.2.2) else (laws_FnExactBuiltText.j0 k true a0_0 a0_1 a0_2 a0_3 l0_4 l0_5 l0_6 l0_7 bt284.1 bt284.2.1 bt284.2.2.1 bt284.2.2.2.1 bt284.2.2.2.2.1 bt284.2.2.2.2.2.1 bt284.2.2.2.2.2.2.1 bt284.2.2.2.2.2.2.2)))))))
theorem laws_FnExactBuiltText.mono_l : ∀ k, (∀ y0 y1 y2 y3 y4 y5 y6 y7 y8 y9 y10 y11 y12 y13 y14 y15 y16, LeO (laws_FnExactBuiltText.j0 k y0 y1 y2 y3 y4 y5 y6 y7 y8 y9 y10 y11 y12 y13 y14 y15 y16) (laws_FnExactBuiltText.j0 (k + 1) y0 y1 y2 y3 y4 y5 y6 y7 y8 y9 y10 y11 y12 y13 y14 y15 y16))
 | 0 => fun _ _ _ _ _ _ _ _ _ _ _ _ _ _ _ _ _ r h => by simp [laws_FnExactBuiltText.j0] at h
 | k + 1 => by
  have ih0 := laws_FnExactBuiltText.mono_l k
  ·intro y0 y1 y2 y3 y4 y5 y6 y7 y8 y9 y10 y11 y12 y13 y14 y15 y16
   unfold laws_FnExactBuiltText.j0
   repeat' first
   | (with_reducible exact ih0 _ _ _ _ _ _ _ _ _ _ _ _ _ _ _ _ _)
   | (with_reducible exact impl_BuiltText.mono _ _ _ _ _ _ _ _ _)
   | (with_reducible exact laws_eqBuilt.mono _ _ _ _ _ _ _ _ _ _ _ _ _ _ _ _ _)
   | (with_reducible exact laws_szBuilt.mono _ _ _ _ _ _ _ _ _ _)
   | (with_reducible exact laws_toBuilt.mono _ _ _ _ _ _ _ _ _)
   | (with_reducible exact spec_BuiltText.mono _ _ _ _ _ _ _ _ _)
   | (with_reducible exact LeO.refl _)
   | (with_reducible exact LeO.none _)
   | (with_reducible refine LeO.ite ?_ ?_)
   | (with_reducible refine LeO.bind ?_ (fun _ => ?_))
   | exact ih0 _ _ _ _ _ _ _ _ _ _ _ _ _ _ _ _ _
   | exact impl_BuiltText.mono _ _ _ _ _ _ _ _ _
   | exact laws_eqBuilt.mono _ _ _ _ _ _ _ _ _ _ _ _ _ _ _ _ _
   | exact laws_szBuilt.mono _ _ _ _ _ _ _ _ _ _
   | exact laws_toBuilt.mono _ _ _ _ _ _ _ _ _
   | exact spec_BuiltText.mono _ _ _ _ _ _ _ _ _
   | exact LeO.none _
   | refine LeO.ite ?_ ?_
   | refine LeO.bind ?_ (fun _ => ?_)
theorem laws_FnExactBuiltText.mono : ∀ a0 a1 a2 a3 a4 a5 a6 a7 k, LeO (laws_FnExactBuiltText.f k a0 a1 a2 a3 a4 a5 a6 a7) (laws_FnExactBuiltText.f (k + 1) a0 a1 a2 a3 a4 a5 a6 a7) := by
 intro a0 a1 a2 a3 a4 a5 a6 a7 k
 have ih0 := laws_FnExactBuiltText.mono_l k
 unfold laws_FnExactBuiltText.f
 repeat' first
   | (with_reducible exact ih0 _ _ _ _ _ _ _ _ _ _ _ _ _ _ _ _ _)
   | (with_reducible exact impl_BuiltText.mono _ _ _ _ _ _ _ _ _)
   | (with_reducible exact laws_eqBuilt.mono _ _ _ _ _ _ _ _ _ _ _ _ _ _ _ _ _)
   | (with_reducible exact laws_szBuilt.mono _ _ _ _ _ _ _ _ _ _)
   | (with_reducible exact laws_toBuilt.mono _ _ _ _ _ _ _ _ _)
   | (with_reducible exact spec_BuiltText.mono _ _ _ _ _ _ _ _ _)
   | (with_reducible exact LeO.refl _)
   | (with_reducible exact LeO.none _)
   | (with_reducible refine LeO.ite ?_ ?_)
   | (with_reducible refine LeO.bind ?_ (fun _ => ?_))
   | exact ih0 _ _ _ _ _ _ _ _ _ _ _ _ _ _ _ _ _
   | exact impl_BuiltText.mono _ _ _ _ _ _ _ _ _
   | exact laws_eqBuilt.mono _ _ _ _ _ _ _ _ _ _ _ _ _ _ _ _ _
   | exact laws_szBuilt.mono _ _ _ _ _ _ _ _ _ _
   | exact laws_toBuilt.mono _ _ _ _ _ _ _ _ _
   | exact spec_BuiltText.mono _ _ _ _ _ _ _ _ _
   | exact LeO.none _
   | refine LeO.ite ?_ ?_
   | refine LeO.bind ?_ (fun _ => ?_)
set_option maxHeartbeats 8000000 in
set_option maxRecDepth 100000 in
theorem laws_FnExactBuiltText.calls (k : Nat) (a0_0 : Int) (a0_1 : Int) (a0_2 : ByteArray) (a0_3 : Int) (A0_4 : Option Addr) (c0_4 : Nat) (l0_4 : List (S24)) (A0_5 : Option Addr) (c0_5 : Nat) (l0_5 : List ByteArray) (A0_6 : Option Addr) (c0_6 : Nat) (l0_6 : List Int) (A0_7 : Option Addr) (c0_7 : Nat) (l0_7 : List ByteArray) (r : Bool) (w : World) (hr0_4 : Kd.C k24 w A0_4 l0_4.length l0_4) (hc0_4 : l0_4.length ≤ c0_4) (hr0_5 : Kd.C Kd.string w A0_5 l0_5.length l0_5) (hc0_5 : l0_5.length ≤ c0_5) (hr0_6 : Kd.C (Kd.int .i64) w A0_6 l0_6.length l0_6) (hc0_6 : l0_6.length ≤ c0_6) (hr0_7 : Kd.C Kd.string w A0_7 l0_7.length l0_7) (hc0_7 : l0_7.length ≤ c0_7) (hLW : LW w) (h : laws_FnExactBuiltText.f k a0_0 a0_1 a0_2 a0_3 l0_4 l0_5 l0_6 l0_7 = some r) :
  Calls Tryd.prog 5 #[.agg #[.int .i64 a0_0, .int .i64 a0_1, .string a0_2, .int .i64 a0_3, .slice A0_4 l0_4.length c0_4, .slice A0_5 l0_5.length c0_5, .slice A0_6 l0_6.length c0_6, .slice A0_7 l0_7.length c0_7]] w fun e w' => e = .returned (.bool r) ∧ Below w.heap.size w w' := by
 have hu51 := Tryd.underlying51
 have hu59 := Tryd.underlying59
 have HR0_4 := aM_ hr0_4
 have HC0_4 := aM_ hc0_4
 clear hr0_4 hc0_4
 have HR0_5 := aM_ hr0_5
 have HC0_5 := aM_ hc0_5
 clear hr0_5 hc0_5
 have HR0_6 := aM_ hr0_6
 have HC0_6 := aM_ hc0_6
 clear hr0_6 hc0_6
 have HR0_7 := aM_ hr0_7
 have HC0_7 := aM_ hc0_7
 clear hr0_7 hc0_7
 have HLW := aM_ hLW
 clear hLW
 have HB := aM_ (Below.refl w.heap.size w)
 have H : ((laws_szBuilt.f k a0_0 a0_1 a0_2 a0_3 l0_4 l0_5 l0_6 l0_7 1048576).bind fun t265 => (if t265 < 0 then (some true) else ((laws_toBuilt.f k a0_0 a0_1 a0_2 a0_3 l0_4 l0_5 l0_6 l0_7).bind fun bt266 => ((spec_BuiltText.f k bt266.1 bt266.2.1 bt266.2.2.1 bt266.2.2.2.1 bt266.2.2.2.2.1 bt266.2.2.2.2.2.1 bt266.2.2.2.2.2.2.1 bt266.2.2.2.2.2.2.2).bind fun bt282 => ((laws_toBuilt.f k a0_0 a0_1 a0_2 a0_3 l0_4 l0_5 l0_6 l0_7).bind fun bt284 => ((impl_BuiltText.f k bt284.1 bt284.2.1 bt284.2.2.1 bt284.2.2.2.1 bt284.2.2.2.2.1 bt284.2.2.2.2.2.1 bt284.2.2.2.2.2.2.1 bt284.2.2.2.2.2.2.2).bind fun bt301 => (if bt301.1.toList = bt282.1.toList then (laws_FnExactBuiltText.j0 k (bt301.2 != bt282.2) a0_0 a0_1 a0_2 a0_3 l0_4 l0_5 l0_6 l0_7 bt284.1 bt284.2.1 bt284.2.2.1 bt284.2.2.2.1 bt284.2.2.2.2.1 bt284.2.2.2.2.2.1 bt284.2.2.2.2.2.2.1 bt284.2.2.2.2.2.2.2) else (laws_FnExactBuiltText.j0 k true a0_0 a0_1 a0_2 a0_3 l0_4 l0_5 l0_6 l0_7 bt284.1 bt284.2.1 bt284.2.2.1 bt284.2.2.2.1 bt284.2.2.2.2.1 bt284.2.2.2.2.2.1 bt284.2.2.2.2.2.2.1 bt284.2.2.2.2.2.2.2)))))))) = some r := h
 clear h
 replace H := Option.bind_eq_some_iff.mp H
 obtain ⟨t265, A20, H⟩ := H
 replace H : (if t265 < 0 then (some true) else ((laws_toBuilt.f k a0_0 a0_1 a0_2 a0_3 l0_4 l0_5 l0_6 l0_7).bind fun bt266 => ((spec_BuiltText.f k bt266.1 bt266.2.1 bt266.2.2.1 bt266.2.2.2.1 bt266.2.2.2.2.1 bt266.2.2.2.2.2.1 bt266.2.2.2.2.2.2.1 bt266.2.2.2.2.2.2.2).bind fun bt282 => ((laws_toBuilt.f k a0_0 a0_1 a0_2 a0_3 l0_4 l0_5 l0_6 l0_7).bind fun bt284 => ((impl_BuiltText.f k bt284.1 bt284.2.1 bt284.2.2.1 bt284.2.2.2.1 bt284.2.2.2.2.1 bt284.2.2.2.2.2.1 bt284.2.2.2.2.2.2.1 bt284.2.2.2.2.2.2.2).bind fun bt301 => (if bt301.1.toList = bt282.1.toList then (laws_FnExactBuiltText.j0 k (bt301.2 != bt282.2) a0_0 a0_1 a0_2 a0_3 l0_4 l0_5 l0_6 l0_7 bt284.1 bt284.2.1 bt284.2.2.1 bt284.2.2.2.1 bt284.2.2.2.2.1 bt284.2.2.2.2.2.1 bt284.2.2.2.2.2.2.1 bt284.2.2.2.2.2.2.2) else (laws_FnExactBuiltText.j0 k true a0_0 a0_1 a0_2 a0_3 l0_4 l0_5 l0_6 l0_7 bt284.1 bt284.2.1 bt284.2.2.1 bt284.2.2.2.1 bt284.2.2.2.2.1 bt284.2.2.2.2.2.1 bt284.2.2.2.2.2.2.1 bt284.2.2.2.2.2.2.2))))))) = some r := H
 have A2 := aM_ A20
 clear A20
 by_cases c3 : t265 < 0
 ·rw [if_pos c3] at H
  have c3b0 : decide (t265 < 0) = true := decide_eq_true c3
  clear c3
  obtain rfl := Option.some.inj H
  go_enter Tryd.func5, Tryd.ntmps5
  go_wp2_with (first | ((with_reducible refine gate_dst (N := 1) rfl ?_); refine box_event ?hg (N := 1) ?hd (cs := #[.int .i64 a0_0, .int .i64 a0_1, .string a0_2, .int .i64 a0_3, .slice A0_4 l0_4.length c0_4, .slice A0_5 l0_5.length c0_5, .slice A0_6 l0_6.length c0_6, .slice A0_7 l0_7.length c0_7]) (t := 51) ?hr ?_; (case hd => rfl); (case hg => rfl); (case hr => first | (go_simp; done) | (go_simp; rfl)); intro gb264 hg w4 hbox hb; have n0_ := aM_ (below_step (by repeat (first | (with_reducible first | exact HB.out | apply bA_ | apply bN_ | apply bD_) | exact HB.out)) hb); have n1_ := aM_ (hbox); have n2_ := aM_ ((by rw [hg]; exact (below_size (by repeat (first | (with_reducible first | exact HB.out | apply bA_ | apply bN_ | apply bD_) | exact HB.out))) : w.heap.size ≤ gb264)); have n3_ := aM_ ((by rw [hg]; exact (below_size (by repeat (first | (with_reducible first | exact HB.out | apply bA_ | apply bN_ | apply bD_) | exact HB.out))) : w.heap.size ≤ gb264)); clear HB; have HB := n0_; have BK264 := n1_; have GW264 := n2_; have GE264 := n3_; clear n0_ n1_ n2_ n3_; clear hb hbox hg; have hcz5_0 : w4.cell? ⟨gb264, 0, none⟩ = some (.int .i64 a0_0) := (bC_ BK264.out 0).trans rfl; have hcz5_1 : w4.cell? ⟨gb264, 1, none⟩ = some (.int .i64 a0_1) := (bC_ BK264.out 1).trans rfl; have hcz5_2 : w4.cell? ⟨gb264, 2, none⟩ = some (.string a0_2) := (bC_ BK264.out 2).trans rfl; have hcz5_3 : w4.cell? ⟨gb264, 3, none⟩ = some (.int .i64 a0_3) := (bC_ BK264.out 3).trans rfl; have hcz5_4 : w4.cell? ⟨gb264, 4, none⟩ = some (.slice A0_4 l0_4.length c0_4) := (bC_ BK264.out 4).trans rfl; have hcz5_5 : w4.cell? ⟨gb264, 5, none⟩ = some (.slice A0_5 l0_5.length c0_5) := (bC_ BK264.out 5).trans rfl; have hcz5_6 : w4.cell? ⟨gb264, 6, none⟩ = some (.slice A0_6 l0_6.length c0_6) := (bC_ BK264.out 6).trans rfl; have hcz5_7 : w4.cell? ⟨gb264, 7, none⟩ = some (.slice A0_7 l0_7.length c0_7) := (bC_ BK264.out 7).trans rfl; have hfz5_0 := bF_ BK264.out 0; have hfz5_1 := bF_ BK264.out 1; have hfz5_2 := bF_ BK264.out 2; have hfz5_3 := bF_ BK264.out 3; have hfz5_4 := bF_ BK264.out 4; have hfz5_5 := bF_ BK264.out 5; have hfz5_6 := bF_ BK264.out 6; have hfz5_7 := bF_ BK264.out 7) | ((with_reducible refine gate_callee (f := 19) rfl ?_); refine goesL_ (some 11) rfl rfl Tryd.func19 (by kernel_rfl) rfl #[.agg #[.int .i64 a0_0, .int .i64 a0_1, .string a0_2, .int .i64 a0_3, .slice A0_4 l0_4.length c0_4, .slice A0_5 l0_5.length c0_5, .slice A0_6 l0_6.length c0_6, .slice A0_7 l0_7.length c0_7], .int .i64 1048576] rfl (by (try simp only [List.map_toArray, List.map_cons, List.map_nil]); first | done | rfl | (simp only [List.length_drop, List.length_take]; rfl)) ?_; (with_reducible refine (laws_szBuilt.calls k a0_0 a0_1 a0_2 a0_3 _ _ l0_4 _ _ l0_5 _ _ l0_6 _ _ l0_7 1048576 t265 _ ?side1 ?side2 ?side3 ?side4 ?side5 ?side6 ?side7 ?side8 A2.out).mono ?_); (case side1 => repeat (first | exact (Kd.C_below HR0_4.out HB.out) | (with_reducible refine Kd.C_alloc ?_ _) | (with_reducible refine Kd.C_drewN ?_ _) | (with_reducible refine Kd.C_drew ?_))); (case side2 => exact HC0_4.out); (case side3 => repeat (first | exact (Kd.C_below HR0_5.out HB.out) | (with_reducible refine Kd.C_alloc ?_ _) | (with_reducible refine Kd.C_drewN ?_ _) | (with_reducible refine Kd.C_drew ?_))); (case side4 => exact HC0_5.out); (case side5 => repeat (first | exact (Kd.C_below HR0_6.out HB.out) | (with_reducible refine Kd.C_alloc ?_ _) | (with_reducible refine Kd.C_drewN ?_ _) | (with_reducible refine Kd.C_drew ?_))); (case side6 => exact HC0_6.out); (case side7 => repeat (first | exact (Kd.C_below HR0_7.out HB.out) | (with_reducible refine Kd.C_alloc ?_ _) | (with_reducible refine Kd.C_drewN ?_ _) | (with_reducible refine Kd.C_drew ?_))); (case side8 => exact HC0_7.out); rintro e w6 ⟨rfl, hb⟩; refine ⟨_, rfl, ?_⟩; have n0_ := aM_ (blk_below (g := gb264) (o := .cells #[.int .i64 a0_0, .int .i64 a0_1, .string a0_2, .int .i64 a0_3, .slice A0_4 l0_4.length c0_4, .slice A0_5 l0_5.length c0_5, .slice A0_6 l0_6.length c0_6, .slice A0_7 l0_7.length c0_7] 51 (0, 0)) (by (with_reducible repeat (first | refine blk_drewN ?_ _ | refine blk_drew ?_ | refine blk_alloc ?_ _)); exact BK264.out) hb); have n1_ := aM_ (below_step (by repeat (first | (with_reducible first | exact HB.out | apply bA_ | apply bN_ | apply bD_ | refine below_set ?_ GE264.out) | exact HB.out)) hb); clear BK264; clear HB; have BK264 := n0_; have HB := n1_; clear n0_ n1_; (try clear hb); (try clear hb2); (try clear hk); (try clear hi)))
  go_ret
  exact ⟨by first | rfl | (simp [errW_none, errW_some] <;> rfl) | (simp [*, errW_none, errW_some] <;> rfl), by repeat (first | (with_reducible first | exact HB.out | apply bA_ | apply bN_ | apply bD_ | refine below_set ?_ GE264.out) | exact HB.out)⟩
 ·rw [if_neg c3] at H
  have c3b0 : decide (t265 < 0) = false := decide_eq_false c3
  clear c3
  replace H := Option.bind_eq_some_iff.mp H
  obtain ⟨⟨t266, t267, t268, t269, t270, t273, t276, t279⟩, A70, H⟩ := H
  replace H : ((spec_BuiltText.f k t266 t267 t268 t269 t270 t273 t276 t279).bind fun bt282 => ((laws_toBuilt.f k a0_0 a0_1 a0_2 a0_3 l0_4 l0_5 l0_6 l0_7).bind fun bt284 => ((impl_BuiltText.f k bt284.1 bt284.2.1 bt284.2.2.1 bt284.2.2.2.1 bt284.2.2.2.2.1 bt284.2.2.2.2.2.1 bt284.2.2.2.2.2.2.1 bt284.2.2.2.2.2.2.2).bind fun bt301 => (if bt301.1.toList = bt282.1.toList then (laws_FnExactBuiltText.j0 k (bt301.2 != bt282.2) a0_0 a0_1 a0_2 a0_3 l0_4 l0_5 l0_6 l0_7 bt284.1 bt284.2.1 bt284.2.2.1 bt284.2.2.2.1 bt284.2.2.2.2.1 bt284.2.2.2.2.2.1 bt284.2.2.2.2.2.2.1 bt284.2.2.2.2.2.2.2) else (laws_FnExactBuiltText.j0 k true a0_0 a0_1 a0_2 a0_3 l0_4 l0_5 l0_6 l0_7 bt284.1 bt284.2.1 bt284.2.2.1 bt284.2.2.2.1 bt284.2.2.2.2.1 bt284.2.2.2.2.2.1 bt284.2.2.2.2.2.2.1 bt284.2.2.2.2.2.2.2))))) = some r := H
  have A7 := aM_ A70
  clear A70
  replace H := Option.bind_eq_some_iff.mp H
  obtain ⟨⟨t282, t283⟩, A80, H⟩ := H
  replace H : ((laws_toBuilt.f k a0_0 a0_1 a0_2 a0_3 l0_4 l0_5 l0_6 l0_7).bind fun bt284 => ((impl_BuiltText.f k bt284.1 bt284.2.1 bt284.2.2.1 bt284.2.2.2.1 bt284.2.2.2.2.1 bt284.2.2.2.2.2.1 bt284.2.2.2.2.2.2.1 bt284.2.2.2.2.2.2.2).bind fun bt301 => (if bt301.1.toList = t282.toList then (laws_FnExactBuiltText.j0 k (bt301.2 != t283) a0_0 a0_1 a0_2 a0_3 l0_4 l0_5 l0_6 l0_7 bt284.1 bt284.2.1 bt284.2.2.1 bt284.2.2.2.1 bt284.2.2.2.2.1 bt284.2.2.2.2.2.1 bt284.2.2.2.2.2.2.1 bt284.2.2.2.2.2.2.2) else (laws_FnExactBuiltText.j0 k true a0_0 a0_1 a0_2 a0_3 l0_4 l0_5 l0_6 l0_7 bt284.1 bt284.2.1 bt284.2.2.1 bt284.2.2.2.1 bt284.2.2.2.2.1 bt284.2.2.2.2.2.1 bt284.2.2.2.2.2.2.1 bt284.2.2.2.2.2.2.2)))) = some r := H
  have A8 := aM_ A80
  clear A80
  replace H := Option.bind_eq_some_iff.mp H
  obtain ⟨⟨t284, t285, t286, t287, t288, t291, t294, t297⟩, A90, H⟩ := H
  replace H : ((impl_BuiltText.f k t284 t285 t286 t287 t288 t291 t294 t297).bind fun bt301 => (if bt301.1.toList = t282.toList then (laws_FnExactBuiltText.j0 k (bt301.2 != t283) a0_0 a0_1 a0_2 a0_3 l0_4 l0_5 l0_6 l0_7 t284 t285 t286 t287 t288 t291 t294 t297) else (laws_FnExactBuiltText.j0 k true a0_0 a0_1 a0_2 a0_3 l0_4 l0_5 l0_6 l0_7 t284 t285 t286 t287 t288 t291 t294 t297))) = some r := H
  have A9 := aM_ A90
  clear A90
  replace H := Option.bind_eq_some_iff.mp H
  obtain ⟨⟨t301, t302⟩, A100, H⟩ := H
  replace H : (if t301.toList = t282.toList then (laws_FnExactBuiltText.j0 k (t302 != t283) a0_0 a0_1 a0_2 a0_3 l0_4 l0_5 l0_6 l0_7 t284 t285 t286 t287 t288 t291 t294 t297) else (laws_FnExactBuiltText.j0 k true a0_0 a0_1 a0_2 a0_3 l0_4 l0_5 l0_6 l0_7 t284 t285 t286 t287 t288 t291 t294 t297)) = some r := H
  have A10 := aM_ A100
  clear A100
  have HC11 := aM_ H
  clear H
  go_enter Tryd.func5, Tryd.ntmps5
  go_upto_region 8 with (first | ((with_reducible refine gate_dst (N := 1) rfl ?_); refine box_event ?hg (N := 1) ?hd (cs := #[.int .i64 a0_0, .int .i64 a0_1, .string a0_2, .int .i64 a0_3, .slice A0_4 l0_4.length c0_4, .slice A0_5 l0_5.length c0_5, .slice A0_6 l0_6.length c0_6, .slice A0_7 l0_7.length c0_7]) (t := 51) ?hr ?_; (case hd => rfl); (case hg => rfl); (case hr => first | (go_simp; done) | (go_simp; rfl)); intro gb264 hg w12 hbox hb; have n0_ := aM_ (below_step (by repeat (first | (with_reducible first | exact HB.out | apply bA_ | apply bN_ | apply bD_) | exact HB.out)) hb); have n1_ := aM_ (hbox); have n2_ := aM_ ((by rw [hg]; exact (below_size (by repeat (first | (with_reducible first | exact HB.out | apply bA_ | apply bN_ | apply bD_) | exact HB.out))) : w.heap.size ≤ gb264)); have n3_ := aM_ ((by rw [hg]; exact (below_size (by repeat (first | (with_reducible first | exact HB.out | apply bA_ | apply bN_ | apply bD_) | exact HB.out))) : w.heap.size ≤ gb264)); clear HB; have HB := n0_; have BK264 := n1_; have GW264 := n2_; have GE264 := n3_; clear n0_ n1_ n2_ n3_; clear hb hbox hg; have hcz13_0 : w12.cell? ⟨gb264, 0, none⟩ = some (.int .i64 a0_0) := (bC_ BK264.out 0).trans rfl; have hcz13_1 : w12.cell? ⟨gb264, 1, none⟩ = some (.int .i64 a0_1) := (bC_ BK264.out 1).trans rfl; have hcz13_2 : w12.cell? ⟨gb264, 2, none⟩ = some (.string a0_2) := (bC_ BK264.out 2).trans rfl; have hcz13_3 : w12.cell? ⟨gb264, 3, none⟩ = some (.int .i64 a0_3) := (bC_ BK264.out 3).trans rfl; have hcz13_4 : w12.cell? ⟨gb264, 4, none⟩ = some (.slice A0_4 l0_4.length c0_4) := (bC_ BK264.out 4).trans rfl; have hcz13_5 : w12.cell? ⟨gb264, 5, none⟩ = some (.slice A0_5 l0_5.length c0_5) := (bC_ BK264.out 5).trans rfl; have hcz13_6 : w12.cell? ⟨gb264, 6, none⟩ = some (.slice A0_6 l0_6.length c0_6) := (bC_ BK264.out 6).trans rfl; have hcz13_7 : w12.cell? ⟨gb264, 7, none⟩ = some (.slice A0_7 l0_7.length c0_7) := (bC_ BK264.out 7).trans rfl; have hfz13_0 := bF_ BK264.out 0; have hfz13_1 := bF_ BK264.out 1; have hfz13_2 := bF_ BK264.out 2; have hfz13_3 := bF_ BK264.out 3; have hfz13_4 := bF_ BK264.out 4; have hfz13_5 := bF_ BK264.out 5; have hfz13_6 := bF_ BK264.out 6; have hfz13_7 := bF_ BK264.out 7) | ((with_reducible refine gate_callee (f := 19) rfl ?_); refine goesL_ (some 11) rfl rfl Tryd.func19 (by kernel_rfl) rfl #[.agg #[.int .i64 a0_0, .int .i64 a0_1, .string a0_2, .int .i64 a0_3, .slice A0_4 l0_4.length c0_4, .slice A0_5 l0_5.length c0_5, .slice A0_6 l0_6.length c0_6, .slice A0_7 l0_7.length c0_7], .int .i64 1048576] rfl (by (try simp only [List.map_toArray, List.map_cons, List.map_nil]); first | done | rfl | (simp only [List.length_drop, List.length_take]; rfl)) ?_; (with_reducible refine (laws_szBuilt.calls k a0_0 a0_1 a0_2 a0_3 _ _ l0_4 _ _ l0_5 _ _ l0_6 _ _ l0_7 1048576 t265 _ ?side1 ?side2 ?side3 ?side4 ?side5 ?side6 ?side7 ?side8 A2.out).mono ?_); (case side1 => repeat (first | exact (Kd.C_below HR0_4.out HB.out) | (with_reducible refine Kd.C_alloc ?_ _) | (with_reducible refine Kd.C_drewN ?_ _) | (with_reducible refine Kd.C_drew ?_))); (case side2 => exact HC0_4.out); (case side3 => repeat (first | exact (Kd.C_below HR0_5.out HB.out) | (with_reducible refine Kd.C_alloc ?_ _) | (with_reducible refine Kd.C_drewN ?_ _) | (with_reducible refine Kd.C_drew ?_))); (case side4 => exact HC0_5.out); (case side5 => repeat (first | exact (Kd.C_below HR0_6.out HB.out) | (with_reducible refine Kd.C_alloc ?_ _) | (with_reducible refine Kd.C_drewN ?_ _) | (with_reducible refine Kd.C_drew ?_))); (case side6 => exact HC0_6.out); (case side7 => repeat (first | exact (Kd.C_below HR0_7.out HB.out) | (with_reducible refine Kd.C_alloc ?_ _) | (with_reducible refine Kd.C_drewN ?_ _) | (with_reducible refine Kd.C_drew ?_))); (case side8 => exact HC0_7.out); rintro e w14 ⟨rfl, hb⟩; refine ⟨_, rfl, ?_⟩; have n0_ := aM_ (blk_below (g := gb264) (o := .cells #[.int .i64 a0_0, .int .i64 a0_1, .string a0_2, .int .i64 a0_3, .slice A0_4 l0_4.length c0_4, .slice A0_5 l0_5.length c0_5, .slice A0_6 l0_6.length c0_6, .slice A0_7 l0_7.length c0_7] 51 (0, 0)) (by (with_reducible repeat (first | refine blk_drewN ?_ _ | refine blk_drew ?_ | refine blk_alloc ?_ _)); exact BK264.out) hb); have n1_ := aM_ (below_step (by repeat (first | (with_reducible first | exact HB.out | apply bA_ | apply bN_ | apply bD_ | refine below_set ?_ GE264.out) | exact HB.out)) hb); clear BK264; clear HB; have BK264 := n0_; have HB := n1_; clear n0_ n1_; (try clear hb); (try clear hb2); (try clear hk); (try clear hi); have hcz15_0 : w14.cell? ⟨gb264, 0, none⟩ = some (.int .i64 a0_0) := (bC_ BK264.out 0).trans rfl; have hcz15_1 : w14.cell? ⟨gb264, 1, none⟩ = some (.int .i64 a0_1) := (bC_ BK264.out 1).trans rfl; have hcz15_2 : w14.cell? ⟨gb264, 2, none⟩ = some (.string a0_2) := (bC_ BK264.out 2).trans rfl; have hcz15_3 : w14.cell? ⟨gb264, 3, none⟩ = some (.int .i64 a0_3) := (bC_ BK264.out 3).trans rfl; have hcz15_4 : w14.cell? ⟨gb264, 4, none⟩ = some (.slice A0_4 l0_4.length c0_4) := (bC_ BK264.out 4).trans rfl; have hcz15_5 : w14.cell? ⟨gb264, 5, none⟩ = some (.slice A0_5 l0_5.length c0_5) := (bC_ BK264.out 5).trans rfl; have hcz15_6 : w14.cell? ⟨gb264, 6, none⟩ = some (.slice A0_6 l0_6.length c0_6) := (bC_ BK264.out 6).trans rfl; have hcz15_7 : w14.cell? ⟨gb264, 7, none⟩ = some (.slice A0_7 l0_7.length c0_7) := (bC_ BK264.out 7).trans rfl; have hfz15_0 := bF_ BK264.out 0; have hfz15_1 := bF_ BK264.out 1; have hfz15_2 := bF_ BK264.out 2; have hfz15_3 := bF_ BK264.out 3; have hfz15_4 := bF_ BK264.out 4; have hfz15_5 := bF_ BK264.out 5; have hfz15_6 := bF_ BK264.out 6; have hfz15_7 := bF_ BK264.out 7) | ((with_reducible refine gate_callee (f := 21) rfl ?_); refine goesL_ (some 16) rfl rfl Tryd.func21 (by kernel_rfl) rfl #[.agg #[.int .i64 a0_0, .int .i64 a0_1, .string a0_2, .int .i64 a0_3, .slice A0_4 l0_4.length c0_4, .slice A0_5 l0_5.length c0_5, .slice A0_6 l0_6.length c0_6, .slice A0_7 l0_7.length c0_7]] rfl (by (try simp only [List.map_toArray, List.map_cons, List.map_nil]); first | done | rfl | (simp only [List.length_drop, List.length_take]; rfl)) ?_; (with_reducible refine (laws_toBuilt.calls k a0_0 a0_1 a0_2 a0_3 _ _ l0_4 _ _ l0_5 _ _ l0_6 _ _ l0_7 t266 t267 t268 t269 t270 t273 t276 t279 _ ?side1 ?side2 ?side3 ?side4 ?side5 ?side6 ?side7 ?side8 A7.out).mono ?_); (case side1 => repeat (first | exact (Kd.C_below HR0_4.out HB.out) | (with_reducible refine Kd.C_alloc ?_ _) | (with_reducible refine Kd.C_drewN ?_ _) | (with_reducible refine Kd.C_drew ?_))); (case side2 => exact HC0_4.out); (case side3 => repeat (first | exact (Kd.C_below HR0_5.out HB.out) | (with_reducible refine Kd.C_alloc ?_ _) | (with_reducible refine Kd.C_drewN ?_ _) | (with_reducible refine Kd.C_drew ?_))); (case side4 => exact HC0_5.out); (case side5 => repeat (first | exact (Kd.C_below HR0_6.out HB.out) | (with_reducible refine Kd.C_alloc ?_ _) | (with_reducible refine Kd.C_drewN ?_ _) | (with_reducible refine Kd.C_drew ?_))); (case side6 => exact HC0_6.out); (case side7 => repeat (first | exact (Kd.C_below HR0_7.out HB.out) | (with_reducible refine Kd.C_alloc ?_ _) | (with_reducible refine Kd.C_drewN ?_ _) | (with_reducible refine Kd.C_drew ?_))); (case side8 => exact HC0_7.out); rintro e w16 ⟨v271, v274, v277, v280, rfl, ho0, ho1, ho2, ho3, hb⟩; refine ⟨_, rfl, ?_⟩; have n0_ := aM_ (Kd.S_lower ho0 (below_size (by repeat (first | (with_reducible first | exact HB.out | apply bA_ | apply bN_ | apply bD_ | refine below_set ?_ GE264.out) | exact HB.out)))); have n1_ := aM_ (Kd.R_lower ho1 (below_size (by repeat (first | (with_reducible first | exact HB.out | apply bA_ | apply bN_ | apply bD_ | refine below_set ?_ GE264.out) | exact HB.out)))); have n2_ := aM_ (Kd.R_lower ho2 (below_size (by repeat (first | (with_reducible first | exact HB.out | apply bA_ | apply bN_ | apply bD_ | refine below_set ?_ GE264.out) | exact HB.out)))); have n3_ := aM_ (Kd.R_lower ho3 (below_size (by repeat (first | (with_reducible first | exact HB.out | apply bA_ | apply bN_ | apply bD_ | refine below_set ?_ GE264.out) | exact HB.out)))); have n4_ := aM_ (blk_below (g := gb264) (o := .cells #[.int .i64 a0_0, .int .i64 a0_1, .string a0_2, .int .i64 a0_3, .slice A0_4 l0_4.length c0_4, .slice A0_5 l0_5.length c0_5, .slice A0_6 l0_6.length c0_6, .slice A0_7 l0_7.length c0_7] 51 (0, 0)) (by (with_reducible repeat (first | refine blk_drewN ?_ _ | refine blk_drew ?_ | refine blk_alloc ?_ _)); exact BK264.out) hb); have n5_ := aM_ (below_step (by repeat (first | (with_reducible first | exact HB.out | apply bA_ | apply bN_ | apply bD_ | refine below_set ?_ GE264.out) | exact HB.out)) hb); clear BK264; clear HB; have HO272 := n0_; have HO275 := n1_; have HO278 := n2_; have HO281 := n3_; have BK264 := n4_; have HB := n5_; clear n0_ n1_ n2_ n3_ n4_ n5_; (try clear hb); (try clear hb2); (try clear hk); (try clear hi); (try clear ho0); (try clear ho1); (try clear ho2); (try clear ho3); obtain ⟨Ao17, co17, eo17⟩ := Kd.S_slice HO272.out; subst eo17; obtain ⟨Ao18, co18, eo18⟩ := Kd.R_slice HO275.out; subst eo18; obtain ⟨Ao19, co19, eo19⟩ := Kd.R_slice HO278.out; subst eo19; obtain ⟨Ao20, co20, eo20⟩ := Kd.R_slice HO281.out; subst eo20) | ((with_reducible refine gate_callee (f := 20) rfl ?_); refine goesL_ (some 17) rfl rfl Tryd.func20 (by kernel_rfl) rfl #[.agg #[.int .i64 t266, .int .i64 t267, .string t268, .int .i64 t269, .slice Ao17 t270.length co17, .slice Ao18 t273.length co18, .slice Ao19 t276.length co19, .slice Ao20 t279.length co20]] rfl (by (try simp only [List.map_toArray, List.map_cons, List.map_nil]); first | done | rfl | (simp only [List.length_drop, List.length_take]; rfl)) ?_; (with_reducible refine (spec_BuiltText.calls k t266 t267 t268 t269 _ _ t270 _ _ t273 _ _ t276 _ _ t279 t282 t283 _ ?side1 ?side2 ?side3 ?side4 ?side5 ?side6 ?side7 ?side8 A8.out).mono ?_); (case side1 => repeat (first | exact (Kd.S_reads' HO272.out).2.2 | (with_reducible refine Kd.C_alloc ?_ _) | (with_reducible refine Kd.C_drewN ?_ _) | (with_reducible refine Kd.C_drew ?_))); (case side2 => exact (Kd.S_reads' HO272.out).2.1); (case side3 => repeat (first | exact (Kd.R_reads' HO275.out).2.2 | (with_reducible refine Kd.C_alloc ?_ _) | (with_reducible refine Kd.C_drewN ?_ _) | (with_reducible refine Kd.C_drew ?_))); (case side4 => exact (Kd.R_reads' HO275.out).2.1); (case side5 => repeat (first | exact (Kd.R_reads' HO278.out).2.2 | (with_reducible refine Kd.C_alloc ?_ _) | (with_reducible refine Kd.C_drewN ?_ _) | (with_reducible refine Kd.C_drew ?_))); (case side6 => exact (Kd.R_reads' HO278.out).2.1); (case side7 => repeat (first | exact (Kd.R_reads' HO281.out).2.2 | (with_reducible refine Kd.C_alloc ?_ _) | (with_reducible refine Kd.C_drewN ?_ _) | (with_reducible refine Kd.C_drew ?_))); (case side8 => exact (Kd.R_reads' HO281.out).2.1); rintro e w21 ⟨rfl, hb⟩; refine ⟨_, rfl, ?_⟩; have n0_ := aM_ (Kd.S_below (by (with_reducible repeat (first | apply Kd.S_alloc | apply Kd.S_drewN | apply Kd.S_drew)); exact HO272.out) hb); have n1_ := aM_ (Kd.R_below (by (with_reducible repeat (first | apply Kd.R_alloc | apply Kd.R_drewN | apply Kd.R_drew)); exact HO275.out) hb); have n2_ := aM_ (Kd.R_below (by (with_reducible repeat (first | apply Kd.R_alloc | apply Kd.R_drewN | apply Kd.R_drew)); exact HO278.out) hb); have n3_ := aM_ (Kd.R_below (by (with_reducible repeat (first | apply Kd.R_alloc | apply Kd.R_drewN | apply Kd.R_drew)); exact HO281.out) hb); have n4_ := aM_ (blk_below (g := gb264) (o := .cells #[.int .i64 a0_0, .int .i64 a0_1, .string a0_2, .int .i64 a0_3, .slice A0_4 l0_4.length c0_4, .slice A0_5 l0_5.length c0_5, .slice A0_6 l0_6.length c0_6, .slice A0_7 l0_7.length c0_7] 51 (0, 0)) (by (with_reducible repeat (first | refine blk_drewN ?_ _ | refine blk_drew ?_ | refine blk_alloc ?_ _)); exact BK264.out) hb); have n5_ := aM_ (below_step (by repeat (first | (with_reducible first | exact HB.out | apply bA_ | apply bN_ | apply bD_ | refine below_set ?_ GE264.out) | exact HB.out)) hb); clear HO272; clear HO275; clear HO278; clear HO281; clear BK264; clear HB; have HO272 := n0_; have HO275 := n1_; have HO278 := n2_; have HO281 := n3_; have BK264 := n4_; have HB := n5_; clear n0_ n1_ n2_ n3_ n4_ n5_; (try clear hb); (try clear hb2); (try clear hk); (try clear hi); have hcz22_0 : w21.cell? ⟨gb264, 0, none⟩ = some (.int .i64 a0_0) := (bC_ BK264.out 0).trans rfl; have hcz22_1 : w21.cell? ⟨gb264, 1, none⟩ = some (.int .i64 a0_1) := (bC_ BK264.out 1).trans rfl; have hcz22_2 : w21.cell? ⟨gb264, 2, none⟩ = some (.string a0_2) := (bC_ BK264.out 2).trans rfl; have hcz22_3 : w21.cell? ⟨gb264, 3, none⟩ = some (.int .i64 a0_3) := (bC_ BK264.out 3).trans rfl; have hcz22_4 : w21.cell? ⟨gb264, 4, none⟩ = some (.slice A0_4 l0_4.length c0_4) := (bC_ BK264.out 4).trans rfl; have hcz22_5 : w21.cell? ⟨gb264, 5, none⟩ = some (.slice A0_5 l0_5.length c0_5) := (bC_ BK264.out 5).trans rfl; have hcz22_6 : w21.cell? ⟨gb264, 6, none⟩ = some (.slice A0_6 l0_6.length c0_6) := (bC_ BK264.out 6).trans rfl; have hcz22_7 : w21.cell? ⟨gb264, 7, none⟩ = some (.slice A0_7 l0_7.length c0_7) := (bC_ BK264.out 7).trans rfl; have hfz22_0 := bF_ BK264.out 0; have hfz22_1 := bF_ BK264.out 1; have hfz22_2 := bF_ BK264.out 2; have hfz22_3 := bF_ BK264.out 3; have hfz22_4 := bF_ BK264.out 4; have hfz22_5 := bF_ BK264.out 5; have hfz22_6 := bF_ BK264.out 6; have hfz22_7 := bF_ BK264.out 7) | ((with_reducible refine gate_callee (f := 21) rfl ?_); refine goesL_ (some 21) rfl rfl Tryd.func21 (by kernel_rfl) rfl #[.agg #[.int .i64 a0_0, .int .i64 a0_1, .string a0_2, .int .i64 a0_3, .slice A0_4 l0_4.length c0_4, .slice A0_5 l0_5.length c0_5, .slice A0_6 l0_6.length c0_6, .slice A0_7 l0_7.length c0_7]] rfl (by (try simp only [List.map_toArray, List.map_cons, List.map_nil]); first | done | rfl | (simp only [List.length_drop, List.length_take]; rfl)) ?_; (with_reducible refine (laws_toBuilt.calls k a0_0 a0_1 a0_2 a0_3 _ _ l0_4 _ _ l0_5 _ _ l0_6 _ _ l0_7 t284 t285 t286 t287 t288 t291 t294 t297 _ ?side1 ?side2 ?side3 ?side4 ?side5 ?side6 ?side7 ?side8 A9.out).mono ?_); (case side1 => repeat (first | exact (Kd.C_below HR0_4.out HB.out) | (with_reducible refine Kd.C_alloc ?_ _) | (with_reducible refine Kd.C_drewN ?_ _) | (with_reducible refine Kd.C_drew ?_))); (case side2 => exact HC0_4.out); (case side3 => repeat (first | exact (Kd.C_below HR0_5.out HB.out) | (with_reducible refine Kd.C_alloc ?_ _) | (with_reducible refine Kd.C_drewN ?_ _) | (with_reducible refine Kd.C_drew ?_))); (case side4 => exact HC0_5.out); (case side5 => repeat (first | exact (Kd.C_below HR0_6.out HB.out) | (with_reducible refine Kd.C_alloc ?_ _) | (with_reducible refine Kd.C_drewN ?_ _) | (with_reducible refine Kd.C_drew ?_))); (case side6 => exact HC0_6.out); (case side7 => repeat (first | exact (Kd.C_below HR0_7.out HB.out) | (with_reducible refine Kd.C_alloc ?_ _) | (with_reducible refine Kd.C_drewN ?_ _) | (with_reducible refine Kd.C_drew ?_))); (case side8 => exact HC0_7.out); rintro e w23 ⟨v289, v292, v295, v298, rfl, ho0, ho1, ho2, ho3, hb⟩; refine ⟨_, rfl, ?_⟩; have n0_ := aM_ (Kd.S_elder' (by (with_reducible repeat (first | apply Kd.S_alloc | apply Kd.S_drewN | apply Kd.S_drew)); exact HO272.out) (Kd.S_base ho0) hb); have n1_ := aM_ (Kd.R_mono (Kd.R_told (Kd.R_told (Kd.R_old (by (with_reducible repeat (first | apply Kd.R_alloc | apply Kd.R_drewN | apply Kd.R_drew)); exact HO275.out) hb) (Kd.R_base ho1)) (Kd.R_base ho3)) (fun _ h_ => h_.1)); have n2_ := aM_ (Kd.R_elder' (by (with_reducible repeat (first | apply Kd.R_alloc | apply Kd.R_drewN | apply Kd.R_drew)); exact HO278.out) (Kd.R_base ho2) hb); have n3_ := aM_ (Kd.R_mono (Kd.R_told (Kd.R_told (Kd.R_old (by (with_reducible repeat (first | apply Kd.R_alloc | apply Kd.R_drewN | apply Kd.R_drew)); exact HO281.out) hb) (Kd.R_base ho1)) (Kd.R_base ho3)) (fun _ h_ => h_.1)); have n4_ := aM_ (Kd.S_lower (Kd.S_new' ho0 (Kd.S_lt (by (with_reducible repeat (first | apply Kd.S_alloc | apply Kd.S_drewN | apply Kd.S_drew)); exact HO272.out))) (below_size (by repeat (first | (with_reducible first | exact HB.out | apply bA_ | apply bN_ | apply bD_ | refine below_set ?_ GE264.out) | exact HB.out)))); have n5_ := aM_ (Kd.R_lower (Kd.R_new' (Kd.R_new' ho1 (Kd.R_lt (by (with_reducible repeat (first | apply Kd.R_alloc | apply Kd.R_drewN | apply Kd.R_drew)); exact HO275.out))) (Kd.R_lt (by (with_reducible repeat (first | apply Kd.R_alloc | apply Kd.R_drewN | apply Kd.R_drew)); exact HO281.out))) (below_size (by repeat (first | (with_reducible first | exact HB.out | apply bA_ | apply bN_ | apply bD_ | refine below_set ?_ GE264.out) | exact HB.out)))); have n6_ := aM_ (Kd.R_lower (Kd.R_new' ho2 (Kd.R_lt (by (with_reducible repeat (first | apply Kd.R_alloc | apply Kd.R_drewN | apply Kd.R_drew)); exact HO278.out))) (below_size (by repeat (first | (with_reducible first | exact HB.out | apply bA_ | apply bN_ | apply bD_ | refine below_set ?_ GE264.out) | exact HB.out)))); have n7_ := aM_ (Kd.R_lower (Kd.R_new' (Kd.R_new' ho3 (Kd.R_lt (by (with_reducible repeat (first | apply Kd.R_alloc | apply Kd.R_drewN | apply Kd.R_drew)); exact HO275.out))) (Kd.R_lt (by (with_reducible repeat (first | apply Kd.R_alloc | apply Kd.R_drewN | apply Kd.R_drew)); exact HO281.out))) (below_size (by repeat (first | (with_reducible first | exact HB.out | apply bA_ | apply bN_ | apply bD_ | refine below_set ?_ GE264.out) | exact HB.out)))); have n8_ := aM_ (blk_below (g := gb264) (o := .cells #[.int .i64 a0_0, .int .i64 a0_1, .string a0_2, .int .i64 a0_3, .slice A0_4 l0_4.length c0_4, .slice A0_5 l0_5.length c0_5, .slice A0_6 l0_6.length c0_6, .slice A0_7 l0_7.length c0_7] 51 (0, 0)) (by (with_reducible repeat (first | refine blk_drewN ?_ _ | refine blk_drew ?_ | refine blk_alloc ?_ _)); exact BK264.out) hb); have n9_ := aM_ (below_step (by repeat (first | (with_reducible first | exact HB.out | apply bA_ | apply bN_ | apply bD_ | refine below_set ?_ GE264.out) | exact HB.out)) hb); clear HO272; clear HO275; clear HO278; clear HO281; clear BK264; clear HB; have HO272 := n0_; have HO275 := n1_; have HO278 := n2_; have HO281 := n3_; have HO290 := n4_; have HO293 := n5_; have HO296 := n6_; have HO299 := n7_; have BK264 := n8_; have HB := n9_; clear n0_ n1_ n2_ n3_ n4_ n5_ n6_ n7_ n8_ n9_; (try clear hb); (try clear hb2); (try clear hk); (try clear hi); (try clear ho0); (try clear ho1); (try clear ho2); (try clear ho3)) | ((with_reducible refine gate_dst (N := 6) rfl ?_); refine box_event ?hg (N := 6) ?hd (cs := #[.int .i64 0, .int .i64 0, .string (⟨#[]⟩ : ByteArray), .int .i64 0, .slice none 0 0, .slice none 0 0, .slice none 0 0, .slice none 0 0]) (t := 59) ?hr ?_; (case hd => rfl); (case hg => rfl); (case hr => first | (go_simp; done) | (go_simp; rfl)); intro gb300 hg w24 hbox hb; have n0_ := aM_ (Kd.S_below (by (with_reducible repeat (first | apply Kd.S_alloc | apply Kd.S_drewN | apply Kd.S_drew)); exact HO272.out) hb); have n1_ := aM_ (Kd.R_below (by (with_reducible repeat (first | apply Kd.R_alloc | apply Kd.R_drewN | apply Kd.R_drew)); exact HO275.out) hb); have n2_ := aM_ (Kd.R_below (by (with_reducible repeat (first | apply Kd.R_alloc | apply Kd.R_drewN | apply Kd.R_drew)); exact HO278.out) hb); have n3_ := aM_ (Kd.R_below (by (with_reducible repeat (first | apply Kd.R_alloc | apply Kd.R_drewN | apply Kd.R_drew)); exact HO281.out) hb); have n4_ := aM_ (Kd.S_below (by (with_reducible repeat (first | apply Kd.S_alloc | apply Kd.S_drewN | apply Kd.S_drew)); exact HO290.out) hb); have n5_ := aM_ (Kd.R_below (by (with_reducible repeat (first | apply Kd.R_alloc | apply Kd.R_drewN | apply Kd.R_drew)); exact HO293.out) hb); have n6_ := aM_ (Kd.R_below (by (with_reducible repeat (first | apply Kd.R_alloc | apply Kd.R_drewN | apply Kd.R_drew)); exact HO296.out) hb); have n7_ := aM_ (Kd.R_below (by (with_reducible repeat (first | apply Kd.R_alloc | apply Kd.R_drewN | apply Kd.R_drew)); exact HO299.out) hb); have n8_ := aM_ (blk_below (g := gb264) (o := .cells #[.int .i64 a0_0, .int .i64 a0_1, .string a0_2, .int .i64 a0_3, .slice A0_4 l0_4.length c0_4, .slice A0_5 l0_5.length c0_5, .slice A0_6 l0_6.length c0_6, .slice A0_7 l0_7.length c0_7] 51 (0, 0)) (by (with_reducible repeat (first | refine blk_drewN ?_ _ | refine blk_drew ?_ | refine blk_alloc ?_ _)); exact BK264.out) hb); have n9_ := aM_ (below_step (by repeat (first | (with_reducible first | exact HB.out | apply bA_ | apply bN_ | apply bD_ | refine below_set ?_ GE264.out) | exact HB.out)) hb); have n10_ := aM_ (hbox); have n11_ := aM_ ((by rw [hg]; exact (below_size (by repeat (first | (with_reducible first | exact HB.out | apply bA_ | apply bN_ | apply bD_ | refine below_set ?_ GE264.out) | exact HB.out))) : w.heap.size ≤ gb300)); have n12_ := aM_ ((by rw [hg]; exact (below_size (by repeat (first | (with_reducible first | exact HB.out | apply bA_ | apply bN_ | apply bD_ | refine below_set ?_ GE264.out) | exact HB.out))) : w.heap.size ≤ gb300)); have n13_ := aM_ ((by rw [hg]; exact Nat.ne_of_lt (blk_lt (g := gb264) (o := .cells #[.int .i64 a0_0, .int .i64 a0_1, .string a0_2, .int .i64 a0_3, .slice A0_4 l0_4.length c0_4, .slice A0_5 l0_5.length c0_5, .slice A0_6 l0_6.length c0_6, .slice A0_7 l0_7.length c0_7] 51 (0, 0)) (by (with_reducible repeat (first | refine blk_drewN ?_ _ | refine blk_drew ?_ | refine blk_alloc ?_ _)); exact BK264.out)) : gb264 ≠ gb300)); have n14_ := aM_ ((by rw [hg]; exact Nat.ne_of_gt (blk_lt (g := gb264) (o := .cells #[.int .i64 a0_0, .int .i64 a0_1, .string a0_2, .int .i64 a0_3, .slice A0_4 l0_4.length c0_4, .slice A0_5 l0_5.length c0_5, .slice A0_6 l0_6.length c0_6, .slice A0_7 l0_7.length c0_7] 51 (0, 0)) (by (with_reducible repeat (first | refine blk_drewN ?_ _ | refine blk_drew ?_ | refine blk_alloc ?_ _)); exact BK264.out)) : gb300 ≠ gb264)); clear HO272; clear HO275; clear HO278; clear HO281; clear HO290; clear HO293; clear HO296; clear HO299; clear BK264; clear HB; have HO272 := n0_; have HO275 := n1_; have HO278 := n2_; have HO281 := n3_; have HO290 := n4_; have HO293 := n5_; have HO296 := n6_; have HO299 := n7_; have BK264 := n8_; have HB := n9_; have BK300 := n10_; have GW300 := n11_; have GE300 := n12_; have NB264_300 := n13_; have NB300_264 := n14_; clear n0_ n1_ n2_ n3_ n4_ n5_ n6_ n7_ n8_ n9_ n10_ n11_ n12_ n13_ n14_; clear hb hbox hg; have hnb25 := NB300_264.out; have hnc25 := NB264_300.out; have hcz26_0 : w24.cell? ⟨gb300, 0, none⟩ = some (.int .i64 0) := (bC_ BK300.out 0).trans rfl; have hcz26_1 : w24.cell? ⟨gb300, 1, none⟩ = some (.int .i64 0) := (bC_ BK300.out 1).trans rfl; have hcz26_2 : w24.cell? ⟨gb300, 2, none⟩ = some (.string (⟨#[]⟩ : ByteArray)) := (bC_ BK300.out 2).trans rfl; have hcz26_3 : w24.cell? ⟨gb300, 3, none⟩ = some (.int .i64 0) := (bC_ BK300.out 3).trans rfl; have hcz26_4 : w24.cell? ⟨gb300, 4, none⟩ = some (.slice none 0 0) := (bC_ BK300.out 4).trans rfl; have hcz26_5 : w24.cell? ⟨gb300, 5, none⟩ = some (.slice none 0 0) := (bC_ BK300.out 5).trans rfl; have hcz26_6 : w24.cell? ⟨gb300, 6, none⟩ = some (.slice none 0 0) := (bC_ BK300.out 6).trans rfl; have hcz26_7 : w24.cell? ⟨gb300, 7, none⟩ = some (.slice none 0 0) := (bC_ BK300.out 7).trans rfl; have hfz26_0 := bF_ BK300.out 0; have hfz26_1 := bF_ BK300.out 1; have hfz26_2 := bF_ BK300.out 2; have hfz26_3 := bF_ BK300.out 3; have hfz26_4 := bF_ BK300.out 4; have hfz26_5 := bF_ BK300.out 5; have hfz26_6 := bF_ BK300.out 6; have hfz26_7 := bF_ BK300.out 7; obtain ⟨Ao27, co27, eo27⟩ := Kd.S_slice HO290.out; subst eo27; obtain ⟨Ao28, co28, eo28⟩ := Kd.R_slice HO293.out; subst eo28; obtain ⟨Ao29, co29, eo29⟩ := Kd.R_slice HO296.out; subst eo29; obtain ⟨Ao30, co30, eo30⟩ := Kd.R_slice HO299.out; subst eo30) | ((with_reducible refine gate_callee (f := 22) rfl ?_); refine goesL_ (some 24) rfl rfl Tryd.func22 (by kernel_rfl) rfl #[.agg #[.int .i64 t284, .int .i64 t285, .string t286, .int .i64 t287, .slice Ao27 t288.length co27, .slice Ao28 t291.length co28, .slice Ao29 t294.length co29, .slice Ao30 t297.length co30]] rfl (by (try simp only [List.map_toArray, List.map_cons, List.map_nil]); first | done | rfl | (simp only [List.length_drop, List.length_take]; rfl)) ?_; (with_reducible refine (impl_BuiltText.calls k t284 t285 t286 t287 _ _ t288 _ _ t291 _ _ t294 _ _ t297 t301 t302 _ ?side1 ?side2 ?side3 ?side4 ?side5 ?side6 ?side7 ?side8 ?side9 A10.out).mono ?_); (case side1 => refine (Kd.S_reads' (e := 30) (base := w.heap.size) (ok := fun k_ => (True ∧ some k_ ≠ (.slice Ao17 t270.length co17 : Value).ownBlock)) (n := t288.length) (c := co27) ?_).2.2; exact (by (with_reducible repeat (first | apply Kd.S_alloc | apply Kd.S_drewN | apply Kd.S_drew)); exact (Kd.S_mono (Kd.S_far (p := ⟨gb300, 7, none⟩) (Kd.S_far (p := ⟨gb300, 6, none⟩) (Kd.S_far (p := ⟨gb300, 5, none⟩) (Kd.S_far (p := ⟨gb300, 4, none⟩) (Kd.S_far (p := ⟨gb300, 3, none⟩) (Kd.S_far (p := ⟨gb300, 2, none⟩) (Kd.S_far (p := ⟨gb300, 1, none⟩) (Kd.S_far (p := ⟨gb300, 0, none⟩) (Kd.S_types HO290.out BK300.out (by decide)) (fun _ hk => hk.2) (.int .i64 t284)) (fun _ hk => hk.2) (.int .i64 t285)) (fun _ hk => hk.2) (.string t286)) (fun _ hk => hk.2) (.int .i64 t287)) (fun _ hk => hk.2) (.slice Ao27 t288.length co27)) (fun _ hk => hk.2) (.slice Ao28 t291.length co28)) (fun _ hk => hk.2) (.slice Ao29 t294.length co29)) (fun _ hk => hk.2) (.slice Ao30 t297.length co30)) (fun _ h_ => h_.1)))); (case side2 => exact (Kd.S_reads' HO290.out).2.1); (case side3 => refine (Kd.R_reads' (e := 9) (base := w.heap.size) (ok := fun k_ => ((some k_ ≠ (.slice Ao30 t297.length co30 : Value).ownBlock ∧ some k_ ≠ (.slice Ao18 t273.length co18 : Value).ownBlock) ∧ some k_ ≠ (.slice Ao20 t279.length co20 : Value).ownBlock)) (n := t291.length) (c := co28) ?_).2.2; exact (by (with_reducible repeat (first | apply Kd.R_alloc | apply Kd.R_drewN | apply Kd.R_drew)); exact (Kd.R_mono (Kd.R_far (p := ⟨gb300, 7, none⟩) (Kd.R_far (p := ⟨gb300, 6, none⟩) (Kd.R_far (p := ⟨gb300, 5, none⟩) (Kd.R_far (p := ⟨gb300, 4, none⟩) (Kd.R_far (p := ⟨gb300, 3, none⟩) (Kd.R_far (p := ⟨gb300, 2, none⟩) (Kd.R_far (p := ⟨gb300, 1, none⟩) (Kd.R_far (p := ⟨gb300, 0, none⟩) (Kd.R_types HO293.out BK300.out (by decide)) (fun _ hk => hk.2) (.int .i64 t284)) (fun _ hk => hk.2) (.int .i64 t285)) (fun _ hk => hk.2) (.string t286)) (fun _ hk => hk.2) (.int .i64 t287)) (fun _ hk => hk.2) (.slice Ao27 t288.length co27)) (fun _ hk => hk.2) (.slice Ao28 t291.length co28)) (fun _ hk => hk.2) (.slice Ao29 t294.length co29)) (fun _ hk => hk.2) (.slice Ao30 t297.length co30)) (fun _ h_ => h_.1)))); (case side4 => exact (Kd.R_reads' HO293.out).2.1); (case side5 => refine (Kd.R_reads' (e := 3) (base := w.heap.size) (ok := fun k_ => (True ∧ some k_ ≠ (.slice Ao19 t276.length co19 : Value).ownBlock)) (n := t294.length) (c := co29) ?_).2.2; exact (by (with_reducible repeat (first | apply Kd.R_alloc | apply Kd.R_drewN | apply Kd.R_drew)); exact (Kd.R_mono (Kd.R_far (p := ⟨gb300, 7, none⟩) (Kd.R_far (p := ⟨gb300, 6, none⟩) (Kd.R_far (p := ⟨gb300, 5, none⟩) (Kd.R_far (p := ⟨gb300, 4, none⟩) (Kd.R_far (p := ⟨gb300, 3, none⟩) (Kd.R_far (p := ⟨gb300, 2, none⟩) (Kd.R_far (p := ⟨gb300, 1, none⟩) (Kd.R_far (p := ⟨gb300, 0, none⟩) (Kd.R_types HO296.out BK300.out (by decide)) (fun _ hk => hk.2) (.int .i64 t284)) (fun _ hk => hk.2) (.int .i64 t285)) (fun _ hk => hk.2) (.string t286)) (fun _ hk => hk.2) (.int .i64 t287)) (fun _ hk => hk.2) (.slice Ao27 t288.length co27)) (fun _ hk => hk.2) (.slice Ao28 t291.length co28)) (fun _ hk => hk.2) (.slice Ao29 t294.length co29)) (fun _ hk => hk.2) (.slice Ao30 t297.length co30)) (fun _ h_ => h_.1)))); (case side6 => exact (Kd.R_reads' HO296.out).2.1); (case side7 => refine (Kd.R_reads' (e := 9) (base := w.heap.size) (ok := fun k_ => ((some k_ ≠ (.slice Ao28 t291.length co28 : Value).ownBlock ∧ some k_ ≠ (.slice Ao18 t273.length co18 : Value).ownBlock) ∧ some k_ ≠ (.slice Ao20 t279.length co20 : Value).ownBlock)) (n := t297.length) (c := co30) ?_).2.2; exact (by (with_reducible repeat (first | apply Kd.R_alloc | apply Kd.R_drewN | apply Kd.R_drew)); exact (Kd.R_mono (Kd.R_far (p := ⟨gb300, 7, none⟩) (Kd.R_far (p := ⟨gb300, 6, none⟩) (Kd.R_far (p := ⟨gb300, 5, none⟩) (Kd.R_far (p := ⟨gb300, 4, none⟩) (Kd.R_far (p := ⟨gb300, 3, none⟩) (Kd.R_far (p := ⟨gb300, 2, none⟩) (Kd.R_far (p := ⟨gb300, 1, none⟩) (Kd.R_far (p := ⟨gb300, 0, none⟩) (Kd.R_types HO299.out BK300.out (by decide)) (fun _ hk => hk.2) (.int .i64 t284)) (fun _ hk => hk.2) (.int .i64 t285)) (fun _ hk => hk.2) (.string t286)) (fun _ hk => hk.2) (.int .i64 t287)) (fun _ hk => hk.2) (.slice Ao27 t288.length co27)) (fun _ hk => hk.2) (.slice Ao28 t291.length co28)) (fun _ hk => hk.2) (.slice Ao29 t294.length co29)) (fun _ hk => hk.2) (.slice Ao30 t297.length co30)) (fun _ h_ => h_.1)))); (case side8 => exact (Kd.R_reads' HO299.out).2.1); (case side9 => exact LW.below HLW.out (by repeat (first | (with_reducible first | exact HB.out | apply bA_ | apply bN_ | apply bD_ | refine below_set ?_ GE264.out | refine below_set ?_ GE300.out) | exact HB.out))); rintro e w31 ⟨rfl, hb⟩; refine ⟨_, rfl, ?_⟩; have n0_ := aM_ (Kd.S_below (by (with_reducible repeat (first | apply Kd.S_alloc | apply Kd.S_drewN | apply Kd.S_drew)); exact (Kd.S_mono (Kd.S_far (p := ⟨gb300, 7, none⟩) (Kd.S_far (p := ⟨gb300, 6, none⟩) (Kd.S_far (p := ⟨gb300, 5, none⟩) (Kd.S_far (p := ⟨gb300, 4, none⟩) (Kd.S_far (p := ⟨gb300, 3, none⟩) (Kd.S_far (p := ⟨gb300, 2, none⟩) (Kd.S_far (p := ⟨gb300, 1, none⟩) (Kd.S_far (p := ⟨gb300, 0, none⟩) (Kd.S_types HO272.out BK300.out (by decide)) (fun _ hk => hk.2) (.int .i64 t284)) (fun _ hk => hk.2) (.int .i64 t285)) (fun _ hk => hk.2) (.string t286)) (fun _ hk => hk.2) (.int .i64 t287)) (fun _ hk => hk.2) (.slice Ao27 t288.length co27)) (fun _ hk => hk.2) (.slice Ao28 t291.length co28)) (fun _ hk => hk.2) (.slice Ao29 t294.length co29)) (fun _ hk => hk.2) (.slice Ao30 t297.length co30)) (fun _ h_ => h_.1))) hb); have n1_ := aM_ (Kd.R_below (by (with_reducible repeat (first | apply Kd.R_alloc | apply Kd.R_drewN | apply Kd.R_drew)); exact (Kd.R_mono (Kd.R_far (p := ⟨gb300, 7, none⟩) (Kd.R_far (p := ⟨gb300, 6, none⟩) (Kd.R_far (p := ⟨gb300, 5, none⟩) (Kd.R_far (p := ⟨gb300, 4, none⟩) (Kd.R_far (p := ⟨gb300, 3, none⟩) (Kd.R_far (p := ⟨gb300, 2, none⟩) (Kd.R_far (p := ⟨gb300, 1, none⟩) (Kd.R_far (p := ⟨gb300, 0, none⟩) (Kd.R_types HO275.out BK300.out (by decide)) (fun _ hk => hk.2) (.int .i64 t284)) (fun _ hk => hk.2) (.int .i64 t285)) (fun _ hk => hk.2) (.string t286)) (fun _ hk => hk.2) (.int .i64 t287)) (fun _ hk => hk.2) (.slice Ao27 t288.length co27)) (fun _ hk => hk.2) (.slice Ao28 t291.length co28)) (fun _ hk => hk.2) (.slice Ao29 t294.length co29)) (fun _ hk => hk.2) (.slice Ao30 t297.length co30)) (fun _ h_ => h_.1))) hb); have n2_ := aM_ (Kd.R_below (by (with_reducible repeat (first | apply Kd.R_alloc | apply Kd.R_drewN | apply Kd.R_drew)); exact (Kd.R_mono (Kd.R_far (p := ⟨gb300, 7, none⟩) (Kd.R_far (p := ⟨gb300, 6, none⟩) (Kd.R_far (p := ⟨gb300, 5, none⟩) (Kd.R_far (p := ⟨gb300, 4, none⟩) (Kd.R_far (p := ⟨gb300, 3, none⟩) (Kd.R_far (p := ⟨gb300, 2, none⟩) (Kd.R_far (p := ⟨gb300, 1, none⟩) (Kd.R_far (p := ⟨gb300, 0, none⟩) (Kd.R_types HO278.out BK300.out (by decide)) (fun _ hk => hk.2) (.int .i64 t284)) (fun _ hk => hk.2) (.int .i64 t285)) (fun _ hk => hk.2) (.string t286)) (fun _ hk => hk.2) (.int .i64 t287)) (fun _ hk => hk.2) (.slice Ao27 t288.length co27)) (fun _ hk => hk.2) (.slice Ao28 t291.length co28)) (fun _ hk => hk.2) (.slice Ao29 t294.length co29)) (fun _ hk => hk.2) (.slice Ao30 t297.length co30)) (fun _ h_ => h_.1))) hb); have n3_ := aM_ (Kd.R_below (by (with_reducible repeat (first | apply Kd.R_alloc | apply Kd.R_drewN | apply Kd.R_drew)); exact (Kd.R_mono (Kd.R_far (p := ⟨gb300, 7, none⟩) (Kd.R_far (p := ⟨gb300, 6, none⟩) (Kd.R_far (p := ⟨gb300, 5, none⟩) (Kd.R_far (p := ⟨gb300, 4, none⟩) (Kd.R_far (p := ⟨gb300, 3, none⟩) (Kd.R_far (p := ⟨gb300, 2, none⟩) (Kd.R_far (p := ⟨gb300, 1, none⟩) (Kd.R_far (p := ⟨gb300, 0, none⟩) (Kd.R_types HO281.out BK300.out (by decide)) (fun _ hk => hk.2) (.int .i64 t284)) (fun _ hk => hk.2) (.int .i64 t285)) (fun _ hk => hk.2) (.string t286)) (fun _ hk => hk.2) (.int .i64 t287)) (fun _ hk => hk.2) (.slice Ao27 t288.length co27)) (fun _ hk => hk.2) (.slice Ao28 t291.length co28)) (fun _ hk => hk.2) (.slice Ao29 t294.length co29)) (fun _ hk => hk.2) (.slice Ao30 t297.length co30)) (fun _ h_ => h_.1))) hb); have n4_ := aM_ (Kd.S_below (by (with_reducible repeat (first | apply Kd.S_alloc | apply Kd.S_drewN | apply Kd.S_drew)); exact (Kd.S_mono (Kd.S_far (p := ⟨gb300, 7, none⟩) (Kd.S_far (p := ⟨gb300, 6, none⟩) (Kd.S_far (p := ⟨gb300, 5, none⟩) (Kd.S_far (p := ⟨gb300, 4, none⟩) (Kd.S_far (p := ⟨gb300, 3, none⟩) (Kd.S_far (p := ⟨gb300, 2, none⟩) (Kd.S_far (p := ⟨gb300, 1, none⟩) (Kd.S_far (p := ⟨gb300, 0, none⟩) (Kd.S_types HO290.out BK300.out (by decide)) (fun _ hk => hk.2) (.int .i64 t284)) (fun _ hk => hk.2) (.int .i64 t285)) (fun _ hk => hk.2) (.string t286)) (fun _ hk => hk.2) (.int .i64 t287)) (fun _ hk => hk.2) (.slice Ao27 t288.length co27)) (fun _ hk => hk.2) (.slice Ao28 t291.length co28)) (fun _ hk => hk.2) (.slice Ao29 t294.length co29)) (fun _ hk => hk.2) (.slice Ao30 t297.length co30)) (fun _ h_ => h_.1))) hb); have n5_ := aM_ (Kd.R_below (by (with_reducible repeat (first | apply Kd.R_alloc | apply Kd.R_drewN | apply Kd.R_drew)); exact (Kd.R_mono (Kd.R_far (p := ⟨gb300, 7, none⟩) (Kd.R_far (p := ⟨gb300, 6, none⟩) (Kd.R_far (p := ⟨gb300, 5, none⟩) (Kd.R_far (p := ⟨gb300, 4, none⟩) (Kd.R_far (p := ⟨gb300, 3, none⟩) (Kd.R_far (p := ⟨gb300, 2, none⟩) (Kd.R_far (p := ⟨gb300, 1, none⟩) (Kd.R_far (p := ⟨gb300, 0, none⟩) (Kd.R_types HO293.out BK300.out (by decide)) (fun _ hk => hk.2) (.int .i64 t284)) (fun _ hk => hk.2) (.int .i64 t285)) (fun _ hk => hk.2) (.string t286)) (fun _ hk => hk.2) (.int .i64 t287)) (fun _ hk => hk.2) (.slice Ao27 t288.length co27)) (fun _ hk => hk.2) (.slice Ao28 t291.length co28)) (fun _ hk => hk.2) (.slice Ao29 t294.length co29)) (fun _ hk => hk.2) (.slice Ao30 t297.length co30)) (fun _ h_ => h_.1))) hb); have n6_ := aM_ (Kd.R_below (by (with_reducible repeat (first | apply Kd.R_alloc | apply Kd.R_drewN | apply Kd.R_drew)); exact (Kd.R_mono (Kd.R_far (p := ⟨gb300, 7, none⟩) (Kd.R_far (p := ⟨gb300, 6, none⟩) (Kd.R_far (p := ⟨gb300, 5, none⟩) (Kd.R_far (p := ⟨gb300, 4, none⟩) (Kd.R_far (p := ⟨gb300, 3, none⟩) (Kd.R_far (p := ⟨gb300, 2, none⟩) (Kd.R_far (p := ⟨gb300, 1, none⟩) (Kd.R_far (p := ⟨gb300, 0, none⟩) (Kd.R_types HO296.out BK300.out (by decide)) (fun _ hk => hk.2) (.int .i64 t284)) (fun _ hk => hk.2) (.int .i64 t285)) (fun _ hk => hk.2) (.string t286)) (fun _ hk => hk.2) (.int .i64 t287)) (fun _ hk => hk.2) (.slice Ao27 t288.length co27)) (fun _ hk => hk.2) (.slice Ao28 t291.length co28)) (fun _ hk => hk.2) (.slice Ao29 t294.length co29)) (fun _ hk => hk.2) (.slice Ao30 t297.length co30)) (fun _ h_ => h_.1))) hb); have n7_ := aM_ (Kd.R_below (by (with_reducible repeat (first | apply Kd.R_alloc | apply Kd.R_drewN | apply Kd.R_drew)); exact (Kd.R_mono (Kd.R_far (p := ⟨gb300, 7, none⟩) (Kd.R_far (p := ⟨gb300, 6, none⟩) (Kd.R_far (p := ⟨gb300, 5, none⟩) (Kd.R_far (p := ⟨gb300, 4, none⟩) (Kd.R_far (p := ⟨gb300, 3, none⟩) (Kd.R_far (p := ⟨gb300, 2, none⟩) (Kd.R_far (p := ⟨gb300, 1, none⟩) (Kd.R_far (p := ⟨gb300, 0, none⟩) (Kd.R_types HO299.out BK300.out (by decide)) (fun _ hk => hk.2) (.int .i64 t284)) (fun _ hk => hk.2) (.int .i64 t285)) (fun _ hk => hk.2) (.string t286)) (fun _ hk => hk.2) (.int .i64 t287)) (fun _ hk => hk.2) (.slice Ao27 t288.length co27)) (fun _ hk => hk.2) (.slice Ao28 t291.length co28)) (fun _ hk => hk.2) (.slice Ao29 t294.length co29)) (fun _ hk => hk.2) (.slice Ao30 t297.length co30)) (fun _ h_ => h_.1))) hb); have n8_ := aM_ (blk_below (g := gb264) (o := .cells #[.int .i64 a0_0, .int .i64 a0_1, .string a0_2, .int .i64 a0_3, .slice A0_4 l0_4.length c0_4, .slice A0_5 l0_5.length c0_5, .slice A0_6 l0_6.length c0_6, .slice A0_7 l0_7.length c0_7] 51 (0, 0)) (by (with_reducible repeat (first | refine blk_drewN ?_ _ | refine blk_drew ?_ | refine blk_alloc ?_ _)); refine blk_far ?_ NB264_300.out _; (with_reducible repeat (first | refine blk_drewN ?_ _ | refine blk_drew ?_ | refine blk_alloc ?_ _)); refine blk_far ?_ NB264_300.out _; (with_reducible repeat (first | refine blk_drewN ?_ _ | refine blk_drew ?_ | refine blk_alloc ?_ _)); refine blk_far ?_ NB264_300.out _; (with_reducible repeat (first | refine blk_drewN ?_ _ | refine blk_drew ?_ | refine blk_alloc ?_ _)); refine blk_far ?_ NB264_300.out _; (with_reducible repeat (first | refine blk_drewN ?_ _ | refine blk_drew ?_ | refine blk_alloc ?_ _)); refine blk_far ?_ NB264_300.out _; (with_reducible repeat (first | refine blk_drewN ?_ _ | refine blk_drew ?_ | refine blk_alloc ?_ _)); refine blk_far ?_ NB264_300.out _; (with_reducible repeat (first | refine blk_drewN ?_ _ | refine blk_drew ?_ | refine blk_alloc ?_ _)); refine blk_far ?_ NB264_300.out _; (with_reducible repeat (first | refine blk_drewN ?_ _ | refine blk_drew ?_ | refine blk_alloc ?_ _)); refine blk_far ?_ NB264_300.out _; (with_reducible repeat (first | refine blk_drewN ?_ _ | refine blk_drew ?_ | refine blk_alloc ?_ _)); exact BK264.out) hb); have n9_ := aM_ (blk_below (g := gb300) (o := .cells #[.int .i64 t284, .int .i64 t285, .string t286, .int .i64 t287, .slice Ao27 t288.length co27, .slice Ao28 t291.length co28, .slice Ao29 t294.length co29, .slice Ao30 t297.length co30] 59 (0, 0)) (by (with_reducible repeat (first | refine blk_drewN ?_ _ | refine blk_drew ?_ | refine blk_alloc ?_ _)); refine blk_put (cs := #[.int .i64 t284, .int .i64 t285, .string t286, .int .i64 t287, .slice Ao27 t288.length co27, .slice Ao28 t291.length co28, .slice Ao29 t294.length co29, .slice none 0 0]) ?_ 7 _ rfl; (with_reducible repeat (first | refine blk_drewN ?_ _ | refine blk_drew ?_ | refine blk_alloc ?_ _)); refine blk_put (cs := #[.int .i64 t284, .int .i64 t285, .string t286, .int .i64 t287, .slice Ao27 t288.length co27, .slice Ao28 t291.length co28, .slice none 0 0, .slice none 0 0]) ?_ 6 _ rfl; (with_reducible repeat (first | refine blk_drewN ?_ _ | refine blk_drew ?_ | refine blk_alloc ?_ _)); refine blk_put (cs := #[.int .i64 t284, .int .i64 t285, .string t286, .int .i64 t287, .slice Ao27 t288.length co27, .slice none 0 0, .slice none 0 0, .slice none 0 0]) ?_ 5 _ rfl; (with_reducible repeat (first | refine blk_drewN ?_ _ | refine blk_drew ?_ | refine blk_alloc ?_ _)); refine blk_put (cs := #[.int .i64 t284, .int .i64 t285, .string t286, .int .i64 t287, .slice none 0 0, .slice none 0 0, .slice none 0 0, .slice none 0 0]) ?_ 4 _ rfl; (with_reducible repeat (first | refine blk_drewN ?_ _ | refine blk_drew ?_ | refine blk_alloc ?_ _)); refine blk_put (cs := #[.int .i64 t284, .int .i64 t285, .string t286, .int .i64 0, .slice none 0 0, .slice none 0 0, .slice none 0 0, .slice none 0 0]) ?_ 3 _ rfl; (with_reducible repeat (first | refine blk_drewN ?_ _ | refine blk_drew ?_ | refine blk_alloc ?_ _)); refine blk_put (cs := #[.int .i64 t284, .int .i64 t285, .string (⟨#[]⟩ : ByteArray), .int .i64 0, .slice none 0 0, .slice none 0 0, .slice none 0 0, .slice none 0 0]) ?_ 2 _ rfl; (with_reducible repeat (first | refine blk_drewN ?_ _ | refine blk_drew ?_ | refine blk_alloc ?_ _)); refine blk_put (cs := #[.int .i64 t284, .int .i64 0, .string (⟨#[]⟩ : ByteArray), .int .i64 0, .slice none 0 0, .slice none 0 0, .slice none 0 0, .slice none 0 0]) ?_ 1 _ rfl; (with_reducible repeat (first | refine blk_drewN ?_ _ | refine blk_drew ?_ | refine blk_alloc ?_ _)); refine blk_put (cs := #[.int .i64 0, .int .i64 0, .string (⟨#[]⟩ : ByteArray), .int .i64 0, .slice none 0 0, .slice none 0 0, .slice none 0 0, .slice none 0 0]) ?_ 0 _ rfl; (with_reducible repeat (first | refine blk_drewN ?_ _ | refine blk_drew ?_ | refine blk_alloc ?_ _)); exact BK300.out) hb); have n10_ := aM_ (below_step (by repeat (first | (with_reducible first | exact HB.out | apply bA_ | apply bN_ | apply bD_ | refine below_set ?_ GE264.out | refine below_set ?_ GE300.out) | exact HB.out)) hb); clear HO272; clear HO275; clear HO278; clear HO281; clear HO290; clear HO293; clear HO296; clear HO299; clear BK264; clear BK300; clear HB; have HO272 := n0_; have HO275 := n1_; have HO278 := n2_; have HO281 := n3_; have HO290 := n4_; have HO293 := n5_; have HO296 := n6_; have HO299 := n7_; have BK264 := n8_; have BK300 := n9_; have HB := n10_; clear n0_ n1_ n2_ n3_ n4_ n5_ n6_ n7_ n8_ n9_ n10_; (try clear hb); (try clear hb2); (try clear hk); (try clear hi)))
  (try simp only [Act.put, List.setIfInBounds_toArray, List.set_cons_zero, List.set_cons_succ])
  go_cut [34] (fun v34 wc => ∃ (kq : Nat) (x34_10 : Bool), v34 = .bool x34_10 ∧ Aside0 (laws_FnExactBuiltText.j0 kq x34_10 a0_0 a0_1 a0_2 a0_3 l0_4 l0_5 l0_6 l0_7 t284 t285 t286 t287 t288 t291 t294 t297 = some r) ∧ Aside0 (kq ≤ k) ∧ Aside0 (Kd.S k30 30 wc w.heap.size (fun _ => True) (.slice Ao27 t288.length co27) t288) ∧ Aside0 (Kd.R Kd.string 9 wc w.heap.size (fun k_ => some k_ ≠ ((.slice Ao30 t297.length co30) : Value).ownBlock) (.slice Ao28 t291.length co28) t291) ∧ Aside0 (Kd.R (Kd.int .i64) 3 wc w.heap.size (fun _ => True) (.slice Ao29 t294.length co29) t294) ∧ Aside0 (Kd.R Kd.string 9 wc w.heap.size (fun k_ => some k_ ≠ ((.slice Ao28 t291.length co28) : Value).ownBlock) (.slice Ao30 t297.length co30) t297) ∧ Aside0 (wc.heap[gb264]? = some (.cells #[.int .i64 a0_0, .int .i64 a0_1, .string a0_2, .int .i64 a0_3, (.slice A0_4 l0_4.length c0_4), (.slice A0_5 l0_5.length c0_5), (.slice A0_6 l0_6.length c0_6), (.slice A0_7 l0_7.length c0_7)] 51 (0, 0))) ∧ Aside0 (wc.heap[gb300]? = some (.cells #[.int .i64 t284, .int .i64 t285, .string t286, .int .i64 t287, (.slice Ao27 t288.length co27), (.slice Ao28 t291.length co28), (.slice Ao29 t294.length co29), (.slice Ao30 t297.length co30)] 59 (0, 0))) ∧ Aside0 (Below w.heap.size w wc))
  case first =>
   have H := HC11.out
   clear HC11
   by_cases c32 : t301.toList = t282.toList
   ·rw [if_pos c32] at H
    have c32b0 : (t301.toList == t282.toList) = true := beq_iff_eq.mpr c32
    have c32b1 : (t301.toList != t282.toList) = false := bne_eq_false_iff_eq.mpr c32
    clear c32
    (first | rw [c32b0] | (simp only [i64_w, i32_w]; rw [c32b0]) | skip)
    have H' := aM_ H
    clear H
    go_wp2
    go_meet
    case rel => exact ⟨_, ((t302 != t283)), (by first | rfl | (simp; done) | (simp [*]; done)), H', ⟨by first | omega | exact Nat.le_refl _⟩, ⟨by (with_reducible repeat (first | apply Kd.S_alloc | apply Kd.S_drewN | apply Kd.S_drew)); exact Kd.S_mono HO290.out (fun _ hk => trivial)⟩, ⟨by (with_reducible repeat (first | apply Kd.R_alloc | apply Kd.R_drewN | apply Kd.R_drew)); exact Kd.R_mono HO293.out (fun _ hk => hk.1.1)⟩, ⟨by (with_reducible repeat (first | apply Kd.R_alloc | apply Kd.R_drewN | apply Kd.R_drew)); exact Kd.R_mono HO296.out (fun _ hk => trivial)⟩, ⟨by (with_reducible repeat (first | apply Kd.R_alloc | apply Kd.R_drewN | apply Kd.R_drew)); exact Kd.R_mono HO299.out (fun _ hk => hk.1.1)⟩, ⟨by (with_reducible repeat (first | refine blk_drewN ?_ _ | refine blk_drew ?_ | refine blk_alloc ?_ _)); exact BK264.out⟩, ⟨by (with_reducible repeat (first | refine blk_drewN ?_ _ | refine blk_drew ?_ | refine blk_alloc ?_ _)); exact BK300.out⟩, ⟨by repeat (first | (with_reducible first | exact HB.out | apply bA_ | apply bN_ | apply bD_ | refine below_set ?_ GE264.out | refine below_set ?_ GE300.out) | exact HB.out)⟩⟩
   ·rw [if_neg c32] at H
    have c32b0 : (t301.toList == t282.toList) = false := beq_eq_false_iff_ne.mpr c32
    have c32b1 : (t301.toList != t282.toList) = true := bne_iff_ne.mpr c32
    (first | rw [c32b0] | (simp only [i64_w, i32_w]; rw [c32b0]) | skip)
    have H' := aM_ H
    clear H
    go_wp2
    go_meet
    case rel => exact ⟨_, (true), (by first | rfl | (simp; done) | (simp [*]; done)), H', ⟨by first | omega | exact Nat.le_refl _⟩, ⟨by (with_reducible repeat (first | apply Kd.S_alloc | apply Kd.S_drewN | apply Kd.S_drew)); exact Kd.S_mono HO290.out (fun _ hk => trivial)⟩, ⟨by (with_reducible repeat (first | apply Kd.R_alloc | apply Kd.R_drewN | apply Kd.R_drew)); exact Kd.R_mono HO293.out (fun _ hk => hk.1.1)⟩, ⟨by (with_reducible repeat (first | apply Kd.R_alloc | apply Kd.R_drewN | apply Kd.R_drew)); exact Kd.R_mono HO296.out (fun _ hk => trivial)⟩, ⟨by (with_reducible repeat (first | apply Kd.R_alloc | apply Kd.R_drewN | apply Kd.R_drew)); exact Kd.R_mono HO299.out (fun _ hk => hk.1.1)⟩, ⟨by (with_reducible repeat (first | refine blk_drewN ?_ _ | refine blk_drew ?_ | refine blk_alloc ?_ _)); exact BK264.out⟩, ⟨by (with_reducible repeat (first | refine blk_drewN ?_ _ | refine blk_drew ?_ | refine blk_alloc ?_ _)); exact BK300.out⟩, ⟨by repeat (first | (with_reducible first | exact HB.out | apply bA_ | apply bN_ | apply bD_ | refine below_set ?_ GE264.out | refine below_set ?_ GE300.out) | exact HB.out)⟩⟩
  case rest =>
   clear HC11
   try clear c1
   try clear c2
   try clear p2
   try clear c3
   try clear c3b0
   try clear c5
   try clear c19
   try clear c20
   try clear c21
   try clear c22
   try clear c25
   try clear c32
   try clear c32b0
   try clear c32b1
   try clear hcz13_0
   try clear hcz13_1
   try clear hcz13_2
   try clear hcz13_3
   try clear hcz13_4
   try clear hcz13_5
   try clear hcz13_6
   try clear hcz13_7
   try clear hcz15_0
   try clear hcz15_1
   try clear hcz15_2
   try clear hcz15_3
   try clear hcz15_4
   try clear hcz15_5
   try clear hcz15_6
   try clear hcz15_7
   try clear hcz22_0
   try clear hcz22_1
   try clear hcz22_2
   try clear hcz22_3
   try clear hcz22_4
   try clear hcz22_5
   try clear hcz22_6
   try clear hcz22_7
   try clear hcz26_0
   try clear hcz26_1
   try clear hcz26_2
   try clear hcz26_3
   try clear hcz26_4
   try clear hcz26_5
   try clear hcz26_6
   try clear hcz26_7
   try clear hcz5_0
   try clear hcz5_1
   try clear hcz5_2
   try clear hcz5_3
   try clear hcz5_4
   try clear hcz5_5
   try clear hcz5_6
   try clear hcz5_7
   try clear hfz13_0
   try clear hfz13_1
   try clear hfz13_2
   try clear hfz13_3
   try clear hfz13_4
   try clear hfz13_5
   try clear hfz13_6
   try clear hfz13_7
   try clear hfz15_0
   try clear hfz15_1
   try clear hfz15_2
   try clear hfz15_3
   try clear hfz15_4
   try clear hfz15_5
   try clear hfz15_6
   try clear hfz15_7
   try clear hfz22_0
   try clear hfz22_1
   try clear hfz22_2
   try clear hfz22_3
   try clear hfz22_4
   try clear hfz22_5
   try clear hfz22_6
   try clear hfz22_7
   try clear hfz26_0
   try clear hfz26_1
   try clear hfz26_2
   try clear hfz26_3
   try clear hfz26_4
   try clear hfz26_5
   try clear hfz26_6
   try clear hfz26_7
   try clear hfz5_0
   try clear hfz5_1
   try clear hfz5_2
   try clear hfz5_3
   try clear hfz5_4
   try clear hfz5_5
   try clear hfz5_6
   try clear hfz5_7
   obtain ⟨kq, x34_10, rfl, HA, HJ10, HO_301004, HO_301005, HO_301006, HO_301007, BK264, BK300, HB⟩ := hcut
   cases kq with
   | zero => exact absurd HA.out (by simp [laws_FnExactBuiltText.j0])
   | succ kj10 =>
    have H := HA.out
    clear HA
    simp only [laws_FnExactBuiltText.j0] at H
    by_cases c33 : x34_10 = true
    ·subst c33
     have H1 : (some false) = some r := by rw [if_pos rfl] at H; exact H
     clear H
     have H := H1
     clear H1
     obtain rfl := Option.some.inj H
     go_wp2
     go_ret
     exact ⟨by first | rfl | (simp [errW_none, errW_some] <;> rfl) | (simp [*, errW_none, errW_some] <;> rfl), by repeat (first | (with_reducible first | exact HB.out | apply bA_ | apply bN_ | apply bD_ | refine below_set ?_ GE264.out | refine below_set ?_ GE300.out) | exact HB.out)⟩
    ·replace c33 := Bool.eq_false_iff.mpr c33
     subst c33
     have H1 : ((laws_toBuilt.f kj10 a0_0 a0_1 a0_2 a0_3 l0_4 l0_5 l0_6 l0_7).bind fun bt303 => ((laws_eqBuilt.f kj10 t284 t285 t286 t287 t288 t291 t294 t297 bt303.1 bt303.2.1 bt303.2.2.1 bt303.2.2.2.1 bt303.2.2.2.2.1 bt303.2.2.2.2.2.1 bt303.2.2.2.2.2.2.1 bt303.2.2.2.2.2.2.2).bind fun t319 => (if t319 = true then (some true) else (some false)))) = some r := by rw [if_neg (show ¬ (false = true) by decide)] at H; exact H
     clear H
     have H := H1
     clear H1
     replace H := Option.bind_eq_some_iff.mp H
     obtain ⟨⟨t303, t304, t305, t306, t307, t310, t313, t316⟩, A340, H⟩ := H
     replace H : ((laws_eqBuilt.f kj10 t284 t285 t286 t287 t288 t291 t294 t297 t303 t304 t305 t306 t307 t310 t313 t316).bind fun t319 => (if t319 = true then (some true) else (some false))) = some r := H
     have A34 := aM_ A340
     clear A340
     replace H := Option.bind_eq_some_iff.mp H
     obtain ⟨t319, A350, H⟩ := H
     replace H : (if t319 = true then (some true) else (some false)) = some r := H
     have A35 := aM_ A350
     clear A350
     by_cases c36 : t319 = true
     ·subst c36
      have H1 : (some true) = some r := by rw [if_pos rfl] at H; exact H
      clear H
      have H := H1
      clear H1
      obtain rfl := Option.some.inj H
      try go_wp2
      have n0_ := aM_ (Kd.S_drew HO_301004.out)
      have n1_ := aM_ (Kd.R_drew HO_301005.out)
      have n2_ := aM_ (Kd.R_drew HO_301006.out)
      have n3_ := aM_ (Kd.R_drew HO_301007.out)
      have n4_ := aM_ (blk_drew BK264.out)
      have n5_ := aM_ (blk_drew BK300.out)
      have n6_ := aM_ (bD_ HB.out)
      clear HO_301004
      clear HO_301005
      clear HO_301006
      clear HO_301007
      clear BK264
      clear BK300
      clear HB
      have HO_301004 := n0_
      have HO_301005 := n1_
      have HO_301006 := n2_
      have HO_301007 := n3_
      have BK264 := n4_
      have BK300 := n5_
      have HB := n6_
      clear n0_ n1_ n2_ n3_ n4_ n5_ n6_
      refine start_ (n := 5) (S := fun w' => w'.cell? ⟨gb300, 0, none⟩ = some (.int .i64 t284) ∧ w'.cell? ⟨gb300, 1, none⟩ = some (.int .i64 t285) ∧ w'.cell? ⟨gb300, 2, none⟩ = some (.string t286) ∧ w'.cell? ⟨gb300, 3, none⟩ = some (.int .i64 t287) ∧ w'.cell? ⟨gb300, 4, none⟩ = some (.slice Ao27 t288.length co27) ∧ w'.cell? ⟨gb300, 5, none⟩ = some (.slice Ao28 t291.length co28) ∧ w'.cell? ⟨gb300, 6, none⟩ = some (.slice Ao29 t294.length co29) ∧ w'.cell? ⟨gb300, 7, none⟩ = some (.slice Ao30 t297.length co30) ∧ w'.cell? ⟨gb264, 0, none⟩ = some (.int .i64 a0_0) ∧ w'.cell? ⟨gb264, 1, none⟩ = some (.int .i64 a0_1) ∧ w'.cell? ⟨gb264, 2, none⟩ = some (.string a0_2) ∧ w'.cell? ⟨gb264, 3, none⟩ = some (.int .i64 a0_3) ∧ w'.cell? ⟨gb264, 4, none⟩ = some (.slice A0_4 l0_4.length c0_4) ∧ w'.cell? ⟨gb264, 5, none⟩ = some (.slice A0_5 l0_5.length c0_5) ∧ w'.cell? ⟨gb264, 6, none⟩ = some (.slice A0_6 l0_6.length c0_6) ∧ w'.cell? ⟨gb264, 7, none⟩ = some (.slice A0_7 l0_7.length c0_7)) (ds := []) #[false, false, false, false, false] (by kernel_rfl) rfl rfl ⟨(bC_ BK300.out 0).trans rfl, (bC_ BK300.out 1).trans rfl, (bC_ BK300.out 2).trans rfl, (bC_ BK300.out 3).trans rfl, (bC_ BK300.out 4).trans rfl, (bC_ BK300.out 5).trans rfl, (bC_ BK300.out 6).trans rfl, (bC_ BK300.out 7).trans rfl, (bC_ BK264.out 0).trans rfl, (bC_ BK264.out 1).trans rfl, (bC_ BK264.out 2).trans rfl, (bC_ BK264.out 3).trans rfl, (bC_ BK264.out 4).trans rfl, (bC_ BK264.out 5).trans rfl, (bC_ BK264.out 6).trans rfl, (bC_ BK264.out 7).trans rfl⟩ (fun hHeld => ?_)
      generalize wc.drew = w37 at HO_301004 HO_301005 HO_301006 HO_301007 BK264 BK300 HB hHeld ⊢
      refine take_ (i := 0) (N := some 35) (v := ?_) (a' := ?_) #[true, false, false, false, false] rfl rfl (by kernel_rfl) (fun _ _ _ h => h) (Or.inl ⟨by rfl, ?_⟩) hHeld ?_ ?_
      rotate_left
      ·rintro w' ⟨s0, s1, s2, s3, s4, s5, s6, s7, s8, s9, s10, s11, s12, s13, s14, s15⟩
       go_simp
       with_reducible rfl
      rotate_left
      ·simp only [Act.put, List.setIfInBounds_toArray, List.set_cons_zero, List.set_cons_succ, i64_w, i32_w]
       rfl
      refine take_ (i := 1) (N := some 36) (v := ?_) (a' := ?_) #[true, true, false, false, false] rfl rfl (by kernel_rfl) (fun _ _ _ h => h) (Or.inl ⟨by rfl, ?_⟩) hHeld ?_ ?_
      rotate_left
      ·rintro w' ⟨s0, s1, s2, s3, s4, s5, s6, s7, s8, s9, s10, s11, s12, s13, s14, s15⟩
       go_simp
       with_reducible rfl
      rotate_left
      ·simp only [Act.put, List.setIfInBounds_toArray, List.set_cons_zero, List.set_cons_succ, i64_w, i32_w]
       rfl
      refine one_ (i := 2) (N := some 37) #[true, true, true, false, false] rfl rfl (by kernel_rfl) (by decide) (fun K hK => ?_)
      refine goes_ Tryd.func21 (by kernel_rfl) rfl #[.agg #[.int .i64 a0_0, .int .i64 a0_1, .string a0_2, .int .i64 a0_3, .slice A0_4 l0_4.length c0_4, .slice A0_5 l0_5.length c0_5, .slice A0_6 l0_6.length c0_6, .slice A0_7 l0_7.length c0_7]] (by rfl) rfl rfl (by (try simp only [List.map_toArray, List.map_cons, List.map_nil]); first | done | rfl | (simp only [List.length_drop, List.length_take]; rfl)) ?_
      with_reducible refine (laws_toBuilt.calls kj10 a0_0 a0_1 a0_2 a0_3 _ _ l0_4 _ _ l0_5 _ _ l0_6 _ _ l0_7 t303 t304 t305 t306 t307 t310 t313 t316 _ ?side1 ?side2 ?side3 ?side4 ?side5 ?side6 ?side7 ?side8 A34.out).mono ?_
      (case side1 => repeat (first | exact (Kd.C_below HR0_4.out HB.out) | (with_reducible refine Kd.C_alloc ?_ _) | (with_reducible refine Kd.C_drewN ?_ _) | (with_reducible refine Kd.C_drew ?_)))
      (case side2 => exact HC0_4.out)
      (case side3 => repeat (first | exact (Kd.C_below HR0_5.out HB.out) | (with_reducible refine Kd.C_alloc ?_ _) | (with_reducible refine Kd.C_drewN ?_ _) | (with_reducible refine Kd.C_drew ?_)))
      (case side4 => exact HC0_5.out)
      (case side5 => repeat (first | exact (Kd.C_below HR0_6.out HB.out) | (with_reducible refine Kd.C_alloc ?_ _) | (with_reducible refine Kd.C_drewN ?_ _) | (with_reducible refine Kd.C_drew ?_)))
      (case side6 => exact HC0_6.out)
      (case side7 => repeat (first | exact (Kd.C_below HR0_7.out HB.out) | (with_reducible refine Kd.C_alloc ?_ _) | (with_reducible refine Kd.C_drewN ?_ _) | (with_reducible refine Kd.C_drew ?_)))
      (case side8 => exact HC0_7.out)
      rintro e w38 ⟨v308, v311, v314, v317, rfl, ho0, ho1, ho2, ho3, hb⟩
      refine ⟨_, rfl, ?_⟩
      have n0_ := aM_ (Kd.S_elder' (by (with_reducible repeat (first | apply Kd.S_alloc | apply Kd.S_drewN | apply Kd.S_drew)); exact HO_301004.out) (Kd.S_base ho0) hb)
      have n1_ := aM_ (Kd.R_mono (Kd.R_told (Kd.R_told (Kd.R_old (by (with_reducible repeat (first | apply Kd.R_alloc | apply Kd.R_drewN | apply Kd.R_drew)); exact HO_301005.out) hb) (Kd.R_base ho1)) (Kd.R_base ho3)) (fun _ h_ => h_.1))
      have n2_ := aM_ (Kd.R_elder' (by (with_reducible repeat (first | apply Kd.R_alloc | apply Kd.R_drewN | apply Kd.R_drew)); exact HO_301006.out) (Kd.R_base ho2) hb)
      have n3_ := aM_ (Kd.R_mono (Kd.R_told (Kd.R_told (Kd.R_old (by (with_reducible repeat (first | apply Kd.R_alloc | apply Kd.R_drewN | apply Kd.R_drew)); exact HO_301007.out) hb) (Kd.R_base ho1)) (Kd.R_base ho3)) (fun _ h_ => h_.1))
      have n4_ := aM_ (Kd.S_lower (Kd.S_new' ho0 (Kd.S_lt (by (with_reducible repeat (first | apply Kd.S_alloc | apply Kd.S_drewN | apply Kd.S_drew)); exact HO_301004.out))) (below_size (by repeat (first | (with_reducible first | exact HB.out | apply bA_ | apply bN_ | apply bD_ | refine below_set ?_ GE264.out | refine below_set ?_ GE300.out) | exact HB.out))))
      have n5_ := aM_ (Kd.R_lower (Kd.R_new' (Kd.R_new' ho1 (Kd.R_lt (by (with_reducible repeat (first | apply Kd.R_alloc | apply Kd.R_drewN | apply Kd.R_drew)); exact HO_301005.out))) (Kd.R_lt (by (with_reducible repeat (first | apply Kd.R_alloc | apply Kd.R_drewN | apply Kd.R_drew)); exact HO_301007.out))) (below_size (by repeat (first | (with_reducible first | exact HB.out | apply bA_ | apply bN_ | apply bD_ | refine below_set ?_ GE264.out | refine below_set ?_ GE300.out) | exact HB.out))))
      have n6_ := aM_ (Kd.R_lower (Kd.R_new' ho2 (Kd.R_lt (by (with_reducible repeat (first | apply Kd.R_alloc | apply Kd.R_drewN | apply Kd.R_drew)); exact HO_301006.out))) (below_size (by repeat (first | (with_reducible first | exact HB.out | apply bA_ | apply bN_ | apply bD_ | refine below_set ?_ GE264.out | refine below_set ?_ GE300.out) | exact HB.out))))
      have n7_ := aM_ (Kd.R_lower (Kd.R_new' (Kd.R_new' ho3 (Kd.R_lt (by (with_reducible repeat (first | apply Kd.R_alloc | apply Kd.R_drewN | apply Kd.R_drew)); exact HO_301005.out))) (Kd.R_lt (by (with_reducible repeat (first | apply Kd.R_alloc | apply Kd.R_drewN | apply Kd.R_drew)); exact HO_301007.out))) (below_size (by repeat (first | (with_reducible first | exact HB.out | apply bA_ | apply bN_ | apply bD_ | refine below_set ?_ GE264.out | refine below_set ?_ GE300.out) | exact HB.out))))
      have n8_ := aM_ (blk_below (g := gb264) (o := .cells #[.int .i64 a0_0, .int .i64 a0_1, .string a0_2, .int .i64 a0_3, .slice A0_4 l0_4.length c0_4, .slice A0_5 l0_5.length c0_5, .slice A0_6 l0_6.length c0_6, .slice A0_7 l0_7.length c0_7] 51 (0, 0)) (by (with_reducible repeat (first | refine blk_drewN ?_ _ | refine blk_drew ?_ | refine blk_alloc ?_ _)); exact BK264.out) hb)
      have n9_ := aM_ (blk_below (g := gb300) (o := .cells #[.int .i64 t284, .int .i64 t285, .string t286, .int .i64 t287, .slice Ao27 t288.length co27, .slice Ao28 t291.length co28, .slice Ao29 t294.length co29, .slice Ao30 t297.length co30] 59 (0, 0)) (by (with_reducible repeat (first | refine blk_drewN ?_ _ | refine blk_drew ?_ | refine blk_alloc ?_ _)); exact BK300.out) hb)
      have n10_ := aM_ (below_step (by repeat (first | (with_reducible first | exact HB.out | apply bA_ | apply bN_ | apply bD_ | refine below_set ?_ GE264.out | refine below_set ?_ GE300.out) | exact HB.out)) hb)
      clear HO_301004
      clear HO_301005
      clear HO_301006
      clear HO_301007
      clear BK264
      clear BK300
      clear HB
      have HO_301004 := n0_
      have HO_301005 := n1_
      have HO_301006 := n2_
      have HO_301007 := n3_
      have HO309 := n4_
      have HO312 := n5_
      have HO315 := n6_
      have HO318 := n7_
      have BK264 := n8_
      have BK300 := n9_
      have HB := n10_
      clear n0_ n1_ n2_ n3_ n4_ n5_ n6_ n7_ n8_ n9_ n10_
      (try clear hb)
      (try clear hb2)
      (try clear hk)
      (try clear hi)
      (try clear ho0)
      (try clear ho1)
      (try clear ho2)
      (try clear ho3)
      obtain ⟨Ao39, co39, eo39⟩ := Kd.S_slice HO309.out
      (first | subst eo39 | (injection eo39 with f1_ f2_ f3_; have f4_ := f1_.symm; have f5_ := f3_.symm; clear f1_ f2_ f3_; subst f4_; subst f5_))
      obtain ⟨Ao40, co40, eo40⟩ := Kd.R_slice HO312.out
      (first | subst eo40 | (injection eo40 with f1_ f2_ f3_; have f4_ := f1_.symm; have f5_ := f3_.symm; clear f1_ f2_ f3_; subst f4_; subst f5_))
      obtain ⟨Ao41, co41, eo41⟩ := Kd.R_slice HO315.out
      (first | subst eo41 | (injection eo41 with f1_ f2_ f3_; have f4_ := f1_.symm; have f5_ := f3_.symm; clear f1_ f2_ f3_; subst f4_; subst f5_))
      obtain ⟨Ao42, co42, eo42⟩ := Kd.R_slice HO318.out
      (first | subst eo42 | (injection eo42 with f1_ f2_ f3_; have f4_ := f1_.symm; have f5_ := f3_.symm; clear f1_ f2_ f3_; subst f4_; subst f5_))
      refine hK.out _ _ ⟨(bC_ BK300.out 0).trans rfl, (bC_ BK300.out 1).trans rfl, (bC_ BK300.out 2).trans rfl, (bC_ BK300.out 3).trans rfl, (bC_ BK300.out 4).trans rfl, (bC_ BK300.out 5).trans rfl, (bC_ BK300.out 6).trans rfl, (bC_ BK300.out 7).trans rfl, (bC_ BK264.out 0).trans rfl, (bC_ BK264.out 1).trans rfl, (bC_ BK264.out 2).trans rfl, (bC_ BK264.out 3).trans rfl, (bC_ BK264.out 4).trans rfl, (bC_ BK264.out 5).trans rfl, (bC_ BK264.out 6).trans rfl, (bC_ BK264.out 7).trans rfl⟩ (fun hHeld => ?_)
      clear hK K
      refine norm_ (a' := ?_) ?_ ?_
      rotate_left
      ·show Act.put _ (some 37) _ = _
       simp only [Act.put, List.setIfInBounds_toArray, List.set_cons_zero, List.set_cons_succ, i64_w, i32_w]
       rfl
      refine one_ (i := 3) (N := some 38) #[true, true, true, true, false] rfl rfl (by kernel_rfl) (by decide) (fun K hK => ?_)
      refine goes_ Tryd.func23 (by kernel_rfl) rfl #[.agg #[.int .i64 t284, .int .i64 t285, .string t286, .int .i64 t287, .slice Ao27 t288.length co27, .slice Ao28 t291.length co28, .slice Ao29 t294.length co29, .slice Ao30 t297.length co30], .agg #[.int .i64 t303, .int .i64 t304, .string t305, .int .i64 t306, .slice Ao39 t307.length co39, .slice Ao40 t310.length co40, .slice Ao41 t313.length co41, .slice Ao42 t316.length co42]] (by rfl) rfl rfl (by (try simp only [List.map_toArray, List.map_cons, List.map_nil]); first | done | rfl | (simp only [List.length_drop, List.length_take]; rfl)) ?_
      with_reducible refine (laws_eqBuilt.calls kj10 t284 t285 t286 t287 _ _ t288 _ _ t291 _ _ t294 _ _ t297 t303 t304 t305 t306 _ _ t307 _ _ t310 _ _ t313 _ _ t316 true _ ?side1 ?side2 ?side3 ?side4 ?side5 ?side6 ?side7 ?side8 ?side9 ?side10 ?side11 ?side12 ?side13 ?side14 ?side15 ?side16 A35.out).mono ?_
      (case side1 => repeat (first | exact (Kd.S_reads' HO_301004.out).2.2 | (with_reducible refine Kd.C_alloc ?_ _) | (with_reducible refine Kd.C_drewN ?_ _) | (with_reducible refine Kd.C_drew ?_)))
      (case side2 => exact (Kd.S_reads' HO_301004.out).2.1)
      (case side3 => repeat (first | exact (Kd.R_reads' HO_301005.out).2.2 | (with_reducible refine Kd.C_alloc ?_ _) | (with_reducible refine Kd.C_drewN ?_ _) | (with_reducible refine Kd.C_drew ?_)))
      (case side4 => exact (Kd.R_reads' HO_301005.out).2.1)
      (case side5 => repeat (first | exact (Kd.R_reads' HO_301006.out).2.2 | (with_reducible refine Kd.C_alloc ?_ _) | (with_reducible refine Kd.C_drewN ?_ _) | (with_reducible refine Kd.C_drew ?_)))
      (case side6 => exact (Kd.R_reads' HO_301006.out).2.1)
      (case side7 => repeat (first | exact (Kd.R_reads' HO_301007.out).2.2 | (with_reducible refine Kd.C_alloc ?_ _) | (with_reducible refine Kd.C_drewN ?_ _) | (with_reducible refine Kd.C_drew ?_)))
      (case side8 => exact (Kd.R_reads' HO_301007.out).2.1)
      (case side9 => repeat (first | exact (Kd.S_reads' HO309.out).2.2 | (with_reducible refine Kd.C_alloc ?_ _) | (with_reducible refine Kd.C_drewN ?_ _) | (with_reducible refine Kd.C_drew ?_)))
      (case side10 => exact (Kd.S_reads' HO309.out).2.1)
      (case side11 => repeat (first | exact (Kd.R_reads' HO312.out).2.2 | (with_reducible refine Kd.C_alloc ?_ _) | (with_reducible refine Kd.C_drewN ?_ _) | (with_reducible refine Kd.C_drew ?_)))
      (case side12 => exact (Kd.R_reads' HO312.out).2.1)
      (case side13 => repeat (first | exact (Kd.R_reads' HO315.out).2.2 | (with_reducible refine Kd.C_alloc ?_ _) | (with_reducible refine Kd.C_drewN ?_ _) | (with_reducible refine Kd.C_drew ?_)))
      (case side14 => exact (Kd.R_reads' HO315.out).2.1)
      (case side15 => repeat (first | exact (Kd.R_reads' HO318.out).2.2 | (with_reducible refine Kd.C_alloc ?_ _) | (with_reducible refine Kd.C_drewN ?_ _) | (with_reducible refine Kd.C_drew ?_)))
      (case side16 => exact (Kd.R_reads' HO318.out).2.1)
      rintro e w43 ⟨rfl, hb⟩
      refine ⟨_, rfl, ?_⟩
      have n0_ := aM_ (Kd.S_below (by (with_reducible repeat (first | apply Kd.S_alloc | apply Kd.S_drewN | apply Kd.S_drew)); exact HO_301004.out) hb)
      have n1_ := aM_ (Kd.R_below (by (with_reducible repeat (first | apply Kd.R_alloc | apply Kd.R_drewN | apply Kd.R_drew)); exact HO_301005.out) hb)
      have n2_ := aM_ (Kd.R_below (by (with_reducible repeat (first | apply Kd.R_alloc | apply Kd.R_drewN | apply Kd.R_drew)); exact HO_301006.out) hb)
      have n3_ := aM_ (Kd.R_below (by (with_reducible repeat (first | apply Kd.R_alloc | apply Kd.R_drewN | apply Kd.R_drew)); exact HO_301007.out) hb)
      have n4_ := aM_ (Kd.S_below (by (with_reducible repeat (first | apply Kd.S_alloc | apply Kd.S_drewN | apply Kd.S_drew)); exact HO309.out) hb)
      have n5_ := aM_ (Kd.R_below (by (with_reducible repeat (first | apply Kd.R_alloc | apply Kd.R_drewN | apply Kd.R_drew)); exact HO312.out) hb)
      have n6_ := aM_ (Kd.R_below (by (with_reducible repeat (first | apply Kd.R_alloc | apply Kd.R_drewN | apply Kd.R_drew)); exact HO315.out) hb)
      have n7_ := aM_ (Kd.R_below (by (with_reducible repeat (first | apply Kd.R_alloc | apply Kd.R_drewN | apply Kd.R_drew)); exact HO318.out) hb)
      have n8_ := aM_ (blk_below (g := gb264) (o := .cells #[.int .i64 a0_0, .int .i64 a0_1, .string a0_2, .int .i64 a0_3, .slice A0_4 l0_4.length c0_4, .slice A0_5 l0_5.length c0_5, .slice A0_6 l0_6.length c0_6, .slice A0_7 l0_7.length c0_7] 51 (0, 0)) (by (with_reducible repeat (first | refine blk_drewN ?_ _ | refine blk_drew ?_ | refine blk_alloc ?_ _)); exact BK264.out) hb)
      have n9_ := aM_ (blk_below (g := gb300) (o := .cells #[.int .i64 t284, .int .i64 t285, .string t286, .int .i64 t287, .slice Ao27 t288.length co27, .slice Ao28 t291.length co28, .slice Ao29 t294.length co29, .slice Ao30 t297.length co30] 59 (0, 0)) (by (with_reducible repeat (first | refine blk_drewN ?_ _ | refine blk_drew ?_ | refine blk_alloc ?_ _)); exact BK300.out) hb)
      have n10_ := aM_ (below_step (by repeat (first | (with_reducible first | exact HB.out | apply bA_ | apply bN_ | apply bD_ | refine below_set ?_ GE264.out | refine below_set ?_ GE300.out) | exact HB.out)) hb)
      clear HO_301004
      clear HO_301005
      clear HO_301006
      clear HO_301007
      clear HO309
      clear HO312
      clear HO315
      clear HO318
      clear BK264
      clear BK300
      clear HB
      have HO_301004 := n0_
      have HO_301005 := n1_
      have HO_301006 := n2_
      have HO_301007 := n3_
      have HO309 := n4_
      have HO312 := n5_
      have HO315 := n6_
      have HO318 := n7_
      have BK264 := n8_
      have BK300 := n9_
      have HB := n10_
      clear n0_ n1_ n2_ n3_ n4_ n5_ n6_ n7_ n8_ n9_ n10_
      (try clear hb)
      (try clear hb2)
      (try clear hk)
      (try clear hi)
      refine hK.out _ _ ⟨(bC_ BK300.out 0).trans rfl, (bC_ BK300.out 1).trans rfl, (bC_ BK300.out 2).trans rfl, (bC_ BK300.out 3).trans rfl, (bC_ BK300.out 4).trans rfl, (bC_ BK300.out 5).trans rfl, (bC_ BK300.out 6).trans rfl, (bC_ BK300.out 7).trans rfl, (bC_ BK264.out 0).trans rfl, (bC_ BK264.out 1).trans rfl, (bC_ BK264.out 2).trans rfl, (bC_ BK264.out 3).trans rfl, (bC_ BK264.out 4).trans rfl, (bC_ BK264.out 5).trans rfl, (bC_ BK264.out 6).trans rfl, (bC_ BK264.out 7).trans rfl⟩ (fun hHeld => ?_)
      clear hK K
      refine norm_ (a' := ?_) ?_ ?_
      rotate_left
      ·show Act.put _ (some 38) _ = _
       simp only [Act.put, List.setIfInBounds_toArray, List.set_cons_zero, List.set_cons_succ, i64_w, i32_w]
       rfl
      refine pure_ (i := 4) (N := some 39) (v := ?_) (a' := ?_) #[true, true, true, true, true] rfl rfl (by kernel_rfl) (fun _ _ _ h => h) (Or.inl ⟨by rfl, ?_⟩) ?_ ?_
      rotate_left
      ·intro w'
       go_simp
       with_reducible rfl
      rotate_left
      ·simp only [Act.put, List.setIfInBounds_toArray, List.set_cons_zero, List.set_cons_succ, i64_w, i32_w]
       rfl
      refine done_ (by kernel_rfl) ?_
      try go_wp2
      go_ret
      exact ⟨by first | rfl | (simp [errW_none, errW_some] <;> rfl) | (simp [*, errW_none, errW_some] <;> rfl), by repeat (first | (with_reducible first | exact HB.out | apply bA_ | apply bN_ | apply bD_ | refine below_set ?_ GE264.out | refine below_set ?_ GE300.out) | exact HB.out)⟩
     ·replace c36 := Bool.eq_false_iff.mpr c36
      subst c36
      have H1 : (some false) = some r := by rw [if_neg (show ¬ (false = true) by decide)] at H; exact H
      clear H
      have H := H1
      clear H1
      obtain rfl := Option.some.inj H
      try go_wp2
      have n0_ := aM_ (Kd.S_drew HO_301004.out)
      have n1_ := aM_ (Kd.R_drew HO_301005.out)
      have n2_ := aM_ (Kd.R_drew HO_301006.out)
      have n3_ := aM_ (Kd.R_drew HO_301007.out)
      have n4_ := aM_ (blk_drew BK264.out)
      have n5_ := aM_ (blk_drew BK300.out)
      have n6_ := aM_ (bD_ HB.out)
      clear HO_301004
      clear HO_301005
      clear HO_301006
      clear HO_301007
      clear BK264
      clear BK300
      clear HB
      have HO_301004 := n0_
      have HO_301005 := n1_
      have HO_301006 := n2_
      have HO_301007 := n3_
      have BK264 := n4_
      have BK300 := n5_
      have HB := n6_
      clear n0_ n1_ n2_ n3_ n4_ n5_ n6_
      refine start_ (n := 5) (S := fun w' => w'.cell? ⟨gb300, 0, none⟩ = some (.int .i64 t284) ∧ w'.cell? ⟨gb300, 1, none⟩ = some (.int .i64 t285) ∧ w'.cell? ⟨gb300, 2, none⟩ = some (.string t286) ∧ w'.cell? ⟨gb300, 3, none⟩ = some (.int .i64 t287) ∧ w'.cell? ⟨gb300, 4, none⟩ = some (.slice Ao27 t288.length co27) ∧ w'.cell? ⟨gb300, 5, none⟩ = some (.slice Ao28 t291.length co28) ∧ w'.cell? ⟨gb300, 6, none⟩ = some (.slice Ao29 t294.length co29) ∧ w'.cell? ⟨gb300, 7, none⟩ = some (.slice Ao30 t297.length co30) ∧ w'.cell? ⟨gb264, 0, none⟩ = some (.int .i64 a0_0) ∧ w'.cell? ⟨gb264, 1, none⟩ = some (.int .i64 a0_1) ∧ w'.cell? ⟨gb264, 2, none⟩ = some (.string a0_2) ∧ w'.cell? ⟨gb264, 3, none⟩ = some (.int .i64 a0_3) ∧ w'.cell? ⟨gb264, 4, none⟩ = some (.slice A0_4 l0_4.length c0_4) ∧ w'.cell? ⟨gb264, 5, none⟩ = some (.slice A0_5 l0_5.length c0_5) ∧ w'.cell? ⟨gb264, 6, none⟩ = some (.slice A0_6 l0_6.length c0_6) ∧ w'.cell? ⟨gb264, 7, none⟩ = some (.slice A0_7 l0_7.length c0_7)) (ds := []) #[false, false, false, false, false] (by kernel_rfl) rfl rfl ⟨(bC_ BK300.out 0).trans rfl, (bC_ BK300.out 1).trans rfl, (bC_ BK300.out 2).trans rfl, (bC_ BK300.out 3).trans rfl, (bC_ BK300.out 4).trans rfl, (bC_ BK300.out 5).trans rfl, (bC_ BK300.out 6).trans rfl, (bC_ BK300.out 7).trans rfl, (bC_ BK264.out 0).trans rfl, (bC_ BK264.out 1).trans rfl, (bC_ BK264.out 2).trans rfl, (bC_ BK264.out 3).trans rfl, (bC_ BK264.out 4).trans rfl, (bC_ BK264.out 5).trans rfl, (bC_ BK264.out 6).trans rfl, (bC_ BK264.out 7).trans rfl⟩ (fun hHeld => ?_)
      generalize wc.drew = w44 at HO_301004 HO_301005 HO_301006 HO_301007 BK264 BK300 HB hHeld ⊢
      refine take_ (i := 0) (N := some 35) (v := ?_) (a' := ?_) #[true, false, false, false, false] rfl rfl (by kernel_rfl) (fun _ _ _ h => h) (Or.inl ⟨by rfl, ?_⟩) hHeld ?_ ?_
      rotate_left
      ·rintro w' ⟨s0, s1, s2, s3, s4, s5, s6, s7, s8, s9, s10, s11, s12, s13, s14, s15⟩
       go_simp
       with_reducible rfl
      rotate_left
      ·simp only [Act.put, List.setIfInBounds_toArray, List.set_cons_zero, List.set_cons_succ, i64_w, i32_w]
       rfl
      refine take_ (i := 1) (N := some 36) (v := ?_) (a' := ?_) #[true, true, false, false, false] rfl rfl (by kernel_rfl) (fun _ _ _ h => h) (Or.inl ⟨by rfl, ?_⟩) hHeld ?_ ?_
      rotate_left
      ·rintro w' ⟨s0, s1, s2, s3, s4, s5, s6, s7, s8, s9, s10, s11, s12, s13, s14, s15⟩
       go_simp
       with_reducible rfl
      rotate_left
      ·simp only [Act.put, List.setIfInBounds_toArray, List.set_cons_zero, List.set_cons_succ, i64_w, i32_w]
       rfl
      refine one_ (i := 2) (N := some 37) #[true, true, true, false, false] rfl rfl (by kernel_rfl) (by decide) (fun K hK => ?_)
      refine goes_ Tryd.func21 (by kernel_rfl) rfl #[.agg #[.int .i64 a0_0, .int .i64 a0_1, .string a0_2, .int .i64 a0_3, .slice A0_4 l0_4.length c0_4, .slice A0_5 l0_5.length c0_5, .slice A0_6 l0_6.length c0_6, .slice A0_7 l0_7.length c0_7]] (by rfl) rfl rfl (by (try simp only [List.map_toArray, List.map_cons, List.map_nil]); first | done | rfl | (simp only [List.length_drop, List.length_take]; rfl)) ?_
      with_reducible refine (laws_toBuilt.calls kj10 a0_0 a0_1 a0_2 a0_3 _ _ l0_4 _ _ l0_5 _ _ l0_6 _ _ l0_7 t303 t304 t305 t306 t307 t310 t313 t316 _ ?side1 ?side2 ?side3 ?side4 ?side5 ?side6 ?side7 ?side8 A34.out).mono ?_
      (case side1 => repeat (first | exact (Kd.C_below HR0_4.out HB.out) | (with_reducible refine Kd.C_alloc ?_ _) | (with_reducible refine Kd.C_drewN ?_ _) | (with_reducible refine Kd.C_drew ?_)))
      (case side2 => exact HC0_4.out)
      (case side3 => repeat (first | exact (Kd.C_below HR0_5.out HB.out) | (with_reducible refine Kd.C_alloc ?_ _) | (with_reducible refine Kd.C_drewN ?_ _) | (with_reducible refine Kd.C_drew ?_)))
      (case side4 => exact HC0_5.out)
      (case side5 => repeat (first | exact (Kd.C_below HR0_6.out HB.out) | (with_reducible refine Kd.C_alloc ?_ _) | (with_reducible refine Kd.C_drewN ?_ _) | (with_reducible refine Kd.C_drew ?_)))
      (case side6 => exact HC0_6.out)
      (case side7 => repeat (first | exact (Kd.C_below HR0_7.out HB.out) | (with_reducible refine Kd.C_alloc ?_ _) | (with_reducible refine Kd.C_drewN ?_ _) | (with_reducible refine Kd.C_drew ?_)))
      (case side8 => exact HC0_7.out)
      rintro e w45 ⟨v308, v311, v314, v317, rfl, ho0, ho1, ho2, ho3, hb⟩
      refine ⟨_, rfl, ?_⟩
      have n0_ := aM_ (Kd.S_elder' (by (with_reducible repeat (first | apply Kd.S_alloc | apply Kd.S_drewN | apply Kd.S_drew)); exact HO_301004.out) (Kd.S_base ho0) hb)
      have n1_ := aM_ (Kd.R_mono (Kd.R_told (Kd.R_told (Kd.R_old (by (with_reducible repeat (first | apply Kd.R_alloc | apply Kd.R_drewN | apply Kd.R_drew)); exact HO_301005.out) hb) (Kd.R_base ho1)) (Kd.R_base ho3)) (fun _ h_ => h_.1))
      have n2_ := aM_ (Kd.R_elder' (by (with_reducible repeat (first | apply Kd.R_alloc | apply Kd.R_drewN | apply Kd.R_drew)); exact HO_301006.out) (Kd.R_base ho2) hb)
      have n3_ := aM_ (Kd.R_mono (Kd.R_told (Kd.R_told (Kd.R_old (by (with_reducible repeat (first | apply Kd.R_alloc | apply Kd.R_drewN | apply Kd.R_drew)); exact HO_301007.out) hb) (Kd.R_base ho1)) (Kd.R_base ho3)) (fun _ h_ => h_.1))
      have n4_ := aM_ (Kd.S_lower (Kd.S_new' ho0 (Kd.S_lt (by (with_reducible repeat (first | apply Kd.S_alloc | apply Kd.S_drewN | apply Kd.S_drew)); exact HO_301004.out))) (below_size (by repeat (first | (with_reducible first | exact HB.out | apply bA_ | apply bN_ | apply bD_ | refine below_set ?_ GE264.out | refine below_set ?_ GE300.out) | exact HB.out))))
      have n5_ := aM_ (Kd.R_lower (Kd.R_new' (Kd.R_new' ho1 (Kd.R_lt (by (with_reducible repeat (first | apply Kd.R_alloc | apply Kd.R_drewN | apply Kd.R_drew)); exact HO_301005.out))) (Kd.R_lt (by (with_reducible repeat (first | apply Kd.R_alloc | apply Kd.R_drewN | apply Kd.R_drew)); exact HO_301007.out))) (below_size (by repeat (first | (with_reducible first | exact HB.out | apply bA_ | apply bN_ | apply bD_ | refine below_set ?_ GE264.out | refine below_set ?_ GE300.out) | exact HB.out))))
      have n6_ := aM_ (Kd.R_lower (Kd.R_new' ho2 (Kd.R_lt (by (with_reducible repeat (first | apply Kd.R_alloc | apply Kd.R_drewN | apply Kd.R_drew)); exact HO_301006.out))) (below_size (by repeat (first | (with_reducible first | exact HB.out | apply bA_ | apply bN_ | apply bD_ | refine below_set ?_ GE264.out | refine below_set ?_ GE300.out) | exact HB.out))))
      have n7_ := aM_ (Kd.R_lower (Kd.R_new' (Kd.R_new' ho3 (Kd.R_lt (by (with_reducible repeat (first | apply Kd.R_alloc | apply Kd.R_drewN | apply Kd.R_drew)); exact HO_301005.out))) (Kd.R_lt (by (with_reducible repeat (first | apply Kd.R_alloc | apply Kd.R_drewN | apply Kd.R_drew)); exact HO_301007.out))) (below_size (by repeat (first | (with_reducible first | exact HB.out | apply bA_ | apply bN_ | apply bD_ | refine below_set ?_ GE264.out | refine below_set ?_ GE300.out) | exact HB.out))))
      have n8_ := aM_ (blk_below (g := gb264) (o := .cells #[.int .i64 a0_0, .int .i64 a0_1, .string a0_2, .int .i64 a0_3, .slice A0_4 l0_4.length c0_4, .slice A0_5 l0_5.length c0_5, .slice A0_6 l0_6.length c0_6, .slice A0_7 l0_7.length c0_7] 51 (0, 0)) (by (with_reducible repeat (first | refine blk_drewN ?_ _ | refine blk_drew ?_ | refine blk_alloc ?_ _)); exact BK264.out) hb)
      have n9_ := aM_ (blk_below (g := gb300) (o := .cells #[.int .i64 t284, .int .i64 t285, .string t286, .int .i64 t287, .slice Ao27 t288.length co27, .slice Ao28 t291.length co28, .slice Ao29 t294.length co29, .slice Ao30 t297.length co30] 59 (0, 0)) (by (with_reducible repeat (first | refine blk_drewN ?_ _ | refine blk_drew ?_ | refine blk_alloc ?_ _)); exact BK300.out) hb)
      have n10_ := aM_ (below_step (by repeat (first | (with_reducible first | exact HB.out | apply bA_ | apply bN_ | apply bD_ | refine below_set ?_ GE264.out | refine below_set ?_ GE300.out) | exact HB.out)) hb)
      clear HO_301004
      clear HO_301005
      clear HO_301006
      clear HO_301007
      clear BK264
      clear BK300
      clear HB
      have HO_301004 := n0_
      have HO_301005 := n1_
      have HO_301006 := n2_
      have HO_301007 := n3_
      have HO309 := n4_
      have HO312 := n5_
      have HO315 := n6_
      have HO318 := n7_
      have BK264 := n8_
      have BK300 := n9_
      have HB := n10_
      clear n0_ n1_ n2_ n3_ n4_ n5_ n6_ n7_ n8_ n9_ n10_
      (try clear hb)
      (try clear hb2)
      (try clear hk)
      (try clear hi)
      (try clear ho0)
      (try clear ho1)
      (try clear ho2)
      (try clear ho3)
      obtain ⟨Ao46, co46, eo46⟩ := Kd.S_slice HO309.out
      (first | subst eo46 | (injection eo46 with f1_ f2_ f3_; have f4_ := f1_.symm; have f5_ := f3_.symm; clear f1_ f2_ f3_; subst f4_; subst f5_))
      obtain ⟨Ao47, co47, eo47⟩ := Kd.R_slice HO312.out
      (first | subst eo47 | (injection eo47 with f1_ f2_ f3_; have f4_ := f1_.symm; have f5_ := f3_.symm; clear f1_ f2_ f3_; subst f4_; subst f5_))
      obtain ⟨Ao48, co48, eo48⟩ := Kd.R_slice HO315.out
      (first | subst eo48 | (injection eo48 with f1_ f2_ f3_; have f4_ := f1_.symm; have f5_ := f3_.symm; clear f1_ f2_ f3_; subst f4_; subst f5_))
      obtain ⟨Ao49, co49, eo49⟩ := Kd.R_slice HO318.out
      (first | subst eo49 | (injection eo49 with f1_ f2_ f3_; have f4_ := f1_.symm; have f5_ := f3_.symm; clear f1_ f2_ f3_; subst f4_; subst f5_))
      refine hK.out _ _ ⟨(bC_ BK300.out 0).trans rfl, (bC_ BK300.out 1).trans rfl, (bC_ BK300.out 2).trans rfl, (bC_ BK300.out 3).trans rfl, (bC_ BK300.out 4).trans rfl, (bC_ BK300.out 5).trans rfl, (bC_ BK300.out 6).trans rfl, (bC_ BK300.out 7).trans rfl, (bC_ BK264.out 0).trans rfl, (bC_ BK264.out 1).trans rfl, (bC_ BK264.out 2).trans rfl, (bC_ BK264.out 3).trans rfl, (bC_ BK264.out 4).trans rfl, (bC_ BK264.out 5).trans rfl, (bC_ BK264.out 6).trans rfl, (bC_ BK264.out 7).trans rfl⟩ (fun hHeld => ?_)
      clear hK K
      refine norm_ (a' := ?_) ?_ ?_
      rotate_left
      ·show Act.put _ (some 37) _ = _
       simp only [Act.put, List.setIfInBounds_toArray, List.set_cons_zero, List.set_cons_succ, i64_w, i32_w]
       rfl
      refine one_ (i := 3) (N := some 38) #[true, true, true, true, false] rfl rfl (by kernel_rfl) (by decide) (fun K hK => ?_)
      refine goes_ Tryd.func23 (by kernel_rfl) rfl #[.agg #[.int .i64 t284, .int .i64 t285, .string t286, .int .i64 t287, .slice Ao27 t288.length co27, .slice Ao28 t291.length co28, .slice Ao29 t294.length co29, .slice Ao30 t297.length co30], .agg #[.int .i64 t303, .int .i64 t304, .string t305, .int .i64 t306, .slice Ao46 t307.length co46, .slice Ao47 t310.length co47, .slice Ao48 t313.length co48, .slice Ao49 t316.length co49]] (by rfl) rfl rfl (by (try simp only [List.map_toArray, List.map_cons, List.map_nil]); first | done | rfl | (simp only [List.length_drop, List.length_take]; rfl)) ?_
      with_reducible refine (laws_eqBuilt.calls kj10 t284 t285 t286 t287 _ _ t288 _ _ t291 _ _ t294 _ _ t297 t303 t304 t305 t306 _ _ t307 _ _ t310 _ _ t313 _ _ t316 false _ ?side1 ?side2 ?side3 ?side4 ?side5 ?side6 ?side7 ?side8 ?side9 ?side10 ?side11 ?side12 ?side13 ?side14 ?side15 ?side16 A35.out).mono ?_
      (case side1 => repeat (first | exact (Kd.S_reads' HO_301004.out).2.2 | (with_reducible refine Kd.C_alloc ?_ _) | (with_reducible refine Kd.C_drewN ?_ _) | (with_reducible refine Kd.C_drew ?_)))
      (case side2 => exact (Kd.S_reads' HO_301004.out).2.1)
      (case side3 => repeat (first | exact (Kd.R_reads' HO_301005.out).2.2 | (with_reducible refine Kd.C_alloc ?_ _) | (with_reducible refine Kd.C_drewN ?_ _) | (with_reducible refine Kd.C_drew ?_)))
      (case side4 => exact (Kd.R_reads' HO_301005.out).2.1)
      (case side5 => repeat (first | exact (Kd.R_reads' HO_301006.out).2.2 | (with_reducible refine Kd.C_alloc ?_ _) | (with_reducible refine Kd.C_drewN ?_ _) | (with_reducible refine Kd.C_drew ?_)))
      (case side6 => exact (Kd.R_reads' HO_301006.out).2.1)
      (case side7 => repeat (first | exact (Kd.R_reads' HO_301007.out).2.2 | (with_reducible refine Kd.C_alloc ?_ _) | (with_reducible refine Kd.C_drewN ?_ _) | (with_reducible refine Kd.C_drew ?_)))
      (case side8 => exact (Kd.R_reads' HO_301007.out).2.1)
      (case side9 => repeat (first | exact (Kd.S_reads' HO309.out).2.2 | (with_reducible refine Kd.C_alloc ?_ _) | (with_reducible refine Kd.C_drewN ?_ _) | (with_reducible refine Kd.C_drew ?_)))
      (case side10 => exact (Kd.S_reads' HO309.out).2.1)
      (case side11 => repeat (first | exact (Kd.R_reads' HO312.out).2.2 | (with_reducible refine Kd.C_alloc ?_ _) | (with_reducible refine Kd.C_drewN ?_ _) | (with_reducible refine Kd.C_drew ?_)))
      (case side12 => exact (Kd.R_reads' HO312.out).2.1)
      (case side13 => repeat (first | exact (Kd.R_reads' HO315.out).2.2 | (with_reducible refine Kd.C_alloc ?_ _) | (with_reducible refine Kd.C_drewN ?_ _) | (with_reducible refine Kd.C_drew ?_)))
      (case side14 => exact (Kd.R_reads' HO315.out).2.1)
      (case side15 => repeat (first | exact (Kd.R_reads' HO318.out).2.2 | (with_reducible refine Kd.C_alloc ?_ _) | (with_reducible refine Kd.C_drewN ?_ _) | (with_reducible refine Kd.C_drew ?_)))
      (case side16 => exact (Kd.R_reads' HO318.out).2.1)
      rintro e w50 ⟨rfl, hb⟩
      refine ⟨_, rfl, ?_⟩
      have n0_ := aM_ (Kd.S_below (by (with_reducible repeat (first | apply Kd.S_alloc | apply Kd.S_drewN | apply Kd.S_drew)); exact HO_301004.out) hb)
      have n1_ := aM_ (Kd.R_below (by (with_reducible repeat (first | apply Kd.R_alloc | apply Kd.R_drewN | apply Kd.R_drew)); exact HO_301005.out) hb)
      have n2_ := aM_ (Kd.R_below (by (with_reducible repeat (first | apply Kd.R_alloc | apply Kd.R_drewN | apply Kd.R_drew)); exact HO_301006.out) hb)
      have n3_ := aM_ (Kd.R_below (by (with_reducible repeat (first | apply Kd.R_alloc | apply Kd.R_drewN | apply Kd.R_drew)); exact HO_301007.out) hb)
      have n4_ := aM_ (Kd.S_below (by (with_reducible repeat (first | apply Kd.S_alloc | apply Kd.S_drewN | apply Kd.S_drew)); exact HO309.out) hb)
      have n5_ := aM_ (Kd.R_below (by (with_reducible repeat (first | apply Kd.R_alloc | apply Kd.R_drewN | apply Kd.R_drew)); exact HO312.out) hb)
      have n6_ := aM_ (Kd.R_below (by (with_reducible repeat (first | apply Kd.R_alloc | apply Kd.R_drewN | apply Kd.R_drew)); exact HO315.out) hb)
      have n7_ := aM_ (Kd.R_below (by (with_reducible repeat (first | apply Kd.R_alloc | apply Kd.R_drewN | apply Kd.R_drew)); exact HO318.out) hb)
      have n8_ := aM_ (blk_below (g := gb264) (o := .cells #[.int .i64 a0_0, .int .i64 a0_1, .string a0_2, .int .i64 a0_3, .slice A0_4 l0_4.length c0_4, .slice A0_5 l0_5.length c0_5, .slice A0_6 l0_6.length c0_6, .slice A0_7 l0_7.length c0_7] 51 (0, 0)) (by (with_reducible repeat (first | refine blk_drewN ?_ _ | refine blk_drew ?_ | refine blk_alloc ?_ _)); exact BK264.out) hb)
      have n9_ := aM_ (blk_below (g := gb300) (o := .cells #[.int .i64 t284, .int .i64 t285, .string t286, .int .i64 t287, .slice Ao27 t288.length co27, .slice Ao28 t291.length co28, .slice Ao29 t294.length co29, .slice Ao30 t297.length co30] 59 (0, 0)) (by (with_reducible repeat (first | refine blk_drewN ?_ _ | refine blk_drew ?_ | refine blk_alloc ?_ _)); exact BK300.out) hb)
      have n10_ := aM_ (below_step (by repeat (first | (with_reducible first | exact HB.out | apply bA_ | apply bN_ | apply bD_ | refine below_set ?_ GE264.out | refine below_set ?_ GE300.out) | exact HB.out)) hb)
      clear HO_301004
      clear HO_301005
      clear HO_301006
      clear HO_301007
      clear HO309
      clear HO312
      clear HO315
      clear HO318
      clear BK264
      clear BK300
      clear HB
      have HO_301004 := n0_
      have HO_301005 := n1_
      have HO_301006 := n2_
      have HO_301007 := n3_
      have HO309 := n4_
      have HO312 := n5_
      have HO315 := n6_
      have HO318 := n7_
      have BK264 := n8_
      have BK300 := n9_
      have HB := n10_
      clear n0_ n1_ n2_ n3_ n4_ n5_ n6_ n7_ n8_ n9_ n10_
      (try clear hb)
      (try clear hb2)
      (try clear hk)
      (try clear hi)
      refine hK.out _ _ ⟨(bC_ BK300.out 0).trans rfl, (bC_ BK300.out 1).trans rfl, (bC_ BK300.out 2).trans rfl, (bC_ BK300.out 3).trans rfl, (bC_ BK300.out 4).trans rfl, (bC_ BK300.out 5).trans rfl, (bC_ BK300.out 6).trans rfl, (bC_ BK300.out 7).trans rfl, (bC_ BK264.out 0).trans rfl, (bC_ BK264.out 1).trans rfl, (bC_ BK264.out 2).trans rfl, (bC_ BK264.out 3).trans rfl, (bC_ BK264.out 4).trans rfl, (bC_ BK264.out 5).trans rfl, (bC_ BK264.out 6).trans rfl, (bC_ BK264.out 7).trans rfl⟩ (fun hHeld => ?_)
      clear hK K
      refine norm_ (a' := ?_) ?_ ?_
      rotate_left
      ·show Act.put _ (some 38) _ = _
       simp only [Act.put, List.setIfInBounds_toArray, List.set_cons_zero, List.set_cons_succ, i64_w, i32_w]
       rfl
      refine pure_ (i := 4) (N := some 39) (v := ?_) (a' := ?_) #[true, true, true, true, true] rfl rfl (by kernel_rfl) (fun _ _ _ h => h) (Or.inl ⟨by rfl, ?_⟩) ?_ ?_
      rotate_left
      ·intro w'
       go_simp
       with_reducible rfl
      rotate_left
      ·simp only [Act.put, List.setIfInBounds_toArray, List.set_cons_zero, List.set_cons_succ, i64_w, i32_w]
       rfl
      refine done_ (by kernel_rfl) ?_
      try go_wp2
      go_ret
      exact ⟨by first | rfl | (simp [errW_none, errW_some] <;> rfl) | (simp [*, errW_none, errW_some] <;> rfl), by repeat (first | (with_reducible first | exact HB.out | apply bA_ | apply bN_ | apply bD_ | refine below_set ?_ GE264.out | refine below_set ?_ GE300.out) | exact HB.out)⟩

/-- THE ONE PURE STATEMENT of laws_FnExactBuiltText. -/
def laws_FnExactBuiltText.Pure : Prop := ∀ (x0 : S51), Good51 x0 → ∃ k, laws_FnExactBuiltText.f k x0.f0 x0.f1 x0.f2 x0.f3.f0 x0.f3.f1 x0.f3.f2 x0.f3.f3 x0.f4 = some true

end Go.Proofs.YtaikjjlbfdkgmaaDoor.PFnExactBuiltText
