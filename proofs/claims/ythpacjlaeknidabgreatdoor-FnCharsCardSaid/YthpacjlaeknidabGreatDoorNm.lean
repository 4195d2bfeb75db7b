/- The program's numeral at a word: a number, a character by its code, or neither. Plain walks; what the library's functions tell is in sight. -/
import Derived.Test.YthpacjlaeknidabGreatDoorProg
import Derived.Test.YthpacjlaeknidabGreatDoorHx
import Derived.Test.YthpacjlaeknidabGreatDoorShelf
import Derived.Lib.ItoaMem
import Derived.WalkKit
import Derived.RegionTactic
import Derived.ChangeAlike
import Derived.Laws.IdiomStrings
import Derived.Below
set_option linter.unusedVariables false
set_option linter.unusedSectionVars false
set_option linter.unusedSimpArgs false
namespace Go.Proofs.YthpacjlaeknidabGreatDoor.Nm
open Go.RowKit
theorem TabIs.below {P : Program} {w w1 : World} {name : String} {k : IntKind} {zs : List Int} (h : Lib.TabIs P w name k zs) (hb : Below w.heap.size w w1) : Lib.TabIs P w1 name k zs := by
  unfold Lib.TabIs World.var? at h ⊢
  cases hg : P.globalNamed name with
  | none => rw [hg] at h; exact h
  | some g =>
    rw [hg] at h
    simp only [Option.bind_some] at h ⊢
    have hlt : g < w.heap.size := by
      refine Decidable.byContradiction fun hn => ?_
      rw [Array.getElem?_eq_none (Nat.le_of_not_lt hn)] at h
      cases h
    rw [hb.block g hlt]
    exact h
def ErrAt (w : World) (g : Nat) : Prop := ∃ te pe, w.cell? ⟨g, 0, none⟩ = some (.iface te pe)
theorem ErrAt.lt {w : World} {g : Nat} (h : ErrAt w g) : g < w.heap.size := by
  obtain ⟨te, pe, hk⟩ := h
  refine Decidable.byContradiction fun hn => ?_
  unfold World.cell? at hk
  rw [Array.getElem?_eq_none (Nat.le_of_not_lt hn)] at hk
  cases hk
theorem ErrAt.below {w w1 : World} {g : Nat} (h : ErrAt w g) (hb : Below w.heap.size w w1) : ErrAt w1 g := by
  have hl := h.lt
  obtain ⟨te, pe, h⟩ := h
  exact ⟨te, pe, by rw [World.cell?_of_block (hb.block g hl)]; exact h⟩
theorem grow_below (w : World) (k : Nat) (os : Array Obj) : Below w.heap.size w (Go.Sort.grow (w.drewN k) os) :=
  ⟨rfl, rfl, rfl, by simp [Go.Sort.grow, World.drewN], fun j hj => by
    show (w.heap ++ os)[j]? = w.heap[j]?
    simp [Array.getElem?_append, hj]⟩
theorem within_run (x a b : Int) (w : World) : Calls Tryz.prog 16 #[.int .i64 x, .int .i64 a, .int .i64 b] w fun e w' => e = .returned (.bool (decide (a ≤ x) && decide (x ≤ b))) ∧ w' = w := by
  by_cases h1 : a ≤ x
  · go_enter Tryz.func16, Tryz.ntmps16
    go_wp2
    go_ret
    exact ⟨by simp [h1], rfl⟩
  · go_enter Tryz.func16, Tryz.ntmps16
    go_wp2
    go_ret
    exact ⟨by rw [decide_eq_false (Int.not_le.2 h1)]; rfl, rfl⟩
def chOK (n : Nat) : Bool := decide ((n : Int) ≤ 1114111) && (!decide (55296 ≤ (n : Int)) || !decide ((n : Int) ≤ 57343))
set_option maxRecDepth 100000 in
theorem charOK_run (n : Nat) (w : World) : Calls Tryz.prog 8 #[.int .i64 n] w fun e w' => e = .returned (.bool (chOK n)) ∧ w' = w := by
  have h0 : (0 : Int) ≤ n := by omega
  unfold chOK
  by_cases h1 : (n : Int) ≤ 1114111
  · rw [decide_eq_true h1]
    go_enter Tryz.func8, Tryz.ntmps8
    go_wp2_with (go_at_call 16; refine (within_run _ _ _ _).mono ?_; rintro e w1 ⟨rfl, rfl⟩)
    go_ret
    exact ⟨rfl, rfl⟩
  · have hf := decide_eq_false h1
    rw [hf]
    clear h1
    go_enter Tryz.func8, Tryz.ntmps8
    go_wp2_with (go_at_call 16; refine (within_run _ _ _ _).mono ?_; rintro e w1 ⟨rfl, rfl⟩; rw [hf, Bool.and_false])
    go_ret
    exact ⟨rfl, rfl⟩
/-- The number that a text spells as the program wants it. -/
def rn (l : List UInt8) : Option Int :=
  match Lib.atoiAll l with
  | .ok v => if (Lib.trimPrefix l [45]).length ≤ 18 ∧ Lib.itoa v = l then some v else none
  | _ => none
theorem data_inj {l : List UInt8} {s : ByteArray} : ((⟨l.toArray⟩ : ByteArray) = s) ↔ l = s.data.toList := by
  constructor
  · rintro rfl; simp
  · rintro rfl; simp
set_option maxHeartbeats 4000000 in
set_option maxRecDepth 100000 in
theorem readNumber_run (s : ByteArray) (hs : s.size ≤ 4000) (w : World) (hT : Lib.TabIs Tryz.prog w "internal/strconv.uint64pow10" .u64 Lib.pow10Tab) (hE : ErrAt w 9) (hR : ErrAt w 10) :
    Calls Tryz.prog 62 #[.string s] w fun e w' => (∃ v, e = .returned (.tuple #[.int .i64 v, .bool (rn s.data.toList).isSome]) ∧ ∀ u, rn s.data.toList = some u → v = u) ∧ Below w.heap.size w w' := by
  cases hA : Lib.atoiAll s.data.toList with
  | range =>
    obtain ⟨te, pe, hv⟩ := hR
    have hrn : rn s.data.toList = none := by unfold rn; rw [hA]
    rw [hrn]
    have hI := Tryz.strconv_Atoi_range s (by omega) hA _ w hv (.inr ⟨te, pe, rfl⟩)
    clear hA hrn
    generalize Lib.atoiSat s.data.toList = z at hI
    go_enter Tryz.func62, Tryz.ntmps62
    go_wp2_with (go_at_call 79; refine hI.mono ?_; rintro e w1 ⟨N, rfl, -, -, h1⟩)
    go_ret2
    exact ⟨⟨_, rfl, fun u h => by cases h⟩, h1⟩
  | ok v =>
    obtain ⟨vb0, vb1⟩ := Lib.atoiAll_bounds hA
    have hI : Calls Tryz.prog 79 #[.string s] w fun e w' => e = .returned (.tuple #[.int .i64 v, .nilIface]) ∧ Below w.heap.size w w' :=
      (Tryz.strconv_Atoi_ok s (by omega) v hA w).mono fun e w' ⟨k1, k2⟩ => ⟨k1, by
        rcases k2 with rfl | ⟨t, rfl⟩
        · exact Below.refl _ _
        · exact Lib.bytesWorld_below _ _ _⟩
    have hP := fun w1 => Tryz.strings_TrimPrefix s ⟨#[45]⟩ w1
    have hrn : rn s.data.toList = if (Lib.trimPrefix s.data.toList [45]).length ≤ 18 ∧ Lib.itoa v = s.data.toList then some v else none := by unfold rn; rw [hA]
    rw [hrn]
    clear hA hrn
    have hsz : ((⟨(Lib.trimPrefix s.data.toList [45]).toArray⟩ : ByteArray)).size = (Lib.trimPrefix s.data.toList [45]).length := by simp [ByteArray.size]
    have e45 : (⟨#[45]⟩ : ByteArray).data.toList = [45] := rfl
    rw [e45] at hP
    have hle : (Lib.trimPrefix s.data.toList [45]).length ≤ 4000 := by
      rw [Lib.size_eq] at hs
      unfold Lib.trimPrefix
      split
      · simp only [List.length_drop]; omega
      · exact hs
    generalize Lib.trimPrefix s.data.toList [45] = tp at hP hsz hle ⊢
    by_cases h18 : tp.length ≤ 18
    · have hJ : ∀ w1, Below w.heap.size w w1 → Calls Tryz.prog 81 #[.int .i64 v] w1 fun e w' => e = .returned (.string ⟨(Lib.itoa v).toArray⟩) ∧ Below w.heap.size w w' := fun w1 hb =>
        (Tryz.strconv_Itoa v vb0 vb1 w1 (TabIs.below hT hb)).mono (by
          rintro e w' ⟨rfl, k, os, rfl⟩
          exact ⟨rfl, hb.trans ((grow_below w1 k os).mono hb.size)⟩)
      have e1 : ((tp.length : Nat) : Int) ≤ 18 := by omega
      have hlen : (((⟨tp.toArray⟩ : ByteArray).size : Nat) : Int) ≤ 18 := by rw [hsz]; exact e1
      obtain ⟨X, hX⟩ : ∃ X : ByteArray, X = ⟨(Lib.itoa v).toArray⟩ := ⟨_, rfl⟩
      have hb : (X.toList == s.toList) = (if tp.length ≤ 18 ∧ Lib.itoa v = s.data.toList then some v else none).isSome := by
        rw [hX, ByteArray.toList_eq, ByteArray.toList_eq]
        by_cases hq : Lib.itoa v = s.data.toList
        · rw [if_pos ⟨h18, hq⟩]; simp [hq]
        · rw [if_neg fun h => hq h.2]; simp [hq]
      have hu : ∀ u, (if tp.length ≤ 18 ∧ Lib.itoa v = s.data.toList then some v else none) = some u → v = u := fun u h => by
        split at h
        · injection h
        · cases h
      rw [← hX] at hJ
      rw [← hb]
      generalize (if tp.length ≤ 18 ∧ Lib.itoa v = s.data.toList then some v else none) = o at hu
      clear hX hb
      go_enter Tryz.func62, Tryz.ntmps62
      go_wp2_with (first | (go_at_call 79; refine hI.mono ?_; rintro e w1 ⟨rfl, h1⟩) | (go_at_call 80; refine (hP _).mono ?_; rintro e w1 ⟨rfl, rfl⟩) | (go_at_call 81; refine (hJ _ h1).mono ?_; rintro e w2 ⟨rfl, h2⟩))
      go_ret2
      exact ⟨⟨_, rfl, hu⟩, h2⟩
    · rw [if_neg fun h => h18 h.1]
      have hlen : ¬ ((((⟨tp.toArray⟩ : ByteArray).size : Nat) : Int) ≤ 18) := by rw [hsz]; omega
      have hlen2 : wrap64 (((⟨tp.toArray⟩ : ByteArray).size : Nat) : Int) = (((⟨tp.toArray⟩ : ByteArray).size : Nat) : Int) := by rw [hsz]; unfold wrap64; omega
      go_enter Tryz.func62, Tryz.ntmps62
      go_wp2_with (first | (go_at_call 79; refine hI.mono ?_; rintro e w1 ⟨rfl, h1⟩) | (go_at_call 80; refine (hP _).mono ?_; rintro e w1 ⟨rfl, rfl⟩))
      go_ret2
      exact ⟨⟨_, rfl⟩, h1⟩
  | _ =>
    obtain ⟨te, pe, hv⟩ := hE
    have hrn : rn s.data.toList = none := by unfold rn; rw [hA]
    rw [hrn]
    have hI : Calls Tryz.prog 79 #[.string s] w fun e w' => ∃ t N, e = .returned (.tuple #[.int .i64 0, .iface t (.pointer (some ⟨N, 0, none⟩))]) ∧ Below w.heap.size w w' := (Any.strconv_Atoi_syntax Tryz.laysC172 s (by omega) hA _ w hv (.inr ⟨te, pe, rfl⟩)).mono fun e w' ⟨N, k1, _, _, k2⟩ => ⟨_, N, k1, k2⟩
    clear hA hrn
    go_enter Tryz.func62, Tryz.ntmps62
    go_wp2_with (go_at_call 79; refine hI.mono ?_; rintro e w1 ⟨t, N, rfl, h1⟩)
    go_ret2
    exact ⟨⟨_, rfl, fun u h => by cases h⟩, h1⟩
def wordB (c : UInt8) : Bool := (decide (48 ≤ c.toNat) && decide (c.toNat ≤ 57)) || (decide (65 ≤ c.toNat) && decide (c.toNat ≤ 90)) || (decide (97 ≤ c.toNat) && decide (c.toNat ≤ 122)) || decide (c.toNat = 95)
def word (l : List UInt8) : Bool := l.all wordB
/-- Whether a text may stand ahead of the end of a character's code. -/
def hexish (d : List UInt8) : Bool := decide (1 ≤ d.length) && decide (d.length ≤ 7) && decide (Lib.toUpperA d = d) && decide (¬ 0 ≤ Lib.indexByte d 95)
/-- What numeral tells: kind, number, whether it is right. -/
def res (l : List UInt8) : Int × Int × Bool :=
  match rn l with
  | some v => (3, v, true)
  | none => if Lib.hasSuffix l [88] = true ∧ hexish (Lib.trimSuffix l [88]) = true then
      match Hx.val 0 (Lib.trimSuffix l [88]) with
      | some n => (4, n, chOK n)
      | none => (4, 0, false)
    else (0, 0, false)
theorem up_all : ∀ n : Fin 256, wordB (UInt8.ofNat n) = true → Lib.upperB (UInt8.ofNat n) = UInt8.ofNat n → UInt8.ofNat n ≠ 95 → Hx.big (UInt8.ofNat n) = true := by decide +kernel
theorem up_ge (c : UInt8) (h : wordB c = true) (h2 : Lib.upperB c = c) (h3 : c ≠ 95) : Hx.big c = true := by
  have e : UInt8.ofNat c.toNat = c := by simp
  have := up_all ⟨c.toNat, c.toNat_lt⟩
  simp only [e] at this
  exact this h h2 h3
theorem map_same {f : UInt8 → UInt8} : ∀ {l : List UInt8}, l.map f = l → ∀ c, c ∈ l → f c = c
  | b :: r, h, c, hc => by
    injection h with h1 h2
    rcases List.mem_cons.1 hc with rfl | hc
    · exact h1
    · exact map_same h2 c hc
theorem word_ascii {l : List UInt8} (h : word l = true) : ∀ c, c ∈ l → c.toNat < 128 := fun c hc => by
  have := List.all_eq_true.1 h c hc
  unfold wordB at this
  simp only [Bool.or_eq_true, Bool.and_eq_true, decide_eq_true_eq] at this
  omega
theorem trim_mem {l p : List UInt8} {c : UInt8} (h : c ∈ Lib.trimSuffix l p) : c ∈ l := by
  unfold Lib.trimSuffix at h
  split at h
  · exact List.mem_of_mem_take h
  · exact h
theorem index_none : ∀ (d : List UInt8), ¬ 0 ≤ Lib.indexByte d 95 → ∀ c, c ∈ d → c ≠ 95
  | [], _, c, hc, _ => by cases hc
  | b :: r, h, c, hc, h95 => by
    unfold Lib.indexByte at h
    by_cases hb : b = 95
    · rw [if_pos (by simp [hb])] at h; exact h (by decide)
    · rw [if_neg (by simp [hb])] at h
      rcases List.mem_cons.1 hc with rfl | hc
      · exact hb h95
      · refine index_none r (fun h0 => h ?_) c hc h95
        rw [if_neg (by simp; omega)]
        omega
/-- A block as it was laid anew, behind calls that keep it. -/
def Fresh (g : Nat) (w1 : World) : Prop := w1.heap[g]? = some (.cells #[.int .i64 0, .int .i64 0, .string ⟨#[]⟩, .int .i64 0] 31 (0, 0))
theorem Fresh.cells {g : Nat} {w1 : World} (h : Fresh g w1) : (w1.cell? ⟨g, 0, none⟩ = some (.int .i64 0) ∧ w1.cell? ⟨g, 1, none⟩ = some (.int .i64 0) ∧ w1.cell? ⟨g, 2, none⟩ = some (.string ⟨#[]⟩) ∧ w1.cell? ⟨g, 3, none⟩ = some (.int .i64 0)) ∧
    w1.frozen? ⟨g, 0, none⟩ = false ∧ w1.frozen? ⟨g, 1, none⟩ = false ∧ w1.frozen? ⟨g, 2, none⟩ = false ∧ w1.frozen? ⟨g, 3, none⟩ = false := by
  unfold Fresh at h
  unfold World.cell? World.frozen?
  simp only [h]
  exact ⟨⟨rfl, rfl, rfl, rfl⟩, rfl, rfl, rfl, rfl⟩
theorem Fresh.new (w : World) : Fresh w.heap.size (w.alloc (Obj.cells #[.int .i64 0, .int .i64 0, .string ⟨#[]⟩, .int .i64 0] 31)) := by
  unfold Fresh
  show (w.heap.push _)[w.heap.size]? = _
  simp
theorem Fresh.keep {g : Nat} {w1 w2 : World} (h : Fresh g w1) (hb : Below w1.heap.size w1 w2) : Fresh g w2 := by
  have hlt : g < w1.heap.size := by
    refine Decidable.byContradiction fun hn => ?_
    unfold Fresh at h
    rw [Array.getElem?_eq_none (Nat.le_of_not_lt hn)] at h
    cases h
  unfold Fresh
  rw [hb.block g hlt]
  exact h
theorem set_row {w : World} {g i : Nat} {cs : Array Value} {t : TypeId} {fr : Nat × Nat} {x : Value} (h : w.heap[g]? = some (.cells cs t fr)) : (w.setCell ⟨g, i, none⟩ x).heap[g]? = some (.cells (cs.setIfInBounds i x) t fr) := by
  obtain ⟨hlt, hg⟩ := Array.getElem?_eq_some_iff.1 h
  unfold World.setCell
  simp [Array.getElem?_modify, h]
set_option maxRecDepth 100000 in
theorem ret4 {w w1 : World} {tmps : Array Value} {k n : Value} {s : Value} {z : Value} {b : Value} (hp : tmps.getD 2 undef = .pointer (some ⟨w.heap.size, 0, none⟩)) (hb : tmps.getD 3 undef = b) (hF : Fresh w.heap.size w1) (hB : Below w.heap.size w w1) :
    bodyPost Tryz.prog Tryz.f41 (fun e w' => e = .returned (.tuple #[.agg #[k, n, s, z], b]) ∧ Below w.heap.size w w') .ret ⟨tmps, []⟩ ((((w1.setCell ⟨w.heap.size, 0, none⟩ k).setCell ⟨w.heap.size, 1, none⟩ n).setCell ⟨w.heap.size, 2, none⟩ s).setCell ⟨w.heap.size, 3, none⟩ z) := by
  have hrow := set_row (i := 3) (x := z) (set_row (i := 2) (x := s) (set_row (i := 1) (x := n) (set_row (i := 0) (x := k) hF)))
  have hlt : w.heap.size ≤ (⟨w.heap.size, 0, none⟩ : Addr).block := Nat.le_refl _
  have hBel := (((hB.setCell (p := ⟨w.heap.size, 0, none⟩) hlt k).setCell (p := ⟨w.heap.size, 1, none⟩) hlt n).setCell (p := ⟨w.heap.size, 2, none⟩) hlt s).setCell (p := ⟨w.heap.size, 3, none⟩) hlt z
  generalize ((((w1.setCell ⟨w.heap.size, 0, none⟩ k).setCell ⟨w.heap.size, 1, none⟩ n).setCell ⟨w.heap.size, 2, none⟩ s).setCell ⟨w.heap.size, 3, none⟩ z) = W at hrow hBel
  refine bodyPost_ret (v := .tuple #[.agg #[k, n, s, z], b]) ?_ rfl ⟨rfl, hBel⟩
  rw [results_cell_tmp (fn := Tryz.f41) (p := 2) (u := 3) (ty := 31) rfl, hp, hb]
  have hl := run_loadVar_row (P := Tryz.prog) W w.heap.size _ 31 _ _ _ hrow Tryz.underlying31 rfl (by kernel_rfl)
  show ((loadVar _ _).run _ W).andThen _ = _
  rw [hl]
  rfl
set_option maxHeartbeats 8000000 in
set_option maxRecDepth 100000 in
theorem numeral_run (s : ByteArray) (hs : s.size ≤ 4000) (hw : word s.data.toList = true) (w : World) (hT : Lib.TabIs Tryz.prog w "internal/strconv.uint64pow10" .u64 Lib.pow10Tab) (hE : ErrAt w 9) (hR : ErrAt w 10) :
    Calls Tryz.prog 41 #[.string s] w fun e w' => e = .returned (.tuple #[.agg #[.int .i64 (res s.data.toList).1, .int .i64 (res s.data.toList).2.1, .string ⟨#[]⟩, .int .i64 0], .bool (res s.data.toList).2.2]) ∧ Below w.heap.size w w' := by
  have hN : Calls Tryz.prog 62 #[.string s] (w.alloc (Obj.cells #[.int .i64 0, .int .i64 0, .string ⟨#[]⟩, .int .i64 0] 31)) fun e w' => (∃ v, e = .returned (.tuple #[.int .i64 v, .bool (rn s.data.toList).isSome]) ∧ ∀ u, rn s.data.toList = some u → v = u) ∧ Fresh w.heap.size w' ∧ Below w.heap.size w w' := by
    have hb := Below.alloc (Below.refl w.heap.size w) (Nat.le_refl _) (Obj.cells #[.int .i64 0, .int .i64 0, .string ⟨#[]⟩, .int .i64 0] 31)
    exact (readNumber_run s hs _ (TabIs.below hT hb) (hE.below hb) (hR.below hb)).mono fun e w' ⟨h1, h2⟩ => ⟨h1, (Fresh.new w).keep h2, hb.trans (h2.mono hb.size)⟩
  have hC := fun w1 => Tryz.strings_CutSuffix s ⟨#[88]⟩ w1 (by omega)
  have e88 : (⟨#[88]⟩ : ByteArray).data.toList = [88] := rfl
  rw [e88] at hC
  cases hrn : rn s.data.toList with
  | some v =>
    have hres : res s.data.toList = (3, v, true) := by unfold res; rw [hrn]
    rw [hres]
    rw [hrn] at hN
    simp only [Option.isSome_some] at hN
    clear hrn hres hC
    go_enter Tryz.func41, Tryz.ntmps41
    go_wp2_with (go_at_call 62; refine hN.mono ?_; rintro e w1 ⟨⟨u, rfl, hu⟩, hF, h1⟩; obtain rfl := hu v rfl; obtain ⟨⟨c0, c1, c2, c3⟩, z0, z1, z2, z3⟩ := hF.cells)
    exact ret4 rfl rfl hF h1
  | none =>
    have hres : res s.data.toList = if Lib.hasSuffix s.data.toList [88] = true ∧ hexish (Lib.trimSuffix s.data.toList [88]) = true then
      ((match Hx.val 0 (Lib.trimSuffix s.data.toList [88]) with
      | some n => ((4, (n : Int), chOK n) : Int × Int × Bool)
      | none => (4, 0, false)) : Int × Int × Bool)
    else (0, 0, false) := by unfold res; rw [hrn]
    rw [hrn] at hN
    simp only [Option.isSome_none] at hN
    rw [hres]
    clear hrn hres
    obtain ⟨d, hd⟩ : ∃ d : ByteArray, d = ⟨(Lib.trimSuffix s.data.toList [88]).toArray⟩ := ⟨_, rfl⟩
    have hdl : Lib.trimSuffix s.data.toList [88] = d.data.toList := by rw [hd]
    have hdm : ∀ c, c ∈ d.data.toList → wordB c = true := fun c hc => List.all_eq_true.1 hw c (trim_mem (p := [88]) (by rw [hdl]; exact hc))
    have hdz : d.size ≤ 4000 := by
      rw [Lib.size_eq] at hs ⊢
      rw [← hdl]
      unfold Lib.trimSuffix
      split
      · simp only [List.length_take]; omega
      · exact hs
    rw [← hd] at hC
    rw [hdl]
    clear hd hdl hR hT
    cases hsf : Lib.hasSuffix s.data.toList [88]
    · rw [if_neg (fun h => by simp at h)]
      rw [hsf] at hC
      go_enter Tryz.func41, Tryz.ntmps41
      go_wp2_with (first | (go_at_call 62; refine hN.mono ?_; rintro e w1 ⟨⟨u, rfl, hu⟩, hF, h1⟩; obtain ⟨⟨c0, c1, c2, c3⟩, z0, z1, z2, z3⟩ := hF.cells) | (go_at_call 63; refine (hC _).mono ?_; rintro e w2 ⟨rfl, rfl⟩))
      exact ret4 rfl rfl hF h1
    · rw [hsf] at hC
      have hW := fun w1 => within_run (d.size : Int) 1 7 w1
      have hU : ∀ w1, Fresh w.heap.size w1 → Below w.heap.size w w1 → Calls Tryz.prog 19 #[.string d] w1 fun e w' => e = .returned (.string ⟨(Lib.toUpperA d.data.toList).toArray⟩) ∧ Fresh w.heap.size w' ∧ Below w.heap.size w w' := fun w1 k1 k2 =>
        (Tryz.strings_ToUpper_ascii d w1 (by omega) fun j b hj => by
          have := hdm b (List.mem_of_getElem? hj)
          unfold wordB at this
          simp only [Bool.or_eq_true, Bool.and_eq_true, decide_eq_true_eq] at this
          omega).mono fun e w' ⟨k3, k4⟩ => ⟨k3, k1.keep k4, k2.trans (k4.mono k2.size)⟩
      have hI := fun w1 => Tryz.strings_Contains_one d 95 w1
      have hlen : d.data.toList.length = d.size := (Lib.size_eq d).symm
      have hx : hexish d.data.toList = ((decide ((1 : Int) ≤ d.size) && decide ((d.size : Int) ≤ 7)) && decide (Lib.toUpperA d.data.toList = d.data.toList) && !decide (0 ≤ Lib.indexByte d.data.toList 95)) := by
        unfold hexish
        rw [hlen]
        congr 1
        · congr 1
          congr 1
          · exact decide_eq_decide.2 (by omega)
          · exact decide_eq_decide.2 (by omega)
        · by_cases h : 0 ≤ Lib.indexByte d.data.toList 95 <;> simp [h]
      rw [hx]
      cases hwb : (decide ((1 : Int) ≤ d.size) && decide ((d.size : Int) ≤ 7))
      · rw [if_neg (fun h => by simp at h)]
        rw [hwb] at hW
        clear hx hwb hU hI hdm hlen
        go_enter Tryz.func41, Tryz.ntmps41
        go_wp2_with (first | (go_at_call 62; refine hN.mono ?_; rintro e w1 ⟨⟨u, rfl, hu⟩, hF, h1⟩; obtain ⟨⟨c0, c1, c2, c3⟩, z0, z1, z2, z3⟩ := hF.cells) | (go_at_call 63; refine (hC _).mono ?_; rintro e w2 ⟨rfl, rfl⟩) | (go_at_call 16; refine (hW _).mono ?_; rintro e w2 ⟨rfl, rfl⟩))
        exact ret4 rfl rfl hF h1
      · rw [hwb] at hW
        by_cases hup : Lib.toUpperA d.data.toList = d.data.toList
        · have hde : (⟨(Lib.toUpperA d.data.toList).toArray⟩ : ByteArray) = d := data_inj.2 hup
          rw [hde] at hU
          cases hix : decide (0 ≤ Lib.indexByte d.data.toList 95)
          · rw [decide_eq_true hup, if_pos (by simp)]
            rw [hix] at hI
            have hbig : ∀ c, c ∈ d.data.toList → Hx.big c = true := fun c hc => up_ge c (hdm c hc) (map_same hup c hc) (index_none _ (of_decide_eq_false hix) c hc)
            have hd1 : d.size ≠ 0 ∧ d.size ≤ 15 := by
              simp only [Bool.and_eq_true, decide_eq_true_eq] at hwb
              omega
            obtain ⟨te, pe, hv⟩ := hE
            have hEl := Lib.lt_of_cell hv
            have hPo : ∀ n, Hx.val 0 d.data.toList = some n → ∀ w1, Fresh w.heap.size w1 → Below w.heap.size w w1 → Calls Tryz.prog 65 #[.string d, .int .i64 16, .int .i64 64] w1 fun e w' => e = .returned (.tuple #[.int .i64 n, .nilIface]) ∧ Fresh w.heap.size w' ∧ Below w.heap.size w w' := fun n hn w1 k1 k2 =>
              (Hx.parseInt_ok Tryz.laysC174 d hd1.1 hd1.2 hbig n hn w1).mono fun e w' ⟨k3, k4⟩ => ⟨k3, k1.keep k4, k2.trans (k4.mono k2.size)⟩
            have hPn : Hx.val 0 d.data.toList = none → ∀ w1, Fresh w.heap.size w1 → Below w.heap.size w w1 → Calls Tryz.prog 65 #[.string d, .int .i64 16, .int .i64 64] w1 fun e w' => (∃ t N, e = .returned (.tuple #[.int .i64 0, .iface t (.pointer (some ⟨N, 0, none⟩))])) ∧ Fresh w.heap.size w' ∧ Below w.heap.size w w' := fun hn w1 k1 k2 =>
              (Hx.parseInt_no Tryz.laysC174 d hd1.1 hd1.2 hbig hn _ w1 ((k2.cell (p := ⟨9, 0, none⟩) hEl).trans hv) (.inr ⟨te, pe, rfl⟩)).mono fun e w' ⟨t, N, k3, k4⟩ => ⟨⟨t, N, k3⟩, k1.keep k4, k2.trans (k4.mono k2.size)⟩
            clear hx hwb hdm hlen hde hup hix hbig hd1 hv hEl
            cases hval : Hx.val 0 d.data.toList with
            | some n =>
              have hP := hPo n hval
              have hK := fun w1 => charOK_run n w1
              clear hPo hPn hval
              dsimp only
              generalize chOK n = b at hK ⊢
              go_enter Tryz.func41, Tryz.ntmps41
              go_wp2_with (first | (go_at_call 62; refine hN.mono ?_; rintro e w1 ⟨⟨u, rfl, hu⟩, hF, h1⟩; obtain ⟨⟨c0, c1, c2, c3⟩, z0, z1, z2, z3⟩ := hF.cells) | (go_at_call 63; refine (hC _).mono ?_; rintro e w2 ⟨rfl, rfl⟩) | (go_at_call 16; refine (hW _).mono ?_; rintro e w2 ⟨rfl, rfl⟩) | (go_at_call 64; refine (hI _).mono ?_; rintro e w2 ⟨rfl, rfl⟩) | (go_at_call 8; refine (hK _).mono ?_; rintro e w2 ⟨rfl, rfl⟩) | (go_at_call 19; refine (hU _ hF h1).mono ?_; clear hF h1 c0 c1 c2 c3 z0 z1 z2 z3; rintro e w2 ⟨rfl, hF, h1⟩; obtain ⟨⟨c0, c1, c2, c3⟩, z0, z1, z2, z3⟩ := hF.cells) | (go_at_call 65; refine (hP _ hF h1).mono ?_; clear hF h1 c0 c1 c2 c3 z0 z1 z2 z3; rintro e w2 ⟨rfl, hF, h1⟩; obtain ⟨⟨c0, c1, c2, c3⟩, z0, z1, z2, z3⟩ := hF.cells))
              exact ret4 rfl rfl hF h1
            | none =>
              have hP := hPn hval
              clear hPo hPn hval
              go_enter Tryz.func41, Tryz.ntmps41
              go_wp2_with (first | (go_at_call 62; refine hN.mono ?_; rintro e w1 ⟨⟨u, rfl, hu⟩, hF, h1⟩; obtain ⟨⟨c0, c1, c2, c3⟩, z0, z1, z2, z3⟩ := hF.cells) | (go_at_call 63; refine (hC _).mono ?_; rintro e w2 ⟨rfl, rfl⟩) | (go_at_call 16; refine (hW _).mono ?_; rintro e w2 ⟨rfl, rfl⟩) | (go_at_call 64; refine (hI _).mono ?_; rintro e w2 ⟨rfl, rfl⟩) | (go_at_call 19; refine (hU _ hF h1).mono ?_; clear hF h1 c0 c1 c2 c3 z0 z1 z2 z3; rintro e w2 ⟨rfl, hF, h1⟩; obtain ⟨⟨c0, c1, c2, c3⟩, z0, z1, z2, z3⟩ := hF.cells) | (go_at_call 65; refine (hP _ hF h1).mono ?_; clear hF h1 c0 c1 c2 c3 z0 z1 z2 z3; rintro e w2 ⟨⟨t, N, rfl⟩, hF, h1⟩; obtain ⟨⟨c0, c1, c2, c3⟩, z0, z1, z2, z3⟩ := hF.cells))
              exact ret4 rfl rfl hF h1
          · rw [if_neg (fun h => by simp at h)]
            rw [hix] at hI
            clear hx hwb hdm hlen hde hup hix
            go_enter Tryz.func41, Tryz.ntmps41
            go_wp2_with (first | (go_at_call 62; refine hN.mono ?_; rintro e w1 ⟨⟨u, rfl, hu⟩, hF, h1⟩; obtain ⟨⟨c0, c1, c2, c3⟩, z0, z1, z2, z3⟩ := hF.cells) | (go_at_call 63; refine (hC _).mono ?_; rintro e w2 ⟨rfl, rfl⟩) | (go_at_call 16; refine (hW _).mono ?_; rintro e w2 ⟨rfl, rfl⟩) | (go_at_call 64; refine (hI _).mono ?_; rintro e w2 ⟨rfl, rfl⟩) | (go_at_call 19; refine (hU _ hF h1).mono ?_; clear hF h1 c0 c1 c2 c3 z0 z1 z2 z3; rintro e w2 ⟨rfl, hF, h1⟩; obtain ⟨⟨c0, c1, c2, c3⟩, z0, z1, z2, z3⟩ := hF.cells))
            exact ret4 rfl rfl hF h1
        · rw [decide_eq_false hup, if_neg (fun h => by simp at h)]
          obtain ⟨X, hX⟩ : ∃ X : ByteArray, X = ⟨(Lib.toUpperA d.data.toList).toArray⟩ := ⟨_, rfl⟩
          have hne : (X.toList == d.toList) = false := by
            rw [hX, ByteArray.toList_eq, ByteArray.toList_eq]
            simpa using hup
          rw [← hX] at hU
          clear hx hwb hdm hlen hup hI hX
          go_enter Tryz.func41, Tryz.ntmps41
          go_wp2_with (first | (go_at_call 62; refine hN.mono ?_; rintro e w1 ⟨⟨u, rfl, hu⟩, hF, h1⟩; obtain ⟨⟨c0, c1, c2, c3⟩, z0, z1, z2, z3⟩ := hF.cells) | (go_at_call 63; refine (hC _).mono ?_; rintro e w2 ⟨rfl, rfl⟩) | (go_at_call 16; refine (hW _).mono ?_; rintro e w2 ⟨rfl, rfl⟩) | (go_at_call 19; refine (hU _ hF h1).mono ?_; clear hF h1 c0 c1 c2 c3 z0 z1 z2 z3; rintro e w2 ⟨rfl, hF, h1⟩; obtain ⟨⟨c0, c1, c2, c3⟩, z0, z1, z2, z3⟩ := hF.cells))
          exact ret4 rfl rfl hF h1
end Go.Proofs.YthpacjlaeknidabGreatDoor.Nm
