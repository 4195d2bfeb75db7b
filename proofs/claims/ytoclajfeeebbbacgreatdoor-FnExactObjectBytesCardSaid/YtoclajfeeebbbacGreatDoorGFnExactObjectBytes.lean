/- The library's functions that this law reaches, as the engine takes them. -/
import Derived.Test.YtoclajfeeebbbacGreatDoorEng18
import Derived.Test.YtoclajfeeebbbacGreatDoorProg
import Derived.Test.YtoclajfeeebbbacGreatDoorShelf
import Derived.Test.YtoclajfeeebbbacGreatDoorRows
import Derived.Lib.LaidU8
import Derived.LaidMore
import Derived.Test.YtoclajfeeebbbacGreatDoorDif
import Derived.Test.YtoclajfeeebbbacGreatDoorEng18
import Derived.Test.YtoclajfeeebbbacGreatDoorBs
set_option linter.unusedVariables false
set_option linter.unusedSectionVars false
set_option linter.unusedSimpArgs false
namespace Go.Proofs.YtoclajfeeebbbacGreatDoor.E
open Go.RowKit
/-- A table of the library's stays as it was laid. -/
def TabSh (w : World) (Sh : Nat → Prop) (name : String) (k : IntKind) (zs : List Int) : Prop := Lib.TabIs Tryz.prog w name k zs ∧ ∀ g, Tryz.prog.globalNamed name = some g → Sh g
theorem TabSh.mono {w w' : World} {Sh Sh' : Nat → Prop} {name : String} {k : IntKind} {zs : List Int} (hS : ∀ g, Sh g → Sh' g) (hw : ∀ g, Sh g → w'.heap[g]? = w.heap[g]?) (h : TabSh w Sh name k zs) : TabSh w' Sh' name k zs := by
  refine ⟨?_, fun g hg => hS g (h.2 g hg)⟩
  have h1 := h.1
  unfold Lib.TabIs World.var? at *
  cases hg : Tryz.prog.globalNamed name with
  | none => rw [hg] at h1; simp at h1
  | some g =>
    rw [hg] at h1
    simp only [Option.bind_some] at h1 ⊢
    rw [hw g (h.2 g hg)]
    exact h1

instance : LaidFacts where
  LW w Sh := TabSh w Sh "strings.asciiSpace" .u8 Lib.asciiSpaceTab ∧ True
  mono hS hw h := ⟨(h.1).mono hS hw, trivial⟩
theorem tab0_laid {l : List (String × DataW Unit)} {w : World} (h : laidMet Tryz.prog l w) (hm : ("strings.asciiSpace", (Rows.laid_strings_asciiSpace : DataW Unit)) ∈ l) : TabSh w (fun g => g < w.heap.size) "strings.asciiSpace" .u8 Lib.asciiSpaceTab := by
  obtain ⟨g, t, cs, fuel, p, hg, hty, hvar, hd⟩ := Lib.laidMet.reads h hm
  have h1 : Lib.TabIs Tryz.prog w "strings.asciiSpace" .u8 Lib.asciiSpaceTab := by
    obtain rfl := Option.some.inj ((show Tryz.prog.globalNamed "strings.asciiSpace" = some 0 by kernel_rfl).symm.trans hg)
    obtain rfl := Option.some.inj ((show (Tryz.prog.globals[0]?).map (·.type) = some 140 by kernel_rfl).symm.trans hty)
    unfold Lib.TabIs
    rw [hvar, ← Lib.cells_of_tab (zs := Lib.asciiSpaceTab) (n := 256) Tryz.underlying140 Tryz.underlying5 (by kernel_rfl) (by kernel_rfl) ((show (Rows.laid_strings_asciiSpace : DataW Unit) = Lib.tabData .u8 Lib.asciiSpaceTab by kernel_rfl) ▸ hd)]
  refine ⟨h1, fun g' hg' => ?_⟩
  unfold Lib.TabIs World.var? at h1
  rw [hg'] at h1
  simp only [Option.bind_some] at h1
  cases hh : w.heap[g']? with
  | none => rw [hh] at h1; cases h1
  | some o => exact (Array.getElem?_eq_some_iff.1 hh).1
def impl_areDifferent.f (k : Nat) (a0 : List ByteArray) : Option Bool := if a0.length ≤ 4194304 then some (Sq.differ (a0.map fun s => s.data.toList)) else none
theorem impl_areDifferent.strs {w : World} {Sh : Nat → Prop} {u : Value} {a0 : List ByteArray} (hS : ∀ g, Sh g → g < w.heap.size) (h : RepS w Sh (.sl 1 (List.map eS a0)) u) : ∃ a cap, u = .slice a a0.length cap ∧ Sq.Strs w.heap.size w u (a0.map fun s => s.data.toList) := by
  generalize hx : PC.sl 1 (List.map eS a0) = x at h
  cases h with
  | @sl xs g off c size f hz hc hsh hcell hr =>
    injection hx with h1 h2
    subst h1 h2
    refine ⟨_, _, by simp only [List.length_map]; rfl, .inr ⟨g, off, c, by simp, hS g hsh, fun j hj => ?_⟩⟩
    simp only [List.length_map] at hj
    have he : (List.map eS a0)[j]? = some (eS a0[j]) := by simp [hj]
    have h3 := hcell j 0 (eS a0[j]) (cS a0[j]) he rfl
    have h4 := hr j 0 (eS a0[j]) (cS a0[j]) he rfl
    have key : ∀ (y : PC) (z : Value), RepS w Sh y z → y = cS a0[j] → z = .string a0[j] := fun y z hyz hy => by
      unfold cS at hy
      cases hyz <;> first | (injection hy) | (cases hy)
    have h5 : f j 0 = .string a0[j] := key _ _ h4 rfl
    rw [Nat.mul_one, Nat.add_zero] at h3
    rw [h3, h5]
    simp [hj, Go.Proofs.encStr]
  | nil =>
    injection hx with h1 h2
    obtain rfl : a0 = [] := List.map_eq_nil_iff.1 h2
    exact ⟨_, _, rfl, .inl ⟨_, _, rfl, rfl⟩⟩
  | _ => cases hx
theorem impl_areDifferent.fn (k : Nat) (a0 : List ByteArray) (r : Bool) (h : impl_areDifferent.f k a0 = some r) : Fn Tryz.prog 46 [o1 (.sl 1 (List.map eS a0))] [] (oB r) [] := by
  unfold impl_areDifferent.f at h
  split at h
  · rename_i hc
    obtain rfl := Option.some.inj h
    refine Fn.ofSl (v := .bool (Sq.differ (a0.map fun s => s.data.toList))) ⟨rfl, rfl⟩ (fun c x hx => ?_) fun w Sh u hlw hS hr => ?_
    · match c, hx with
      | 0, hx => simp only [oB, List.getElem?_cons_zero, Option.some.injEq] at hx; subst hx; exact ⟨_, rfl, rfl, rfl⟩
      | c + 1, hx => simp [oB] at hx
    · obtain ⟨a, cap, rfl, hs⟩ := impl_areDifferent.strs hS hr
      have := Sq.areDiff a cap (a0.map fun s => s.data.toList) (by simp; omega) w (by simpa using hs)
      simpa using this
  · cases h


def math_bits_Mul.f (k : Nat) (a b : Int) : Option (Int × Int) := if 0 ≤ a ∧ a < 18446744073709551616 ∧ 0 ≤ b ∧ b < 18446744073709551616 then some (((a.toNat * b.toNat / 18446744073709551616 : Nat) : Int), ((a.toNat * b.toNat % 18446744073709551616 : Nat) : Int)) else none
theorem math_bits_Mul.fn (k : Nat) (a0 a1 : Int) (r : Int × Int) (h : math_bits_Mul.f k a0 a1 = some r) : Fn Tryz.prog 113 [o1 (cK .u64 a0), o1 (cK .u64 a1)] [] (tp [none, none] [cK .u64 r.1, cK .u64 r.2]) [] := by
  unfold math_bits_Mul.f at h
  split at h
  · rename_i hc
    obtain rfl := Option.some.inj h
    have := Fn.ofSc (P := Tryz.prog) (f := 113) (vs := [.int .u64 a0, .int .u64 a1]) (res := tp [none, none] [cK .u64 ((a0.toNat * a1.toNat / 18446744073709551616 : Nat) : Int), cK .u64 ((a0.toNat * a1.toNat % 18446744073709551616 : Nat) : Int)])
      (v := .tuple #[.int .u64 ((a0.toNat * a1.toNat / 18446744073709551616 : Nat) : Int), .int .u64 ((a0.toNat * a1.toNat % 18446744073709551616 : Nat) : Int)])
      ⟨_, rfl, rfl, rfl, fun x hx y hy => by simp at hx; rcases hx with rfl | rfl <;> (simp [Value.cells] at hy; subst hy; rfl)⟩ (fun c x hx => by
        match c, hx with
        | 0, hx => simp only [tp, List.getElem?_cons_zero, Option.some.injEq] at hx; subst hx; exact ⟨_, rfl, rfl, rfl⟩
        | 1, hx => simp only [tp, List.getElem?_cons_succ, List.getElem?_cons_zero, Option.some.injEq] at hx; subst hx; exact ⟨_, rfl, rfl, rfl⟩
        | c + 2, hx => simp [tp] at hx) fun w Sh _ => by
        have hm := Tryz.bits_Mul a0.toNat a1.toNat (by omega) (by omega) w
        rw [Int.toNat_of_nonneg hc.1, Int.toNat_of_nonneg hc.2.2.1] at hm
        exact hm.mono fun e w' ⟨k1, k2⟩ => ⟨k1, by rw [k2]; exact Below.refl _ _⟩
    exact this
  · cases h

def strings_Builder_String.f (k : Nat) (xs : List Int) : Option ByteArray := if xs.all (fun n => decide (0 ≤ n) && decide (n < 256)) = true then some (strOfNums xs) else none
theorem Inv.lowM {P : Program} {st : St} {a : Act} {w : World} {r : Rs} (h : Inv P st a w r) : Inv P { st with m := 0 } a w r :=
  ⟨h.sz, Nat.zero_le _, h.tm, h.bx, h.cell, h.nm, h.live, h.inj, h.exb, h.bb, h.sh, h.defers, h.lw, h.fx⟩
theorem builder_end {T : TypeId} {u : Bool} {e : TypeId} {xs : List (List PC)} {post : List PC} {vals : Array Value} {w w' : World} {r0 : Rs} {s : ByteArray} (hi : Inv Tryz.prog ⟨1, enum 0 [o1 (.ref 0 0)], [.opt T u 0 0 :: .own e xs :: post], 1, []⟩ ⟨vals, []⟩ w r0)
    (ho : w'.os = w.os) (ht : w'.tape = w.tape) (hp : w'.output = w.output) (hs : w.heap.size ≤ w'.heap.size) (hb : ∀ k, k < w.heap.size → r0.γ (.b 0 1) ≠ some k → w'.heap[k]? = w.heap[k]?) (hty : ∀ g T, bty w g = some T → bty w' g = some T) :
    ∃ r', Inv Tryz.prog ⟨1, enum 0 [oS s], [.opt T u 0 0 :: .dead :: post], 0, []⟩ ⟨#[.string s], []⟩ w' r' ∧ Step 1 w r0 1 w' r' 1 := by
  have hat : (⟨1, enum 0 [o1 (.ref 0 0)], [.opt T u 0 0 :: .own e xs :: post], 1, []⟩ : St).at (.b 0 1) = some (.own e xs) := rfl
  have hk := hi.kill hat
  have hne : ∀ g, (r0.clr (.b 0 1) false).Sh g ∨ (r0.clr (.b 0 1) false).X 1 g → r0.γ (.b 0 1) ≠ some g := by
    intro g hg hγ
    rcases hg with (h | ⟨h, _⟩) | ⟨p, h⟩ | ⟨b, hb, h⟩
    · exact (hi.sh g h).2.1 _ hγ
    · cases h
    · simp only [Rs.clr] at h
      split at h
      · cases h
      · rename_i hne; exact hne (hi.inj _ _ _ h hγ)
    · exact hi.exb _ g b hγ (by simpa using hb) h
  have hlt : ∀ g, (r0.clr (.b 0 1) false).Sh g ∨ (r0.clr (.b 0 1) false).X 1 g → g < w.heap.size := by
    intro g hg
    rcases hg with h | h
    · exact (hk.sh g h).1
    · exact hk.X_lt h
  have hw := hk.world (w' := w') (fun g hg => hb g (hlt g hg) (hne g hg)) hs hty
  have h1 := hw.assign_has (d := 0) (pv := oS s) (v := .string s) ⟨Nat.zero_lt_one, rfl⟩ rfl (Has.sc rfl)
  have hsz : vals.size = 1 := hi.sz
  obtain ⟨x, rfl⟩ : ∃ x, vals = #[x] := ⟨vals[0]'(by omega), Array.ext' (by
    obtain ⟨l⟩ := vals
    match l, hsz with
    | [y], _ => rfl)⟩
  refine ⟨_, h1.lowM, ?_⟩
  exact Step.trans (r₁ := r0) (n₁ := 1) ⟨ho, ht, hp, hs, fun g hg hx => hb g hg fun h => hx (.inl ⟨_, h⟩), fun _ h => h, fun _ h => .inl h, fun _ h => .inl h, fun _ _ => rfl, rfl, hty⟩ ((Step.clr (p := .b 0 1) (fz := false)).trans (Step.assign (fun _ _ h => by cases h)))
theorem drew_freeze {w : World} {g n : Nat} : ∀ k, k < w.heap.size → g ≠ k → (w.drew.freeze ⟨g, 0, none⟩ n).heap[k]? = w.heap[k]? := fun k _ hne => by
  unfold World.freeze
  split
  · rfl
  · simp only [Array.getElem?_modify]
    rw [if_neg hne]; rfl
theorem drew_freeze_size {w : World} {g n : Nat} : w.heap.size ≤ (w.drew.freeze ⟨g, 0, none⟩ n).heap.size := by
  unfold World.freeze
  split
  · exact Nat.le_refl _
  · show _ ≤ (w.drew.heap.modify _ _).size
    rw [Array.size_modify]
    exact Nat.le_refl _
theorem drew_freeze_ty {w : World} {g n : Nat} : ∀ k T, bty w k = some T → bty (w.drew.freeze ⟨g, 0, none⟩ n) k = some T := fun k T h => by
  have hd : w.drew.heap[k]? = w.heap[k]? := rfl
  unfold World.freeze
  split
  · exact h
  · unfold bty at h ⊢
    simp only [Array.getElem?_modify]
    by_cases he : g = k
    · subst he
      rw [if_pos rfl, hd]
      cases hh : w.heap[g]? with
      | none => rw [hh] at h; exact h
      | some o =>
        rw [hh] at h
        cases o <;> exact h
    · rw [if_neg he]; exact h
theorem u8_val {n : Int} (h0 : 0 ≤ n) (h1 : n < 256) : Value.int .u8 n = Value.int .u8 ((UInt8.ofNat n.toNat).toNat : Int) := by
  congr 1
  simp only [UInt8.toNat_ofNat']
  omega
theorem strings_Builder_String.fn (k : Nat) {T : TypeId} (u : Bool) (xs : List Int) (post : List PC) (r : ByteArray) (h : strings_Builder_String.f k xs = some r) :
    FnG Tryz.prog 53 [o1 (.ref 0 0)] [] [.opt T u 0 0 :: .own 5 (List.map (eK .u8) xs) :: post] (oS r) [] [.opt T u 0 0 :: .dead :: post] := by
  unfold strings_Builder_String.f at h
  split at h
  case isFalse => cases h
  rename_i hall
  obtain rfl := Option.some.inj h
  intro vals w r0 hi
  have hi0 := hi
  obtain ⟨v, hv, hc⟩ := hi.arg0
  simp only [RepC] at hc
  have hvp : v = .pointer (some ⟨r0.β 0, 0, none⟩) := by
    obtain ⟨_, hc⟩ := hc
    cases hc with
    | s hs => cases hs
    | ref _ => rfl
  subst hvp
  have hsz : vals.size = 1 := hi.sz
  obtain ⟨x, rfl⟩ : ∃ x, vals = #[x] := ⟨vals[0]'(by omega), Array.ext' (by
    obtain ⟨l⟩ := vals
    match l, hsz with
    | [y], _ => rfl)⟩
  have hx : x = .pointer (some ⟨r0.β 0, 0, none⟩) := by simpa using hv
  subst hx
  obtain ⟨⟨bv, be, hh, hbs, _⟩, _⟩ := hi.bx 0 _ rfl
  have hblt : r0.β 0 < w.heap.size := (Array.getElem?_eq_some_iff.1 hh).1
  have hlt1 : 1 < bv.size := by rw [hbs]; simp
  have hcl : w.cell? ⟨r0.β 0, 1, none⟩ = some bv[1] := by simp [World.cell?, hh, hlt1]
  have hown := hi.cell (.b 0 1) _ rfl
  have hal : alpha ⟨#[.pointer (some ⟨r0.β 0, 0, none⟩)], []⟩ w r0 (.b 0 1) = bv[1] := by simp [alpha, hcl]
  rw [hal] at hown
  simp only [RepC] at hown
  obtain ⟨cs, h1, h2, h3, h4⟩ := hown
  have hce : Tryz.prog.cellsOf 5 = 1 := by kernel_rfl
  rw [hce] at h1 h3
  by_cases hq : xs = [] ∧ ∃ (a : Option Addr) (cap : Nat) (p : Option Addr), bv[1] = .slice a 0 cap ∧ (Builtin.unsafeSliceData_ #[28] 116 #[.slice a 0 cap]).run Tryz.prog w.drew = .ok (.pointer p) w.drew
  · obtain ⟨hxs, a, cap, p, hb, hsd⟩ := hq
    refine (Bs.string_quick (r0.β 0) bv[1] 0 a cap p w (by rw [hcl, hb]) hsd).mono fun e w' ⟨he, hw⟩ => ?_
    subst hxs hw
    obtain ⟨r', k1, k2⟩ := builder_end (s := ⟨#[]⟩) hi0 (w' := w.drew) rfl rfl rfl (Nat.le_refl _) (fun _ _ _ => rfl) (fun _ _ h => h)
    exact ⟨_, r', he, k1, k2⟩
  rcases h1.2 with ⟨hb, hn⟩ | ⟨g, cap, cur, fz, hb, hfz, hg, hnc, hcm, hcs, htake⟩
  · exact absurd ⟨by simpa using hn, none, 0, none, by rw [hb], rfl⟩ hq
  · by_cases hn : xs = []
    · subst hn
      by_cases hc0 : cap = 0
      · subst hc0
        refine (Bs.string_view (r0.β 0) g cur fz w hblt (by rw [hcl, hb]; rfl) hg).mono fun e w' ⟨he, hw⟩ => ?_
        subst hw
        obtain ⟨r', k1, k2⟩ := builder_end (s := ⟨#[]⟩) hi0 (w' := w.drew.alloc (.view ⟨g, 0, none⟩ 5)) rfl rfl rfl (by simp) (fun k hk _ => heap_alloc_old w.drew _ hk) (bty_old (w := w) fun k hk => heap_alloc_old w.drew _ hk)
        exact ⟨_, r', he, k1, k2⟩
      · exact absurd ⟨rfl, some ⟨g, 0, none⟩, cap, some ⟨g, 0, none⟩, by rw [hb]; rfl, Lib.run_unsafeSliceData_row _ _ _ _ _ _ hc0⟩ hq
    · have hm : maxLen = 9223372036854775807 := rfl
      have hlen : (List.map (eK .u8) xs).length = xs.length := List.length_map _
      have hbyte : ∀ (j : Nat) (n : Int), xs[j]? = some n → cs[j]? = some (Value.int .u8 ((UInt8.ofNat n.toNat).toNat : Int)) := by
        intro j n hj
        have hfl : (List.map (eK .u8) xs).flatten[j]? = some (PC.sc (Value.int .u8 n)) := by
          have := flatten_at (s := 1) h3 (i := j) (j := 0) (e := eK .u8 n) (x := .sc (.int .u8 n)) (by simp [hj]) rfl
          simpa using this
        obtain ⟨y, hy, hr⟩ := h4 j _ hfl
        have hyv : y = Value.int .u8 n := by cases hr; rfl
        have hr2 := List.all_eq_true.1 hall n (List.mem_of_getElem? hj)
        simp only [Bool.and_eq_true, decide_eq_true_eq] at hr2
        rw [hy, hyv, u8_val hr2.1 hr2.2]
      have hgo := Bs.string_row (r0.β 0) g cap (xs.map fun n => UInt8.ofNat n.toNat) cur fz w (by simpa using hn) (by rw [hcl, hb]; simp) hg (by simpa using hnc) (by omega) (by omega) (fun j b hj => by
        rw [List.getElem?_map, Option.map_eq_some_iff] at hj
        obtain ⟨n, hn', rfl⟩ := hj
        exact h1.cells (g := g) (by rw [hb]; rfl) j _ (hbyte j n hn'))
      refine hgo.mono fun e w' ⟨he, hw⟩ => ?_
      subst hw
      have hγ : r0.γ (.b 0 1) = some g := by rw [← h2, hb]; rfl
      obtain ⟨r', k1, k2⟩ := builder_end (s := strOfNums xs) hi0 (w' := w.drew.freeze ⟨g, 0, none⟩ (xs.map fun n => UInt8.ofNat n.toNat).length) (by unfold World.freeze; split <;> rfl) (by unfold World.freeze; split <;> rfl) (by unfold World.freeze; split <;> rfl) (drew_freeze_size)
        (fun k hk hne => drew_freeze k hk fun e' => hne (by rw [hγ, e'])) drew_freeze_ty
      exact ⟨_, r', he, k1, k2⟩

def isAscii (s : ByteArray) : Bool := s.data.toList.all fun b => decide (b.toNat < 128)
def strings_Fields.f (k : Nat) (s : ByteArray) : Option (List ByteArray) := if s.size < 1000000 ∧ isAscii s = true ∧ (Lib.fields s.data.toList).length < 1000000 then some ((Lib.fields s.data.toList).map fun l => ⟨l.toArray⟩) else none
theorem strings_Fields.fn (k : Nat) (a0 : ByteArray) (r : List ByteArray) (h : strings_Fields.f k a0 = some r) : Fn Tryz.prog 102 [oS a0] [] (o1 (.own 9 (List.map eS r))) [] := by
  unfold strings_Fields.f at h
  split at h
  · rename_i hc
    obtain ⟨h1, h2, h3⟩ := hc
    obtain rfl := Option.some.inj h
    have ha : ∀ (j : Nat) b, a0.data.toList[j]? = some b → b.toNat < 128 := fun j b hj => of_decide_eq_true (List.all_eq_true.1 h2 b (List.mem_of_getElem? hj))
    have := Fn.ofRow (P := Tryz.prog) (f := 102) (vs := [.string a0]) (e := 9) (us := (Lib.fields a0.data.toList).map fun l => Value.string ⟨l.toArray⟩) (by kernel_rfl) (fun u hu => by obtain ⟨l, _, rfl⟩ := List.mem_map.1 hu; rfl) (by simp [maxLen]; omega) fun w Sh hlw => by
      refine (Tryz.strings_Fields_laid a0 w (by omega) ha hlw.1.1).mono fun e w' ⟨k1, k2⟩ => ⟨by rw [k1]; simp, k2⟩
    simpa [List.map_map, Function.comp_def, scArgs, oS, o1, cS, eS] using this
  · cases h


end Go.Proofs.YtoclajfeeebbbacGreatDoor.E
