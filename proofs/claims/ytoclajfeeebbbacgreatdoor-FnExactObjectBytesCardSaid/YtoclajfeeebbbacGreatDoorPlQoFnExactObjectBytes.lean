/- The bytes of an object, as both write them. -/
import Derived.Test.YtoclajfeeebbbacGreatDoorPlOFnExactObjectBytes
import Derived.Test.YtoclajfeeebbbacGreatDoorPlMFnExactObjectBytes
set_option linter.unusedVariables false
set_option linter.unusedSimpArgs false
namespace Go.Proofs.YtoclajfeeebbbacGreatDoor.V
open Go.RowKit Go.Proofs.YtoclajfeeebbbacGreatDoor.E
/-! The parts. -/
def textL (s : ByteArray) : List Int := [u8 (s.size : Int)] ++ bytesOf s
theorem textL_len (s : ByteArray) : (textL s).length = s.size + 1 := by
  unfold textL
  rw [List.length_append, bytesOf_length, List.length_singleton, Nat.add_comm]
theorem textL_ok (s : ByteArray) : Oct (textL s) := (Oct.byte _).app (Oct.of s)
theorem str_size (l : List Int) : (strOfNums l).size = l.length := by
  show (List.map _ l).toArray.size = l.length
  simp
theorem stext_ev {s : ByteArray} (h : s.size ≤ 40) (k : Nat) : spec_l03Text.f k s = some (textL s) := by
  have := textL_len s
  unfold textL at this
  exact if_pos (by show (textL s).length * 1 ≤ _; unfold textL; omega)
def sizedB (s : ByteArray) : ByteArray := strOfNums [u8 (s.size : Int)] ++ s
theorem sizedB_size (s : ByteArray) : (sizedB s).size = s.size + 1 := by
  unfold sizedB
  rw [ByteArray.size_append, str_size, List.length_singleton, Nat.add_comm]
theorem sizedB_bytes (s : ByteArray) : bytesOf (sizedB s) = textL s := by
  unfold sizedB
  rw [bytes_app, bytes_str (Oct.byte _)]
  rfl
theorem isized_ev {s : ByteArray} (h : s.size ≤ 40) : Evr (fun k => impl_sized.f k s) (sizedB s) := by
  unfold impl_sized.f
  exact ev_bind _ (ibig1_ev _) (ev_pos (by rw [str_size, List.length_singleton]; omega) ev_some)
theorem ibig2_ev (v : Int) : Evr (fun k => impl_big.f k v 2) (strOfNums (bigL v 2)) := ibig_ev v (m := 2) (by omega) (by omega)
theorem big2 {v : Int} (h0 : 0 ≤ v) (h1 : v ≤ 65535) : bigL v 2 = [u8 (w64 (Int.tdiv v 256)), u8 (Int.tmod v 256)] := by
  show [atB v 1, atB v 0] = _
  have e8 : ishr .i64 v ((8 * 1 : Nat) : Int) = v / 256 := by
    unfold ishr
    show v.fdiv (2 ^ 8) = _
    rw [Int.fdiv_eq_ediv_of_nonneg _ (by decide)]
    rfl
  unfold atB
  rw [show ((8 * 0 : Nat) : Int) = 0 from rfl, shr0, e8, Int.tdiv_eq_ediv_of_nonneg h0, Int.tmod_eq_emod_of_nonneg h0, w64_id (n := v / 256) (by omega) (by omega)]
  unfold u8
  rw [IntKind.wrap_u8, IntKind.wrap_u8, IntKind.wrap_u8]
  congr 2
  omega
def insL (x : SIns) : List Int := [u8 x.f0] ++ bigL x.f1 8 ++ (if x.f0 = 3 ∨ x.f0 = 13 then [u8 x.f2] ++ textL x.f3 ++ textL x.f4 else [])
def codeH (c : SCode) : List Int := textL c.f0 ++ [u8 c.f1] ++ bigL c.f2 2 ++ [u8 c.f3] ++ bigL (c.f4.length : Int) 2
def codeL (c : SCode) : List Int := codeH c ++ c.f4.flatMap insL
def needL (x : SNeed) : List Int := textL x.f0 ++ bigL x.f1 8
def globL (x : SNeed) : List Int := textL x.f0 ++ [u8 x.f1]
def objH (o : SObj) : List Int := [79, 79, 49] ++ textL o.f0 ++ bigL o.f1 8 ++ [u8 (o.f2.length : Int)]
def objL (o : SObj) : List Int := objH o ++ o.f2.flatMap needL ++ [u8 (o.f3.length : Int)] ++ o.f3.flatMap globL ++ [u8 (o.f4.length : Int)] ++ o.f4.flatMap codeL
theorem insL_ok (x : SIns) : Oct (insL x) := by
  unfold insL
  refine ((Oct.byte _).app (bigL_ok _ _)).app ?_
  split
  · exact ((Oct.byte _).app (textL_ok _)).app (textL_ok _)
  · exact fun v hv => by cases hv
theorem codeL_ok (c : SCode) : Oct (codeL c) := Oct.app ((((((textL_ok _).app (Oct.byte _)).app (bigL_ok _ _)).app (Oct.byte _))).app (bigL_ok _ _)) (Oct.flat fun x _ => insL_ok x)
theorem objL_ok (o : SObj) : Oct (objL o) := by
  have h3 : Oct [79, 79, 49] := fun v hv => by
    simp only [List.mem_cons, List.not_mem_nil, or_false] at hv
    omega
  exact ((((((((h3.app (textL_ok _)).app (bigL_ok _ _)).app (Oct.byte _)).app (Oct.flat fun x _ => (textL_ok _).app (bigL_ok _ _))).app (Oct.byte _)).app (Oct.flat fun x _ => (textL_ok _).app (Oct.byte _))).app (Oct.byte _)).app (Oct.flat fun x _ => codeL_ok x))
/-- What an object that is right holds. -/
structure FitC (c : SCode) : Prop where
  nm : c.f0.size ≤ 40
  len : c.f4.length ≤ 2000
  cells : 0 ≤ c.f2 ∧ c.f2 ≤ 65535
  ins : ∀ x ∈ c.f4, x.f3.size ≤ 40 ∧ x.f4.size ≤ 40
structure FitO (o : SObj) : Prop where
  nm : o.f0.size ≤ 40
  needs : o.f2.length ≤ 20
  globs : o.f3.length ≤ 100
  procs : o.f4.length ≤ 60
  need : ∀ x ∈ o.f2, x.f0.size ≤ 40
  glob : ∀ x ∈ o.f3, x.f0.size ≤ 40
  proc : ∀ c ∈ o.f4, FitC c
theorem modB_le {s : ByteArray} (h : modB s = true) : s.size ≤ 40 := by
  unfold modB nameB at h
  simp only [Bool.and_eq_true, decide_eq_true_eq] at h
  exact h.1.1.1.2
theorem e0_le {s : ByteArray} (h : s = e0) : s.size ≤ 40 := by
  subst h
  have : e0.size = 0 := rfl
  omega
theorem fitC {c : SCode} (h : (verM c).1 = 0) : FitC c := by
  unfold verM at h
  split at h
  · rename_i hh
    have hb : badAt c = none := by
      cases hb : badAt c with
      | none => rfl
      | some i => rw [hb] at h; simp at h
    have hi : ∀ x ∈ c.f4, insB c x = true := fun x hx => by
      have := firstAt_none.1 hb x hx
      simpa using this
    unfold hdrB btw at hh
    simp only [Bool.and_eq_true, Bool.or_eq_true, decide_eq_true_eq] at hh
    refine ⟨?_, by omega, by omega, fun x hx => ?_⟩
    · rcases hh.2 with h | h
      · exact modB_le h
      · exact e0_le h.1
    · have := hi x hx
      unfold insB headB at this
      simp only [Bool.and_eq_true] at this
      have h1 := this.1.1
      split at h1
      · simp only [Bool.and_eq_true] at h1
        exact ⟨modB_le h1.1, modB_le h1.2⟩
      · simp only [Bool.and_eq_true, decide_eq_true_eq] at h1
        exact ⟨e0_le h1.1, e0_le h1.2⟩
  · simp at h
theorem fitO {o : SObj} (h : objB o = true) : FitO o := by
  unfold objB headO btw at h
  simp only [Bool.and_eq_true, decide_eq_true_eq, List.all_eq_true] at h
  obtain ⟨⟨h1, h2, h3, h4, h5⟩, h6, ⟨h7, h8⟩, h9⟩ := h
  refine ⟨modB_le h1, h3, h4, by omega, fun x hx => ?_, fun x hx => ?_, fun c hc => ?_⟩
  · have := h6 x hx
    unfold needB at this
    simp only [Bool.and_eq_true] at this
    exact modB_le this.1
  · have := h7 x hx
    unfold globB at this
    simp only [Bool.and_eq_true] at this
    exact modB_le this.1
  · obtain ⟨i, hi, rfl⟩ := List.getElem_of_mem hc
    unfold codesB at h8
    have := List.all_eq_true.1 h8 (o.f4[i], 0 + i) (List.mem_of_getElem? (i := i) (by simp [hi]))
    unfold codeB at this
    simp only [Bool.and_eq_true, decide_eq_true_eq] at this
    exact fitC this.1
theorem insL_len {c : SCode} (h : FitC c) {x : SIns} (hx : x ∈ c.f4) : (insL x).length ≤ 92 := by
  obtain ⟨h3, h4⟩ := h.ins x hx
  unfold insL
  split <;> simp only [List.length_append, List.length_cons, List.length_nil, bigL_len, textL_len] <;> omega
theorem flat_len {α : Type} {f : α → List Int} {M : Nat} : ∀ {l : List α}, (∀ x ∈ l, (f x).length ≤ M) → (l.flatMap f).length ≤ l.length * M
  | [], _ => by simp
  | x :: l, h => by
    have h1 := h x (List.mem_cons_self ..)
    have h2 := flat_len (l := l) fun y hy => h y (List.mem_cons_of_mem _ hy)
    rw [List.flatMap_cons, List.length_append, List.length_cons, Nat.succ_mul]
    omega
theorem codeH_len (c : SCode) : (codeH c).length = c.f0.size + 7 := by
  unfold codeH
  simp only [List.length_append, List.length_cons, List.length_nil, bigL_len, textL_len] <;> omega
theorem codeL_len {c : SCode} (h : FitC c) : (codeL c).length ≤ 184047 := by
  have h1 := flat_len (f := insL) (M := 92) (l := c.f4) fun x hx => insL_len h hx
  have h2 := codeH_len c
  have h3 := h.nm
  have h4 := h.len
  have h5 : c.f4.length * 92 ≤ 2000 * 92 := Nat.mul_le_mul_right _ h4
  unfold codeL
  rw [List.length_append]
  omega
theorem objH_len (o : SObj) : (objH o).length = o.f0.size + 13 := by
  unfold objH
  simp only [List.length_append, List.length_cons, List.length_nil, bigL_len, textL_len]
  omega
theorem needs_len {o : SObj} (h : FitO o) : (o.f2.flatMap needL).length ≤ 980 := by
  have h1 := flat_len (f := needL) (M := 49) (l := o.f2) fun x hx => by
    have := h.need x hx
    unfold needL
    simp only [List.length_append, bigL_len, textL_len]
    omega
  have h2 : o.f2.length * 49 ≤ 20 * 49 := Nat.mul_le_mul_right _ h.needs
  omega
theorem globs_len {o : SObj} (h : FitO o) : (o.f3.flatMap globL).length ≤ 4200 := by
  have h1 := flat_len (f := globL) (M := 42) (l := o.f3) fun x hx => by
    have := h.glob x hx
    unfold globL
    simp only [List.length_append, List.length_singleton, textL_len]
    omega
  have h2 : o.f3.length * 42 ≤ 100 * 42 := Nat.mul_le_mul_right _ h.globs
  omega
/-! Loops that write one after the other. -/
theorem app_loop {α : Type} (B : Nat) (l : List α) (f : α → List Int) (M : Nat) (hn : l.length ≤ 1048576) (hf : ∀ x ∈ l, (f x).length ≤ M) (L : Nat → List Int → Int → Option (List Int)) (hend : ∀ s, Evr (fun k => L k s (l.length : Int)) s)
    (hstep : ∀ (i : Nat) (hi : i < l.length) (s : List Int), s.length ≤ B → ∀ r, Evr (fun k => L k (s ++ f l[i]) ((i + 1 : Nat) : Int)) r → Evr (fun k => L k s (i : Int)) r) :
    ∀ (m i : Nat) (s : List Int), i + m = l.length → s.length + m * M ≤ B → Evr (fun k => L k s (i : Int)) (s ++ (l.drop i).flatMap f)
  | 0, i, s, hm, _ => by
    obtain rfl : i = l.length := by omega
    rw [List.drop_length, List.flatMap_nil, List.append_nil]
    exact hend s
  | m + 1, i, s, hm, hs => by
    have hi : i < l.length := by omega
    have hx := hf l[i] (List.getElem_mem hi)
    rw [Nat.succ_mul] at hs
    refine hstep i hi s (by omega) _ ?_
    rw [List.drop_eq_getElem_cons hi, List.flatMap_cons, ← List.append_assoc]
    exact app_loop B l f M hn hf L hend hstep m (i + 1) _ (by omega) (by rw [List.length_append]; omega)
theorem wr_loop {α : Type} (B : Nat) (l : List α) (f : α → List Int) (M : Nat) (hn : l.length ≤ 1048576) (hf : ∀ x ∈ l, (f x).length ≤ M) (L : Nat → Int → Bool → List Int → Option (Bool × List Int)) (hend : ∀ b s, Evr (fun k => L k (l.length : Int) b s) (b, s))
    (hstep : ∀ (i : Nat) (hi : i < l.length) (b : Bool) (s : List Int), s.length ≤ B → ∀ r, Evr (fun k => L k ((i + 1 : Nat) : Int) true (s ++ f l[i])) r → Evr (fun k => L k (i : Int) b s) r) :
    ∀ (m i : Nat) (b : Bool) (s : List Int), i + m = l.length → s.length + m * M ≤ B → ∃ b', Evr (fun k => L k (i : Int) b s) (b', s ++ (l.drop i).flatMap f)
  | 0, i, b, s, hm, _ => by
    obtain rfl : i = l.length := by omega
    rw [List.drop_length, List.flatMap_nil, List.append_nil]
    exact ⟨b, hend b s⟩
  | m + 1, i, b, s, hm, hs => by
    have hi : i < l.length := by omega
    have hx := hf l[i] (List.getElem_mem hi)
    rw [Nat.succ_mul] at hs
    obtain ⟨b', hr⟩ := wr_loop B l f M hn hf L hend hstep m (i + 1) true (s ++ f l[i]) (by omega) (by rw [List.length_append]; omega)
    refine ⟨b', hstep i hi b s (by omega) _ ?_⟩
    rw [List.drop_eq_getElem_cons hi, List.flatMap_cons, ← List.append_assoc]
    exact hr
/-! The reference. -/
theorem se5_eq (k : Nat) (x : SIns) : spec_l04Bytes.e5 k x = some (decide (x.f0 = 3 ∨ x.f0 = 13)) := by
  unfold spec_l04Bytes.e5
  by_cases h : x.f0 = 3 <;> simp [h]
theorem ihas_eq (k : Nat) (n : Int) : impl_hasPlace.f k n = some (decide (n = 3 ∨ n = 13)) := by
  unfold impl_hasPlace.f impl_hasPlace.e1
  by_cases h : n = 3 <;> simp [h]
theorem sins_ev (c : SCode) (h : FitC c) (i : Nat) (hi : i < c.f4.length) (s : List Int) (hs : s.length ≤ 1000000000) : Evr (fun k => spec_l04Bytes.e6 k c s (i : Int)) (s ++ insL c.f4[i]) := by
  obtain ⟨h3, h4⟩ := h.ins _ (List.getElem_mem hi)
  unfold spec_l04Bytes.e6
  simp only [at?_nat hi, Option.bind_some]
  refine ev_pos (by simp only [List.length_append, List.length_cons, List.length_nil]; omega) (ev_bind _ (seight_ev _) (ev_pos (by simp only [List.length_append, List.length_cons, List.length_nil, bigL_len]; omega) (ev_bind _ (ev_of fun k => se5_eq k _) ?_)))
  by_cases hp : c.f4[i].f0 = 3 ∨ c.f4[i].f0 = 13
  · refine ev_pos (decide_eq_true hp) (ev_pos (by simp only [List.length_append, List.length_cons, List.length_nil, bigL_len]; omega) (ev_bind _ (ev_of (stext_ev h3)) (ev_pos (by simp only [List.length_append, List.length_cons, List.length_nil, bigL_len, textL_len]; omega) (ev_bind _ (ev_of (stext_ev h4)) (ev_pos (by simp only [List.length_append, List.length_cons, List.length_nil, bigL_len, textL_len]; omega) (ev_const ?_))))))
    unfold insL
    rw [if_pos hp]
    simp only [List.append_assoc]
    rfl
  · refine ev_neg (by rw [decide_eq_false hp]; decide) (ev_const ?_)
    unfold insL
    rw [if_neg hp, List.append_nil]
    simp only [List.append_assoc]
    rfl
theorem scode_ev (o : SObj) (i : Nat) (hi : i < o.f4.length) (h : FitC o.f4[i]) (s : List Int) (hs : s.length ≤ 900000000) : Evr (fun k => spec_l04Bytes.e8 k o s (i : Int)) (s ++ codeL o.f4[i]) := by
  have hH := codeH_len o.f4[i]
  have hl := h.len
  have hnm := h.nm
  have h5 : o.f4[i].f4.length * 92 ≤ 2000 * 92 := Nat.mul_le_mul_right _ hl
  have key := app_loop 1000000000 o.f4[i].f4 insL 92 (by omega) (fun x hx => insL_len h hx) (fun k s j => spec_l04Bytes.l7 k o.f4[i] s j) (fun s => ev_step (fun _ => some s) (fun k => by rw [spec_l04Bytes.l7.eq_2, if_neg (by omega)]) ev_some) (fun j hj s hs r hr => by
    refine ev_step _ (fun k => rfl) (ev_pos (by omega) (ev_bind _ (sins_ev _ h j hj s hs) ?_))
    rw [w64_next (by omega)]
    exact hr) _ 0 (s ++ codeH o.f4[i]) (Nat.zero_add _) (by rw [List.length_append]; omega)
  rw [List.drop_zero, List.append_assoc] at key
  have e1 : (s ++ textL o.f4[i].f0) ++ [u8 o.f4[i].f1, u8 (w64 (Int.tdiv o.f4[i].f2 256)), u8 (Int.tmod o.f4[i].f2 256), u8 o.f4[i].f3, u8 (w64 (Int.tdiv (o.f4[i].f4.length : Int) 256)), u8 (Int.tmod (o.f4[i].f4.length : Int) 256)] = s ++ codeH o.f4[i] := by
    unfold codeH
    rw [big2 h.cells.1 h.cells.2, big2 (v := (o.f4[i].f4.length : Int)) (by omega) (by omega)]
    simp only [List.append_assoc, List.cons_append, List.nil_append]
  unfold spec_l04Bytes.e8
  simp only [at?_nat hi, Option.bind_some]
  refine ev_bind _ (ev_of (stext_ev hnm)) (ev_pos (by rw [List.length_append, textL_len]; omega) (ev_pos (by simp only [List.length_append, List.length_cons, List.length_nil, textL_len]; omega) ?_))
  rw [← e1] at key
  exact key
theorem sbytes_ev (o : SObj) (h : FitO o) : Evr (fun k => spec_l04Bytes.f k o) (objL o) := by
  have hH := objH_len o
  have hnm := h.nm
  have hN := needs_len h
  have hG := globs_len h
  have hn2 := h.needs
  have hn3 := h.globs
  have hn4 := h.procs
  have k1 := app_loop 900000000 o.f2 needL 49 (by omega) (fun x hx => by
    have := h.need x hx
    unfold needL
    simp only [List.length_append, bigL_len, textL_len]
    omega) (fun k s j => spec_l04Bytes.l1 k o s j) (fun s => ev_step _ (fun k => rfl) (ev_neg (by omega) ev_some)) (fun j hj s hs r hr => by
    have hx := h.need _ (List.getElem_mem hj)
    refine ev_step _ (fun k => rfl) (ev_pos (by omega) ?_)
    simp only [at?_nat hj, Option.bind_some]
    refine ev_bind _ (ev_of (stext_ev hx)) (ev_pos (by rw [List.length_append, textL_len]; omega) (ev_bind _ (seight_ev _) (ev_pos (by simp only [List.length_append, bigL_len, textL_len]; omega) ?_)))
    rw [w64_next (by omega), List.append_assoc]
    exact hr) _ 0 (objH o) (Nat.zero_add _) (by omega)
  have k2 := app_loop 900000000 o.f3 globL 42 (by omega) (fun x hx => by
    have := h.glob x hx
    unfold globL
    simp only [List.length_append, List.length_singleton, textL_len]
    omega) (fun k s j => spec_l04Bytes.l3 k o s j) (fun s => ev_step _ (fun k => rfl) (ev_neg (by omega) ev_some)) (fun j hj s hs r hr => by
    have hx := h.glob _ (List.getElem_mem hj)
    refine ev_step _ (fun k => rfl) (ev_pos (by omega) ?_)
    simp only [at?_nat hj, Option.bind_some]
    refine ev_bind _ (ev_of (stext_ev hx)) (ev_pos (by rw [List.length_append, textL_len]; omega) (ev_pos (by simp only [List.length_append, List.length_singleton, textL_len]; omega) ?_))
    rw [w64_next (by omega), List.append_assoc]
    exact hr) _ 0 (objH o ++ o.f2.flatMap needL ++ [u8 (o.f3.length : Int)]) (Nat.zero_add _) (by simp only [List.length_append, List.length_singleton]; omega)
  have hm4 : o.f4.length * 184047 ≤ 60 * 184047 := Nat.mul_le_mul_right _ hn4
  have k3 := app_loop 900000000 o.f4 codeL 184047 (by omega) (fun x hx => codeL_len (h.proc x hx)) (fun k s j => spec_l04Bytes.l9 k o s j) (fun s => ev_step _ (fun k => rfl) (ev_neg (by omega) ev_some)) (fun j hj s hs r hr => by
    refine ev_step _ (fun k => rfl) (ev_pos (by omega) (ev_bind _ (scode_ev o j hj (h.proc _ (List.getElem_mem hj)) s hs) ?_))
    rw [w64_next (by omega)]
    exact hr) _ 0 (objH o ++ o.f2.flatMap needL ++ [u8 (o.f3.length : Int)] ++ o.f3.flatMap globL ++ [u8 (o.f4.length : Int)]) (Nat.zero_add _) (by simp only [List.length_append, List.length_singleton]; omega)
  rw [List.drop_zero] at k1 k2 k3
  unfold spec_l04Bytes.f
  refine ev_bind _ (ev_of (stext_ev hnm)) (ev_pos (by simp only [List.length_append, List.length_cons, List.length_nil, textL_len]; omega) (ev_bind _ (seight_ev _) (ev_pos (by simp only [List.length_append, List.length_cons, List.length_nil, textL_len, bigL_len]; omega) (ev_pos (by simp only [List.length_append, List.length_cons, List.length_nil, textL_len, bigL_len]; omega) (ev_bind _ k1 (ev_pos (by simp only [List.length_append, List.length_cons, List.length_nil]; omega) (ev_bind _ k2 (ev_pos (by simp only [List.length_append, List.length_cons, List.length_nil]; omega) (ev_bind _ k3 ev_some)))))))))
/-! The program. -/
theorem write_eq (k : Nat) {a : ByteArray} {b : Bool} {s l : List Int} (e : bytesOf a = l) (hl : (s ++ l).length ≤ 140737488355328) : strings_Builder__WriteString_1.f k a b s = some ((a.size : Int), true, s ++ l) := by
  unfold strings_Builder__WriteString_1.f strings_Builder__copyCheck_2.f
  rw [e]
  have h : (s ++ l).length * 1 ≤ 140737488355328 := by omega
  cases b <;> simp only [Bool.false_eq_true, if_false, if_true, Option.bind_some, if_pos h]
theorem str_ev {b : Bool} {l : List Int} (h : Oct l) : Evr (fun k => strings_Builder_String_2.f k b l) (strOfNums l) := by
  refine ev_of fun k => ?_
  unfold strings_Builder_String_2.f strings_Builder_String.f
  exact if_pos (List.all_eq_true.2 fun v hv => by
    have := h v hv
    simp [this])
theorem iins_ev (c : SCode) (h : FitC c) (i : Nat) (hi : i < c.f4.length) (b : Bool) (s : List Int) (hs : s.length ≤ 1000000000) : Evr (fun k => impl_Code__bytes.e1 k c (i : Int) b s) (true, s ++ insL c.f4[i]) := by
  obtain ⟨h3, h4⟩ := h.ins _ (List.getElem_mem hi)
  unfold impl_Code__bytes.e1
  simp only [at?_nat hi, Option.bind_some]
  refine ev_bind _ (ibig1_ev _) (ev_bind _ (ibig8_ev _) (ev_pos (by rw [str_size, str_size, bigL_len, List.length_singleton]; omega) ?_))
  refine ev_bind _ (ev_of fun k => write_eq k (a := strOfNums [u8 c.f4[i].f0] ++ strOfNums (bigL c.f4[i].f1 8)) (s := s) (l := [u8 c.f4[i].f0] ++ bigL c.f4[i].f1 8) (by rw [bytes_app, bytes_str (Oct.byte _), bytes_str (bigL_ok _ _)]) (by simp only [List.length_append, List.length_singleton, bigL_len]; omega)) (ev_bind _ (ev_of fun k => ihas_eq k _) ?_)
  by_cases hp : c.f4[i].f0 = 3 ∨ c.f4[i].f0 = 13
  · refine ev_pos (decide_eq_true hp) (ev_bind _ (ibig1_ev _) (ev_bind _ (isized_ev h3) (ev_pos (by rw [str_size, sizedB_size, List.length_singleton]; omega) (ev_bind _ (isized_ev h4) (ev_pos (by rw [ByteArray.size_append, str_size, sizedB_size, sizedB_size, List.length_singleton]; omega) ?_)))))
    refine ev_bind _ (ev_of fun k => write_eq k (a := strOfNums [u8 c.f4[i].f2] ++ sizedB c.f4[i].f3 ++ sizedB c.f4[i].f4) (s := s ++ ([u8 c.f4[i].f0] ++ bigL c.f4[i].f1 8)) (l := [u8 c.f4[i].f2] ++ textL c.f4[i].f3 ++ textL c.f4[i].f4) (by rw [bytes_app, bytes_app, bytes_str (Oct.byte _), sizedB_bytes, sizedB_bytes]) (by simp only [List.length_append, List.length_singleton, bigL_len, textL_len]; omega)) (ev_const ?_)
    unfold insL
    rw [if_pos hp]
    simp only [List.append_assoc]
  · refine ev_neg (by rw [decide_eq_false hp]; decide) (ev_const ?_)
    unfold insL
    rw [if_neg hp, List.append_nil]
theorem icode_ev (c : SCode) (h : FitC c) : Evr (fun k => impl_Code__bytes.f k c) (strOfNums (codeL c)) := by
  have hH := codeH_len c
  have hl := h.len
  have hnm := h.nm
  have h5 : c.f4.length * 92 ≤ 2000 * 92 := Nat.mul_le_mul_right _ hl
  obtain ⟨b', key⟩ := wr_loop 1000000000 c.f4 insL 92 (by omega) (fun x hx => insL_len h hx) (fun k j b s => impl_Code__bytes.l2 k c j b s) (fun b s => ev_step _ (fun k => rfl) (ev_neg (by omega) ev_some)) (fun j hj b s hs r hr => by
    refine ev_step _ (fun k => rfl) (ev_pos (by omega) (ev_bind _ (iins_ev c h j hj b s hs) ?_))
    rw [w64_next (by omega)]
    exact hr) _ 0 true (codeH c) (Nat.zero_add _) (by omega)
  rw [List.drop_zero] at key
  unfold impl_Code__bytes.f
  refine ev_bind _ (isized_ev hnm) (ev_bind _ (ibig1_ev _) (ev_pos (by rw [sizedB_size, str_size, List.length_singleton]; omega) (ev_bind _ (ibig2_ev _) (ev_pos (by rw [ByteArray.size_append, sizedB_size, str_size, str_size, bigL_len, List.length_singleton]; omega) (ev_bind _ (ibig1_ev _) (ev_pos (by rw [ByteArray.size_append, ByteArray.size_append, sizedB_size, str_size, str_size, str_size, bigL_len, List.length_singleton, List.length_singleton]; omega) (ev_bind _ (ibig2_ev _) (ev_pos (by rw [ByteArray.size_append, ByteArray.size_append, ByteArray.size_append, sizedB_size, str_size, str_size, str_size, str_size, bigL_len, bigL_len, List.length_singleton, List.length_singleton]; omega) ?_))))))))
  refine ev_bind _ (ev_of fun k => write_eq k (a := sizedB c.f0 ++ strOfNums [u8 c.f1] ++ strOfNums (bigL c.f2 2) ++ strOfNums [u8 c.f3] ++ strOfNums (bigL (c.f4.length : Int) 2)) (s := []) (l := codeH c) (by rw [bytes_app, bytes_app, bytes_app, bytes_app, sizedB_bytes, bytes_str (Oct.byte _), bytes_str (bigL_ok _ _), bytes_str (Oct.byte _), bytes_str (bigL_ok _ _)]; rfl) (by rw [List.nil_append]; omega)) (ev_bind _ (by rw [List.nil_append]; exact key) (ev_bind _ (str_ev (codeL_ok c)) ev_some))
theorem ibytes_ev (o : SObj) (h : FitO o) : Evr (fun k => impl_Object__bytes.f k o) (strOfNums (objL o)) := by
  have hH := objH_len o
  have hnm := h.nm
  have hN := needs_len h
  have hG := globs_len h
  have hn2 := h.needs
  have hn3 := h.globs
  have hn4 := h.procs
  have hm4 : o.f4.length * 184047 ≤ 60 * 184047 := Nat.mul_le_mul_right _ hn4
  obtain ⟨b1, k1⟩ := wr_loop 900000000 o.f2 needL 49 (by omega) (fun x hx => by
    have := h.need x hx
    unfold needL
    simp only [List.length_append, bigL_len, textL_len]
    omega) (fun k j b s => impl_Object__bytes.l1 k o j b s) (fun b s => ev_step _ (fun k => rfl) (ev_neg (by omega) ev_some)) (fun j hj b s hs r hr => by
    have hx := h.need _ (List.getElem_mem hj)
    refine ev_step _ (fun k => rfl) (ev_pos (by omega) ?_)
    simp only [at?_nat hj, Option.bind_some]
    refine ev_bind _ (isized_ev hx) (ev_bind _ (ibig8_ev _) (ev_pos (by rw [sizedB_size, str_size, bigL_len]; omega) (ev_bind _ (ev_of fun k => write_eq k (a := sizedB o.f2[j].f0 ++ strOfNums (bigL o.f2[j].f1 8)) (s := s) (l := needL o.f2[j]) (by rw [bytes_app, sizedB_bytes, bytes_str (bigL_ok _ _)]; rfl) (by unfold needL; simp only [List.length_append, bigL_len, textL_len]; omega)) ?_)))
    rw [w64_next (by omega)]
    exact hr) _ 0 true (objH o) (Nat.zero_add _) (by omega)
  obtain ⟨b2, k2⟩ := wr_loop 900000000 o.f3 globL 42 (by omega) (fun x hx => by
    have := h.glob x hx
    unfold globL
    simp only [List.length_append, List.length_singleton, textL_len]
    omega) (fun k j b s => impl_Object__bytes.l3 k o j b s) (fun b s => ev_step _ (fun k => rfl) (ev_neg (by omega) ev_some)) (fun j hj b s hs r hr => by
    have hx := h.glob _ (List.getElem_mem hj)
    refine ev_step _ (fun k => rfl) (ev_pos (by omega) ?_)
    simp only [at?_nat hj, Option.bind_some]
    refine ev_bind _ (isized_ev hx) (ev_bind _ (ibig1_ev _) (ev_pos (by rw [sizedB_size, str_size, List.length_singleton]; omega) (ev_bind _ (ev_of fun k => write_eq k (a := sizedB o.f3[j].f0 ++ strOfNums [u8 o.f3[j].f1]) (s := s) (l := globL o.f3[j]) (by rw [bytes_app, sizedB_bytes, bytes_str (Oct.byte _)]; rfl) (by unfold globL; simp only [List.length_append, List.length_singleton, textL_len]; omega)) ?_)))
    rw [w64_next (by omega)]
    exact hr) _ 0 true (objH o ++ o.f2.flatMap needL ++ [u8 (o.f3.length : Int)]) (Nat.zero_add _) (by simp only [List.length_append, List.length_singleton]; omega)
  obtain ⟨b3, k3⟩ := wr_loop 900000000 o.f4 codeL 184047 (by omega) (fun x hx => codeL_len (h.proc x hx)) (fun k j b s => impl_Object__bytes.l5 k o j b s) (fun b s => ev_step _ (fun k => rfl) (ev_neg (by omega) ev_some)) (fun j hj b s hs r hr => by
    have hc := h.proc _ (List.getElem_mem hj)
    have hcl := codeL_len hc
    refine ev_step _ (fun k => rfl) (ev_pos (by omega) ?_)
    simp only [at?_nat hj, Option.bind_some]
    refine ev_bind _ (icode_ev _ hc) (ev_bind _ (ev_of fun k => write_eq k (s := s) (l := codeL o.f4[j]) (bytes_str (codeL_ok o.f4[j])) (by rw [List.length_append]; omega)) ?_)
    rw [w64_next (by omega)]
    exact hr) _ 0 true (objH o ++ o.f2.flatMap needL ++ [u8 (o.f3.length : Int)] ++ o.f3.flatMap globL ++ [u8 (o.f4.length : Int)]) (Nat.zero_add _) (by simp only [List.length_append, List.length_singleton]; omega)
  rw [List.drop_zero] at k1 k2 k3
  have z3 : (⟨#[79, 79, 49]⟩ : ByteArray).size = 3 := rfl
  have t3 : bytesOf (⟨#[79, 79, 49]⟩ : ByteArray) = [79, 79, 49] := rfl
  unfold impl_Object__bytes.f
  refine ev_bind _ (isized_ev hnm) (ev_pos (by rw [z3, sizedB_size]; omega) (ev_bind _ (ibig8_ev _) (ev_pos (by rw [ByteArray.size_append, z3, sizedB_size, str_size, bigL_len]; omega) (ev_bind _ (ibig1_ev _) (ev_pos (by rw [ByteArray.size_append, ByteArray.size_append, z3, sizedB_size, str_size, str_size, bigL_len, List.length_singleton]; omega) ?_)))))
  refine ev_bind _ (ev_of fun k => write_eq k (a := (⟨#[79, 79, 49]⟩ : ByteArray) ++ sizedB o.f0 ++ strOfNums (bigL o.f1 8) ++ strOfNums [u8 (o.f2.length : Int)]) (s := []) (l := objH o) (by rw [bytes_app, bytes_app, bytes_app, t3, sizedB_bytes, bytes_str (bigL_ok _ _), bytes_str (Oct.byte _)]; rfl) (by rw [List.nil_append]; omega)) (ev_bind _ (by rw [List.nil_append]; exact k1) (ev_bind _ (ibig1_ev _) ?_))
  refine ev_bind _ (ev_of fun k => write_eq k (s := objH o ++ o.f2.flatMap needL) (bytes_str (Oct.byte (o.f3.length : Int))) (by simp only [List.length_append, List.length_singleton]; omega)) (ev_bind _ k2 (ev_bind _ (ibig1_ev _) ?_))
  refine ev_bind _ (ev_of fun k => write_eq k (s := objH o ++ o.f2.flatMap needL ++ [u8 (o.f3.length : Int)] ++ o.f3.flatMap globL) (bytes_str (Oct.byte (o.f4.length : Int))) (by simp only [List.length_append, List.length_singleton]; omega)) (ev_bind _ k3 (ev_bind _ (str_ev (objL_ok o)) ev_some))
/-- The bytes, where they are bytes. -/
def bytesO (o : SObj) : List Int × Int := if objB o = true then (if 65536 < (objL o).length then ([], 15) else (objL o, 0)) else ([], 1)
theorem bytesO_len (o : SObj) : (bytesO o).1.length ≤ 65536 := by
  unfold bytesO
  split
  · split
    · simp
    · show (objL o).length ≤ _; omega
  · simp
theorem bytesO_ev (o : SObj) (h : SmallO o) : Evr (fun k => spec_ObjectBytes.f k o) (bytesO o) ∧ Evr (fun k => impl_ObjectBytes.f k o) (bytesO o) := by
  unfold spec_ObjectBytes.f impl_ObjectBytes.f bytesO
  have a := sobj_ev o h
  have b := iobj_ev o h
  by_cases hB : objB o = true
  · have hf := fitO hB
    rw [if_pos hB]
    constructor
    · refine ev_bind _ a (ev_pos hB (ev_bind _ (sbytes_ev o hf) ?_))
      by_cases hl : 65536 < (objL o).length
      · rw [if_pos hl]; exact ev_pos (by omega) ev_some
      · rw [if_neg hl]; exact ev_neg (by omega) ev_some
    · refine ev_bind _ b (ev_pos hB (ev_bind _ (ibytes_ev o hf) (ev_bind _ (ev_of fun k => rfl) ?_)))
      rw [str_size]
      by_cases hl : 65536 < (objL o).length
      · rw [if_pos hl]; exact ev_neg (by simp only [decide_eq_true_eq]; omega) ev_some
      · rw [if_neg hl]
        refine ev_pos (by simp only [decide_eq_true_eq]; omega) (ev_pos (by omega) (ev_const ?_))
        rw [bytes_str (objL_ok o)]
  · rw [if_neg hB]
    exact ⟨ev_bind _ a (ev_neg hB ev_some), ev_bind _ b (ev_neg hB ev_some)⟩
end Go.Proofs.YtoclajfeeebbbacGreatDoor.V
