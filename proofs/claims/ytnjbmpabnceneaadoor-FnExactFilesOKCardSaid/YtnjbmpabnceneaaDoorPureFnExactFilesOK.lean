/- The program's FilesOK returns what the reference's returns, and leaves its argument alone. For every list of files (more than 2 to the 20 bytes in all: the statement answers true at once). -/
import Derived.Test.YtnjbmpabnceneaaDoorKeyFnExactFilesOK
import Derived.Test.YtnjbmpabnceneaaDoorNameFnExactFilesOK
set_option linter.unusedVariables false
set_option linter.unusedSimpArgs false
namespace Go.Proofs.YtnjbmpabnceneaaDoor.Pure
open Go.RowKit Go.Proofs.YtnjbmpabnceneaaDoor.PFnExactFilesOK Go.Proofs.YtnjbmpabnceneaaDoor.KyFnExactFilesOK Go.Proofs.YtnjbmpabnceneaaDoor.NmFnExactFilesOK Go.Proofs.YtnjbmpabnceneaaDoorW.PrintWords Go.Proofs.YtnjbmpabnceneaaDoorW.PrintLast Go.Proofs.YtnjbmpabnceneaaDoorW.Loops

abbrev LF := S50
abbrev MF := S51
def cvFile (x : LF) : MF := ⟨x.f0, x.f1⟩
def wtFile (x : LF) : Nat := x.f0.size + x.f1.size

theorem szFiles_ev (l : List LF) (hl : l.length ≤ maxLen) (hg : ∀ y, y ∈ l → Good50 y) : ∃ t, Ev (fun k => laws_szFileS.f k l 1048576) t ∧ (t < 0 ∨ l.length + (l.map wtFile).sum ≤ 1048576) := by
  have hm : (maxLen : Nat) = 9223372036854775807 := rfl
  have e1 : wrap64 (1048576 - (l.length : Int)) = 1048576 - l.length := by unfold wrap64; omega
  unfold laws_szFileS.f
  rw [e1]
  by_cases c : (1048576 : Int) - l.length < 0
  · exact ⟨-1, ev_if_pos c ev_some, .inl (by omega)⟩
  · obtain ⟨t, ht, hw⟩ := left_loop l z50 wtFile 1048576 (fun _ y left => laws_szFile.f y.f0 y.f1 left) (fun k left i => laws_szFileS.l0 k l left i)
      (fun k left i => by simp only [laws_szFileS.l0]; rfl) (fun y hy left h0 hB => by
        obtain ⟨g0, g1⟩ := hg y hy
        have e2 : wrap64 (left - (y.f0.size : Int)) = left - y.f0.size := by unfold wrap64; omega
        unfold laws_szFile.f
        rw [e2]
        by_cases c1 : left - (y.f0.size : Int) < 0
        · exact ⟨-1, ev_if_pos c1 ev_some, .inl (by omega)⟩
        · have e3 : wrap64 (left - (y.f0.size : Int) - (y.f1.size : Int)) = left - y.f0.size - y.f1.size := by unfold wrap64; omega
          rw [e3]
          by_cases c2 : left - (y.f0.size : Int) - (y.f1.size : Int) < 0
          · exact ⟨-1, ev_if_neg c1 (ev_if_pos c2 ev_some), .inl (by omega)⟩
          · exact ⟨_, ev_if_neg c1 (ev_if_neg c2 ev_some), .inr ⟨by omega, by unfold wtFile; omega⟩⟩) (by omega) (1048576 - l.length) (by omega) (by omega)
    refine ⟨t, ev_if_neg c ht, ?_⟩
    rcases hw with h | ⟨h, h'⟩
    · exact .inl h
    · exact .inr (by omega)

theorem toFiles_ev (l : List LF) (h : l.length ≤ 1048576) : Ev (fun k => laws_toFileS.f k l) (l.map cvFile) := by
  unfold laws_toFileS.f
  refine ev_if_pos (by omega) (ev_if_pos (by omega) ?_)
  have e : ((l.length : Int) : Int).toNat = l.length := by omega
  rw [e]
  refine map_loop l z50 cvFile _ (fun _ x => some (cvFile x)) (fun k acc i => laws_toFileS.l0 k l acc i) ?_ (fun x _ => ev_some) (by omega)
  intro k acc i
  simp only [laws_toFileS.l0, laws_toFile.f, Option.bind_some]
  rfl

theorem eqFiles_ev (l : List MF) (h : l.length ≤ 1048576) : Ev (fun k => laws_eqFileS.f k l l) true := by
  unfold laws_eqFileS.f
  refine ev_if_pos rfl ?_
  refine same_loop l z51 (fun _ x y => laws_eqFile.f x.f0 x.f1 y.f0 y.f1) (fun k i => laws_eqFileS.l0 k l l i) ?_ (fun x _ => ev_const (by simp [laws_eqFile.f])) (by omega)
  intro k i
  simp only [laws_eqFileS.l0]
  rfl

/-- A name that is no word. -/
def isNameB (a : ByteArray) : Bool := nameB a && !keyB a
theorem specIsName_ev (a : ByteArray) : Ev (fun k => spec_l02Name.f k a) (isNameB a) := by
  unfold spec_l02Name.f isNameB
  refine ev_bind _ (specName_ev a) ?_
  cases nameB a with
  | true => exact ev_if_pos rfl (ev_bind _ (specKey_ev a) (by simpa using ev_some))
  | false => exact ev_if_neg (by simp) (by simpa using ev_some)
theorem implIsName_ev (a : ByteArray) (hn : a.size ≤ 9223372036854775806) : Ev (fun k => impl_isName.f k a) (isNameB a) := by
  unfold impl_isName.f isNameB
  refine ev_bind _ (implName_ev a hn) ?_
  cases nameB a with
  | true => exact ev_if_pos rfl (ev_bind _ (implKey_ev a) (by simpa using ev_some))
  | false => exact ev_if_neg (by simp) (by simpa using ev_some)

/-- Is the file at this place fit? -/
def fitAt (l : List MF) (i : Nat) : Bool := isNameB (rd_T51 l i).f0 && (decide ((rd_T51 l i).f1.size ≤ 4000) && (decide (i = 0) || Op.bytesLess (rd_T51 l (i - 1 : Nat)).f0.toList (rd_T51 l i).f0.toList))

theorem specFiles_ev (l : List MF) (h : l.length ≤ 1048576) : Ev (fun k => spec_FilesOK.f k l) (decide (l.length ≤ 10) && (List.range l.length).all (fitAt l)) := by
  unfold spec_FilesOK.f
  by_cases h10 : l.length ≤ 10
  · refine ev_if_neg (by omega) (ev_eq (scan_loop l.length (fitAt l) (fun k i => spec_FilesOK.l0 k l i) true false (fun i hi hb r hr => ?_) (fun i hi hb => ?_) ?_) (by cases (List.range l.length).all (fitAt l) <;> simp [h10]))
    · unfold fitAt at hb
      simp only [Bool.and_eq_true, Bool.or_eq_true, decide_eq_true_eq] at hb
      obtain ⟨hb1, hb2, hb3⟩ := hb
      refine ev_step _ (fun k => spec_FilesOK.l0.eq_2 _ _ k) (ev_if_pos (by omega) (ev_if_pos (by omega) (ev_bind _ (specIsName_ev _) ?_)))
      refine ev_if_pos hb1 (ev_if_neg (by omega) ?_)
      by_cases h0 : i = 0
      · refine ev_if_neg (by omega) ?_
        rw [wrap_next hi (by omega)]
        exact hr
      · refine ev_if_pos (by omega) ?_
        rw [wrap_prev (by omega) (by omega)]
        refine ev_if_pos (by omega) (ev_if_pos (by omega) (ev_if_pos (hb3.resolve_left h0) ?_))
        rw [wrap_next hi (by omega)]
        exact hr
    · refine ev_step _ (fun k => spec_FilesOK.l0.eq_2 _ _ k) (ev_if_pos (by omega) (ev_if_pos (by omega) (ev_bind _ (specIsName_ev _) ?_)))
      unfold fitAt at hb
      cases hb1 : isNameB (rd_T51 l i).f0 with
      | false => exact ev_if_neg (by simp) ev_some
      | true =>
        refine ev_if_pos rfl ?_
        rw [hb1] at hb
        by_cases hb2 : (rd_T51 l i).f1.size ≤ 4000
        · refine ev_if_neg (by omega) ?_
          by_cases h0 : i = 0
          · rw [decide_eq_true hb2, decide_eq_true h0] at hb
            simp at hb
          · refine ev_if_pos (by omega) ?_
            rw [wrap_prev (by omega) (by omega)]
            refine ev_if_pos (by omega) (ev_if_pos (by omega) (ev_if_neg ?_ ev_some))
            simpa [hb2, h0] using hb
        · exact ev_if_pos (by omega) ev_some
    · exact ev_step _ (fun k => spec_FilesOK.l0.eq_2 _ _ k) (ev_if_neg (by omega) ev_some)
  · exact ev_if_pos (by omega) (by simpa [h10] using ev_some)

theorem implFiles_ev (l : List MF) (h : l.length ≤ 1048576) (hs : ∀ i : Nat, i < l.length → (rd_T51 l i).f0.size ≤ 1048576) : Ev (fun k => impl_FilesOK.f k l) (decide (l.length ≤ 10) && (List.range l.length).all (fitAt l)) := by
  unfold impl_FilesOK.f
  refine ev_eq (scan_loop l.length (fitAt l) (fun k i => impl_FilesOK.l0 k l l (l.length : Int) i) (decide (l.length ≤ 10)) false (fun i hi hb r hr => ?_) (fun i hi hb => ?_) ?_) (by cases (List.range l.length).all (fitAt l) <;> simp)
  · unfold fitAt at hb
    simp only [Bool.and_eq_true, Bool.or_eq_true, decide_eq_true_eq] at hb
    obtain ⟨hb1, hb2, hb3⟩ := hb
    refine ev_step _ (fun k => impl_FilesOK.l0.eq_2 _ _ _ _ k) (ev_if_pos (by omega) (ev_if_pos (by omega) (ev_if_pos (by omega) (ev_bind _ (implIsName_ev _ (by have := hs i hi; omega)) ?_))))
    refine ev_if_pos hb1 (ev_if_neg (by omega) ?_)
    by_cases h0 : i = 0
    · refine ev_if_neg (by omega) ?_
      rw [wrap_next hi (by omega)]
      exact hr
    · refine ev_if_pos (by omega) ?_
      rw [wrap_prev (by omega) (by omega)]
      refine ev_if_pos (by omega) (ev_if_pos (by omega) (ev_if_pos (hb3.resolve_left h0) ?_))
      rw [wrap_next hi (by omega)]
      exact hr
  · refine ev_step _ (fun k => impl_FilesOK.l0.eq_2 _ _ _ _ k) (ev_if_pos (by omega) (ev_if_pos (by omega) (ev_if_pos (by omega) (ev_bind _ (implIsName_ev _ (by have := hs i hi; omega)) ?_))))
    unfold fitAt at hb
    cases hb1 : isNameB (rd_T51 l i).f0 with
    | false => exact ev_if_neg (by simp) ev_some
    | true =>
      refine ev_if_pos rfl ?_
      rw [hb1] at hb
      by_cases hb2 : (rd_T51 l i).f1.size ≤ 4000
      · refine ev_if_neg (by omega) ?_
        by_cases h0 : i = 0
        · rw [decide_eq_true hb2, decide_eq_true h0] at hb
          simp at hb
        · refine ev_if_pos (by omega) ?_
          rw [wrap_prev (by omega) (by omega)]
          refine ev_if_pos (by omega) (ev_if_pos (by omega) (ev_if_neg ?_ ev_some))
          simpa [hb2, h0] using hb
      · exact ev_if_pos (by omega) ev_some
  · refine ev_step _ (fun k => impl_FilesOK.l0.eq_2 _ _ _ _ k) (ev_if_neg (by omega) ?_)
    have e : decide ((l.length : Int) ≤ 10) = decide (l.length ≤ 10) := by
      by_cases h10 : l.length ≤ 10
      · simp [h10]; omega
      · simp [h10]; omega
    rw [e]
    exact ev_some

theorem FnExactFilesOK : laws_FnExactFilesOK.Pure := by
  intro l good
  obtain ⟨hl, hg⟩ := good
  refine Ev.rounds (g := fun k => laws_FnExactFilesOK.f k l) ?_
  unfold laws_FnExactFilesOK.f
  obtain ⟨t, ht, hw⟩ := szFiles_ev l hl hg
  refine ev_bind t ht ?_
  by_cases c : t < 0
  · exact ev_if_pos c ev_some
  · have hw := hw.resolve_left c
    have h1 : l.length ≤ 1048576 := by omega
    have h2 : (l.map cvFile).length ≤ 1048576 := by simpa using h1
    refine ev_if_neg c (ev_bind _ (toFiles_ev l h1) (ev_bind _ (specFiles_ev _ h2) (ev_bind _ (toFiles_ev l h1) (ev_bind _ (implFiles_ev _ h2 ?_) ?_))))
    · intro i hi
      have hi' : i < l.length := by simpa using hi
      have e : rd_T51 (l.map cvFile) i = cvFile l[i] := by
        unfold rd_T51
        rw [getD_at _ _ i hi]
        simp
      rw [e]
      have h3 := le_sum_of wtFile (List.getElem_mem hi')
      show l[i].f0.size ≤ _
      have h4 : l[i].f0.size ≤ wtFile l[i] := by unfold wtFile; omega
      omega
    · refine ev_if_neg (by simp) (ev_bind _ (toFiles_ev l h1) (ev_bind _ (eqFiles_ev _ h2) ?_))
      simpa using ev_some

end Go.Proofs.YtnjbmpabnceneaaDoor.Pure
