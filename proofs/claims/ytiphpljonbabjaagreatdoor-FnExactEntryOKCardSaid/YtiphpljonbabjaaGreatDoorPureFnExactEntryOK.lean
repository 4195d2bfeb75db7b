/- The law of EntryOK, in plain Lean: both answer alike. -/
import Derived.Test.YtiphpljonbabjaaGreatDoorPlXFnExactEntryOK
import Derived.Test.YtiphpljonbabjaaGreatDoorPlMFnExactEntryOK
set_option linter.unusedVariables false
set_option linter.unusedSimpArgs false
namespace Go.Proofs.YtiphpljonbabjaaGreatDoor.V
open Go.RowKit Go.Proofs.YtiphpljonbabjaaGreatDoor.E
def entL (e : SEntry) : List Int := bytesOf e.f0 ++ [32] ++ bigL (e.f1.size : Int) 8 ++ bytesOf e.f1 ++ bigL (e.f2.size : Int) 8 ++ bytesOf e.f2 ++ bytesOf e.f3
structure SmallE (e : SEntry) : Prop where
  f0 : e.f0.size ≤ 1048576
  f1 : e.f1.size ≤ 1048576
  f2 : e.f2.size ≤ 1048576
  f3 : e.f3.size ≤ 1048576
theorem entL_len {e : SEntry} (h : SmallE e) : (entL e).length ≤ 10000000 := by
  have := h.f0; have := h.f1; have := h.f2; have := h.f3
  unfold entL
  simp only [List.length_append, bytesOf_length, bigL_len, List.length_cons, List.length_nil]
  omega
theorem ssum_ev {e : SEntry} (h : SmallE e) : Evr (fun k => spec_l07Sum.f k e) (sumM (entL e)) := by
  have hl := entL_len h
  have h0 := h.f0; have h1 := h.f1; have h2 := h.f2; have h3 := h.f3
  have z1 : (⟨#[32]⟩ : ByteArray).size = 1 := rfl
  have b1 : bytesOf (e.f0 ++ ⟨#[32]⟩) = bytesOf e.f0 ++ [32] := by rw [bytes_app]; rfl
  unfold spec_l07Sum.f
  rw [b1]
  refine ev_pos (by omega) (ev_pos (by rw [ByteArray.size_append]; omega) (ev_bind _ (seight_ev _) (ev_pos ?_ (ev_pos ?_ (ev_bind _ (seight_ev _) (ev_pos ?_ (ev_pos ?_ (ev_pos ?_ (ev_bind (sumM (entL e)) ?_ ev_some)))))))))
  · simp only [List.length_append, bytesOf_length, bigL_len, List.length_cons, List.length_nil]; omega
  · simp only [List.length_append, bytesOf_length, bigL_len, List.length_cons, List.length_nil]; omega
  · simp only [List.length_append, bytesOf_length, bigL_len, List.length_cons, List.length_nil]; omega
  · simp only [List.length_append, bytesOf_length, bigL_len, List.length_cons, List.length_nil]; omega
  · simp only [List.length_append, bytesOf_length, bigL_len, List.length_cons, List.length_nil]; omega
  · unfold spec_l03Sum.f spec_l03Sum.e2
    exact ev_bind _ (sum_loop (L := fun k z i => spec_l03Sum.l1 k (entL e) z i) (entL e) hl (fun k z i => rfl) _ 0 _ (Nat.zero_add _)) ev_some
theorem iprint_ev {a : ByteArray} {l : List Int} (e : bytesOf a = l) (hl : l.length ≤ 10000000) : Evr (fun k => impl_printOf.f k a) (sumM l) := by
  unfold impl_printOf.f impl_printOf.e2
  refine ev_bind _ (sum_loop (L := fun k z i => impl_printOf.l1 k a z i) l hl (fun k z i => ?_) _ 0 _ (Nat.zero_add _)) ev_some
  show impl_printOf.l1 (k + 1) a z i = _
  rw [impl_printOf.l1, e]
theorem isum_ev {e : SEntry} (h : SmallE e) : Evr (fun k => impl_Entry__sum.f k e) (sumM (entL e)) := by
  have hl := entL_len h
  have h0 := h.f0; have h1 := h.f1; have h2 := h.f2; have h3 := h.f3
  have z1 : (⟨#[32]⟩ : ByteArray).size = 1 := rfl
  have z8 : ∀ v : Int, (strOfNums (bigL v 8)).size = 8 := fun v => by rw [size_bytes, bytes_str (bigL_ok _ _), bigL_len]
  have eb : bytesOf ((((((e.f0 ++ ⟨#[32]⟩) ++ strOfNums (bigL (e.f1.size : Int) 8)) ++ e.f1) ++ strOfNums (bigL (e.f2.size : Int) 8)) ++ e.f2) ++ e.f3) = entL e := by
    simp only [bytes_app, bytes_str (bigL_ok _ _)]
    rfl
  unfold impl_Entry__sum.f
  refine ev_pos (by omega) (ev_bind _ (ibig8_ev _) (ev_pos ?_ (ev_pos ?_ (ev_bind _ (ibig8_ev _) (ev_pos ?_ (ev_pos ?_ (ev_pos ?_ (ev_bind (sumM (entL e)) ?_ ev_some))))))))
  · simp only [ByteArray.size_append, z1, z8]; omega
  · simp only [ByteArray.size_append, z1, z8]; omega
  · simp only [ByteArray.size_append, z1, z8]; omega
  · simp only [ByteArray.size_append, z1, z8]; omega
  · simp only [ByteArray.size_append, z1, z8]; omega
  · exact iprint_ev eb hl
/-! The answers. -/
def headE (e : SEntry) : Bool := decide (e.f3.size ≤ 65536) && (decide (e.f1.size ≤ 4000) && (decide (e.f2.size ≤ 65536) && decide (e.f4 = sumM (entL e))))
def restE (e : SEntry) : Bool := match objD (bytesOf e.f3) with
  | some (o, []) => objB o && decide (o.f0 = e.f0)
  | _ => false
theorem both_ev (e : SEntry) (h : SmallE e) : Evr (fun k => spec_EntryOK.f k e) (headE e && restE e) ∧ Evr (fun k => impl_EntryOK.f k e) (headE e && restE e) := by
  have hs := ssum_ev h
  have hi := isum_ev h
  have sh : Evr (fun k => spec_EntryOK.e1 k e) (!headE e) := by
    unfold spec_EntryOK.e1 headE
    by_cases c1 : e.f3.size ≤ 65536
    · refine ev_neg (by omega) ?_
      by_cases c2 : e.f1.size ≤ 4000
      · refine ev_neg (by omega) ?_
        by_cases c3 : e.f2.size ≤ 65536
        · refine ev_neg (by omega) (ev_bind _ hs ?_)
          rw [decide_eq_true c1, decide_eq_true c2, decide_eq_true c3]
          exact ev_some
        · rw [decide_eq_true c1, decide_eq_true c2, decide_eq_false c3]
          exact ev_pos (by omega) ev_some
      · rw [decide_eq_true c1, decide_eq_false c2]
        exact ev_pos (by omega) ev_some
    · rw [decide_eq_false c1]
      exact ev_pos (by omega) ev_some
  have ih : Evr (fun k => impl_EntryOK.e1 k e) (!headE e) := by
    unfold impl_EntryOK.e1 headE impl_isShort_string.f
    refine ev_bind _ hi ?_
    by_cases c4 : e.f4 = sumM (entL e)
    · refine ev_pos c4 ?_
      rw [decide_eq_true c4]
      by_cases c1 : e.f3.size ≤ 65536
      · refine ev_bind true (ev_const (by rw [decide_eq_true (by omega)])) (ev_pos rfl ?_)
        rw [decide_eq_true c1]
        by_cases c3 : e.f2.size ≤ 65536
        · refine ev_bind true (ev_const (by rw [decide_eq_true (by omega)])) (ev_pos rfl ?_)
          rw [decide_eq_true c3]
          by_cases c2 : e.f1.size ≤ 4000
          · rw [decide_eq_true c2, decide_eq_false (by omega)]
            exact ev_some
          · rw [decide_eq_false c2, decide_eq_true (by omega)]
            exact ev_some
        · refine ev_bind false (ev_const (by rw [decide_eq_false (by omega)])) (ev_neg (by simp) ?_)
          rw [decide_eq_false c3]
          simp only [Bool.false_and, Bool.and_false, Bool.not_false]
          exact ev_some
      · refine ev_bind false (ev_const (by rw [decide_eq_false (by omega)])) (ev_neg (by simp) ?_)
        rw [decide_eq_false c1]
        exact ev_some
    · refine ev_neg c4 ?_
      rw [decide_eq_false c4]
      simp only [Bool.and_false, Bool.not_false]
      exact ev_some
  have h3 := h.f3
  constructor
  · unfold spec_EntryOK.f
    refine ev_bind _ sh ?_
    cases hh : headE e with
    | false => exact ev_pos rfl ev_some
    | true =>
      refine ev_neg (by simp) ?_
      have hb : Byt (bytesOf e.f3) := ⟨oct_bytes _, by
        unfold headE at hh
        simp only [Bool.and_eq_true, decide_eq_true_eq] at hh
        rw [bytesOf_length]; omega⟩
      obtain ⟨x, z, ex, gx⟩ := sobj_rd hb
      refine ev_bind _ ex (ev_bind (restE e) (ev_of fun k => ?_) ev_some)
      unfold spec_EntryOK.e2 restE
      cases hd : objD (bytesOf e.f3) with
      | none => rfl
      | some p =>
        obtain ⟨o, s⟩ := p
        cases s with
        | cons y s => rfl
        | nil =>
          have := gx (by rw [hd]; rfl) o [] (by rw [Option.bind_some, hd])
          subst this
          simp only [Option.map_some, decide_true, Bool.true_and]
          cases objB x <;> rfl
  · unfold impl_EntryOK.f
    refine ev_bind _ ih ?_
    cases hh : headE e with
    | false => exact ev_pos rfl ev_some
    | true =>
      refine ev_neg (by simp) ?_
      have ht : e.f3.size ≤ 1000000 := by
        unfold headE at hh
        simp only [Bool.and_eq_true, decide_eq_true_eq] at hh
        omega
      obtain ⟨x, z, ex, gx⟩ := iobj_rd e.f3 ht
      refine ev_bind _ ex (ev_bind (restE e) (ev_of fun k => ?_) ev_some)
      unfold impl_EntryOK.e2 restE
      cases hd : objD (bytesOf e.f3) with
      | none => rfl
      | some p =>
        obtain ⟨o, s⟩ := p
        cases s with
        | cons y s => rfl
        | nil =>
          have := gx o [] (by rw [Option.bind_some, hd])
          subst this
          simp only [Option.map_some, decide_true, Bool.true_and]
          cases objB x <;> rfl
end Go.Proofs.YtiphpljonbabjaaGreatDoor.V
namespace Go.Proofs.YtiphpljonbabjaaGreatDoor.E
open Go.RowKit Go.Proofs.YtiphpljonbabjaaGreatDoor.V
theorem szEntry_ev (e : SEntry) (g : gSEntry e) : ∃ t, (∀ k, laws_szEntry.f k e 1048576 = some t) ∧ (t < 0 ∨ SmallE e) := by
  have hm : maxLen = 9223372036854775807 := rfl
  obtain ⟨g0, g1, g2, g3, _⟩ := g
  unfold laws_szEntry.f
  have w0 : w64 (1048576 - (e.f0.size : Int)) = 1048576 - (e.f0.size : Int) := w64_id (by omega) (by omega)
  simp only [w0]
  by_cases n0 : 1048576 - (e.f0.size : Int) < 0
  · exact ⟨-1, fun k => if_pos n0, .inl (by decide)⟩
  simp only [if_neg n0]
  have w1 : w64 (1048576 - (e.f0.size : Int) - (e.f1.size : Int)) = 1048576 - (e.f0.size : Int) - (e.f1.size : Int) := w64_id (by omega) (by omega)
  simp only [w1]
  by_cases n1 : 1048576 - (e.f0.size : Int) - (e.f1.size : Int) < 0
  · exact ⟨-1, fun k => if_pos n1, .inl (by decide)⟩
  simp only [if_neg n1]
  have w2 : w64 (1048576 - (e.f0.size : Int) - (e.f1.size : Int) - (e.f2.size : Int)) = 1048576 - (e.f0.size : Int) - (e.f1.size : Int) - (e.f2.size : Int) := w64_id (by omega) (by omega)
  simp only [w2]
  by_cases n2 : 1048576 - (e.f0.size : Int) - (e.f1.size : Int) - (e.f2.size : Int) < 0
  · exact ⟨-1, fun k => if_pos n2, .inl (by decide)⟩
  simp only [if_neg n2]
  have w3 : w64 (1048576 - (e.f0.size : Int) - (e.f1.size : Int) - (e.f2.size : Int) - (e.f3.size : Int)) = 1048576 - (e.f0.size : Int) - (e.f1.size : Int) - (e.f2.size : Int) - (e.f3.size : Int) := w64_id (by omega) (by omega)
  simp only [w3]
  by_cases n3 : 1048576 - (e.f0.size : Int) - (e.f1.size : Int) - (e.f2.size : Int) - (e.f3.size : Int) < 0
  · exact ⟨-1, fun k => if_pos n3, .inl (by decide)⟩
  simp only [if_neg n3]
  exact ⟨_, fun k => rfl, .inr ⟨by omega, by omega, by omega, by omega⟩⟩
theorem pureFnExactEntryOK (x0 : SEntry) (h0 : gSEntry x0) : ∃ k, laws_FnExactEntryOK.f k x0 = some true := by
  refine Evr.rounds (g := fun k => laws_FnExactEntryOK.f k x0) ?_
  obtain ⟨t, ht, hb⟩ := szEntry_ev x0 h0
  unfold laws_FnExactEntryOK.f
  refine ev_bind _ (ev_of ht) (ev_ite (fun _ => ev_some) (fun hneg => ?_))
  have hs : SmallE x0 := by
    rcases hb with h | h
    · exact absurd h hneg
    · exact h
  obtain ⟨a, b⟩ := both_ev x0 hs
  obtain ⟨z, hc⟩ : ∃ z, ∀ k, laws_toEntry.f k x0 = some (x0, z) := ⟨_, fun k => rfl⟩
  refine ev_bind _ (ev_of hc) (ev_bind _ a (ev_bind _ (ev_of hc) (ev_bind _ b (ev_bind (.inr ()) (ev_of fun k => ?_) ev_some))))
  unfold laws_FnExactEntryOK.e1
  cases headE x0 && restE x0 <;> rfl
end Go.Proofs.YtiphpljonbabjaaGreatDoor.E
