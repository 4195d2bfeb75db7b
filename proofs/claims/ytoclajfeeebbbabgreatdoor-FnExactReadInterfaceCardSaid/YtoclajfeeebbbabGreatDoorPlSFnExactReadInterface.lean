/- Reading an interface: the program's answer, as a decoder's. -/
import Derived.Test.YtoclajfeeebbbabGreatDoorPlIFnExactReadInterface
import Derived.Test.YtoclajfeeebbbabGreatDoorPlRFnExactReadInterface
set_option linter.unusedVariables false
set_option linter.unusedSimpArgs false
namespace Go.Proofs.YtoclajfeeebbbabGreatDoor.V
open Go.RowKit Go.Proofs.YtoclajfeeebbbabGreatDoor.E
def flagP (v : Int) : SParam := ⟨iandn .i64 v 8, !(decide (iand .i64 v 8 = 0))⟩
def paramD : D SParam := D.bind (numD 1) fun v => D.pure (flagP v)
def itemD : D SItem := D.bind (numD 1) fun a => D.bind (numD 1) fun b => D.bind (numD 1) fun c => D.bind (numD 8) fun e => D.bind textD fun n => D.bind (numD 1) fun m => D.bind (D.many paramD m.toNat) fun ps => D.pure ⟨a, b, c, e, n, ps⟩
def faceD : D SFace := D.bind (headD [79, 73, 49]) fun _ => D.bind textD fun n => D.bind (numD 1) fun m => D.bind (D.many itemD m.toNat) fun l => D.pure ⟨n, l⟩
theorem many_succ {α : Type} (d : D α) (n : Nat) : D.many d (n + 1) = D.bind d fun x => D.bind (D.many d n) fun l => D.pure (x :: l) := rfl
theorem got_snoc {α : Type} {o : Option (List Int)} {d : D α} {x : α} {n : Nat} {l : List α} (h : Got o d x) (k : Got (nxt o d) (D.many d n) l) : Got o (D.many d (n + 1)) (x :: l) := by
  rw [many_succ]
  exact got_bind h (got_bind k (got_pure _ _))
theorem nxt_snoc {α : Type} {o : Option (List Int)} {d : D α} {x : α} {n : Nat} {l : List α} (h : Got o d x) (k : Got (nxt o d) (D.many d n) l) : nxt o (D.many d (n + 1)) = nxt (nxt o d) (D.many d n) := by
  rw [many_succ, nxt_bind h, nxt_bind k, nxt_pure]
theorem iparams_rd {t : ByteArray} (ht : t.size ≤ 1000000) {r : Int × Int × Bool} (hr : 0 ≤ r.1 ∧ r.1 < 256) : ∀ (m i : Nat) (at_ : Int) (bad : Bool) (o : Option (List Int)) (acc : List SParam), i + m = r.1.toNat → Rel t at_ bad o → acc.length ≤ i →
    ∃ at2 bad2 l, Evr (fun k => impl_readInterface.l1 k t r (i : Int) at_ bad acc) (at2, bad2, acc ++ l) ∧ l.length = m ∧ Rel t at2 bad2 (nxt o (D.many paramD m)) ∧ Got o (D.many paramD m) l
  | 0, i, at_, bad, o, acc, hm, h, ha => by
    refine ⟨at_, bad, [], ?_, rfl, ?_, got_pure _ _⟩
    · rw [List.append_nil]
      exact ev_step _ (fun k => rfl) (ev_neg (by omega) ev_some)
    · show Rel t at_ bad (nxt o (D.pure []))
      rw [nxt_pure]
      exact h
  | m + 1, i, at_, bad, o, acc, hm, h, ha => by
    obtain ⟨v, at1, bad1, e1, r1, g1, _⟩ := inum1_ev h ht
    have g2 : Got o paramD (flagP v) := got_bind g1 (got_pure _ _)
    have n2 : nxt o paramD = nxt o (numD 1) := by unfold paramD; rw [nxt_bind g1, nxt_pure]
    have r1' : Rel t at1 bad1 (nxt o paramD) := by rw [n2]; exact r1
    obtain ⟨at2, bad2, l, e3, hl, r3, g3⟩ := iparams_rd ht hr m (i + 1) at1 bad1 (nxt o paramD) (acc ++ [flagP v]) (by omega) r1' (by simp; omega)
    refine ⟨at2, bad2, flagP v :: l, ?_, by simp [hl], ?_, got_snoc g2 g3⟩
    · refine ev_step _ (fun k => rfl) (ev_pos (by omega) (ev_bind _ e1 (ev_pos (by simp; omega) ?_)))
      rw [w64_next (by omega)]
      rw [List.append_assoc] at e3
      exact e3
    · rw [nxt_snoc g2 g3]
      exact r3
def okI (x : SItem) : Prop := x.f4.size ≤ 255 ∧ x.f5.length ≤ 255
theorem iitem_rd {t : ByteArray} (ht : t.size ≤ 1000000) {at_ : Int} {bad : Bool} {o : Option (List Int)} (h : Rel t at_ bad o) (acc : List SItem) (ha : acc.length ≤ 1000) :
    ∃ at2 bad2 x, Evr (fun k => impl_readInterface.e3 k t at_ bad acc) (at2, bad2, acc ++ [x]) ∧ okI x ∧ Rel t at2 bad2 (nxt o itemD) ∧ Got o itemD x := by
  obtain ⟨a, at1, bad1, e1, r1, g1, _⟩ := inum1_ev h ht
  obtain ⟨b, at2, bad2, e2, r2, g2, _⟩ := inum1_ev r1 ht
  obtain ⟨c, at3, bad3, e3, r3, g3, _⟩ := inum1_ev r2 ht
  obtain ⟨e, at4, bad4, e4, r4, g4⟩ := inum8_ev r3 ht
  obtain ⟨n, at5, bad5, e5, r5, g5, hn⟩ := itext_ev r4 ht
  obtain ⟨m, at6, bad6, e6, r6, g6, hm⟩ := inum1_ev r5 ht
  obtain ⟨at7, bad7, ps, e7, hl, r7, g7⟩ := iparams_rd ht (r := (m, at6, bad6)) hm m.toNat 0 at6 bad6 _ [] (by simp) r6 (Nat.le_refl _)
  refine ⟨at7, bad7, ⟨a, b, c, e, n, ps⟩, ?_, ⟨hn, by show ps.length ≤ 255; omega⟩, ?_, ?_⟩
  · unfold impl_readInterface.e3 impl_readInterface.e2
    refine ev_bind _ e1 (ev_bind _ e2 (ev_bind _ e3 (ev_bind _ e4 (ev_bind _ e5 (ev_bind _ (ev_bind _ e6 e7) ?_)))))
    exact ev_pos (by simp; omega) ev_some
  · unfold itemD
    rw [nxt_bind g1, nxt_bind g2, nxt_bind g3, nxt_bind g4, nxt_bind g5, nxt_bind g6, nxt_bind g7, nxt_pure]
    exact r7
  · exact got_bind g1 (got_bind g2 (got_bind g3 (got_bind g4 (got_bind g5 (got_bind g6 (got_bind g7 (got_pure _ _)))))))
theorem iitems_rd {t : ByteArray} (ht : t.size ≤ 1000000) {r : Int × Int × Bool} (hr : 0 ≤ r.1 ∧ r.1 < 256) : ∀ (m i : Nat) (at_ : Int) (bad : Bool) (o : Option (List Int)) (acc : List SItem), i + m = r.1.toNat → Rel t at_ bad o → acc.length ≤ i →
    ∃ at2 bad2 l, Evr (fun k => impl_readInterface.l4 k t r (i : Int) at_ bad acc) (at2, bad2, acc ++ l) ∧ l.length = m ∧ (∀ x ∈ l, okI x) ∧ Rel t at2 bad2 (nxt o (D.many itemD m)) ∧ Got o (D.many itemD m) l
  | 0, i, at_, bad, o, acc, hm, h, ha => by
    refine ⟨at_, bad, [], ?_, rfl, fun x hx => (by cases hx), ?_, got_pure _ _⟩
    · rw [List.append_nil]
      exact ev_step _ (fun k => rfl) (ev_neg (by omega) ev_some)
    · show Rel t at_ bad (nxt o (D.pure []))
      rw [nxt_pure]
      exact h
  | m + 1, i, at_, bad, o, acc, hm, h, ha => by
    obtain ⟨at1, bad1, x, e1, ok1, r1, g1⟩ := iitem_rd ht h acc (by omega)
    obtain ⟨at2, bad2, l, e3, hl, ok3, r3, g3⟩ := iitems_rd ht hr m (i + 1) at1 bad1 (nxt o itemD) (acc ++ [x]) (by omega) r1 (by simp; omega)
    refine ⟨at2, bad2, x :: l, ?_, by simp [hl], fun y hy => ?_, ?_, got_snoc g1 g3⟩
    · refine ev_step _ (fun k => rfl) (ev_pos (by omega) (ev_bind _ e1 ?_))
      rw [w64_next (by omega)]
      rw [List.append_assoc] at e3
      exact e3
    · rcases List.mem_cons.1 hy with rfl | hy
      · exact ok1
      · exact ok3 y hy
    · rw [nxt_snoc g1 g3]
      exact r3
theorem iends_eq {t : ByteArray} {at_ : Int} {bad : Bool} {o : Option (List Int)} (h : Rel t at_ bad o) (k : Nat) : impl_reader__ends_1.f k ⟨t, at_, bad⟩ = some (decide (o = some [])) := by
  unfold impl_reader__ends_1.f impl_reader__ends_1.e1
  cases o with
  | none => obtain rfl := h.no rfl; simp
  | some s =>
    obtain ⟨rfl, hs⟩ := h.yes s rfl
    have hl := rel_len h
    have ha := h.at0
    simp only [Bool.false_eq_true, if_false, Option.bind_some, Option.some.injEq, decide_eq_decide]
    rw [← List.length_eq_zero_iff]
    omega
/-- The program reads as the decoder does. -/
theorem iread_ev (t : ByteArray) (ht : t.size ≤ 1000000) :
    ∃ x, Evr (fun k => impl_readInterface.f k t) (x, decide ((faceD (bytesOf t)).map Prod.snd = some []) && faceB x, x.f0, x.f1) ∧ Got (some (bytesOf t)) faceD x := by
  have h0 : Rel t 0 false (some (bytesOf t)) := ⟨⟨Int.le_refl _, by omega⟩, fun s hs => by cases hs; exact ⟨rfl, rfl⟩, fun h => by cases h⟩
  obtain ⟨at1, bad1, e1, r1⟩ := irhead_ev h0 ht ⟨#[79, 73, 49]⟩ (by decide)
  have r1 : Rel t at1 bad1 (nxt (some (bytesOf t)) (headD [79, 73, 49])) := r1
  obtain ⟨n, at2, bad2, e2, r2, g2, hn⟩ := itext_ev r1 ht
  obtain ⟨m, at3, bad3, e3, r3, g3, hm⟩ := inum1_ev r2 ht
  obtain ⟨at4, bad4, l, e4, hl, ok4, r4, g4⟩ := iitems_rd ht (r := (m, at3, bad3)) hm m.toNat 0 at3 bad3 _ [] (by simp) r3 (Nat.le_refl _)
  have g1 : Got (some (bytesOf t)) (headD [79, 73, 49]) () := fun _ _ _ => rfl
  have gf : Got (some (bytesOf t)) faceD ⟨n, l⟩ := got_bind g1 (got_bind g2 (got_bind g3 (got_bind g4 (got_pure _ _))))
  have nf : nxt (some (bytesOf t)) faceD = nxt (nxt (nxt (nxt (some (bytesOf t)) (headD [79, 73, 49])) textD) (numD 1)) (D.many itemD m.toNat) := by
    unfold faceD
    rw [nxt_bind g1, nxt_bind g2, nxt_bind g3, nxt_bind g4, nxt_pure]
  refine ⟨⟨n, l⟩, ?_, gf⟩
  have hend := iends_eq r4
  have e0 : (faceD (bytesOf t)).map Prod.snd = nxt (some (bytesOf t)) faceD := rfl
  rw [e0, nf]
  unfold impl_readInterface.f impl_readInterface.e5
  refine ev_bind _ e1 (ev_bind _ e2 (ev_bind _ (ev_bind _ e3 e4) ?_))
  refine ev_bind _ ?_ ev_some
  unfold impl_readInterface.e6
  simp only [List.nil_append]
  refine ev_bind _ (ev_of hend) ?_
  cases decide (nxt (nxt (nxt (nxt (some (bytesOf t)) (headD [79, 73, 49])) textD) (numD 1)) (D.many itemD m.toNat) = some []) with
  | false => exact ev_some
  | true =>
    refine ev_pos rfl (ev_bind _ (iface_ev ⟨n, l⟩ ?_ ?_ ?_) ev_some)
    · show n.size < _; omega
    · show l.length ≤ _; omega
    · intro x hx
      have := ok4 x hx
      unfold okI at this
      omega
end Go.Proofs.YtoclajfeeebbbabGreatDoor.V
