/- Reading an interface: the reference's answer, and that both are alike. -/
import Derived.Test.YtoclajfeeebbbabGreatDoorPlFeFnExactReadInterface
import Derived.Test.YtoclajfeeebbbabGreatDoorPlU0FnExactReadInterface
set_option linter.unusedVariables false
set_option linter.unusedSimpArgs false
namespace Go.Proofs.YtoclajfeeebbbabGreatDoor.V
open Go.RowKit Go.Proofs.YtoclajfeeebbbabGreatDoor.E
def flagS (v : Int) : SParam := ⟨Int.tmod v 8, decide ((8 : Int) ≤ v)⟩
def paramDS : D SParam := D.bind (numD 1) fun v => D.pure (flagS v)
def itemDS : D SItem := D.bind (numD 1) fun a => D.bind (numD 1) fun b => D.bind (numD 1) fun c => D.bind (numD 8) fun e => D.bind textD fun n => D.bind (numD 1) fun m => D.bind (D.many paramDS m.toNat) fun ps => D.pure ⟨a, b, c, e, n, ps⟩
def faceDS : D SFace := D.bind (headD [79, 73, 49]) fun _ => D.bind textD fun n => D.bind (numD 1) fun m => D.bind (D.many itemDS m.toNat) fun l => D.pure ⟨n, l⟩
theorem dec1 {z : Nat} (h : z ≤ 70000) : w64 (((z + 1 : Nat) : Int) - 1) = (z : Int) := by rw [w64_id (by omega) (by omega)]; omega
theorem sparams_rd {b : List Int} (hb : Byt b) {m : Nat} (hm : m ≤ 255) {at_ : Int} {bad : Bool} {o : Option (List Int)} (h : RelS b at_ bad o) :
    ∃ at2 bad2 l, Evr (fun k => spec_ReadInterface.l4 k b (m : Int) at_ bad []) (at2, bad2, l) ∧ l.length ≤ 255 ∧ RelS b at2 bad2 (nxt o (D.many paramDS m)) ∧ Got o (D.many paramDS m) l := by
  obtain ⟨a, c, l, e, hl, g1, g2, g3⟩ := down_loop (R := RelS b) (fun h => h.no rfl) (fun h => (h.yes _ rfl).1) (d := paramDS) (ok := fun _ => True) (B := 255) (fun k z at_ bad acc => spec_ReadInterface.l4 k b (z : Int) at_ bad acc)
    (fun k z at_ bad acc hz hB => by
      show spec_ReadInterface.l4 (k + 1) b (z : Int) at_ bad acc = _
      unfold spec_ReadInterface.l4 spec_ReadInterface.e3
      rcases hz with rfl | rfl
      · simp
      · by_cases hc : (0 : Int) < (z : Int) <;> simp [hc])
    (fun z at_ s acc hB h ha => by
      obtain ⟨v, at1, bad1, e1, r1, g1, _⟩ := sone_rd hb h
      refine ⟨at1, bad1, flagS v, trivial, ?_, got_bind g1 (got_pure _ _), fun x hx => ?_⟩
      · unfold paramDS
        rw [nxt_bind g1, nxt_pure]
        exact r1
      · refine ev_step _ (fun k => rfl) (ev_bind true (ev_of fun k => by unfold spec_ReadInterface.e3; rw [if_pos (by omega)]; rfl) (ev_pos rfl (ev_bind _ (ev_of e1) (ev_pos (by simp; omega) ?_))))
        rw [dec1 (by omega)]
        exact hx) m at_ bad o [] h (by simpa using hm)
  exact ⟨a, c, l, by simpa using e, by omega, g2, g3⟩
theorem sitem_rd {b : List Int} (hb : Byt b) {at_ : Int} {bad : Bool} {o : Option (List Int)} (h : RelS b at_ bad o) (acc : List SItem) (ha : acc.length ≤ 1000) :
    ∃ at2 bad2 x, Evr (fun k => spec_ReadInterface.e6 k b at_ bad acc) (at2, bad2, acc ++ [x]) ∧ okI x ∧ RelS b at2 bad2 (nxt o itemDS) ∧ Got o itemDS x := by
  obtain ⟨a, at1, bad1, e1, r1, g1, _⟩ := sone_rd hb h
  obtain ⟨c, at2, bad2, e2, r2, g2, _⟩ := sone_rd hb r1
  obtain ⟨d, at3, bad3, e3, r3, g3, _⟩ := sone_rd hb r2
  obtain ⟨v, at4, bad4, e4, r4, g4⟩ := s8_rd hb r3
  obtain ⟨n, at5, bad5, e5, r5, g5, hn⟩ := stext_rd hb r4
  obtain ⟨m, at6, bad6, e6, r6, g6, hm⟩ := sone_rd hb r5
  obtain ⟨at7, bad7, l, e7, hl, r7, g7⟩ := sparams_rd hb (m := m.toNat) (by omega) r6
  rw [show ((m.toNat : Nat) : Int) = m by omega] at e7
  refine ⟨at7, bad7, ⟨a, c, d, v, n, l⟩, ?_, ⟨hn, hl⟩, ?_, ?_⟩
  · unfold spec_ReadInterface.e6 spec_ReadInterface.e5
    exact ev_bind _ (ev_of e1) (ev_bind _ (ev_of e2) (ev_bind _ (ev_of e3) (ev_bind _ e4 (ev_bind _ (ev_of e5) (ev_bind _ (ev_bind _ (ev_of e6) e7) (ev_pos (by simp; omega) ev_some))))))
  · unfold itemDS
    rw [nxt_bind g1, nxt_bind g2, nxt_bind g3, nxt_bind g4, nxt_bind g5, nxt_bind g6, nxt_bind g7, nxt_pure]
    exact r7
  · exact got_bind g1 (got_bind g2 (got_bind g3 (got_bind g4 (got_bind g5 (got_bind g6 (got_bind g7 (got_pure _ _)))))))
theorem sitems_rd {b : List Int} (hb : Byt b) {m : Nat} (hm : m ≤ 255) {at_ : Int} {bad : Bool} {o : Option (List Int)} (h : RelS b at_ bad o) :
    ∃ at2 bad2 l, Evr (fun k => spec_ReadInterface.l7 k b (m : Int) at_ bad []) (at2, bad2, l) ∧ l.length ≤ 255 ∧ (∀ x ∈ l, okI x) ∧ RelS b at2 bad2 (nxt o (D.many itemDS m)) ∧ Got o (D.many itemDS m) l := by
  obtain ⟨a, c, l, e, hl, g1, g2, g3⟩ := down_loop (R := RelS b) (fun h => h.no rfl) (fun h => (h.yes _ rfl).1) (d := itemDS) (ok := okI) (B := 255) (fun k z at_ bad acc => spec_ReadInterface.l7 k b (z : Int) at_ bad acc)
    (fun k z at_ bad acc hz hB => by
      show spec_ReadInterface.l7 (k + 1) b (z : Int) at_ bad acc = _
      unfold spec_ReadInterface.l7 spec_ReadInterface.e2
      rcases hz with rfl | rfl
      · simp
      · by_cases hc : (0 : Int) < (z : Int) <;> simp [hc])
    (fun z at_ s acc hB h ha => by
      obtain ⟨at1, bad1, x, e1, ok1, r1, g1⟩ := sitem_rd hb h acc (by omega)
      refine ⟨at1, bad1, x, ok1, r1, g1, fun r' hx => ?_⟩
      refine ev_step _ (fun k => rfl) (ev_bind true (ev_of fun k => by unfold spec_ReadInterface.e2; rw [if_pos (by omega)]; rfl) (ev_pos rfl (ev_bind _ e1 ?_)))
      rw [dec1 (by omega)]
      exact hx) m at_ bad o [] h (by simpa using hm)
  exact ⟨a, c, l, by simpa using e, by omega, g1, g2, g3⟩
def nilF : SFace := ⟨⟨#[]⟩, []⟩
def outF (t : Bool) (c : Int) (y : SFace) : SFace × Int × ByteArray × List SItem := if t = true then (y, 0, y.f0, y.f1) else (nilF, c, ⟨#[]⟩, [])
def okF (x : SFace) : Prop := x.f0.size ≤ 255 ∧ x.f1.length ≤ 255 ∧ ∀ y ∈ x.f1, okI y
theorem strs_eq {a b : List Int} (ha : Oct a) (hb : Oct b) : (strOfNums a = strOfNums b) ↔ a = b := by
  constructor
  · intro h
    rw [← bytes_str ha, ← bytes_str hb, h]
  · intro h; rw [h]
/-- The reference reads as the decoder does. -/
theorem sread_ev {b : List Int} (hb : Byt b) (hl : b.length ≤ 65536) :
    ∃ y, okF y ∧ Evr (fun k => spec_ReadInterface.f k b) (outF (decide ((faceDS b).map Prod.snd = some []) && (faceB y && decide (faceL y = b))) 3 y) ∧ ((faceDS b).map Prod.snd = some [] → Got (some b) faceDS y) := by
  have hlen := hb.len
  have t3 : List.take (Int.toNat ((3 : Int) - 0)) (List.drop (Int.toNat 0) b) = b.take 3 := rfl
  have shr : strOfNums [79, 73, 49] = ⟨#[79, 73, 49]⟩ := rfl
  have ht3 : takeD ([79, 73, 49] : List Int).length b = if 3 ≤ b.length then some (b.take 3, b.drop 3) else none := rfl
  have hd : headD [79, 73, 49] b = if 3 ≤ b.length ∧ b.take 3 = [79, 73, 49] then some ((), b.drop 3) else none := by
    have e : headD [79, 73, 49] b = (takeD ([79, 73, 49] : List Int).length b).bind fun p => if p.1 = [79, 73, 49] then some ((), p.2) else none := rfl
    rw [e, ht3]
    by_cases h3 : 3 ≤ b.length
    · rw [if_pos h3]
      simp only [Option.bind_some]
      by_cases ht : b.take 3 = [79, 73, 49]
      · rw [if_pos ht, if_pos ⟨h3, ht⟩]
      · rw [if_neg ht, if_neg (fun h => ht h.2)]
    · rw [if_neg h3, if_neg (fun h => h3 h.1)]; rfl
  have hnl : ¬ ((65536 : Int) < (b.length : Int)) := by omega
  by_cases hh : 3 ≤ b.length ∧ b.take 3 = [79, 73, 49]
  · rw [if_pos hh] at hd
    have r1 : RelS b 3 false (nxt (some b) (headD [79, 73, 49])) := by
      have : nxt (some b) (headD [79, 73, 49]) = some (b.drop 3) := by unfold nxt; rw [Option.bind_some, hd]; rfl
      rw [this]
      exact ⟨⟨by decide, by omega⟩, fun s hs => by cases hs; exact ⟨rfl, rfl⟩, fun h => by cases h⟩
    have g1 : Got (some b) (headD [79, 73, 49]) () := fun _ _ _ => rfl
    obtain ⟨n, at2, bad2, e2, r2, g2, hn⟩ := stext_rd hb r1
    obtain ⟨m, at3, bad3, e3, r3, g3, hm⟩ := sone_rd hb r2
    obtain ⟨at4, bad4, l, e4, l4, ok4, r4, g4⟩ := sitems_rd hb (m := m.toNat) (by omega) r3
    rw [show ((m.toNat : Nat) : Int) = m by omega] at e4
    have gf : Got (some b) faceDS ⟨n, l⟩ := got_bind g1 (got_bind g2 (got_bind g3 (got_bind g4 (got_pure _ _))))
    have nf : nxt (some b) faceDS = nxt (nxt (nxt (nxt (some b) (headD [79, 73, 49])) textD) (numD 1)) (D.many itemDS m.toNat) := by
      unfold faceDS
      rw [nxt_bind g1, nxt_bind g2, nxt_bind g3, nxt_bind g4, nxt_pure]
    refine ⟨⟨n, l⟩, ⟨hn, l4, ok4⟩, ?_, fun _ => gf⟩
    have e0 : (faceDS b).map Prod.snd = nxt (some b) faceDS := rfl
    rw [e0, nf]
    unfold spec_ReadInterface.f spec_ReadInterface.e8
    refine ev_neg hnl (ev_bind false (ev_of fun k => ?_) (ev_neg (by simp) (ev_bind _ (ev_of e2) (ev_bind _ (ev_bind _ (ev_of e3) e4) ?_))))
    · unfold spec_ReadInterface.e1
      rw [if_neg (by omega), if_pos (by decide), if_pos (by omega), t3, hh.2, shr]
      rfl
    · generalize nxt (nxt (nxt (nxt (some b) (headD [79, 73, 49])) textD) (numD 1)) (D.many itemDS m.toNat) = o4 at r4 ⊢
      have hfail : ∀ t : Bool, t = true → Evr (fun k => spec_ReadInterface.e9 k b (n, at2, bad2) at4 bad4 l) t → Evr (fun k => (spec_ReadInterface.e9 k b (n, at2, bad2) at4 bad4 l).bind fun y213 => if y213 = true then (some ((⟨(⟨#[]⟩ : ByteArray), ([] : List SItem)⟩ : SFace), 3, (⟨#[]⟩ : ByteArray), ([] : List SItem))) else (some ((⟨n, l⟩ : SFace), 0, n, l))) (outF false 3 ⟨n, l⟩) := fun t ht h => ev_bind _ h (ev_pos ht ev_some)
      cases o4 with
      | none =>
        obtain rfl := r4.no rfl
        refine hfail true rfl ?_
        unfold spec_ReadInterface.e9
        exact ev_pos rfl ev_some
      | some s =>
        obtain ⟨rfl, hs⟩ := r4.yes s rfl
        have hl4 := rels_len r4
        have h4 := r4.at0
        by_cases hz : at4 = (b.length : Int)
        · have : s = [] := List.length_eq_zero_iff.1 (by omega)
          subst this
          rw [decide_eq_true rfl, Bool.true_and]
          have hif := sface_ev ⟨n, l⟩ (show l.length ≤ 1048576 by omega) (fun x hx => by have := ok4 x hx; unfold okI at this; omega)
          by_cases hB : faceB ⟨n, l⟩ = true
          · rw [hB, Bool.true_and]
            have hbyt := sbytes_ev ⟨n, l⟩ (fitI hB)
            by_cases hE : faceL ⟨n, l⟩ = b
            · rw [decide_eq_true hE]
              refine ev_bind false ?_ (ev_neg (by simp) ev_some)
              unfold spec_ReadInterface.e9
              refine ev_neg (by simp) (ev_pos hz (ev_bind _ hif (ev_pos hB (ev_bind _ hbyt (ev_const ?_)))))
              rw [hE]
              simp
            · rw [decide_eq_false hE]
              refine hfail true rfl ?_
              unfold spec_ReadInterface.e9
              refine ev_neg (by simp) (ev_pos hz (ev_bind _ hif (ev_pos hB (ev_bind _ hbyt (ev_const ?_)))))
              have : ¬ (strOfNums (faceL ⟨n, l⟩) = strOfNums b) := fun h => hE ((strs_eq (faceL_ok _) hb.oct).1 h)
              rw [decide_eq_false this]
              rfl
          · have hB' : faceB ⟨n, l⟩ = false := by simpa using hB
            rw [hB', Bool.false_and]
            refine hfail true rfl ?_
            unfold spec_ReadInterface.e9
            exact ev_neg (by simp) (ev_pos hz (ev_bind _ hif (ev_neg hB ev_some)))
        · have hne : ¬ (some s = some ([] : List Int)) := fun h => by
            have := Option.some.inj h
            rw [this] at hl4
            have h0 : ([] : List Int).length = 0 := rfl
            omega
          rw [decide_eq_false hne, Bool.false_and]
          refine hfail true rfl ?_
          unfold spec_ReadInterface.e9
          exact ev_neg (by simp) (ev_neg hz ev_some)
  · rw [if_neg hh] at hd
    have ho : faceDS b = none := by
      unfold faceDS D.bind
      rw [hd]
      rfl
    refine ⟨nilF, ⟨by decide, by decide, fun y hy => by cases hy⟩, ?_, fun h => by rw [ho] at h; cases h⟩
    rw [ho]
    unfold spec_ReadInterface.f
    refine ev_neg hnl (ev_bind true (ev_of fun k => ?_) (ev_pos rfl ev_some))
    unfold spec_ReadInterface.e1
    by_cases h3 : (b.length : Int) < 3
    · rw [if_pos h3]
    · rw [if_neg h3, if_pos (by decide), if_pos (by omega), t3]
      have : ¬ (strOfNums (b.take 3) = (⟨#[79, 73, 49]⟩ : ByteArray)) := fun h => by
        rw [← shr] at h
        refine hh ⟨by omega, (strs_eq (fun v hv => hb.oct v (List.mem_of_mem_take hv)) (fun v hv => ?_)).1 h⟩
        simp only [List.mem_cons, List.not_mem_nil, or_false] at hv
        omega
      rw [decide_eq_false this]
      rfl
end Go.Proofs.YtoclajfeeebbbabGreatDoor.V
