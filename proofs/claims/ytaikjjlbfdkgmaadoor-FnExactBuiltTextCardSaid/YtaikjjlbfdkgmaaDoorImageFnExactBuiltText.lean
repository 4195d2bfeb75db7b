/- Images and lists of texts and numbers in the printed statements: what is left of a bound, the values made anew, a value compared with itself. Plain lemmas over the printed functions. -/
import Derived.Test.YtaikjjlbfdkgmaaDoorCodeFnExactBuiltText
set_option linter.unusedVariables false
set_option linter.unusedSimpArgs false
namespace Go.Proofs.YtaikjjlbfdkgmaaDoor.ImFnExactBuiltText
open Go.RowKit Go.Proofs.YtaikjjlbfdkgmaaDoor Go.Proofs.YtaikjjlbfdkgmaaDoor.PFnExactBuiltText Go.Proofs.YtaikjjlbfdkgmaaDoor.CdFnExactBuiltText Go.Proofs.YtaikjjlbfdkgmaaDoorW.PrintWords Go.Proofs.YtaikjjlbfdkgmaaDoorW.PrintLast Go.Proofs.YtaikjjlbfdkgmaaDoorW.Loops

def sizes (l : List ByteArray) : Nat := l.length + (l.map fun x => x.size).sum

theorem szStrS_ev (l : List ByteArray) (hl : l.length ≤ maxLen) (hg : ∀ y, y ∈ l → y.size ≤ maxLen) : ∀ left : Int, 0 ≤ left → left ≤ 1048576 → ∃ t, Ev (fun k => laws_szStringS.f k l left) t ∧ LeftOf left (sizes l) t :=
  left_rows l ByteArray.empty (fun x => x.size) (fun _ x left => some (wrap64 (left - (x.size : Int)))) (fun k left i => laws_szStringS.l0 k l left i) _ (fun k left => rfl) (fun k left i => by simp only [laws_szStringS.l0]; rfl)
    (fun y hy left h0 hB => ⟨_, ev_some, left_str y (hg y hy) left h0 hB⟩) hl
theorem szIntS_ev (l : List Int) (hl : l.length ≤ maxLen) (left : Int) (h0 : 0 ≤ left) (hB : left ≤ 1048576) : ∃ t, laws_szIntS.f l left = some t ∧ LeftOf left l.length t := by
  have hm : (maxLen : Nat) = 9223372036854775807 := rfl
  unfold laws_szIntS.f
  have e1 : wrap64 (left - (l.length : Int)) = left - l.length := by unfold wrap64; omega
  rw [e1]
  by_cases c1 : left - (l.length : Int) < 0
  · exact ⟨-1, if_pos c1, .inl (by omega)⟩
  · exact ⟨_, if_neg c1, .inr ⟨by omega, rfl⟩⟩
theorem szCodeS_ev (l : List LCode) (hl : l.length ≤ maxLen) (hg : ∀ y, y ∈ l → Good24 y) : ∀ left : Int, 0 ≤ left → left ≤ 1048576 → ∃ t, Ev (fun k => laws_szCodeS.f k l left) t ∧ LeftOf left (wtCodes l) t :=
  left_rows l z24 wtCode (fun k y left => laws_szCode.f k y.f0 y.f1 y.f2 y.f3 y.f4 left) (fun k left i => laws_szCodeS.l0 k l left i) _ (fun k left => rfl) (fun k left i => by simp only [laws_szCodeS.l0]; rfl)
    (fun y hy left h0 hB => szCode_ev y (hg y hy) left h0 hB) hl

theorem szImage_ev (x : S49) (hx : Good49 x) : ∀ left : Int, 0 ≤ left → left ≤ 1048576 → ∃ t, Ev (fun k => laws_szImage.f k x.f0 x.f1 x.f2 x.f3 left) t ∧ LeftOf left (wtCodes x.f1 + sizes x.f2 + x.f3.length) t := by
  intro left h0 hB
  obtain ⟨_, ⟨g1, g1'⟩, ⟨g2, g2'⟩, g3, _⟩ := hx
  unfold laws_szImage.f
  obtain ⟨t1, ht1, hw1⟩ := szCodeS_ev x.f1 g1 g1' left h0 hB
  by_cases c1 : t1 < 0
  · exact ⟨-1, ev_bind t1 ht1 (ev_if_pos c1 ev_some), .inl (by omega)⟩
  · obtain ⟨h1, h1'⟩ := hw1.resolve_left c1
    obtain ⟨t2, ht2, hw2⟩ := szStrS_ev x.f2 g2 g2' t1 h1 (by omega)
    by_cases c2 : t2 < 0
    · exact ⟨-1, ev_bind t1 ht1 (ev_if_neg c1 (ev_bind t2 ht2 (ev_if_pos c2 ev_some))), .inl (by omega)⟩
    · obtain ⟨h2, h2'⟩ := hw2.resolve_left c2
      obtain ⟨t3, ht3, hw3⟩ := szIntS_ev x.f3 g3 t2 h2 (by omega)
      by_cases c3 : t3 < 0
      · exact ⟨-1, ev_bind t1 ht1 (ev_if_neg c1 (ev_bind t2 ht2 (ev_if_neg c2 (ev_bind t3 (ev_const ht3) (ev_if_pos c3 ev_some))))), .inl (by omega)⟩
      · obtain ⟨h3, h3'⟩ := hw3.resolve_left c3
        exact ⟨t3, ev_bind t1 ht1 (ev_if_neg c1 (ev_bind t2 ht2 (ev_if_neg c2 (ev_bind t3 (ev_const ht3) (ev_if_neg c3 ev_some))))), .inr ⟨h3, by omega⟩⟩

theorem toCodeS_ev (l : List LCode) (h : wtCodes l ≤ 1048576) : Ev (fun k => laws_toCodeS.f k l) (l.map cvCode) := by
  unfold wtCodes at h
  unfold laws_toCodeS.f
  refine ev_if_pos (by omega) (ev_if_pos (by omega) ?_)
  have e : ((l.length : Int) : Int).toNat = l.length := by omega
  rw [e]
  refine map_loop l z24 cvCode _ (fun k y => (laws_toCode.f k y.f0 y.f1 y.f2 y.f3 y.f4).map (fun b => (⟨b.1, b.2.1, b.2.2.1, b.2.2.2.1, b.2.2.2.2⟩ : ICode))) (fun k acc i => laws_toCodeS.l0 k l acc i) ?_ ?_ (by omega)
  · intro k acc i
    simp only [laws_toCodeS.l0, Option.bind_map]
    rfl
  · intro y hy
    have h1 := le_sum_of wtCode hy
    exact ev_map (fun b => (⟨b.1, b.2.1, b.2.2.1, b.2.2.2.1, b.2.2.2.2⟩ : ICode)) (toCode_ev y (by omega))
theorem toStrS_ev (l : List ByteArray) (h : l.length ≤ 1048576) : Ev (fun k => laws_toStringS.f k l) l := by
  unfold laws_toStringS.f
  refine ev_if_pos (by omega) (ev_if_pos (by omega) ?_)
  have e : ((l.length : Int) : Int).toNat = l.length := by omega
  rw [e]
  refine ev_eq (map_loop l ByteArray.empty id _ (fun _ x => some x) (fun k acc i => laws_toStringS.l0 k l acc i) ?_ (fun x _ => ev_some) (by omega)) (by simp)
  intro k acc i
  simp only [laws_toStringS.l0, Option.bind_some]
  rfl
theorem toIntS_ev (l : List Int) (h : l.length ≤ 1048576) : Ev (fun k => laws_toIntS.f k l) l := by
  unfold laws_toIntS.f
  refine ev_if_pos (by omega) (ev_if_pos (by omega) ?_)
  have e : ((l.length : Int) : Int).toNat = l.length := by omega
  rw [e]
  refine ev_eq (map_loop l 0 id _ (fun _ x => some x) (fun k acc i => laws_toIntS.l0 k l acc i) ?_ (fun x _ => ev_some) (by omega)) (by simp)
  intro k acc i
  simp only [laws_toIntS.l0, Option.bind_some]
  rfl
theorem toImage_ev (x : S49) (h : wtCodes x.f1 + sizes x.f2 + x.f3.length ≤ 1048576) : Ev (fun k => laws_toImage.f k x.f0 x.f1 x.f2 x.f3) (x.f0, x.f1.map cvCode, x.f2, x.f3) := by
  have h2 : x.f2.length ≤ sizes x.f2 := by unfold sizes; omega
  unfold laws_toImage.f
  exact ev_bind _ (toCodeS_ev x.f1 (by omega)) (ev_bind _ (toStrS_ev x.f2 (by omega)) (ev_bind _ (toIntS_ev x.f3 (by omega)) ev_some))

theorem eqStrS_ev (l : List ByteArray) (h : l.length ≤ 1048576) : Ev (fun k => laws_eqStringS.f k l l) true := by
  unfold laws_eqStringS.f
  refine ev_if_pos rfl ?_
  refine same_loop l ByteArray.empty (fun _ x y => some (decide (x.toList = y.toList))) (fun k i => laws_eqStringS.l0 k l l i) ?_ (fun x _ => ev_const (by simp)) (by omega)
  intro k i
  simp only [laws_eqStringS.l0, Option.bind_some, decide_true, if_true]
theorem eqIntS_ev (l : List Int) (h : l.length ≤ 1048576) : Ev (fun k => laws_eqIntS.f k l l) true := by
  unfold laws_eqIntS.f
  refine ev_if_pos rfl ?_
  refine same_loop l 0 (fun _ x y => some (decide (x = y))) (fun k i => laws_eqIntS.l0 k l l i) ?_ (fun x _ => ev_const (by simp)) (by omega)
  intro k i
  simp only [laws_eqIntS.l0, Option.bind_some, decide_true, if_true]
theorem eqCodeS_ev (l : List ICode) (h : l.length ≤ 1048576) (h' : ∀ x, x ∈ l → x.f4.length ≤ 1048576) : Ev (fun k => laws_eqCodeS.f k l l) true := by
  unfold laws_eqCodeS.f
  refine ev_if_pos rfl ?_
  refine same_loop l z30 (fun k x y => laws_eqCode.f k x.f0 x.f1 x.f2 x.f3 x.f4 y.f0 y.f1 y.f2 y.f3 y.f4) (fun k i => laws_eqCodeS.l0 k l l i) ?_ (fun x hx => eqCode_ev x (h' x hx)) (by omega)
  intro k i
  simp only [laws_eqCodeS.l0]
  rfl
theorem codes_small (l : List LCode) (h : wtCodes l ≤ 1048576) : (l.map cvCode).length ≤ 1048576 ∧ ∀ x, x ∈ l.map cvCode → x.f4.length ≤ 1048576 := by
  unfold wtCodes at h
  refine ⟨by simp; omega, fun x hx => ?_⟩
  obtain ⟨y, hy, rfl⟩ := List.mem_map.1 hx
  have h1 := le_sum_of wtCode hy
  have h2 : y.f4.length ≤ wtCode y := by unfold wtCode; omega
  show (y.f4.map cvIns).length ≤ _
  simp
  omega
theorem eqImage_ev (x : S49) (h : wtCodes x.f1 + sizes x.f2 + x.f3.length ≤ 1048576) : Ev (fun k => laws_eqImage.f k x.f0 (x.f1.map cvCode) x.f2 x.f3 x.f0 (x.f1.map cvCode) x.f2 x.f3) true := by
  have h2 : x.f2.length ≤ sizes x.f2 := by unfold sizes; omega
  obtain ⟨h3, h4⟩ := codes_small x.f1 (by omega)
  unfold laws_eqImage.f
  exact ev_if_pos rfl (ev_bind true (eqCodeS_ev _ h3 h4) (ev_if_pos rfl (ev_bind true (eqStrS_ev x.f2 (by omega)) (ev_if_pos rfl (ev_bind true (eqIntS_ev x.f3 (by omega)) (ev_if_pos rfl ev_some))))))

end Go.Proofs.YtaikjjlbfdkgmaaDoor.ImFnExactBuiltText
