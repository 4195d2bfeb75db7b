/- Codes, images and lists in the printed statements: what is left of a bound, the values made anew, a value compared with itself. Plain lemmas over the printed functions. -/
import Derived.Test.YtaikjjlbfdkgmaaDoorPFnExactBuiltTextx
import Derived.Test.YtaikjjlbfdkgmaaDoorLoops
set_option linter.unusedVariables false
set_option linter.unusedSimpArgs false
namespace Go.Proofs.YtaikjjlbfdkgmaaDoor.CdFnExactBuiltText
open Go.RowKit Go.Proofs.YtaikjjlbfdkgmaaDoor Go.Proofs.YtaikjjlbfdkgmaaDoor.PFnExactBuiltText Go.Proofs.YtaikjjlbfdkgmaaDoorW.PrintWords Go.Proofs.YtaikjjlbfdkgmaaDoorW.PrintLast Go.Proofs.YtaikjjlbfdkgmaaDoorW.Loops

abbrev LIns := S132
abbrev IIns := S120
abbrev LCode := S24
abbrev ICode := S30
def cvIns (x : LIns) : IIns := ⟨x.f0, x.f1, x.f2, x.f3, x.f4⟩
def wtIns (x : LIns) : Nat := x.f3.size + x.f4.size
def cvCode (x : LCode) : ICode := ⟨x.f0, x.f1, x.f2, x.f3, x.f4.map cvIns⟩
def wtCode (x : LCode) : Nat := x.f0.size + (x.f4.length + (x.f4.map wtIns).sum)
def wtCodes (l : List LCode) : Nat := l.length + (l.map wtCode).sum

theorem szIns_ev (y : LIns) (hy : Good132 y) (left : Int) (h0 : 0 ≤ left) (hB : left ≤ 1048576) : ∃ t, laws_szIns.f y.f0 y.f1 y.f2 y.f3 y.f4 left = some t ∧ LeftOf left (wtIns y) t := by
  have hm : (maxLen : Nat) = 9223372036854775807 := rfl
  obtain ⟨_, _, _, g3, g4⟩ := hy
  unfold laws_szIns.f wtIns
  have e1 : wrap64 (left - (y.f3.size : Int)) = left - y.f3.size := by unfold wrap64; omega
  rw [e1]
  by_cases c1 : left - (y.f3.size : Int) < 0
  · exact ⟨-1, if_pos c1, .inl (by omega)⟩
  · rw [if_neg c1]
    have e2 : wrap64 (left - (y.f3.size : Int) - (y.f4.size : Int)) = left - y.f3.size - y.f4.size := by unfold wrap64; omega
    rw [e2]
    by_cases c2 : left - (y.f3.size : Int) - (y.f4.size : Int) < 0
    · exact ⟨-1, if_pos c2, .inl (by omega)⟩
    · exact ⟨_, if_neg c2, .inr ⟨by omega, by omega⟩⟩
theorem szInsS_ev (l : List LIns) (hl : l.length ≤ maxLen) (hg : ∀ y, y ∈ l → Good132 y) : ∀ left : Int, 0 ≤ left → left ≤ 1048576 → ∃ t, Ev (fun k => laws_szInsS.f k l left) t ∧ LeftOf left (l.length + (l.map wtIns).sum) t :=
  left_rows l z132 wtIns (fun _ y left => laws_szIns.f y.f0 y.f1 y.f2 y.f3 y.f4 left) (fun k left i => laws_szInsS.l0 k l left i) _ (fun k left => rfl) (fun k left i => by simp only [laws_szInsS.l0]; rfl)
    (fun y hy left h0 hB => by obtain ⟨t, ht, hw⟩ := szIns_ev y (hg y hy) left h0 hB; exact ⟨t, ev_const ht, hw⟩) hl
theorem szCode_ev (x : LCode) (hx : Good24 x) : ∀ left : Int, 0 ≤ left → left ≤ 1048576 → ∃ t, Ev (fun k => laws_szCode.f k x.f0 x.f1 x.f2 x.f3 x.f4 left) t ∧ LeftOf left (wtCode x) t := by
  intro left h0 hB
  have hm : (maxLen : Nat) = 9223372036854775807 := rfl
  obtain ⟨g0, _, _, _, g4, g4'⟩ := hx
  unfold laws_szCode.f wtCode
  have e1 : wrap64 (left - (x.f0.size : Int)) = left - x.f0.size := by unfold wrap64; omega
  rw [e1]
  by_cases c1 : left - (x.f0.size : Int) < 0
  · exact ⟨-1, ev_if_pos c1 ev_some, .inl (by omega)⟩
  · obtain ⟨t, ht, hw⟩ := szInsS_ev x.f4 g4 g4' (left - x.f0.size) (by omega) (by omega)
    by_cases c2 : t < 0
    · exact ⟨-1, ev_if_neg c1 (ev_bind t ht (ev_if_pos c2 ev_some)), .inl (by omega)⟩
    · refine ⟨t, ev_if_neg c1 (ev_bind t ht (ev_if_neg c2 ev_some)), ?_⟩
      rcases hw with h | ⟨h, h'⟩
      · exact .inl h
      · exact .inr ⟨h, by omega⟩
theorem toInsS_ev (l : List LIns) (h : l.length ≤ 1048576) : Ev (fun k => laws_toInsS.f k l) (l.map cvIns) := by
  unfold laws_toInsS.f
  refine ev_if_pos (by omega) (ev_if_pos (by omega) ?_)
  have e : ((l.length : Int) : Int).toNat = l.length := by omega
  rw [e]
  refine map_loop l z132 cvIns _ (fun _ x => some (cvIns x)) (fun k acc i => laws_toInsS.l0 k l acc i) ?_ (fun x _ => ev_some) (by omega)
  intro k acc i
  simp only [laws_toInsS.l0, laws_toIns.f, Option.bind_some]
  rfl
theorem toCode_ev (x : LCode) (h : wtCode x ≤ 1048576) : Ev (fun k => laws_toCode.f k x.f0 x.f1 x.f2 x.f3 x.f4) (x.f0, x.f1, x.f2, x.f3, x.f4.map cvIns) := by
  unfold wtCode at h
  unfold laws_toCode.f
  exact ev_bind _ (toInsS_ev x.f4 (by omega)) ev_some
theorem eqIns_self (x : IIns) : laws_eqIns.f x.f0 x.f1 x.f2 x.f3 x.f4 x.f0 x.f1 x.f2 x.f3 x.f4 = some true := by simp [laws_eqIns.f]
theorem eqInsS_ev (l : List IIns) (h : l.length ≤ 1048576) : Ev (fun k => laws_eqInsS.f k l l) true := by
  unfold laws_eqInsS.f
  refine ev_if_pos rfl ?_
  refine same_loop l z120 (fun _ x y => laws_eqIns.f x.f0 x.f1 x.f2 x.f3 x.f4 y.f0 y.f1 y.f2 y.f3 y.f4) (fun k i => laws_eqInsS.l0 k l l i) ?_ (fun x _ => ev_const (eqIns_self x)) (by omega)
  intro k i
  simp only [laws_eqInsS.l0]
  rfl
theorem eqCode_ev (x : ICode) (h : x.f4.length ≤ 1048576) : Ev (fun k => laws_eqCode.f k x.f0 x.f1 x.f2 x.f3 x.f4 x.f0 x.f1 x.f2 x.f3 x.f4) true := by
  unfold laws_eqCode.f
  exact ev_if_pos rfl (ev_if_pos rfl (ev_if_pos rfl (ev_if_pos rfl (ev_bind true (eqInsS_ev x.f4 h) (ev_if_pos rfl ev_some)))))

end Go.Proofs.YtaikjjlbfdkgmaaDoor.CdFnExactBuiltText
