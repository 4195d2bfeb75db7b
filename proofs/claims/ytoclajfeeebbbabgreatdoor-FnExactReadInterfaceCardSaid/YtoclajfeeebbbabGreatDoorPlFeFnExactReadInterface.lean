/- What is read is written as it stood: an interface. -/
import Derived.Test.YtoclajfeeebbbabGreatDoorPlPlFnExactReadInterface
import Derived.Test.YtoclajfeeebbbabGreatDoorPlSFnExactReadInterface
set_option linter.unusedVariables false
set_option linter.unusedSimpArgs false
namespace Go.Proofs.YtoclajfeeebbbabGreatDoor.V
open Go.RowKit Go.Proofs.YtoclajfeeebbbabGreatDoor.E
/-! What is read is written as it stood. -/
theorem bind_D {α β : Type} {d : D α} {f : α → D β} {s s2 : List Int} {y : β} (h : D.bind d f s = some (y, s2)) : ∃ x s1, d s = some (x, s1) ∧ f x s1 = some (y, s2) := by
  unfold D.bind at h
  cases hd : d s with
  | none => rw [hd] at h; cases h
  | some p => rw [hd] at h; exact ⟨p.1, p.2, rfl, h⟩
def Enc {α : Type} (d : D α) (f : α → List Int) : Prop := ∀ s x s1, Oct s → d s = some (x, s1) → s = f x ++ s1
theorem oct_tail {s a b : List Int} (h : Oct s) (e : s = a ++ b) : Oct b := fun v hv => h v (e ▸ List.mem_append_right _ hv)
theorem take_enc {n : Nat} {s l s1 : List Int} (h : takeD n s = some (l, s1)) : s = l ++ s1 ∧ l.length = n := by
  unfold takeD at h
  split at h
  · rename_i hn
    simp only [Option.some.injEq, Prod.mk.injEq] at h
    obtain ⟨rfl, rfl⟩ := h
    exact ⟨(List.take_append_drop n s).symm, by rw [List.length_take]; omega⟩
  · cases h
theorem pure_D {α : Type} {a x : α} {s s1 : List Int} (h : D.pure a s = some (x, s1)) : a = x ∧ s = s1 := by
  simp only [D.pure, Option.some.injEq, Prod.mk.injEq] at h
  exact h
theorem u8_same {v : Int} (h0 : 0 ≤ v) (h1 : v < 256) : u8 v = v := IntWalk.u8_in v (by omega)
theorem num1_enc {s s1 : List Int} {v : Int} (hs : Oct s) (h : numD 1 s = some (v, s1)) : s = [u8 v] ++ s1 ∧ 0 ≤ v ∧ v < 256 := by
  obtain ⟨l, s2, h1, h2⟩ := bind_D h
  obtain ⟨e1, e2⟩ := take_enc h1
  obtain ⟨e3, rfl⟩ := pure_D h2
  match l, e2 with
  | [b], _ =>
    obtain ⟨g0, g1⟩ := hs b (by rw [e1]; simp)
    rw [numV_one g0 g1] at e3
    subst e3
    rw [u8_same g0 g1]
    exact ⟨e1, g0, g1⟩
theorem num8_enc {s s1 : List Int} {v : Int} (hs : Oct s) (h : numD 8 s = some (v, s1)) : s = bigL v 8 ++ s1 := by
  obtain ⟨l, s2, h1, h2⟩ := bind_D h
  obtain ⟨e1, e2⟩ := take_enc h1
  obtain ⟨e3, rfl⟩ := pure_D h2
  match l, e2 with
  | [b0, b1, b2, b3, b4, b5, b6, b7], _ =>
    have g : ∀ b ∈ [b0, b1, b2, b3, b4, b5, b6, b7], 0 ≤ b ∧ b < 256 := fun b hb => hs b (by rw [e1]; exact List.mem_append_left _ hb)
    have := num_bytes g
    rw [e3] at this
    have e : bigL v 8 = [b0, b1, b2, b3, b4, b5, b6, b7] := this
    rw [e]
    exact e1
theorem text_enc : Enc textD textL := by
  intro s x s1 hs h
  obtain ⟨n, s2, h1, h2⟩ := bind_D h
  obtain ⟨e1, g0, g1⟩ := num1_enc hs h1
  obtain ⟨l, s3, h3, h4⟩ := bind_D h2
  obtain ⟨e3, e4⟩ := take_enc h3
  obtain ⟨rfl, rfl⟩ := pure_D h4
  have ol : Oct l := fun v hv => oct_tail hs e1 v (by rw [e3]; exact List.mem_append_left _ hv)
  have hb := bytes_str ol
  have hz : ((strOfNums l).size : Int) = n := by rw [size_bytes, hb, e4]; omega
  unfold textL
  rw [hz, hb, e1, e3, List.append_assoc]
theorem many_enc {α : Type} {d : D α} {f : α → List Int} (h : Enc d f) : ∀ (n : Nat) (s : List Int) (l : List α) (s1 : List Int), Oct s → D.many d n s = some (l, s1) → s = l.flatMap f ++ s1 ∧ l.length = n
  | 0, s, l, s1, hs, e => by
    obtain ⟨rfl, rfl⟩ := pure_D e
    exact ⟨rfl, rfl⟩
  | n + 1, s, l, s1, hs, e => by
    obtain ⟨x, s2, h1, h2⟩ := bind_D e
    have e1 := h s x s2 hs h1
    obtain ⟨l', s3, h3, h4⟩ := bind_D h2
    obtain ⟨e2, hl⟩ := many_enc h n s2 l' s3 (oct_tail hs e1) h3
    obtain ⟨rfl, rfl⟩ := pure_D h4
    exact ⟨by rw [e1, e2, List.flatMap_cons, List.append_assoc], by simp [hl]⟩
theorem flag_all : ∀ n : Fin 256, u8 (paramN (flagP ((n.val : Nat) : Int))) = ((n.val : Nat) : Int) := by decide +kernel
theorem param_enc : Enc paramD paramL := by
  intro s x s1 hs h
  obtain ⟨v, s2, h1, h2⟩ := bind_D h
  obtain ⟨e1, g0, g1⟩ := num1_enc hs h1
  obtain ⟨rfl, rfl⟩ := pure_D h2
  have := flag_all ⟨v.toNat, by omega⟩
  have e : ((v.toNat : Nat) : Int) = v := by omega
  simp only [e] at this
  unfold paramL
  rw [this, e1, u8_same g0 g1]
theorem item_enc : Enc itemD itemL := by
  intro s x s1 hs h
  obtain ⟨a, z1, h1, h⟩ := bind_D h
  obtain ⟨e1, _⟩ := num1_enc hs h1
  have o1 := oct_tail hs e1
  obtain ⟨b, z2, h2, h⟩ := bind_D h
  obtain ⟨e2, _⟩ := num1_enc o1 h2
  have o2 := oct_tail o1 e2
  obtain ⟨c, z3, h3, h⟩ := bind_D h
  obtain ⟨e3, _⟩ := num1_enc o2 h3
  have o3 := oct_tail o2 e3
  obtain ⟨e, z4, h4, h⟩ := bind_D h
  have e4 := num8_enc o3 h4
  have o4 := oct_tail o3 e4
  obtain ⟨n, z5, h5, h⟩ := bind_D h
  have e5 := text_enc _ _ _ o4 h5
  have o5 := oct_tail o4 e5
  obtain ⟨m, z6, h6, h⟩ := bind_D h
  obtain ⟨e6, g0, g1⟩ := num1_enc o5 h6
  have o6 := oct_tail o5 e6
  obtain ⟨ps, z7, h7, h⟩ := bind_D h
  obtain ⟨e7, hl⟩ := many_enc param_enc _ _ _ _ o6 h7
  obtain ⟨rfl, rfl⟩ := pure_D h
  have hm : ((ps.length : Nat) : Int) = m := by omega
  unfold itemL headL
  simp only [hm]
  rw [e1, e2, e3, e4, e5, e6, e7]
  simp only [List.append_assoc, List.cons_append, List.nil_append]
theorem face_enc : Enc faceD faceL := by
  intro s x s1 hs h
  obtain ⟨u, z1, h1, h⟩ := bind_D h
  obtain ⟨l, z0, h0, hh⟩ := bind_D h1
  obtain ⟨e0, _⟩ := take_enc h0
  have e1 : s = [79, 73, 49] ++ z1 := by
    split at hh
    · rename_i hl
      simp only [Option.some.injEq, Prod.mk.injEq] at hh
      rw [e0, hl, hh.2]
    · cases hh
  have o1 := oct_tail hs e1
  obtain ⟨n, z2, h2, h⟩ := bind_D h
  have e2 := text_enc _ _ _ o1 h2
  have o2 := oct_tail o1 e2
  obtain ⟨m, z3, h3, h⟩ := bind_D h
  obtain ⟨e3, g0, g1⟩ := num1_enc o2 h3
  have o3 := oct_tail o2 e3
  obtain ⟨l', z4, h4, h⟩ := bind_D h
  obtain ⟨e4, hl⟩ := many_enc item_enc _ _ _ _ o3 h4
  obtain ⟨rfl, rfl⟩ := pure_D h
  have hm : ((l'.length : Nat) : Int) = m := by omega
  unfold faceL faceH
  simp only [hm]
  rw [e1, e2, e3, e4]
  simp only [List.append_assoc, List.cons_append, List.nil_append]
end Go.Proofs.YtoclajfeeebbbabGreatDoor.V
