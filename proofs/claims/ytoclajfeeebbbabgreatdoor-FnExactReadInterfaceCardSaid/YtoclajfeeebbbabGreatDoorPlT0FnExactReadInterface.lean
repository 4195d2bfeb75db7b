/- Reading: loops over decoders. -/
import Derived.Test.YtoclajfeeebbbabGreatDoorPlSFnExactReadInterface
set_option linter.unusedVariables false
set_option linter.unusedSimpArgs false
namespace Go.Proofs.YtoclajfeeebbbabGreatDoor.V
open Go.RowKit Go.Proofs.YtoclajfeeebbbabGreatDoor.E
theorem got_none {α : Type} (d : D α) (v : α) : Got none d v := fun _ _ h => by cases h
theorem nxt_none {α : Type} (d : D α) : nxt none d = none := rfl
theorem numD1_cons {x : Int} {s : List Int} (h0 : 0 ≤ x) (h1 : x < 256) : numD 1 (x :: s) = some (x, s) := by
  have e : takeD 1 (x :: s) = some ([x], s) := by unfold takeD; rw [if_pos (by simp)]; rfl
  unfold numD D.bind
  rw [e]
  show some (numV [x], s) = _
  rw [numV_one h0 h1]
section
variable {α : Type} {R : Int → Bool → Option (List Int) → Prop}
/-- A loop that goes on where nothing is left. -/
theorem up_loop {d : D α} {ok : α → Prop} {n : Nat} (hn : n ≤ 65535) (L : Nat → Int → Int → Bool → List α → Option (Int × Bool × List α))
    (hend : ∀ k at_ bad acc, L (k + 1) (n : Int) at_ bad acc = some (at_, bad, acc))
    (hstep : ∀ (i : Nat) at_ bad o acc, i < n → R at_ bad o → acc.length ≤ i → ∃ at1 bad1 x, ok x ∧ R at1 bad1 (nxt o d) ∧ Got o d x ∧ ∀ r, Evr (fun k => L k ((i + 1 : Nat) : Int) at1 bad1 (acc ++ [x])) r → Evr (fun k => L k (i : Int) at_ bad acc) r) :
    ∀ (m i : Nat) (at_ : Int) (bad : Bool) (o : Option (List Int)) (acc : List α), i + m = n → R at_ bad o → acc.length ≤ i →
      ∃ at2 bad2 l, Evr (fun k => L k (i : Int) at_ bad acc) (at2, bad2, acc ++ l) ∧ l.length ≤ m ∧ (∀ x ∈ l, ok x) ∧ R at2 bad2 (nxt o (D.many d m)) ∧ Got o (D.many d m) l
  | 0, i, at_, bad, o, acc, hm, h, ha => by
    obtain rfl : i = n := by omega
    refine ⟨at_, bad, [], ?_, Nat.le_refl _, fun x hx => (by cases hx), ?_, got_pure _ _⟩
    · rw [List.append_nil]
      exact ev_step _ (fun k => hend k at_ bad acc) ev_some
    · show R at_ bad (nxt o (D.pure []))
      rw [nxt_pure]
      exact h
  | m + 1, i, at_, bad, o, acc, hm, h, ha => by
    obtain ⟨at1, bad1, x, o1, r1, g1, e1⟩ := hstep i at_ bad o acc (by omega) h ha
    obtain ⟨at2, bad2, l, e3, hl, o3, r3, g3⟩ := up_loop hn L hend hstep m (i + 1) at1 bad1 (nxt o d) (acc ++ [x]) (by omega) r1 (by simp; omega)
    refine ⟨at2, bad2, x :: l, e1 _ ?_, by simp; omega, fun y hy => ?_, ?_, got_snoc g1 g3⟩
    · rw [List.append_assoc] at e3
      exact e3
    · rcases List.mem_cons.1 hy with rfl | hy
      · exact o1
      · exact o3 y hy
    · rw [nxt_snoc g1 g3]
      exact r3
/-- A loop that ends where nothing is left. -/
theorem down_loop (hno : ∀ {at_ bad}, R at_ bad none → bad = true) (hyes : ∀ {at_ bad s}, R at_ bad (some s) → bad = false) {d : D α} {ok : α → Prop} {B : Nat} (L : Nat → Nat → Int → Bool → List α → Option (Int × Bool × List α))
    (hend : ∀ k z at_ bad acc, (z = 0 ∨ bad = true) → z ≤ B → L (k + 1) z at_ bad acc = some (at_, bad, acc))
    (hstep : ∀ (z : Nat) at_ s acc, z + 1 ≤ B → R at_ false (some s) → acc.length + (z + 1) ≤ B → ∃ at1 bad1 x, ok x ∧ R at1 bad1 (nxt (some s) d) ∧ Got (some s) d x ∧ ∀ r, Evr (fun k => L k z at1 bad1 (acc ++ [x])) r → Evr (fun k => L k (z + 1) at_ false acc) r) :
    ∀ (m : Nat) (at_ : Int) (bad : Bool) (o : Option (List Int)) (acc : List α), R at_ bad o → acc.length + m ≤ B →
      ∃ at2 bad2 l, Evr (fun k => L k m at_ bad acc) (at2, bad2, acc ++ l) ∧ l.length ≤ m ∧ (∀ x ∈ l, ok x) ∧ R at2 bad2 (nxt o (D.many d m)) ∧ Got o (D.many d m) l
  | m, at_, bad, none, acc, h, ha => by
    refine ⟨at_, bad, [], ?_, Nat.zero_le _, fun x hx => (by cases hx), h, got_none _ _⟩
    rw [List.append_nil]
    exact ev_step _ (fun k => hend k m at_ bad acc (.inr (hno h)) (by omega)) ev_some
  | 0, at_, bad, some s, acc, h, ha => by
    refine ⟨at_, bad, [], ?_, Nat.le_refl _, fun x hx => (by cases hx), ?_, got_pure _ _⟩
    · rw [List.append_nil]
      exact ev_step _ (fun k => hend k 0 at_ bad acc (.inl rfl) (by omega)) ev_some
    · show R at_ bad (nxt (some s) (D.pure []))
      rw [nxt_pure]
      exact h
  | m + 1, at_, bad, some s, acc, h, ha => by
    obtain rfl := hyes h
    obtain ⟨at1, bad1, x, o1, r1, g1, e1⟩ := hstep m at_ s acc (by omega) h ha
    obtain ⟨at2, bad2, l, e3, hl, o3, r3, g3⟩ := down_loop hno hyes L hend hstep m at1 bad1 (nxt (some s) d) (acc ++ [x]) r1 (by simp; omega)
    refine ⟨at2, bad2, x :: l, e1 _ ?_, by simp; omega, fun y hy => ?_, ?_, got_snoc g1 g3⟩
    · rw [List.append_assoc] at e3
      exact e3
    · rcases List.mem_cons.1 hy with rfl | hy
      · exact o1
      · exact o3 y hy
    · rw [nxt_snoc g1 g3]
      exact r3
end
end Go.Proofs.YtoclajfeeebbbabGreatDoor.V
