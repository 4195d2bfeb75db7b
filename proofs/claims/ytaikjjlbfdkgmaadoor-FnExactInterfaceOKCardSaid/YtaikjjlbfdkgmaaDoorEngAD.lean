/- The engine, part AD: contracts of functions that read a shared row. Plain lemmas; no program. -/
import Derived.Test.YtaikjjlbfdkgmaaDoorEngAC
set_option linter.unusedVariables false
set_option linter.unusedSectionVars false
set_option linter.unusedSimpArgs false
namespace Go.Proofs.YtaikjjlbfdkgmaaDoor.E
open Go.RowKit
variable [LaidFacts]

section
variable {P : Program}

/-- The first argument, one cell. -/
theorem Inv.arg0 {x : PC} {rest : List PV} {vals : Array Value} {w : World} {r : Rs} {n m : Nat} {bx : List (List PC)} {fx : List Nat} (h : Inv P ⟨n, enum 0 (⟨.one, [x]⟩ :: rest), bx, m, fx⟩ ⟨vals, []⟩ w r) :
    ∃ v, vals[0]? = some v ∧ RepC P w r ⟨n, enum 0 (⟨.one, [x]⟩ :: rest), bx, m, fx⟩ (alpha ⟨vals, []⟩ w r) x v (r.γ (.t 0 0)) := by
  have hg : (⟨n, enum 0 (⟨.one, [x]⟩ :: rest), bx, m, fx⟩ : St).get 0 = some ⟨.one, [x]⟩ := by
    simp [St.get, look_enum]
  obtain ⟨v, k1, k2⟩ := h.tm 0 _ hg
  have hc := h.cell (.t 0 0) x (by simp [St.at, hg])
  have ha : alpha ⟨vals, []⟩ w r (.t 0 0) = v := by
    have : vals[0]? = some v := k1
    simp only [alpha, Array.getD_eq_getD_getElem?, this, Option.getD_some, flat_one k2.2]; rfl
  rw [ha] at hc
  exact ⟨v, k1, hc⟩

/-- A function that reads one shared row, and hands back single values. -/
theorem Fn.ofSl {f : FuncId} {s : Nat} {xs : List (List PC)} {res : PV} {v : Value} (hfit : res.sh.fits res.cs.length v) (hcell : ∀ (c : Nat) (x : PC), res.cs[c]? = some x → ∃ u, x = .sc u ∧ u.oneCell' = true ∧ (flat v).getD c undef = u)
    (H : ∀ (w : World) (Sh : Nat → Prop) (u : Value), LaidFacts.LW w Sh → (∀ g, Sh g → g < w.heap.size) → RepS w Sh (.sl s xs) u → Calls P f #[u] w fun e w' => e = .returned v ∧ Below w.heap.size w w') : Fn P f [⟨.one, [.sl s xs]⟩] [] res [] := by
  intro vals w r hi
  obtain ⟨u, hu, hc⟩ := hi.arg0
  have hsz : vals.size = 1 := hi.sz
  obtain rfl : vals = #[u] := by
    apply Array.ext
    · simpa using hsz
    · intro i h1 h2
      obtain rfl : i = 0 := by simp at h2; omega
      rw [Array.getElem?_eq_getElem h1] at hu
      simpa using hu
  have hrs : RepS w r.Sh (.sl s xs) u := by
    obtain ⟨_, hc⟩ := hc
    cases hc with
    | s h => exact h
  refine (H w r.Sh u hi.lw (fun g hg => (hi.sh g hg).1) hrs).mono fun e w' ⟨he, hb⟩ => ⟨v, ⟨r.Sh, r.β, fun _ => none, r.κ⟩, he, ?_, hb.os, hb.tape, hb.output, hb.size, fun g hg _ => hb.block g hg, fun _ h => h, fun _ h => .inl h, fun g hg => ?_, fun _ _ => rfl, rfl⟩
  · have hbare := Inv.bare (P := P) (w := w') (Sh := r.Sh) (β := r.β) (κ := r.κ) (fun g hg => Nat.lt_of_lt_of_le (hi.sh g hg).1 hb.size) (LaidFacts.mono (fun _ h => h) (fun g hg => hb.block g (hi.sh g hg).1) hi.lw) 1 #[undef] rfl
    have h1 := hbare.assign (t := 0) (v := v) (pv := res) (γc := fun _ => none) ⟨Nat.zero_lt_one, rfl⟩ hfit (fun c x hx => ?_) (fun c x q hx hq => ?_) (fun _ _ h => by cases h) (fun _ _ _ h => by cases h)
    · have h2 := h1
      simp only [St.assign, St.get, look, St.put] at h2
      have e1 : ((⟨r.Sh, r.β, fun _ => none, r.κ⟩ : Rs).dropT 0).setT 0 (fun _ => none) = ⟨r.Sh, r.β, fun _ => none, r.κ⟩ := by
        simp only [Rs.setT, Rs.dropT]
        congr 1
        funext p
        cases p with
        | t t c => simp only [ite_self]
        | b b c => rfl
      rw [e1] at h2
      exact h2
    · obtain ⟨u, rfl, h2, h3⟩ := hcell c x hx
      exact ⟨(fun q hq => by cases hq), rfl, (by rw [h3]; exact .s (.sc h2))⟩
    · obtain ⟨u, rfl, _⟩ := hcell c x hx
      cases hq
  · rcases hg with ⟨p, hp⟩ | ⟨b, hb', _⟩
    · cases hp
    · exact absurd hb' (Nat.not_lt_zero b)
end
end Go.Proofs.YtaikjjlbfdkgmaaDoor.E
