/- The engine, part AB: contracts of the library's functions, as the engine takes them. Plain lemmas; no program. -/
import Derived.Test.YtaikjjlbfdkgmaaDoorEngAA
set_option linter.unusedVariables false
set_option linter.unusedSectionVars false
set_option linter.unusedSimpArgs false
namespace Go.Proofs.YtaikjjlbfdkgmaaDoor.E
open Go.RowKit
variable [LaidFacts]

section
variable {P : Program}

def scArgs (vs : List Value) : List PV := vs.map fun v => ⟨.one, [.sc v]⟩

theorem Inv.scArgs {vs : List Value} {vals : Array Value} {w : World} {r : Rs} {bx : List (List PC)} {m : Nat} {fx : List Nat} (h : Inv P ⟨(E.scArgs vs).length, enum 0 (E.scArgs vs), bx, m, fx⟩ ⟨vals, []⟩ w r) : vals = vs.toArray := by
  have hsz : vals.size = vs.length := by rw [h.sz]; simp [E.scArgs]
  apply Array.ext
  · simpa using hsz
  · intro i h1 h2
    have hi : i < vs.length := by omega
    have hg : (⟨(E.scArgs vs).length, enum 0 (E.scArgs vs), bx, m, fx⟩ : St).get i = some ⟨.one, [.sc vs[i]]⟩ := by
      simp [St.get, look_enum, E.scArgs, hi]
    obtain ⟨v, k1, k2⟩ := h.tm i _ hg
    have hc := h.cell (.t i 0) (.sc vs[i]) (by simp [St.at, hg])
    have ha : alpha ⟨vals, []⟩ w r (.t i 0) = v := by
      have : vals[i]? = some v := k1
      simp only [alpha, Array.getD_eq_getD_getElem?, this, Option.getD_some, flat_one k2.2]; rfl
    rw [ha] at hc
    have hv : v = vs[i] := by
      obtain ⟨_, hc⟩ := hc
      cases hc with
      | s h => cases h; rfl
    have e2 : vals[i]? = some v := k1
    rw [Array.getElem?_eq_getElem h1] at e2
    simp only [List.getElem_toArray]
    rw [← hv]; exact Option.some.inj e2

/-- A frame of which nothing is known. -/
theorem Inv.bare {w : World} {Sh : Nat → Prop} {β : Nat → Nat} {κ : Nat → Value} (hSh : ∀ g, Sh g → g < w.heap.size) (hlw : LaidFacts.LW w Sh) (n : Nat) (vals : Array Value) (hn : vals.size = n) : Inv P ⟨n, [], [], 0, []⟩ ⟨vals, []⟩ w ⟨Sh, β, fun _ => none, κ⟩ := by
  refine ⟨hn, Nat.le_refl _, fun t pv ht => (by simp [St.get, look] at ht), fun b cs hb => (by simp at hb), fun p x hp => ?_, fun p x q hp => ?_, (fun p g hg => nomatch hg), (fun p q g hg => nomatch hg), (fun p g b hg => nomatch hg), (fun b b' hb => nomatch hb), fun g hg => ⟨hSh g hg, (fun _ h => nomatch h), (fun b hb => nomatch hb)⟩, rfl, hlw, fun _ h => by cases h⟩
  · cases p <;> simp [St.at, St.get, look] at hp
  · cases p <;> simp [St.at, St.get, look] at hp

/-- A function of single values that hands back single values. -/
theorem Fn.ofSc {f : FuncId} {vs : List Value} {res : PV} {v : Value} (hfit : res.sh.fits res.cs.length v) (hcell : ∀ (c : Nat) (x : PC), res.cs[c]? = some x → ∃ u, x = .sc u ∧ u.oneCell' = true ∧ (flat v).getD c undef = u)
    (H : ∀ (w : World) (Sh : Nat → Prop), LaidFacts.LW w Sh → Calls P f vs.toArray w fun e w' => e = .returned v ∧ Below w.heap.size w w') : Fn P f (E.scArgs vs) [] res [] := by
  intro vals w r hi
  obtain rfl := hi.scArgs
  refine (H w r.Sh hi.lw).mono fun e w' ⟨he, hb⟩ => ⟨v, ⟨r.Sh, r.β, fun _ => none, r.κ⟩, he, ?_, hb.os, hb.tape, hb.output, hb.size, fun g hg _ => hb.block g hg, fun _ h => h, fun _ h => .inl h, fun g hg => ?_, fun _ _ => rfl, rfl⟩
  · have hbare := Inv.bare (P := P) (w := w') (Sh := r.Sh) (β := r.β) (κ := r.κ) (fun g hg => Nat.lt_of_lt_of_le (hi.sh g hg).1 hb.size) (LaidFacts.mono (fun _ h => h) (fun g hg => hb.block g (hi.sh g hg).1) hi.lw) 1 #[undef] rfl
    have h1 := hbare.assign (t := 0) (v := v) (pv := res) (γc := fun _ => none) ⟨Nat.zero_lt_one, rfl⟩ hfit (fun c x hx => ?_) (fun c x q hx hq => ?_) (fun _ _ h => by cases h) (fun _ _ _ h => by cases h)
    · have h2 := h1
      simp only [St.assign, St.get, look, St.put] at h2
      have e1 : ((⟨r.Sh, r.β, fun _ => none, r.κ⟩ : Rs).dropT 0).setT 0 (fun _ => none) = ⟨r.Sh, r.β, fun _ => none, r.κ⟩ := by
        simp only [Rs.setT, Rs.dropT]
        congr 1
        funext p
        cases p with
        | t t c => simp only [ite_self]
        | b b c => rfl
      rw [e1] at h2
      exact h2
    · obtain ⟨u, rfl, h2, h3⟩ := hcell c x hx
      exact ⟨(fun q hq => by cases hq), rfl, (by rw [h3]; exact .s (.sc h2))⟩
    · obtain ⟨u, rfl, _⟩ := hcell c x hx
      cases hq
  · rcases hg with ⟨p, hp⟩ | ⟨b, hb', _⟩
    · cases hp
    · exact absurd hb' (Nat.not_lt_zero b)

theorem flat_ones : ∀ (us : List Value), (us.map fun u => [PC.sc u]).flatten = us.map PC.sc
  | [] => rfl
  | u :: us => by simp [flat_ones us]
/-- A function of single values that hands back a new row of single values. -/
theorem Fn.ofRow {f : FuncId} {vs : List Value} {e : TypeId} {us : List Value} (he : P.cellsOf e = 1) (h1 : ∀ u ∈ us, u.oneCell' = true) (hlen : us.length ≤ maxLen)
    (H : ∀ (w : World) (Sh : Nat → Prop), LaidFacts.LW w Sh → Calls P f vs.toArray w fun ex w' => ex = .returned (.slice (some ⟨w.heap.size, 0, none⟩) us.length us.length) ∧ w' = w.alloc (.cells us.toArray e)) : Fn P f (E.scArgs vs) [] ⟨.one, [.own e (us.map fun u => [.sc u])]⟩ [] := by
  intro vals w r hi
  obtain rfl := hi.scArgs
  refine (H w r.Sh hi.lw).mono fun ex w' ⟨he1, hw⟩ => ?_
  subst hw
  have hrow := World.ownsRow_lit (base := 0) (e := e) (size := 1) w us.toArray us.length (Nat.zero_le _) hlen (by simp)
  have hown : RepOwn P (w.alloc (.cells us.toArray e)) r.Sh e (us.map fun u => [PC.sc u]) (.slice (some ⟨w.heap.size, 0, none⟩) us.length us.length) (Value.slice (some ⟨w.heap.size, 0, none⟩) us.length us.length).ownBlock := by
    refine ⟨us, by rw [he, List.length_map]; exact hrow, rfl, fun el hel => by rw [he]; obtain ⟨u, _, rfl⟩ := List.mem_map.1 hel; rfl, fun i x hx => ?_⟩
    have hx' : (us.map PC.sc)[i]? = some x := by
      rw [← flat_ones]; exact hx
    rw [List.getElem?_map] at hx'
    obtain ⟨u, hu, rfl⟩ := Option.map_eq_some_iff.1 hx'
    exact ⟨u, hu, .sc (h1 u (List.mem_of_getElem? hu))⟩
  have hbare := Inv.bare (P := P) (w := w) (Sh := r.Sh) (β := r.β) (κ := r.κ) (fun g hg => (hi.sh g hg).1) hi.lw 1 #[undef] rfl
  have h2 := hbare.newRow (d := 0) ⟨Nat.zero_lt_one, rfl⟩ hown (fun g hg => heap_alloc_old w _ g hg) (by simp) (fun g hg => by simp [Value.ownBlock] at hg; omega)
  refine ⟨_, _, he1, h2, rfl, rfl, rfl, by simp, fun g hg _ => heap_alloc_old w _ g hg, fun _ h => h, fun _ h => .inl h, fun g hg => ?_, fun _ _ => rfl, rfl⟩
  rcases hg with ⟨p, hp⟩ | ⟨b, hb', _⟩
  · cases p with
    | t t c =>
      simp only [Rs.setT, Rs.dropT] at hp
      split at hp
      · split at hp
        · simp [Value.ownBlock] at hp; exact .inr (by omega)
        · cases hp
      · split at hp <;> cases hp
    | b b c => simp [Rs.setT, Rs.dropT] at hp
  · exact absurd hb' (Nat.not_lt_zero b)

end
end Go.Proofs.YtaikjjlbfdkgmaaDoor.E
