/- The engine, part U: operations that make one new value and touch nothing else; regions whose order is drawn. Plain lemmas; no program. -/
import Derived.Test.YtaikjjlbfdkgmaaDoorEngT
set_option linter.unusedVariables false
set_option linter.unusedSectionVars false
set_option linter.unusedSimpArgs false
namespace Go.Proofs.YtaikjjlbfdkgmaaDoor.E
open Go.RowKit
variable [LaidFacts]

/-- What an operation newly made: the memory that stood, stands. -/
structure News (P : Program) (st : St) (a : Act) (w : World) (r : Rs) (pv : PV) (v : Value) (w' : World) (Sn : Nat → Prop) (γd : Nat → Option Nat) : Prop where
  os : w'.os = w.os
  tape : w'.tape = w.tape
  output : w'.output = w.output
  size : w.heap.size ≤ w'.heap.size
  block : ∀ g, g < w.heap.size → w'.heap[g]? = w.heap[g]?
  sh : ∀ g, r.Sh g → Sn g
  shNew : ∀ g, Sn g → r.Sh g ∨ (w.heap.size ≤ g ∧ g < w'.heap.size)
  fit : pv.sh.fits pv.cs.length v
  cell : ∀ c x, pv.cs[c]? = some x → RepC P w' { r with Sh := Sn } st (alpha a w r) x ((flat v).getD c undef) (γd c)
  nm : ∀ (c : Nat) (x : PC) (q : Place), pv.cs[c]? = some x → x.names = some q → st.ex q
  own : ∀ c g, γd c = some g → (∃ e xs, pv.cs[c]? = some (.own e xs)) ∧ w.heap.size ≤ g ∧ ¬ Sn g
  inj : ∀ c c' g, γd c = some g → γd c' = some g → c = c'

/-- An operation that makes one new value. -/
def DOp (P : Program) (o : Oper) (st : St) (pv : PV) : Prop :=
  ∀ a w r, Inv P st a w r → ∀ (K : Act → World → Prop) (Q : Exit → Act → World → Prop),
    (∀ v w' Sn γd, News P st a w r pv v w' Sn γd → K (a.put o.dst v) w') → o.wp P a w K Q

section
variable {P : Program} {st : St} {a : Act} {w : World} {r : Rs} {o : Oper}

/-- More is shared, the memory goes on. -/
theorem Inv.more (hi : Inv P st a w r) {w' : World} {Sn : Nat → Prop} (hs : w.heap.size ≤ w'.heap.size) (hw : ∀ g, g < w.heap.size → w'.heap[g]? = w.heap[g]?) (h1 : ∀ g, r.Sh g → Sn g) (h2 : ∀ g, Sn g → r.Sh g ∨ (w.heap.size ≤ g ∧ g < w'.heap.size)) : Inv P st a w' { r with Sh := Sn } := by
  have h0 := hi.world (w' := w') (fun g hg => hw g (by rcases hg with h | h; exact (hi.sh g h).1; exact hi.X_lt h)) hs
  refine ⟨h0.sz, h0.m, h0.tm, h0.bx, fun p x hx => ?_, h0.nm, h0.live, h0.inj, h0.exb, h0.bb, fun g hg => ?_, h0.defers, LaidFacts.mono h1 (fun _ _ => rfl) h0.lw, h0.fx⟩
  · have ha : alpha a w' { r with Sh := Sn } = alpha a w' r := by funext p; cases p <;> rfl
    rw [ha]
    exact (h0.cell p x hx).mono (fun g h => h1 g h) (fun _ _ => rfl) (fun _ _ => rfl) (fun b hb => ⟨hb, rfl⟩) (fun q _ hq => ⟨hq, rfl⟩)
  · rcases h2 g hg with h | ⟨h, h'⟩
    · exact h0.sh g h
    · refine ⟨h', fun p hp => ?_, fun b hb he => ?_⟩
      · have := hi.X_lt (.inl ⟨p, hp⟩); omega
      · have := hi.X_lt (.inr ⟨b, hb, he⟩); omega

theorem Inv.news (hi : Inv P st a w r) {d : Nat} {pv : PV} {v : Value} {w' : World} {Sn : Nat → Prop} {γd : Nat → Option Nat} (hd : st.okd d) (hno : st.get d = none) (h : News P st a w r pv v w' Sn γd) :
    ∃ r'', Inv P (st.put d pv) (a.put (some d) v) w' r'' ∧ Step st.m w r st.bx.length w' r'' st.bx.length := by
  have h1 := hi.more h.size h.block h.sh h.shNew
  have hal : ∀ q, st.lives q → alpha a w' { r with Sh := Sn } q = alpha a w r q := by
    intro q ⟨y, hy, _⟩
    cases q with
    | t t c => rfl
    | b b c => exact alpha_box_eq rfl (h.block _ (hi.X_lt (.inr ⟨b, (St.at_box hy).1, rfl⟩)))
  have h2 := h1.put (t := d) (v := v) (pv := pv) (γc := γd) hd hno (hi.noNames hno) h.fit (fun c x hx => ⟨fun q hq => ?_, ?_⟩) h.nm (fun c g hg => ?_) h.inj
  · refine ⟨_, h2, h.os, h.tape, h.output, h.size, fun g hg _ => h.block g hg, h.sh, fun g hg => (h.shNew g hg).elim .inl fun h => .inr (.inr h.1), fun g hg => ?_, fun _ _ => rfl, rfl⟩
    rcases hg with ⟨p, hp⟩ | hb
    · cases p with
      | t k c =>
        simp only [Rs.setT] at hp
        split at hp
        · exact .inr (h.own c g hp).2.1
        · exact .inl (.inl ⟨_, hp⟩)
      | b b c => exact .inl (.inl ⟨_, hp⟩)
    · exact .inl (.inr hb)
  · have := h.nm c x q hx hq
    cases q with
    | t k e =>
      obtain ⟨pv', this⟩ := this
      have : k ≠ d := fun e => by subst e; rw [hno] at this; cases this
      simp [Place.isT, this]
    | b b c => rfl
  · exact (h.cell c x hx).mono (fun _ h => h) (fun _ _ => rfl) (fun _ _ => rfl) (fun b hb => ⟨hb, rfl⟩) (fun q _ hq => ⟨hq, hal q hq⟩)
  · obtain ⟨k1, k2, k3⟩ := h.own c g hg
    refine ⟨k1, k3, fun hX => ?_⟩
    have : r.X st.bx.length g := hX
    have := hi.X_lt this
    omega

/-- One state is part of another. -/
structure Sub (s st : St) : Prop where
  n : s.n = st.n
  bx : s.bx = st.bx
  m : s.m = st.m
  fx : s.fx = st.fx
  get : ∀ t pv, s.get t = some pv → st.get t = some pv
  nm : ∀ p x q, s.at p = some x → x.names = some q → s.ex q

def Rs.sub (r : Rs) (s : St) : Rs := { r with γ := fun p => match p with
  | .t t c => if (s.get t).isSome then r.γ (.t t c) else none
  | p => r.γ p }

theorem Sub.at {s st : St} (h : Sub s st) {p : Place} {x : PC} (hx : s.at p = some x) : st.at p = some x := by
  cases p with
  | t t c =>
    obtain ⟨pv, h1, h2⟩ := St.at_tmp hx
    simp [St.at, h.get t pv h1, h2]
  | b b c => simp only [St.at, h.bx] at hx ⊢; exact hx
theorem Sub.lives {s st : St} (h : Sub s st) {p : Place} (hp : s.lives p) : st.lives p := by
  obtain ⟨y, h1, h2⟩ := hp
  exact ⟨y, h.at h1, h2⟩
theorem Sub.back {s st : St} (h : Sub s st) {p : Place} (hp : s.ex p) : s.at p = st.at p := by
  cases p with
  | t t c =>
    obtain ⟨pv, hp⟩ := hp
    simp [St.at, hp, h.get t pv hp]
  | b b c => simp only [St.at, h.bx]
theorem Sub.livesBack {s st : St} (h : Sub s st) {p : Place} (he : s.ex p) (hp : st.lives p) : s.lives p := by
  obtain ⟨y, h1, h2⟩ := hp
  exact ⟨y, by rw [h.back he]; exact h1, h2⟩

theorem Rs.sub_some {s : St} {p : Place} {g : Nat} (h : (r.sub s).γ p = some g) : r.γ p = some g := by
  cases p with
  | t t c =>
    simp only [Rs.sub] at h
    split at h
    · exact h
    · cases h
  | b b c => exact h
theorem Rs.sub_at {s : St} {p : Place} {x : PC} (h : s.at p = some x) : (r.sub s).γ p = r.γ p := by
  cases p with
  | t t c =>
    obtain ⟨pv, h1, _⟩ := St.at_tmp h
    simp [Rs.sub, h1]
  | b b c => rfl

theorem Inv.sub (hi : Inv P st a w r) {s : St} (h : Sub s st) : Inv P s a w (r.sub s) := by
  refine ⟨by rw [h.n]; exact hi.sz, by rw [h.m, h.bx]; exact hi.m, fun t pv ht => hi.tm t pv (h.get t pv ht), fun b cs hb => hi.bx b cs (by rw [← h.bx]; exact hb), fun p x hx => ?_, h.nm, fun p g hg => ?_, fun p q g hp hq => hi.inj p q g (Rs.sub_some hp) (Rs.sub_some hq), fun p g b hp hb => hi.exb p g b (Rs.sub_some hp) (by rw [← h.bx]; exact hb), by rw [h.bx]; exact hi.bb, fun g hg => ?_, hi.defers, hi.lw, by rw [h.fx]; exact hi.fx⟩
  · rw [Rs.sub_at hx]
    have ha : alpha a w (r.sub s) = alpha a w r := by funext q; cases q <;> rfl
    rw [ha]
    exact (hi.cell p x (h.at hx)).mono (fun _ h => h) (fun _ _ => rfl) (fun _ _ => rfl) (fun b hb => ⟨by rw [h.bx]; exact hb, rfl⟩) (fun q _ hq => ⟨h.lives hq, rfl⟩)
  · obtain ⟨e, xs, hx⟩ := hi.live p g (Rs.sub_some hg)
    refine ⟨e, xs, ?_⟩
    cases p with
    | t t c =>
      simp only [Rs.sub] at hg
      split at hg
      · rename_i hs
        obtain ⟨pv, hs⟩ := Option.isSome_iff_exists.1 hs
        rw [h.back (p := .t t c) ⟨pv, hs⟩]; exact hx
      · cases hg
    | b b c => simp only [St.at, h.bx] at hx ⊢; exact hx
  · obtain ⟨h1, h2, h3⟩ := hi.sh g hg
    exact ⟨h1, fun p hp => h2 p (Rs.sub_some hp), by rw [h.bx]; exact h3⟩

theorem News.up {s : St} {pv : PV} {v : Value} {w' : World} {Sn : Nat → Prop} {γd : Nat → Option Nat} (h : Sub s st) (k : News P s a w (r.sub s) pv v w' Sn γd) : News P st a w r pv v w' Sn γd := by
  refine ⟨k.os, k.tape, k.output, k.size, k.block, k.sh, k.shNew, k.fit, fun c x hx => ?_, fun c x q hx hq => ?_, k.own, k.inj⟩
  · have ha : alpha a w (r.sub s) = alpha a w r := by funext q; cases q <;> rfl
    have := k.cell c x hx
    rw [ha] at this
    exact this.mono (fun _ h => h) (fun _ _ => rfl) (fun _ _ => rfl) (fun b hb => ⟨by rw [← h.bx]; exact hb, rfl⟩) (fun q hq hl => ⟨h.livesBack (k.nm c x q hx hq) hl, rfl⟩)
  · have := k.nm c x q hx hq
    cases q with
    | t t c => obtain ⟨pv, this⟩ := this; exact ⟨pv, h.get t pv this⟩
    | b b c => simp only [St.ex, h.bx] at this ⊢; exact this

/-! What makes one new value. -/
theorem Reads.dop {pv : PV} (h : Reads P o st pv) : DOp P o st pv := by
  intro a w r hi K Q hK
  obtain ⟨v, hrun, hv⟩ := h a w r hi
  unfold Oper.wp
  rw [hrun, Oper.upon_value]
  refine hK v w r.Sh (fun _ => none) ⟨rfl, rfl, rfl, Nat.le_refl _, fun _ _ => rfl, fun _ h => h, fun _ h => .inl h, hv.1, fun c x hx => (hv.2 c x hx).1, fun c x q hx hq => (hv.2 c x hx).2 q hq, (fun _ _ h => by cases h), (fun _ _ _ h => by cases h)⟩

/-- What a callee leaves. -/
theorem News.called (hi : Inv P st a w r) {res : PV} {v : Value} {w' : World} {rc r' : Rs} (hs : Step 0 w rc 0 w' r' 0) (hc : Inv P ⟨1, [(0, res)], [], 0, []⟩ ⟨#[v], []⟩ w' r') (hcγ : ∀ p, rc.γ p = none) {Sn : Nat → Prop}
    (hfree : res.cs.all (·.free 0) = true) (hSn1 : ∀ g, r.Sh g → Sn g) (hSn2 : ∀ g, Sn g → r.Sh g ∨ (w.heap.size ≤ g ∧ r'.Sh g))
    (hcell : ∀ (x : PC) (u : Value) (g : Option Nat), x ∈ res.cs → RepC P w' r' ⟨1, [(0, res)], [], 0, []⟩ (alpha ⟨#[v], []⟩ w' r') x u g → RepC P w' { r with Sh := Sn } st (alpha a w r) x u g) :
    News P st a w r res v w' Sn (fun c => if c < res.cs.length then r'.γ (.t 0 c) else none) := by
  have hXc : ∀ g, ¬ rc.X 0 g := fun g hg => by
    rcases hg with ⟨p, hp⟩ | ⟨b, hb, _⟩
    · rw [hcγ] at hp; cases hp
    · omega
  have hw : ∀ g, g < w.heap.size → w'.heap[g]? = w.heap[g]? := fun g hg => hs.block g hg (hXc g)
  have hnew : ∀ c g, r'.γ (.t 0 c) = some g → w.heap.size ≤ g := fun c g hg => by
    rcases hs.x g (.inl ⟨_, hg⟩) with h | h
    · exact absurd h (hXc g)
    · exact h
  obtain ⟨v', hv', hfit⟩ := hc.tm 0 res rfl
  have : v' = v := by simpa using hv'.symm
  subst this
  refine ⟨hs.os, hs.tape, hs.output, hs.size, hw, hSn1, fun g hg => (hSn2 g hg).elim .inl fun h => .inr ⟨h.1, (hc.sh g h.2).1⟩, hfit, fun c x hx => ?_, fun c x q hx hq => ?_, fun c g hg => ?_, fun c c' g hg hg' => ?_⟩
  · have hxm := List.mem_of_getElem? hx
    have hlt : c < res.cs.length := (List.getElem?_eq_some_iff.1 hx).1
    simp only [hlt, if_true]
    have h3 := hc.cell (.t 0 c) x (by simp [St.at, St.get, look, hx])
    have ha : alpha ⟨#[v'], []⟩ w' r' (.t 0 c) = (flat v').getD c undef := rfl
    rw [ha] at h3
    exact hcell x _ _ hxm h3
  · rw [free_names (List.all_eq_true.1 hfree x (List.mem_of_getElem? hx))] at hq; cases hq
  · split at hg
    · rename_i hlt
      have hge := hnew c g hg
      obtain ⟨e, xs, hx⟩ := hc.live _ g hg
      simp only [St.at, St.get, look, if_true, Option.bind_some] at hx
      refine ⟨⟨e, xs, hx⟩, hge, fun hsn => ?_⟩
      rcases hSn2 g hsn with h | ⟨_, h⟩
      · have := (hi.sh g h).1; omega
      · exact (hc.sh g h).2.1 _ hg
    · cases hg
  · split at hg <;> split at hg' <;> try (first | (cases hg; done) | (cases hg'; done))
    have := hc.inj _ _ g hg hg'
    cases this; rfl

/-- A new row of its own. -/
theorem News.row (hi : Inv P st a w r) {w' : World} {e : TypeId} {xs : List (List PC)} {v : Value} (hown : RepOwn P w' r.Sh e xs v v.ownBlock) (ho : w'.os = w.os) (ht : w'.tape = w.tape) (hp : w'.output = w.output)
    (hw : ∀ g, g < w.heap.size → w'.heap[g]? = w.heap[g]?) (hs : w.heap.size ≤ w'.heap.size) (hnew : ∀ g, v.ownBlock = some g → w.heap.size ≤ g) :
    News P st a w r ⟨.one, [.own e xs]⟩ v w' r.Sh (fun c => if c = 0 then v.ownBlock else none) := by
  have h1 : v.oneCell' = true := by
    obtain ⟨vals, ho, _⟩ := hown
    rcases ho.2 with ⟨rfl, _⟩ | ⟨_, _, _, rfl, _⟩ <;> rfl
  refine ⟨ho, ht, hp, hs, hw, fun _ h => h, fun _ h => .inl h, ⟨rfl, h1⟩, fun c x hx => ?_, fun c x q hx hn => ?_, fun c g hg => ?_, fun c c' g hg hg' => ?_⟩
  · cases c with
    | zero =>
      simp only [List.getElem?_cons_zero, Option.some.injEq] at hx
      subst hx
      rw [flat_one h1]
      exact hown
    | succ c => simp at hx
  · cases c with
    | zero =>
      simp only [List.getElem?_cons_zero, Option.some.injEq] at hx
      subst hx
      simp [PC.names] at hn
    | succ c => simp at hx
  · split at hg
    · rename_i hc
      subst hc
      exact ⟨⟨e, xs, rfl⟩, hnew g hg, fun hsn => by have := (hi.sh g hsn).1; have := hnew g hg; omega⟩
    · cases hg
  · split at hg <;> split at hg' <;> first | (cases hg; done) | (cases hg'; done) | omega
end
end Go.Proofs.YtaikjjlbfdkgmaaDoor.E
