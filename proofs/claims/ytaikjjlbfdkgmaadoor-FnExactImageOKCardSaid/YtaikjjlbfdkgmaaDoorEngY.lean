/- The engine, part Y: states in a fixed order; boxes cut off; joins. Plain lemmas; no program. -/
import Derived.Test.YtaikjjlbfdkgmaaDoorEngX
set_option linter.unusedVariables false
set_option linter.unusedSectionVars false
set_option linter.unusedSimpArgs false
namespace Go.Proofs.YtaikjjlbfdkgmaaDoor.E
open Go.RowKit
variable [LaidFacts]

/-- These temporaries, in this order. -/
def pickIn (tm : List (Nat × PV)) : List Nat → List (Nat × PV)
  | [] => []
  | t :: ts => match look tm t with
    | some pv => (t, pv) :: pickIn tm ts
    | none => pickIn tm ts
theorem look_pickIn {tm : List (Nat × PV)} {t : Nat} : ∀ {ts : List Nat}, look (pickIn tm ts) t = if ts.contains t then look tm t else none
  | [] => by simp [pickIn, look]
  | u :: ts => by
    simp only [pickIn]
    by_cases hu : u = t
    · subst hu
      simp only [List.contains_cons, beq_self_eq_true, Bool.true_or, if_true]
      cases h : look tm u with
      | none =>
        simp only []
        rw [look_pickIn]
        split
        · exact h
        · rfl
      | some pv => simp [look]
    · have hc : (u :: ts).contains t = ts.contains t := by
        have : (t == u) = false := by simpa using fun e => hu (Eq.symm e)
        rw [List.contains_cons, this, Bool.false_or]
      rw [hc]
      split
      · simp only [look, if_neg hu]; exact look_pickIn
      · exact look_pickIn

def St.sel (st : St) (ts : List Nat) : St := { st.keep ts with tm := pickIn (st.keep ts).tm ts }

/-- Does a cell keep off the boxes from n on? -/
def PC.okN (n : Nat) : PC → Bool
  | .al (.b b _) | .vw (.b b _) .. | .el (.b b _) .. => Nat.ble (b + 1) n
  | .ref b _ => Nat.ble (b + 1) n
  | .fn _ caps => caps.all fun x => match x with
    | .ref b _ => Nat.ble (b + 1) n
    | .fn .. | .al _ | .vw .. | .el .. | .own .. | .dead => false
    | _ => true
  | _ => true
def cutB (st : St) (n : Nat) : Bool := Nat.ble st.m n && Nat.ble n st.bx.length && st.tm.all (fun x => x.2.cs.all (PC.okN n)) && (st.bx.take n).all fun cs => cs.all (PC.okN n)
def St.cut (st : St) (n : Nat) : St := { st with bx := st.bx.take n }

section
variable {P : Program} {st : St} {a : Act} {w : World} {r : Rs}

theorem Turns.sel (ts : List Nat) : Turns P st (st.sel ts) := by
  refine (Turns.keep ts).trans (Turns.ext (fun t => ?_) rfl rfl rfl)
  simp only [St.sel, St.get, look_pickIn]
  split
  · rfl
  · rename_i h
    have := St.get_dropP st (fun t => !ts.contains t) t
    have h' : (!ts.contains t) = true := by simpa using h
    rw [h', if_pos rfl] at this
    exact this.symm

theorem okN_names {n : Nat} {x : PC} (h : x.okN n = true) {b c : Nat} (hn : x.names = some (.b b c)) : b < n := by
  cases x <;> simp only [PC.names] at hn <;> try (cases hn; done)
  all_goals
    cases hn
    exact Nat.le_of_ble_eq_true h

theorem okN_free {n : Nat} {x : PC} (h : x.okN n = true) (hn : x.names = none) (hd : x ≠ .dead) : x.free n = true := by
  cases x <;> simp only [PC.names] at hn <;> try (cases hn; done)
  case ref b off =>
    simp only [PC.okN] at h
    simp only [PC.free, decide_eq_true_eq]
    exact Nat.le_of_ble_eq_true h
  case fn f caps =>
    simp only [PC.okN] at h
    simp only [PC.free]
    refine List.all_eq_true.2 fun y hy => ?_
    have := List.all_eq_true.1 h y hy
    cases y <;> simp only at this ⊢ <;> first
      | rfl
      | (cases this; done)
      | exact decide_eq_true (Nat.le_of_ble_eq_true this)
  case dead => exact absurd rfl hd
  all_goals rfl

theorem Turns.cut {n : Nat} (hc : cutB st n = true) : Turns P st (st.cut n) := by
  intro a w r hi
  simp only [cutB, Bool.and_eq_true] at hc
  obtain ⟨⟨⟨hm, hn⟩, ht⟩, hb⟩ := hc
  have hm := Nat.le_of_ble_eq_true hm
  have hn := Nat.le_of_ble_eq_true hn
  have hlen : (st.cut n).bx.length = n := by simp only [St.cut, List.length_take]; omega
  have hat : ∀ p x, (st.cut n).at p = some x → st.at p = some x ∧ x.okN n = true ∧ ∀ b c, p = .b b c → b < n := by
    intro p x hx
    cases p with
    | t t c =>
      obtain ⟨pv, h1, h2⟩ := St.at_tmp hx
      exact ⟨hx, List.all_eq_true.1 (List.all_eq_true.1 ht _ (look_mem h1)) x (List.mem_of_getElem? h2), fun b c h => by cases h⟩
    | b b c =>
      obtain ⟨h0, cs, h1, h2⟩ := St.at_box hx
      have h3 : st.bx[b]? = some cs := by
        have hbn : b < n := by rw [hlen] at h0; exact h0
        simp only [St.cut, List.getElem?_take, hbn, if_true] at h1
        exact h1
      exact ⟨by simp [St.at, h3, h2], List.all_eq_true.1 (List.all_eq_true.1 hb cs (List.mem_of_getElem? h1)) x (List.mem_of_getElem? h2), fun b' c' h => by cases h; rw [hlen] at h0; exact h0⟩
  have hback : ∀ p x, st.at p = some x → (∀ b c, p = .b b c → b < n) → (st.cut n).at p = some x := by
    intro p x hx hp
    cases p with
    | t t c => exact hx
    | b b c =>
      have hbn := hp b c rfl
      simp only [St.at, St.cut, List.getElem?_take, hbn, if_true] at hx ⊢
      exact hx
  have hγ : ∀ p g, (match p with | .b b c => if b < n then r.γ (.b b c) else none | p => r.γ p) = some g → r.γ p = some g ∧ ∀ b c, p = .b b c → b < n := by
    intro p g hg
    cases p with
    | t t c => exact ⟨hg, fun b c h => by cases h⟩
    | b b c =>
      simp only at hg
      split at hg
      · rename_i h; exact ⟨hg, fun b' c' e => by cases e; exact h⟩
      · cases hg
  have hγ' : ∀ p, (∀ b c, p = .b b c → b < n) → (match p with | .b b c => if b < n then r.γ (.b b c) else none | p => r.γ p) = r.γ p := by
    intro p hp
    cases p with
    | t t c => rfl
    | b b c => simp only [hp b c rfl, if_true]
  refine ⟨{ r with γ := fun p => match p with | .b b c => if b < n then r.γ (.b b c) else none | p => r.γ p }, rfl, ?_, rfl, rfl, rfl, Nat.le_refl _, fun _ _ _ => rfl, fun _ h => h, fun _ h => .inl h, fun g hg => ?_, fun _ _ => rfl, rfl⟩
  · have hal : alpha a w { r with γ := fun p => match p with | .b b c => if b < n then r.γ (.b b c) else none | p => r.γ p } = alpha a w r := by funext q; cases q <;> rfl
    refine ⟨hi.sz, by rw [hlen]; exact hm, hi.tm, fun b cs h => ?_, fun p x hx => ?_, fun p x q hx hq => ?_, fun p g hg => ?_, fun p q g hp hq => hi.inj p q g (hγ p g hp).1 (hγ q g hq).1, fun p g b hp hb => hi.exb p g b (hγ p g hp).1 (by rw [hlen] at hb; omega), fun b b' h1 h2 => hi.bb b b' (by rw [hlen] at h1; omega) (by rw [hlen] at h2; omega), fun g hg => ?_, hi.defers, hi.lw, hi.fx⟩
    · refine hi.bx b cs ?_
      simp only [St.cut, List.getElem?_take] at h
      split at h
      · exact h
      · cases h
    · obtain ⟨h1, h2, h3⟩ := hat p x hx
      rw [hal]
      have h4 := hi.cell p x h1
      simp only [hγ' p h3]
      cases hnm : x.names with
      | some q =>
        cases x <;> simp only [PC.names] at hnm <;> try (cases hnm; done)
        all_goals
          simp only [RepC] at h4 ⊢
          refine ⟨h4.1, fun hl => h4.2 ?_⟩
          obtain ⟨y, hy, hd⟩ := hl
          exact ⟨y, (hat _ y hy).1, hd⟩
      | none =>
        by_cases hd : x = .dead
        · subst hd; exact h4
        · have hf := okN_free h2 hnm hd
          exact h4.free (st' := st.cut n) (by rw [hlen]; exact hf) (fun _ h => h) (fun _ _ => rfl)
    · obtain ⟨h1, h2, h3⟩ := hat p x hx
      have h4 := hi.nm p x q h1 hq
      cases q with
      | t t c => exact h4
      | b b c => simp only [St.ex, hlen]; exact okN_names h2 hq
    · obtain ⟨h1, h2⟩ := hγ p g hg
      obtain ⟨e, xs, h3⟩ := hi.live p g h1
      exact ⟨e, xs, hback p _ h3 h2⟩
    · obtain ⟨h1, h2, h3⟩ := hi.sh g hg
      exact ⟨h1, fun p hp => h2 p (hγ p g hp).1, fun b hb => h3 b (by rw [hlen] at hb; omega)⟩
  · rcases hg with ⟨p, hp⟩ | ⟨b, hb, he⟩
    · exact .inl (.inl ⟨p, (hγ p g hp).1⟩)
    · exact .inl (.inr ⟨b, by rw [hlen] at hb; omega, he⟩)

/-- These temporaries, so many boxes, some cells turned. -/
def fin (P : Program) (ts : List Nat) (nb : Nat) (fx : List Fix) (st : St) : Option St :=
  match Nat.ble (st.sel ts).bx.length nb with
  | true => doFixes P (st.sel ts) fx
  | false => match cutB (st.sel ts) nb with
    | true => doFixes P ((st.sel ts).cut nb) fx
    | false => none
theorem fin_turns {ts : List Nat} {nb : Nat} {fx : List Fix} {st' : St} (h : fin P ts nb fx st = some st') : Turns P st st' := by
  unfold fin at h
  split at h
  · exact (Turns.sel ts).trans (doFixes_turns _ h)
  · split at h
    · exact (Turns.sel ts).trans ((Turns.cut ‹_›).trans (doFixes_turns _ h))
    · cases h

def evR (P : Program) (l : List Oper) (ts : List Nat) (nb : Nat) (fx : List Fix) (st : St) (hs : Hs) : Option (List Prop × St) :=
  match evN3 P l.toArray l.length 0 l st hs with
  | some (c, st', []) => match fin P ts nb fx st' with
    | some st'' => some (c, st'')
    | none => none
  | _ => none
def evRD (P : Program) (l : List Oper) (k : Nat) (A : List (List Nat)) (ts : List Nat) (nb : Nat) (fx : List Fix) (st : St) (hs : Hs) : Option (List Prop × St) :=
  match evDR P l k A st hs with
  | some (c, st', []) => match fin P ts nb fx st' with
    | some st'' => some (c, st'')
    | none => none
  | _ => none

theorem Tri.r1 {id : Nat} {l : List Oper} {Q : Exit → St → Prop} (ts : List Nat) (nb : Nat) (fx : List Fix) (hs : Hs) (q : List Prop) (st' : St) (h : evR P l ts nb fx st hs = some (q, st')) (hq : AllP q) (hy : Q .normal st') : Tri P (.region id l.toArray false) Q st := by
  unfold evR at h
  split at h
  · rename_i c st1 h1
    split at h
    · rename_i st2 h2
      cases h
      exact Tri.region (evN3_spec _ _ _ _ _ h1 hq (by rw [List.drop_length]; exact TriO.turn (fin_turns h2) (TriO.nil hy)))
    · cases h
  · cases h

theorem Tri.d1 {id : Nat} {l : List Oper} {Q : Exit → St → Prop} (hm : P.follows .mixedOrders = true) (k : Nat) (A : List (List Nat)) (ts : List Nat) (nb : Nat) (fx : List Fix) (hs : Hs) (q : List Prop) (st' : St) (h : evRD P l k A ts nb fx st hs = some (q, st')) (hq : AllP q) (hy : Q .normal st') :
    Tri P (.region id l.toArray true) Q st := by
  unfold evRD at h
  split at h
  · rename_i c0 st0 h0
    split at h
    · rename_i st2 h2
      cases h
      unfold evDR at h0
      split at h0
      · rename_i c D hs2 h3
        split at h0
        · rename_i hfr hck
          split at h0
          · rename_i c' st1 hs3 h4
            simp only [Option.some.injEq, Prod.mk.injEq] at h0
            obtain ⟨rfl, rfl, _⟩ := h0
            obtain ⟨qa, qb⟩ := AllP_append hq
            simp only [Bool.and_eq_true] at hck
            obtain ⟨⟨⟨⟨hfx, hk⟩, hle⟩, hanc⟩, htl⟩ := hck
            have hk := Nat.eq_of_beq_eq_true hk
            subst hk
            have hle' := Nat.le_of_ble_eq_true hle
            obtain ⟨E, h5, h6, h7⟩ := evD_spec (l.take D.length) 0 A [] hs rfl h3 qa
            have hE : E = D := by simpa using h5.symm
            subst hE
            have h8 := h7.left (l' := l.drop E.length) h6
            rw [List.take_append_drop] at h8
            refine Tri.draw hm E A hfx (by rw [hfr, hle, hanc, htl]; rfl) h8 ?_
            exact evN3_spec _ _ _ _ _ h4 qb (TriO.turn (fin_turns h2) (by rw [List.drop_eq_nil_of_le (by simp)]; exact TriO.nil hy))
          · cases h0
        · cases h0
      · cases h0
    · cases h
  · cases h

/-- One way alone goes on. -/
theorem Tri.rn {id : Nat} {l : List Oper} {y : Code} {Q : Exit → St → Prop} (ts : List Nat) (nb : Nat) (fx : List Fix) (hs : Hs) (q : List Prop) (st' : St) (h : evR P l ts nb fx st hs = some (q, st')) (hq : AllP q) (hy : Tri P y Q st') : Tri P (.seq (.region id l.toArray false) y) Q st :=
  Tri.seq (Tri.r1 ts nb fx hs q st' h hq hy)
theorem Tri.dn {id : Nat} {l : List Oper} {y : Code} {Q : Exit → St → Prop} (hm : P.follows .mixedOrders = true) (k : Nat) (A : List (List Nat)) (ts : List Nat) (nb : Nat) (fx : List Fix) (hs : Hs) (q : List Prop) (st' : St) (h : evRD P l k A ts nb fx st hs = some (q, st')) (hq : AllP q) (hy : Tri P y Q st') :
    Tri P (.seq (.region id l.toArray true) y) Q st :=
  Tri.seq (Tri.d1 hm k A ts nb fx hs q st' h hq hy)

theorem Bk.here {id : Nat} {Q : Exit → St → Prop} {st : St} (h : Q .normal st) : Bk id Q (.exit id) st := by simp only [Bk, if_true]; exact h
theorem Bk.there {id id' : Nat} {Q : Exit → St → Prop} {st : St} (hne : id' ≠ id) (h : Q (.exit id') st) : Bk id Q (.exit id') st := by simp only [Bk, if_neg hne]; exact h

/-- Several ways meet. -/
theorem Tri.join {x y : Code} {Q : Exit → St → Prop} {α : Type} (C : α → Prop) (S : α → St) (hy : ∀ v, C v → Tri P y Q (S v)) (hx : Tri P x (Ex (fun st => ∃ v, C v ∧ st = S v) Q) st) : Tri P (.seq x y) Q st := by
  refine Tri.seq (Tri.mono (fun e st' q => ?_) hx)
  cases e <;> first
    | (obtain ⟨v, h1, rfl⟩ := q; exact hy v h1)
    | exact q

theorem ite_some {α : Type} {c : Prop} [Decidable c] {x y : Option α} {r : α} (h : (if c then x else y) = some r) : (c ∧ x = some r) ∨ (¬ c ∧ y = some r) := by
  split at h
  · exact .inl ⟨‹_›, h⟩
  · exact .inr ⟨‹_›, h⟩
theorem iteb_some {α : Type} {b : Bool} {x y : Option α} {r : α} (h : (if b = true then x else y) = some r) : (b = true ∧ x = some r) ∨ (b = false ∧ y = some r) := by
  cases b
  · exact .inr ⟨rfl, h⟩
  · exact .inl ⟨rfl, h⟩
theorem bind_some' {α β : Type} {x : Option α} {f : α → Option β} {r : β} (h : x.bind f = some r) : ∃ v, x = some v ∧ f v = some r := Option.bind_eq_some_iff.1 h

/-- What a truth is told to be. -/
theorem ovb {b c : Bool} (h : b = c) : [PC.sc (.bool b)] = [PC.sc (.bool c)] := by rw [h]
theorem nT {b : Bool} (h : b = false) : (!b) = true := by rw [h]; rfl
theorem nF {b : Bool} (h : b = true) : (!b) = false := by rw [h]; rfl
theorem useb {st : St} {o : Operand} {b c : Bool} (h : b = c) (hu : st.use o = some ⟨.one, [.sc (.bool b)]⟩) : st.use o = some ⟨.one, [.sc (.bool c)]⟩ := by rw [hu, h]

/-- An element of a row. -/
def at? {α : Type} (l : List α) (i : Int) : Option α := if 0 ≤ i then l[i.toNat]? else none
theorem at?_0 {α : Type} {l : List α} {i : Int} {x : α} (h : at? l i = some x) : 0 ≤ i := by
  unfold at? at h
  split at h
  · assumption
  · cases h
theorem at?_get {α : Type} {l : List α} {i : Int} {x : α} (h : at? l i = some x) : l[i.toNat]? = some x := by
  unfold at? at h
  split at h
  · exact h
  · cases h
theorem at?_map {α : Type} {l : List α} {i : Int} {x : α} {f : α → List PC} (h : at? l i = some x) : (l.map f)[i.toNat]? = some (f x) := by rw [List.getElem?_map, at?_get h]; rfl
theorem ovlen {α : Type} {l : List α} {f : α → List PC} : [PC.sc (.int .i64 ((l.map f).length : Int))] = [PC.sc (.int .i64 (l.length : Int))] := by rw [List.length_map]

def w64 (n : Int) : Int := IntKind.i64.wrap n
theorem w64_id {n : Int} (h0 : -9223372036854775808 ≤ n) (h1 : n ≤ 9223372036854775807) : w64 n = n := by
  have e : w64 n = if n % 18446744073709551616 ≥ 9223372036854775808 then n % 18446744073709551616 - 18446744073709551616 else n % 18446744073709551616 := by
    unfold w64 IntKind.wrap
    have h2 : (2 : Int) ^ IntKind.i64.bits = 18446744073709551616 := by decide
    have h3 : (2 : Int) ^ (IntKind.i64.bits - 1) = 9223372036854775808 := by decide
    have h4 : IntKind.i64.signed = true := rfl
    simp only [h2, h3, h4, Bool.true_and, decide_eq_true_eq]
  rw [e]
  split <;> omega
end
end Go.Proofs.YtaikjjlbfdkgmaaDoor.E
