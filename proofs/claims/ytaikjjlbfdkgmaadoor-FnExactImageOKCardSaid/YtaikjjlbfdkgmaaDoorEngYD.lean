/- The engine, part XD: regions whose order is drawn, with operations that change the state among those that float, by computation. Plain lemmas; no program. -/
import Derived.Test.YtaikjjlbfdkgmaaDoorEngY
set_option linter.unusedVariables false
set_option linter.unusedSectionVars false
set_option linter.unusedSimpArgs false
namespace Go.Proofs.YtaikjjlbfdkgmaaDoor.E
open Go.RowKit
variable [LaidFacts]

def hsAt (i : Nat) : Hs → Hs
  | [] => []
  | (j, h) :: l => match Nat.beq i j with
    | true => (j, h) :: hsAt i l
    | false => hsAt i l

/-- These temporaries, where they are there. -/
def keysOf : List (Nat × PV) → List Nat
  | [] => []
  | x :: l => x.1 :: keysOf l
theorem look_keys {t : Nat} : ∀ {l : List (Nat × PV)}, t ∉ keysOf l → look l t = none
  | [], _ => rfl
  | (k, v) :: l, h => by
    simp only [keysOf, List.mem_cons, not_or] at h
    have hk : k ≠ t := fun e => h.1 e.symm
    simp only [look, if_neg hk]
    exact look_keys h.2
def pickK (tm : List (Nat × PV)) : List Nat → List (Option PV)
  | [] => []
  | t :: ts => look tm t :: pickK tm ts
theorem pickK_at {tm tm' : List (Nat × PV)} {t : Nat} : ∀ {ts : List Nat}, pickK tm ts = pickK tm' ts → t ∈ ts → look tm t = look tm' t
  | u :: ts, h, ht => by
    simp only [pickK, List.cons.injEq] at h
    rcases List.mem_cons.1 ht with rfl | ht
    · exact h.1
    · exact pickK_at h.2 ht

/-- One state is another, so far as its temporaries are told. -/
def sameP (s t : St) : Prop := (pickK s.tm (keysOf s.tm), s.bx, s.n, s.m, s.fx) = (pickK t.tm (keysOf s.tm), t.bx, t.n, t.m, t.fx)
def sameB (s t : St) : Bool := (keysOf t.tm).all fun k => inB k (keysOf s.tm)
theorem same_get {s t : St} (h : sameP s t) (hb : sameB s t = true) : (∀ k, t.get k = s.get k) ∧ t.bx = s.bx ∧ t.n = s.n ∧ t.m = s.m ∧ t.fx = s.fx := by
  simp only [sameP, Prod.mk.injEq] at h
  obtain ⟨h1, h2, h3, h4, h5⟩ := h
  refine ⟨fun k => ?_, h2.symm, h3.symm, h4.symm, h5.symm⟩
  by_cases hk : k ∈ keysOf s.tm
  · exact (pickK_at h1 hk).symm
  · have hk' : k ∉ keysOf t.tm := fun h => hk (inB_spec (List.all_eq_true.1 hb k h))
    simp only [St.get, look_keys hk, look_keys hk']

section
variable {P : Program} {o : Oper}

theorem OpE.ext {st s t : St} (h : OpE P o st s) (hg : ∀ k, t.get k = s.get k) (hb : t.bx = s.bx) (hn : t.n = s.n) (hm : t.m = s.m) (hf : t.fx = s.fx) : OpE P o st t := by
  intro a w r hi K Q hK
  refine h a w r hi K Q fun v w' r' h1 h2 h3 => hK v w' r' (by rw [hm]; exact h1) (h2.ext hg hb hn hm hf) (by rw [hb]; exact h3)

/-- An operation that changes the state. -/
def evEff (P : Program) (i : Nat) (st : St) (hs : Hs) (o : Oper) : Option (List Prop × St × Hs) :=
  match isCB i hs with
  | true => evCB P i st hs o
  | false => match isCp o with
    | true => evCp P st hs o
    | false => match o.op with
      | .alloc t => match o.dst, P.zero? t with
        | some d, some l => match st.okB d, l.all (·.oneCell') with
          | true, true => some ([], (st.addBox (l.map zeroPC)).assign d ⟨.one, [.ref st.bx.length 0]⟩, hs)
          | _, _ => none
        | _, _ => none
      | .box t x => match o.dst, st.use x with
        | some d, some pv => match st.okB d, pv.cs.all (·.boxable), notTup pv.sh with
          | true, true, true => some ([], (st.addBox pv.cs).assign d ⟨.one, [.ref st.bx.length 0]⟩, hs)
          | _, _, _ => none
        | _, _ => none
      | _ => none
theorem evEff_spec {i : Nat} {st st' : St} {hs hs' : Hs} {q : List Prop} (h : evEff P i st hs o = some (q, st', hs')) (hq : AllP q) : OpE P o st st' := by
  unfold evEff at h
  split at h
  · exact evCB_spec h hq
  · split at h
    · exact evCp_spec h hq
    · split at h
      · rename_i t ho
        split at h
        · rename_i d l hd hz
          split at h
          · rename_i h1 h2
            simp only [Option.some.injEq, Prod.mk.injEq] at h
            obtain ⟨_, rfl, _⟩ := h
            exact OpE.alloc ho hd (St.okB_spec h1) hz h2
          · cases h
        · cases h
      · rename_i t x ho
        split at h
        · rename_i d pv hd hx
          split at h
          · rename_i h1 h2 h3
            simp only [Option.some.injEq, Prod.mk.injEq] at h
            obtain ⟨_, rfl, _⟩ := h
            exact OpE.box ho hd (St.okB_spec h1) hx h2 h3
          · cases h
        · cases h
      · cases h

/-- A reader, at these states one after the other. -/
def ckR (P : Program) (ops : Array Oper) (o : Oper) (i : Nat) (Ai : List Nat) (D : List (Nat × PV)) (hs : Hs) (x : Nat × PV) : List St → Option (List Prop)
  | [] => some []
  | b :: l => match closedB (b.sig D fun j => inB j Ai), evG P ops i (b.sig D fun j => inB j Ai) (hsAt i hs) o with
    | true, some (c, pv, []) => match ckR P ops o i Ai D hs x l with
      | some c' => some (c ++ (pv = x.2) :: c')
      | none => none
    | _, _ => none
theorem ckR_spec {ops : Array Oper} {i : Nat} {Ai : List Nat} {D : List (Nat × PV)} {hs : Hs} {x : Nat × PV} : ∀ {l : List St} {q : List Prop}, ckR P ops o i Ai D hs x l = some q → AllP q → ∀ b ∈ l, closedB (b.sig D fun j => inB j Ai) = true ∧ WOp P ops o (b.sig D fun j => inB j Ai) x.2
  | [], q, _, _, b, hb => by cases hb
  | b :: l, q, h, hq, b', hb => by
    simp only [ckR] at h
    split at h
    · rename_i c pv h1 h2
      split at h
      · rename_i c' h3
        simp only [Option.some.injEq] at h
        subst h
        obtain ⟨q1, q2, q3⟩ := AllP_append hq
        rcases List.mem_cons.1 hb with rfl | hb
        · refine ⟨h1, ?_⟩
          rw [← q2]; exact evG_spec h2 q1
        · exact ckR_spec h3 q3 b' hb
      · cases h
    · cases h

theorem look_in {t : Nat} : ∀ {l : List (Nat × PV)}, t ∈ keysOf l → ∃ v, look l t = some v
  | [], h => by cases h
  | (k, v) :: l, h => by
    simp only [look]
    split
    · exact ⟨v, rfl⟩
    · rename_i hne
      simp only [keysOf, List.mem_cons] at h
      rcases h with h | h
      · subst h
        simp at hne
      · exact look_in h
theorem St.assign_get_ne {st : St} {d t : Nat} {pv : PV} (hf : st.get d = none) (h : d ≠ t) : (st.assign d pv).get t = st.get t := by
  unfold St.assign
  split
  · rw [St.get_put, if_neg (fun e => h e.symm)]
  · rename_i h1
    rw [hf] at h1; cases h1
/-- It turns no temporary but its own. -/
def isAl (o : Oper) : Bool :=
  match o.op with
  | .alloc _ | .box .. => true
  | _ => false
theorem evEff_al {i : Nat} {st s : St} {hs hs' : Hs} {c : List Prop} (hf : ∀ d, o.dst = some d → st.get d = none) (hc : isCB i hs = false) (ha : isAl o = true) (h : evEff P i st hs o = some (c, s, hs')) : ∀ t, o.dst ≠ some t → s.get t = st.get t := by
  intro t ht
  have hcp : isCp o = false := by
    unfold isAl at ha
    split at ha
    · rename_i t' e; unfold isCp; rw [e]
    · rename_i e; unfold isCp; rw [e]
    · cases ha
  have key : ∀ (d : Nat) (x : St) (pv : PV), o.dst = some d → x.get d = none → (x.assign d pv).get t = x.get t := fun d x pv hd hx => by
    have hne : d ≠ t := fun e => ht (by rw [hd, e])
    exact St.assign_get_ne hx hne
  unfold evEff at h
  rw [hc] at h
  simp only [hcp] at h
  split at h
  · split at h
    · rename_i d l hd _
      split at h
      · simp only [Option.some.injEq, Prod.mk.injEq] at h
        obtain ⟨_, rfl, _⟩ := h
        exact key d (st.addBox _) _ hd (hf d hd)
      · cases h
    · cases h
  · split at h
    · rename_i d pv hd _
      split at h
      · simp only [Option.some.injEq, Prod.mk.injEq] at h
        obtain ⟨_, rfl, _⟩ := h
        exact key d (st.addBox _) _ hd (hf d hd)
      · cases h
    · cases h
  · cases h
def keepB (ks : List Nat) (al : Bool) (d : Nat) (x : PC) : Bool :=
  x.stay || (al && match x.names with
    | some (.t t _) => inB t ks && !Nat.beq t d
    | _ => false)
/-- Those that the operation i neither waits for nor is waited for by, stay. -/
def stayB (ks : List Nat) (al : Bool) (d : Nat) (A : List (List Nat)) (D : List (Nat × PV)) (i : Nat) : Nat → List (Nat × PV) → Bool
  | _, [] => true
  | j, y :: l => (Nat.beq j i || inB j (A.getD i []) || inB i (A.getD j []) || y.2.cs.all (keepB ks al d)) && stayB ks al d A D i (j + 1) l
theorem stayB_spec {ks : List Nat} {al : Bool} {d : Nat} {A : List (List Nat)} {D : List (Nat × PV)} {i : Nat} : ∀ {l : List (Nat × PV)} {k : Nat}, stayB ks al d A D i k l = true → ∀ (j : Nat) (y : Nat × PV), l[j]? = some y → k + j ≠ i → (k + j) ∉ A.getD i [] → i ∉ A.getD (k + j) [] → y.2.cs.all (keepB ks al d) = true
  | [], k, h, j, y, hy, _, _, _ => by simp at hy
  | x :: l, k, h, j, y, hy, h1, h2, h3 => by
    simp only [stayB, Bool.and_eq_true, Bool.or_eq_true] at h
    cases j with
    | zero =>
      simp only [List.getElem?_cons_zero, Option.some.injEq] at hy
      subst hy
      rcases h.1 with ((h4 | h4) | h4) | h4
      · exact absurd (Nat.eq_of_beq_eq_true h4) h1
      · exact absurd (inB_spec h4) h2
      · exact absurd (inB_spec h4) h3
      · exact h4
    | succ j =>
      have e : k + (j + 1) = k + 1 + j := by omega
      rw [e] at h1 h2 h3
      exact stayB_spec h.2 j y (by simpa using hy) h1 h2 h3

/-- The operations that float, one after the other. -/
def ck (P : Program) (ops : Array Oper) (D : List (Nat × PV)) (A : List (List Nat)) (E : List Nat) (Bs : List St) (hs : Hs) : Nat → List Oper → List (Nat × PV) → Option (List Prop)
  | _, _, [] => some []
  | _, [], _ :: _ => none
  | i, o :: l, x :: m => match o.dst with
    | none => none
    | some d => match Nat.beq d x.1, idxB i 0 E with
      | true, some p => match Bs[p]?, Bs[p + 1]?, o.guard with
        | some b, some b', none => match closedB (b.sig D fun j => inB j (A.getD i [])), evEff P i (b.sig D fun j => inB j (A.getD i [])) (hsAt i hs) o with
          | true, some (c, s, []) => match sameB s (b'.sig D fun j => inB j (A.getD i []) || Nat.beq j i) && Nat.ble b.bx.length b'.bx.length && stayB (keysOf (b.sig D fun j => inB j (A.getD i [])).tm) (isAl o && !isCB i (hsAt i hs) && !inB d (keysOf (b.sig D fun j => inB j (A.getD i [])).tm)) d A D i 0 D with
            | true => match ck P ops D A E Bs hs (i + 1) l m with
              | some c' => some (c ++ (sameP s (b'.sig D fun j => inB j (A.getD i []) || Nat.beq j i)) :: c')
              | none => none
            | false => none
          | _, _ => none
        | _, _, _ => none
      | true, none => match ckR P ops o i (A.getD i []) D hs x ((Bs.take (E.countP (fun e => !inB i (A.getD e [])) + 1)).drop (E.countP fun e => inB e (A.getD i []))) with
        | some c => match ck P ops D A E Bs hs (i + 1) l m with
          | some c' => some (c ++ c')
          | none => none
        | none => none
      | _, _ => none

theorem ck_spec {ops : Array Oper} {D : List (Nat × PV)} {A : List (List Nat)} {E : List Nat} {Bs : List St} {hs : Hs} (hBl : Bs.length = E.length + 1) : ∀ {m : List (Nat × PV)} {l : List Oper} {k : Nat} {q : List Prop}, ck P ops D A E Bs hs k l m = some q → AllP q → ∀ (j : Nat) (x : Nat × PV), m[j]? = some x → ∃ o, l[j]? = some o ∧ o.dst = some x.1 ∧
    (k + j ∉ E → ∀ p, E.countP (fun e => inB e (A.getD (k + j) [])) ≤ p → p ≤ E.countP (fun e => !inB (k + j) (A.getD e [])) → closedB ((Bs.getD p ⟨0, [], [], 0, []⟩).sig D fun i => inB i (A.getD (k + j) [])) = true ∧ WOp P ops o ((Bs.getD p ⟨0, [], [], 0, []⟩).sig D fun i => inB i (A.getD (k + j) [])) x.2) ∧
    (k + j ∈ E → ∃ p, idxB (k + j) 0 E = some p ∧ o.guard = none ∧ closedB ((Bs.getD p ⟨0, [], [], 0, []⟩).sig D fun i => inB i (A.getD (k + j) [])) = true ∧ OpE P o ((Bs.getD p ⟨0, [], [], 0, []⟩).sig D fun i => inB i (A.getD (k + j) [])) ((Bs.getD (p + 1) ⟨0, [], [], 0, []⟩).sig D fun i => inB i (A.getD (k + j) []) || Nat.beq i (k + j)) ∧
      (Bs.getD p ⟨0, [], [], 0, []⟩).bx.length ≤ (Bs.getD (p + 1) ⟨0, [], [], 0, []⟩).bx.length ∧ ∀ (j' : Nat) (y : Nat × PV), D[j']? = some y → j' ≠ k + j → j' ∉ A.getD (k + j) [] → (k + j) ∉ A.getD j' [] → ∀ z, z ∈ y.2.cs → keepsC ((Bs.getD p ⟨0, [], [], 0, []⟩).sig D fun i => inB i (A.getD (k + j) [])) ((Bs.getD (p + 1) ⟨0, [], [], 0, []⟩).sig D fun i => inB i (A.getD (k + j) []) || Nat.beq i (k + j)) o.dst z)
  | [], l, k, q, h, hq, j, x, hx => by simp at hx
  | y :: m, [], k, q, h, hq, j, x, hx => by simp [ck] at h
  | y :: m, o :: l, k, q, h, hq, j, x, hx => by
    have step : ∀ {q' : List Prop}, ck P ops D A E Bs hs (k + 1) l m = some q' → AllP q' → ∀ (j : Nat) (x : Nat × PV), m[j]? = some x → _ := fun h' hq' j x hx => ck_spec hBl h' hq' j x hx
    simp only [ck] at h
    split at h
    · cases h
    · rename_i d hd
      split at h
      · rename_i p hdx hp
        have hdx := Nat.eq_of_beq_eq_true hdx
        split at h
        · rename_i b b' hb hb' hg
          split at h
          · rename_i c s h1 h2
            split at h
            · rename_i h3
              split at h
              · rename_i c' h4
                simp only [Option.some.injEq] at h
                subst h
                obtain ⟨q1, q2, q3⟩ := AllP_append hq
                cases j with
                | zero =>
                  simp only [List.getElem?_cons_zero, Option.some.injEq] at hx
                  subst hx
                  simp only [Bool.and_eq_true] at h3
                  have e1 : Bs.getD p ⟨0, [], [], 0, []⟩ = b := by simp [List.getD_eq_getElem?_getD, hb]
                  have e2 : Bs.getD (p + 1) ⟨0, [], [], 0, []⟩ = b' := by simp [List.getD_eq_getElem?_getD, hb']
                  have hmem := List.mem_of_getElem? (idxB_spec hp).2
                  refine ⟨o, rfl, by rw [hd, hdx], fun hn => absurd hmem hn, fun _ => ⟨p, hp, hg, by rw [e1]; exact h1, ?_, by rw [e1, e2]; exact Nat.le_of_ble_eq_true h3.1.2, ?_⟩⟩
                  · rw [e1, e2]
                    obtain ⟨k1, k2, k3, k4, k5⟩ := same_get q2 h3.1.1
                    exact (evEff_spec h2 q1).ext k1 k2 k3 k4 k5
                  · rw [e1, e2]
                    intro j' y hy g1 g2 g3 z hz
                    have hst := stayB_spec h3.2 j' y hy (by rw [Nat.zero_add]; exact g1) (by rw [Nat.zero_add]; exact g2) (by rw [Nat.zero_add]; exact g3)
                    have hk := List.all_eq_true.1 hst z hz
                    obtain ⟨k1, _⟩ := same_get q2 h3.1.1
                    unfold keepB at hk
                    rw [Bool.or_eq_true] at hk
                    rcases hk with hk | hk
                    · exact .inl hk
                    · rw [Bool.and_eq_true, Bool.and_eq_true, Bool.and_eq_true, Bool.not_eq_true', Bool.not_eq_true'] at hk
                      obtain ⟨⟨⟨hal, hcb⟩, hfr⟩, hk⟩ := hk
                      split at hk
                      · rename_i t c hn
                        rw [Bool.and_eq_true, Bool.not_eq_true'] at hk
                        have hne : o.dst ≠ some t := by
                          rw [hd]
                          intro e
                          have e := Option.some.inj e
                          rw [e, Nat.beq_refl] at hk
                          cases hk.2
                        exact .inr ⟨t, c, hn, hne, (k1 t).trans (evEff_al (fun d' hd' => by
                          rw [hd] at hd'
                          cases hd'
                          exact look_keys (fun h => by rw [inB_mem h] at hfr; cases hfr)) hcb hal h2 t hne), look_in (inB_spec hk.1)⟩
                      · cases hk
                | succ j =>
                  obtain ⟨o', g1, g2, g3, g4⟩ := step h4 q3 j x (by simpa using hx)
                  have e : k + (j + 1) = k + 1 + j := by omega
                  rw [e]
                  exact ⟨o', by simpa using g1, g2, g3, g4⟩
              · cases h
            · cases h
          · cases h
        · cases h
      · rename_i hdx hp
        have hdx := Nat.eq_of_beq_eq_true hdx
        split at h
        · rename_i c h1
          split at h
          · rename_i c' h4
            simp only [Option.some.injEq] at h
            subst h
            obtain ⟨q1, q3⟩ := AllP_append hq
            cases j with
            | zero =>
              simp only [List.getElem?_cons_zero, Option.some.injEq] at hx
              subst hx
              refine ⟨o, rfl, by rw [hd, hdx], fun _ p hlo hhi => ?_, fun hn => absurd hn (idxB_none hp)⟩
              rw [Nat.add_zero] at hlo hhi ⊢
              refine ckR_spec h1 q1 _ ?_
              have hpl : p < Bs.length := by
                have := List.countP_le_length (p := fun e => !inB k (A.getD e [])) (l := E)
                omega
              have e1 : Bs.getD p ⟨0, [], [], 0, []⟩ = Bs[p] := by simp [List.getD_eq_getElem?_getD, hpl]
              rw [e1]
              refine List.mem_of_getElem? (i := p - E.countP fun e => inB e (A.getD k [])) ?_
              rw [List.getElem?_drop, List.getElem?_take, if_pos (by omega), show E.countP (fun e => inB e (A.getD k [])) + (p - E.countP fun e => inB e (A.getD k [])) = p by omega]
              exact List.getElem?_eq_getElem hpl
            | succ j =>
              obtain ⟨o', g1, g2, g3, g4⟩ := step h4 q3 j x (by simpa using hx)
              have e : k + (j + 1) = k + 1 + j := by omega
              rw [e]
              exact ⟨o', by simpa using g1, g2, g3, g4⟩
          · cases h
        · cases h
      · cases h

/-- Each of them waits for those ahead of it. -/
def chainB (A : List (List Nat)) : List Nat → Bool
  | [] => true
  | e :: l => l.all (fun e' => inB e (A.getD e' [])) && chainB A l
theorem chainB_spec {A : List (List Nat)} : ∀ {E : List Nat}, chainB A E = true → ∀ (i j x y : Nat), i < j → E[i]? = some x → E[j]? = some y → x ∈ A.getD y []
  | [], _, i, j, x, y, _, hx, _ => by simp at hx
  | e :: E, h, i, j, x, y, hij, hx, hy => by
    simp only [chainB, Bool.and_eq_true] at h
    cases j with
    | zero => omega
    | succ j =>
      cases i with
      | zero =>
        simp only [List.getElem?_cons_zero, Option.some.injEq] at hx
        subst hx
        exact inB_spec (List.all_eq_true.1 h.1 y (List.mem_of_getElem? (by simpa using hy)))
      | succ i => exact chainB_spec h.2 i j x y (by omega) (by simpa using hx) (by simpa using hy)

def basesB (D : List (Nat × PV)) (n : Nat) (Bs : List St) : Bool := Bs.all fun b => freshB b.tm n D
def basesP (st : St) : List St → List Prop
  | [] => []
  | b :: l => ((b.n, b.m, b.fx) = (st.n, st.m, st.fx)) :: basesP st l
theorem basesP_spec {st : St} : ∀ {l : List St}, AllP (basesP st l) → ∀ b ∈ l, b.n = st.n ∧ b.m = st.m ∧ b.fx = st.fx
  | [], _, b, hb => by cases hb
  | x :: l, h, b, hb => by
    obtain ⟨h1, h2⟩ := h
    rcases List.mem_cons.1 hb with rfl | hb
    · simpa using h1
    · exact basesP_spec h2 b hb

def lastB : List St → St → St
  | [], d => d
  | [b], _ => b
  | _ :: l, d => lastB l d
theorem lastB_eq : ∀ {l : List St} {d : St} {n : Nat}, l.length = n + 1 → lastB l d = l.getD n ⟨0, [], [], 0, []⟩
  | [b], d, n, h => by have : n = 0 := by simp at h; omega
                       subst this; rfl
  | _ :: b :: l, d, 0, h => by simp at h
  | _ :: b :: l, d, n + 1, h => by
    have := lastB_eq (l := b :: l) (d := d) (n := n) (by simpa using h)
    simpa [lastB, List.getD_eq_getElem?_getD] using this

/-- A whole such region: the bases are told. -/
def evDE (P : Program) (l : List Oper) (A : List (List Nat)) (E : List Nat) (Bs : List St) (D : List (Nat × PV)) (st : St) (hs : Hs) (hs2 : Hs) : Ez :=
  match Nat.ble D.length l.length && ancB l A && tailB l A D.length && chainB A E && basesB D st.n (st :: Bs) && (D.all fun x => !inB x.1 st.fx) && Nat.beq Bs.length E.length && E.all (fun e => Nat.ble (e + 1) D.length), ck P l.toArray D A E (st :: Bs) hs 0 l D with
  | true, some c => match evN3 P l.toArray (l.length - D.length) D.length (l.drop D.length) { lastB (st :: Bs) st with tm := D ++ (lastB (st :: Bs) st).tm } hs2 with
    | some (c', st', hs'') => some (basesP st Bs ++ (c ++ c'), st', hs'')
    | none => none
  | _, _ => none

theorem Tri.dE {id : Nat} {l : List Oper} {Q : Exit → St → Prop} {st : St} (hm : P.follows .mixedOrders = true) (A : List (List Nat)) (E : List Nat) (Bs : List St) (D : List (Nat × PV)) (ts : List Nat) (nb : Nat) (fx : List Fix) (hs hs2 : Hs) (q : List Prop) (st' : St)
    (h : (match evDE P l A E Bs D st hs hs2 with | some (c, s, []) => (match fin P ts nb fx s with | some s' => some (c, s') | none => none) | _ => none) = some (q, st')) (hq : AllP q) (hy : Q .normal st') : Tri P (.region id l.toArray true) Q st := by
  split at h
  · rename_i c s h0
    split at h
    · rename_i s' hf
      cases h
      unfold evDE at h0
      split at h0
      · rename_i c0 h1 h2
        split at h0
        · rename_i c1 st1 hs1 h3
          simp only [Option.some.injEq, Prod.mk.injEq] at h0
          obtain ⟨rfl, rfl, rfl⟩ := h0
          obtain ⟨q1, q2⟩ := AllP_append hq
          obtain ⟨q3, q4⟩ := AllP_append q2
          simp only [Bool.and_eq_true] at h1
          obtain ⟨⟨⟨⟨⟨⟨⟨k1, k2⟩, k3⟩, k4⟩, k5⟩, k6⟩, k7⟩, k8⟩ := h1
          have hBl : (st :: Bs).length = E.length + 1 := by rw [List.length_cons, Nat.eq_of_beq_eq_true k7]
          have hck := ck_spec (P := P) hBl h2 q3
          have hlast := lastB_eq (d := st) hBl
          refine Tri.drawE hm D A E (fun p => (st :: Bs).getD p ⟨0, [], [], 0, []⟩) rfl (fun p hp => ?_) k6 (by rw [k1, k2, k3]; rfl) (chainB_spec k4) (fun i x hx hiE => ?_) (fun p e hp => ?_) ?_
          · have hpl : p < (st :: Bs).length := by omega
            have e1 : (st :: Bs).getD p ⟨0, [], [], 0, []⟩ = (st :: Bs)[p] := by rw [List.getD_eq_getElem?_getD, List.getElem?_eq_getElem hpl]; rfl
            have hmem : (st :: Bs)[p] ∈ st :: Bs := List.getElem_mem hpl
            simp only [e1]
            have hfr := List.all_eq_true.1 k5 _ hmem
            rcases List.mem_cons.1 hmem with e2 | e2
            · rw [e2]; rw [e2] at hfr; exact ⟨rfl, rfl, rfl, hfr⟩
            · obtain ⟨g1, g2, g3⟩ := basesP_spec q1 _ e2
              exact ⟨g1, g2, g3, hfr⟩
          · obtain ⟨o, g1, g2, g3, _⟩ := hck i x hx
            rw [Nat.zero_add] at g3
            exact ⟨o, g1, g2, g3 hiE⟩
          · have hlt := Nat.le_of_ble_eq_true (List.all_eq_true.1 k8 e (List.mem_of_getElem? hp))
            obtain ⟨o, g1, g2, _, g4⟩ := hck e D[e] (List.getElem?_eq_getElem hlt)
            rw [Nat.zero_add] at g4
            obtain ⟨p', m1, m2, m3, m4, m5, m6⟩ := g4 (List.mem_of_getElem? hp)
            -- the place of e is one
            have hpp : p' = p := by
              have e1 := (idxB_spec m1).2
              rw [Nat.sub_zero] at e1
              have self : e ∉ A.getD e [] := by
                intro hin'
                have hel : e < l.length := Nat.lt_of_lt_of_le hlt (Nat.le_of_ble_eq_true k1)
                have := ancB_in (f := fun j => decide (j < e)) k2 (fun i o ho hf e' he' hb => by
                  have h1 := ancB_on k2 i o ho e' he' hb
                  have h2 := of_decide_eq_true hf
                  exact decide_eq_true (by omega)) e l[e] (List.getElem?_eq_getElem hel) (fun e' he' hb => decide_eq_true (ancB_on k2 e l[e] (List.getElem?_eq_getElem hel) e' he' hb)) e hin'
                have := of_decide_eq_true this
                omega
              rcases Nat.lt_trichotomy p' p with h | h | h
              · exact absurd (chainB_spec k4 p' p e e h e1 hp) self
              · exact h
              · exact absurd (chainB_spec k4 p p' e e h hp e1) self
            subst hpp
            refine ⟨o, D[e], g1, List.getElem?_eq_getElem hlt, g2, m2, m3, m4, m5, m6⟩
          · show TriO P l.toArray (l.drop D.length) (Q .normal) { (st :: Bs).getD E.length ⟨0, [], [], 0, []⟩ with tm := D ++ ((st :: Bs).getD E.length ⟨0, [], [], 0, []⟩).tm }
            rw [← hlast]
            exact evN3_spec _ _ _ _ _ h3 q4 (TriO.turn (fin_turns hf) (by rw [List.drop_eq_nil_of_le (by simp)]; exact TriO.nil hy))
        · cases h0
      · cases h0
    · cases h
  · cases h
theorem Tri.dEn {id : Nat} {l : List Oper} {y : Code} {Q : Exit → St → Prop} {st : St} (hm : P.follows .mixedOrders = true) (A : List (List Nat)) (E : List Nat) (Bs : List St) (D : List (Nat × PV)) (ts : List Nat) (nb : Nat) (fx : List Fix) (hs hs2 : Hs) (q : List Prop) (st' : St)
    (h : (match evDE P l A E Bs D st hs hs2 with | some (c, s, []) => (match fin P ts nb fx s with | some s' => some (c, s') | none => none) | _ => none) = some (q, st')) (hq : AllP q) (hy : Tri P y Q st') : Tri P (.seq (.region id l.toArray true) y) Q st :=
  Tri.seq (Tri.dE hm A E Bs D ts nb fx hs hs2 q st' h hq hy)

end
end Go.Proofs.YtaikjjlbfdkgmaaDoor.E
