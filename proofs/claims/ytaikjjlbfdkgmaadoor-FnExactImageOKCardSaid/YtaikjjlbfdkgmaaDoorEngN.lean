/- The engine, part N: guarded operations; the rules as a walk takes them. Plain lemmas; no program. -/
import Derived.Test.YtaikjjlbfdkgmaaDoorEngM
set_option linter.unusedVariables false
set_option linter.unusedSectionVars false
set_option linter.unusedSimpArgs false
namespace Go.Proofs.YtaikjjlbfdkgmaaDoor.E
open Go.RowKit
variable [LaidFacts]

section
variable {P : Program} {st : St}

theorem Inv.yielded {a : Act} {w : World} {r : Rs} (h : Inv P st a w r) {ops : Array Oper} {j d : Nat} {b : Bool} (hj : (ops[j]?).bind (·.dst) = some d) (hd : st.get d = some ⟨.one, [.sc (.bool b)]⟩) : Go.yielded ops a.tmps j = some b := by
  obtain ⟨v, h1, _⟩ := h.tm d _ hd
  have h2 := (h.has hd).out_sc
  have : a.eval (.tmp d) = v := by simp [Act.eval, Array.getD_eq_getD_getElem?, h1]
  rw [this] at h2
  subst h2
  simp [Go.yielded, hj, h1]

theorem TriO.consW {ops : Array Oper} {o : Oper} {l : List Oper} {Q : St → Prop} {st' : St} (hg : ∀ a w r, Inv P st a w r → Region.wanted o (Go.yielded ops a.tmps) = true) (ho : OpOK P o st st') (h : TriO P ops l Q st') : TriO P ops (o :: l) Q st := by
  intro a w r hi
  refine wpList_step fun K hK => ?_
  rw [if_pos (hg a w r hi)]
  refine ho a w r hi K _ fun v w' r' h1 h2 h3 => hK _ _ ?_
  refine wpList_mono (fun _ _ _ k => Post.step h3 ?_) l _ w' (h _ w' r' h2)
  rw [h1] at k; exact k

theorem TriO.consT {ops : Array Oper} {o : Oper} {l : List Oper} {Q : St → Prop} {st' : St} {j d : Nat} {b : Bool} (hg : o.guard = some (j, b)) (hj : (ops[j]?).bind (·.dst) = some d) (hd : st.get d = some ⟨.one, [.sc (.bool b)]⟩) (ho : OpOK P o st st') (h : TriO P ops l Q st') : TriO P ops (o :: l) Q st :=
  TriO.consW (fun a w r hi => by simp [Region.wanted, hg, hi.yielded hj hd]) ho h

/-- Not wanted: its temporary holds nothing. -/
theorem TriO.consF {ops : Array Oper} {o : Oper} {l : List Oper} {Q : St → Prop} {j d e : Nat} {b c : Bool} (hg : o.guard = some (j, b)) (hj : (ops[j]?).bind (·.dst) = some d) (hd : st.get d = some ⟨.one, [.sc (.bool c)]⟩) (hbc : c = !b) (ho : o.dst = some e) (he : st.okd e)
    (h : TriO P ops l Q (st.assign e ⟨.tup [], []⟩)) : TriO P ops (o :: l) Q st := by
  intro a w r hi
  refine wpList_step fun K hK => ?_
  have hw : Region.wanted o (Go.yielded ops a.tmps) = false := by subst hbc; simp [Region.wanted, hg, hi.yielded hj hd]
  rw [if_neg (by rw [hw]; simp)]
  refine hK _ _ ?_
  have h1 := hi.assign_has (d := e) (pv := ⟨.tup [], []⟩) (v := undef) he rfl ⟨⟨#[], rfl, rfl, rfl, fun x hx => by simp at hx⟩, fun c x hx => by simp at hx⟩
  rw [ho]
  have hst : Step st.m w r st.bx.length w ((r.dropT e).setT e fun _ => none) st.bx.length := Step.assign (fun _ _ h => by cases h)
  refine wpList_mono (fun _ _ _ k => Post.step hst ?_) l _ w (h _ w _ h1)
  rw [St.assign_m, St.assign_bx] at k
  exact k

/-- A reader, then the rest. -/
theorem TriO.rd {ops : Array Oper} {o : Oper} {l : List Oper} {Q : St → Prop} {d : Nat} {pv : PV} (hg : o.guard = none) (hr : Reads P o st pv) (ho : o.dst = some d) (hd : st.okd d) (hn : noNameB d pv = true) (h : TriO P ops l Q (st.assign d pv)) : TriO P ops (o :: l) Q st :=
  TriO.cons hg (hr.ok ho hd hn) h
theorem TriO.rdT {ops : Array Oper} {o : Oper} {l : List Oper} {Q : St → Prop} {d j e : Nat} {b : Bool} {pv : PV} (hg : o.guard = some (j, b)) (hj : (ops[j]?).bind (·.dst) = some e) (he : st.get e = some ⟨.one, [.sc (.bool b)]⟩) (hr : Reads P o st pv) (ho : o.dst = some d) (hd : st.okd d) (hn : noNameB d pv = true)
    (h : TriO P ops l Q (st.assign d pv)) : TriO P ops (o :: l) Q st :=
  TriO.consT hg hj he (hr.ok ho hd hn) h

end
end Go.Proofs.YtaikjjlbfdkgmaaDoor.E
