/- Plain lemmas on functions with rounds: what they come to, from some number of rounds on. No program. -/
import Derived.Test.YtoclajfeeebbbadGreatDoorEng18
set_option linter.unusedVariables false
set_option linter.unusedSimpArgs false
set_option linter.unusedSectionVars false
namespace Go.Proofs.YtoclajfeeebbbadGreatDoor.E
variable [LaidFacts]
/-- From some number of rounds on it is r. -/
def Evr {α:Type} (g:Nat → Option α) (r:α):Prop:=∃ K,∀ k,K ≤ k → g k = some r
theorem Evr.rounds {α:Type} {g:Nat → Option α} {r:α} (h:Evr g r):∃ k,g k = some r:=by
  obtain ⟨K,h⟩:=h
  exact ⟨K,h K (Nat.le_refl _)⟩
theorem ev_some {α:Type} {r:α}:Evr (fun _=>some r) r:=⟨0,fun _ _=>rfl⟩
theorem ev_of {α:Type} {g:Nat → Option α} {r:α} (h:∀ k,g k = some r):Evr g r:=⟨0,fun k _=>h k⟩
theorem ev_const {α:Type} {o:Option α} {a:α} (h:o = some a):Evr (fun _=>o) a:=⟨0,fun _ _=>h⟩
theorem ev_eq {α:Type} {g:Nat → Option α} {a b:α} (h:Evr g a) (e:a = b):Evr g b:=e ▸ h
theorem ev_bind {α β:Type} {g:Nat → Option α} {f:Nat → α → Option β} {r:β} (a:α) (h:Evr g a) (k:Evr (fun n=>f n a) r):Evr (fun n=>(g n).bind (f n)) r:=by
  obtain ⟨K,h⟩:=h
  obtain ⟨K',k⟩:=k
  refine ⟨max K K',fun n hn=>?_⟩
  simp only [h n (by omega)]
  exact k n (by omega)
theorem ev_step {α:Type} {g:Nat → Option α} {r:α} (f:Nat → Option α) (h:∀ k,g (k + 1) = f k) (k:Evr f r):Evr g r:=by
  obtain ⟨K,k⟩:=k
  refine ⟨K + 1,fun n hn=>?_⟩
  obtain ⟨m,rfl⟩:∃ m,n = m + 1:=⟨n - 1,by omega⟩
  rw [h]
  exact k m (by omega)
theorem ev_congr {α:Type} {g:Nat → Option α} {r:α} (f:Nat → Option α) (h:∀ k,g k = f k) (k:Evr f r):Evr g r:=by
  obtain ⟨K,k⟩:=k
  exact ⟨K,fun n hn=>(h n).trans (k n hn)⟩
theorem ev_pos {α:Type} {c:Prop} [Decidable c] {f g:Nat → Option α} {r:α} (h:c) (k:Evr f r):Evr (fun n=>if c then f n else g n) r:=by simpa [h] using k
theorem ev_neg {α:Type} {c:Prop} [Decidable c] {f g:Nat → Option α} {r:α} (h:¬ c) (k:Evr g r):Evr (fun n=>if c then f n else g n) r:=by simpa [h] using k
theorem ev_ite {α:Type} {c:Prop} [Decidable c] {f g:Nat → Option α} {r:α} (h:c → Evr f r) (h':¬ c → Evr g r):Evr (fun n=>if c then f n else g n) r:=by
  by_cases hc:c
  · exact ev_pos hc (h hc)
  · exact ev_neg hc (h' hc)
theorem w64_nat {n:Nat} (h:n ≤ 9223372036854775807):w64 (n:Int) = n:=w64_id (by omega) (by omega)
theorem w64_next {i:Nat} (h:i < 9223372036854775807):w64 ((i:Int) + 1) = ((i + 1:Nat):Int):=by rw [w64_id (by omega) (by omega)]; rfl
theorem at?_nat {α:Type} {l:List α} {i:Nat} (h:i < l.length):at? l (i:Int) = some l[i]:=by
  unfold at?
  rw [if_pos (by omega),Int.toNat_natCast,List.getElem?_eq_getElem h]
theorem at?_int {α:Type} {l:List α} {i:Int} (h0:0 ≤ i) (h:i < l.length):at? l i = some (l[i.toNat]'(by omega)):=by
  unfold at?
  rw [if_pos h0,List.getElem?_eq_getElem (by omega)]
/-! Loops over 0 .. n - 1, with a state: a step leaves with a result, or goes on with another state. -/
def run {σ ρ:Type} (st:σ → Nat → ρ ⊕ σ) (fin:σ → ρ):Nat → Nat → σ → ρ
  | 0,_,s=>fin s
  | m + 1,i,s=>match st s i with
    | .inl r=>r
    | .inr s'=>run st fin m (i + 1) s'
/-- The first place where it holds. -/
def firstAt {α:Type} (p:α → Bool):List α → Nat → Option Nat
  | [],_=>none
  | x :: l,i=>if p x then some i else firstAt p l (i + 1)
theorem firstAt_none {α:Type} {p:α → Bool}:∀ {l:List α} {i:Nat},firstAt p l i = none ↔ ∀ x ∈ l,p x = false
  | [],i=>by simp [firstAt]
  | x :: l,i=>by
    simp only [firstAt]
    cases h:p x <;> simp [h,firstAt_none (l:=l)]
theorem firstAt_some {α:Type} {p:α → Bool}:∀ {l:List α} {i j:Nat},firstAt p l i = some j → i ≤ j ∧ j < i + l.length ∧ ∃ h:j - i < l.length,p l[j - i] = true
  | [],i,j,h=>by simp [firstAt] at h
  | x :: l,i,j,h=>by
    simp only [firstAt] at h
    cases hp:p x
    · simp [hp] at h
      obtain ⟨h1,h2,h3,h4⟩:=firstAt_some h
      refine ⟨by omega,by simp; omega,by simp; omega,?_⟩
      have e:j - i = (j - (i + 1)) + 1:=by omega
      simp only [e,List.getElem_cons_succ]
      exact h4
    · simp [hp] at h
      subst h
      exact ⟨Nat.le_refl _,by simp,by simp,by simpa using hp⟩
/-- A loop that looks for the first place. -/
theorem ev_first {α ρ : Type} (l : List α) (p : α → Bool) (L : Nat → Int → Option ρ) (found : Nat → ρ) (fin : ρ) (hn : l.length < 9223372036854775807)
    (hend:Evr (fun k=>L (k + 1) (l.length:Int)) fin)
    (hout:∀ i (h:i < l.length),p l[i] = true → Evr (fun k=>L (k + 1) (i:Int)) (found i))
    (hon:∀ i (h:i < l.length),p l[i] = false → ∀ r,Evr (fun k=>L k ((i + 1:Nat):Int)) r → Evr (fun k=>L (k + 1) (i:Int)) r) :
    Evr (fun k=>L k 0) (match firstAt p l 0 with | some i=>found i | none=>fin):=by
  have main:∀ (m i:Nat),i + m = l.length → Evr (fun k=>L k (i:Int)) (match firstAt p (l.drop i) i with | some i=>found i | none=>fin):=by
    intro m
    induction m with
    | zero =>
      intro i hi
      obtain rfl:i = l.length:=by omega
      rw [List.drop_eq_nil_of_le (Nat.le_refl _)]
      exact ev_step _ (fun k=>rfl) hend
    | succ m ih =>
      intro i hi
      have hlt:i < l.length:=by omega
      rw [List.drop_eq_getElem_cons hlt]
      simp only [firstAt]
      cases hp:p l[i]
      · simp only [Bool.false_eq_true,if_false]
        exact ev_step _ (fun k=>rfl) (hon i hlt hp _ (ih (i + 1) (by omega)))
      · simp only [if_true]
        exact ev_step _ (fun k=>rfl) (hout i hlt hp)
  have:=main l.length 0 (by omega)
  simpa using this
/-! A list made element by element into a row of its length; a list compared with itself; what is left of a bound. -/
theorem ev_copy {α β : Type} (xs : List α) (h : α → β) (z : β) (L : Nat → List β → Int → Option (List β)) (hn : xs.length < 9223372036854775807)
    (hend:∀ acc,acc.length = xs.length → Evr (fun k=>L (k + 1) acc (xs.length:Int)) acc)
    (hon:∀ acc i (hi:i < xs.length),acc.length = xs.length → ∀ r,Evr (fun k=>L k (acc.set i (h xs[i])) ((i + 1:Nat):Int)) r → Evr (fun k=>L (k + 1) acc (i:Int)) r) :
    Evr (fun k=>L k (List.replicate xs.length z) 0) (xs.map h):=by
  have main:∀ (m i:Nat) (acc:List β),i + m = xs.length → acc = (xs.take i).map h ++ List.replicate m z → Evr (fun k=>L k acc (i:Int)) (xs.map h):=by
    intro m
    induction m with
    | zero =>
      intro i acc hi ha
      obtain rfl:i = xs.length:=by omega
      have e:acc = xs.map h:=by simp [ha]
      rw [← e]
      exact ev_step _ (fun k=>rfl) (hend acc (by rw [e]; simp))
    | succ m ih =>
      intro i acc hi ha
      have hlt:i < xs.length:=by omega
      have hal:acc.length = xs.length:=by subst ha; simp; omega
      refine ev_step _ (fun k=>rfl) (hon acc i hlt hal _ (ih (i + 1) _ (by omega) ?_))
      subst ha
      have hl:((xs.take i).map h).length = i:=by simp; omega
      rw [List.set_append_right _ _ (by omega),hl,Nat.sub_self,List.replicate_succ,List.set_cons_zero,List.take_succ_eq_append_getElem hlt,List.map_append,List.append_assoc]
      rfl
  exact main xs.length 0 _ (by omega) (by simp)
theorem ev_same {α ρ : Type} (xs : List α) (L : Nat → Int → Option ρ) (fin : ρ) (hn : xs.length < 9223372036854775807)
    (hend:Evr (fun k=>L (k + 1) (xs.length:Int)) fin)
    (hon:∀ i (hi:i < xs.length),∀ r,Evr (fun k=>L k ((i + 1:Nat):Int)) r → Evr (fun k=>L (k + 1) (i:Int)) r):Evr (fun k=>L k 0) fin:=by
  have main:∀ (m i:Nat),i + m = xs.length → Evr (fun k=>L k (i:Int)) fin:=by
    intro m
    induction m with
    | zero =>
      intro i hi
      obtain rfl:i = xs.length:=by omega
      exact ev_step _ (fun k=>rfl) hend
    | succ m ih =>
      intro i hi
      exact ev_step _ (fun k=>rfl) (hon i (by omega) _ (ih (i + 1) (by omega)))
  exact main xs.length 0 (by omega)
end Go.Proofs.YtoclajfeeebbbadGreatDoor.E
