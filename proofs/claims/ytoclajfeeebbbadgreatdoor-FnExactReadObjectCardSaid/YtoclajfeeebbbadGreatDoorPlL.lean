/- Lists, and loops over them: plain lemmas. No program. -/
import Derived.Test.YtoclajfeeebbbadGreatDoorPlA
import Derived.IntWalk
set_option linter.unusedVariables false
set_option linter.unusedSimpArgs false
set_option linter.unusedSectionVars false
namespace Go.Proofs.YtoclajfeeebbbadGreatDoor.V
open Go.RowKit Go.Proofs.YtoclajfeeebbbadGreatDoor.E
variable [LaidFacts]
theorem all_none {α:Type} {p:α → Bool} {l:List α} (h:firstAt (fun x=>!p x) l 0 = none):l.all p = true:=List.all_eq_true.2 fun x hx=>by simpa using firstAt_none.1 h x hx
theorem all_some {α:Type} {p:α → Bool} {l:List α} {i:Nat} (h:firstAt (fun x=>!p x) l 0 = some i):l.all p = false:=by
  obtain ⟨h1,h2,h3,h4⟩:=firstAt_some h
  rw [Bool.eq_false_iff]
  intro hall
  have h5:=List.all_eq_true.1 hall _ (List.getElem_mem h3)
  have h6:(!p l[i - 0]) = true:=h4
  rw [h5] at h6
  cases h6
/-- A search for an element that does not hold: whether all do. -/
theorem ev_allInt {α : Type} {l : List α} {p : α → Bool} {L : Nat → Int → Option (Int ⊕ Unit)} {g : Nat → α → Option Bool} (hn : l.length < 9223372036854775807) (hend : ∀ k, L (k + 1) (l.length : Int) = some (.inr ())) (hg : ∀ x ∈ l, Evr (fun k => g k x) (!p x))
    (hL:∀ k i (hi:i < l.length),L (k + 1) (i:Int) = (g k l[i]).bind fun r=>if r = true then some (.inl (i:Int)) else L k (w64 ((i:Int) + 1))) :
    Evr (fun k=>(((L k 0).bind fun v=>match v with | .inl r=>some r | .inr _=>some (-1)).bind fun r=>some (decide ((0:Int) ≤ r))).bind fun r=>some (!r)) (l.all p):=by
  have h:=ev_first l (fun x=>!p x) L (fun i=>.inl (i:Int)) (.inr ()) hn (ev_of hend) (fun i hi hp=>ev_congr _ (fun k=>hL k i hi) (ev_bind _ (hg _ (List.getElem_mem hi)) (by rw [hp]; exact ev_some)))
    (fun i hi hp r hr=>ev_congr _ (fun k=>hL k i hi) (ev_bind _ (hg _ (List.getElem_mem hi)) (by rw [hp,w64_next (by omega)]; exact hr)))
  cases hf:firstAt (fun x=>!p x) l 0 with
  | none =>
    rw [hf] at h
    rw [all_none hf]
    exact ev_bind _ (ev_bind _ (ev_bind _ h ev_some) ev_some) (ev_of fun k=>by simp)
  | some i =>
    rw [hf] at h
    rw [all_some hf]
    exact ev_bind _ (ev_bind _ (ev_bind _ h ev_some) ev_some) (ev_of fun k=>by simp)
theorem ev_allUnit {α : Type} {l : List α} {p : α → Bool} {L : Nat → Int → Option (Bool ⊕ Unit)} {g : Nat → Nat → Option Bool} (hn : l.length < 9223372036854775807) (hend : ∀ k, L (k + 1) (l.length : Int) = some (.inr ())) (hg : ∀ i (hi : i < l.length), Evr (fun k => g k i) (!p l[i]))
    (hL:∀ k i (hi:i < l.length),L (k + 1) (i:Int) = (g k i).bind fun r=>if r = true then some (.inl false) else L k (w64 ((i:Int) + 1))) :
    Evr (fun k=>L k 0) (if l.all p then .inr () else .inl false):=by
  have h:=ev_first l (fun x=>!p x) L (fun i=>.inl false) (.inr ()) hn (ev_of hend) (fun i hi hp=>ev_congr _ (fun k=>hL k i hi) (ev_bind _ (hg i hi) (by rw [hp]; exact ev_some)))
    (fun i hi hp r hr=>ev_congr _ (fun k=>hL k i hi) (ev_bind _ (hg i hi) (by rw [hp,w64_next (by omega)]; exact hr)))
  cases hf:firstAt (fun x=>!p x) l 0 with
  | none =>
    rw [hf] at h
    rw [all_none hf]
    exact h
  | some i =>
    rw [hf] at h
    rw [all_some hf]
    exact h
theorem filter_len {α:Type} (p:α → Bool):∀ (l:List α),(l.filter p).length = l.length ↔ ∀ x ∈ l,p x = true
  | []=>by simp
  | x :: l=>by
    have h:=List.length_filter_le p l
    have ih:=filter_len p l
    cases hp:p x
    · simp [hp]; omega
    · simp [hp,ih]
/-! Names gathered one by one. -/
def scan {α:Type} (p:List ByteArray → Nat → α → Bool) (nm:α → ByteArray):List α → Nat → List ByteArray → Option (List ByteArray)
  | [],_,s=>some s
  | x :: r,i,s=>if p s i x = true then scan p nm r (i + 1) (s ++ [nm x]) else none
theorem ev_scan {α ρ : Type} (l : List α) (p : List ByteArray → Nat → α → Bool) (nm : α → ByteArray) (L : Nat → List ByteArray → Int → Option ρ) (bad : ρ) (fin : List ByteArray → ρ) (n0 : Nat)
    (hend:∀ s,Evr (fun k=>L (k + 1) s (l.length:Int)) (fin s))
    (hout:∀ s i (hi:i < l.length),s.length = n0 + i → p s i l[i] = false → Evr (fun k=>L (k + 1) s (i:Int)) bad)
    (hon:∀ s i (hi:i < l.length),s.length = n0 + i → p s i l[i] = true → ∀ r,Evr (fun k=>L k (s ++ [nm l[i]]) ((i + 1:Nat):Int)) r → Evr (fun k=>L (k + 1) s (i:Int)) r) :
    ∀ (m i:Nat) (s:List ByteArray),i + m = l.length → s.length = n0 + i → Evr (fun k=>L k s (i:Int)) (match scan p nm (l.drop i) i s with | some s'=>fin s' | none=>bad)
  | 0,i,s,hi,hs=>by
    obtain rfl:i = l.length:=by omega
    rw [List.drop_eq_nil_of_le (Nat.le_refl _)]
    obtain ⟨K,hK⟩:=hend s
    exact ⟨K + 1,fun k hk=>by obtain ⟨j,rfl⟩:∃ j,k = j + 1:=⟨k - 1,by omega⟩; exact hK j (by omega)⟩
  | m + 1,i,s,hi,hs=>by
    have hl:i < l.length:=by omega
    rw [List.drop_eq_getElem_cons hl]
    simp only [scan]
    have up:∀ {r:ρ},Evr (fun k=>L (k + 1) s (i:Int)) r → Evr (fun k=>L k s (i:Int)) r:=fun ⟨K,hK⟩ =>
      ⟨K + 1,fun k hk=>by obtain ⟨j,rfl⟩:∃ j,k = j + 1:=⟨k - 1,by omega⟩; exact hK j (by omega)⟩
    cases hp:p s i l[i] with
    | false=>exact up (hout s i hl hs hp)
    | true=>exact up (hon s i hl hs hp _ (ev_scan l p nm L bad fin n0 hend hout hon m (i + 1) (s ++ [nm l[i]]) (by omega) (by simp; omega)))
theorem scan_plain {α:Type} (q:Nat → α → Bool) (nm:α → ByteArray):∀ (l:List α) (i:Nat) (s:List ByteArray),scan (fun _ i x=>q i x) nm l i s = if (l.zipIdx i).all (fun z=>q z.2 z.1) = true then some (s ++ l.map nm) else none
  | [],i,s=>by simp [scan]
  | x :: r,i,s=>by
    rw [scan]
    by_cases h:q i x = true
    · rw [if_pos h,scan_plain q nm r (i + 1)]
      simp only [List.zipIdx_cons,List.all_cons,h,Bool.true_and,List.map_cons,List.append_assoc,List.cons_append,List.nil_append]
    · rw [if_neg h,if_neg]
      simp only [List.zipIdx_cons,List.all_cons,Bool.and_eq_true]
      exact fun h'=>h h'.1
theorem scan_uniq {α : Type} (q : Nat → α → Bool) (nm : α → ByteArray) : ∀ (l : List α) (i : Nat) (s : List ByteArray), s.Nodup →
    scan (fun s i x=>q i x && !(s.any fun y=>decide (y = nm x))) nm l i s = if (l.zipIdx i).all (fun z=>q z.2 z.1) = true ∧ (s ++ l.map nm).Nodup then some (s ++ l.map nm) else none
  | [],i,s,hs=>by simp [scan,hs]
  | x :: r,i,s,hs=>by
    rw [scan]
    simp only [List.zipIdx_cons,List.all_cons,List.map_cons]
    by_cases h:q i x = true
    · simp only [h,Bool.true_and,Bool.not_eq_true']
      by_cases hx:nm x ∈ s
      · have h1:¬ (s.any fun y=>decide (y = nm x)) = false:=by simp [hx]
        rw [if_neg h1,if_neg]
        rintro ⟨_,h2⟩
        exact (List.nodup_append.1 h2).2.2 _ hx _ (List.mem_cons_self ..) rfl
      · have h1 : (s.any fun y => decide (y = nm x)) = false := by
          rw [List.any_eq_false]
          intro y hy
          simp only [decide_eq_true_eq]
          intro e; subst e; exact hx hy
        rw [if_pos h1,scan_uniq q nm r (i + 1) (s ++ [nm x]) (by
          rw [List.nodup_append]
          exact ⟨hs,by simp,fun a ha b hb=>by simp only [List.mem_singleton] at hb; subst hb; intro e; subst e; exact hx ha⟩)]
        simp only [List.append_assoc,List.cons_append,List.nil_append]
    · rw [if_neg (by simp only [Bool.and_eq_true]; exact fun h'=>h h'.1),if_neg]
      rintro ⟨h',_⟩
      simp only [Bool.and_eq_true] at h'
      exact h h'.1
end Go.Proofs.YtoclajfeeebbbadGreatDoor.V
