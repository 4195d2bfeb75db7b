/- Whether texts are different: what the library's sorting comes to. -/
import Derived.Test.YtoclajfeeebbbadGreatDoorOpFnExactReadObject
import Derived.Test.YtoclajfeeebbbadGreatDoorPlL
set_option linter.unusedVariables false
set_option linter.unusedSimpArgs false
namespace Go.Proofs.YtoclajfeeebbbadGreatDoor.V
open Go.RowKit Go.Proofs.YtoclajfeeebbbadGreatDoor.E
theorem leL_antisymm {a b:List UInt8} (h:a ≤ b) (h':b ≤ a):a = b:=List.le_antisymm h h'
theorem sorted_nodup {s:List (List UInt8)} (hs:s.Pairwise (fun x y=>x ≤ y)):(∀ j,(h:j + 1 < s.length) → s[j + 1] ≠ s[j]) ↔ s.Nodup:=by
  constructor
  · intro h
    rw [List.Nodup,List.pairwise_iff_getElem]
    intro i j hi hj hij he
    obtain ⟨m,rfl⟩:∃ m,j = m + 1:=⟨j - 1,by omega⟩
    have h1:=h m hj
    have h2:s[m] ≤ s[m + 1]:=List.pairwise_iff_getElem.1 hs m (m + 1) (by omega) hj (by omega)
    by_cases him:i = m
    · subst him; exact h1 he.symm
    · have h3:s[i] ≤ s[m]:=List.pairwise_iff_getElem.1 hs i m hi (by omega) (by omega)
      rw [he] at h3
      exact h1 (leL_antisymm h3 h2)
  · intro h j hj he
    have:=List.pairwise_iff_getElem.1 h j (j + 1) (by omega) hj (by omega)
    exact this he.symm
theorem differ_eq (zs:List (List UInt8)):Sq.differ zs = decide zs.Nodup:=by
  have tr:∀ a b c:List UInt8,decide (a ≤ b) = true → decide (b ≤ c) = true → decide (a ≤ c) = true:=fun a b c h1 h2=>by simp only [decide_eq_true_eq] at *; exact List.le_trans h1 h2
  have tot:∀ a b:List UInt8,(decide (a ≤ b) || decide (b ≤ a)) = true:=fun a b=>by simp only [Bool.or_eq_true,decide_eq_true_eq]; exact List.le_total a b
  unfold Sq.differ
  rw [decide_eq_decide]
  obtain ⟨s,hs⟩:∃ s,s = zs.mergeSort (fun x y=>decide (x ≤ y)):=⟨_,rfl⟩
  rw [← hs]
  have hp:s.Perm zs:=by rw [hs]; exact List.mergeSort_perm zs _
  have hsd:s.Pairwise (fun x y=>x ≤ y):=by
    rw [hs]
    exact (List.pairwise_mergeSort tr tot zs).imp fun {a b} h=>by simpa using h
  rw [← hp.nodup_iff,← hp.length_eq,← sorted_nodup hsd]
  unfold Lib.compact Lib.compactUpTo
  rw [List.length_map]
  have h1:=filter_len (Lib.keeps s.toArray) (List.range s.length)
  rw [List.length_range] at h1
  rw [h1]
  constructor
  · intro h j hj
    have:=h (j + 1) (by simp; omega)
    simp [Lib.keeps] at this
    rw [List.getElem?_eq_getElem hj,List.getElem?_eq_getElem (by omega)] at this
    simpa using this
  · intro h j hj
    simp at hj
    cases j with
    | zero=>simp [Lib.keeps]
    | succ j =>
      have:=h j hj
      simp [Lib.keeps]
      rw [List.getElem?_eq_getElem hj,List.getElem?_eq_getElem (by omega)]
      simpa using this
theorem nodup_bytes (l:List ByteArray):(l.map fun s=>s.data.toList).Nodup ↔ l.Nodup:=by
  unfold List.Nodup
  rw [List.pairwise_map]
  constructor
  · exact fun h=>h.imp fun {a b} hne e=>hne (by rw [e])
  · exact fun h => h.imp fun {a b} hne e => hne (by
      have:a.data = b.data:=Array.toList_inj.1 e
      cases a; cases b; simp at this; rw [this])
theorem idiffer_eq (k:Nat) (l:List ByteArray) (hn:l.length ≤ 4194304):impl_areDifferent.f k l = some (decide l.Nodup):=by
  unfold impl_areDifferent.f
  rw [if_pos hn,differ_eq]
  congr 1
  rw [decide_eq_decide]
  exact nodup_bytes l
end Go.Proofs.YtoclajfeeebbbadGreatDoor.V
