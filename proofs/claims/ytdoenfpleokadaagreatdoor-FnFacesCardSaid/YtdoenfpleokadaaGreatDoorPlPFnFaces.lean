/- The print of an interface: both answer alike. -/
import Derived.Test.YtdoenfpleokadaaGreatDoorPlQFnFaces
set_option linter.unusedVariables false
set_option linter.unusedSimpArgs false
namespace Go.Proofs.YtdoenfpleokadaaGreatDoor.V
open Go.RowKit Go.Proofs.YtdoenfpleokadaaGreatDoor.E
theorem faceL_len (c : SFace) (h : FitI c) : (faceL c).length ≤ 1000000 := by
  have hh := faceH_len c
  have hn := h.nm
  have h60 := h.len
  have key : ∀ (l : List SItem), (∀ x ∈ l, (itemL x).length ≤ 73) → (l.flatMap itemL).length ≤ 73 * l.length := by
    intro l
    induction l with
    | nil => intro _; simp
    | cons x l ih =>
      intro hx
      have := hx x (List.mem_cons_self ..)
      have := ih fun y hy => hx y (List.mem_cons_of_mem _ hy)
      rw [List.flatMap_cons, List.length_append, List.length_cons]
      omega
  have := key c.f1 fun x hx => by
    obtain ⟨h4, h5⟩ := h.item x hx
    rw [itemL_len]
    omega
  unfold faceL
  rw [List.length_append]
  omega
def printM (c : SFace) : Int × Int := if faceB c = true then (sumM (faceL c), 0) else (0, 1)
theorem answers_ev (c : SFace) (h0 : c.f0.size < 9223372036854775807) (hn : c.f1.length ≤ 1048576) (hs : ∀ x ∈ c.f1, x.f4.size < 9223372036854775807 ∧ x.f5.length < 9223372036854775807) :
    Evr (fun k => spec_PrintOf.f k c) (printM c) ∧ Evr (fun k => impl_PrintOf.f k c) (printM c) := by
  unfold spec_PrintOf.f impl_PrintOf.f printM
  have a := sface_ev c hn hs
  have b := iface_ev c h0 hn hs
  by_cases h : faceB c = true
  · have hf := fitI h
    have hl := faceL_len c hf
    rw [if_pos h]
    constructor
    · refine ev_bind _ a (ev_pos h (ev_bind _ (sbytes_ev c hf) (ev_bind (sumM (faceL c)) ?_ ev_some)))
      unfold spec_l03Sum.f spec_l03Sum.e2
      exact ev_bind _ (sum_loop (L := fun k z i => spec_l03Sum.l1 k (faceL c) z i) (faceL c) hl (fun k z i => rfl) _ 0 _ (Nat.zero_add _)) ev_some
    · refine ev_bind _ b (ev_pos h (ev_bind _ (ibytes_ev c hf) (ev_bind (sumM (faceL c)) ?_ ev_some)))
      unfold impl_printOf.f impl_printOf.e2
      refine ev_bind _ (sum_loop (L := fun k z i => impl_printOf.l1 k (strOfNums (faceL c)) z i) (faceL c) hl (fun k z i => ?_) _ 0 _ (Nat.zero_add _)) ev_some
      show impl_printOf.l1 (k + 1) (strOfNums (faceL c)) z i = _
      rw [impl_printOf.l1, bytes_str (faceL_ok c)]
  · rw [if_neg h]
    exact ⟨ev_bind _ a (ev_neg h ev_some), ev_bind _ b (ev_neg h ev_some)⟩
end Go.Proofs.YtdoenfpleokadaaGreatDoor.V
