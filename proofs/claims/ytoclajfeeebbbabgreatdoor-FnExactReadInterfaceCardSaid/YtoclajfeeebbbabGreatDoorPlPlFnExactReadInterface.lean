/- How long an interface's bytes may be. -/
import Derived.Test.YtoclajfeeebbbabGreatDoorPlQFnExactReadInterface
set_option linter.unusedVariables false
set_option linter.unusedSimpArgs false
namespace Go.Proofs.YtoclajfeeebbbabGreatDoor.V
open Go.RowKit Go.Proofs.YtoclajfeeebbbabGreatDoor.E
theorem faceL_len (c : SFace) (h : FitI c) : (faceL c).length ≤ 1000000 := by
  have hh := faceH_len c
  have hn := h.nm
  have h60 := h.len
  have key : ∀ (l : List SItem), (∀ x ∈ l, (itemL x).length ≤ 73) → (l.flatMap itemL).length ≤ 73 * l.length := by
    intro l
    induction l with
    | nil => intro _; simp
    | cons x l ih =>
      intro hx
      have := hx x (List.mem_cons_self ..)
      have := ih fun y hy => hx y (List.mem_cons_of_mem _ hy)
      rw [List.flatMap_cons, List.length_append, List.length_cons]
      omega
  have := key c.f1 fun x hx => by
    obtain ⟨h4, h5⟩ := h.item x hx
    rw [itemL_len]
    omega
  unfold faceL
  rw [List.length_append]
  omega
end Go.Proofs.YtoclajfeeebbbabGreatDoor.V
