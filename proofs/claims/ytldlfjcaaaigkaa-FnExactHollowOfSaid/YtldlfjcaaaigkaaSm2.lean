/- What each function of this seat does (Sm2). Printed from templates of this seat's own. -/
import Derived.Test.YtldlfjcaaaigkaaSmo
namespace Go.Proofs.Ytldlfjcaaaigkaa
open Go.Ax Go.Bx
set_option maxRecDepth 8000
set_option linter.unusedSimpArgs false
set_option linter.unusedVariables false

theorem nbL_mem {W H c : Int} (hW : 1 ≤ W) : ∀ {k : Nat} {r : Int × Nat}, r ∈ nbL W H c k → 0 ≤ r.1 ∧ r.1 < W * H
  | 0, _, h => by cases h
  | k + 1, r, h => by
    cases hO : nbOk W H c k with
    | false => rw [← nbL_no hO] at h; exact nbL_mem hW h
    | true =>
      rw [← nbL_yes hO, List.mem_append] at h
      rcases h with h | h
      · exact nbL_mem hW h
      · rw [List.mem_singleton] at h; subst h; exact nbC_range hW hO
theorem getD_mem {α : Type} {l : List α} {j : Nat} (h : j < l.length) (d : α) : l.getD j d ∈ l := by
  rw [List.getD_eq_getElem?_getD, List.getElem?_eq_getElem h]
  exact List.getElem_mem h

end Go.Proofs.Ytldlfjcaaaigkaa
