/- What each function of this seat does (Laws). Printed from templates of this seat's own. -/
import Derived.Test.YtojmgleljmoidaaMrk
namespace Go.Proofs.Ytojmgleljmoidaa
open Go.Ax Go.Bx
set_option maxRecDepth 8000
set_option linter.unusedSimpArgs false
set_option linter.unusedVariables false

theorem lawSpread (xs : List Nat) (hn : xs.length < 2 ^ 63) (_ : ∀ y ∈ xs, y < 2 ^ 32) (ys : List Nat) (hn' : ys.length < 2 ^ 63) (_ : ∀ y ∈ ys, y < 2 ^ 32) : Does Try.prog 3 [.sli .f32 xs .undef, .sli .f32 ys .undef] (.bool true) := by
  refine Does.of_awp (X := cx 114) Try.func3 rfl (by kernel_rfl) rfl (by simp [cx]) [] rfl ?_
  conv => whnf
  repeat (first
    | (refine ⟨⟨by kernel_rfl, by kernel_rfl⟩, ?_⟩; conv => whnf)
    | (refine And.intro (by first | omega | (simp; done) | (simp; omega)) ?_; conv => whnf))
  (refine br_intro (fun h => ?_) (fun h => ?_) <;> (conv => whnf))
  have h1 : xs.length ≤ 1048576 := by simp at h; omega
  (refine br_intro (fun h => ?_) (fun h => ?_) <;> (conv => whnf))
  have h2 : ys.length ≤ 1048576 := by simp at h; omega
  have h3 := spreadO_len xs ys h1
  repeat (first
    | (refine ⟨⟨by kernel_rfl, by kernel_rfl⟩, ?_⟩; conv => whnf)
    | (refine And.intro (by first | omega | (simp; done) | (simp; omega)) ?_; conv => whnf)
    | (refine br_intro (fun h => by exfalso; first | (simp at h; done) | (simp at h; omega) | omega) (fun _ => ?_); conv => whnf)
    | (refine br_intro (fun _ => ?_) (fun h => by exfalso; first | (simp at h; done) | (simp at h; omega) | omega); conv => whnf)
    | (refine Exists.intro _ (And.intro (lToF32 (by first | omega | (simp; done) | (simp; omega))) ?_); conv => whnf)
    | (refine Exists.intro _ (And.intro (sSpread (by first | omega | (simp; done) | (simp; omega)) (by first | omega | (simp; done) | (simp; omega))) ?_); conv => whnf)
    | (refine Exists.intro _ (And.intro (iSpread (by first | omega | (simp; done) | (simp; omega)) (by first | omega | (simp; done) | (simp; omega))) ?_); conv => whnf)
    | (refine Exists.intro _ (And.intro (lEqF32' (by first | omega | (simp; done) | (simp; omega))) ?_); conv => whnf)
    | (refine Exists.intro _ (Exists.intro _ (And.intro (And.intro (lMarkF (by first | omega | (simp; done) | (simp; omega)) (by first | omega | (simp; done) | (simp; omega)) (by first | omega | (simp; done) | (simp; omega))) (by simp)) ?_)); conv => whnf)
    | (refine Exists.intro _ (And.intro (lHeldF (by first | omega | (simp; done) | (simp; omega)) (by first | omega | (simp; done) | (simp; omega)) (by first | omega | (simp; done) | (simp; omega))) ?_); conv => whnf))

end Go.Proofs.Ytojmgleljmoidaa
