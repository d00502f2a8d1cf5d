/- The closed facts of the row of FnExactFallenBy: reckoned by the kernel, in a text of their own. -/
import Derived.Test.YtkjdcbgliekjnaaRows
import Derived.ProofKit
namespace Go.Proofs.Ytkjdcbgliekjnaa
theorem closedFnExactFallenBy : joinedFacts Try.pinned.checked.prog 7 Try.f7 Rows.fnExactFallenBySpec Rows.fnExactFallenByRow = true := by kernel_rfl
end Go.Proofs.Ytkjdcbgliekjnaa
