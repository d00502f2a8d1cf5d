/- The closed facts of the row of FnExactWeirOver: reckoned by the kernel, in a text of their own. -/
import Derived.Test.YtkjdcbgliekjnaaRows
import Derived.ProofKit
namespace Go.Proofs.Ytkjdcbgliekjnaa
theorem closedFnExactWeirOver : joinedFacts Try.pinned.checked.prog 15 Try.f15 Rows.fnExactWeirOverSpec Rows.fnExactWeirOverRow = true := by kernel_rfl
end Go.Proofs.Ytkjdcbgliekjnaa
