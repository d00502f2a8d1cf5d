/- The closed facts of the row of FnExactHeadAt: reckoned by the kernel, in a text of their own. -/
import Derived.Test.YtkjdcbgliekjnaaRows
import Derived.ProofKit
namespace Go.Proofs.Ytkjdcbgliekjnaa
theorem closedFnExactHeadAt : joinedFacts Try.pinned.checked.prog 10 Try.f10 Rows.fnExactHeadAtSpec Rows.fnExactHeadAtRow = true := by kernel_rfl
end Go.Proofs.Ytkjdcbgliekjnaa
