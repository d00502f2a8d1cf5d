/- The closed facts of the row of FnExactCriticalDepth: reckoned by the kernel, in a text of their own. -/
import Derived.Test.YtkjdcbgliekjnaaRows
import Derived.ProofKit
namespace Go.Proofs.Ytkjdcbgliekjnaa
theorem closedFnExactCriticalDepth : joinedFacts Try.pinned.checked.prog 17 Try.f17 Rows.fnExactCriticalDepthSpec Rows.fnExactCriticalDepthRow = true := by kernel_rfl
end Go.Proofs.Ytkjdcbgliekjnaa
