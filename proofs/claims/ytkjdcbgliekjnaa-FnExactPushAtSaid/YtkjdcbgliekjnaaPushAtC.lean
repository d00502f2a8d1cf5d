/- The closed facts of the row of FnExactPushAt: reckoned by the kernel, in a text of their own. -/
import Derived.Test.YtkjdcbgliekjnaaRows
import Derived.ProofKit
namespace Go.Proofs.Ytkjdcbgliekjnaa
theorem closedFnExactPushAt : joinedFacts Try.pinned.checked.prog 11 Try.f11 Rows.fnExactPushAtSpec Rows.fnExactPushAtRow = true := by kernel_rfl
end Go.Proofs.Ytkjdcbgliekjnaa
