/- The closed facts of the row of FnExactSpeedAt: reckoned by the kernel, in a text of their own. -/
import Derived.Test.YtkjdcbgliekjnaaRows
import Derived.ProofKit
namespace Go.Proofs.Ytkjdcbgliekjnaa
theorem closedFnExactSpeedAt : joinedFacts Try.pinned.checked.prog 8 Try.f8 Rows.fnExactSpeedAtSpec Rows.fnExactSpeedAtRow = true := by kernel_rfl
end Go.Proofs.Ytkjdcbgliekjnaa
