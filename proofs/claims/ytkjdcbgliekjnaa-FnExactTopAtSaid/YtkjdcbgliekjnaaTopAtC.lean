/- The closed facts of the row of FnExactTopAt: reckoned by the kernel, in a text of their own. -/
import Derived.Test.YtkjdcbgliekjnaaRows
import Derived.ProofKit
namespace Go.Proofs.Ytkjdcbgliekjnaa
theorem closedFnExactTopAt : joinedFacts Try.pinned.checked.prog 4 Try.f4 Rows.fnExactTopAtSpec Rows.fnExactTopAtRow = true := by kernel_rfl
end Go.Proofs.Ytkjdcbgliekjnaa
