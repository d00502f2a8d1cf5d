/- The closed facts of the row of FnExactAreaAt: reckoned by the kernel, in a text of their own. -/
import Derived.Test.YtkjdcbgliekjnaaRows
import Derived.ProofKit
namespace Go.Proofs.Ytkjdcbgliekjnaa
theorem closedFnExactAreaAt : joinedFacts Try.pinned.checked.prog 3 Try.f3 Rows.fnExactAreaAtSpec Rows.fnExactAreaAtRow = true := by kernel_rfl
end Go.Proofs.Ytkjdcbgliekjnaa
