/- The closed facts of the row of FnExactRainAt: reckoned by the kernel, in a text of their own. -/
import Derived.Test.YtkjdcbgliekjnaaRows
import Derived.ProofKit
namespace Go.Proofs.Ytkjdcbgliekjnaa
theorem closedFnExactRainAt : joinedFacts Try.pinned.checked.prog 5 Try.f5 Rows.fnExactRainAtSpec Rows.fnExactRainAtRow = true := by kernel_rfl
end Go.Proofs.Ytkjdcbgliekjnaa
