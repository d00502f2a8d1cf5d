/- The closed facts of the row of FnExactPipeFlow: reckoned by the kernel, in a text of their own. -/
import Derived.Test.YtkjdcbgliekjnaaRows
import Derived.ProofKit
namespace Go.Proofs.Ytkjdcbgliekjnaa
theorem closedFnExactPipeFlow : joinedFacts Try.pinned.checked.prog 9 Try.f9 Rows.fnExactPipeFlowSpec Rows.fnExactPipeFlowRow = true := by kernel_rfl
end Go.Proofs.Ytkjdcbgliekjnaa
