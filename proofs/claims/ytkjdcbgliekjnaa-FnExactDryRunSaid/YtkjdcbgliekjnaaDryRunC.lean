/- The closed facts of the row of FnExactDryRun: reckoned by the kernel, in a text of their own. -/
import Derived.Test.YtkjdcbgliekjnaaRows
import Derived.ProofKit
namespace Go.Proofs.Ytkjdcbgliekjnaa
theorem closedFnExactDryRun : joinedFacts Try.pinned.checked.prog 6 Try.f6 Rows.fnExactDryRunSpec Rows.fnExactDryRunRow = true := by kernel_rfl
end Go.Proofs.Ytkjdcbgliekjnaa
