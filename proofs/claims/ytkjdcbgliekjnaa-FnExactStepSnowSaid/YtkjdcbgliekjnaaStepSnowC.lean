/- The closed facts of the row of FnExactStepSnow: reckoned by the kernel, in a text of their own. -/
import Derived.Test.YtkjdcbgliekjnaaRows
import Derived.ProofKit
namespace Go.Proofs.Ytkjdcbgliekjnaa
theorem closedFnExactStepSnow : joinedFacts Try.pinned.checked.prog 12 Try.f12 Rows.fnExactStepSnowSpec Rows.fnExactStepSnowRow = true := by kernel_rfl
end Go.Proofs.Ytkjdcbgliekjnaa
