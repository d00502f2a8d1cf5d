/- The closed facts of the row of FnExactGateUnder: reckoned by the kernel, in a text of their own. -/
import Derived.Test.YtkjdcbgliekjnaaRows
import Derived.ProofKit
namespace Go.Proofs.Ytkjdcbgliekjnaa
theorem closedFnExactGateUnder : joinedFacts Try.pinned.checked.prog 13 Try.f13 Rows.fnExactGateUnderSpec Rows.fnExactGateUnderRow = true := by kernel_rfl
end Go.Proofs.Ytkjdcbgliekjnaa
