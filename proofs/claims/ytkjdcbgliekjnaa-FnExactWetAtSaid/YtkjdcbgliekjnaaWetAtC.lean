/- The closed facts of the row of FnExactWetAt: reckoned by the kernel, in a text of their own. -/
import Derived.Test.YtkjdcbgliekjnaaRows
import Derived.ProofKit
namespace Go.Proofs.Ytkjdcbgliekjnaa
theorem closedFnExactWetAt : joinedFacts Try.pinned.checked.prog 16 Try.f16 Rows.fnExactWetAtSpec Rows.fnExactWetAtRow = true := by kernel_rfl
end Go.Proofs.Ytkjdcbgliekjnaa
