/- What each function of this seat does (N3b). Printed from templates of this seat's own. -/
import Derived.Test.YtnepjbnoaemmdaaNr2
namespace Go.Proofs.Ytnepjbnoaemmdaa
open Go.Ax Go.Bx
set_option maxRecDepth 8000
set_option linter.unusedSimpArgs false
set_option linter.unusedVariables false
theorem tab_at_11 : (List.range 33).all (fun w => nrT (nrX 11, nrX w)) = true := by decide +kernel
theorem tab_at_12 : (List.range 33).all (fun w => nrT (nrX 12, nrX w)) = true := by decide +kernel
theorem tab_at_13 : (List.range 33).all (fun w => nrT (nrX 13, nrX w)) = true := by decide +kernel
theorem tab_at_14 : (List.range 33).all (fun w => nrT (nrX 14, nrX w)) = true := by decide +kernel
theorem tab_at_15 : (List.range 33).all (fun w => nrT (nrX 15, nrX w)) = true := by decide +kernel
theorem tab_at_16 : (List.range 33).all (fun w => nrT (nrX 16, nrX w)) = true := by decide +kernel
theorem tab_at_17 : (List.range 33).all (fun w => nrT (nrX 17, nrX w)) = true := by decide +kernel
theorem tab_at_18 : (List.range 33).all (fun w => nrT (nrX 18, nrX w)) = true := by decide +kernel
theorem tab_at_19 : (List.range 33).all (fun w => nrT (nrX 19, nrX w)) = true := by decide +kernel
theorem tab_at_20 : (List.range 33).all (fun w => nrT (nrX 20, nrX w)) = true := by decide +kernel
theorem tab_at_21 : (List.range 33).all (fun w => nrT (nrX 21, nrX w)) = true := by decide +kernel

end Go.Proofs.Ytnepjbnoaemmdaa
