/- What each function of this seat does (N3c). Printed from templates of this seat's own. -/
import Derived.Test.YtnepjbnoaemmdaaNr2
namespace Go.Proofs.Ytnepjbnoaemmdaa
open Go.Ax Go.Bx
set_option maxRecDepth 8000
set_option linter.unusedSimpArgs false
set_option linter.unusedVariables false
theorem tab_at_22 : (List.range 33).all (fun w => nrT (nrX 22, nrX w)) = true := by decide +kernel
theorem tab_at_23 : (List.range 33).all (fun w => nrT (nrX 23, nrX w)) = true := by decide +kernel
theorem tab_at_24 : (List.range 33).all (fun w => nrT (nrX 24, nrX w)) = true := by decide +kernel
theorem tab_at_25 : (List.range 33).all (fun w => nrT (nrX 25, nrX w)) = true := by decide +kernel
theorem tab_at_26 : (List.range 33).all (fun w => nrT (nrX 26, nrX w)) = true := by decide +kernel
theorem tab_at_27 : (List.range 33).all (fun w => nrT (nrX 27, nrX w)) = true := by decide +kernel
theorem tab_at_28 : (List.range 33).all (fun w => nrT (nrX 28, nrX w)) = true := by decide +kernel
theorem tab_at_29 : (List.range 33).all (fun w => nrT (nrX 29, nrX w)) = true := by decide +kernel
theorem tab_at_30 : (List.range 33).all (fun w => nrT (nrX 30, nrX w)) = true := by decide +kernel
theorem tab_at_31 : (List.range 33).all (fun w => nrT (nrX 31, nrX w)) = true := by decide +kernel
theorem tab_at_32 : (List.range 33).all (fun w => nrT (nrX 32, nrX w)) = true := by decide +kernel

end Go.Proofs.Ytnepjbnoaemmdaa
