/- What each function of this seat does (N3a). Printed from templates of this seat's own. -/
import Derived.Test.YtnepjbnoaemmdaaNr2
namespace Go.Proofs.Ytnepjbnoaemmdaa
open Go.Ax Go.Bx
set_option maxRecDepth 8000
set_option linter.unusedSimpArgs false
set_option linter.unusedVariables false
theorem tab_at_0 : (List.range 33).all (fun w => nrT (nrX 0, nrX w)) = true := by decide +kernel
theorem tab_at_1 : (List.range 33).all (fun w => nrT (nrX 1, nrX w)) = true := by decide +kernel
theorem tab_at_2 : (List.range 33).all (fun w => nrT (nrX 2, nrX w)) = true := by decide +kernel
theorem tab_at_3 : (List.range 33).all (fun w => nrT (nrX 3, nrX w)) = true := by decide +kernel
theorem tab_at_4 : (List.range 33).all (fun w => nrT (nrX 4, nrX w)) = true := by decide +kernel
theorem tab_at_5 : (List.range 33).all (fun w => nrT (nrX 5, nrX w)) = true := by decide +kernel
theorem tab_at_6 : (List.range 33).all (fun w => nrT (nrX 6, nrX w)) = true := by decide +kernel
theorem tab_at_7 : (List.range 33).all (fun w => nrT (nrX 7, nrX w)) = true := by decide +kernel
theorem tab_at_8 : (List.range 33).all (fun w => nrT (nrX 8, nrX w)) = true := by decide +kernel
theorem tab_at_9 : (List.range 33).all (fun w => nrT (nrX 9, nrX w)) = true := by decide +kernel
theorem tab_at_10 : (List.range 33).all (fun w => nrT (nrX 10, nrX w)) = true := by decide +kernel

end Go.Proofs.Ytnepjbnoaemmdaa
