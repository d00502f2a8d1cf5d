/- What each function of this seat does (Sdb). Printed from templates of this seat's own. -/
import Derived.Test.YtnepjbnoaemmdaaSd0
namespace Go.Proofs.Ytnepjbnoaemmdaa
open Go.Ax Go.Bx
set_option maxRecDepth 8000
set_option linter.unusedSimpArgs false
set_option linter.unusedVariables false
theorem tab_dv8 : (List.range 1024).all (dvB 8) = true := by decide +kernel
theorem tab_dv9 : (List.range 1024).all (dvB 9) = true := by decide +kernel
theorem tab_dv10 : (List.range 1024).all (dvB 10) = true := by decide +kernel
theorem tab_dv11 : (List.range 1024).all (dvB 11) = true := by decide +kernel
theorem tab_dv12 : (List.range 1024).all (dvB 12) = true := by decide +kernel
theorem tab_dv13 : (List.range 1024).all (dvB 13) = true := by decide +kernel
theorem tab_dv14 : (List.range 1024).all (dvB 14) = true := by decide +kernel
theorem tab_dv15 : (List.range 1024).all (dvB 15) = true := by decide +kernel

end Go.Proofs.Ytnepjbnoaemmdaa
