/- What each function of this seat does (Sdc). Printed from templates of this seat's own. -/
import Derived.Test.YtnepjbnoaemmdaaSd0
namespace Go.Proofs.Ytnepjbnoaemmdaa
open Go.Ax Go.Bx
set_option maxRecDepth 8000
set_option linter.unusedSimpArgs false
set_option linter.unusedVariables false
theorem tab_dv16 : (List.range 1024).all (dvB 16) = true := by decide +kernel
theorem tab_dv17 : (List.range 1024).all (dvB 17) = true := by decide +kernel
theorem tab_dv18 : (List.range 1024).all (dvB 18) = true := by decide +kernel
theorem tab_dv19 : (List.range 1024).all (dvB 19) = true := by decide +kernel
theorem tab_dv20 : (List.range 1024).all (dvB 20) = true := by decide +kernel
theorem tab_dv21 : (List.range 1024).all (dvB 21) = true := by decide +kernel
theorem tab_dv22 : (List.range 1024).all (dvB 22) = true := by decide +kernel
theorem tab_dv23 : (List.range 1024).all (dvB 23) = true := by decide +kernel

end Go.Proofs.Ytnepjbnoaemmdaa
