/- What each function of this seat does (Sdd). Printed from templates of this seat's own. -/
import Derived.Test.YtnepjbnoaemmdaaSd0
namespace Go.Proofs.Ytnepjbnoaemmdaa
open Go.Ax Go.Bx
set_option maxRecDepth 8000
set_option linter.unusedSimpArgs false
set_option linter.unusedVariables false
theorem tab_dv24 : (List.range 1024).all (dvB 24) = true := by decide +kernel
theorem tab_dv25 : (List.range 1024).all (dvB 25) = true := by decide +kernel
theorem tab_dv26 : (List.range 1024).all (dvB 26) = true := by decide +kernel
theorem tab_dv27 : (List.range 1024).all (dvB 27) = true := by decide +kernel
theorem tab_dv28 : (List.range 1024).all (dvB 28) = true := by decide +kernel
theorem tab_dv29 : (List.range 1024).all (dvB 29) = true := by decide +kernel
theorem tab_dv30 : (List.range 1024).all (dvB 30) = true := by decide +kernel
theorem tab_dv31 : (List.range 1024).all (dvB 31) = true := by decide +kernel

end Go.Proofs.Ytnepjbnoaemmdaa
