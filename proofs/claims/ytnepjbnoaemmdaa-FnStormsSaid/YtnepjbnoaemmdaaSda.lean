/- What each function of this seat does (Sda). Printed from templates of this seat's own. -/
import Derived.Test.YtnepjbnoaemmdaaSd0
namespace Go.Proofs.Ytnepjbnoaemmdaa
open Go.Ax Go.Bx
set_option maxRecDepth 8000
set_option linter.unusedSimpArgs false
set_option linter.unusedVariables false
theorem tab_dv0 : (List.range 1024).all (dvB 0) = true := by decide +kernel
theorem tab_dv1 : (List.range 1024).all (dvB 1) = true := by decide +kernel
theorem tab_dv2 : (List.range 1024).all (dvB 2) = true := by decide +kernel
theorem tab_dv3 : (List.range 1024).all (dvB 3) = true := by decide +kernel
theorem tab_dv4 : (List.range 1024).all (dvB 4) = true := by decide +kernel
theorem tab_dv5 : (List.range 1024).all (dvB 5) = true := by decide +kernel
theorem tab_dv6 : (List.range 1024).all (dvB 6) = true := by decide +kernel
theorem tab_dv7 : (List.range 1024).all (dvB 7) = true := by decide +kernel

end Go.Proofs.Ytnepjbnoaemmdaa
