/- What each function of this seat does (S3b). Printed from templates of this seat's own. -/
import Derived.Test.YtnepjbnoaemmdaaSt2
namespace Go.Proofs.Ytnepjbnoaemmdaa
open Go.Ax Go.Bx
set_option maxRecDepth 8000
set_option linter.unusedSimpArgs false
set_option linter.unusedVariables false
theorem tab_mo6 : (List.range 17).all (fun c => (List.range 7).all fun d => (List.range 7).all fun j => moB 6 c d j) = true := by decide +kernel
theorem tab_mo7 : (List.range 17).all (fun c => (List.range 7).all fun d => (List.range 8).all fun j => moB 7 c d j) = true := by decide +kernel
theorem tab_mo8 : (List.range 17).all (fun c => (List.range 7).all fun d => (List.range 9).all fun j => moB 8 c d j) = true := by decide +kernel

end Go.Proofs.Ytnepjbnoaemmdaa
