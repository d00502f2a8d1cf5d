/- What each function of this seat does (S3c). Printed from templates of this seat's own. -/
import Derived.Test.YtnepjbnoaemmdaaSt2
namespace Go.Proofs.Ytnepjbnoaemmdaa
open Go.Ax Go.Bx
set_option maxRecDepth 8000
set_option linter.unusedSimpArgs false
set_option linter.unusedVariables false
theorem tab_mo9 : (List.range 17).all (fun c => (List.range 7).all fun d => (List.range 10).all fun j => moB 9 c d j) = true := by decide +kernel
theorem tab_mo10 : (List.range 17).all (fun c => (List.range 7).all fun d => (List.range 11).all fun j => moB 10 c d j) = true := by decide +kernel

end Go.Proofs.Ytnepjbnoaemmdaa
