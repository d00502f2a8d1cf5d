/- What each function of this seat does (S3a). Printed from templates of this seat's own. -/
import Derived.Test.YtnepjbnoaemmdaaSt2
namespace Go.Proofs.Ytnepjbnoaemmdaa
open Go.Ax Go.Bx
set_option maxRecDepth 8000
set_option linter.unusedSimpArgs false
set_option linter.unusedVariables false
theorem tab_mo0 : (List.range 17).all (fun c => (List.range 7).all fun d => (List.range 1).all fun j => moB 0 c d j) = true := by decide +kernel
theorem tab_mo1 : (List.range 17).all (fun c => (List.range 7).all fun d => (List.range 2).all fun j => moB 1 c d j) = true := by decide +kernel
theorem tab_mo2 : (List.range 17).all (fun c => (List.range 7).all fun d => (List.range 3).all fun j => moB 2 c d j) = true := by decide +kernel
theorem tab_mo3 : (List.range 17).all (fun c => (List.range 7).all fun d => (List.range 4).all fun j => moB 3 c d j) = true := by decide +kernel
theorem tab_mo4 : (List.range 17).all (fun c => (List.range 7).all fun d => (List.range 5).all fun j => moB 4 c d j) = true := by decide +kernel
theorem tab_mo5 : (List.range 17).all (fun c => (List.range 7).all fun d => (List.range 6).all fun j => moB 5 c d j) = true := by decide +kernel

end Go.Proofs.Ytnepjbnoaemmdaa
