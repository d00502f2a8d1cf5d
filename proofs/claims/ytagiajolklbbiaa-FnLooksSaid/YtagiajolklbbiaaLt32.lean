/- What each function of this seat does (Lt32). Printed from templates of this seat's own. -/
import Derived.Test.YtagiajolklbbiaaLt2
namespace Go.Proofs.Ytagiajolklbbiaa
open Go.Ax Go.Bx
set_option maxRecDepth 8000
set_option linter.unusedSimpArgs false
set_option linter.unusedVariables false
theorem tab_sh8 : (List.range 17).all (fun e => (List.range 17).all fun s => shOk (shV (qW ((e : Int) - 8)) (qW ((s : Int) - 8)) (phW.getD 8 (0, 0)).1 (phW.getD 8 (0, 0)).2)) = true := by decide +kernel
theorem tab_sh9 : (List.range 17).all (fun e => (List.range 17).all fun s => shOk (shV (qW ((e : Int) - 8)) (qW ((s : Int) - 8)) (phW.getD 9 (0, 0)).1 (phW.getD 9 (0, 0)).2)) = true := by decide +kernel
theorem tab_sh10 : (List.range 17).all (fun e => (List.range 17).all fun s => shOk (shV (qW ((e : Int) - 8)) (qW ((s : Int) - 8)) (phW.getD 10 (0, 0)).1 (phW.getD 10 (0, 0)).2)) = true := by decide +kernel
theorem tab_sh11 : (List.range 17).all (fun e => (List.range 17).all fun s => shOk (shV (qW ((e : Int) - 8)) (qW ((s : Int) - 8)) (phW.getD 11 (0, 0)).1 (phW.getD 11 (0, 0)).2)) = true := by decide +kernel

end Go.Proofs.Ytagiajolklbbiaa
