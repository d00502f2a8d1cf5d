/- What each function of this seat does (Lt31). Printed from templates of this seat's own. -/
import Derived.Test.YtagiajolklbbiaaLt2
namespace Go.Proofs.Ytagiajolklbbiaa
open Go.Ax Go.Bx
set_option maxRecDepth 8000
set_option linter.unusedSimpArgs false
set_option linter.unusedVariables false
theorem tab_sh4 : (List.range 17).all (fun e => (List.range 17).all fun s => shOk (shV (qW ((e : Int) - 8)) (qW ((s : Int) - 8)) (phW.getD 4 (0, 0)).1 (phW.getD 4 (0, 0)).2)) = true := by decide +kernel
theorem tab_sh5 : (List.range 17).all (fun e => (List.range 17).all fun s => shOk (shV (qW ((e : Int) - 8)) (qW ((s : Int) - 8)) (phW.getD 5 (0, 0)).1 (phW.getD 5 (0, 0)).2)) = true := by decide +kernel
theorem tab_sh6 : (List.range 17).all (fun e => (List.range 17).all fun s => shOk (shV (qW ((e : Int) - 8)) (qW ((s : Int) - 8)) (phW.getD 6 (0, 0)).1 (phW.getD 6 (0, 0)).2)) = true := by decide +kernel
theorem tab_sh7 : (List.range 17).all (fun e => (List.range 17).all fun s => shOk (shV (qW ((e : Int) - 8)) (qW ((s : Int) - 8)) (phW.getD 7 (0, 0)).1 (phW.getD 7 (0, 0)).2)) = true := by decide +kernel

end Go.Proofs.Ytagiajolklbbiaa
