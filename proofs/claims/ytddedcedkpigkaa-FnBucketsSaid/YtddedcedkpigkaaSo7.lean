/- What each function of this seat does (So7). Printed from templates of this seat's own. -/
import Derived.Test.YtddedcedkpigkaaSo6
namespace Go.Proofs.Ytddedcedkpigkaa
open Go.Ax Go.Bx
set_option maxRecDepth 8000
set_option linter.unusedSimpArgs false
set_option linter.unusedVariables false
def qO (h : Nat) : Nat := fop .add .f32 (qQ h) (canon .f32 1065353216)
noncomputable def cuOk (F H : Nat) : Bool := leastL [F, H] && (!(fcmp .gtr .f32 (cuE F H) (canon .f32 0)) || fin (cuQ F H))
noncomputable def cuT (F H H1 : Nat) : Bool := cuOk F H && cuOk F H1 && fcmp .geq .f32 (cuR F H) (canon .f32 0) && fcmp .leq .f64 (fwiden (cuR F H)) (fop .add .f64 (fwiden F) (canon .f64 4562254508917369340)) && fcmp .leq .f64 (fwiden (cuR F H1)) (fop .add .f64 (fwiden (cuR F H)) (canon .f64 4562254508917369340))
set_option maxRecDepth 100000 in
theorem tab_curve : (List.range 33).all (fun f => (List.range 33).all fun h => cuT (qQ f) (qQ h) (qO h)) = true := by decide +kernel

end Go.Proofs.Ytddedcedkpigkaa
