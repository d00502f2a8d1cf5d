/- What each function of this seat does (So6). Printed from templates of this seat's own. -/
import Derived.Test.YtddedcedkpigkaaSo3
import Derived.Test.YtddedcedkpigkaaDso
namespace Go.Proofs.Ytddedcedkpigkaa
open Go.Ax Go.Bx
set_option maxRecDepth 8000
set_option linter.unusedSimpArgs false
set_option linter.unusedVariables false
def qH (h : Nat) : Nat := fop .quo .f32 (floatOfInt .f32 (h : Int)) (canon .f32 1073741824)
def qQ (h : Nat) : Nat := fop .quo .f32 (floatOfInt .f32 (h : Int)) (canon .f32 1082130432)
def qW (h k : Nat) : Nat := fop .quo .f32 (fop .mul .f32 (qH h) (floatOfInt .f32 (k : Int))) (canon .f32 1090519040)
def qV (b w : Nat) : Nat := fop .add .f32 (canon .f32 1065353216) (fop .quo .f32 b (fop .add .f32 (canon .f32 1065353216) w))
def canT (b h : Nat) : Bool := (List.range 9).all fun k => (List.range 9).all fun a => decide (sv .f32 (fop .mul .f32 (qQ a) (qV (qQ b) (qH h))) ≤ sv .f32 (fop .mul .f32 (qQ a) (qV (qQ b) (qW h k))))
set_option maxRecDepth 100000 in
theorem tab_can : (List.range 9).all (fun b => (List.range 17).all fun h => canT b h) = true := by decide +kernel

end Go.Proofs.Ytddedcedkpigkaa
