/- What each function of this seat does (Lt1). Printed from templates of this seat's own. -/
import Derived.Test.YtagiajolklbbiaaLkq
namespace Go.Proofs.Ytagiajolklbbiaa
open Go.Ax Go.Bx
set_option maxRecDepth 8000
set_option linter.unusedSimpArgs false
set_option linter.unusedVariables false
/-! Finite questions about halves and quarters. -/
def rgT (a i : Nat) : Nat := fop .add .f32 (hI (a : Int)) (fop .mul .f32 (canon .f32 0) (fop .quo .f32 (floatOfInt .f32 (sdN (sdT i) / 65536 - 16384)) (canon .f32 1182793728)))
theorem tab_rough : (List.range 36).all (fun i => (List.range 9).all fun a => rgT a i == hI (a : Int)) = true := by decide +kernel
theorem tab_seed : (List.range 37).all (fun n => Nat.blt n 9 || decide (sdT n ≠ 77)) = true := by decide +kernel
theorem tab_flat : (List.range 9).all (fun a => fin (fop .mul .f32 (hI (a : Int)) (canon .f32 0)) && (fop .add .f32 (hI (a : Int)) (fop .mul .f32 (hI (a : Int)) (canon .f32 0)) == hI (a : Int))) = true := by decide +kernel
theorem tab_minmax : (List.range 9).all (fun a => (List.range 9).all fun b => (fminA .f32 (hI (a : Int)) (hI (b : Int)) == hI ((min a b : Nat) : Int)) && (fmaxA .f32 (hI (a : Int)) (hI (b : Int)) == hI ((max a b : Nat) : Int))) = true := by decide +kernel
theorem tab_sum : (List.range 65).all (fun a => (List.range 9).all fun b => fop .add .f32 (hI (a : Int)) (hI (b : Int)) == hI ((a + b : Nat) : Int)) = true := by decide +kernel
theorem tab_start : (List.range 9).all (fun a => fop .add .f32 (canon .f32 0) (hI (a : Int)) == hI (a : Int)) = true := by decide +kernel
/-- A mean of m halves lies between the lowest and the highest, nearly. -/
def smQ (m z : Nat) : Nat := fop .quo .f32 (hI (z : Int)) (floatOfInt .f32 (m : Int))
def smOk (m z a : Nat) : Bool := (Nat.blt z (a * m) || !(fcmp .lss .f64 (fwiden (smQ m z)) (fop .sub .f64 (fwiden (hI (a : Int))) (canon .f64 4562254508917369340)))) && (Nat.blt (a * m) z || !(fcmp .gtr .f64 (fwiden (smQ m z)) (fop .add .f64 (fwiden (hI (a : Int))) (canon .f64 4562254508917369340))))
theorem tab_smooth : (List.range 9).all (fun m => (List.range (8 * (m + 1) + 1)).all fun z => fin (smQ (m + 1) z) && (List.range 9).all fun a => smOk (m + 1) z a) = true := by decide +kernel

end Go.Proofs.Ytagiajolklbbiaa
