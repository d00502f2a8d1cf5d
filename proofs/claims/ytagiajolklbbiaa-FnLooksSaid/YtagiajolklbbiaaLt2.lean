/- What each function of this seat does (Lt2). Printed from templates of this seat's own. -/
import Derived.Test.YtagiajolklbbiaaLk6
namespace Go.Proofs.Ytagiajolklbbiaa
open Go.Ax Go.Bx
set_option maxRecDepth 8000
set_option linter.unusedSimpArgs false
set_option linter.unusedVariables false
/-! Finite questions about slopes of quarters. -/
def qW (z : Int) : Nat := fop .quo .f32 (floatOfInt .f32 z) (canon .f32 1082130432)
theorem tab_east : (List.range 17).all (fun e => (List.range 4).all fun x => fop .add .f32 (canon .f32 1065353216) (fop .mul .f32 (qW ((e : Int) - 8)) (floatOfInt .f32 (x : Int))) == qW (4 + ((e : Int) - 8) * x)) = true := by decide +kernel
theorem tab_south : (List.range 17).all (fun s => (List.range 3).all fun y => (List.range 49).all fun u => fop .add .f32 (qW ((u : Int) - 20)) (fop .mul .f32 (qW ((s : Int) - 8)) (floatOfInt .f32 (y : Int))) == qW ((u : Int) - 20 + ((s : Int) - 8) * y)) = true := by decide +kernel
theorem tab_sub : (List.range 33).all (fun d => (List.range 81).all fun a => fop .sub .f32 (qW ((a : Int) - 36 + ((d : Int) - 16))) (qW ((a : Int) - 36)) == qW ((d : Int) - 16)) = true := by decide +kernel
theorem tab_quo : (List.range 17).all (fun e => (fop .quo .f32 (qW ((e : Int) - 8)) (floatOfInt .f32 1) == qW ((e : Int) - 8)) && (fop .quo .f32 (qW (((e : Int) - 8) * 2)) (floatOfInt .f32 2) == qW ((e : Int) - 8))) = true := by decide +kernel
theorem tab_finq : (List.range 81).all (fun a => fin (qW ((a : Int) - 36))) = true := by decide +kernel
/-- A line of sight. -/
def lnW (xi xk eye : Nat) (n far : Nat) : Nat := fop .add .f32 (fop .add .f32 xi eye) (fop .mul .f32 (fop .quo .f32 (floatOfInt .f32 (n : Int)) (floatOfInt .f32 (far : Int))) (fop .sub .f32 xk (fop .add .f32 xi eye)))
def eyQ : Nat := canon .f32 1048576000
def see1 (e : Int) : Bool := (fin (fop .add .f32 (qW 4) eyQ) && (fin (lnW (qW 4) (qW (4 + 3 * e)) eyQ 1 3) && fin (lnW (qW 4) (qW (4 + 3 * e)) eyQ 2 3))) && (!(fcmp .gtr .f32 (qW (4 + e)) (lnW (qW 4) (qW (4 + 3 * e)) eyQ 1 3)) && !(fcmp .gtr .f32 (qW (4 + 2 * e)) (lnW (qW 4) (qW (4 + 3 * e)) eyQ 2 3)))
def see2 (s : Int) : Bool := (fin (fop .add .f32 (qW (4 + 2 * s)) eyQ) && fin (lnW (qW (4 + 2 * s)) (qW 4) eyQ 1 2)) && !(fcmp .gtr .f32 (qW (4 + s)) (lnW (qW (4 + 2 * s)) (qW 4) eyQ 1 2))
def see3 (e : Int) : Bool := fin (fop .sub .f32 (qW (4 + e)) (canon .f32 3246391296)) && fcmp .gtr .f32 (fop .sub .f32 (qW (4 + e)) (canon .f32 3246391296)) (lnW (qW 4) (qW (4 + 3 * e)) eyQ 1 3)
theorem tab_see : (List.range 17).all (fun e => (see1 ((e : Int) - 8) && see2 ((e : Int) - 8)) && see3 ((e : Int) - 8)) = true := by decide +kernel
theorem tab_pow : (List.range 17).all (fun e => (List.range 17).all fun s => !(tooBig (pw64 (qW ((e : Int) - 8), qW ((s : Int) - 8))))) = true := by decide +kernel
def tkW (k : Nat) : Nat := fop .quo .f32 (floatOfInt .f32 (k : Int)) (canon .f32 1098907648)
def phW : List (Nat × Nat) := [(1065353216, 0), (1064076126, 1053028117), (1060439283, 1060439283), (1053028117, 1064076126), (0, 1065353216), (3200511765, 1064076126), (3207922931, 1060439283), (3211559774, 1053028117), (3212836864, 0), (3211559774, 3200511765), (3207922931, 3207922931), (3200511765, 3211559774), (0, 3212836864), (1053028117, 3211559774), (1060439283, 3207922931), (1064076126, 3200511765)]
def phQ (k : Nat) : Bool := (phOk (fwiden (tkW k)) (k / 4) && fin (tkW k)) && (fnarrow (phRe (k / 4) (phC (fwiden (tkW k)) (k / 4)) (phS (fwiden (tkW k)) (k / 4))) == (phW.getD k (0, 0)).1 && fnarrow (phIm (k / 4) (phC (fwiden (tkW k)) (k / 4)) (phS (fwiden (tkW k)) (k / 4))) == (phW.getD k (0, 0)).2)
theorem tab_phase : (List.range 16).all phQ = true := by decide +kernel
def coC (x y : Nat) : Nat := fop .sub .f32 (canon .f32 1073741824) (fop .mul .f32 (canon .f32 1065353216) (roW (fop .add .f32 (fop .mul .f32 (fop .sub .f32 (floatOfInt .f32 (x : Int)) (fop .quo .f32 (floatOfInt .f32 2) (canon .f32 1073741824))) (fop .sub .f32 (floatOfInt .f32 (x : Int)) (fop .quo .f32 (floatOfInt .f32 2) (canon .f32 1073741824)))) (fop .mul .f32 (fop .sub .f32 (floatOfInt .f32 (y : Int)) (fop .quo .f32 (floatOfInt .f32 2) (canon .f32 1073741824))) (fop .sub .f32 (floatOfInt .f32 (y : Int)) (fop .quo .f32 (floatOfInt .f32 2) (canon .f32 1073741824)))))))
theorem tab_cone : ((List.range 3).all fun x => (List.range 3).all fun y => fin (coC x y)) = true := by decide +kernel
theorem tab_cone2 : (fcmp .eql .f32 (coC 1 1) (canon .f32 1073741824) && fcmp .eql .f32 (coC 1 0) (canon .f32 1065353216)) = true := by decide +kernel
/-- What is asked of a shade. -/
def shOk (v : Nat) : Bool := (fin v && !(fcmp .lss .f32 v (canon .f32 0))) && (!(fcmp .gtr .f64 (fwiden v) (canon .f64 4607186922399644778)) && !(fcmp .neq .f32 v v))

end Go.Proofs.Ytagiajolklbbiaa
