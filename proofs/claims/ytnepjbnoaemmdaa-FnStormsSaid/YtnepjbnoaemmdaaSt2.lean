/- What each function of this seat does (St2). Printed from templates of this seat's own. -/
import Derived.Test.YtnepjbnoaemmdaaSt1
namespace Go.Proofs.Ytnepjbnoaemmdaa
open Go.Ax Go.Bx
set_option maxRecDepth 8000
set_option linter.unusedSimpArgs false
set_option linter.unusedVariables false
/-! Storms that are drawn, in tables. -/
def hI (z : Int) : Nat := fop .quo .f32 (floatOfInt .f32 z) (canon .f32 1073741824)
def qN (n : Nat) : Nat := fop .quo .f32 (floatOfInt .f32 (n : Int)) (canon .f32 1082130432)
def e8 (n : Nat) : Nat := fop .quo .f32 (floatOfInt .f32 (n : Int)) (canon .f32 1090519040)
def sT (a b c d : Nat) : S4 := (hI (a : Int), hI ((b + 1 : Nat) : Int), qN c, e8 (d + 1))
/-- What has fallen, by how much of the time is gone. -/
def stFu (u c p : Nat) : Nat :=
  bif !fcmp .gtr .f32 u (canon .f32 0) then canon .f32 0 else
  bif fcmp .geq .f32 u (canon .f32 1065353216) then c else
  bif fcmp .leq .f32 u p then fop .mul .f32 c (fop .quo .f32 (fop .mul .f32 u u) p) else
  fop .mul .f32 c (fop .sub .f32 (canon .f32 1065353216) (fop .quo .f32 (fop .mul .f32 (fop .sub .f32 (canon .f32 1065353216) u) (fop .sub .f32 (canon .f32 1065353216) u)) (fop .sub .f32 (canon .f32 1065353216) p)))
theorem stF_u (s : S4) (a : Nat) : stF s a = stFu (stT s a) s.2.2.1 s.2.2.2 := rfl
/-- A number that is not below nought. -/
def nnB (x : Nat) : Bool := decide (rungOf FloatKind.f32.format x < FloatKind.f32.format.infRung) && decide (0 ≤ sv .f32 x)
theorem nnB_nn {x : Nat} (h : nnB x = true) : NN .f32 x := by
  simp only [nnB, Bool.and_eq_true, decide_eq_true_eq] at h
  exact ⟨h.1, h.2⟩
def leB (x y : Nat) : Bool := decide (sv .f32 x ≤ sv .f32 y)
def tmK (a b k : Nat) : Nat := fop .add .f32 (hI (a : Int)) (fop .quo .f32 (fop .mul .f32 (hI ((b + 1 : Nat) : Int)) (floatOfInt .f32 (k : Int))) (canon .f32 1090519040))
def stTt (a b t : Nat) : Nat := fop .quo .f32 (fop .sub .f32 t (hI (a : Int))) (hI ((b + 1 : Nat) : Int))
theorem tab_time : (List.range 17).all (fun a => (List.range 12).all fun b => (List.range 9).all fun k => Nat.beq (stTt a b (tmK a b k)) (e8 k) && nnB (tmK a b k)) = true := by decide +kernel
def tmE (a b : Nat) : Nat := fop .add .f32 (fop .add .f32 (hI (a : Int)) (hI ((b + 1 : Nat) : Int))) (canon .f32 1065353216)
theorem tab_ends : (List.range 17).all (fun a => (List.range 12).all fun b => nnB (tmE a b) && (fcmp .gtr .f32 (stTt a b (tmE a b)) (canon .f32 0) && fcmp .geq .f32 (stTt a b (tmE a b)) (canon .f32 1065353216)) && !fcmp .gtr .f32 (stTt a b (hI (a : Int))) (canon .f32 0)) = true := by decide +kernel
theorem tab_valid : (List.range 17).all (fun a => least (hI (a : Int)) && nnB (hI (a : Int)) && leB (hI (a : Int)) (canon .f32 1090519040)) = true := by decide +kernel
theorem tab_valid2 : (List.range 12).all (fun b => above (hI ((b + 1 : Nat) : Int))) = true := by decide +kernel
theorem tab_valid3 : (List.range 17).all (fun c => least (qN c) && nnB (qN c) && leB (qN c) (canon .f32 1082130432)) = true := by decide +kernel
theorem tab_valid4 : (List.range 7).all (fun d => fcmp .gtr .f32 (e8 (d + 1)) (canon .f32 0) && fcmp .lss .f32 (e8 (d + 1)) (canon .f32 1065353216)) = true := by decide +kernel
theorem tab_eight : (List.range 17).all (fun c => (List.range 7).all fun d => (List.range 9).all fun k => nnB (stFu (e8 k) (qN c) (e8 (d + 1))) && leB (stFu (e8 k) (qN c) (e8 (d + 1))) (qN c) && leB (stFu (e8 (k - 1)) (qN c) (e8 (d + 1))) (stFu (e8 k) (qN c) (e8 (d + 1)))) = true := by decide +kernel
/-- The rates. -/
theorem tab_r1 : (List.range 12).all (fun b => (List.range 17).all fun c => nnB (fop .quo .f32 (fop .mul .f32 (canon .f32 1073741824) (qN c)) (hI ((b + 1 : Nat) : Int))) && leB (fop .quo .f32 (fop .mul .f32 (canon .f32 1073741824) (qN c)) (hI ((b + 1 : Nat) : Int))) (canon .f32 1098907648)) = true := by decide +kernel
theorem tab_r2 : (List.range 9).all (fun k => !fcmp .lss .f32 (e8 k) (canon .f32 0) && !fcmp .gtr .f32 (e8 k) (canon .f32 1065353216) && (List.range 7).all fun d => nnB (fop .quo .f32 (e8 k) (e8 (d + 1))) && leB (fop .quo .f32 (e8 k) (e8 (d + 1))) (canon .f32 1098907648) && nnB (fop .quo .f32 (fop .sub .f32 (canon .f32 1065353216) (e8 k)) (fop .sub .f32 (canon .f32 1065353216) (e8 (d + 1)))) && leB (fop .quo .f32 (fop .sub .f32 (canon .f32 1065353216) (e8 k)) (fop .sub .f32 (canon .f32 1065353216) (e8 (d + 1)))) (canon .f32 1098907648)) = true := by decide +kernel
/-- The rain's ticks. -/
def tkR (r : Nat) : Nat := fop .mul .f32 (floatOfInt .f32 (r : Int)) (canon .f32 1056964608)
theorem tab_tick : (List.range 41).all (fun r => fin (tkR r) && (List.range 17).all fun a => Nat.beq (fop .sub .f32 (tkR r) (hI (a : Int))) (hI ((r : Int) - (a : Int)))) = true := by decide +kernel
def uB (b : Nat) (z : Int) : Nat := fop .quo .f32 (hI z) (hI ((b + 1 : Nat) : Int))
theorem tab_lo : (List.range 12).all (fun b => (List.range 17).all fun z => !fcmp .gtr .f32 (uB b (-(z : Int))) (canon .f32 0)) = true := by decide +kernel
theorem tab_hi : (List.range 12).all (fun b => (List.range 41).all fun z => decide (z < b + 1) || (fcmp .gtr .f32 (uB b (z : Int)) (canon .f32 0) && fcmp .geq .f32 (uB b (z : Int)) (canon .f32 1065353216))) = true := by decide +kernel
def fB (b c d : Nat) (z : Int) : Nat := stFu (uB b z) (qN c) (e8 (d + 1))
def moB (b c d j : Nat) : Bool := nnB (fB b c d (j : Int)) && leB (fB b c d (j : Int)) (fB b c d ((j + 1 : Nat) : Int))

end Go.Proofs.Ytnepjbnoaemmdaa
