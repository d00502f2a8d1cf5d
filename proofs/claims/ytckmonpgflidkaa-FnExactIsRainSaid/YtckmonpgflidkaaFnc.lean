/- What each function of this seat does. Printed by gen1.py. -/
import Derived.Test.YtckmonpgflidkaaAxZ
import Derived.Test.YtckmonpgflidkaaAxC
import Derived.Test.YtckmonpgflidkaaAxL
import Derived.Test.YtckmonpgflidkaaRows
namespace Go.Proofs.Ytckmonpgflidkaa
open Go.Ax
set_option maxRecDepth 8000
def K (n : Nat) : Nat := canon .f32 n
def least (x : Nat) : Bool := fin x && fcmp .geq .f32 x (K 0)
def above (x : Nat) : Bool := fin x && fcmp .gtr .f32 x (K 0)
def share (x : Nat) : Bool := fcmp .geq .f32 x (K 0) && fcmp .leq .f32 x (K 1065353216)
def numV (x : Nat) : Nat := bif fin x then x else K 0
def num (x : Nat) : AV := .tup [.flt .f32 (numV x), .bool (fin x)]
def canV (a b e : Nat) : Nat := fop .mul .f32 a (fop .add .f32 (K 1065353216) (fop .quo .f32 b (fop .add .f32 (K 1065353216) e)))
def soilOk (a b c d e : Nat) : Bool := least a && least b && least c && least d && fcmp .geq .f32 e (K 0) && fcmp .leq .f32 e c
def snowOk (a b c d : Nat) : Bool := least a && share b && least c && least d
def stormOk (a b c d : Nat) : Bool := least a && above b && least c && fcmp .gtr .f32 d (K 0) && fcmp .lss .f32 d (K 1065353216)
def sectOk (a b c d : Nat) : Bool := least a && least b && (fcmp .gtr .f32 a (K 0) || fcmp .gtr .f32 b (K 0)) && above c && above d
def roundV (x : Nat) : Nat := fop .mul .f32 (fop .mul .f32 (K 1061752795) x) x
def bits2 (a b : Nat) : Bool := bitsI a == bitsI b
def allL : List Nat → Bool
  | [] => true
  | x :: xs => least x && allL xs
def allA : List Nat → Bool
  | [] => true
  | x :: xs => above x && allA xs
def firstBad : List Nat → Nat → Int
  | [], _ => -1
  | x :: xs, i => bif least x then firstBad xs (i + 1) else i
def eqL : List Nat → List Nat → Bool
  | [], [] => true
  | x :: xs, y :: ys => sameN x y && eqL xs ys
  | _, _ => false

def S62 : List AV → Option AV
  | [.flt .f32 x] => some (.bool (fin x))
  | _ => none
def S69 : List AV → Option AV
  | [.flt .f32 x] => some (.bool (least x))
  | _ => none
def S61 : List AV → Option AV
  | [.flt .f32 a, .flt .f32 b, .flt .f32 c] => some (.bool (above a && above b && above c))
  | _ => none
def S82 : List AV → Option AV
  | [.flt .f32 x] => some (.bool (above x))
  | _ => none
def S81 : List AV → Option AV
  | [.flt .f32 x] => some (.bool (share x))
  | _ => none
def S79 : List AV → Option AV
  | [.flt .f32 x] => some (.bool (!least x))
  | _ => none
def S64 : List AV → Option AV
  | [.flt .f32 x] => some (num x)
  | _ => none
def S63 : List AV → Option AV
  | [.flt .f32 x] => some (.flt .f32 (roundV x))
  | _ => none
def S84 : List AV → Option AV
  | [.flt .f64 x] => some (.flt .f64 (fabs64 x))
  | _ => none
def S90 : List AV → Option AV
  | [.fbits x] => some (.flt .f64 x)
  | _ => none
def S91 : List AV → Option AV
  | [.flt .f64 x] => some (.fbits x)
  | _ => none
def S85 : List AV → Option AV
  | [.flt .f32 x] => match isNaN .f32 x with
    | false => some (.int .u32 x)
    | true => none
  | _ => none
def S88 : List AV → Option AV
  | [.flt .f64 x] => some (.bool (fcmp .neq .f64 x x))
  | _ => none
def S89 : List AV → Option AV
  | [.flt .f64 x, .int .i64 0] => some (.bool (fcmp .gtr .f64 (fabs64 x) (canon .f64 9218868437227405311)))
  | _ => none
def S83 : List AV → Option AV
  | [.flt .f64 x] => some (.bool (!(fcmp .neq .f64 x x) && !(fcmp .gtr .f64 (fabs64 x) (canon .f64 9218868437227405311))))
  | _ => none
def S86 : List AV → Option AV
  | [.flt .f64 x] => match isNaN .f64 x with
    | false => some (.bool (sgn x))
    | true => none
  | _ => none
def S75 : List AV → Option AV
  | [.flt .f32 x] => some (.int .i64 (bitsI x))
  | _ => none
def S49 : List AV → Option AV
  | [.flt .f32 x, .flt .f32 y] => some (.bool (bits2 x y))
  | _ => none
def S77 : List AV → Option AV
  | [.flt .f32 x, .flt .f32 y] => some (.bool (sameN x y))
  | _ => none
def S68 : List AV → Option AV
  | [.flt .f32 x] => some (.flt .f32 (fabs32 x))
  | _ => none
def S39 : List AV → Option AV
  | [.flt .f64 x, .flt .f64 y] => some (.bool (sameF x y))
  | _ => none
def S87 : List AV → Option AV
  | [.sli 1 n cs _, .fn f []] => match flts cs with
    | some xs => if f = 79 ∧ n = xs.length ∧ n < 2 ^ 40 then some (.int .i64 (firstBad xs 0)) else none
    | none => none
  | _ => none
def S78 : List AV → Option AV
  | [.sli 1 n cs _, .fn f []] => match flts cs with
    | some xs => if f = 79 ∧ n = xs.length ∧ n < 2 ^ 40 then some (.bool (!allL xs)) else none
    | none => none
  | _ => none
def S54 : List AV → Option AV
  | [.sli 1 n cs _] => match flts cs with
    | some xs => if n = xs.length ∧ n < 2 ^ 40 then some (.bool (allL xs)) else none
    | none => none
  | _ => none
def S59 : List AV → Option AV
  | [.sli 1 n cs _] => match flts cs with
    | some xs => if n = xs.length ∧ n < 2 ^ 40 then some (.bool (allA xs)) else none
    | none => none
  | _ => none
def S76 : List AV → Option AV
  | [.sli 1 n cs _, .sli 1 n' ds _, .fn f []] => match flts cs, flts ds with
    | some xs, some ys => if f = 77 ∧ n = xs.length ∧ n' = ys.length ∧ n < 2 ^ 40 ∧ n' < 2 ^ 40 then some (.bool (eqL xs ys)) else none
    | _, _ => none
  | _ => none
def S50 : List AV → Option AV
  | [.sli 1 n cs _, .sli 1 n' ds _] => match flts cs, flts ds with
    | some xs, some ys => if n = xs.length ∧ n' = ys.length ∧ n < 2 ^ 40 ∧ n' < 2 ^ 40 then some (.bool (eqL xs ys)) else none
    | _, _ => none
  | _ => none
def S16 : List AV → Option AV
  | [.agg [.flt .f32 a, .flt .f32 b, .flt .f32 c, .flt .f32 d]] => some (.agg [.flt .f32 a, .flt .f32 b, .flt .f32 c, .flt .f32 d])
  | _ => none
def S22 : List AV → Option AV
  | [.agg [.flt .f32 a, .flt .f32 b, .flt .f32 c, .flt .f32 d, .flt .f32 e]] => some (.agg [.flt .f32 a, .flt .f32 b, .flt .f32 c, .flt .f32 d, .flt .f32 e])
  | _ => none
def S53 : List AV → Option AV
  | [.ref [.flt .f32 a, .flt .f32 b, .flt .f32 c, .flt .f32 d, .flt .f32 e] _] => some (.bool (soilOk a b c d e))
  | _ => none
def S24 : List AV → Option AV
  | [.agg [.flt .f32 a, .flt .f32 b, .flt .f32 c, .flt .f32 d, .flt .f32 e]] => some (.bool (soilOk a b c d e))
  | _ => none
def S55 : List AV → Option AV
  | [.ref [.flt .f32 a, .flt .f32 b, .flt .f32 c, .flt .f32 d] _] => some (.bool (snowOk a b c d))
  | _ => none
def S26 : List AV → Option AV
  | [.agg [.flt .f32 a, .flt .f32 b, .flt .f32 c, .flt .f32 d]] => some (.bool (snowOk a b c d))
  | _ => none
def S56 : List AV → Option AV
  | [.ref [.flt .f32 a, .flt .f32 b, .flt .f32 c, .flt .f32 d] _] => some (.bool (stormOk a b c d))
  | _ => none
def S28 : List AV → Option AV
  | [.agg [.flt .f32 a, .flt .f32 b, .flt .f32 c, .flt .f32 d]] => some (.bool (stormOk a b c d))
  | _ => none
def S58 : List AV → Option AV
  | [.ref [.flt .f32 a, .flt .f32 b, .flt .f32 c, .flt .f32 d] _] => some (.bool (sectOk a b c d))
  | _ => none
def S31 : List AV → Option AV
  | [.agg [.flt .f32 a, .flt .f32 b, .flt .f32 c, .flt .f32 d]] => some (.bool (sectOk a b c d))
  | _ => none
def S70 : List AV → Option AV
  | [.ref [.flt .f32 a, .flt .f32 b, .flt .f32 _, .flt .f32 _, .flt .f32 e] _] => some (.flt .f32 (canV a b e))
  | _ => none
def S71 : List AV → Option AV
  | [.agg [.flt .f32 a, .flt .f32 b, .flt .f32 _, .flt .f32 _, .flt .f32 e]] => some (.flt .f32 (canV a b e))
  | _ => none
def S42 : List AV → Option AV
  | [.agg [.flt .f32 a, .flt .f32 b, .flt .f32 c, .flt .f32 d, .flt .f32 e]] => some (.tup [.flt .f32 (bif soilOk a b c d e then numV (canV a b e) else K 0), .bool (soilOk a b c d e && fin (canV a b e))])
  | _ => none
def curveA (x y : Nat) : Nat := fop .sub .f32 x (fop .mul .f32 (K 1045220557) y)
def curveB (x y : Nat) : Nat := fop .quo .f32 (fop .mul .f32 (curveA x y) (curveA x y)) (fop .add .f32 x (fop .mul .f32 (K 1061997773) y))
def curveOk (x y : Nat) : Bool := least x && least y
def curveUp (x y : Nat) : Bool := fcmp .gtr .f32 (curveA x y) (K 0)
def S40 : List AV → Option AV
  | [.flt .f32 x, .flt .f32 y] => some (.tup [.flt .f32 (bif curveOk x y && curveUp x y then numV (curveB x y) else K 0), .bool (curveOk x y && (!curveUp x y || fin (curveB x y)))])
  | _ => none
def pipeOk (a b c d : Nat) : Bool := above b && above c && above d && fin a
def pipeP (a b : Nat) : Nat := fop .quo .f32 a (roundV b)
def pipeQ (p : Nat) : Nat := bif fcmp .leq .f32 p (K 0) then fop .sub .f32 (K 0) p else p
def pipeR (a b c d : Nat) : Nat := fop .quo .f32 (fop .mul .f32 (fop .mul .f32 (fop .mul .f32 d (fop .quo .f32 c b)) (pipeP a b)) (pipeQ (pipeP a b))) (K 1100805571)
def S37 : List AV → Option AV
  | [.flt .f32 a, .flt .f32 b, .flt .f32 c, .flt .f32 d] => some (.tup [.flt .f32 (bif pipeOk a b c d then numV (pipeR a b c d) else K 0), .bool (pipeOk a b c d && fin (pipeR a b c d))])
  | _ => none
def same4 (a b c d p q r s : Nat) : Bool := bits2 a p && bits2 b q && bits2 c r && bits2 d s
def same5 (a b c d e p q r s t : Nat) : Bool := bits2 a p && bits2 b q && bits2 c r && bits2 d s && bits2 e t
def S51 : List AV → Option AV
  | [.ref [.flt .f32 a, .flt .f32 b, .flt .f32 c, .flt .f32 d] _, .ref [.flt .f32 p, .flt .f32 q, .flt .f32 r, .flt .f32 s] _] => some (.bool (same4 a b c d p q r s))
  | _ => none
def S52 : List AV → Option AV
  | [.ref [.flt .f32 a, .flt .f32 b, .flt .f32 c, .flt .f32 d, .flt .f32 e] _, .ref [.flt .f32 p, .flt .f32 q, .flt .f32 r, .flt .f32 s, .flt .f32 t] _] => some (.bool (same5 a b c d e p q r s t))
  | _ => none
def S15 : List AV → Option AV
  | [.agg [.flt .f32 a, .flt .f32 b, .flt .f32 c, .flt .f32 d], .agg [.flt .f32 p, .flt .f32 q, .flt .f32 r, .flt .f32 s]] => some (.bool (same4 a b c d p q r s))
  | _ => none
def S21 : List AV → Option AV
  | [.agg [.flt .f32 a, .flt .f32 b, .flt .f32 c, .flt .f32 d, .flt .f32 e], .agg [.flt .f32 p, .flt .f32 q, .flt .f32 r, .flt .f32 s, .flt .f32 t]] => some (.bool (same5 a b c d e p q r s t))
  | _ => none
def S17 : List AV → Option AV
  | [.agg [.flt .f32 a, .flt .f32 b, .flt .f32 c, .flt .f32 d], .agg [.flt .f32 p, .flt .f32 q, .flt .f32 r, .flt .f32 s]] => some (.bool (eqL [a, b, c, d] [p, q, r, s]))
  | _ => none
def S23 : List AV → Option AV
  | [.agg [.flt .f32 a, .flt .f32 b, .flt .f32 c, .flt .f32 d, .flt .f32 e], .agg [.flt .f32 p, .flt .f32 q, .flt .f32 r, .flt .f32 s, .flt .f32 t]] => some (.bool (eqL [a, b, c, d, e] [p, q, r, s, t]))
  | _ => none
def S3 : List AV → Option AV
  | [.agg [.flt .f32 a, .flt .f32 b, .flt .f32 c, .flt .f32 d], .agg [.flt .f32 p, .flt .f32 q, .flt .f32 r, .flt .f32 s]] => if a < 2 ^ 32 ∧ b < 2 ^ 32 ∧ c < 2 ^ 32 ∧ d < 2 ^ 32 ∧ p < 2 ^ 32 ∧ q < 2 ^ 32 ∧ r < 2 ^ 32 ∧ s < 2 ^ 32 then some (.bool true) else none
  | _ => none
def S5 : List AV → Option AV
  | [.agg [.flt .f32 a, .flt .f32 b, .flt .f32 c, .flt .f32 d, .flt .f32 e], .agg [.flt .f32 p, .flt .f32 q, .flt .f32 r, .flt .f32 s, .flt .f32 t]] => if a < 2 ^ 32 ∧ b < 2 ^ 32 ∧ c < 2 ^ 32 ∧ d < 2 ^ 32 ∧ e < 2 ^ 32 ∧ p < 2 ^ 32 ∧ q < 2 ^ 32 ∧ r < 2 ^ 32 ∧ s < 2 ^ 32 ∧ t < 2 ^ 32 then some (.bool true) else none
  | _ => none
def S6 : List AV → Option AV
  | [.agg [.flt .f32 _, .flt .f32 _, .flt .f32 _, .flt .f32 _, .flt .f32 _]] => some (.bool true)
  | _ => none
def S7 : List AV → Option AV
  | [.agg [.flt .f32 _, .flt .f32 _, .flt .f32 _, .flt .f32 _]] => some (.bool true)
  | _ => none
def S12 : List AV → Option AV
  | [.flt .f32 _, .flt .f32 _] => some (.bool true)
  | _ => none
def S11 : List AV → Option AV
  | [.flt .f32 _, .flt .f32 _, .flt .f32 _, .flt .f32 _] => some (.bool true)
  | _ => none
def sameL : List Nat → List Nat → Bool
  | [], [] => true
  | x :: xs, y :: ys => sameF (fwiden x) (fwiden y) && sameL xs ys
  | _, _ => false
theorem sameL_self : ∀ xs : List Nat, sameL xs xs = true
  | [] => rfl
  | x :: xs => by unfold sameL; rw [sameF_self, sameL_self xs]; rfl
theorem sameL_len : ∀ {xs ys : List Nat}, xs.length ≠ ys.length → sameL xs ys = false
  | [], [], h => absurd rfl h
  | [], _ :: _, _ => rfl
  | _ :: _, [], _ => rfl
  | x :: xs, y :: ys, h => by
    unfold sameL
    rw [sameL_len (fun e => h (by simp [e]))]; simp
def S34 : List AV → Option AV
  | [.sli 1 n cs _] => match flts cs with
    | some xs => if n = xs.length ∧ n ≤ 1048576 then some (.own 0 1 n (f32s xs)) else none
    | none => none
  | _ => none
def S60 : List AV → Option AV
  | [.sli 1 n cs _] => match flts cs with
    | some xs => if n = xs.length ∧ n ≤ 1048576 then some (.bool (decide ((n : Int) ≤ 128) && allL xs)) else none
    | none => none
  | _ => none
def S36 : List AV → Option AV
  | [.sli 1 n cs _, .sli 1 n' ds _] => match flts cs, flts ds with
    | some xs, some ys => if n = xs.length ∧ n' = ys.length ∧ n ≤ 1048576 ∧ n' ≤ 1048576 then some (.bool (sameL xs ys)) else none
    | _, _ => none
  | _ => none
def S10 : List AV → Option AV
  | [.sli 1 n cs _] => match flts cs with
    | some xs => if n = xs.length then some (.bool true) else none
    | none => none
  | _ => none
def env (f : FuncId) (args : List AV) : Option AV :=
  if f = 3 then S3 args else
  if f = 4 then S3 args else
  if f = 5 then S5 args else
  if f = 6 then S6 args else
  if f = 7 then S7 args else
  if f = 8 then S7 args else
  if f = 9 then S7 args else
  if f = 10 then S10 args else
  if f = 11 then S11 args else
  if f = 12 then S12 args else
  if f = 13 then S6 args else
  if f = 15 then S15 args else
  if f = 16 then S16 args else
  if f = 17 then S17 args else
  if f = 18 then S15 args else
  if f = 19 then S16 args else
  if f = 20 then S17 args else
  if f = 21 then S21 args else
  if f = 22 then S22 args else
  if f = 23 then S23 args else
  if f = 24 then S24 args else
  if f = 25 then S24 args else
  if f = 26 then S26 args else
  if f = 27 then S26 args else
  if f = 28 then S28 args else
  if f = 29 then S16 args else
  if f = 30 then S28 args else
  if f = 31 then S31 args else
  if f = 32 then S31 args else
  if f = 33 then S60 args else
  if f = 34 then S34 args else
  if f = 35 then S60 args else
  if f = 36 then S36 args else
  if f = 37 then S37 args else
  if f = 38 then S37 args else
  if f = 39 then S39 args else
  if f = 40 then S40 args else
  if f = 41 then S40 args else
  if f = 42 then S42 args else
  if f = 43 then S42 args else
  if f = 49 then S49 args else
  if f = 50 then S50 args else
  if f = 51 then S51 args else
  if f = 52 then S52 args else
  if f = 53 then S53 args else
  if f = 54 then S54 args else
  if f = 55 then S55 args else
  if f = 56 then S56 args else
  if f = 57 then S82 args else
  if f = 58 then S58 args else
  if f = 59 then S59 args else
  if f = 60 then S60 args else
  if f = 61 then S61 args else
  if f = 62 then S62 args else
  if f = 63 then S63 args else
  if f = 64 then S64 args else
  if f = 65 then S62 args else
  if f = 66 then S63 args else
  if f = 67 then S64 args else
  if f = 68 then S68 args else
  if f = 69 then S69 args else
  if f = 70 then S70 args else
  if f = 71 then S71 args else
  if f = 75 then S75 args else
  if f = 76 then S76 args else
  if f = 77 then S77 args else
  if f = 78 then S78 args else
  if f = 79 then S79 args else
  if f = 80 then S69 args else
  if f = 81 then S81 args else
  if f = 82 then S82 args else
  if f = 83 then S83 args else
  if f = 84 then S84 args else
  if f = 85 then S85 args else
  if f = 86 then S86 args else
  if f = 87 then S87 args else
  if f = 88 then S88 args else
  if f = 89 then S89 args else
  if f = 90 then S90 args else
  if f = 91 then S91 args else
  none
noncomputable def cx (N : Nat) (cs : List FuncId) : Cx := { P := Try.prog, N, env, cs }
theorem e3 (args : List AV) : env 3 args = S3 args := rfl
theorem e4 (args : List AV) : env 4 args = S3 args := rfl
theorem e5 (args : List AV) : env 5 args = S5 args := rfl
theorem e6 (args : List AV) : env 6 args = S6 args := rfl
theorem e7 (args : List AV) : env 7 args = S7 args := rfl
theorem e8 (args : List AV) : env 8 args = S7 args := rfl
theorem e9 (args : List AV) : env 9 args = S7 args := rfl
theorem e10 (args : List AV) : env 10 args = S10 args := rfl
theorem e11 (args : List AV) : env 11 args = S11 args := rfl
theorem e12 (args : List AV) : env 12 args = S12 args := rfl
theorem e13 (args : List AV) : env 13 args = S6 args := rfl
theorem e15 (args : List AV) : env 15 args = S15 args := rfl
theorem e16 (args : List AV) : env 16 args = S16 args := rfl
theorem e17 (args : List AV) : env 17 args = S17 args := rfl
theorem e18 (args : List AV) : env 18 args = S15 args := rfl
theorem e19 (args : List AV) : env 19 args = S16 args := rfl
theorem e20 (args : List AV) : env 20 args = S17 args := rfl
theorem e21 (args : List AV) : env 21 args = S21 args := rfl
theorem e22 (args : List AV) : env 22 args = S22 args := rfl
theorem e23 (args : List AV) : env 23 args = S23 args := rfl
theorem e24 (args : List AV) : env 24 args = S24 args := rfl
theorem e25 (args : List AV) : env 25 args = S24 args := rfl
theorem e26 (args : List AV) : env 26 args = S26 args := rfl
theorem e27 (args : List AV) : env 27 args = S26 args := rfl
theorem e28 (args : List AV) : env 28 args = S28 args := rfl
theorem e29 (args : List AV) : env 29 args = S16 args := rfl
theorem e30 (args : List AV) : env 30 args = S28 args := rfl
theorem e31 (args : List AV) : env 31 args = S31 args := rfl
theorem e32 (args : List AV) : env 32 args = S31 args := rfl
theorem e33 (args : List AV) : env 33 args = S60 args := rfl
theorem e34 (args : List AV) : env 34 args = S34 args := rfl
theorem e35 (args : List AV) : env 35 args = S60 args := rfl
theorem e36 (args : List AV) : env 36 args = S36 args := rfl
theorem e37 (args : List AV) : env 37 args = S37 args := rfl
theorem e38 (args : List AV) : env 38 args = S37 args := rfl
theorem e39 (args : List AV) : env 39 args = S39 args := rfl
theorem e40 (args : List AV) : env 40 args = S40 args := rfl
theorem e41 (args : List AV) : env 41 args = S40 args := rfl
theorem e42 (args : List AV) : env 42 args = S42 args := rfl
theorem e43 (args : List AV) : env 43 args = S42 args := rfl
theorem e49 (args : List AV) : env 49 args = S49 args := rfl
theorem e50 (args : List AV) : env 50 args = S50 args := rfl
theorem e51 (args : List AV) : env 51 args = S51 args := rfl
theorem e52 (args : List AV) : env 52 args = S52 args := rfl
theorem e53 (args : List AV) : env 53 args = S53 args := rfl
theorem e54 (args : List AV) : env 54 args = S54 args := rfl
theorem e55 (args : List AV) : env 55 args = S55 args := rfl
theorem e56 (args : List AV) : env 56 args = S56 args := rfl
theorem e57 (args : List AV) : env 57 args = S82 args := rfl
theorem e58 (args : List AV) : env 58 args = S58 args := rfl
theorem e59 (args : List AV) : env 59 args = S59 args := rfl
theorem e60 (args : List AV) : env 60 args = S60 args := rfl
theorem e61 (args : List AV) : env 61 args = S61 args := rfl
theorem e62 (args : List AV) : env 62 args = S62 args := rfl
theorem e63 (args : List AV) : env 63 args = S63 args := rfl
theorem e64 (args : List AV) : env 64 args = S64 args := rfl
theorem e65 (args : List AV) : env 65 args = S62 args := rfl
theorem e66 (args : List AV) : env 66 args = S63 args := rfl
theorem e67 (args : List AV) : env 67 args = S64 args := rfl
theorem e68 (args : List AV) : env 68 args = S68 args := rfl
theorem e69 (args : List AV) : env 69 args = S69 args := rfl
theorem e70 (args : List AV) : env 70 args = S70 args := rfl
theorem e71 (args : List AV) : env 71 args = S71 args := rfl
theorem e75 (args : List AV) : env 75 args = S75 args := rfl
theorem e76 (args : List AV) : env 76 args = S76 args := rfl
theorem e77 (args : List AV) : env 77 args = S77 args := rfl
theorem e78 (args : List AV) : env 78 args = S78 args := rfl
theorem e79 (args : List AV) : env 79 args = S79 args := rfl
theorem e80 (args : List AV) : env 80 args = S69 args := rfl
theorem e81 (args : List AV) : env 81 args = S81 args := rfl
theorem e82 (args : List AV) : env 82 args = S82 args := rfl
theorem e83 (args : List AV) : env 83 args = S83 args := rfl
theorem e84 (args : List AV) : env 84 args = S84 args := rfl
theorem e85 (args : List AV) : env 85 args = S85 args := rfl
theorem e86 (args : List AV) : env 86 args = S86 args := rfl
theorem e87 (args : List AV) : env 87 args = S87 args := rfl
theorem e88 (args : List AV) : env 88 args = S88 args := rfl
theorem e89 (args : List AV) : env 89 args = S89 args := rfl
theorem e90 (args : List AV) : env 90 args = S90 args := rfl
theorem e91 (args : List AV) : env 91 args = S91 args := rfl
theorem g91 : Ax.Good Try.prog env 91 := by
  intro args r h
  rw [e91] at h
  unfold S91 at h
  split at h
  · rename_i x
    cases h
    refine Does.ext Try.func91 rfl (by kernel_rfl) rfl (e := Extern.MathFloatBits.float64bits) rfl (fun Tg w m vs hv => ?_) rfl
    simp only [VRs, VR] at hv
    obtain ⟨v, vs', rfl, ⟨b, rfl, hb⟩, rfl⟩ := hv
    exact ⟨_, rfl, by simp only [RV]; exact ⟨b, rfl, hb⟩⟩
  · cases h
theorem g90 : Ax.Good Try.prog env 90 := by
  intro args r h
  rw [e90] at h
  unfold S90 at h
  split at h
  · rename_i x
    cases h
    refine Does.ext Try.func90 rfl (by kernel_rfl) rfl (e := Extern.MathFloatBits.float64frombits) rfl (fun Tg w m vs hv => ?_) rfl
    simp only [VRs, VR] at hv
    obtain ⟨v, vs', rfl, ⟨b, rfl, hb⟩, rfl⟩ := hv
    exact ⟨_, rfl, by simp only [RV]; exact ⟨b, rfl, hb⟩⟩
  · cases h
theorem g85 : Ax.Good Try.prog env 85 := by
  intro args r h
  rw [e85] at h
  unfold S85 at h
  split at h
  · rename_i x
    split at h
    · rename_i hn
      cases h
      refine Does.ext Try.func85 rfl (by kernel_rfl) rfl (e := Extern.MathFloatBits.float32bits) rfl (fun Tg w m vs hv => ?_) rfl
      simp only [VRs, VR] at hv
      obtain ⟨v, vs', rfl, ⟨b, rfl, hb⟩, rfl⟩ := hv
      rw [hb.nan] at hn
      have := hb.eq hn
      subst this
      exact ⟨_, rfl, by simp only [RV]⟩
    · cases h
  · cases h
theorem g62 : Ax.Good Try.prog env 62 := by
  intro args r h
  rw [e62] at h
  unfold S62 at h
  split at h
  ·
    cases h
    refine Does.of_awp (X := cx 7 []) (fun f hf => by cases hf) Try.func62 rfl (by kernel_rfl) rfl (by simp [cx]) [] (by simp) ?_
    conv => whnf
    rfl
  · cases h
theorem g84 : Ax.Good Try.prog env 84 := by
  intro args r h
  rw [e84] at h
  unfold S84 at h
  split at h
  ·
    cases h
    refine Does.of_awp (X := cx 7 [90, 91]) (by simpa [cx] using ⟨g90, g91⟩) Try.func84 rfl (by kernel_rfl) rfl (by simp [cx]) [] (by simp) ?_
    conv => whnf
    rfl
  · cases h
theorem g88 : Ax.Good Try.prog env 88 := by
  intro args r h
  rw [e88] at h
  unfold S88 at h
  split at h
  ·
    cases h
    refine Does.of_awp (X := cx 6 []) (fun f hf => by cases hf) Try.func88 rfl (by kernel_rfl) rfl (by simp [cx]) [] (by simp) ?_
    conv => whnf
    rfl
  · cases h
theorem g89 : Ax.Good Try.prog env 89 := by
  intro args r h
  rw [e89] at h
  unfold S89 at h
  split at h
  ·
    cases h
    refine Does.of_awp (X := cx 15 [84]) (by simpa [cx] using g84) Try.func89 rfl (by kernel_rfl) rfl (by simp [cx]) [] (by simp) ?_
    conv => whnf
    rfl
  · cases h
theorem g83 : Ax.Good Try.prog env 83 := by
  intro args r h
  rw [e83] at h
  unfold S83 at h
  split at h
  ·
    cases h
    refine Does.of_awp (X := cx 11 [88, 89]) (by simpa [cx] using ⟨g88, g89⟩) Try.func83 rfl (by kernel_rfl) rfl (by simp [cx]) [] (by simp) ?_
    conv => whnf
    repeat' (first | (refine br_intro (fun h => ?_) (fun h => ?_) <;> (conv => whnf)) | (refine ⟨⟨by kernel_rfl, by kernel_rfl⟩, ?_⟩; conv => whnf))
    all_goals (conv => lhs; whnf)
    all_goals (first | rfl | simp_all [])
  · cases h
theorem g65 : Ax.Good Try.prog env 65 := by
  intro args r h
  rw [e65] at h
  unfold S62 at h
  split at h
  · rename_i x
    cases h
    refine Does.of_awp (X := cx 6 [83]) (by simpa [cx] using g83) Try.func65 rfl (by kernel_rfl) rfl (by simp [cx]) [] (by simp) ?_
    conv => whnf
    conv => lhs; whnf
    exact congrArg AV.bool (finite_widen x)
  · cases h
theorem g69 : Ax.Good Try.prog env 69 := by
  intro args r h
  rw [e69] at h
  unfold S69 at h
  split at h
  ·
    cases h
    refine Does.of_awp (X := cx 9 [62]) (by simpa [cx] using g62) Try.func69 rfl (by kernel_rfl) rfl (by simp [cx]) [] (by simp) ?_
    conv => whnf
    repeat' (first | (refine br_intro (fun h => ?_) (fun h => ?_) <;> (conv => whnf)) | (refine ⟨⟨by kernel_rfl, by kernel_rfl⟩, ?_⟩; conv => whnf))
    all_goals (conv => lhs; whnf)
    all_goals (first | rfl | simp_all [least, K])
  · cases h
theorem g80 : Ax.Good Try.prog env 80 := by
  intro args r h
  rw [e80] at h
  unfold S69 at h
  split at h
  ·
    cases h
    refine Does.of_awp (X := cx 9 [65]) (by simpa [cx] using g65) Try.func80 rfl (by kernel_rfl) rfl (by simp [cx]) [] (by simp) ?_
    conv => whnf
    repeat' (first | (refine br_intro (fun h => ?_) (fun h => ?_) <;> (conv => whnf)) | (refine ⟨⟨by kernel_rfl, by kernel_rfl⟩, ?_⟩; conv => whnf))
    all_goals (conv => lhs; whnf)
    all_goals (first | rfl | simp_all [least, K])
  · cases h
theorem g82 : Ax.Good Try.prog env 82 := by
  intro args r h
  rw [e82] at h
  unfold S82 at h
  split at h
  ·
    cases h
    refine Does.of_awp (X := cx 9 [62]) (by simpa [cx] using g62) Try.func82 rfl (by kernel_rfl) rfl (by simp [cx]) [] (by simp) ?_
    conv => whnf
    repeat' (first | (refine br_intro (fun h => ?_) (fun h => ?_) <;> (conv => whnf)) | (refine ⟨⟨by kernel_rfl, by kernel_rfl⟩, ?_⟩; conv => whnf))
    all_goals (conv => lhs; whnf)
    all_goals (first | rfl | simp_all [above, K])
  · cases h
theorem g57 : Ax.Good Try.prog env 57 := by
  intro args r h
  rw [e57] at h
  unfold S82 at h
  split at h
  ·
    cases h
    refine Does.of_awp (X := cx 9 [65]) (by simpa [cx] using g65) Try.func57 rfl (by kernel_rfl) rfl (by simp [cx]) [] (by simp) ?_
    conv => whnf
    repeat' (first | (refine br_intro (fun h => ?_) (fun h => ?_) <;> (conv => whnf)) | (refine ⟨⟨by kernel_rfl, by kernel_rfl⟩, ?_⟩; conv => whnf))
    all_goals (conv => lhs; whnf)
    all_goals (first | rfl | simp_all [above, K])
  · cases h
theorem g81 : Ax.Good Try.prog env 81 := by
  intro args r h
  rw [e81] at h
  unfold S81 at h
  split at h
  ·
    cases h
    refine Does.of_awp (X := cx 9 []) (fun f hf => by cases hf) Try.func81 rfl (by kernel_rfl) rfl (by simp [cx]) [] (by simp) ?_
    conv => whnf
    repeat' (first | (refine br_intro (fun h => ?_) (fun h => ?_) <;> (conv => whnf)) | (refine ⟨⟨by kernel_rfl, by kernel_rfl⟩, ?_⟩; conv => whnf))
    all_goals (conv => lhs; whnf)
    all_goals (first | rfl | simp_all [share, K])
  · cases h
theorem g79 : Ax.Good Try.prog env 79 := by
  intro args r h
  rw [e79] at h
  unfold S79 at h
  split at h
  ·
    cases h
    refine Does.of_awp (X := cx 6 [80]) (by simpa [cx] using g80) Try.func79 rfl (by kernel_rfl) rfl (by simp [cx]) [] (by simp) ?_
    conv => whnf
    rfl
  · cases h
theorem g64 : Ax.Good Try.prog env 64 := by
  intro args r h
  rw [e64] at h
  unfold S64 at h
  split at h
  ·
    cases h
    refine Does.of_awp (X := cx 8 [62]) (by simpa [cx] using g62) Try.func64 rfl (by kernel_rfl) rfl (by simp [cx]) [] (by simp) ?_
    conv => whnf
    repeat' (first | (refine br_intro (fun h => ?_) (fun h => ?_) <;> (conv => whnf)) | (refine ⟨⟨by kernel_rfl, by kernel_rfl⟩, ?_⟩; conv => whnf))
    all_goals (refine tup2 ?_ ?_)
    all_goals (conv => lhs; whnf)
    all_goals (first | rfl | simp_all [numV, K])
  · cases h
theorem g67 : Ax.Good Try.prog env 67 := by
  intro args r h
  rw [e67] at h
  unfold S64 at h
  split at h
  ·
    cases h
    refine Does.of_awp (X := cx 8 [65]) (by simpa [cx] using g65) Try.func67 rfl (by kernel_rfl) rfl (by simp [cx]) [] (by simp) ?_
    conv => whnf
    repeat' (first | (refine br_intro (fun h => ?_) (fun h => ?_) <;> (conv => whnf)) | (refine ⟨⟨by kernel_rfl, by kernel_rfl⟩, ?_⟩; conv => whnf))
    all_goals (refine tup2 ?_ ?_)
    all_goals (conv => lhs; whnf)
    all_goals (first | rfl | simp_all [numV, K])
  · cases h
theorem g63 : Ax.Good Try.prog env 63 := by
  intro args r h
  rw [e63] at h
  unfold S63 at h
  split at h
  ·
    cases h
    refine Does.of_awp (X := cx 7 []) (fun f hf => by cases hf) Try.func63 rfl (by kernel_rfl) rfl (by simp [cx]) [] (by simp) ?_
    conv => whnf
    rfl
  · cases h
theorem g66 : Ax.Good Try.prog env 66 := by
  intro args r h
  rw [e66] at h
  unfold S63 at h
  split at h
  ·
    cases h
    refine Does.of_awp (X := cx 7 []) (fun f hf => by cases hf) Try.func66 rfl (by kernel_rfl) rfl (by simp [cx]) [] (by simp) ?_
    conv => whnf
    rfl
  · cases h
theorem g86 : Ax.Good Try.prog env 86 := by
  intro args r h
  rw [e86] at h
  unfold S86 at h
  split at h
  · rename_i x
    split at h
    · rename_i hn
      cases h
      refine Does.of_awp (X := cx 7 [91]) (by simpa [cx] using g91) Try.func86 rfl (by kernel_rfl) rfl (by simp [cx]) [] (by simp) ?_
      conv => whnf
      have e : cvA Try.prog 100 2 (.fbits x) = some (.int .i64 (IntKind.i64.wrap (x : Int))) := by
        show (if isNaN .f64 x = false then some _ else none) = _
        rw [if_pos hn]
      generalize hz : cvA _ _ _ _ = z
      have hz' := hz.symm.trans e
      subst hz'
      conv => whnf
      rfl
    · cases h
  · cases h
theorem g39 : Ax.Good Try.prog env 39 := by
  intro args r h
  rw [e39] at h
  unfold S39 at h
  split at h
  ·
    cases h
    refine Does.of_awp (X := cx 37 []) (fun f hf => by cases hf) Try.func39 rfl (by kernel_rfl) rfl (by simp [cx]) [] (by simp) ?_
    conv => whnf
    repeat' (first | (refine br_intro (fun h => ?_) (fun h => ?_) <;> (conv => whnf)) | (refine ⟨⟨by kernel_rfl, by kernel_rfl⟩, ?_⟩; conv => whnf))
    all_goals (conv => lhs; whnf)
    all_goals (first | rfl | simp_all [sameF])
  · cases h
theorem g75 : Ax.Good Try.prog env 75 := by
  intro args r h
  rw [e75] at h
  unfold S75 at h
  split at h
  · rename_i x
    cases h
    refine Does.of_awp (X := cx 9 [85]) (by simpa [cx] using g85) Try.func75 rfl (by kernel_rfl) rfl (by simp [cx]) [] (by simp) ?_
    conv => whnf
    refine br_intro (fun h => ?_) (fun h => ?_) <;> (conv => whnf)
    · conv => lhs; whnf
      simp [bitsI, h]
    · have e : env 85 [.flt .f32 x] = some (.int .u32 (x : Int)) := by
        show (match isNaN .f32 x with | false => some (AV.int .u32 (x : Int)) | true => none) = _
        rw [← neq_self, h]
      generalize hz : Cx.env _ 85 _ = z
      have hz' := hz.symm.trans e
      subst hz'
      conv => whnf
      conv => lhs; whnf
      simp [bitsI, h]
  · cases h
theorem g49 : Ax.Good Try.prog env 49 := by
  intro args r h
  rw [e49] at h
  unfold S49 at h
  split at h
  ·
    cases h
    refine Does.of_awp (X := cx 10 [75]) (by simpa [cx] using g75) Try.func49 rfl (by kernel_rfl) rfl (by simp [cx]) [] (by simp) ?_
    conv => whnf
    rfl
  · cases h
theorem g77 : Ax.Good Try.prog env 77 := by
  intro args r h
  rw [e77] at h
  unfold S77 at h
  split at h
  · rename_i x y
    cases h
    refine Does.of_awp (X := cx 33 [86]) (by simpa [cx] using g86) Try.func77 rfl (by kernel_rfl) rfl (by simp [cx]) [] (by simp) ?_
    conv => whnf
    repeat' (first | (refine br_intro (fun h => ?_) (fun h => ?_) <;> (conv => whnf)) | (refine ⟨⟨by kernel_rfl, by kernel_rfl⟩, ?_⟩; conv => whnf))
    any_goals (conv => lhs; whnf)
    any_goals (first | rfl | (simp_all [sameN]; done))
    all_goals
      have e_x : env 86 [.flt .f64 (fwiden x)] = some (.bool (sgn (fwiden x))) := by
        show (match isNaN .f64 (fwiden x) with | false => some (AV.bool (sgn (fwiden x))) | true => none) = _
        rw [isNaN_widen, ← neq_self]; simp_all
      have e_y : env 86 [.flt .f64 (fwiden y)] = some (.bool (sgn (fwiden y))) := by
        show (match isNaN .f64 (fwiden y) with | false => some (AV.bool (sgn (fwiden y))) | true => none) = _
        rw [isNaN_widen, ← neq_self]; simp_all
      generalize hz : Cx.env _ 86 _ = z
      have hz' := hz.symm.trans e_x
      subst hz'
      conv => whnf
      generalize hz : Cx.env _ 86 _ = z
      have hz' := hz.symm.trans e_y
      subst hz'
      conv => whnf
      repeat' (first | (refine br_intro (fun h => ?_) (fun h => ?_) <;> (conv => whnf)) | (refine ⟨⟨by kernel_rfl, by kernel_rfl⟩, ?_⟩; conv => whnf))
      all_goals (conv => lhs; whnf)
      all_goals simp_all [sameN]
  · cases h
theorem g87 : Ax.Good Try.prog env 87 := by
  intro args r h
  rw [e87] at h
  unfold S87 at h
  split at h
  · rename_i n cs tg f
    split at h
    · rename_i xs hxs
      have := flts_eq hxs
      subst this
      split at h
      · rename_i hn
        obtain ⟨rfl, rfl, hn⟩ := hn
        cases h
        refine Does.of_awp (X := cx 19 [79]) (by simpa [cx] using g79) Try.func87 rfl (by kernel_rfl) rfl (by simp [cx]) [] (by simp) ?_
        conv => whnf
        refine ⟨fun fr L => ∃ i ys, xs.drop i = ys ∧ i + ys.length = xs.length ∧ firstBad xs 0 = firstBad ys i ∧ L = L0 ∧ KN [(0, .sli 1 xs.length (f32s xs) tg), (1, .fn 79 []), (7, .int .i64 xs.length), (8, .int .i64 i)] fr,
          mu 8 xs.length, ⟨0, xs, rfl, by simp, rfl, rfl, rfl, rfl, rfl, rfl, trivial⟩, ?_⟩
        rintro fr L ⟨i, ys, hd, hl, hb, rfl, hk⟩
        rw [← kn_eq _ _ hk]
        conv => whnf
        refine br_intro (fun h => ?_) (fun h => ?_) <;> (conv => whnf)
        · have hlt : i < xs.length := by simpa using h
          cases ys with
          | nil => simp at hl; omega
          | cons y ys =>
          refine ⟨rfl, ⟨by omega, by omega⟩, ?_⟩
          rw [drop_f32s hd]
          conv => whnf
          refine br_intro (fun h => ?_) (fun h => ?_) <;> (conv => whnf)
          · conv => lhs; whnf
            rw [hb, firstBad]; simp at h; simp [h]
          · refine ⟨⟨i + 1, ys, ?_, ?_, ?_, rfl, rfl, rfl, rfl, ?_, trivial⟩, ?_⟩
            · rw [← List.drop_drop, hd]; rfl
            · simp at hl; omega
            · rw [hb, firstBad]; simp at h; simp [h]
            · exact congrArg (AV.int _) (i64_next (by omega))
            · show xs.length - (IntKind.i64.wrap ((i : Int) + 1)).toNat < xs.length - ((i : Int)).toNat
              rw [i64_next (by omega)]; omega
        · cases ys with
          | cons y ys => simp at hl; simp at h; omega
          | nil =>
          conv => lhs; whnf
          rw [hb]; rfl
      · cases h
    · cases h
  · cases h
theorem firstBad_neg : ∀ (xs : List Nat) (i : Nat), decide (0 ≤ firstBad xs i) = !allL xs
  | [], _ => rfl
  | x :: xs, i => by
    unfold firstBad allL
    cases least x with
    | true => exact firstBad_neg xs (i + 1)
    | false => show decide ((0 : Int) ≤ (i : Int)) = true; exact decide_eq_true (by omega)
theorem g78 : Ax.Good Try.prog env 78 := by
  intro args r h
  rw [e78] at h
  unfold S78 at h
  split at h
  · rename_i n cs tg f
    split at h
    · rename_i xs hxs
      have := flts_eq hxs
      subst this
      split at h
      · rename_i hn
        obtain ⟨rfl, rfl, hn⟩ := hn
        cases h
        refine Does.of_awp (X := cx 9 [87]) (by simpa [cx] using g87) Try.func78 rfl (by kernel_rfl) rfl (by simp [cx]) [] (by simp) ?_
        conv => whnf
        have e : env 87 [.sli 1 xs.length (f32s xs) tg, .fn 79 []] = some (.int .i64 (firstBad xs 0)) := by
          show (match flts (f32s xs) with | some ys => if (79 : Nat) = 79 ∧ xs.length = ys.length ∧ xs.length < 2 ^ 40 then some (AV.int .i64 (firstBad ys 0)) else none | none => none) = _
          rw [flts_f32s]; exact if_pos ⟨rfl, rfl, hn⟩
        generalize hz : Cx.env _ 87 _ = z
        have hz' := hz.symm.trans e
        subst hz'
        conv => whnf
        conv => lhs; whnf
        exact congrArg AV.bool (firstBad_neg xs 0)
      · cases h
    · cases h
  · cases h
theorem g54 : Ax.Good Try.prog env 54 := by
  intro args r h
  rw [e54] at h
  unfold S54 at h
  split at h
  · rename_i n cs tg
    split at h
    · rename_i xs hxs
      have := flts_eq hxs
      subst this
      split at h
      · rename_i hn
        obtain ⟨rfl, hn⟩ := hn
        cases h
        refine Does.of_awp (X := cx 6 [78]) (by simpa [cx] using g78) Try.func54 rfl (by kernel_rfl) rfl (by simp [cx]) [] (by simp) ?_
        conv => whnf
        have e : env 78 [.sli 1 xs.length (f32s xs) tg, .fn 79 []] = some (.bool (!allL xs)) := by
          show (match flts (f32s xs) with | some ys => if (79 : Nat) = 79 ∧ xs.length = ys.length ∧ xs.length < 2 ^ 40 then some (AV.bool (!allL ys)) else none | none => none) = _
          rw [flts_f32s]; exact if_pos ⟨rfl, rfl, hn⟩
        generalize hz : Cx.env _ 78 _ = z
        have hz' := hz.symm.trans e
        subst hz'
        conv => whnf
        conv => lhs; whnf
        simp
      · cases h
    · cases h
  · cases h
theorem g59 : Ax.Good Try.prog env 59 := by
  intro args r h
  rw [e59] at h
  unfold S59 at h
  split at h
  · rename_i n cs tg
    split at h
    · rename_i xs hxs
      have := flts_eq hxs
      subst this
      split at h
      · rename_i hn
        obtain ⟨rfl, hn⟩ := hn
        cases h
        refine Does.of_awp (X := cx 15 [57]) (by simpa [cx] using g57) Try.func59 rfl (by kernel_rfl) rfl (by simp [cx]) [] (by simp) ?_
        conv => whnf
        refine ⟨fun fr L => ∃ i ys, xs.drop i = ys ∧ i + ys.length = xs.length ∧ allA xs = allA ys ∧ L = L0 ∧ KN [(5, .sli 1 xs.length (f32s xs) tg), (6, .int .i64 xs.length), (7, .int .i64 i)] fr,
          mu 7 xs.length, ⟨0, xs, rfl, by simp, rfl, rfl, rfl, rfl, rfl, trivial⟩, ?_⟩
        rintro fr L ⟨i, ys, hd, hl, hb, rfl, hk⟩
        rw [← kn_eq _ _ hk]
        conv => whnf
        refine br_intro (fun h => ?_) (fun h => ?_) <;> (conv => whnf)
        · have hlt : i < xs.length := by simpa using h
          cases ys with
          | nil => simp at hl; omega
          | cons y ys =>
          refine ⟨rfl, ⟨by omega, by omega⟩, ?_⟩
          rw [drop_f32s hd]
          conv => whnf
          refine br_intro (fun h => ?_) (fun h => ?_) <;> (conv => whnf)
          · conv => lhs; whnf
            rw [hb, allA]; simp at h; simp [h]
          · refine ⟨⟨i + 1, ys, ?_, ?_, ?_, rfl, rfl, rfl, ?_, trivial⟩, ?_⟩
            · rw [← List.drop_drop, hd]; rfl
            · simp at hl; omega
            · rw [hb, allA]; simp at h; simp [h]
            · exact congrArg (AV.int _) (i64_next (by omega))
            · show xs.length - (IntKind.i64.wrap ((i : Int) + 1)).toNat < xs.length - ((i : Int)).toNat
              rw [i64_next (by omega)]; omega
        · cases ys with
          | cons y ys => simp at hl; simp at h; omega
          | nil =>
          conv => lhs; whnf
          rw [hb]; rfl
      · cases h
    · cases h
  · cases h
theorem eqL_len : ∀ {xs ys : List Nat}, xs.length ≠ ys.length → eqL xs ys = false
  | [], [], h => absurd rfl h
  | [], _ :: _, _ => rfl
  | _ :: _, [], _ => rfl
  | x :: xs, y :: ys, h => by
    unfold eqL
    rw [eqL_len (fun e => h (by simp [e]))]; simp
theorem g76 : Ax.Good Try.prog env 76 := by
  intro args r h
  rw [e76] at h
  unfold S76 at h
  split at h
  · rename_i n cs tg n' ds tg' f
    split at h
    · rename_i xs zs hxs hzs
      have := flts_eq hxs
      subst this
      have := flts_eq hzs
      subst this
      split at h
      · rename_i hn
        obtain ⟨rfl, rfl, rfl, hn, hn2⟩ := hn
        cases h
        refine Does.of_awp (X := cx 32 [77]) (by simpa [cx] using g77) Try.func76 rfl (by kernel_rfl) rfl (by simp [cx]) [] (by simp) ?_
        conv => whnf
        refine br_intro (fun h => ?_) (fun h => ?_) <;> (conv => whnf)
        · conv => lhs; whnf
          rw [eqL_len (by simp at h; omega)]
        have hlen : xs.length = zs.length := by simp at h; omega
        refine ⟨fun fr L => ∃ i ys us, xs.drop i = ys ∧ zs.drop i = us ∧ i + ys.length = xs.length ∧ i + us.length = zs.length ∧ eqL xs zs = eqL ys us ∧ L = L0 ∧ KN [(1, .sli 1 zs.length (f32s zs) tg'), (2, .fn 77 []), (15, .sli 1 xs.length (f32s xs) tg), (16, .int .i64 xs.length), (17, .int .i64 i)] fr,
          mu 17 xs.length, ⟨0, xs, zs, rfl, rfl, by simp, by simp, rfl, rfl, rfl, rfl, rfl, rfl, rfl, trivial⟩, ?_⟩
        rintro fr L ⟨i, ys, us, hd, hd2, hl, hl2, hb, rfl, hk⟩
        rw [← kn_eq _ _ hk]
        conv => whnf
        refine br_intro (fun h => ?_) (fun h => ?_) <;> (conv => whnf)
        · have hlt : i < xs.length := by simpa using h
          cases ys with
          | nil => simp at hl; omega
          | cons y ys =>
          cases us with
          | nil => simp at hl2; omega
          | cons u us =>
          refine ⟨rfl, ⟨by omega, by omega⟩, ?_⟩
          rw [drop_f32s hd]
          conv => whnf
          refine ⟨rfl, ⟨by omega, by omega⟩, ?_⟩
          rw [drop_f32s hd2]
          conv => whnf
          refine br_intro (fun h => ?_) (fun h => ?_) <;> (conv => whnf)
          · conv => lhs; whnf
            rw [hb, eqL]; simp at h; simp [h]
          · refine ⟨⟨i + 1, ys, us, ?_, ?_, ?_, ?_, ?_, rfl, rfl, rfl, rfl, rfl, ?_, trivial⟩, ?_⟩
            · rw [← List.drop_drop, hd]; rfl
            · rw [← List.drop_drop, hd2]; rfl
            · simp at hl; omega
            · simp at hl2; omega
            · rw [hb, eqL]; simp at h; simp [h]
            · exact congrArg (AV.int _) (i64_next (by omega))
            · show xs.length - (IntKind.i64.wrap ((i : Int) + 1)).toNat < xs.length - ((i : Int)).toNat
              rw [i64_next (by omega)]; omega
        · cases ys with
          | cons y ys => simp at hl; simp at h; omega
          | nil =>
          cases us with
          | cons u us => simp at hl hl2; omega
          | nil =>
          conv => lhs; whnf
          rw [hb]; rfl
      · cases h
    · cases h
  · cases h
theorem g50 : Ax.Good Try.prog env 50 := by
  intro args r h
  rw [e50] at h
  unfold S50 at h
  split at h
  · rename_i n cs tg n' ds tg'
    split at h
    · rename_i xs zs hxs hzs
      have := flts_eq hxs
      subst this
      have := flts_eq hzs
      subst this
      split at h
      · rename_i hn
        obtain ⟨rfl, rfl, hn, hn2⟩ := hn
        cases h
        refine Does.of_awp (X := cx 8 [76]) (by simpa [cx] using g76) Try.func50 rfl (by kernel_rfl) rfl (by simp [cx]) [] (by simp) ?_
        conv => whnf
        have e : env 76 [.sli 1 xs.length (f32s xs) tg, .sli 1 zs.length (f32s zs) tg', .fn 77 []] = some (.bool (eqL xs zs)) := by
          show (match flts (f32s xs), flts (f32s zs) with | some ys, some us => if (77 : Nat) = 77 ∧ xs.length = ys.length ∧ zs.length = us.length ∧ xs.length < 2 ^ 40 ∧ zs.length < 2 ^ 40 then some (AV.bool (eqL ys us)) else none | _, _ => none) = _
          rw [flts_f32s, flts_f32s]; exact if_pos ⟨rfl, rfl, rfl, hn, hn2⟩
        generalize hz : Cx.env _ 76 _ = z
        have hz' := hz.symm.trans e
        subst hz'
        conv => whnf
        rfl
      · cases h
    · cases h
  · cases h
theorem g16 : Ax.Good Try.prog env 16 := by
  intro args r h
  rw [e16] at h
  unfold S16 at h
  split at h
  ·
    cases h
    refine Does.of_awp (X := cx 17 []) (fun f hf => by cases hf) Try.func16 rfl (by kernel_rfl) rfl (by simp [cx]) [] (by simp) ?_
    conv => whnf
    rfl
  · cases h
theorem g19 : Ax.Good Try.prog env 19 := by
  intro args r h
  rw [e19] at h
  unfold S16 at h
  split at h
  ·
    cases h
    refine Does.of_awp (X := cx 17 []) (fun f hf => by cases hf) Try.func19 rfl (by kernel_rfl) rfl (by simp [cx]) [] (by simp) ?_
    conv => whnf
    rfl
  · cases h
theorem g22 : Ax.Good Try.prog env 22 := by
  intro args r h
  rw [e22] at h
  unfold S22 at h
  split at h
  ·
    cases h
    refine Does.of_awp (X := cx 20 []) (fun f hf => by cases hf) Try.func22 rfl (by kernel_rfl) rfl (by simp [cx]) [] (by simp) ?_
    conv => whnf
    rfl
  · cases h
theorem g29 : Ax.Good Try.prog env 29 := by
  intro args r h
  rw [e29] at h
  unfold S16 at h
  split at h
  ·
    cases h
    refine Does.of_awp (X := cx 17 []) (fun f hf => by cases hf) Try.func29 rfl (by kernel_rfl) rfl (by simp [cx]) [] (by simp) ?_
    conv => whnf
    rfl
  · cases h
theorem g53 : Ax.Good Try.prog env 53 := by
  intro args r h
  rw [e53] at h
  unfold S53 at h
  split at h
  ·
    cases h
    refine Does.of_awp (X := cx 47 [69]) (by simpa [cx] using g69) Try.func53 rfl (by kernel_rfl) rfl (by simp [cx]) [] (by simp) ?_
    conv => whnf
    repeat' (first | (refine br_intro (fun h => ?_) (fun h => ?_) <;> (conv => whnf)) | (refine ⟨⟨by kernel_rfl, by kernel_rfl⟩, ?_⟩; conv => whnf))
    all_goals (conv => lhs; whnf)
    all_goals (first | rfl | simp_all [soilOk, K])
  · cases h
theorem g55 : Ax.Good Try.prog env 55 := by
  intro args r h
  rw [e55] at h
  unfold S55 at h
  split at h
  ·
    cases h
    refine Does.of_awp (X := cx 29 [69, 81]) (by simpa [cx] using ⟨g69, g81⟩) Try.func55 rfl (by kernel_rfl) rfl (by simp [cx]) [] (by simp) ?_
    conv => whnf
    repeat' (first | (refine br_intro (fun h => ?_) (fun h => ?_) <;> (conv => whnf)) | (refine ⟨⟨by kernel_rfl, by kernel_rfl⟩, ?_⟩; conv => whnf))
    all_goals (conv => lhs; whnf)
    all_goals (first | rfl | simp_all [snowOk])
  · cases h
theorem g56 : Ax.Good Try.prog env 56 := by
  intro args r h
  rw [e56] at h
  unfold S56 at h
  split at h
  ·
    cases h
    refine Does.of_awp (X := cx 36 [69, 82]) (by simpa [cx] using ⟨g69, g82⟩) Try.func56 rfl (by kernel_rfl) rfl (by simp [cx]) [] (by simp) ?_
    conv => whnf
    repeat' (first | (refine br_intro (fun h => ?_) (fun h => ?_) <;> (conv => whnf)) | (refine ⟨⟨by kernel_rfl, by kernel_rfl⟩, ?_⟩; conv => whnf))
    all_goals (conv => lhs; whnf)
    all_goals (first | rfl | simp_all [stormOk, K])
  · cases h
theorem g58 : Ax.Good Try.prog env 58 := by
  intro args r h
  rw [e58] at h
  unfold S58 at h
  split at h
  ·
    cases h
    refine Does.of_awp (X := cx 43 [69, 82]) (by simpa [cx] using ⟨g69, g82⟩) Try.func58 rfl (by kernel_rfl) rfl (by simp [cx]) [] (by simp) ?_
    conv => whnf
    repeat' (first | (refine br_intro (fun h => ?_) (fun h => ?_) <;> (conv => whnf)) | (refine ⟨⟨by kernel_rfl, by kernel_rfl⟩, ?_⟩; conv => whnf))
    all_goals (conv => lhs; whnf)
    all_goals (first | rfl | simp_all [sectOk, K])
  · cases h
theorem g24 : Ax.Good Try.prog env 24 := by
  intro args r h
  rw [e24] at h
  unfold S24 at h
  split at h
  ·
    cases h
    refine Does.of_awp (X := cx 4 [53]) (by simpa [cx] using g53) Try.func24 rfl (by kernel_rfl) rfl (by simp [cx]) [] (by simp) ?_
    conv => whnf
    rfl
  · cases h
theorem g26 : Ax.Good Try.prog env 26 := by
  intro args r h
  rw [e26] at h
  unfold S26 at h
  split at h
  ·
    cases h
    refine Does.of_awp (X := cx 4 [55]) (by simpa [cx] using g55) Try.func26 rfl (by kernel_rfl) rfl (by simp [cx]) [] (by simp) ?_
    conv => whnf
    rfl
  · cases h
theorem g28 : Ax.Good Try.prog env 28 := by
  intro args r h
  rw [e28] at h
  unfold S28 at h
  split at h
  ·
    cases h
    refine Does.of_awp (X := cx 4 [56]) (by simpa [cx] using g56) Try.func28 rfl (by kernel_rfl) rfl (by simp [cx]) [] (by simp) ?_
    conv => whnf
    rfl
  · cases h
theorem g31 : Ax.Good Try.prog env 31 := by
  intro args r h
  rw [e31] at h
  unfold S31 at h
  split at h
  ·
    cases h
    refine Does.of_awp (X := cx 4 [58]) (by simpa [cx] using g58) Try.func31 rfl (by kernel_rfl) rfl (by simp [cx]) [] (by simp) ?_
    conv => whnf
    rfl
  · cases h
theorem g25 : Ax.Good Try.prog env 25 := by
  intro args r h
  rw [e25] at h
  unfold S24 at h
  split at h
  · rename_i a b c d e
    cases h
    refine Does.of_awp (X := cx 25 [54]) (by simpa [cx] using g54) Try.func25 rfl (by kernel_rfl) rfl (by simp [cx]) [] (by simp) ?_
    conv => whnf
    repeat' (first | (refine br_intro (fun h => ?_) (fun h => ?_) <;> (conv => whnf)) | (refine ⟨⟨by kernel_rfl, by kernel_rfl⟩, ?_⟩; conv => whnf))
    all_goals (conv => lhs; whnf)
    all_goals (refine congrArg AV.bool ?_)
    all_goals (cases ha : least a <;> cases hb : least b <;> cases hc : least c <;> cases hd : least d <;> simp_all [soilOk, allL, K])
  · cases h
theorem g27 : Ax.Good Try.prog env 27 := by
  intro args r h
  rw [e27] at h
  unfold S26 at h
  split at h
  · rename_i a b c d
    cases h
    refine Does.of_awp (X := cx 21 [54]) (by simpa [cx] using g54) Try.func27 rfl (by kernel_rfl) rfl (by simp [cx]) [] (by simp) ?_
    conv => whnf
    repeat' (first | (refine br_intro (fun h => ?_) (fun h => ?_) <;> (conv => whnf)) | (refine ⟨⟨by kernel_rfl, by kernel_rfl⟩, ?_⟩; conv => whnf))
    all_goals (conv => lhs; whnf)
    all_goals (refine congrArg AV.bool ?_)
    all_goals (cases ha : least a <;> cases hc : least c <;> cases hd : least d <;> simp_all [snowOk, allL, share, K])
  · cases h
theorem g30 : Ax.Good Try.prog env 30 := by
  intro args r h
  rw [e30] at h
  unfold S28 at h
  split at h
  · rename_i a b c d
    cases h
    refine Does.of_awp (X := cx 24 [54, 57]) (by simpa [cx] using ⟨g54, g57⟩) Try.func30 rfl (by kernel_rfl) rfl (by simp [cx]) [] (by simp) ?_
    conv => whnf
    repeat' (first | (refine br_intro (fun h => ?_) (fun h => ?_) <;> (conv => whnf)) | (refine ⟨⟨by kernel_rfl, by kernel_rfl⟩, ?_⟩; conv => whnf))
    all_goals (conv => lhs; whnf)
    all_goals (first | rfl | simp_all [stormOk, allL, K])
  · cases h
theorem g32 : Ax.Good Try.prog env 32 := by
  intro args r h
  rw [e32] at h
  unfold S31 at h
  split at h
  · rename_i a b c d
    cases h
    refine Does.of_awp (X := cx 27 [54, 59]) (by simpa [cx] using ⟨g54, g59⟩) Try.func32 rfl (by kernel_rfl) rfl (by simp [cx]) [] (by simp) ?_
    conv => whnf
    repeat' (first | (refine br_intro (fun h => ?_) (fun h => ?_) <;> (conv => whnf)) | (refine ⟨⟨by kernel_rfl, by kernel_rfl⟩, ?_⟩; conv => whnf))
    all_goals (conv => lhs; whnf)
    all_goals (first | rfl | simp_all [sectOk, allL, allA, K])
  · cases h
theorem g70 : Ax.Good Try.prog env 70 := by
  intro args r h
  rw [e70] at h
  unfold S70 at h
  split at h
  ·
    cases h
    refine Does.of_awp (X := cx 19 []) (fun f hf => by cases hf) Try.func70 rfl (by kernel_rfl) rfl (by simp [cx]) [] (by simp) ?_
    conv => whnf
    repeat' (first | (refine br_intro (fun h => ?_) (fun h => ?_) <;> (conv => whnf)) | (refine ⟨⟨by kernel_rfl, by kernel_rfl⟩, ?_⟩; conv => whnf))
    all_goals (conv => lhs; whnf)
    all_goals (first | rfl | simp_all [canV])
  · cases h
theorem g71 : Ax.Good Try.prog env 71 := by
  intro args r h
  rw [e71] at h
  unfold S71 at h
  split at h
  ·
    cases h
    refine Does.of_awp (X := cx 13 []) (fun f hf => by cases hf) Try.func71 rfl (by kernel_rfl) rfl (by simp [cx]) [] (by simp) ?_
    conv => whnf
    rfl
  · cases h
theorem g61 : Ax.Good Try.prog env 61 := by
  intro args r h
  rw [e61] at h
  unfold S61 at h
  split at h
  ·
    cases h
    refine Does.of_awp (X := cx 17 [82]) (by simpa [cx] using g82) Try.func61 rfl (by kernel_rfl) rfl (by simp [cx]) [] (by simp) ?_
    conv => whnf
    repeat' (first | (refine br_intro (fun h => ?_) (fun h => ?_) <;> (conv => whnf)) | (refine ⟨⟨by kernel_rfl, by kernel_rfl⟩, ?_⟩; conv => whnf))
    all_goals (conv => lhs; whnf)
    all_goals (first | rfl | simp_all [above])
  · cases h
theorem g42 : Ax.Good Try.prog env 42 := by
  intro args r h
  rw [e42] at h
  unfold S42 at h
  split at h
  ·
    cases h
    refine Does.of_awp (X := cx 10 [53, 64, 70]) (by simpa [cx] using ⟨g53, g64, g70⟩) Try.func42 rfl (by kernel_rfl) rfl (by simp [cx]) [] (by simp) ?_
    conv => whnf
    repeat' (first | (refine br_intro (fun h => ?_) (fun h => ?_) <;> (conv => whnf)) | (refine ⟨⟨by kernel_rfl, by kernel_rfl⟩, ?_⟩; conv => whnf))
    all_goals (refine tup2 ?_ ?_)
    all_goals (conv => lhs; whnf)
    all_goals (first | rfl | simp_all [numV, K])
  · cases h
theorem g43 : Ax.Good Try.prog env 43 := by
  intro args r h
  rw [e43] at h
  unfold S42 at h
  split at h
  ·
    cases h
    refine Does.of_awp (X := cx 12 [25, 67, 71]) (by simpa [cx] using ⟨g25, g67, g71⟩) Try.func43 rfl (by kernel_rfl) rfl (by simp [cx]) [] (by simp) ?_
    conv => whnf
    repeat' (first | (refine br_intro (fun h => ?_) (fun h => ?_) <;> (conv => whnf)) | (refine ⟨⟨by kernel_rfl, by kernel_rfl⟩, ?_⟩; conv => whnf))
    all_goals (refine tup2 ?_ ?_)
    all_goals (conv => lhs; whnf)
    all_goals (first | rfl | simp_all [numV, K])
  · cases h
theorem g40 : Ax.Good Try.prog env 40 := by
  intro args r h
  rw [e40] at h
  unfold S40 at h
  split at h
  · rename_i x y
    cases h
    refine Does.of_awp (X := cx 33 [64, 69]) (by simpa [cx] using ⟨g64, g69⟩) Try.func40 rfl (by kernel_rfl) rfl (by simp [cx]) [] (by simp) ?_
    conv => whnf
    repeat' (first | (refine br_intro (fun h => ?_) (fun h => ?_) <;> (conv => whnf)) | (refine ⟨⟨by kernel_rfl, by kernel_rfl⟩, ?_⟩; conv => whnf))
    all_goals (refine tup2 ?_ ?_)
    all_goals (conv => lhs; whnf)
    all_goals (cases hx : least x <;> cases hy : least y <;> simp_all [curveOk, curveUp, curveA, curveB, numV, K])
  · cases h
theorem g41 : Ax.Good Try.prog env 41 := by
  intro args r h
  rw [e41] at h
  unfold S40 at h
  split at h
  · rename_i x y
    cases h
    refine Does.of_awp (X := cx 30 [54, 67]) (by simpa [cx] using ⟨g54, g67⟩) Try.func41 rfl (by kernel_rfl) rfl (by simp [cx]) [] (by simp) ?_
    conv => whnf
    repeat' (first | (refine br_intro (fun h => ?_) (fun h => ?_) <;> (conv => whnf)) | (refine ⟨⟨by kernel_rfl, by kernel_rfl⟩, ?_⟩; conv => whnf))
    all_goals (refine tup2 ?_ ?_)
    all_goals (conv => lhs; whnf)
    all_goals (cases hx : least x <;> cases hy : least y <;> simp_all [curveOk, curveUp, curveA, curveB, allL, numV, K])
  · cases h
theorem g51 : Ax.Good Try.prog env 51 := by
  intro args r h
  rw [e51] at h
  unfold S51 at h
  split at h
  ·
    cases h
    refine Does.of_awp (X := cx 47 [49]) (by simpa [cx] using g49) Try.func51 rfl (by kernel_rfl) rfl (by simp [cx]) [] (by simp) ?_
    conv => whnf
    repeat' (first | (refine br_intro (fun h => ?_) (fun h => ?_) <;> (conv => whnf)) | (refine ⟨⟨by kernel_rfl, by kernel_rfl⟩, ?_⟩; conv => whnf))
    all_goals (conv => lhs; whnf)
    all_goals (first | rfl | simp_all [same4])
  · cases h
theorem g52 : Ax.Good Try.prog env 52 := by
  intro args r h
  rw [e52] at h
  unfold S52 at h
  split at h
  ·
    cases h
    refine Does.of_awp (X := cx 58 [49]) (by simpa [cx] using g49) Try.func52 rfl (by kernel_rfl) rfl (by simp [cx]) [] (by simp) ?_
    conv => whnf
    repeat' (first | (refine br_intro (fun h => ?_) (fun h => ?_) <;> (conv => whnf)) | (refine ⟨⟨by kernel_rfl, by kernel_rfl⟩, ?_⟩; conv => whnf))
    all_goals (conv => lhs; whnf)
    all_goals (first | rfl | simp_all [same5])
  · cases h
theorem g15 : Ax.Good Try.prog env 15 := by
  intro args r h
  rw [e15] at h
  unfold S15 at h
  split at h
  ·
    cases h
    refine Does.of_awp (X := cx 31 [49]) (by simpa [cx] using g49) Try.func15 rfl (by kernel_rfl) rfl (by simp [cx]) [] (by simp) ?_
    conv => whnf
    repeat' (first | (refine br_intro (fun h => ?_) (fun h => ?_) <;> (conv => whnf)) | (refine ⟨⟨by kernel_rfl, by kernel_rfl⟩, ?_⟩; conv => whnf))
    all_goals (conv => lhs; whnf)
    all_goals (first | rfl | simp_all [same4])
  · cases h
theorem g18 : Ax.Good Try.prog env 18 := by
  intro args r h
  rw [e18] at h
  unfold S15 at h
  split at h
  ·
    cases h
    refine Does.of_awp (X := cx 6 [51]) (by simpa [cx] using g51) Try.func18 rfl (by kernel_rfl) rfl (by simp [cx]) [] (by simp) ?_
    conv => whnf
    rfl
  · cases h
theorem g21 : Ax.Good Try.prog env 21 := by
  intro args r h
  rw [e21] at h
  unfold S21 at h
  split at h
  ·
    cases h
    refine Does.of_awp (X := cx 6 [52]) (by simpa [cx] using g52) Try.func21 rfl (by kernel_rfl) rfl (by simp [cx]) [] (by simp) ?_
    conv => whnf
    rfl
  · cases h
theorem g17 : Ax.Good Try.prog env 17 := by
  intro args r h
  rw [e17] at h
  unfold S17 at h
  split at h
  ·
    cases h
    refine Does.of_awp (X := cx 24 [50]) (by simpa [cx] using g50) Try.func17 rfl (by kernel_rfl) rfl (by simp [cx]) [] (by simp) ?_
    conv => whnf
    rfl
  · cases h
theorem g20 : Ax.Good Try.prog env 20 := by
  intro args r h
  rw [e20] at h
  unfold S17 at h
  split at h
  ·
    cases h
    refine Does.of_awp (X := cx 24 [50]) (by simpa [cx] using g50) Try.func20 rfl (by kernel_rfl) rfl (by simp [cx]) [] (by simp) ?_
    conv => whnf
    rfl
  · cases h
theorem g23 : Ax.Good Try.prog env 23 := by
  intro args r h
  rw [e23] at h
  unfold S23 at h
  split at h
  ·
    cases h
    refine Does.of_awp (X := cx 28 [50]) (by simpa [cx] using g50) Try.func23 rfl (by kernel_rfl) rfl (by simp [cx]) [] (by simp) ?_
    conv => whnf
    rfl
  · cases h
theorem g6 : Ax.Good Try.prog env 6 := by
  intro args r h
  rw [e6] at h
  unfold S6 at h
  split at h
  ·
    cases h
    refine Does.of_awp (X := cx 14 [22, 24, 25]) (by simpa [cx] using ⟨g22, g24, g25⟩) Try.func6 rfl (by kernel_rfl) rfl (by simp [cx]) [] (by simp) ?_
    conv => whnf
    repeat' (first | (refine br_intro (fun h => ?_) (fun h => ?_) <;> (conv => whnf)) | (refine ⟨⟨by kernel_rfl, by kernel_rfl⟩, ?_⟩; conv => whnf))
    all_goals (conv => lhs; whnf)
    all_goals (first | rfl | simp_all)
  · cases h
theorem g7 : Ax.Good Try.prog env 7 := by
  intro args r h
  rw [e7] at h
  unfold S7 at h
  split at h
  ·
    cases h
    refine Does.of_awp (X := cx 14 [16, 26, 27]) (by simpa [cx] using ⟨g16, g26, g27⟩) Try.func7 rfl (by kernel_rfl) rfl (by simp [cx]) [] (by simp) ?_
    conv => whnf
    repeat' (first | (refine br_intro (fun h => ?_) (fun h => ?_) <;> (conv => whnf)) | (refine ⟨⟨by kernel_rfl, by kernel_rfl⟩, ?_⟩; conv => whnf))
    all_goals (conv => lhs; whnf)
    all_goals (first | rfl | simp_all)
  · cases h
theorem g8 : Ax.Good Try.prog env 8 := by
  intro args r h
  rw [e8] at h
  unfold S7 at h
  split at h
  ·
    cases h
    refine Does.of_awp (X := cx 14 [28, 29, 30]) (by simpa [cx] using ⟨g28, g29, g30⟩) Try.func8 rfl (by kernel_rfl) rfl (by simp [cx]) [] (by simp) ?_
    conv => whnf
    repeat' (first | (refine br_intro (fun h => ?_) (fun h => ?_) <;> (conv => whnf)) | (refine ⟨⟨by kernel_rfl, by kernel_rfl⟩, ?_⟩; conv => whnf))
    all_goals (conv => lhs; whnf)
    all_goals (first | rfl | simp_all)
  · cases h
theorem g9 : Ax.Good Try.prog env 9 := by
  intro args r h
  rw [e9] at h
  unfold S7 at h
  split at h
  ·
    cases h
    refine Does.of_awp (X := cx 14 [19, 31, 32]) (by simpa [cx] using ⟨g19, g31, g32⟩) Try.func9 rfl (by kernel_rfl) rfl (by simp [cx]) [] (by simp) ?_
    conv => whnf
    repeat' (first | (refine br_intro (fun h => ?_) (fun h => ?_) <;> (conv => whnf)) | (refine ⟨⟨by kernel_rfl, by kernel_rfl⟩, ?_⟩; conv => whnf))
    all_goals (conv => lhs; whnf)
    all_goals (first | rfl | simp_all)
  · cases h
theorem g12 : Ax.Good Try.prog env 12 := by
  intro args r h
  rw [e12] at h
  unfold S12 at h
  split at h
  ·
    cases h
    refine Does.of_awp (X := cx 32 [39, 40, 41]) (by simpa [cx] using ⟨g39, g40, g41⟩) Try.func12 rfl (by kernel_rfl) rfl (by simp [cx]) [] (by simp) ?_
    conv => whnf
    repeat' (first | (refine br_intro (fun h => ?_) (fun h => ?_) <;> (conv => whnf)) | (refine ⟨⟨by kernel_rfl, by kernel_rfl⟩, ?_⟩; conv => whnf))
    all_goals (conv => lhs; whnf)
    all_goals (first | rfl | simp_all [sameF_self])
  · cases h
theorem g13 : Ax.Good Try.prog env 13 := by
  intro args r h
  rw [e13] at h
  unfold S6 at h
  split at h
  ·
    cases h
    refine Does.of_awp (X := cx 30 [22, 39, 42, 43]) (by simpa [cx] using ⟨g22, g39, g42, g43⟩) Try.func13 rfl (by kernel_rfl) rfl (by simp [cx]) [] (by simp) ?_
    conv => whnf
    repeat' (first | (refine br_intro (fun h => ?_) (fun h => ?_) <;> (conv => whnf)) | (refine ⟨⟨by kernel_rfl, by kernel_rfl⟩, ?_⟩; conv => whnf))
    all_goals (conv => lhs; whnf)
    all_goals (first | rfl | simp_all [sameF_self])
  · cases h
theorem g3 : Ax.Good Try.prog env 3 := by
  intro args r h
  rw [e3] at h
  unfold S3 at h
  split at h
  · rename_i a b c d p q r s
    split at h
    · rename_i hn
      obtain ⟨k0, k1, k2, k3, k4, k5, k6, k7⟩ := hn
      cases h
      refine Does.of_awp (X := cx 20 [15, 16, 17]) (by simpa [cx] using ⟨g15, g16, g17⟩) Try.func3 rfl (by kernel_rfl) rfl (by simp [cx]) [] (by simp) ?_
      conv => whnf
      have hE : eqL [a, b, c, d] [p, q, r, s] = same4 a b c d p q r s := by simp [eqL, same4, bits2, sameN_eq, *, Bool.and_assoc]
      repeat' (first | (refine br_intro (fun h => ?_) (fun h => ?_) <;> (conv => whnf)) | (refine ⟨⟨by kernel_rfl, by kernel_rfl⟩, ?_⟩; conv => whnf))
      all_goals (conv => lhs; whnf)
      all_goals (first | rfl | simp_all)
    · cases h
  · cases h
theorem g4 : Ax.Good Try.prog env 4 := by
  intro args r h
  rw [e4] at h
  unfold S3 at h
  split at h
  · rename_i a b c d p q r s
    split at h
    · rename_i hn
      obtain ⟨k0, k1, k2, k3, k4, k5, k6, k7⟩ := hn
      cases h
      refine Does.of_awp (X := cx 20 [18, 19, 20]) (by simpa [cx] using ⟨g18, g19, g20⟩) Try.func4 rfl (by kernel_rfl) rfl (by simp [cx]) [] (by simp) ?_
      conv => whnf
      have hE : eqL [a, b, c, d] [p, q, r, s] = same4 a b c d p q r s := by simp [eqL, same4, bits2, sameN_eq, *, Bool.and_assoc]
      repeat' (first | (refine br_intro (fun h => ?_) (fun h => ?_) <;> (conv => whnf)) | (refine ⟨⟨by kernel_rfl, by kernel_rfl⟩, ?_⟩; conv => whnf))
      all_goals (conv => lhs; whnf)
      all_goals (first | rfl | simp_all)
    · cases h
  · cases h
theorem g5 : Ax.Good Try.prog env 5 := by
  intro args r h
  rw [e5] at h
  unfold S5 at h
  split at h
  · rename_i a b c d e p q r s t
    split at h
    · rename_i hn
      obtain ⟨k0, k1, k2, k3, k4, k5, k6, k7, k8, k9⟩ := hn
      cases h
      refine Does.of_awp (X := cx 20 [21, 22, 23]) (by simpa [cx] using ⟨g21, g22, g23⟩) Try.func5 rfl (by kernel_rfl) rfl (by simp [cx]) [] (by simp) ?_
      conv => whnf
      have hE : eqL [a, b, c, d, e] [p, q, r, s, t] = same5 a b c d e p q r s t := by simp [eqL, same5, bits2, sameN_eq, *, Bool.and_assoc]
      repeat' (first | (refine br_intro (fun h => ?_) (fun h => ?_) <;> (conv => whnf)) | (refine ⟨⟨by kernel_rfl, by kernel_rfl⟩, ?_⟩; conv => whnf))
      all_goals (conv => lhs; whnf)
      all_goals (first | rfl | simp_all)
    · cases h
  · cases h
theorem g68 : Ax.Good Try.prog env 68 := by
  intro args r h
  rw [e68] at h
  unfold S68 at h
  split at h
  · rename_i x
    cases h
    refine Does.of_awp (X := cx 7 [84]) (by simpa [cx] using g84) Try.func68 rfl (by kernel_rfl) rfl (by simp [cx]) [] (by simp) ?_
    conv => whnf
    have e : cvA Try.prog 60 22 (.flt .f64 (fabs64 (fwiden x))) = some (.flt .f32 (fabs32 x)) := by
      show ((if tooBig (fabs64 (fwiden x)) = false then some (fnarrow (fabs64 (fwiden x))) else none).map (AV.flt .f32)) = _
      rw [if_pos (fabs32_eq x).1]; rfl
    generalize hz : cvA _ 60 22 _ = z
    have hz' := hz.symm.trans e
    subst hz'
    conv => whnf
    rfl
  · cases h
theorem g37 : Ax.Good Try.prog env 37 := by
  intro args r h
  rw [e37] at h
  unfold S37 at h
  split at h
  · rename_i a b c d
    cases h
    refine Does.of_awp (X := cx 46 [61, 62, 63, 64]) (by simpa [cx] using ⟨g61, g62, g63, g64⟩) Try.func37 rfl (by kernel_rfl) rfl (by simp [cx]) [] (by simp) ?_
    conv => whnf
    repeat' (first | (refine br_intro (fun h => ?_) (fun h => ?_) <;> (conv => whnf)) | (refine ⟨⟨by kernel_rfl, by kernel_rfl⟩, ?_⟩; conv => whnf))
    all_goals (refine tup2 ?_ ?_)
    all_goals (conv => lhs; whnf)
    all_goals (cases ha : fin a <;> cases hb : above b <;> cases hc : above c <;> cases hd : above d <;> simp_all [pipeOk, pipeR, pipeP, pipeQ, numV, K])
  · cases h
theorem g38 : Ax.Good Try.prog env 38 := by
  intro args r h
  rw [e38] at h
  unfold S37 at h
  split at h
  · rename_i a b c d
    cases h
    refine Does.of_awp (X := cx 40 [59, 65, 66, 67, 68]) (by simpa [cx] using ⟨g59, g65, g66, g67, g68⟩) Try.func38 rfl (by kernel_rfl) rfl (by simp [cx]) [] (by simp) ?_
    conv => whnf
    have habs := absV (fop_fl .quo .f32 a (roundV b))
    repeat' (first | (refine br_intro (fun h => ?_) (fun h => ?_) <;> (conv => whnf)) | (refine ⟨⟨by kernel_rfl, by kernel_rfl⟩, ?_⟩; conv => whnf))
    all_goals (refine tup2 ?_ ?_)
    all_goals (conv => lhs; whnf)
    all_goals (cases ha : fin a <;> cases hb : above b <;> cases hc : above c <;> cases hd : above d <;> simp_all [pipeOk, pipeR, pipeP, pipeQ, numV, K, allA])
  · cases h
theorem g11 : Ax.Good Try.prog env 11 := by
  intro args r h
  rw [e11] at h
  unfold S11 at h
  split at h
  ·
    cases h
    refine Does.of_awp (X := cx 40 [37, 38, 39]) (by simpa [cx] using ⟨g37, g38, g39⟩) Try.func11 rfl (by kernel_rfl) rfl (by simp [cx]) [] (by simp) ?_
    conv => whnf
    repeat' (first | (refine br_intro (fun h => ?_) (fun h => ?_) <;> (conv => whnf)) | (refine ⟨⟨by kernel_rfl, by kernel_rfl⟩, ?_⟩; conv => whnf))
    all_goals (conv => lhs; whnf)
    all_goals (first | rfl | simp_all [sameF_self])
  · cases h
theorem g34 : Ax.Good Try.prog env 34 := by
  intro args r h
  rw [e34] at h
  unfold S34 at h
  split at h
  · rename_i n cs tg
    split at h
    · rename_i xs hxs
      have := flts_eq hxs
      subst this
      split at h
      · rename_i hn
        obtain ⟨rfl, hn⟩ := hn
        cases h
        refine Does.of_awp (X := cx 22 []) (fun f hf => by cases hf) Try.func34 rfl (by kernel_rfl) rfl (by simp [cx]) [28] (by simp) ?_
        conv => whnf
        refine ⟨⟨by omega, by omega, by omega⟩, by decide, ?_⟩
        conv => whnf
        refine ⟨fun fr L => ∃ i cells ys, xs.drop i = ys ∧ i + ys.length = xs.length ∧ cells.length = xs.length ∧ cells.take i = f32s (xs.take i) ∧ L = upd L0 28 (1, some cells) ∧ KN [(0, .sli 1 xs.length (f32s xs) tg), (3, .lsl 28 1 0 xs.length 1), (4, .int .i64 i)] fr,
          mu 4 xs.length, ⟨0, _, xs, rfl, by simp, (zerosA_length _ _).trans (show Int.toNat (xs.length : Int) * 1 = xs.length by simp), rfl, rfl, rfl, rfl, rfl, trivial⟩, ?_⟩
        rintro fr L ⟨i, cells, ys, hd, hl, hc, ht, rfl, hk⟩
        rw [← kn_eq _ _ hk]
        conv => whnf
        refine br_intro (fun h => ?_) (fun h => ?_) <;> (conv => whnf)
        · have hlt : i < xs.length := by simpa using h
          cases ys with
          | nil => simp at hl; omega
          | cons y ys =>
          refine ⟨rfl, ⟨by omega, by omega⟩, ?_⟩
          rw [drop_f32s hd]
          conv => whnf
          refine ⟨rfl, rfl, ⟨by omega, by omega⟩, ?_⟩
          conv => whnf
          have e : stB Try.prog (upd L0 28 (1, some cells)) 22 (.loc 28 1 (0 + Int.toNat (i : Int) * 1)) (.flt .f32 y) = some (upd L0 28 (1, some (cells.set (0 + Int.toNat (i : Int) * 1) (.flt .f32 y)))) := stB_flt (by kernel_rfl) (by simp; omega)
          generalize hz : stB _ _ _ _ _ = z
          have hz' := hz.symm.trans e
          subst hz'
          conv => whnf
          refine ⟨⟨i + 1, _, ys, ?_, ?_, ?_, ?_, rfl, rfl, rfl, ?_, trivial⟩, ?_⟩
          · rw [← List.drop_drop, hd]; rfl
          · simp at hl; omega
          · simp [hc]
          · have := take_set (cells := cells) (i := i) (by omega) ht hd
            simpa using this
          · exact congrArg (AV.int _) (i64_next (by omega))
          · show xs.length - (IntKind.i64.wrap ((i : Int) + 1)).toNat < xs.length - ((i : Int)).toNat
            rw [i64_next (by omega)]; omega
        · have hi : i = xs.length := by simp at h; omega
          subst hi
          exact exV_own rfl hc ht
      · cases h
    · cases h
  · cases h
theorem g60 : Ax.Good Try.prog env 60 := by
  intro args r h
  rw [e60] at h
  unfold S60 at h
  split at h
  · rename_i n cs tg
    split at h
    · rename_i xs hxs
      have := flts_eq hxs
      subst this
      split at h
      · rename_i hn
        obtain ⟨rfl, hn⟩ := hn
        cases h
        refine Does.of_awp (X := cx 24 [69]) (by simpa [cx] using g69) Try.func60 rfl (by kernel_rfl) rfl (by simp [cx]) [] (by simp) ?_
        conv => whnf
        refine ⟨fun fr L => ∃ i ys, xs.drop i = ys ∧ i + ys.length = xs.length ∧ allL xs = allL ys ∧ L = L0 ∧ KN [(0, .sli 1 xs.length (f32s xs) tg), (3, .int .i64 i)] fr,
          mu 3 xs.length, ⟨0, xs, rfl, by simp, rfl, rfl, rfl, rfl, trivial⟩, ?_⟩
        rintro fr L ⟨i, ys, hd, hl, hb, rfl, hk⟩
        rw [← kn_eq _ _ hk]
        conv => whnf
        refine br_intro (fun h => ?_) (fun h => ?_) <;> (conv => whnf)
        · have hlt : i < xs.length := by simpa using h
          refine br_intro (fun h3 => ?_) (fun h3 => ?_) <;> (conv => whnf)
          · cases ys with
            | nil => simp at hl; omega
            | cons y ys =>
            refine ⟨rfl, ⟨by omega, by omega⟩, ?_⟩
            rw [drop_f32s hd]
            conv => whnf
            refine br_intro (fun h => ?_) (fun h => ?_) <;> (conv => whnf)
            · conv => lhs; whnf
              rw [hb, allL]; simp at h; simp [h]
            · refine ⟨⟨i + 1, ys, ?_, ?_, ?_, rfl, rfl, ?_, trivial⟩, ?_⟩
              · rw [← List.drop_drop, hd]; rfl
              · simp at hl; omega
              · rw [hb, allL]; simp at h; simp [h]
              · exact congrArg (AV.int _) (i64_next (by omega))
              · show xs.length - (IntKind.i64.wrap ((i : Int) + 1)).toNat < xs.length - ((i : Int)).toNat
                rw [i64_next (by omega)]; omega
          · conv => lhs; whnf
            rw [h3]; rfl
        · cases ys with
          | cons y ys => simp at hl; simp at h; omega
          | nil =>
          conv => lhs; whnf
          rw [hb]; simp [allL]
      · cases h
    · cases h
  · cases h
theorem g33 : Ax.Good Try.prog env 33 := by
  intro args r h
  rw [e33] at h
  unfold S60 at h
  split at h
  · rename_i n cs tg
    split at h
    · rename_i xs hxs
      have := flts_eq hxs
      subst this
      split at h
      · rename_i hn
        obtain ⟨rfl, hn⟩ := hn
        cases h
        refine Does.of_awp (X := cx 5 [60]) (by simpa [cx] using g60) Try.func33 rfl (by kernel_rfl) rfl (by simp [cx]) [] (by simp) ?_
        conv => whnf
        have e60 : ∀ tag, env 60 [.sli 1 xs.length (f32s xs) tag] = some (AV.bool (decide ((xs.length : Int) ≤ 128) && allL xs)) := fun tag => by
          show (match flts (f32s xs) with | some ys => if xs.length = ys.length ∧ xs.length ≤ 1048576 then some (AV.bool (decide ((xs.length : Int) ≤ 128) && allL ys)) else none | none => none) = _
          rw [flts_f32s]; exact if_pos ⟨rfl, hn⟩
        generalize hz : Cx.env _ 60 _ = z
        have hz' := hz.symm.trans (e60 (.sli 1 xs.length (f32s xs) tg))
        subst hz'
        clear hz
        conv => whnf
        rfl
      · cases h
    · cases h
  · cases h
theorem g35 : Ax.Good Try.prog env 35 := by
  intro args r h
  rw [e35] at h
  unfold S60 at h
  split at h
  · rename_i n cs tg
    split at h
    · rename_i xs hxs
      have := flts_eq hxs
      subst this
      split at h
      · rename_i hn
        obtain ⟨rfl, hn⟩ := hn
        cases h
        refine Does.of_awp (X := cx 10 [54]) (by simpa [cx] using g54) Try.func35 rfl (by kernel_rfl) rfl (by simp [cx]) [] (by simp) ?_
        conv => whnf
        have e54 : ∀ tag, env 54 [.sli 1 xs.length (f32s xs) tag] = some (.bool (allL xs)) := fun tag => by
          show (match flts (f32s xs) with | some ys => if xs.length = ys.length ∧ xs.length < 2 ^ 40 then some (AV.bool (allL ys)) else none | none => none) = _
          rw [flts_f32s]; exact if_pos ⟨rfl, by omega⟩
        refine br_intro (fun h1 => ?_) (fun h1 => ?_) <;> (conv => whnf)
        · generalize hz : Cx.env _ 54 _ = z
          have hz' := hz.symm.trans (e54 (.sli 1 xs.length (f32s xs) tg))
          subst hz'
          clear hz
          conv => whnf
          repeat' (first | (refine br_intro (fun h => ?_) (fun h => ?_) <;> (conv => whnf)))
          all_goals (conv => lhs; whnf)
          all_goals (rw [h1]; first | rfl | simp_all)
        · repeat' (first | (refine br_intro (fun h => ?_) (fun h => ?_) <;> (conv => whnf)))
          all_goals (conv => lhs; whnf)
          all_goals (rw [h1]; rfl)
      · cases h
    · cases h
  · cases h
theorem g36 : Ax.Good Try.prog env 36 := by
  intro args r h
  rw [e36] at h
  unfold S36 at h
  split at h
  · rename_i n cs tg n' ds tg'
    split at h
    · rename_i xs zs hxs hzs
      have := flts_eq hxs
      subst this
      have := flts_eq hzs
      subst this
      split at h
      · rename_i hn
        obtain ⟨rfl, rfl, hn, hn2⟩ := hn
        cases h
        refine Does.of_awp (X := cx 29 [39]) (by simpa [cx] using g39) Try.func36 rfl (by kernel_rfl) rfl (by simp [cx]) [] (by simp) ?_
        conv => whnf
        refine br_intro (fun h => ?_) (fun h => ?_) <;> (conv => whnf)
        · conv => lhs; whnf
          rw [sameL_len (by simp at h; omega)]
        have hlen : xs.length = zs.length := by simp at h; omega
        refine ⟨fun fr L => ∃ i ys us, xs.drop i = ys ∧ zs.drop i = us ∧ i + ys.length = xs.length ∧ i + us.length = zs.length ∧ sameL xs zs = sameL ys us ∧ L = L0 ∧ KN [(0, .sli 1 xs.length (f32s xs) tg), (1, .sli 1 zs.length (f32s zs) tg'), (5, .int .i64 i)] fr,
          mu 5 xs.length, ⟨0, xs, zs, rfl, rfl, by simp, by simp, rfl, rfl, rfl, rfl, rfl, trivial⟩, ?_⟩
        rintro fr L ⟨i, ys, us, hd, hd2, hl, hl2, hb, rfl, hk⟩
        rw [← kn_eq _ _ hk]
        conv => whnf
        refine br_intro (fun h => ?_) (fun h => ?_) <;> (conv => whnf)
        · have hlt : i < xs.length := by simpa using h
          cases ys with
          | nil => simp at hl; omega
          | cons y ys =>
          cases us with
          | nil => simp at hl2; omega
          | cons u us =>
          refine ⟨⟨by kernel_rfl, by kernel_rfl⟩, ?_⟩
          conv => whnf
          refine ⟨rfl, ⟨by omega, by omega⟩, ?_⟩
          rw [drop_f32s hd]
          conv => whnf
          refine ⟨rfl, ⟨by omega, by omega⟩, ?_⟩
          rw [drop_f32s hd2]
          conv => whnf
          refine br_intro (fun h => ?_) (fun h => ?_) <;> (conv => whnf)
          · conv => lhs; whnf
            rw [hb, sameL]; simp at h; simp [h]
          · refine ⟨⟨i + 1, ys, us, ?_, ?_, ?_, ?_, ?_, rfl, rfl, rfl, ?_, trivial⟩, ?_⟩
            · rw [← List.drop_drop, hd]; rfl
            · rw [← List.drop_drop, hd2]; rfl
            · simp at hl; omega
            · simp at hl2; omega
            · rw [hb, sameL]; simp at h; simp [h]
            · exact congrArg (AV.int _) (i64_next (by omega))
            · show xs.length - (IntKind.i64.wrap ((i : Int) + 1)).toNat < xs.length - ((i : Int)).toNat
              rw [i64_next (by omega)]; omega
        · cases ys with
          | cons y ys => simp at hl; simp at h; omega
          | nil =>
          cases us with
          | cons u us => simp at hl hl2; omega
          | nil =>
          conv => lhs; whnf
          rw [hb]; rfl
      · cases h
    · cases h
  · cases h
theorem g10 : Ax.Good Try.prog env 10 := by
  intro args r h
  rw [e10] at h
  unfold S10 at h
  split at h
  · rename_i n cs tg
    split at h
    · rename_i xs hxs
      have := flts_eq hxs
      subst this
      split at h
      · rename_i hn
        subst hn
        cases h
        refine Does.of_awp (X := cx 24 [33, 34, 35, 36]) (by simpa [cx] using ⟨g33, g34, g35, g36⟩) Try.func10 rfl (by kernel_rfl) rfl (by simp [cx]) [] (by simp) ?_
        conv => whnf
        refine br_intro (fun h => ?_) (fun h => ?_) <;> (conv => whnf)
        · rfl
        · have hn : xs.length ≤ 1048576 := by simp at h; omega
          have e34 : ∀ tag, env 34 [.sli 1 xs.length (f32s xs) tag] = some (AV.own 0 1 xs.length (f32s xs)) := fun tag => by
            show (match flts (f32s xs) with | some ys => if xs.length = ys.length ∧ xs.length ≤ 1048576 then some (AV.own 0 1 xs.length (f32s ys)) else none | none => none) = _
            rw [flts_f32s]; exact if_pos ⟨rfl, hn⟩
          have e33 : ∀ tag, env 33 [.sli 1 xs.length (f32s xs) tag] = some (AV.bool (decide ((xs.length : Int) ≤ 128) && allL xs)) := fun tag => by
            show (match flts (f32s xs) with | some ys => if xs.length = ys.length ∧ xs.length ≤ 1048576 then some (AV.bool (decide ((xs.length : Int) ≤ 128) && allL ys)) else none | none => none) = _
            rw [flts_f32s]; exact if_pos ⟨rfl, hn⟩
          have e35 : ∀ tag, env 35 [.sli 1 xs.length (f32s xs) tag] = some (AV.bool (decide ((xs.length : Int) ≤ 128) && allL xs)) := fun tag => by
            show (match flts (f32s xs) with | some ys => if xs.length = ys.length ∧ xs.length ≤ 1048576 then some (AV.bool (decide ((xs.length : Int) ≤ 128) && allL ys)) else none | none => none) = _
            rw [flts_f32s]; exact if_pos ⟨rfl, hn⟩
          have k33 : ∀ L k g, L k = (g, some (f32s xs)) → env 33 [fz 4 L (.lsl k g 0 xs.length 1)] = some (AV.bool (decide ((xs.length : Int) ≤ 128) && allL xs)) := fun L k g h => by rw [fz_own h]; exact e33 _
          have k35 : ∀ L k g, L k = (g, some (f32s xs)) → env 35 [fz 4 L (.lsl k g 0 xs.length 1)] = some (AV.bool (decide ((xs.length : Int) ≤ 128) && allL xs)) := fun L k g h => by rw [fz_own h]; exact e35 _
          have e36 : ∀ tag tag', env 36 [.sli 1 xs.length (f32s xs) tag, .sli 1 xs.length (f32s xs) tag'] = some (.bool (sameL xs xs)) := fun tag tag' => by
            show (match flts (f32s xs), flts (f32s xs) with | some ys, some us => if xs.length = ys.length ∧ xs.length = us.length ∧ xs.length ≤ 1048576 ∧ xs.length ≤ 1048576 then some (AV.bool (sameL ys us)) else none | _, _ => none) = _
            rw [flts_f32s]; exact if_pos ⟨rfl, rfl, hn, hn⟩
          have k36 : ∀ L k g k' g', L k = (g, some (f32s xs)) → L k' = (g', some (f32s xs)) → env 36 [fz 4 L (.lsl k g 0 xs.length 1), fz 4 L (.lsl k' g' 0 xs.length 1)] = some (.bool (sameL xs xs)) := fun L k g k' g' h h' => by rw [fz_own h, fz_own h']; exact e36 _ _
          generalize hz : Cx.env _ 34 _ = z
          have hz' := hz.symm.trans (e34 (.sli 1 xs.length (f32s xs) tg))
          subst hz'
          clear hz
          conv => whnf
          generalize hz : Cx.env _ 33 _ = z
          have hz' := hz.symm.trans (k33 _ 40 1 rfl)
          subst hz'
          clear hz
          conv => whnf
          generalize hz : Cx.env _ 34 _ = z
          have hz' := hz.symm.trans (e34 (.sli 1 xs.length (f32s xs) tg))
          subst hz'
          clear hz
          conv => whnf
          generalize hz : Cx.env _ 35 _ = z
          have hz' := hz.symm.trans (k35 _ 52 1 rfl)
          subst hz'
          clear hz
          conv => whnf
          refine br_intro (fun h => ?_) (fun h => ?_) <;> (conv => whnf)
          · simp at h
          generalize hz : Cx.env _ 34 _ = z
          have hz' := hz.symm.trans (e34 (.sli 1 xs.length (f32s xs) tg))
          subst hz'
          clear hz
          conv => whnf
          generalize hz : Cx.env _ 36 _ = z
          have hz' := hz.symm.trans (k36 _ 52 1 84 1 rfl rfl)
          subst hz'
          clear hz
          conv => whnf
          refine br_intro (fun h => ?_) (fun h => ?_) <;> (conv => whnf)
          · rw [sameL_self] at h; cases h
          · rfl
      · cases h
    · cases h
  · cases h
theorem a10 (ys : List Nat) : env 10 [.sli 1 ys.length (f32s ys) .undef] = some (.bool true) := by
  show (match flts (f32s ys) with | some xs => if ys.length = xs.length then some (AV.bool true) else none | none => none) = _
  rw [flts_f32s]; exact if_pos rfl
end Go.Proofs.Ytckmonpgflidkaa
