/- What each function of this seat does. Printed by gen2.py. -/
import Derived.Test.YtkjdcbgliekjnaaAxZ
import Derived.Test.YtkjdcbgliekjnaaAxC
import Derived.Test.YtkjdcbgliekjnaaAxI
import Derived.Test.YtkjdcbgliekjnaaAxK
import Derived.Test.YtkjdcbgliekjnaaAxM
import Derived.Test.YtkjdcbgliekjnaaRows
namespace Go.Proofs.Ytkjdcbgliekjnaa
open Go.Ax
set_option maxRecDepth 8000
def K (n : Nat) : Nat := canon .f32 n
def least (x : Nat) : Bool := fin x && fcmp .geq .f32 x (K 0)
def above (x : Nat) : Bool := fin x && fcmp .gtr .f32 x (K 0)
def share (x : Nat) : Bool := fcmp .geq .f32 x (K 0) && fcmp .leq .f32 x (K 1065353216)
def numV (x : Nat) : Nat := bif fin x then x else K 0
def num (x : Nat) : AV := .tup [.flt .f32 (numV x), .bool (fin x)]
def snowOk (a b c d : Nat) : Bool := least a && share b && least c && least d
def stormOk (a b c d : Nat) : Bool := least a && above b && least c && fcmp .gtr .f32 d (K 0) && fcmp .lss .f32 d (K 1065353216)
def sectOk (a b c d : Nat) : Bool := least a && least b && (fcmp .gtr .f32 a (K 0) || fcmp .gtr .f32 b (K 0)) && above c && above d
def roundV (x : Nat) : Nat := fop .mul .f32 (fop .mul .f32 (K 1061752795) x) x
def allL : List Nat → Bool
  | [] => true
  | x :: xs => least x && allL xs
def allF : List Nat → Bool
  | [] => true
  | x :: xs => fin x && allF xs
def allA : List Nat → Bool
  | [] => true
  | x :: xs => above x && allA xs
def firstP (ok : Nat → Bool) : List Nat → Nat → Int
  | [], _ => -1
  | x :: xs, i => bif ok x then firstP ok xs (i + 1) else i
theorem firstL_neg : ∀ (xs : List Nat) (i : Nat), decide (0 ≤ firstP least xs i) = !allL xs
  | [], _ => rfl
  | x :: xs, i => by
    unfold firstP allL
    cases least x with
    | true => exact firstL_neg xs (i + 1)
    | false => show decide ((0 : Int) ≤ (i : Int)) = true; exact decide_eq_true (by omega)
theorem firstF_neg : ∀ (xs : List Nat) (i : Nat), decide (0 ≤ firstP fin xs i) = !allF xs
  | [], _ => rfl
  | x :: xs, i => by
    unfold firstP allF
    cases fin x with
    | true => exact firstF_neg xs (i + 1)
    | false => show decide ((0 : Int) ≤ (i : Int)) = true; exact decide_eq_true (by omega)
theorem fin0 : fin (K 0) = true := by decide +kernel

def S67 : List AV → Option AV
  | [.flt .f32 x] => some (.bool (fin x))
  | _ => none
def S79 : List AV → Option AV
  | [.flt .f32 x] => some (.bool (least x))
  | _ => none
def S89 : List AV → Option AV
  | [.flt .f32 x] => some (.bool (above x))
  | _ => none
def S110 : List AV → Option AV
  | [.flt .f32 x] => some (.bool (share x))
  | _ => none
def S112 : List AV → Option AV
  | [.flt .f32 x] => some (.bool (!least x))
  | _ => none
def S113 : List AV → Option AV
  | [.flt .f32 x] => some (.bool (!fin x))
  | _ => none
def S61 : List AV → Option AV
  | [.flt .f32 x] => some (num x)
  | _ => none
def S80 : List AV → Option AV
  | [.flt .f32 x] => some (.flt .f32 (roundV x))
  | _ => none
def S125 : List AV → Option AV
  | [.flt .f64 x] => some (.flt .f64 (fabs64 x))
  | _ => none
def S123 : List AV → Option AV
  | [.fbits x] => some (.flt .f64 x)
  | _ => none
def S126 : List AV → Option AV
  | [.flt .f64 x] => some (.fbits x)
  | _ => none
def S119 : List AV → Option AV
  | [.flt .f64 x] => some (.bool (fcmp .neq .f64 x x))
  | _ => none
def S120 : List AV → Option AV
  | [.flt .f64 x, .int .i64 0] => some (.bool (fcmp .gtr .f64 (fabs64 x) (canon .f64 9218868437227405311)))
  | _ => none
def S107 : List AV → Option AV
  | [.flt .f64 x] => some (.bool (!(fcmp .neq .f64 x x) && !(fcmp .gtr .f64 (fabs64 x) (canon .f64 9218868437227405311))))
  | _ => none
def S22 : List AV → Option AV
  | [.flt .f64 x, .flt .f64 y] => some (.bool (sameF x y))
  | _ => none
def S122 : List AV → Option AV
  | [.sli 1 n cs _, .fn f []] => match flts cs with
    | some xs => if n = xs.length ∧ n < 2 ^ 40 then (if f = 112 then some (.int .i64 (firstP least xs 0)) else if f = 113 then some (.int .i64 (firstP fin xs 0)) else none) else none
    | none => none
  | _ => none
def S111 : List AV → Option AV
  | [.sli 1 n cs _, .fn f []] => match flts cs with
    | some xs => if n = xs.length ∧ n < 2 ^ 40 then (if f = 112 then some (.bool (!allL xs)) else if f = 113 then some (.bool (!allF xs)) else none) else none
    | none => none
  | _ => none
def S93 : List AV → Option AV
  | [.sli 1 n cs _] => match flts cs with
    | some xs => if n = xs.length ∧ n < 2 ^ 40 then some (.bool (allL xs)) else none
    | none => none
  | _ => none
def S94 : List AV → Option AV
  | [.sli 1 n cs _] => match flts cs with
    | some xs => if n = xs.length ∧ n < 2 ^ 40 then some (.bool (allF xs)) else none
    | none => none
  | _ => none
def S83 : List AV → Option AV
  | [.sli 1 n cs _] => match flts cs with
    | some xs => if n = xs.length ∧ n < 2 ^ 40 then some (.bool (allA xs)) else none
    | none => none
  | _ => none
def S20 : List AV → Option AV
  | [.agg [.flt .f32 a, .flt .f32 b, .flt .f32 c, .flt .f32 d]] => some (.agg [.flt .f32 a, .flt .f32 b, .flt .f32 c, .flt .f32 d])
  | _ => none
def S98 : List AV → Option AV
  | [.ref [.flt .f32 a, .flt .f32 b, .flt .f32 c, .flt .f32 d] _] => some (.bool (sectOk a b c d))
  | _ => none
def S106 : List AV → Option AV
  | [.agg [.flt .f32 a, .flt .f32 b, .flt .f32 c, .flt .f32 d]] => some (.bool (sectOk a b c d))
  | _ => none
def S66 : List AV → Option AV
  | [.ref [.flt .f32 a, .flt .f32 b, .flt .f32 c, .flt .f32 d] _] => some (.bool (stormOk a b c d))
  | _ => none
def S69 : List AV → Option AV
  | [.agg [.flt .f32 a, .flt .f32 b, .flt .f32 c, .flt .f32 d]] => some (.bool (stormOk a b c d))
  | _ => none
def S88 : List AV → Option AV
  | [.ref [.flt .f32 a, .flt .f32 b, .flt .f32 c, .flt .f32 d] _] => some (.bool (snowOk a b c d))
  | _ => none
def S91 : List AV → Option AV
  | [.agg [.flt .f32 a, .flt .f32 b, .flt .f32 c, .flt .f32 d]] => some (.bool (snowOk a b c d))
  | _ => none
def canOk (a b c d x : Nat) : Bool := sectOk a b c d && above x
def areaV (a b x : Nat) : Nat := fop .mul .f32 x (fop .add .f32 a (fop .mul .f32 b x))
def topV (a b x : Nat) : Nat := fop .add .f32 a (fop .mul .f32 (fop .mul .f32 (K 1073741824) b) x)
def rainP (a b x : Nat) : Nat := fop .quo .f32 (fop .sub .f32 x a) b
def rainOut (a b x : Nat) : Bool := fcmp .lss .f32 (rainP a b x) (K 0) || fcmp .gtr .f32 (rainP a b x) (K 1065353216)
def rainTop (b c : Nat) : Nat := fop .quo .f32 (fop .mul .f32 (K 1073741824) c) b
def rainV (a b c d x : Nat) : Nat := bif rainOut a b x then K 0 else bif fcmp .leq .f32 (rainP a b x) d then fop .mul .f32 (rainTop b c) (fop .quo .f32 (rainP a b x) d)
  else fop .mul .f32 (rainTop b c) (fop .quo .f32 (fop .sub .f32 (K 1065353216) (rainP a b x)) (fop .sub .f32 (K 1065353216) d))
def fallV (a b c d x : Nat) : Nat := bif !fcmp .gtr .f32 (rainP a b x) (K 0) then K 0 else bif fcmp .geq .f32 (rainP a b x) (K 1065353216) then c else
  bif fcmp .leq .f32 (rainP a b x) d then fop .mul .f32 c (fop .quo .f32 (fop .mul .f32 (rainP a b x) (rainP a b x)) d)
  else fop .mul .f32 c (fop .sub .f32 (K 1065353216) (fop .quo .f32 (fop .mul .f32 (fop .sub .f32 (K 1065353216) (rainP a b x)) (fop .sub .f32 (K 1065353216) (rainP a b x))) (fop .sub .f32 (K 1065353216) d)))
def speedV (a b x q : Nat) : Nat := fop .quo .f32 q (areaV a b x)
def speedOk (a b c d x q : Nat) : Bool := canOk a b c d x && above q && fin (areaV a b x) && fin (speedV a b x q)
def headV (x v : Nat) : Nat := fop .add .f32 x (fop .quo .f32 (fop .mul .f32 v v) (K 1100805571))
def pushV (a b x q v : Nat) : Nat := fop .add .f32 (fop .mul .f32 (K 1092416963) (fop .mul .f32 (fop .mul .f32 x x) (fop .add .f32 (fop .quo .f32 a (K 1073741824)) (fop .quo .f32 (fop .mul .f32 b x) (K 1077936128))))) (fop .mul .f32 q v)
def maybe (ok : Bool) (x : Nat) : AV := .tup [.flt .f32 (bif ok then numV x else K 0), .bool (ok && fin x)]
def outV (ok : Bool) (x : Nat) : Nat := bif ok then numV x else K 0
def S60 : List AV → Option AV
  | [.ref [.flt .f32 a, .flt .f32 b, .flt .f32 c, .flt .f32 d] _, .flt .f32 x] => some (.bool (canOk a b c d x))
  | _ => none
def S63 : List AV → Option AV
  | [.agg [.flt .f32 a, .flt .f32 b, .flt .f32 c, .flt .f32 d], .sli 1 n cs _] => match flts cs with
    | some xs => if n = xs.length ∧ n < 2 ^ 40 then some (.bool (sectOk a b c d && allA xs)) else none
    | none => none
  | _ => none
def S62 : List AV → Option AV
  | [.ref [.flt .f32 a, .flt .f32 b, .flt .f32 _, .flt .f32 _] _, .flt .f32 x] => some (.flt .f32 (areaV a b x))
  | _ => none
def S65 : List AV → Option AV
  | [.ref [.flt .f32 a, .flt .f32 b, .flt .f32 _, .flt .f32 _] _, .flt .f32 x] => some (.flt .f32 (topV a b x))
  | _ => none
def S68 : List AV → Option AV
  | [.ref [.flt .f32 a, .flt .f32 b, .flt .f32 c, .flt .f32 d] _, .flt .f32 x] => some (.flt .f32 (rainV a b c d x))
  | _ => none
def S73 : List AV → Option AV
  | [.ref [.flt .f32 a, .flt .f32 b, .flt .f32 c, .flt .f32 d] _, .flt .f32 x] => some (.flt .f32 (fallV a b c d x))
  | _ => none
def S74 : List AV → Option AV
  | [.agg [.flt .f32 a, .flt .f32 b, .flt .f32 c, .flt .f32 d], .flt .f32 x] => some (.flt .f32 (fallV a b c d x))
  | _ => none
def S75 : List AV → Option AV
  | [.ref [.flt .f32 a, .flt .f32 b, .flt .f32 c, .flt .f32 d] _, .flt .f32 x, .flt .f32 q] => some (.bool (canOk a b c d x && above q))
  | _ => none
def S76 : List AV → Option AV
  | [.ref [.flt .f32 a, .flt .f32 b, .flt .f32 _, .flt .f32 _] _, .flt .f32 x, .flt .f32 q] => some (.tup [.flt .f32 (numV (speedV a b x q)), .bool (fin (speedV a b x q) && fin (areaV a b x))])
  | _ => none
def S19 : List AV → Option AV
  | [.agg [.flt .f32 a, .flt .f32 b, .flt .f32 c, .flt .f32 d], .flt .f32 x] => some (.tup [.flt .f32 (outV (canOk a b c d x) (areaV a b x)), .bool ((canOk a b c d x) && fin (areaV a b x))])
  | _ => none
def S23 : List AV → Option AV
  | [.agg [.flt .f32 a, .flt .f32 b, .flt .f32 c, .flt .f32 d], .flt .f32 x] => some (.tup [.flt .f32 (outV (canOk a b c d x) (topV a b x)), .bool ((canOk a b c d x) && fin (topV a b x))])
  | _ => none
def S25 : List AV → Option AV
  | [.agg [.flt .f32 a, .flt .f32 b, .flt .f32 c, .flt .f32 d], .flt .f32 x] => some (.tup [.flt .f32 (outV (stormOk a b c d && fin x) (rainV a b c d x)), .bool ((stormOk a b c d && fin x) && fin (rainV a b c d x))])
  | _ => none
def S32 : List AV → Option AV
  | [.agg [.flt .f32 a, .flt .f32 b, .flt .f32 c, .flt .f32 d], .flt .f32 x] => some (.tup [.flt .f32 (outV (stormOk a b c d && fin x) (fallV a b c d x)), .bool ((stormOk a b c d && fin x) && fin (fallV a b c d x))])
  | _ => none
def S34 : List AV → Option AV
  | [.agg [.flt .f32 a, .flt .f32 b, .flt .f32 c, .flt .f32 d], .flt .f32 x, .flt .f32 q] => some (.tup [.flt .f32 (bif speedOk a b c d x q then speedV a b x q else K 0), .bool (speedOk a b c d x q)])
  | _ => none
def S86 : List AV → Option AV
  | [.ref [.flt .f32 a, .flt .f32 b, .flt .f32 _, .flt .f32 _] _, .flt .f32 x, .flt .f32 q] => some (.tup [.flt .f32 (outV (fin (speedV a b x q) && fin (areaV a b x)) (headV x (speedV a b x q))), .bool ((fin (speedV a b x q) && fin (areaV a b x)) && fin (headV x (speedV a b x q)))])
  | _ => none
def S87 : List AV → Option AV
  | [.ref [.flt .f32 a, .flt .f32 b, .flt .f32 _, .flt .f32 _] _, .flt .f32 x, .flt .f32 q] => some (.tup [.flt .f32 (outV (fin (speedV a b x q) && fin (areaV a b x)) (pushV a b x q (speedV a b x q))), .bool ((fin (speedV a b x q) && fin (areaV a b x)) && fin (pushV a b x q (speedV a b x q)))])
  | _ => none
def S38 : List AV → Option AV
  | [.agg [.flt .f32 a, .flt .f32 b, .flt .f32 c, .flt .f32 d], .flt .f32 x, .flt .f32 q] => some (.tup [.flt .f32 (outV (speedOk a b c d x q) (headV x (speedV a b x q))), .bool ((speedOk a b c d x q) && fin (headV x (speedV a b x q)))])
  | _ => none
def S40 : List AV → Option AV
  | [.agg [.flt .f32 a, .flt .f32 b, .flt .f32 c, .flt .f32 d], .flt .f32 x, .flt .f32 q] => some (.tup [.flt .f32 (outV (speedOk a b c d x q) (pushV a b x q (speedV a b x q))), .bool ((speedOk a b c d x q) && fin (pushV a b x q (speedV a b x q)))])
  | _ => none
def S3 : List AV → Option AV
  | [.agg [.flt .f32 _, .flt .f32 _, .flt .f32 _, .flt .f32 _], .flt .f32 _] => some (.bool true)
  | _ => none
def S8 : List AV → Option AV
  | [.agg [.flt .f32 _, .flt .f32 _, .flt .f32 _, .flt .f32 _], .flt .f32 _, .flt .f32 _] => some (.bool true)
  | _ => none
theorem fin0c : fin (canon .f32 0) = true := by decide +kernel
def S109 : List AV → Option AV
  | [.flt .f64 x] => some (.flt .f64 (fsqrt x))
  | _ => none
def S108 : List AV → Option AV
  | [.flt .f64 x] => match tooBig x with
    | false => some (.flt .f32 (fnarrow x))
    | true => none
  | _ => none
def sqrtV (x : Nat) : Nat := fnarrow (fsqrt (fwiden x))
def S81 : List AV → Option AV
  | [.flt .f32 x] => some (.flt .f32 (sqrtV x))
  | _ => none
def S78 : List AV → Option AV
  | [.flt .f32 a, .flt .f32 b, .flt .f32 c] => some (.bool (above a && above b && above c))
  | _ => none
def flowV (a b c d : Nat) : Nat := fop .mul .f32 (roundV b) (sqrtV (fop .quo .f32 (fop .mul .f32 (fop .mul .f32 (K 1100805571) a) b) (fop .mul .f32 d c)))
def wetV (a b x : Nat) : Nat := fop .add .f32 a (fop .mul .f32 (fop .mul .f32 (K 1073741824) x) (sqrtV (fop .add .f32 (K 1065353216) (fop .mul .f32 b b))))
def weirE (b c : Nat) : Nat := fop .sub .f32 c b
def weirF (a b c : Nat) : Nat := fop .mul .f32 (fop .mul .f32 a (weirE b c)) (sqrtV (weirE b c))
def weirR (b c d : Nat) : Nat := fop .quo .f32 (fop .sub .f32 d b) (weirE b c)
def weirV (a b c d : Nat) : Nat := bif !fcmp .gtr .f32 (weirE b c) (K 0) then K 0 else bif !fcmp .gtr .f32 d b then weirF a b c else bif !fcmp .lss .f32 (weirR b c d) (K 1065353216) then K 0
  else fop .mul .f32 (weirF a b c) (sqrtV (fop .sub .f32 (K 1065353216) (fop .mul .f32 (weirR b c d) (weirR b c d))))
def S36 : List AV → Option AV
  | [.flt .f32 a, .flt .f32 b, .flt .f32 c, .flt .f32 d] => some (.tup [.flt .f32 (outV (above b && above c && above d && least a) (flowV a b c d)), .bool ((above b && above c && above d && least a) && fin (flowV a b c d))])
  | _ => none
def S97 : List AV → Option AV
  | [.ref [.flt .f32 a, .flt .f32 b, .flt .f32 _, .flt .f32 _] _, .flt .f32 x] => some (.flt .f32 (wetV a b x))
  | _ => none
def S54 : List AV → Option AV
  | [.agg [.flt .f32 a, .flt .f32 b, .flt .f32 c, .flt .f32 d], .flt .f32 x] => some (.tup [.flt .f32 (outV (canOk a b c d x) (wetV a b x)), .bool ((canOk a b c d x) && fin (wetV a b x))])
  | _ => none
def S96 : List AV → Option AV
  | [.flt .f32 a, .flt .f32 b, .flt .f32 c, .flt .f32 d] => some (.flt .f32 (weirV a b c d))
  | _ => none
def S52 : List AV → Option AV
  | [.flt .f32 a, .flt .f32 b, .flt .f32 c, .flt .f32 d] => some (.tup [.flt .f32 (outV (least a && fin b && fin c && fin d) (weirV a b c d)), .bool ((least a && fin b && fin c && fin d) && fin (weirV a b c d))])
  | _ => none
def S9 : List AV → Option AV
  | [.flt .f32 _, .flt .f32 _, .flt .f32 _, .flt .f32 _] => some (.bool true)
  | _ => none
def S16 : List AV → Option AV
  | [.agg [.flt .f32 _, .flt .f32 _, .flt .f32 _, .flt .f32 _], .flt .f32 _] => some (.bool true)
  | _ => none
def snowM (a c y z : Nat) : Nat := bif fcmp .gtr .f32 (fop .mul .f32 (fop .mul .f32 a y) z) c then c else fop .mul .f32 (fop .mul .f32 a y) z
def snowI (a c x y z : Nat) : Nat := bif fcmp .leq .f32 y (K 0) then fop .add .f32 c x else fop .sub .f32 c (snowM a c y z)
def snowV (a c d x y z : Nat) : Nat := bif fcmp .leq .f32 y (K 0) then d else fop .add .f32 d (fop .add .f32 (snowM a c y z) x)
def snowT (a b c d x y z : Nat) : Nat := fop .sub .f32 (snowV a c d x y z) (fop .mul .f32 b (snowI a c x y z))
def snowU (a b c d x y z : Nat) : Bool := fcmp .gtr .f32 (snowT a b c d x y z) (K 0)
def snowW (a b c d x y z : Nat) : Nat := bif snowU a b c d x y z then fop .mul .f32 b (snowI a c x y z) else snowV a c d x y z
def snowO (a b c d x y z : Nat) : Nat := bif snowU a b c d x y z then snowT a b c d x y z else K 0
def snowN (a b c d x y z : Nat) : Bool := snowOk a b (snowI a c x y z) (snowW a b c d x y z) && fin (snowO a b c d x y z)
def pickV (ok : Bool) (x : Nat) : Nat := bif ok then x else K 0
def snowG (a b c d x y z : Nat) : Bool := snowOk a b c d && least x && fin y && above z
theorem tup3 {a b c d e f : AV} (h1 : a = d) (h2 : b = e) (h3 : c = f) : AV.tup [a, b, c] = AV.tup [d, e, f] := by rw [h1, h2, h3]
theorem agg4 {a b c d p q r s : AV} (h1 : a = p) (h2 : b = q) (h3 : c = r) (h4 : d = s) : AV.agg [a, b, c, d] = AV.agg [p, q, r, s] := by rw [h1, h2, h3, h4]
def S90 : List AV → Option AV
  | [.agg [.flt .f32 a, .flt .f32 b, .flt .f32 c, .flt .f32 d], .flt .f32 x, .flt .f32 y, .flt .f32 z] => some (.tup [.agg [.flt .f32 (pickV (snowN a b c d x y z) a), .flt .f32 (pickV (snowN a b c d x y z) b), .flt .f32 (pickV (snowN a b c d x y z) (snowI a c x y z)), .flt .f32 (pickV (snowN a b c d x y z) (snowW a b c d x y z))], .flt .f32 (pickV (snowN a b c d x y z) (snowO a b c d x y z)), .bool (snowN a b c d x y z)])
  | _ => none
def S42 : List AV → Option AV
  | [.agg [.flt .f32 a, .flt .f32 b, .flt .f32 c, .flt .f32 d], .flt .f32 x, .flt .f32 y, .flt .f32 z] => some (.tup [.agg [.flt .f32 (pickV (snowG a b c d x y z && snowN a b c d x y z) a), .flt .f32 (pickV (snowG a b c d x y z && snowN a b c d x y z) b), .flt .f32 (pickV (snowG a b c d x y z && snowN a b c d x y z) (snowI a c x y z)), .flt .f32 (pickV (snowG a b c d x y z && snowN a b c d x y z) (snowW a b c d x y z))], .flt .f32 (pickV (snowG a b c d x y z && snowN a b c d x y z) (snowO a b c d x y z)), .bool (snowG a b c d x y z && snowN a b c d x y z)])
  | _ => none
def S45 : List AV → Option AV
  | [.agg [.flt .f32 a, .flt .f32 b, .flt .f32 c, .flt .f32 d], .agg [.flt .f32 p, .flt .f32 q, .flt .f32 r, .flt .f32 s]] => some (.bool (sameF (fwiden a) (fwiden p) && sameF (fwiden b) (fwiden q) && sameF (fwiden c) (fwiden r) && sameF (fwiden d) (fwiden s)))
  | _ => none
def S12 : List AV → Option AV
  | [.agg [.flt .f32 _, .flt .f32 _, .flt .f32 _, .flt .f32 _], .flt .f32 _, .flt .f32 _, .flt .f32 _] => some (.bool true)
  | _ => none
def gateE (b c d : Nat) : Nat := fop .sub .f32 c (fmaxA .f32 d (fop .mul .f32 (K 1056964608) b))
def gateV (a b c d : Nat) : Nat := bif !fcmp .gtr .f32 (gateE b c d) (K 0) then K 0 else fop .mul .f32 (fop .mul .f32 a b) (sqrtV (fop .mul .f32 (K 1100805571) (gateE b c d)))
def S92 : List AV → Option AV
  | [.flt .f32 a, .flt .f32 b, .flt .f32 c, .flt .f32 d] => some (.flt .f32 (gateV a b c d))
  | _ => none
def S46 : List AV → Option AV
  | [.flt .f32 a, .flt .f32 b, .flt .f32 c, .flt .f32 d] => some (.tup [.flt .f32 (outV (least a && least b && fin c && fin d) (gateV a b c d)), .bool ((least a && least b && fin c && fin d) && fin (gateV a b c d))])
  | _ => none
def S13 : List AV → Option AV
  | [.flt .f32 _, .flt .f32 _, .flt .f32 _, .flt .f32 _] => some (.bool true)
  | _ => none
def sameL : List Nat → List Nat → Bool
  | [], [] => true
  | x :: xs, y :: ys => sameF (fwiden x) (fwiden y) && sameL xs ys
  | _, _ => false
theorem sameL_self : ∀ xs : List Nat, sameL xs xs = true
  | [] => rfl
  | x :: xs => by unfold sameL; rw [sameF_self, sameL_self xs]; rfl
theorem sameL_len : ∀ {xs ys : List Nat}, xs.length ≠ ys.length → sameL xs ys = false
  | [], [], h => absurd rfl h
  | [], _ :: _, _ => rfl
  | _ :: _, [], _ => rfl
  | x :: xs, y :: ys, h => by
    unfold sameL
    rw [sameL_len (fun e => h (by simp [e]))]; simp
def rainOk (xs : List Nat) : Bool := decide ((xs.length : Int) ≤ 128) && allL xs
def dryS (y : Nat) : List Nat → Nat → Nat → Nat → Nat → Nat × Nat
  | [], _, _, st, best => (st, best)
  | x :: xs, i, here, st, best => bif fcmp .leq .f32 x y then (bif decide (best < here + 1) then dryS y xs (i + 1) (here + 1) (i - here) (here + 1) else dryS y xs (i + 1) (here + 1) st best) else dryS y xs (i + 1) 0 st best
def S29 : List AV → Option AV
  | [.sli 1 n cs _] => match flts cs with
    | some xs => if n = xs.length ∧ n ≤ 1048576 then some (.own 0 1 n (f32s xs)) else none
    | none => none
  | _ => none
def S71 : List AV → Option AV
  | [.sli 1 n cs _] => match flts cs with
    | some xs => if n = xs.length ∧ n ≤ 1048576 then some (.bool (rainOk xs)) else none
    | none => none
  | _ => none
def S31 : List AV → Option AV
  | [.sli 1 n cs _, .sli 1 n' ds _] => match flts cs, flts ds with
    | some xs, some ys => if n = xs.length ∧ n' = ys.length ∧ n ≤ 1048576 ∧ n' ≤ 1048576 then some (.bool (sameL xs ys)) else none
    | _, _ => none
  | _ => none
def S28 : List AV → Option AV
  | [.sli 1 n cs _, .flt .f32 y] => match flts cs with
    | some xs => if n = xs.length ∧ n ≤ 1048576 then some (.tup [.int .i64 ((bif rainOk xs then (dryS y xs 0 0 0 0).1 else 0 : Nat) : Int), .int .i64 ((bif rainOk xs then (dryS y xs 0 0 0 0).2 else 0 : Nat) : Int), .bool (rainOk xs)]) else none
    | none => none
  | _ => none
def S6 : List AV → Option AV
  | [.sli 1 n cs _, .flt .f32 _] => match flts cs with
    | some xs => if n = xs.length then some (.bool true) else none
    | none => none
  | _ => none
def critA (a b c d x : Nat) : Nat := outV (canOk a b c d x) (areaV a b x)
def critT (a b c d x : Nat) : Nat := outV (canOk a b c d x) (topV a b x)
def critOk (a b c d x : Nat) : Bool := (canOk a b c d x && fin (areaV a b x)) && (canOk a b c d x && fin (topV a b x))
def critUp (a b c d q x : Nat) : Bool := fcmp .gtr .f32 (fop .mul .f32 (K 1092416963) (fop .mul .f32 (fop .mul .f32 (critA a b c d x) (critA a b c d x)) (critA a b c d x))) (fop .mul .f32 (fop .mul .f32 q q) (critT a b c d x))
def midV (lo hi : Nat) : Nat := fop .mul .f32 (K 1056964608) (fop .add .f32 lo hi)
def crit (a b c d q : Nat) : Nat → Nat → Nat → Option (Nat × Nat)
  | 0, lo, hi => some (lo, hi)
  | n + 1, lo, hi => bif critOk a b c d (midV lo hi) then (bif critUp a b c d q (midV lo hi) then crit a b c d q n lo (midV lo hi) else crit a b c d q n (midV lo hi) hi) else none
def critL (o : Option (Nat × Nat)) : Nat := match o with
  | some z => z.1
  | none => K 0
def critH (o : Option (Nat × Nat)) : Nat := match o with
  | some z => z.2
  | none => K 0
def critB (o : Option (Nat × Nat)) : Bool := match o with
  | some _ => true
  | none => false
def crit0 (a b c d q : Nat) : Option (Nat × Nat) := bif sectOk a b c d && above q then crit a b c d q 40 (K 0) (K 1148846080) else none
def S101 : List AV → Option AV
  | [.flt .f32 x, .ref [.flt .f32 a, .flt .f32 b, .flt .f32 c, .flt .f32 d] _, .ref [.flt .f32 q] _] => some (.tup [.bool (critUp a b c d q x), .bool (critOk a b c d x)])
  | _ => none
def S100 : List AV → Option AV
  | [.flt .f32 lo, .flt .f32 hi, .fn f [.ref [.flt .f32 a, .flt .f32 b, .flt .f32 c, .flt .f32 d] _, .ref [.flt .f32 q] _]] => if f = 101 then some (.tup [.flt .f32 (critL (crit a b c d q 40 lo hi)), .flt .f32 (critH (crit a b c d q 40 lo hi)), .bool (critB (crit a b c d q 40 lo hi))]) else none
  | _ => none
def S99 : List AV → Option AV
  | [.ref [.flt .f32 a, .flt .f32 b, .flt .f32 c, .flt .f32 d] _, .flt .f32 q] => some (.tup [.flt .f32 (critH (crit a b c d q 40 (K 0) (K 1148846080))), .bool (critB (crit a b c d q 40 (K 0) (K 1148846080)))])
  | _ => none
def S56 : List AV → Option AV
  | [.agg [.flt .f32 a, .flt .f32 b, .flt .f32 c, .flt .f32 d], .flt .f32 q] => some (.tup [.flt .f32 (critH (crit0 a b c d q)), .bool (critB (crit0 a b c d q))])
  | _ => none
def S17 : List AV → Option AV
  | [.agg [.flt .f32 _, .flt .f32 _, .flt .f32 _, .flt .f32 _], .flt .f32 _] => some (.bool true)
  | _ => none
def env (f : FuncId) (args : List AV) : Option AV :=
  if f = 3 then S3 args else
  if f = 4 then S3 args else
  if f = 5 then S3 args else
  if f = 6 then S6 args else
  if f = 7 then S3 args else
  if f = 8 then S8 args else
  if f = 9 then S9 args else
  if f = 10 then S8 args else
  if f = 11 then S8 args else
  if f = 12 then S12 args else
  if f = 13 then S13 args else
  if f = 15 then S9 args else
  if f = 16 then S16 args else
  if f = 17 then S17 args else
  if f = 19 then S19 args else
  if f = 20 then S20 args else
  if f = 21 then S19 args else
  if f = 22 then S22 args else
  if f = 23 then S23 args else
  if f = 24 then S23 args else
  if f = 25 then S25 args else
  if f = 26 then S20 args else
  if f = 27 then S25 args else
  if f = 28 then S28 args else
  if f = 29 then S29 args else
  if f = 30 then S28 args else
  if f = 31 then S31 args else
  if f = 32 then S32 args else
  if f = 33 then S32 args else
  if f = 34 then S34 args else
  if f = 35 then S34 args else
  if f = 36 then S36 args else
  if f = 37 then S36 args else
  if f = 38 then S38 args else
  if f = 39 then S38 args else
  if f = 40 then S40 args else
  if f = 41 then S40 args else
  if f = 42 then S42 args else
  if f = 43 then S20 args else
  if f = 44 then S42 args else
  if f = 45 then S45 args else
  if f = 46 then S46 args else
  if f = 47 then S46 args else
  if f = 52 then S52 args else
  if f = 53 then S52 args else
  if f = 54 then S54 args else
  if f = 55 then S54 args else
  if f = 56 then S56 args else
  if f = 57 then S56 args else
  if f = 60 then S60 args else
  if f = 61 then S61 args else
  if f = 62 then S62 args else
  if f = 63 then S63 args else
  if f = 64 then S61 args else
  if f = 65 then S65 args else
  if f = 66 then S66 args else
  if f = 67 then S67 args else
  if f = 68 then S68 args else
  if f = 69 then S69 args else
  if f = 70 then S67 args else
  if f = 71 then S71 args else
  if f = 72 then S71 args else
  if f = 73 then S73 args else
  if f = 74 then S74 args else
  if f = 75 then S75 args else
  if f = 76 then S76 args else
  if f = 77 then S89 args else
  if f = 78 then S78 args else
  if f = 79 then S79 args else
  if f = 80 then S80 args else
  if f = 81 then S81 args else
  if f = 82 then S79 args else
  if f = 83 then S83 args else
  if f = 84 then S80 args else
  if f = 85 then S81 args else
  if f = 86 then S86 args else
  if f = 87 then S87 args else
  if f = 88 then S88 args else
  if f = 89 then S89 args else
  if f = 90 then S90 args else
  if f = 91 then S91 args else
  if f = 92 then S92 args else
  if f = 93 then S93 args else
  if f = 94 then S94 args else
  if f = 96 then S96 args else
  if f = 97 then S97 args else
  if f = 98 then S98 args else
  if f = 99 then S99 args else
  if f = 100 then S100 args else
  if f = 101 then S101 args else
  if f = 106 then S106 args else
  if f = 107 then S107 args else
  if f = 108 then S108 args else
  if f = 109 then S109 args else
  if f = 110 then S110 args else
  if f = 111 then S111 args else
  if f = 112 then S112 args else
  if f = 113 then S113 args else
  if f = 119 then S119 args else
  if f = 120 then S120 args else
  if f = 121 then S109 args else
  if f = 122 then S122 args else
  if f = 123 then S123 args else
  if f = 125 then S125 args else
  if f = 126 then S126 args else
  none
noncomputable def cx (N : Nat) (cs : List FuncId) : Cx := { P := Try.prog, N, env, cs }
theorem e3 (args : List AV) : env 3 args = S3 args := rfl
theorem e4 (args : List AV) : env 4 args = S3 args := rfl
theorem e5 (args : List AV) : env 5 args = S3 args := rfl
theorem e6 (args : List AV) : env 6 args = S6 args := rfl
theorem e7 (args : List AV) : env 7 args = S3 args := rfl
theorem e8 (args : List AV) : env 8 args = S8 args := rfl
theorem e9 (args : List AV) : env 9 args = S9 args := rfl
theorem e10 (args : List AV) : env 10 args = S8 args := rfl
theorem e11 (args : List AV) : env 11 args = S8 args := rfl
theorem e12 (args : List AV) : env 12 args = S12 args := rfl
theorem e13 (args : List AV) : env 13 args = S13 args := rfl
theorem e15 (args : List AV) : env 15 args = S9 args := rfl
theorem e16 (args : List AV) : env 16 args = S16 args := rfl
theorem e17 (args : List AV) : env 17 args = S17 args := rfl
theorem e19 (args : List AV) : env 19 args = S19 args := rfl
theorem e20 (args : List AV) : env 20 args = S20 args := rfl
theorem e21 (args : List AV) : env 21 args = S19 args := rfl
theorem e22 (args : List AV) : env 22 args = S22 args := rfl
theorem e23 (args : List AV) : env 23 args = S23 args := rfl
theorem e24 (args : List AV) : env 24 args = S23 args := rfl
theorem e25 (args : List AV) : env 25 args = S25 args := rfl
theorem e26 (args : List AV) : env 26 args = S20 args := rfl
theorem e27 (args : List AV) : env 27 args = S25 args := rfl
theorem e28 (args : List AV) : env 28 args = S28 args := rfl
theorem e29 (args : List AV) : env 29 args = S29 args := rfl
theorem e30 (args : List AV) : env 30 args = S28 args := rfl
theorem e31 (args : List AV) : env 31 args = S31 args := rfl
theorem e32 (args : List AV) : env 32 args = S32 args := rfl
theorem e33 (args : List AV) : env 33 args = S32 args := rfl
theorem e34 (args : List AV) : env 34 args = S34 args := rfl
theorem e35 (args : List AV) : env 35 args = S34 args := rfl
theorem e36 (args : List AV) : env 36 args = S36 args := rfl
theorem e37 (args : List AV) : env 37 args = S36 args := rfl
theorem e38 (args : List AV) : env 38 args = S38 args := rfl
theorem e39 (args : List AV) : env 39 args = S38 args := rfl
theorem e40 (args : List AV) : env 40 args = S40 args := rfl
theorem e41 (args : List AV) : env 41 args = S40 args := rfl
theorem e42 (args : List AV) : env 42 args = S42 args := rfl
theorem e43 (args : List AV) : env 43 args = S20 args := rfl
theorem e44 (args : List AV) : env 44 args = S42 args := rfl
theorem e45 (args : List AV) : env 45 args = S45 args := rfl
theorem e46 (args : List AV) : env 46 args = S46 args := rfl
theorem e47 (args : List AV) : env 47 args = S46 args := rfl
theorem e52 (args : List AV) : env 52 args = S52 args := rfl
theorem e53 (args : List AV) : env 53 args = S52 args := rfl
theorem e54 (args : List AV) : env 54 args = S54 args := rfl
theorem e55 (args : List AV) : env 55 args = S54 args := rfl
theorem e56 (args : List AV) : env 56 args = S56 args := rfl
theorem e57 (args : List AV) : env 57 args = S56 args := rfl
theorem e60 (args : List AV) : env 60 args = S60 args := rfl
theorem e61 (args : List AV) : env 61 args = S61 args := rfl
theorem e62 (args : List AV) : env 62 args = S62 args := rfl
theorem e63 (args : List AV) : env 63 args = S63 args := rfl
theorem e64 (args : List AV) : env 64 args = S61 args := rfl
theorem e65 (args : List AV) : env 65 args = S65 args := rfl
theorem e66 (args : List AV) : env 66 args = S66 args := rfl
theorem e67 (args : List AV) : env 67 args = S67 args := rfl
theorem e68 (args : List AV) : env 68 args = S68 args := rfl
theorem e69 (args : List AV) : env 69 args = S69 args := rfl
theorem e70 (args : List AV) : env 70 args = S67 args := rfl
theorem e71 (args : List AV) : env 71 args = S71 args := rfl
theorem e72 (args : List AV) : env 72 args = S71 args := rfl
theorem e73 (args : List AV) : env 73 args = S73 args := rfl
theorem e74 (args : List AV) : env 74 args = S74 args := rfl
theorem e75 (args : List AV) : env 75 args = S75 args := rfl
theorem e76 (args : List AV) : env 76 args = S76 args := rfl
theorem e77 (args : List AV) : env 77 args = S89 args := rfl
theorem e78 (args : List AV) : env 78 args = S78 args := rfl
theorem e79 (args : List AV) : env 79 args = S79 args := rfl
theorem e80 (args : List AV) : env 80 args = S80 args := rfl
theorem e81 (args : List AV) : env 81 args = S81 args := rfl
theorem e82 (args : List AV) : env 82 args = S79 args := rfl
theorem e83 (args : List AV) : env 83 args = S83 args := rfl
theorem e84 (args : List AV) : env 84 args = S80 args := rfl
theorem e85 (args : List AV) : env 85 args = S81 args := rfl
theorem e86 (args : List AV) : env 86 args = S86 args := rfl
theorem e87 (args : List AV) : env 87 args = S87 args := rfl
theorem e88 (args : List AV) : env 88 args = S88 args := rfl
theorem e89 (args : List AV) : env 89 args = S89 args := rfl
theorem e90 (args : List AV) : env 90 args = S90 args := rfl
theorem e91 (args : List AV) : env 91 args = S91 args := rfl
theorem e92 (args : List AV) : env 92 args = S92 args := rfl
theorem e93 (args : List AV) : env 93 args = S93 args := rfl
theorem e94 (args : List AV) : env 94 args = S94 args := rfl
theorem e96 (args : List AV) : env 96 args = S96 args := rfl
theorem e97 (args : List AV) : env 97 args = S97 args := rfl
theorem e98 (args : List AV) : env 98 args = S98 args := rfl
theorem e99 (args : List AV) : env 99 args = S99 args := rfl
theorem e100 (args : List AV) : env 100 args = S100 args := rfl
theorem e101 (args : List AV) : env 101 args = S101 args := rfl
theorem e106 (args : List AV) : env 106 args = S106 args := rfl
theorem e107 (args : List AV) : env 107 args = S107 args := rfl
theorem e108 (args : List AV) : env 108 args = S108 args := rfl
theorem e109 (args : List AV) : env 109 args = S109 args := rfl
theorem e110 (args : List AV) : env 110 args = S110 args := rfl
theorem e111 (args : List AV) : env 111 args = S111 args := rfl
theorem e112 (args : List AV) : env 112 args = S112 args := rfl
theorem e113 (args : List AV) : env 113 args = S113 args := rfl
theorem e119 (args : List AV) : env 119 args = S119 args := rfl
theorem e120 (args : List AV) : env 120 args = S120 args := rfl
theorem e121 (args : List AV) : env 121 args = S109 args := rfl
theorem e122 (args : List AV) : env 122 args = S122 args := rfl
theorem e123 (args : List AV) : env 123 args = S123 args := rfl
theorem e125 (args : List AV) : env 125 args = S125 args := rfl
theorem e126 (args : List AV) : env 126 args = S126 args := rfl
theorem g126 : Ax.Good Try.prog env 126 := by
  intro args r h
  rw [e126] at h
  unfold S126 at h
  split at h
  · rename_i x
    cases h
    refine Does.ext Try.func126 rfl (by kernel_rfl) rfl (e := Extern.MathFloatBits.float64bits) rfl (fun Tg w m vs hv => ?_) rfl
    simp only [VRs, VR] at hv
    obtain ⟨v, vs', rfl, ⟨b, rfl, hb⟩, rfl⟩ := hv
    exact ⟨_, rfl, by simp only [RV]; exact ⟨b, rfl, hb⟩⟩
  · cases h
theorem g123 : Ax.Good Try.prog env 123 := by
  intro args r h
  rw [e123] at h
  unfold S123 at h
  split at h
  · rename_i x
    cases h
    refine Does.ext Try.func123 rfl (by kernel_rfl) rfl (e := Extern.MathFloatBits.float64frombits) rfl (fun Tg w m vs hv => ?_) rfl
    simp only [VRs, VR] at hv
    obtain ⟨v, vs', rfl, ⟨b, rfl, hb⟩, rfl⟩ := hv
    exact ⟨_, rfl, by simp only [RV]; exact ⟨b, rfl, hb⟩⟩
  · cases h
theorem g67 : Ax.Good Try.prog env 67 := by
  intro args r h
  rw [e67] at h
  unfold S67 at h
  split at h
  ·
    cases h
    refine Does.of_awp (X := cx 7 []) (fun f hf => by cases hf) Try.func67 rfl (by kernel_rfl) rfl (by simp [cx]) [] (by simp) ?_
    conv => whnf
    rfl
  · cases h
theorem g125 : Ax.Good Try.prog env 125 := by
  intro args r h
  rw [e125] at h
  unfold S125 at h
  split at h
  ·
    cases h
    refine Does.of_awp (X := cx 7 [123, 126]) (by simpa [cx] using ⟨g123, g126⟩) Try.func125 rfl (by kernel_rfl) rfl (by simp [cx]) [] (by simp) ?_
    conv => whnf
    rfl
  · cases h
theorem g119 : Ax.Good Try.prog env 119 := by
  intro args r h
  rw [e119] at h
  unfold S119 at h
  split at h
  ·
    cases h
    refine Does.of_awp (X := cx 6 []) (fun f hf => by cases hf) Try.func119 rfl (by kernel_rfl) rfl (by simp [cx]) [] (by simp) ?_
    conv => whnf
    rfl
  · cases h
theorem g120 : Ax.Good Try.prog env 120 := by
  intro args r h
  rw [e120] at h
  unfold S120 at h
  split at h
  ·
    cases h
    refine Does.of_awp (X := cx 15 [125]) (by simpa [cx] using g125) Try.func120 rfl (by kernel_rfl) rfl (by simp [cx]) [] (by simp) ?_
    conv => whnf
    rfl
  · cases h
theorem g107 : Ax.Good Try.prog env 107 := by
  intro args r h
  rw [e107] at h
  unfold S107 at h
  split at h
  ·
    cases h
    refine Does.of_awp (X := cx 11 [119, 120]) (by simpa [cx] using ⟨g119, g120⟩) Try.func107 rfl (by kernel_rfl) rfl (by simp [cx]) [] (by simp) ?_
    conv => whnf
    repeat' (first | (refine br_intro (fun h => ?_) (fun h => ?_) <;> (conv => whnf)) | (refine ⟨⟨by kernel_rfl, by kernel_rfl⟩, ?_⟩; conv => whnf))
    all_goals (conv => lhs; whnf)
    all_goals (first | rfl | ( simp_all))
  · cases h
theorem g70 : Ax.Good Try.prog env 70 := by
  intro args r h
  rw [e70] at h
  unfold S67 at h
  split at h
  · rename_i x
    cases h
    refine Does.of_awp (X := cx 6 [107]) (by simpa [cx] using g107) Try.func70 rfl (by kernel_rfl) rfl (by simp [cx]) [] (by simp) ?_
    conv => whnf
    conv => lhs; whnf
    exact congrArg AV.bool (finite_widen x)
  · cases h
theorem g79 : Ax.Good Try.prog env 79 := by
  intro args r h
  rw [e79] at h
  unfold S79 at h
  split at h
  ·
    cases h
    refine Does.of_awp (X := cx 9 [67]) (by simpa [cx] using g67) Try.func79 rfl (by kernel_rfl) rfl (by simp [cx]) [] (by simp) ?_
    conv => whnf
    repeat' (first | (refine br_intro (fun h => ?_) (fun h => ?_) <;> (conv => whnf)) | (refine ⟨⟨by kernel_rfl, by kernel_rfl⟩, ?_⟩; conv => whnf))
    all_goals (conv => lhs; whnf)
    all_goals (first | rfl | ( simp_all [least, K]))
  · cases h
theorem g82 : Ax.Good Try.prog env 82 := by
  intro args r h
  rw [e82] at h
  unfold S79 at h
  split at h
  ·
    cases h
    refine Does.of_awp (X := cx 9 [70]) (by simpa [cx] using g70) Try.func82 rfl (by kernel_rfl) rfl (by simp [cx]) [] (by simp) ?_
    conv => whnf
    repeat' (first | (refine br_intro (fun h => ?_) (fun h => ?_) <;> (conv => whnf)) | (refine ⟨⟨by kernel_rfl, by kernel_rfl⟩, ?_⟩; conv => whnf))
    all_goals (conv => lhs; whnf)
    all_goals (first | rfl | ( simp_all [least, K]))
  · cases h
theorem g89 : Ax.Good Try.prog env 89 := by
  intro args r h
  rw [e89] at h
  unfold S89 at h
  split at h
  ·
    cases h
    refine Does.of_awp (X := cx 9 [67]) (by simpa [cx] using g67) Try.func89 rfl (by kernel_rfl) rfl (by simp [cx]) [] (by simp) ?_
    conv => whnf
    repeat' (first | (refine br_intro (fun h => ?_) (fun h => ?_) <;> (conv => whnf)) | (refine ⟨⟨by kernel_rfl, by kernel_rfl⟩, ?_⟩; conv => whnf))
    all_goals (conv => lhs; whnf)
    all_goals (first | rfl | ( simp_all [above, K]))
  · cases h
theorem g77 : Ax.Good Try.prog env 77 := by
  intro args r h
  rw [e77] at h
  unfold S89 at h
  split at h
  ·
    cases h
    refine Does.of_awp (X := cx 9 [70]) (by simpa [cx] using g70) Try.func77 rfl (by kernel_rfl) rfl (by simp [cx]) [] (by simp) ?_
    conv => whnf
    repeat' (first | (refine br_intro (fun h => ?_) (fun h => ?_) <;> (conv => whnf)) | (refine ⟨⟨by kernel_rfl, by kernel_rfl⟩, ?_⟩; conv => whnf))
    all_goals (conv => lhs; whnf)
    all_goals (first | rfl | ( simp_all [above, K]))
  · cases h
theorem g110 : Ax.Good Try.prog env 110 := by
  intro args r h
  rw [e110] at h
  unfold S110 at h
  split at h
  ·
    cases h
    refine Does.of_awp (X := cx 9 []) (fun f hf => by cases hf) Try.func110 rfl (by kernel_rfl) rfl (by simp [cx]) [] (by simp) ?_
    conv => whnf
    repeat' (first | (refine br_intro (fun h => ?_) (fun h => ?_) <;> (conv => whnf)) | (refine ⟨⟨by kernel_rfl, by kernel_rfl⟩, ?_⟩; conv => whnf))
    all_goals (conv => lhs; whnf)
    all_goals (first | rfl | ( simp_all [share, K]))
  · cases h
theorem g112 : Ax.Good Try.prog env 112 := by
  intro args r h
  rw [e112] at h
  unfold S112 at h
  split at h
  ·
    cases h
    refine Does.of_awp (X := cx 6 [82]) (by simpa [cx] using g82) Try.func112 rfl (by kernel_rfl) rfl (by simp [cx]) [] (by simp) ?_
    conv => whnf
    rfl
  · cases h
theorem g113 : Ax.Good Try.prog env 113 := by
  intro args r h
  rw [e113] at h
  unfold S113 at h
  split at h
  ·
    cases h
    refine Does.of_awp (X := cx 6 [70]) (by simpa [cx] using g70) Try.func113 rfl (by kernel_rfl) rfl (by simp [cx]) [] (by simp) ?_
    conv => whnf
    rfl
  · cases h
theorem g61 : Ax.Good Try.prog env 61 := by
  intro args r h
  rw [e61] at h
  unfold S61 at h
  split at h
  ·
    cases h
    refine Does.of_awp (X := cx 8 [67]) (by simpa [cx] using g67) Try.func61 rfl (by kernel_rfl) rfl (by simp [cx]) [] (by simp) ?_
    conv => whnf
    repeat' (first | (refine br_intro (fun h => ?_) (fun h => ?_) <;> (conv => whnf)) | (refine ⟨⟨by kernel_rfl, by kernel_rfl⟩, ?_⟩; conv => whnf))
    all_goals (refine tup2 ?_ ?_)
    all_goals (conv => lhs; whnf)
    all_goals (first | rfl | ( simp_all [numV, K]))
  · cases h
theorem g64 : Ax.Good Try.prog env 64 := by
  intro args r h
  rw [e64] at h
  unfold S61 at h
  split at h
  ·
    cases h
    refine Does.of_awp (X := cx 8 [70]) (by simpa [cx] using g70) Try.func64 rfl (by kernel_rfl) rfl (by simp [cx]) [] (by simp) ?_
    conv => whnf
    repeat' (first | (refine br_intro (fun h => ?_) (fun h => ?_) <;> (conv => whnf)) | (refine ⟨⟨by kernel_rfl, by kernel_rfl⟩, ?_⟩; conv => whnf))
    all_goals (refine tup2 ?_ ?_)
    all_goals (conv => lhs; whnf)
    all_goals (first | rfl | ( simp_all [numV, K]))
  · cases h
theorem g80 : Ax.Good Try.prog env 80 := by
  intro args r h
  rw [e80] at h
  unfold S80 at h
  split at h
  ·
    cases h
    refine Does.of_awp (X := cx 7 []) (fun f hf => by cases hf) Try.func80 rfl (by kernel_rfl) rfl (by simp [cx]) [] (by simp) ?_
    conv => whnf
    rfl
  · cases h
theorem g84 : Ax.Good Try.prog env 84 := by
  intro args r h
  rw [e84] at h
  unfold S80 at h
  split at h
  ·
    cases h
    refine Does.of_awp (X := cx 7 []) (fun f hf => by cases hf) Try.func84 rfl (by kernel_rfl) rfl (by simp [cx]) [] (by simp) ?_
    conv => whnf
    rfl
  · cases h
theorem g22 : Ax.Good Try.prog env 22 := by
  intro args r h
  rw [e22] at h
  unfold S22 at h
  split at h
  ·
    cases h
    refine Does.of_awp (X := cx 37 []) (fun f hf => by cases hf) Try.func22 rfl (by kernel_rfl) rfl (by simp [cx]) [] (by simp) ?_
    conv => whnf
    repeat' (first | (refine br_intro (fun h => ?_) (fun h => ?_) <;> (conv => whnf)) | (refine ⟨⟨by kernel_rfl, by kernel_rfl⟩, ?_⟩; conv => whnf))
    all_goals (conv => lhs; whnf)
    all_goals (first | rfl | ( simp_all [sameF]))
  · cases h
theorem g122 : Ax.Good Try.prog env 122 := by
  intro args r h
  rw [e122] at h
  unfold S122 at h
  split at h
  · rename_i n cs tg f
    split at h
    · rename_i xs hxs
      have := flts_eq hxs
      subst this
      split at h
      · rename_i hn
        obtain ⟨rfl, hn⟩ := hn
        split at h
        · rename_i hf
          subst hf
          cases h
          refine Does.of_awp (X := cx 19 [112]) (by simpa [cx] using g112) Try.func122 rfl (by kernel_rfl) rfl (by simp [cx]) [] (by simp) ?_
          conv => whnf
          refine ⟨fun fr L => ∃ i ys, xs.drop i = ys ∧ i + ys.length = xs.length ∧ firstP least xs 0 = firstP least ys i ∧ L = L0 ∧ KN [(0, .sli 1 xs.length (f32s xs) tg), (1, .fn 112 []), (7, .int .i64 xs.length), (8, .int .i64 i)] fr,
            mu 8 xs.length, ⟨0, xs, rfl, by simp, rfl, rfl, rfl, rfl, rfl, rfl, trivial⟩, ?_⟩
          rintro fr L ⟨i, ys, hd, hl, hb, rfl, hk⟩
          rw [← kn_eq _ _ hk]
          conv => whnf
          refine br_intro (fun h => ?_) (fun h => ?_) <;> (conv => whnf)
          · have hlt : i < xs.length := by simpa using h
            cases ys with
            | nil => simp at hl; omega
            | cons y ys =>
            refine ⟨rfl, ⟨by omega, by omega⟩, ?_⟩
            rw [drop_f32s hd]
            conv => whnf
            refine br_intro (fun h => ?_) (fun h => ?_) <;> (conv => whnf)
            · conv => lhs; whnf
              rw [hb, firstP]; simp at h; simp [h]
            · refine ⟨⟨i + 1, ys, ?_, ?_, ?_, rfl, rfl, rfl, rfl, ?_, trivial⟩, ?_⟩
              · rw [← List.drop_drop, hd]; rfl
              · simp at hl; omega
              · rw [hb, firstP]; simp at h; simp [h]
              · exact congrArg (AV.int _) (i64_next (by omega))
              · show xs.length - (IntKind.i64.wrap ((i : Int) + 1)).toNat < xs.length - ((i : Int)).toNat
                rw [i64_next (by omega)]; omega
          · cases ys with
            | cons y ys => simp at hl; simp at h; omega
            | nil =>
            conv => lhs; whnf
            rw [hb]; rfl
        · split at h
          · rename_i hf
            subst hf
            cases h
            refine Does.of_awp (X := cx 19 [113]) (by simpa [cx] using g113) Try.func122 rfl (by kernel_rfl) rfl (by simp [cx]) [] (by simp) ?_
            conv => whnf
            refine ⟨fun fr L => ∃ i ys, xs.drop i = ys ∧ i + ys.length = xs.length ∧ firstP fin xs 0 = firstP fin ys i ∧ L = L0 ∧ KN [(0, .sli 1 xs.length (f32s xs) tg), (1, .fn 113 []), (7, .int .i64 xs.length), (8, .int .i64 i)] fr,
              mu 8 xs.length, ⟨0, xs, rfl, by simp, rfl, rfl, rfl, rfl, rfl, rfl, trivial⟩, ?_⟩
            rintro fr L ⟨i, ys, hd, hl, hb, rfl, hk⟩
            rw [← kn_eq _ _ hk]
            conv => whnf
            refine br_intro (fun h => ?_) (fun h => ?_) <;> (conv => whnf)
            · have hlt : i < xs.length := by simpa using h
              cases ys with
              | nil => simp at hl; omega
              | cons y ys =>
              refine ⟨rfl, ⟨by omega, by omega⟩, ?_⟩
              rw [drop_f32s hd]
              conv => whnf
              refine br_intro (fun h => ?_) (fun h => ?_) <;> (conv => whnf)
              · conv => lhs; whnf
                rw [hb, firstP]; simp at h; simp [h]
              · refine ⟨⟨i + 1, ys, ?_, ?_, ?_, rfl, rfl, rfl, rfl, ?_, trivial⟩, ?_⟩
                · rw [← List.drop_drop, hd]; rfl
                · simp at hl; omega
                · rw [hb, firstP]; simp at h; simp [h]
                · exact congrArg (AV.int _) (i64_next (by omega))
                · show xs.length - (IntKind.i64.wrap ((i : Int) + 1)).toNat < xs.length - ((i : Int)).toNat
                  rw [i64_next (by omega)]; omega
            · cases ys with
              | cons y ys => simp at hl; simp at h; omega
              | nil =>
              conv => lhs; whnf
              rw [hb]; rfl
          · cases h
      · cases h
    · cases h
  · cases h
theorem g111 : Ax.Good Try.prog env 111 := by
  intro args r h
  rw [e111] at h
  unfold S111 at h
  split at h
  · rename_i n cs tg f
    split at h
    · rename_i xs hxs
      have := flts_eq hxs
      subst this
      split at h
      · rename_i hn
        obtain ⟨rfl, hn⟩ := hn
        split at h
        · rename_i hf
          subst hf
          cases h
          refine Does.of_awp (X := cx 9 [122]) (by simpa [cx] using g122) Try.func111 rfl (by kernel_rfl) rfl (by simp [cx]) [] (by simp) ?_
          conv => whnf
          have e : env 122 [.sli 1 xs.length (f32s xs) tg, .fn 112 []] = some (.int .i64 (firstP least xs 0)) := by
            show (match flts (f32s xs) with | some ys => if xs.length = ys.length ∧ xs.length < 2 ^ 40 then (if (112 : Nat) = 112 then some (AV.int .i64 (firstP least ys 0)) else if (112 : Nat) = 113 then some (AV.int .i64 (firstP fin ys 0)) else none) else none | none => none) = _
            rw [flts_f32s]
            show (if xs.length = xs.length ∧ xs.length < 2 ^ 40 then _ else none) = _
            rw [if_pos ⟨rfl, hn⟩]; rfl
          generalize hz : Cx.env _ 122 _ = z
          have hz' := hz.symm.trans e
          subst hz'
          conv => whnf
          conv => lhs; whnf
          exact congrArg AV.bool (firstL_neg xs 0)
        · split at h
          · rename_i hf
            subst hf
            cases h
            refine Does.of_awp (X := cx 9 [122]) (by simpa [cx] using g122) Try.func111 rfl (by kernel_rfl) rfl (by simp [cx]) [] (by simp) ?_
            conv => whnf
            have e : env 122 [.sli 1 xs.length (f32s xs) tg, .fn 113 []] = some (.int .i64 (firstP fin xs 0)) := by
              show (match flts (f32s xs) with | some ys => if xs.length = ys.length ∧ xs.length < 2 ^ 40 then (if (113 : Nat) = 112 then some (AV.int .i64 (firstP least ys 0)) else if (113 : Nat) = 113 then some (AV.int .i64 (firstP fin ys 0)) else none) else none | none => none) = _
              rw [flts_f32s]
              show (if xs.length = xs.length ∧ xs.length < 2 ^ 40 then _ else none) = _
              rw [if_pos ⟨rfl, hn⟩]; rfl
            generalize hz : Cx.env _ 122 _ = z
            have hz' := hz.symm.trans e
            subst hz'
            conv => whnf
            conv => lhs; whnf
            exact congrArg AV.bool (firstF_neg xs 0)
          · cases h
      · cases h
    · cases h
  · cases h
theorem g93 : Ax.Good Try.prog env 93 := by
  intro args r h
  rw [e93] at h
  unfold S93 at h
  split at h
  · rename_i n cs tg
    split at h
    · rename_i xs hxs
      have := flts_eq hxs
      subst this
      split at h
      · rename_i hn
        obtain ⟨rfl, hn⟩ := hn
        cases h
        refine Does.of_awp (X := cx 6 [111]) (by simpa [cx] using g111) Try.func93 rfl (by kernel_rfl) rfl (by simp [cx]) [] (by simp) ?_
        conv => whnf
        have e : env 111 [.sli 1 xs.length (f32s xs) tg, .fn 112 []] = some (.bool (!allL xs)) := by
          show (match flts (f32s xs) with | some ys => if xs.length = ys.length ∧ xs.length < 2 ^ 40 then (if (112 : Nat) = 112 then some (AV.bool (!allL ys)) else if (112 : Nat) = 113 then some (AV.bool (!allF ys)) else none) else none | none => none) = _
          rw [flts_f32s]
          show (if xs.length = xs.length ∧ xs.length < 2 ^ 40 then _ else none) = _
          rw [if_pos ⟨rfl, hn⟩]; rfl
        generalize hz : Cx.env _ 111 _ = z
        have hz' := hz.symm.trans e
        subst hz'
        conv => whnf
        conv => lhs; whnf
        simp
      · cases h
    · cases h
  · cases h
theorem g94 : Ax.Good Try.prog env 94 := by
  intro args r h
  rw [e94] at h
  unfold S94 at h
  split at h
  · rename_i n cs tg
    split at h
    · rename_i xs hxs
      have := flts_eq hxs
      subst this
      split at h
      · rename_i hn
        obtain ⟨rfl, hn⟩ := hn
        cases h
        refine Does.of_awp (X := cx 6 [111]) (by simpa [cx] using g111) Try.func94 rfl (by kernel_rfl) rfl (by simp [cx]) [] (by simp) ?_
        conv => whnf
        have e : env 111 [.sli 1 xs.length (f32s xs) tg, .fn 113 []] = some (.bool (!allF xs)) := by
          show (match flts (f32s xs) with | some ys => if xs.length = ys.length ∧ xs.length < 2 ^ 40 then (if (113 : Nat) = 112 then some (AV.bool (!allL ys)) else if (113 : Nat) = 113 then some (AV.bool (!allF ys)) else none) else none | none => none) = _
          rw [flts_f32s]
          show (if xs.length = xs.length ∧ xs.length < 2 ^ 40 then _ else none) = _
          rw [if_pos ⟨rfl, hn⟩]; rfl
        generalize hz : Cx.env _ 111 _ = z
        have hz' := hz.symm.trans e
        subst hz'
        conv => whnf
        conv => lhs; whnf
        simp
      · cases h
    · cases h
  · cases h
theorem g83 : Ax.Good Try.prog env 83 := by
  intro args r h
  rw [e83] at h
  unfold S83 at h
  split at h
  · rename_i n cs tg
    split at h
    · rename_i xs hxs
      have := flts_eq hxs
      subst this
      split at h
      · rename_i hn
        obtain ⟨rfl, hn⟩ := hn
        cases h
        refine Does.of_awp (X := cx 15 [77]) (by simpa [cx] using g77) Try.func83 rfl (by kernel_rfl) rfl (by simp [cx]) [] (by simp) ?_
        conv => whnf
        refine ⟨fun fr L => ∃ i ys, xs.drop i = ys ∧ i + ys.length = xs.length ∧ allA xs = allA ys ∧ L = L0 ∧ KN [(5, .sli 1 xs.length (f32s xs) tg), (6, .int .i64 xs.length), (7, .int .i64 i)] fr,
          mu 7 xs.length, ⟨0, xs, rfl, by simp, rfl, rfl, rfl, rfl, rfl, trivial⟩, ?_⟩
        rintro fr L ⟨i, ys, hd, hl, hb, rfl, hk⟩
        rw [← kn_eq _ _ hk]
        conv => whnf
        refine br_intro (fun h => ?_) (fun h => ?_) <;> (conv => whnf)
        · have hlt : i < xs.length := by simpa using h
          cases ys with
          | nil => simp at hl; omega
          | cons y ys =>
          refine ⟨rfl, ⟨by omega, by omega⟩, ?_⟩
          rw [drop_f32s hd]
          conv => whnf
          refine br_intro (fun h => ?_) (fun h => ?_) <;> (conv => whnf)
          · conv => lhs; whnf
            rw [hb, allA]; simp at h; simp [h]
          · refine ⟨⟨i + 1, ys, ?_, ?_, ?_, rfl, rfl, rfl, ?_, trivial⟩, ?_⟩
            · rw [← List.drop_drop, hd]; rfl
            · simp at hl; omega
            · rw [hb, allA]; simp at h; simp [h]
            · exact congrArg (AV.int _) (i64_next (by omega))
            · show xs.length - (IntKind.i64.wrap ((i : Int) + 1)).toNat < xs.length - ((i : Int)).toNat
              rw [i64_next (by omega)]; omega
        · cases ys with
          | cons y ys => simp at hl; simp at h; omega
          | nil =>
          conv => lhs; whnf
          rw [hb]; rfl
      · cases h
    · cases h
  · cases h
theorem g20 : Ax.Good Try.prog env 20 := by
  intro args r h
  rw [e20] at h
  unfold S20 at h
  split at h
  ·
    cases h
    refine Does.of_awp (X := cx 17 []) (fun f hf => by cases hf) Try.func20 rfl (by kernel_rfl) rfl (by simp [cx]) [] (by simp) ?_
    conv => whnf
    rfl
  · cases h
theorem g26 : Ax.Good Try.prog env 26 := by
  intro args r h
  rw [e26] at h
  unfold S20 at h
  split at h
  ·
    cases h
    refine Does.of_awp (X := cx 17 []) (fun f hf => by cases hf) Try.func26 rfl (by kernel_rfl) rfl (by simp [cx]) [] (by simp) ?_
    conv => whnf
    rfl
  · cases h
theorem g43 : Ax.Good Try.prog env 43 := by
  intro args r h
  rw [e43] at h
  unfold S20 at h
  split at h
  ·
    cases h
    refine Does.of_awp (X := cx 17 []) (fun f hf => by cases hf) Try.func43 rfl (by kernel_rfl) rfl (by simp [cx]) [] (by simp) ?_
    conv => whnf
    rfl
  · cases h
theorem g98 : Ax.Good Try.prog env 98 := by
  intro args r h
  rw [e98] at h
  unfold S98 at h
  split at h
  ·
    cases h
    refine Does.of_awp (X := cx 43 [79, 89]) (by simpa [cx] using ⟨g79, g89⟩) Try.func98 rfl (by kernel_rfl) rfl (by simp [cx]) [] (by simp) ?_
    conv => whnf
    repeat' (first | (refine br_intro (fun h => ?_) (fun h => ?_) <;> (conv => whnf)) | (refine ⟨⟨by kernel_rfl, by kernel_rfl⟩, ?_⟩; conv => whnf))
    all_goals (conv => lhs; whnf)
    all_goals (first | rfl | ( simp_all [sectOk, K]))
  · cases h
theorem g66 : Ax.Good Try.prog env 66 := by
  intro args r h
  rw [e66] at h
  unfold S66 at h
  split at h
  ·
    cases h
    refine Does.of_awp (X := cx 36 [79, 89]) (by simpa [cx] using ⟨g79, g89⟩) Try.func66 rfl (by kernel_rfl) rfl (by simp [cx]) [] (by simp) ?_
    conv => whnf
    repeat' (first | (refine br_intro (fun h => ?_) (fun h => ?_) <;> (conv => whnf)) | (refine ⟨⟨by kernel_rfl, by kernel_rfl⟩, ?_⟩; conv => whnf))
    all_goals (conv => lhs; whnf)
    all_goals (first | rfl | ( simp_all [stormOk, K]))
  · cases h
theorem g88 : Ax.Good Try.prog env 88 := by
  intro args r h
  rw [e88] at h
  unfold S88 at h
  split at h
  ·
    cases h
    refine Does.of_awp (X := cx 29 [79, 110]) (by simpa [cx] using ⟨g79, g110⟩) Try.func88 rfl (by kernel_rfl) rfl (by simp [cx]) [] (by simp) ?_
    conv => whnf
    repeat' (first | (refine br_intro (fun h => ?_) (fun h => ?_) <;> (conv => whnf)) | (refine ⟨⟨by kernel_rfl, by kernel_rfl⟩, ?_⟩; conv => whnf))
    all_goals (conv => lhs; whnf)
    all_goals (first | rfl | ( simp_all [snowOk]))
  · cases h
theorem g106 : Ax.Good Try.prog env 106 := by
  intro args r h
  rw [e106] at h
  unfold S106 at h
  split at h
  · rename_i a b c d
    cases h
    refine Does.of_awp (X := cx 27 [83, 93]) (by simpa [cx] using ⟨g83, g93⟩) Try.func106 rfl (by kernel_rfl) rfl (by simp [cx]) [] (by simp) ?_
    conv => whnf
    repeat' (first | (refine br_intro (fun h => ?_) (fun h => ?_) <;> (conv => whnf)) | (refine ⟨⟨by kernel_rfl, by kernel_rfl⟩, ?_⟩; conv => whnf))
    all_goals (conv => lhs; whnf)
    all_goals (first | rfl | ( simp_all [sectOk, allL, allA, K]))
  · cases h
theorem g69 : Ax.Good Try.prog env 69 := by
  intro args r h
  rw [e69] at h
  unfold S69 at h
  split at h
  · rename_i a b c d
    cases h
    refine Does.of_awp (X := cx 24 [77, 93]) (by simpa [cx] using ⟨g77, g93⟩) Try.func69 rfl (by kernel_rfl) rfl (by simp [cx]) [] (by simp) ?_
    conv => whnf
    repeat' (first | (refine br_intro (fun h => ?_) (fun h => ?_) <;> (conv => whnf)) | (refine ⟨⟨by kernel_rfl, by kernel_rfl⟩, ?_⟩; conv => whnf))
    all_goals (conv => lhs; whnf)
    all_goals (first | rfl | ( simp_all [stormOk, allL, K]))
  · cases h
theorem g91 : Ax.Good Try.prog env 91 := by
  intro args r h
  rw [e91] at h
  unfold S91 at h
  split at h
  · rename_i a b c d
    cases h
    refine Does.of_awp (X := cx 21 [93]) (by simpa [cx] using g93) Try.func91 rfl (by kernel_rfl) rfl (by simp [cx]) [] (by simp) ?_
    conv => whnf
    repeat' (first | (refine br_intro (fun h => ?_) (fun h => ?_) <;> (conv => whnf)) | (refine ⟨⟨by kernel_rfl, by kernel_rfl⟩, ?_⟩; conv => whnf))
    all_goals (conv => lhs; whnf)
    all_goals (refine congrArg AV.bool ?_)
    all_goals (cases hleasta : least a <;> cases hleastc : least c <;> cases hleastd : least d <;> simp_all [snowOk, allL, share, K])
  · cases h
theorem g60 : Ax.Good Try.prog env 60 := by
  intro args r h
  rw [e60] at h
  unfold S60 at h
  split at h
  ·
    cases h
    refine Does.of_awp (X := cx 11 [89, 98]) (by simpa [cx] using ⟨g89, g98⟩) Try.func60 rfl (by kernel_rfl) rfl (by simp [cx]) [] (by simp) ?_
    conv => whnf
    repeat' (first | (refine br_intro (fun h => ?_) (fun h => ?_) <;> (conv => whnf)) | (refine ⟨⟨by kernel_rfl, by kernel_rfl⟩, ?_⟩; conv => whnf))
    all_goals (conv => lhs; whnf)
    all_goals (first | rfl | ( simp_all [canOk]))
  · cases h
theorem g63 : Ax.Good Try.prog env 63 := by
  intro args r h
  rw [e63] at h
  unfold S63 at h
  split at h
  · rename_i a b c d n cs tg
    split at h
    · rename_i xs hxs
      have := flts_eq hxs
      subst this
      split at h
      · rename_i hn
        obtain ⟨rfl, hn⟩ := hn
        cases h
        refine Does.of_awp (X := cx 11 [83, 106]) (by simpa [cx] using ⟨g83, g106⟩) Try.func63 rfl (by kernel_rfl) rfl (by simp [cx]) [] (by simp) ?_
        conv => whnf
        refine br_intro (fun h => ?_) (fun h => ?_) <;> (conv => whnf)
        · have e : env 83 [.sli 1 xs.length (f32s xs) tg] = some (.bool (allA xs)) := by
            show (match flts (f32s xs) with | some ys => if xs.length = ys.length ∧ xs.length < 2 ^ 40 then some (AV.bool (allA ys)) else none | none => none) = _
            rw [flts_f32s]; exact if_pos ⟨rfl, hn⟩
          generalize hz : Cx.env _ 83 _ = z
          have hz' := hz.symm.trans e
          subst hz'
          conv => whnf
          repeat' (first | (refine br_intro (fun h => ?_) (fun h => ?_) <;> (conv => whnf)))
          all_goals (conv => lhs; whnf)
          all_goals simp_all
        · repeat' (first | (refine br_intro (fun h => ?_) (fun h => ?_) <;> (conv => whnf)))
          all_goals (conv => lhs; whnf)
          all_goals simp_all
      · cases h
    · cases h
  · cases h
theorem g62 : Ax.Good Try.prog env 62 := by
  intro args r h
  rw [e62] at h
  unfold S62 at h
  split at h
  ·
    cases h
    refine Does.of_awp (X := cx 18 []) (fun f hf => by cases hf) Try.func62 rfl (by kernel_rfl) rfl (by simp [cx]) [] (by simp) ?_
    conv => whnf
    repeat' (first | (refine br_intro (fun h => ?_) (fun h => ?_) <;> (conv => whnf)) | (refine ⟨⟨by kernel_rfl, by kernel_rfl⟩, ?_⟩; conv => whnf))
    all_goals (conv => lhs; whnf)
    all_goals (first | rfl | ( simp_all [areaV]))
  · cases h
theorem g65 : Ax.Good Try.prog env 65 := by
  intro args r h
  rw [e65] at h
  unfold S65 at h
  split at h
  ·
    cases h
    refine Does.of_awp (X := cx 17 []) (fun f hf => by cases hf) Try.func65 rfl (by kernel_rfl) rfl (by simp [cx]) [] (by simp) ?_
    conv => whnf
    repeat' (first | (refine br_intro (fun h => ?_) (fun h => ?_) <;> (conv => whnf)) | (refine ⟨⟨by kernel_rfl, by kernel_rfl⟩, ?_⟩; conv => whnf))
    all_goals (conv => lhs; whnf)
    all_goals (first | rfl | ( simp_all [topV, K]))
  · cases h
theorem g68 : Ax.Good Try.prog env 68 := by
  intro args r h
  rw [e68] at h
  unfold S68 at h
  split at h
  ·
    cases h
    refine Does.of_awp (X := cx 58 []) (fun f hf => by cases hf) Try.func68 rfl (by kernel_rfl) rfl (by simp [cx]) [] (by simp) ?_
    conv => whnf
    repeat' (first | (refine br_intro (fun h => ?_) (fun h => ?_) <;> (conv => whnf)) | (refine ⟨⟨by kernel_rfl, by kernel_rfl⟩, ?_⟩; conv => whnf))
    all_goals (conv => lhs; whnf)
    all_goals (first | rfl | ( simp_all [rainV, rainOut, rainP, rainTop, K]))
  · cases h
theorem g73 : Ax.Good Try.prog env 73 := by
  intro args r h
  rw [e73] at h
  unfold S73 at h
  split at h
  ·
    cases h
    refine Does.of_awp (X := cx 63 []) (fun f hf => by cases hf) Try.func73 rfl (by kernel_rfl) rfl (by simp [cx]) [] (by simp) ?_
    conv => whnf
    repeat' (first | (refine br_intro (fun h => ?_) (fun h => ?_) <;> (conv => whnf)) | (refine ⟨⟨by kernel_rfl, by kernel_rfl⟩, ?_⟩; conv => whnf))
    all_goals (conv => lhs; whnf)
    all_goals (first | rfl | ( simp_all [fallV, rainP, K]))
  · cases h
theorem g74 : Ax.Good Try.prog env 74 := by
  intro args r h
  rw [e74] at h
  unfold S74 at h
  split at h
  ·
    cases h
    refine Does.of_awp (X := cx 50 []) (fun f hf => by cases hf) Try.func74 rfl (by kernel_rfl) rfl (by simp [cx]) [] (by simp) ?_
    conv => whnf
    repeat' (first | (refine br_intro (fun h => ?_) (fun h => ?_) <;> (conv => whnf)) | (refine ⟨⟨by kernel_rfl, by kernel_rfl⟩, ?_⟩; conv => whnf))
    all_goals (conv => lhs; whnf)
    all_goals (first | rfl | ( simp_all [fallV, rainP, K]))
  · cases h
theorem g75 : Ax.Good Try.prog env 75 := by
  intro args r h
  rw [e75] at h
  unfold S75 at h
  split at h
  ·
    cases h
    refine Does.of_awp (X := cx 14 [60, 89]) (by simpa [cx] using ⟨g60, g89⟩) Try.func75 rfl (by kernel_rfl) rfl (by simp [cx]) [] (by simp) ?_
    conv => whnf
    repeat' (first | (refine br_intro (fun h => ?_) (fun h => ?_) <;> (conv => whnf)) | (refine ⟨⟨by kernel_rfl, by kernel_rfl⟩, ?_⟩; conv => whnf))
    all_goals (conv => lhs; whnf)
    all_goals (first | rfl | ( simp_all))
  · cases h
theorem g76 : Ax.Good Try.prog env 76 := by
  intro args r h
  rw [e76] at h
  unfold S76 at h
  split at h
  ·
    cases h
    refine Does.of_awp (X := cx 27 [61, 62, 67]) (by simpa [cx] using ⟨g61, g62, g67⟩) Try.func76 rfl (by kernel_rfl) rfl (by simp [cx]) [] (by simp) ?_
    conv => whnf
    repeat' (first | (refine br_intro (fun h => ?_) (fun h => ?_) <;> (conv => whnf)) | (refine ⟨⟨by kernel_rfl, by kernel_rfl⟩, ?_⟩; conv => whnf))
    all_goals (refine tup2 ?_ ?_)
    all_goals (conv => lhs; whnf)
    all_goals (first | rfl | ( simp_all [speedV, areaV]))
  · cases h
theorem g19 : Ax.Good Try.prog env 19 := by
  intro args r h
  rw [e19] at h
  unfold S19 at h
  split at h
  ·
    cases h
    refine Does.of_awp (X := cx 14 [60, 61, 62]) (by simpa [cx] using ⟨g60, g61, g62⟩) Try.func19 rfl (by kernel_rfl) rfl (by simp [cx]) [] (by simp) ?_
    conv => whnf
    repeat' (first | (refine br_intro (fun h => ?_) (fun h => ?_) <;> (conv => whnf)) | (refine ⟨⟨by kernel_rfl, by kernel_rfl⟩, ?_⟩; conv => whnf))
    all_goals (refine tup2 ?_ ?_)
    all_goals (conv => lhs; whnf)
    all_goals (first | rfl | ( simp_all [outV, numV, K]))
  · cases h
theorem g21 : Ax.Good Try.prog env 21 := by
  intro args r h
  rw [e21] at h
  unfold S19 at h
  split at h
  · rename_i a b c d x
    cases h
    refine Does.of_awp (X := cx 23 [63, 64]) (by simpa [cx] using ⟨g63, g64⟩) Try.func21 rfl (by kernel_rfl) rfl (by simp [cx]) [] (by simp) ?_
    conv => whnf
    repeat' (first | (refine br_intro (fun h => ?_) (fun h => ?_) <;> (conv => whnf)) | (refine ⟨⟨by kernel_rfl, by kernel_rfl⟩, ?_⟩; conv => whnf))
    all_goals (refine tup2 ?_ ?_)
    all_goals (conv => lhs; whnf)
    all_goals (first | rfl | (cases hs : sectOk a b c d <;> cases hx : above x <;> simp_all [canOk, allA, outV, numV, areaV, K]))
  · cases h
theorem g23 : Ax.Good Try.prog env 23 := by
  intro args r h
  rw [e23] at h
  unfold S23 at h
  split at h
  ·
    cases h
    refine Does.of_awp (X := cx 14 [60, 61, 65]) (by simpa [cx] using ⟨g60, g61, g65⟩) Try.func23 rfl (by kernel_rfl) rfl (by simp [cx]) [] (by simp) ?_
    conv => whnf
    repeat' (first | (refine br_intro (fun h => ?_) (fun h => ?_) <;> (conv => whnf)) | (refine ⟨⟨by kernel_rfl, by kernel_rfl⟩, ?_⟩; conv => whnf))
    all_goals (refine tup2 ?_ ?_)
    all_goals (conv => lhs; whnf)
    all_goals (first | rfl | ( simp_all [outV, numV, K]))
  · cases h
theorem g24 : Ax.Good Try.prog env 24 := by
  intro args r h
  rw [e24] at h
  unfold S23 at h
  split at h
  · rename_i a b c d x
    cases h
    refine Does.of_awp (X := cx 22 [63, 64]) (by simpa [cx] using ⟨g63, g64⟩) Try.func24 rfl (by kernel_rfl) rfl (by simp [cx]) [] (by simp) ?_
    conv => whnf
    repeat' (first | (refine br_intro (fun h => ?_) (fun h => ?_) <;> (conv => whnf)) | (refine ⟨⟨by kernel_rfl, by kernel_rfl⟩, ?_⟩; conv => whnf))
    all_goals (refine tup2 ?_ ?_)
    all_goals (conv => lhs; whnf)
    all_goals (first | rfl | (cases hs : sectOk a b c d <;> cases hx : above x <;> simp_all [canOk, allA, outV, numV, topV, K]))
  · cases h
theorem g25 : Ax.Good Try.prog env 25 := by
  intro args r h
  rw [e25] at h
  unfold S25 at h
  split at h
  ·
    cases h
    refine Does.of_awp (X := cx 18 [61, 66, 67, 68]) (by simpa [cx] using ⟨g61, g66, g67, g68⟩) Try.func25 rfl (by kernel_rfl) rfl (by simp [cx]) [] (by simp) ?_
    conv => whnf
    repeat' (first | (refine br_intro (fun h => ?_) (fun h => ?_) <;> (conv => whnf)) | (refine ⟨⟨by kernel_rfl, by kernel_rfl⟩, ?_⟩; conv => whnf))
    all_goals (refine tup2 ?_ ?_)
    all_goals (conv => lhs; whnf)
    all_goals (first | rfl | ( simp_all [outV, numV, K]))
  · cases h
theorem g27 : Ax.Good Try.prog env 27 := by
  intro args r h
  rw [e27] at h
  unfold S25 at h
  split at h
  · rename_i a b c d x
    cases h
    refine Does.of_awp (X := cx 59 [64, 69, 70]) (by simpa [cx] using ⟨g64, g69, g70⟩) Try.func27 rfl (by kernel_rfl) rfl (by simp [cx]) [] (by simp) ?_
    conv => whnf
    repeat' (first | (refine br_intro (fun h => ?_) (fun h => ?_) <;> (conv => whnf)) | (refine ⟨⟨by kernel_rfl, by kernel_rfl⟩, ?_⟩; conv => whnf))
    all_goals (refine tup2 ?_ ?_)
    all_goals (conv => lhs; whnf)
    all_goals (first | rfl | ( simp_all [outV, numV, rainV, rainOut, rainP, rainTop, K, fin0c]))
  · cases h
theorem g32 : Ax.Good Try.prog env 32 := by
  intro args r h
  rw [e32] at h
  unfold S32 at h
  split at h
  ·
    cases h
    refine Does.of_awp (X := cx 18 [61, 66, 67, 73]) (by simpa [cx] using ⟨g61, g66, g67, g73⟩) Try.func32 rfl (by kernel_rfl) rfl (by simp [cx]) [] (by simp) ?_
    conv => whnf
    repeat' (first | (refine br_intro (fun h => ?_) (fun h => ?_) <;> (conv => whnf)) | (refine ⟨⟨by kernel_rfl, by kernel_rfl⟩, ?_⟩; conv => whnf))
    all_goals (refine tup2 ?_ ?_)
    all_goals (conv => lhs; whnf)
    all_goals (first | rfl | ( simp_all [outV, numV, K]))
  · cases h
theorem g33 : Ax.Good Try.prog env 33 := by
  intro args r h
  rw [e33] at h
  unfold S32 at h
  split at h
  ·
    cases h
    refine Does.of_awp (X := cx 20 [64, 69, 70, 74]) (by simpa [cx] using ⟨g64, g69, g70, g74⟩) Try.func33 rfl (by kernel_rfl) rfl (by simp [cx]) [] (by simp) ?_
    conv => whnf
    repeat' (first | (refine br_intro (fun h => ?_) (fun h => ?_) <;> (conv => whnf)) | (refine ⟨⟨by kernel_rfl, by kernel_rfl⟩, ?_⟩; conv => whnf))
    all_goals (refine tup2 ?_ ?_)
    all_goals (conv => lhs; whnf)
    all_goals (first | rfl | ( simp_all [outV, numV, K]))
  · cases h
theorem g3 : Ax.Good Try.prog env 3 := by
  intro args r h
  rw [e3] at h
  unfold S3 at h
  split at h
  ·
    cases h
    refine Does.of_awp (X := cx 34 [19, 20, 21, 22]) (by simpa [cx] using ⟨g19, g20, g21, g22⟩) Try.func3 rfl (by kernel_rfl) rfl (by simp [cx]) [] (by simp) ?_
    conv => whnf
    repeat' (first | (refine br_intro (fun h => ?_) (fun h => ?_) <;> (conv => whnf)) | (refine ⟨⟨by kernel_rfl, by kernel_rfl⟩, ?_⟩; conv => whnf))
    all_goals (conv => lhs; whnf)
    all_goals (first | rfl | simp_all [sameF_self])
  · cases h
theorem g4 : Ax.Good Try.prog env 4 := by
  intro args r h
  rw [e4] at h
  unfold S3 at h
  split at h
  ·
    cases h
    refine Does.of_awp (X := cx 34 [20, 22, 23, 24]) (by simpa [cx] using ⟨g20, g22, g23, g24⟩) Try.func4 rfl (by kernel_rfl) rfl (by simp [cx]) [] (by simp) ?_
    conv => whnf
    repeat' (first | (refine br_intro (fun h => ?_) (fun h => ?_) <;> (conv => whnf)) | (refine ⟨⟨by kernel_rfl, by kernel_rfl⟩, ?_⟩; conv => whnf))
    all_goals (conv => lhs; whnf)
    all_goals (first | rfl | simp_all [sameF_self])
  · cases h
theorem g5 : Ax.Good Try.prog env 5 := by
  intro args r h
  rw [e5] at h
  unfold S3 at h
  split at h
  ·
    cases h
    refine Does.of_awp (X := cx 34 [22, 25, 26, 27]) (by simpa [cx] using ⟨g22, g25, g26, g27⟩) Try.func5 rfl (by kernel_rfl) rfl (by simp [cx]) [] (by simp) ?_
    conv => whnf
    repeat' (first | (refine br_intro (fun h => ?_) (fun h => ?_) <;> (conv => whnf)) | (refine ⟨⟨by kernel_rfl, by kernel_rfl⟩, ?_⟩; conv => whnf))
    all_goals (conv => lhs; whnf)
    all_goals (first | rfl | simp_all [sameF_self])
  · cases h
theorem g7 : Ax.Good Try.prog env 7 := by
  intro args r h
  rw [e7] at h
  unfold S3 at h
  split at h
  ·
    cases h
    refine Does.of_awp (X := cx 34 [22, 26, 32, 33]) (by simpa [cx] using ⟨g22, g26, g32, g33⟩) Try.func7 rfl (by kernel_rfl) rfl (by simp [cx]) [] (by simp) ?_
    conv => whnf
    repeat' (first | (refine br_intro (fun h => ?_) (fun h => ?_) <;> (conv => whnf)) | (refine ⟨⟨by kernel_rfl, by kernel_rfl⟩, ?_⟩; conv => whnf))
    all_goals (conv => lhs; whnf)
    all_goals (first | rfl | simp_all [sameF_self])
  · cases h
theorem g34 : Ax.Good Try.prog env 34 := by
  intro args r h
  rw [e34] at h
  unfold S34 at h
  split at h
  · rename_i a b c d x q
    cases h
    refine Does.of_awp (X := cx 23 [75, 76]) (by simpa [cx] using ⟨g75, g76⟩) Try.func34 rfl (by kernel_rfl) rfl (by simp [cx]) [] (by simp) ?_
    conv => whnf
    repeat' (first | (refine br_intro (fun h => ?_) (fun h => ?_) <;> (conv => whnf)) | (refine ⟨⟨by kernel_rfl, by kernel_rfl⟩, ?_⟩; conv => whnf))
    all_goals (refine tup2 ?_ ?_)
    all_goals (conv => lhs; whnf)
    all_goals (first | rfl | (cases hc : canOk a b c d x <;> cases hq : above q <;> cases hf : fin (areaV a b x) <;> cases hv : fin (speedV a b x q) <;> simp_all [speedOk, numV, K]))
  · cases h
theorem g35 : Ax.Good Try.prog env 35 := by
  intro args r h
  rw [e35] at h
  unfold S34 at h
  split at h
  · rename_i a b c d x q
    cases h
    refine Does.of_awp (X := cx 29 [21, 64, 77]) (by simpa [cx] using ⟨g21, g64, g77⟩) Try.func35 rfl (by kernel_rfl) rfl (by simp [cx]) [] (by simp) ?_
    conv => whnf
    repeat' (first | (refine br_intro (fun h => ?_) (fun h => ?_) <;> (conv => whnf)) | (refine ⟨⟨by kernel_rfl, by kernel_rfl⟩, ?_⟩; conv => whnf))
    all_goals (refine tup2 ?_ ?_)
    all_goals (conv => lhs; whnf)
    all_goals (first | rfl | (cases hc : canOk a b c d x <;> cases hq : above q <;> cases hf : fin (areaV a b x) <;> cases hv : fin (speedV a b x q) <;> simp_all [speedOk, outV, numV, speedV, K]))
  · cases h
theorem g86 : Ax.Good Try.prog env 86 := by
  intro args r h
  rw [e86] at h
  unfold S86 at h
  split at h
  · rename_i a b c d tg x q
    cases h
    refine Does.of_awp (X := cx 28 [61, 76]) (by simpa [cx] using ⟨g61, g76⟩) Try.func86 rfl (by kernel_rfl) rfl (by simp [cx]) [] (by simp) ?_
    conv => whnf
    repeat' (first | (refine br_intro (fun h => ?_) (fun h => ?_) <;> (conv => whnf)) | (refine ⟨⟨by kernel_rfl, by kernel_rfl⟩, ?_⟩; conv => whnf))
    all_goals (refine tup2 ?_ ?_)
    all_goals (conv => lhs; whnf)
    all_goals (first | rfl | (cases hf : fin (areaV a b x) <;> cases hv : fin (speedV a b x q) <;> simp_all [outV, numV, headV, K]))
  · cases h
theorem g87 : Ax.Good Try.prog env 87 := by
  intro args r h
  rw [e87] at h
  unfold S87 at h
  split at h
  · rename_i a b c d tg x q
    cases h
    refine Does.of_awp (X := cx 46 [61, 76]) (by simpa [cx] using ⟨g61, g76⟩) Try.func87 rfl (by kernel_rfl) rfl (by simp [cx]) [] (by simp) ?_
    conv => whnf
    repeat' (first | (refine br_intro (fun h => ?_) (fun h => ?_) <;> (conv => whnf)) | (refine ⟨⟨by kernel_rfl, by kernel_rfl⟩, ?_⟩; conv => whnf))
    all_goals (refine tup2 ?_ ?_)
    all_goals (conv => lhs; whnf)
    all_goals (first | rfl | (cases hf : fin (areaV a b x) <;> cases hv : fin (speedV a b x q) <;> simp_all [outV, numV, pushV, K]))
  · cases h
theorem g38 : Ax.Good Try.prog env 38 := by
  intro args r h
  rw [e38] at h
  unfold S38 at h
  split at h
  · rename_i a b c d x q
    cases h
    refine Does.of_awp (X := cx 17 [75, 86]) (by simpa [cx] using ⟨g75, g86⟩) Try.func38 rfl (by kernel_rfl) rfl (by simp [cx]) [] (by simp) ?_
    conv => whnf
    repeat' (first | (refine br_intro (fun h => ?_) (fun h => ?_) <;> (conv => whnf)) | (refine ⟨⟨by kernel_rfl, by kernel_rfl⟩, ?_⟩; conv => whnf))
    all_goals (refine tup2 ?_ ?_)
    all_goals (conv => lhs; whnf)
    all_goals (first | rfl | (cases hc : canOk a b c d x <;> cases hq : above q <;> cases hf : fin (areaV a b x) <;> cases hv : fin (speedV a b x q) <;> simp_all [speedOk, outV, numV, K]))
  · cases h
theorem g39 : Ax.Good Try.prog env 39 := by
  intro args r h
  rw [e39] at h
  unfold S38 at h
  split at h
  · rename_i a b c d x q
    cases h
    refine Does.of_awp (X := cx 28 [35, 64]) (by simpa [cx] using ⟨g35, g64⟩) Try.func39 rfl (by kernel_rfl) rfl (by simp [cx]) [] (by simp) ?_
    conv => whnf
    repeat' (first | (refine br_intro (fun h => ?_) (fun h => ?_) <;> (conv => whnf)) | (refine ⟨⟨by kernel_rfl, by kernel_rfl⟩, ?_⟩; conv => whnf))
    all_goals (refine tup2 ?_ ?_)
    all_goals (conv => lhs; whnf)
    all_goals (first | rfl | (cases hc : canOk a b c d x <;> cases hq : above q <;> cases hf : fin (areaV a b x) <;> cases hv : fin (speedV a b x q) <;> simp_all [speedOk, outV, numV, headV, K]))
  · cases h
theorem g40 : Ax.Good Try.prog env 40 := by
  intro args r h
  rw [e40] at h
  unfold S40 at h
  split at h
  · rename_i a b c d x q
    cases h
    refine Does.of_awp (X := cx 17 [75, 87]) (by simpa [cx] using ⟨g75, g87⟩) Try.func40 rfl (by kernel_rfl) rfl (by simp [cx]) [] (by simp) ?_
    conv => whnf
    repeat' (first | (refine br_intro (fun h => ?_) (fun h => ?_) <;> (conv => whnf)) | (refine ⟨⟨by kernel_rfl, by kernel_rfl⟩, ?_⟩; conv => whnf))
    all_goals (refine tup2 ?_ ?_)
    all_goals (conv => lhs; whnf)
    all_goals (first | rfl | (cases hc : canOk a b c d x <;> cases hq : above q <;> cases hf : fin (areaV a b x) <;> cases hv : fin (speedV a b x q) <;> simp_all [speedOk, outV, numV, K]))
  · cases h
theorem g41 : Ax.Good Try.prog env 41 := by
  intro args r h
  rw [e41] at h
  unfold S40 at h
  split at h
  · rename_i a b c d x q
    cases h
    refine Does.of_awp (X := cx 42 [35, 64]) (by simpa [cx] using ⟨g35, g64⟩) Try.func41 rfl (by kernel_rfl) rfl (by simp [cx]) [] (by simp) ?_
    conv => whnf
    repeat' (first | (refine br_intro (fun h => ?_) (fun h => ?_) <;> (conv => whnf)) | (refine ⟨⟨by kernel_rfl, by kernel_rfl⟩, ?_⟩; conv => whnf))
    all_goals (refine tup2 ?_ ?_)
    all_goals (conv => lhs; whnf)
    all_goals (first | rfl | (cases hc : canOk a b c d x <;> cases hq : above q <;> cases hf : fin (areaV a b x) <;> cases hv : fin (speedV a b x q) <;> simp_all [speedOk, outV, numV, pushV, K]))
  · cases h
theorem g8 : Ax.Good Try.prog env 8 := by
  intro args r h
  rw [e8] at h
  unfold S8 at h
  split at h
  ·
    cases h
    refine Does.of_awp (X := cx 38 [20, 22, 34, 35]) (by simpa [cx] using ⟨g20, g22, g34, g35⟩) Try.func8 rfl (by kernel_rfl) rfl (by simp [cx]) [] (by simp) ?_
    conv => whnf
    repeat' (first | (refine br_intro (fun h => ?_) (fun h => ?_) <;> (conv => whnf)) | (refine ⟨⟨by kernel_rfl, by kernel_rfl⟩, ?_⟩; conv => whnf))
    all_goals (conv => lhs; whnf)
    all_goals (first | rfl | simp_all [sameF_self])
  · cases h
theorem g10 : Ax.Good Try.prog env 10 := by
  intro args r h
  rw [e10] at h
  unfold S8 at h
  split at h
  ·
    cases h
    refine Does.of_awp (X := cx 38 [20, 22, 38, 39]) (by simpa [cx] using ⟨g20, g22, g38, g39⟩) Try.func10 rfl (by kernel_rfl) rfl (by simp [cx]) [] (by simp) ?_
    conv => whnf
    repeat' (first | (refine br_intro (fun h => ?_) (fun h => ?_) <;> (conv => whnf)) | (refine ⟨⟨by kernel_rfl, by kernel_rfl⟩, ?_⟩; conv => whnf))
    all_goals (conv => lhs; whnf)
    all_goals (first | rfl | simp_all [sameF_self])
  · cases h
theorem g11 : Ax.Good Try.prog env 11 := by
  intro args r h
  rw [e11] at h
  unfold S8 at h
  split at h
  ·
    cases h
    refine Does.of_awp (X := cx 38 [20, 22, 40, 41]) (by simpa [cx] using ⟨g20, g22, g40, g41⟩) Try.func11 rfl (by kernel_rfl) rfl (by simp [cx]) [] (by simp) ?_
    conv => whnf
    repeat' (first | (refine br_intro (fun h => ?_) (fun h => ?_) <;> (conv => whnf)) | (refine ⟨⟨by kernel_rfl, by kernel_rfl⟩, ?_⟩; conv => whnf))
    all_goals (conv => lhs; whnf)
    all_goals (first | rfl | simp_all [sameF_self])
  · cases h
theorem g121 : Ax.Good Try.prog env 121 := by
  intro args r h
  rw [e121] at h
  unfold S109 at h
  split at h
  · rename_i x
    cases h
    exact Does.sqrt Try.func121 rfl (by kernel_rfl) rfl rfl
  · cases h
theorem g109 : Ax.Good Try.prog env 109 := by
  intro args r h
  rw [e109] at h
  unfold S109 at h
  split at h
  ·
    cases h
    refine Does.of_awp (X := cx 5 [121]) (by simpa [cx] using g121) Try.func109 rfl (by kernel_rfl) rfl (by simp [cx]) [] (by simp) ?_
    conv => whnf
    rfl
  · cases h
theorem g108 : Ax.Good Try.prog env 108 := by
  intro args r h
  rw [e108] at h
  unfold S108 at h
  split at h
  · rename_i x
    split at h
    · rename_i hn
      cases h
      refine Does.of_awp (X := cx 5 []) (fun f hf => by cases hf) Try.func108 rfl (by kernel_rfl) rfl (by simp [cx]) [] (by simp) ?_
      conv => whnf
      have e : cvA Try.prog 30 22 (.flt .f64 (x)) = some (.flt .f32 (fnarrow (x))) := by
        show ((if tooBig (x) = false then some (fnarrow (x)) else none).map (AV.flt .f32)) = _
        rw [if_pos hn]; rfl
      generalize hz : cvA _ 30 22 _ = z
      have hz' := hz.symm.trans e
      subst hz'
      conv => whnf
      rfl
    · cases h
  · cases h
theorem g81 : Ax.Good Try.prog env 81 := by
  intro args r h
  rw [e81] at h
  unfold S81 at h
  split at h
  · rename_i x
    cases h
    refine Does.of_awp (X := cx 7 [108, 109]) (by simpa [cx] using ⟨g108, g109⟩) Try.func81 rfl (by kernel_rfl) rfl (by simp [cx]) [] (by simp) ?_
    conv => whnf
    have e : env 108 [.flt .f64 (fsqrt (fwiden x))] = some (.flt .f32 (sqrtV x)) := by
      show (match tooBig (fsqrt (fwiden x)) with | false => some (AV.flt .f32 (fnarrow (fsqrt (fwiden x)))) | true => none) = _
      rw [sqrt_fits]; rfl
    generalize hz : Cx.env _ 108 _ = z
    have hz' := hz.symm.trans e
    subst hz'
    conv => whnf
    rfl
  · cases h
theorem g85 : Ax.Good Try.prog env 85 := by
  intro args r h
  rw [e85] at h
  unfold S81 at h
  split at h
  · rename_i x
    cases h
    refine Does.of_awp (X := cx 7 [109]) (by simpa [cx] using g109) Try.func85 rfl (by kernel_rfl) rfl (by simp [cx]) [] (by simp) ?_
    conv => whnf
    have hn := sqrt_fits x
    have e : cvA Try.prog 30 22 (.flt .f64 (fsqrt (fwiden x))) = some (.flt .f32 (fnarrow (fsqrt (fwiden x)))) := by
      show ((if tooBig (fsqrt (fwiden x)) = false then some (fnarrow (fsqrt (fwiden x))) else none).map (AV.flt .f32)) = _
      rw [if_pos hn]; rfl
    generalize hz : cvA _ 30 22 _ = z
    have hz' := hz.symm.trans e
    subst hz'
    conv => whnf
    rfl
  · cases h
theorem g78 : Ax.Good Try.prog env 78 := by
  intro args r h
  rw [e78] at h
  unfold S78 at h
  split at h
  ·
    cases h
    refine Does.of_awp (X := cx 17 [89]) (by simpa [cx] using g89) Try.func78 rfl (by kernel_rfl) rfl (by simp [cx]) [] (by simp) ?_
    conv => whnf
    repeat' (first | (refine br_intro (fun h => ?_) (fun h => ?_) <;> (conv => whnf)) | (refine ⟨⟨by kernel_rfl, by kernel_rfl⟩, ?_⟩; conv => whnf))
    all_goals (conv => lhs; whnf)
    all_goals (first | rfl | ( simp_all))
  · cases h
theorem g36 : Ax.Good Try.prog env 36 := by
  intro args r h
  rw [e36] at h
  unfold S36 at h
  split at h
  · rename_i a b c d
    cases h
    refine Does.of_awp (X := cx 37 [61, 78, 79, 80, 81]) (by simpa [cx] using ⟨g61, g78, g79, g80, g81⟩) Try.func36 rfl (by kernel_rfl) rfl (by simp [cx]) [] (by simp) ?_
    conv => whnf
    repeat' (first | (refine br_intro (fun h => ?_) (fun h => ?_) <;> (conv => whnf)) | (refine ⟨⟨by kernel_rfl, by kernel_rfl⟩, ?_⟩; conv => whnf))
    all_goals (refine tup2 ?_ ?_)
    all_goals (conv => lhs; whnf)
    all_goals (first | rfl | (cases ha : least a <;> cases hb : above b <;> cases hc : above c <;> cases hd : above d <;> simp_all [flowV, outV, numV, K]))
  · cases h
theorem g37 : Ax.Good Try.prog env 37 := by
  intro args r h
  rw [e37] at h
  unfold S36 at h
  split at h
  · rename_i a b c d
    cases h
    refine Does.of_awp (X := cx 36 [64, 82, 83, 84, 85]) (by simpa [cx] using ⟨g64, g82, g83, g84, g85⟩) Try.func37 rfl (by kernel_rfl) rfl (by simp [cx]) [] (by simp) ?_
    conv => whnf
    repeat' (first | (refine br_intro (fun h => ?_) (fun h => ?_) <;> (conv => whnf)) | (refine ⟨⟨by kernel_rfl, by kernel_rfl⟩, ?_⟩; conv => whnf))
    all_goals (refine tup2 ?_ ?_)
    all_goals (conv => lhs; whnf)
    all_goals (first | rfl | (cases ha : least a <;> cases hb : above b <;> cases hc : above c <;> cases hd : above d <;> simp_all [flowV, allA, outV, numV, K]))
  · cases h
theorem g97 : Ax.Good Try.prog env 97 := by
  intro args r h
  rw [e97] at h
  unfold S97 at h
  split at h
  ·
    cases h
    refine Does.of_awp (X := cx 24 [81]) (by simpa [cx] using g81) Try.func97 rfl (by kernel_rfl) rfl (by simp [cx]) [] (by simp) ?_
    conv => whnf
    repeat' (first | (refine br_intro (fun h => ?_) (fun h => ?_) <;> (conv => whnf)) | (refine ⟨⟨by kernel_rfl, by kernel_rfl⟩, ?_⟩; conv => whnf))
    all_goals (conv => lhs; whnf)
    all_goals (first | rfl | ( simp_all [wetV, K]))
  · cases h
theorem g54 : Ax.Good Try.prog env 54 := by
  intro args r h
  rw [e54] at h
  unfold S54 at h
  split at h
  ·
    cases h
    refine Does.of_awp (X := cx 14 [60, 61, 97]) (by simpa [cx] using ⟨g60, g61, g97⟩) Try.func54 rfl (by kernel_rfl) rfl (by simp [cx]) [] (by simp) ?_
    conv => whnf
    repeat' (first | (refine br_intro (fun h => ?_) (fun h => ?_) <;> (conv => whnf)) | (refine ⟨⟨by kernel_rfl, by kernel_rfl⟩, ?_⟩; conv => whnf))
    all_goals (refine tup2 ?_ ?_)
    all_goals (conv => lhs; whnf)
    all_goals (first | rfl | ( simp_all [outV, numV, K]))
  · cases h
theorem g55 : Ax.Good Try.prog env 55 := by
  intro args r h
  rw [e55] at h
  unfold S54 at h
  split at h
  · rename_i a b c d x
    cases h
    refine Does.of_awp (X := cx 27 [63, 64, 85]) (by simpa [cx] using ⟨g63, g64, g85⟩) Try.func55 rfl (by kernel_rfl) rfl (by simp [cx]) [] (by simp) ?_
    conv => whnf
    repeat' (first | (refine br_intro (fun h => ?_) (fun h => ?_) <;> (conv => whnf)) | (refine ⟨⟨by kernel_rfl, by kernel_rfl⟩, ?_⟩; conv => whnf))
    all_goals (refine tup2 ?_ ?_)
    all_goals (conv => lhs; whnf)
    all_goals (first | rfl | (cases hs : sectOk a b c d <;> cases hx : above x <;> simp_all [canOk, allA, outV, numV, wetV, K]))
  · cases h
theorem g96 : Ax.Good Try.prog env 96 := by
  intro args r h
  rw [e96] at h
  unfold S96 at h
  split at h
  ·
    cases h
    refine Does.of_awp (X := cx 44 [81]) (by simpa [cx] using g81) Try.func96 rfl (by kernel_rfl) rfl (by simp [cx]) [] (by simp) ?_
    conv => whnf
    repeat' (first | (refine br_intro (fun h => ?_) (fun h => ?_) <;> (conv => whnf)) | (refine ⟨⟨by kernel_rfl, by kernel_rfl⟩, ?_⟩; conv => whnf))
    all_goals (conv => lhs; whnf)
    all_goals (first | rfl | ( simp_all [weirV, weirF, weirE, weirR, K]))
  · cases h
theorem g52 : Ax.Good Try.prog env 52 := by
  intro args r h
  rw [e52] at h
  unfold S52 at h
  split at h
  · rename_i a b c d
    cases h
    refine Does.of_awp (X := cx 36 [61, 67, 79, 96]) (by simpa [cx] using ⟨g61, g67, g79, g96⟩) Try.func52 rfl (by kernel_rfl) rfl (by simp [cx]) [] (by simp) ?_
    conv => whnf
    repeat' (first | (refine br_intro (fun h => ?_) (fun h => ?_) <;> (conv => whnf)) | (refine ⟨⟨by kernel_rfl, by kernel_rfl⟩, ?_⟩; conv => whnf))
    all_goals (refine tup2 ?_ ?_)
    all_goals (conv => lhs; whnf)
    all_goals (first | rfl | (cases ha : least a <;> cases hb : fin b <;> cases hc : fin c <;> cases hd : fin d <;> simp_all [outV, numV, K]))
  · cases h
theorem g53 : Ax.Good Try.prog env 53 := by
  intro args r h
  rw [e53] at h
  unfold S52 at h
  split at h
  · rename_i a b c d
    cases h
    refine Does.of_awp (X := cx 58 [64, 82, 85, 94]) (by simpa [cx] using ⟨g64, g82, g85, g94⟩) Try.func53 rfl (by kernel_rfl) rfl (by simp [cx]) [] (by simp) ?_
    conv => whnf
    repeat' (first | (refine br_intro (fun h => ?_) (fun h => ?_) <;> (conv => whnf)) | (refine ⟨⟨by kernel_rfl, by kernel_rfl⟩, ?_⟩; conv => whnf))
    all_goals (refine tup2 ?_ ?_)
    all_goals (conv => lhs; whnf)
    all_goals (first | rfl | (cases ha : least a <;> cases hb : fin b <;> cases hc : fin c <;> cases hd : fin d <;> simp_all [allF, outV, numV, weirV, weirF, weirE, weirR, K, fin0c]))
  · cases h
theorem g9 : Ax.Good Try.prog env 9 := by
  intro args r h
  rw [e9] at h
  unfold S9 at h
  split at h
  ·
    cases h
    refine Does.of_awp (X := cx 40 [22, 36, 37]) (by simpa [cx] using ⟨g22, g36, g37⟩) Try.func9 rfl (by kernel_rfl) rfl (by simp [cx]) [] (by simp) ?_
    conv => whnf
    repeat' (first | (refine br_intro (fun h => ?_) (fun h => ?_) <;> (conv => whnf)) | (refine ⟨⟨by kernel_rfl, by kernel_rfl⟩, ?_⟩; conv => whnf))
    all_goals (conv => lhs; whnf)
    all_goals (first | rfl | simp_all [sameF_self])
  · cases h
theorem g15 : Ax.Good Try.prog env 15 := by
  intro args r h
  rw [e15] at h
  unfold S9 at h
  split at h
  ·
    cases h
    refine Does.of_awp (X := cx 40 [22, 52, 53]) (by simpa [cx] using ⟨g22, g52, g53⟩) Try.func15 rfl (by kernel_rfl) rfl (by simp [cx]) [] (by simp) ?_
    conv => whnf
    repeat' (first | (refine br_intro (fun h => ?_) (fun h => ?_) <;> (conv => whnf)) | (refine ⟨⟨by kernel_rfl, by kernel_rfl⟩, ?_⟩; conv => whnf))
    all_goals (conv => lhs; whnf)
    all_goals (first | rfl | simp_all [sameF_self])
  · cases h
theorem g16 : Ax.Good Try.prog env 16 := by
  intro args r h
  rw [e16] at h
  unfold S16 at h
  split at h
  ·
    cases h
    refine Does.of_awp (X := cx 34 [20, 22, 54, 55]) (by simpa [cx] using ⟨g20, g22, g54, g55⟩) Try.func16 rfl (by kernel_rfl) rfl (by simp [cx]) [] (by simp) ?_
    conv => whnf
    repeat' (first | (refine br_intro (fun h => ?_) (fun h => ?_) <;> (conv => whnf)) | (refine ⟨⟨by kernel_rfl, by kernel_rfl⟩, ?_⟩; conv => whnf))
    all_goals (conv => lhs; whnf)
    all_goals (first | rfl | simp_all [sameF_self])
  · cases h
theorem g90 : Ax.Good Try.prog env 90 := by
  intro args r h
  rw [e90] at h
  unfold S90 at h
  split at h
  · rename_i a b c d x y z
    cases h
    refine Does.of_awp (X := cx 68 [67, 88]) (by simpa [cx] using ⟨g67, g88⟩) Try.func90 rfl (by kernel_rfl) rfl (by simp [cx]) [] (by simp) ?_
    conv => whnf
    repeat' (first | (refine br_intro (fun h => ?_) (fun h => ?_) <;> (conv => whnf)) | (refine ⟨⟨by kernel_rfl, by kernel_rfl⟩, ?_⟩; conv => whnf))
    all_goals (refine tup3 (agg4 ?_ ?_ ?_ ?_) ?_ ?_)
    all_goals (conv => lhs; whnf)
    all_goals (first | rfl | ( simp_all [snowN, snowO, snowW, snowU, snowT, snowV, snowI, snowM, pickV, K, fin0c]))
  · cases h
theorem g42 : Ax.Good Try.prog env 42 := by
  intro args r h
  rw [e42] at h
  unfold S42 at h
  split at h
  · rename_i a b c d x y z
    cases h
    refine Does.of_awp (X := cx 37 [67, 79, 88, 89, 90]) (by simpa [cx] using ⟨g67, g79, g88, g89, g90⟩) Try.func42 rfl (by kernel_rfl) rfl (by simp [cx]) [] (by simp) ?_
    conv => whnf
    repeat' (first | (refine br_intro (fun h => ?_) (fun h => ?_) <;> (conv => whnf)) | (refine ⟨⟨by kernel_rfl, by kernel_rfl⟩, ?_⟩; conv => whnf))
    all_goals (refine tup3 (agg4 ?_ ?_ ?_ ?_) ?_ ?_)
    all_goals (conv => lhs; whnf)
    all_goals (first | rfl | (cases hs : snowOk a b c d <;> cases hx : least x <;> cases hy : fin y <;> cases hz : above z <;> simp_all [snowG, pickV, K]))
  · cases h
theorem g44 : Ax.Good Try.prog env 44 := by
  intro args r h
  rw [e44] at h
  unfold S42 at h
  split at h
  · rename_i a b c d x y z
    cases h
    refine Does.of_awp (X := cx 92 [70, 77, 82, 91]) (by simpa [cx] using ⟨g70, g77, g82, g91⟩) Try.func44 rfl (by kernel_rfl) rfl (by simp [cx]) [] (by simp) ?_
    conv => whnf
    repeat' (first | (refine br_intro (fun h => ?_) (fun h => ?_) <;> (conv => whnf)) | (refine ⟨⟨by kernel_rfl, by kernel_rfl⟩, ?_⟩; conv => whnf))
    all_goals (refine tup3 (agg4 ?_ ?_ ?_ ?_) ?_ ?_)
    all_goals (conv => lhs; whnf)
    all_goals (first | rfl | ( simp_all [snowG, snowN, snowO, snowW, snowU, snowT, snowV, snowI, snowM, pickV, K, fin0c]))
  · cases h
theorem g45 : Ax.Good Try.prog env 45 := by
  intro args r h
  rw [e45] at h
  unfold S45 at h
  split at h
  ·
    cases h
    refine Does.of_awp (X := cx 37 [22]) (by simpa [cx] using g22) Try.func45 rfl (by kernel_rfl) rfl (by simp [cx]) [] (by simp) ?_
    conv => whnf
    repeat' (first | (refine br_intro (fun h => ?_) (fun h => ?_) <;> (conv => whnf)) | (refine ⟨⟨by kernel_rfl, by kernel_rfl⟩, ?_⟩; conv => whnf))
    all_goals (conv => lhs; whnf)
    all_goals (first | rfl | ( simp_all))
  · cases h
theorem g12 : Ax.Good Try.prog env 12 := by
  intro args r h
  rw [e12] at h
  unfold S12 at h
  split at h
  ·
    cases h
    refine Does.of_awp (X := cx 52 [22, 42, 43, 44, 45]) (by simpa [cx] using ⟨g22, g42, g43, g44, g45⟩) Try.func12 rfl (by kernel_rfl) rfl (by simp [cx]) [] (by simp) ?_
    conv => whnf
    repeat' (first | (refine br_intro (fun h => ?_) (fun h => ?_) <;> (conv => whnf)) | (refine ⟨⟨by kernel_rfl, by kernel_rfl⟩, ?_⟩; conv => whnf))
    all_goals (conv => lhs; whnf)
    all_goals (first | rfl | simp_all [sameF_self])
  · cases h
theorem g92 : Ax.Good Try.prog env 92 := by
  intro args r h
  rw [e92] at h
  unfold S92 at h
  split at h
  ·
    cases h
    refine Does.of_awp (X := cx 26 [81]) (by simpa [cx] using g81) Try.func92 rfl (by kernel_rfl) rfl (by simp [cx]) [] (by simp) ?_
    conv => whnf
    repeat' (first | (refine ⟨rfl, ?_⟩; conv => whnf) | (refine br_intro (fun h => ?_) (fun h => ?_) <;> (conv => whnf)) | (refine ⟨⟨by kernel_rfl, by kernel_rfl⟩, ?_⟩; conv => whnf))
    all_goals (conv => lhs; whnf)
    all_goals simp_all [gateV, gateE, K]
  · cases h
theorem g46 : Ax.Good Try.prog env 46 := by
  intro args r h
  rw [e46] at h
  unfold S46 at h
  split at h
  · rename_i a b c d
    cases h
    refine Does.of_awp (X := cx 36 [61, 67, 79, 92]) (by simpa [cx] using ⟨g61, g67, g79, g92⟩) Try.func46 rfl (by kernel_rfl) rfl (by simp [cx]) [] (by simp) ?_
    conv => whnf
    repeat' (first | (refine br_intro (fun h => ?_) (fun h => ?_) <;> (conv => whnf)) | (refine ⟨⟨by kernel_rfl, by kernel_rfl⟩, ?_⟩; conv => whnf))
    all_goals (refine tup2 ?_ ?_)
    all_goals (conv => lhs; whnf)
    all_goals (first | rfl | (cases ha : least a <;> cases hb : least b <;> cases hc : fin c <;> cases hd : fin d <;> simp_all [outV, numV, K]))
  · cases h
theorem g47 : Ax.Good Try.prog env 47 := by
  intro args r h
  rw [e47] at h
  unfold S46 at h
  split at h
  · rename_i a b c d
    cases h
    refine Does.of_awp (X := cx 42 [64, 85, 93, 94]) (by simpa [cx] using ⟨g64, g85, g93, g94⟩) Try.func47 rfl (by kernel_rfl) rfl (by simp [cx]) [] (by simp) ?_
    conv => whnf
    repeat' (first | (refine ⟨rfl, ?_⟩; conv => whnf) | (refine br_intro (fun h => ?_) (fun h => ?_) <;> (conv => whnf)) | (refine ⟨⟨by kernel_rfl, by kernel_rfl⟩, ?_⟩; conv => whnf))
    all_goals (refine tup2 ?_ ?_)
    all_goals (conv => lhs; whnf)
    all_goals (first | rfl | (cases ha : least a <;> cases hb : least b <;> cases hc : fin c <;> cases hd : fin d <;> simp_all [allL, allF, outV, numV, gateV, gateE, fin0c, half_eq, K]))
  · cases h
theorem g13 : Ax.Good Try.prog env 13 := by
  intro args r h
  rw [e13] at h
  unfold S13 at h
  split at h
  ·
    cases h
    refine Does.of_awp (X := cx 40 [22, 46, 47]) (by simpa [cx] using ⟨g22, g46, g47⟩) Try.func13 rfl (by kernel_rfl) rfl (by simp [cx]) [] (by simp) ?_
    conv => whnf
    repeat' (first | (refine br_intro (fun h => ?_) (fun h => ?_) <;> (conv => whnf)) | (refine ⟨⟨by kernel_rfl, by kernel_rfl⟩, ?_⟩; conv => whnf))
    all_goals (conv => lhs; whnf)
    all_goals (first | rfl | simp_all [sameF_self])
  · cases h
theorem g29 : Ax.Good Try.prog env 29 := by
  intro args r h
  rw [e29] at h
  unfold S29 at h
  split at h
  · rename_i n cs tg
    split at h
    · rename_i xs hxs
      have := flts_eq hxs
      subst this
      split at h
      · rename_i hn
        obtain ⟨rfl, hn⟩ := hn
        cases h
        refine Does.of_awp (X := cx 22 []) (fun f hf => by cases hf) Try.func29 rfl (by kernel_rfl) rfl (by simp [cx]) [28] (by simp) ?_
        conv => whnf
        refine ⟨⟨by omega, by omega, by omega⟩, by decide, ?_⟩
        conv => whnf
        refine ⟨fun fr L => ∃ i cells ys, xs.drop i = ys ∧ i + ys.length = xs.length ∧ cells.length = xs.length ∧ cells.take i = f32s (xs.take i) ∧ L = upd L0 28 (1, some cells) ∧ KN [(0, .sli 1 xs.length (f32s xs) tg), (3, .lsl 28 1 0 xs.length 1), (4, .int .i64 i)] fr,
          mu 4 xs.length, ⟨0, _, xs, rfl, by simp, (zerosA_length _ _).trans (show Int.toNat (xs.length : Int) * 1 = xs.length by simp), rfl, rfl, rfl, rfl, rfl, trivial⟩, ?_⟩
        rintro fr L ⟨i, cells, ys, hd, hl, hc, ht, rfl, hk⟩
        rw [← kn_eq _ _ hk]
        conv => whnf
        refine br_intro (fun h => ?_) (fun h => ?_) <;> (conv => whnf)
        · have hlt : i < xs.length := by simpa using h
          cases ys with
          | nil => simp at hl; omega
          | cons y ys =>
          refine ⟨rfl, ⟨by omega, by omega⟩, ?_⟩
          rw [drop_f32s hd]
          conv => whnf
          refine ⟨rfl, rfl, ⟨by omega, by omega⟩, ?_⟩
          conv => whnf
          have e : stB Try.prog (upd L0 28 (1, some cells)) 22 (.loc 28 1 (0 + Int.toNat (i : Int) * 1)) (.flt .f32 y) = some (upd L0 28 (1, some (cells.set (0 + Int.toNat (i : Int) * 1) (.flt .f32 y)))) := stB_flt (by kernel_rfl) (by simp; omega)
          generalize hz : stB _ _ _ _ _ = z
          have hz' := hz.symm.trans e
          subst hz'
          conv => whnf
          refine ⟨⟨i + 1, _, ys, ?_, ?_, ?_, ?_, rfl, rfl, rfl, ?_, trivial⟩, ?_⟩
          · rw [← List.drop_drop, hd]; rfl
          · simp at hl; omega
          · simp [hc]
          · have := take_set (cells := cells) (i := i) (by omega) ht hd
            simpa using this
          · exact congrArg (AV.int _) (i64_next (by omega))
          · show xs.length - (IntKind.i64.wrap ((i : Int) + 1)).toNat < xs.length - ((i : Int)).toNat
            rw [i64_next (by omega)]; omega
        · have hi : i = xs.length := by simp at h; omega
          subst hi
          exact exV_own rfl hc ht
      · cases h
    · cases h
  · cases h
theorem g71 : Ax.Good Try.prog env 71 := by
  intro args r h
  rw [e71] at h
  unfold S71 at h
  split at h
  · rename_i n cs tg
    split at h
    · rename_i xs hxs
      have := flts_eq hxs
      subst this
      split at h
      · rename_i hn
        obtain ⟨rfl, hn⟩ := hn
        cases h
        refine Does.of_awp (X := cx 24 [79]) (by simpa [cx] using g79) Try.func71 rfl (by kernel_rfl) rfl (by simp [cx]) [] (by simp) ?_
        conv => whnf
        refine ⟨fun fr L => ∃ i ys, xs.drop i = ys ∧ i + ys.length = xs.length ∧ allL xs = allL ys ∧ L = L0 ∧ KN [(0, .sli 1 xs.length (f32s xs) tg), (3, .int .i64 i)] fr,
          mu 3 xs.length, ⟨0, xs, rfl, by simp, rfl, rfl, rfl, rfl, trivial⟩, ?_⟩
        rintro fr L ⟨i, ys, hd, hl, hb, rfl, hk⟩
        rw [← kn_eq _ _ hk]
        conv => whnf
        refine br_intro (fun h => ?_) (fun h => ?_) <;> (conv => whnf)
        · have hlt : i < xs.length := by simpa using h
          refine br_intro (fun h3 => ?_) (fun h3 => ?_) <;> (conv => whnf)
          · cases ys with
            | nil => simp at hl; omega
            | cons y ys =>
            refine ⟨rfl, ⟨by omega, by omega⟩, ?_⟩
            rw [drop_f32s hd]
            conv => whnf
            refine br_intro (fun h => ?_) (fun h => ?_) <;> (conv => whnf)
            · conv => lhs; whnf
              unfold rainOk; rw [hb, allL]; simp at h; simp [h]
            · refine ⟨⟨i + 1, ys, ?_, ?_, ?_, rfl, rfl, ?_, trivial⟩, ?_⟩
              · rw [← List.drop_drop, hd]; rfl
              · simp at hl; omega
              · rw [hb, allL]; simp at h; simp [h]
              · exact congrArg (AV.int _) (i64_next (by omega))
              · show xs.length - (IntKind.i64.wrap ((i : Int) + 1)).toNat < xs.length - ((i : Int)).toNat
                rw [i64_next (by omega)]; omega
          · conv => lhs; whnf
            unfold rainOk; rw [h3]; rfl
        · cases ys with
          | cons y ys => simp at hl; simp at h; omega
          | nil =>
          conv => lhs; whnf
          unfold rainOk; rw [hb]; simp [allL]
      · cases h
    · cases h
  · cases h
theorem g31 : Ax.Good Try.prog env 31 := by
  intro args r h
  rw [e31] at h
  unfold S31 at h
  split at h
  · rename_i n cs tg n' ds tg'
    split at h
    · rename_i xs zs hxs hzs
      have := flts_eq hxs
      subst this
      have := flts_eq hzs
      subst this
      split at h
      · rename_i hn
        obtain ⟨rfl, rfl, hn, hn2⟩ := hn
        cases h
        refine Does.of_awp (X := cx 29 [22]) (by simpa [cx] using g22) Try.func31 rfl (by kernel_rfl) rfl (by simp [cx]) [] (by simp) ?_
        conv => whnf
        refine br_intro (fun h => ?_) (fun h => ?_) <;> (conv => whnf)
        · conv => lhs; whnf
          rw [sameL_len (by simp at h; omega)]
        have hlen : xs.length = zs.length := by simp at h; omega
        refine ⟨fun fr L => ∃ i ys us, xs.drop i = ys ∧ zs.drop i = us ∧ i + ys.length = xs.length ∧ i + us.length = zs.length ∧ sameL xs zs = sameL ys us ∧ L = L0 ∧ KN [(0, .sli 1 xs.length (f32s xs) tg), (1, .sli 1 zs.length (f32s zs) tg'), (5, .int .i64 i)] fr,
          mu 5 xs.length, ⟨0, xs, zs, rfl, rfl, by simp, by simp, rfl, rfl, rfl, rfl, rfl, trivial⟩, ?_⟩
        rintro fr L ⟨i, ys, us, hd, hd2, hl, hl2, hb, rfl, hk⟩
        rw [← kn_eq _ _ hk]
        conv => whnf
        refine br_intro (fun h => ?_) (fun h => ?_) <;> (conv => whnf)
        · have hlt : i < xs.length := by simpa using h
          cases ys with
          | nil => simp at hl; omega
          | cons y ys =>
          cases us with
          | nil => simp at hl2; omega
          | cons u us =>
          refine ⟨⟨by kernel_rfl, by kernel_rfl⟩, ?_⟩
          conv => whnf
          refine ⟨rfl, ⟨by omega, by omega⟩, ?_⟩
          rw [drop_f32s hd]
          conv => whnf
          refine ⟨rfl, ⟨by omega, by omega⟩, ?_⟩
          rw [drop_f32s hd2]
          conv => whnf
          refine br_intro (fun h => ?_) (fun h => ?_) <;> (conv => whnf)
          · conv => lhs; whnf
            rw [hb, sameL]; simp at h; simp [h]
          · refine ⟨⟨i + 1, ys, us, ?_, ?_, ?_, ?_, ?_, rfl, rfl, rfl, ?_, trivial⟩, ?_⟩
            · rw [← List.drop_drop, hd]; rfl
            · rw [← List.drop_drop, hd2]; rfl
            · simp at hl; omega
            · simp at hl2; omega
            · rw [hb, sameL]; simp at h; simp [h]
            · exact congrArg (AV.int _) (i64_next (by omega))
            · show xs.length - (IntKind.i64.wrap ((i : Int) + 1)).toNat < xs.length - ((i : Int)).toNat
              rw [i64_next (by omega)]; omega
        · cases ys with
          | cons y ys => simp at hl; simp at h; omega
          | nil =>
          cases us with
          | cons u us => simp at hl hl2; omega
          | nil =>
          conv => lhs; whnf
          rw [hb]; rfl
      · cases h
    · cases h
  · cases h
theorem g72 : Ax.Good Try.prog env 72 := by
  intro args r h
  rw [e72] at h
  unfold S71 at h
  split at h
  · rename_i n cs tg
    split at h
    · rename_i xs hxs
      have := flts_eq hxs
      subst this
      split at h
      · rename_i hn
        obtain ⟨rfl, hn⟩ := hn
        cases h
        refine Does.of_awp (X := cx 10 [93]) (by simpa [cx] using g93) Try.func72 rfl (by kernel_rfl) rfl (by simp [cx]) [] (by simp) ?_
        conv => whnf
        have e93 : ∀ tag, env 93 [.sli 1 xs.length (f32s xs) tag] = some (.bool (allL xs)) := fun tag => by
          show (match flts (f32s xs) with | some ys => if xs.length = ys.length ∧ xs.length < 2 ^ 40 then some (AV.bool (allL ys)) else none | none => none) = _
          rw [flts_f32s]; exact if_pos ⟨rfl, by omega⟩
        refine br_intro (fun h1 => ?_) (fun h1 => ?_) <;> (conv => whnf)
        · generalize hz : Cx.env _ 93 _ = z
          have hz' := hz.symm.trans (e93 (.sli 1 xs.length (f32s xs) tg))
          subst hz'
          clear hz
          conv => whnf
          repeat' (first | (refine br_intro (fun h => ?_) (fun h => ?_) <;> (conv => whnf)))
          all_goals (conv => lhs; whnf)
          all_goals (unfold rainOk; rw [h1]; first | rfl | simp_all)
        · repeat' (first | (refine br_intro (fun h => ?_) (fun h => ?_) <;> (conv => whnf)))
          all_goals (conv => lhs; whnf)
          all_goals (unfold rainOk; rw [h1]; rfl)
      · cases h
    · cases h
  · cases h
theorem g28 : Ax.Good Try.prog env 28 := by
  intro args r h
  rw [e28] at h
  unfold S28 at h
  split at h
  · rename_i n cs tg y
    split at h
    · rename_i xs hxs
      have := flts_eq hxs
      subst this
      split at h
      · rename_i hn
        obtain ⟨rfl, hn⟩ := hn
        cases h
        refine Does.of_awp (X := cx 38 [71]) (by simpa [cx] using g71) Try.func28 rfl (by kernel_rfl) rfl (by simp [cx]) [] (by simp) ?_
        conv => whnf
        have e71 : ∀ tag, env 71 [.sli 1 xs.length (f32s xs) tag] = some (AV.bool (rainOk xs)) := fun tag => by
          show (match flts (f32s xs) with | some ys => if xs.length = ys.length ∧ xs.length ≤ 1048576 then some (AV.bool (rainOk ys)) else none | none => none) = _
          rw [flts_f32s]; exact if_pos ⟨rfl, hn⟩
        generalize hz : Cx.env _ 71 _ = z
        have hz' := hz.symm.trans (e71 (.sli 1 xs.length (f32s xs) tg))
        subst hz'
        clear hz
        conv => whnf
        refine br_intro (fun hok => ?_) (fun hok => ?_) <;> (conv => whnf)
        · refine tup3' ?_ ?_ ?_ <;> (conv => lhs; whnf) <;> simp_all
        have hok' : rainOk xs = true := by simpa using hok
        refine ⟨fun fr L => ∃ i ys here st best, xs.drop i = ys ∧ i + ys.length = xs.length ∧ here ≤ i ∧ dryS y xs 0 0 0 0 = dryS y ys i here st best ∧ L = L0 ∧ KN [(0, .sli 1 xs.length (f32s xs) tg), (1, .flt .f32 y), (7, .int .i64 (st : Nat)), (8, .int .i64 (best : Nat)), (9, .int .i64 (here : Nat)), (15, .int .i64 xs.length), (16, .int .i64 i)] fr,
          mu 16 xs.length, ⟨0, xs, 0, 0, 0, rfl, by simp, Nat.le_refl _, rfl, rfl, rfl, rfl, rfl, rfl, rfl, rfl, rfl, trivial⟩, ?_⟩
        rintro fr L ⟨i, ys, here, st, best, hd, hl, hle, hb, rfl, hk⟩
        rw [← kn_eq _ _ hk]
        conv => whnf
        refine br_intro (fun h => ?_) (fun h => ?_) <;> (conv => whnf)
        · have hlt : i < xs.length := by simpa using h
          cases ys with
          | nil => simp at hl; omega
          | cons x ys =>
          have hmu : xs.length - (IntKind.i64.wrap ((i : Int) + 1)).toNat < xs.length - ((i : Int)).toNat := by rw [i64_next (by omega)]; omega
          refine ⟨rfl, ⟨by omega, by omega⟩, ?_⟩
          rw [drop_f32s hd]
          conv => whnf
          refine br_intro (fun hx => ?_) (fun hx => ?_) <;> (conv => whnf)
          · refine br_intro (fun h => ?_) (fun h => ?_) <;> (conv => whnf)
            · have hbh : best < here + 1 := by rw [i64_next (by omega)] at h; simp at h; omega
              refine ⟨⟨i + 1, ys, here + 1, i - here, here + 1, ?_, ?_, by omega, ?_, rfl, rfl, rfl, ?_, ?_, ?_, rfl, ?_, trivial⟩, hmu⟩
              · rw [← List.drop_drop, hd]; rfl
              · simp at hl; omega
              · rw [hb, dryS, hx, decide_eq_true hbh]; rfl
              · refine congrArg (AV.int _) ?_
                show IntKind.i64.wrap (IntKind.i64.wrap ((i : Int) + 1) - IntKind.i64.wrap ((here : Int) + 1)) = _
                rw [i64_next (by omega), i64_next (by omega), i64_sub (by omega) (by omega)]; omega
              · exact congrArg (AV.int _) (i64_next (by omega))
              · exact congrArg (AV.int _) (i64_next (by omega))
              · exact congrArg (AV.int _) (i64_next (by omega))
            · have hbh : ¬ best < here + 1 := by rw [i64_next (by omega)] at h; simp at h; omega
              refine ⟨⟨i + 1, ys, here + 1, st, best, ?_, ?_, by omega, ?_, rfl, rfl, rfl, rfl, rfl, ?_, rfl, ?_, trivial⟩, hmu⟩
              · rw [← List.drop_drop, hd]; rfl
              · simp at hl; omega
              · rw [hb, dryS, hx, decide_eq_false hbh]; rfl
              · exact congrArg (AV.int _) (i64_next (by omega))
              · exact congrArg (AV.int _) (i64_next (by omega))
          · refine ⟨⟨i + 1, ys, 0, st, best, ?_, ?_, by omega, ?_, rfl, rfl, rfl, rfl, rfl, rfl, rfl, ?_, trivial⟩, hmu⟩
            · rw [← List.drop_drop, hd]; rfl
            · simp at hl; omega
            · rw [hb, dryS, hx]; rfl
            · exact congrArg (AV.int _) (i64_next (by omega))
        · cases ys with
          | cons x ys => simp at hl; simp at h; omega
          | nil =>
          refine tup3' ?_ ?_ ?_ <;> (conv => lhs; whnf) <;> rw [hok'] <;> (try rw [hb]) <;> rfl
      · cases h
    · cases h
  · cases h
theorem g30 : Ax.Good Try.prog env 30 := by
  intro args r h
  rw [e30] at h
  unfold S28 at h
  split at h
  · rename_i n cs tg y
    split at h
    · rename_i xs hxs
      have := flts_eq hxs
      subst this
      split at h
      · rename_i hn
        obtain ⟨rfl, hn⟩ := hn
        cases h
        refine Does.of_awp (X := cx 42 [72]) (by simpa [cx] using g72) Try.func30 rfl (by kernel_rfl) rfl (by simp [cx]) [] (by simp) ?_
        conv => whnf
        have e72 : ∀ tag, env 72 [.sli 1 xs.length (f32s xs) tag] = some (AV.bool (rainOk xs)) := fun tag => by
          show (match flts (f32s xs) with | some ys => if xs.length = ys.length ∧ xs.length ≤ 1048576 then some (AV.bool (rainOk ys)) else none | none => none) = _
          rw [flts_f32s]; exact if_pos ⟨rfl, hn⟩
        generalize hz : Cx.env _ 72 _ = z
        have hz' := hz.symm.trans (e72 (.sli 1 xs.length (f32s xs) tg))
        subst hz'
        clear hz
        conv => whnf
        refine br_intro (fun hok => ?_) (fun hok => ?_) <;> (conv => whnf)
        · refine tup3' ?_ ?_ ?_ <;> (conv => lhs; whnf) <;> simp_all
        have hok' : rainOk xs = true := by simpa using hok
        refine ⟨fun fr L => ∃ i ys here fm st best, xs.drop i = ys ∧ i + ys.length = xs.length ∧ fm + here = i ∧ dryS y xs 0 0 0 0 = dryS y ys i here st best ∧ L = L0 ∧ KN [(1, .flt .f32 y), (7, .int .i64 (st : Nat)), (8, .int .i64 (best : Nat)), (9, .int .i64 (fm : Nat)), (15, .sli 1 xs.length (f32s xs) tg), (16, .int .i64 xs.length), (17, .int .i64 i)] fr,
          mu 17 xs.length, ⟨0, xs, 0, 0, 0, 0, rfl, by simp, rfl, rfl, rfl, rfl, rfl, rfl, rfl, rfl, rfl, rfl, trivial⟩, ?_⟩
        rintro fr L ⟨i, ys, here, fm, st, best, hd, hl, hle, hb, rfl, hk⟩
        rw [← kn_eq _ _ hk]
        conv => whnf
        refine br_intro (fun h => ?_) (fun h => ?_) <;> (conv => whnf)
        · have hlt : i < xs.length := by simpa using h
          cases ys with
          | nil => simp at hl; omega
          | cons x ys =>
          have hmu : xs.length - (IntKind.i64.wrap ((i : Int) + 1)).toNat < xs.length - ((i : Int)).toNat := by rw [i64_next (by omega)]; omega
          refine ⟨rfl, ⟨by omega, by omega⟩, ?_⟩
          rw [drop_f32s hd]
          conv => whnf
          refine br_intro (fun hx => ?_) (fun hx => ?_) <;> (conv => whnf)
          · have hx' : fcmp .leq .f32 x y = false := by simpa using hx
            refine ⟨⟨i + 1, ys, 0, i + 1, st, best, ?_, ?_, by omega, ?_, rfl, rfl, rfl, rfl, ?_, rfl, rfl, ?_, trivial⟩, hmu⟩
            · rw [← List.drop_drop, hd]; rfl
            · simp at hl; omega
            · rw [hb, dryS, hx']; rfl
            · exact congrArg (AV.int _) (i64_next (by omega))
            · exact congrArg (AV.int _) (i64_next (by omega))
          · have hx' : fcmp .leq .f32 x y = true := by simpa using hx
            have hw : IntKind.i64.wrap (IntKind.i64.wrap ((i : Int) + 1) - (fm : Int)) = ((here + 1 : Nat) : Int) := by
              rw [i64_next (by omega), i64_sub (by omega) (by omega)]; omega
            refine br_intro (fun h => ?_) (fun h => ?_) <;> (conv => whnf)
            · have hbh : best < here + 1 := by rw [hw] at h; simp at h; omega
              refine ⟨⟨i + 1, ys, here + 1, fm, i - here, here + 1, ?_, ?_, by omega, ?_, rfl, rfl, ?_, ?_, rfl, rfl, rfl, ?_, trivial⟩, hmu⟩
              · rw [← List.drop_drop, hd]; rfl
              · simp at hl; omega
              · rw [hb, dryS, hx', decide_eq_true hbh]; rfl
              · refine congrArg (AV.int _) ?_
                show (fm : Int) = _
                omega
              · exact congrArg (AV.int _) hw
              · exact congrArg (AV.int _) (i64_next (by omega))
            · have hbh : ¬ best < here + 1 := by rw [hw] at h; simp at h; omega
              refine ⟨⟨i + 1, ys, here + 1, fm, st, best, ?_, ?_, by omega, ?_, rfl, rfl, rfl, rfl, rfl, rfl, rfl, ?_, trivial⟩, hmu⟩
              · rw [← List.drop_drop, hd]; rfl
              · simp at hl; omega
              · rw [hb, dryS, hx', decide_eq_false hbh]; rfl
              · exact congrArg (AV.int _) (i64_next (by omega))
        · cases ys with
          | cons x ys => simp at hl; simp at h; omega
          | nil =>
          refine tup3' ?_ ?_ ?_ <;> (conv => lhs; whnf) <;> rw [hok'] <;> (try rw [hb]) <;> rfl
      · cases h
    · cases h
  · cases h
theorem g6 : Ax.Good Try.prog env 6 := by
  intro args r h
  rw [e6] at h
  unfold S6 at h
  split at h
  · rename_i n cs tg y
    split at h
    · rename_i xs hxs
      have := flts_eq hxs
      subst this
      split at h
      · rename_i hn
        subst hn
        cases h
        refine Does.of_awp (X := cx 50 [28, 29, 30, 31]) (by simpa [cx] using ⟨g28, g29, g30, g31⟩) Try.func6 rfl (by kernel_rfl) rfl (by simp [cx]) [] (by simp) ?_
        conv => whnf
        refine br_intro (fun h => ?_) (fun h => ?_) <;> (conv => whnf)
        · rfl
        · have hn : xs.length ≤ 1048576 := by simp at h; omega
          have e29 : ∀ tag, env 29 [.sli 1 xs.length (f32s xs) tag] = some (AV.own 0 1 xs.length (f32s xs)) := fun tag => by
            show (match flts (f32s xs) with | some ys => if xs.length = ys.length ∧ xs.length ≤ 1048576 then some (AV.own 0 1 xs.length (f32s ys)) else none | none => none) = _
            rw [flts_f32s]; exact if_pos ⟨rfl, hn⟩
          have e28 : ∀ tag, env 28 [.sli 1 xs.length (f32s xs) tag, .flt .f32 y] = some (AV.tup [AV.int .i64 ((bif rainOk xs then (dryS y xs 0 0 0 0).1 else 0 : Nat) : Int), AV.int .i64 ((bif rainOk xs then (dryS y xs 0 0 0 0).2 else 0 : Nat) : Int), AV.bool (rainOk xs)]) := fun tag => by
            show (match flts (f32s xs) with | some zs => if xs.length = zs.length ∧ xs.length ≤ 1048576 then some (AV.tup [AV.int .i64 ((bif rainOk zs then (dryS y zs 0 0 0 0).1 else 0 : Nat) : Int), AV.int .i64 ((bif rainOk zs then (dryS y zs 0 0 0 0).2 else 0 : Nat) : Int), AV.bool (rainOk zs)]) else none | none => none) = _
            rw [flts_f32s]; exact if_pos ⟨rfl, hn⟩
          have k28 : ∀ L k g, L k = (g, some (f32s xs)) → env 28 [fz 4 L (.lsl k g 0 xs.length 1), .flt .f32 y] = some (AV.tup [AV.int .i64 ((bif rainOk xs then (dryS y xs 0 0 0 0).1 else 0 : Nat) : Int), AV.int .i64 ((bif rainOk xs then (dryS y xs 0 0 0 0).2 else 0 : Nat) : Int), AV.bool (rainOk xs)]) := fun L k g h => by rw [fz_own h]; exact e28 _
          have e30 : ∀ tag, env 30 [.sli 1 xs.length (f32s xs) tag, .flt .f32 y] = some (AV.tup [AV.int .i64 ((bif rainOk xs then (dryS y xs 0 0 0 0).1 else 0 : Nat) : Int), AV.int .i64 ((bif rainOk xs then (dryS y xs 0 0 0 0).2 else 0 : Nat) : Int), AV.bool (rainOk xs)]) := fun tag => by
            show (match flts (f32s xs) with | some zs => if xs.length = zs.length ∧ xs.length ≤ 1048576 then some (AV.tup [AV.int .i64 ((bif rainOk zs then (dryS y zs 0 0 0 0).1 else 0 : Nat) : Int), AV.int .i64 ((bif rainOk zs then (dryS y zs 0 0 0 0).2 else 0 : Nat) : Int), AV.bool (rainOk zs)]) else none | none => none) = _
            rw [flts_f32s]; exact if_pos ⟨rfl, hn⟩
          have k30 : ∀ L k g, L k = (g, some (f32s xs)) → env 30 [fz 4 L (.lsl k g 0 xs.length 1), .flt .f32 y] = some (AV.tup [AV.int .i64 ((bif rainOk xs then (dryS y xs 0 0 0 0).1 else 0 : Nat) : Int), AV.int .i64 ((bif rainOk xs then (dryS y xs 0 0 0 0).2 else 0 : Nat) : Int), AV.bool (rainOk xs)]) := fun L k g h => by rw [fz_own h]; exact e30 _
          have e31 : ∀ tag tag', env 31 [.sli 1 xs.length (f32s xs) tag, .sli 1 xs.length (f32s xs) tag'] = some (.bool (sameL xs xs)) := fun tag tag' => by
            show (match flts (f32s xs), flts (f32s xs) with | some ys, some us => if xs.length = ys.length ∧ xs.length = us.length ∧ xs.length ≤ 1048576 ∧ xs.length ≤ 1048576 then some (AV.bool (sameL ys us)) else none | _, _ => none) = _
            rw [flts_f32s]; exact if_pos ⟨rfl, rfl, hn, hn⟩
          have k31 : ∀ L k g k' g', L k = (g, some (f32s xs)) → L k' = (g', some (f32s xs)) → env 31 [fz 4 L (.lsl k g 0 xs.length 1), fz 4 L (.lsl k' g' 0 xs.length 1)] = some (.bool (sameL xs xs)) := fun L k g k' g' h h' => by rw [fz_own h, fz_own h']; exact e31 _ _
          generalize hz : Cx.env _ 29 _ = z
          have hz' := hz.symm.trans (e29 (.sli 1 xs.length (f32s xs) tg))
          subst hz'
          clear hz
          conv => whnf
          generalize hz : Cx.env _ 28 _ = z
          have hz' := hz.symm.trans (k28 _ 68 1 rfl)
          subst hz'
          clear hz
          conv => whnf
          generalize hz : Cx.env _ 29 _ = z
          have hz' := hz.symm.trans (e29 (.sli 1 xs.length (f32s xs) tg))
          subst hz'
          clear hz
          conv => whnf
          generalize hz : Cx.env _ 30 _ = z
          have hz' := hz.symm.trans (k30 _ 96 1 rfl)
          subst hz'
          clear hz
          conv => whnf
          repeat' (first | (refine br_intro (fun h => ?_) (fun h => ?_) <;> (conv => whnf)))
          all_goals (first | (simp at *; done) | skip)
          all_goals
            generalize hz : Cx.env _ 29 _ = z
            have hz' := hz.symm.trans (e29 (.sli 1 xs.length (f32s xs) tg))
            subst hz'
            clear hz
            conv => whnf
            generalize hz : Cx.env _ 31 _ = z
            have hz' := hz.symm.trans (k31 _ 96 1 188 1 rfl rfl)
            subst hz'
            clear hz
            conv => whnf
            refine br_intro (fun h => ?_) (fun h => ?_) <;> (conv => whnf)
            · rw [sameL_self] at h; cases h
            · rfl
      · cases h
    · cases h
  · cases h
theorem a6 (ys : List Nat) (y : Nat) : env 6 [.sli 1 ys.length (f32s ys) .undef, .flt .f32 y] = some (.bool true) := by
  show (match flts (f32s ys) with | some xs => if ys.length = xs.length then some (AV.bool true) else none | none => none) = _
  rw [flts_f32s]; exact if_pos rfl
theorem g101 : Ax.Good Try.prog env 101 := by
  intro args r h
  rw [e101] at h
  unfold S101 at h
  split at h
  ·
    cases h
    refine Does.of_awp (X := cx 38 [21, 24]) (by simpa [cx] using ⟨g21, g24⟩) Try.func101 rfl (by kernel_rfl) rfl (by simp [cx]) [] (by simp) ?_
    conv => whnf
    repeat' (first | (refine br_intro (fun h => ?_) (fun h => ?_) <;> (conv => whnf)) | (refine ⟨⟨by kernel_rfl, by kernel_rfl⟩, ?_⟩; conv => whnf))
    all_goals (refine tup2 ?_ ?_)
    all_goals (conv => lhs; whnf)
    all_goals (first | rfl | ( simp_all [critOk]))
  · cases h
theorem g99 : Ax.Good Try.prog env 99 := by
  intro args r h
  rw [e99] at h
  unfold S99 at h
  split at h
  · rename_i a b c d tg q
    cases h
    refine Does.of_awp (X := cx 61 [19, 23]) (by simpa [cx] using ⟨g19, g23⟩) Try.func99 rfl (by kernel_rfl) rfl (by simp [cx]) [] (by simp) ?_
    conv => whnf
    refine ⟨fun fr L => ∃ i r lo hi, i + r = 40 ∧ crit a b c d q 40 (K 0) (K 1148846080) = crit a b c d q r lo hi ∧ L = L0 ∧ KN [(0, .ref [.flt .f32 a, .flt .f32 b, .flt .f32 c, .flt .f32 d] tg), (1, .flt .f32 q), (6, .flt .f32 lo), (7, .flt .f32 hi), (8, .int .i64 (i : Nat))] fr,
      mu 8 40, ⟨0, 40, _, _, rfl, rfl, rfl, rfl, rfl, rfl, rfl, rfl, trivial⟩, ?_⟩
    rintro fr L ⟨i, r, lo, hi, hl, hb, rfl, hk⟩
    rw [← kn_eq _ _ hk]
    conv => whnf
    refine br_intro (fun h => ?_) (fun h => ?_) <;> (conv => whnf)
    · cases r with
      | zero => simp at h; omega
      | succ r =>
      refine br_intro (fun h1 => ?_) (fun h1 => ?_) <;> (conv => whnf)
      · simp only [Bool.not_eq_true'] at h1
        have hc : critOk a b c d (midV lo hi) = false := by unfold critOk midV K; rw [h1]; rfl
        refine tup2 ?_ ?_ <;> (conv => lhs; whnf) <;> rw [hb, crit, hc] <;> rfl
      · simp only [Bool.not_eq_false'] at h1
        refine br_intro (fun h2 => ?_) (fun h2 => ?_) <;> (conv => whnf)
        · simp only [Bool.not_eq_true'] at h2
          have hc : critOk a b c d (midV lo hi) = false := by unfold critOk midV K; rw [h1, h2]; rfl
          refine tup2 ?_ ?_ <;> (conv => lhs; whnf) <;> rw [hb, crit, hc] <;> rfl
        · simp only [Bool.not_eq_false'] at h2
          have hc : critOk a b c d (midV lo hi) = true := by unfold critOk midV K; rw [h1, h2]; rfl
          refine br_intro (fun h3 => ?_) (fun h3 => ?_) <;> (conv => whnf)
          · have hu : critUp a b c d q (midV lo hi) = true := h3
            refine ⟨⟨i + 1, r, lo, midV lo hi, by omega, ?_, rfl, rfl, rfl, rfl, rfl, ?_, trivial⟩, ?_⟩
            · rw [hb, crit, hc, hu]; rfl
            · exact congrArg (AV.int _) (i64_next (by omega))
            · show 40 - (IntKind.i64.wrap ((i : Int) + 1)).toNat < 40 - ((i : Int)).toNat
              rw [i64_next (by omega)]; omega
          · have hu : critUp a b c d q (midV lo hi) = false := h3
            refine ⟨⟨i + 1, r, midV lo hi, hi, by omega, ?_, rfl, rfl, rfl, rfl, rfl, ?_, trivial⟩, ?_⟩
            · rw [hb, crit, hc, hu]; rfl
            · exact congrArg (AV.int _) (i64_next (by omega))
            · show 40 - (IntKind.i64.wrap ((i : Int) + 1)).toNat < 40 - ((i : Int)).toNat
              rw [i64_next (by omega)]; omega
    · cases r with
      | succ r => simp at h; omega
      | zero =>
      refine tup2 ?_ ?_ <;> (conv => lhs; whnf) <;> rw [hb] <;> rfl
  · cases h
theorem g100 : Ax.Good Try.prog env 100 := by
  intro args r h
  rw [e100] at h
  unfold S100 at h
  split at h
  · rename_i lo0 hi0 f a b c d t1 q t2
    split at h
    · rename_i hf
      subst hf
      cases h
      refine Does.of_awp (X := cx 32 [101]) (by simpa [cx] using g101) Try.func100 rfl (by kernel_rfl) rfl (by simp [cx]) [] (by simp) ?_
      conv => whnf
      refine ⟨fun fr L => ∃ i r lo hi, i + r = 40 ∧ crit a b c d q 40 lo0 hi0 = crit a b c d q r lo hi ∧ L = L0 ∧ KN [(0, .flt .f32 lo), (1, .flt .f32 hi), (2, .fn 101 [.ref [.flt .f32 a, .flt .f32 b, .flt .f32 c, .flt .f32 d] t1, .ref [.flt .f32 q] t2]), (12, .int .i64 (i : Nat))] fr,
        mu 12 40, ⟨0, 40, _, _, rfl, rfl, rfl, rfl, rfl, rfl, rfl, trivial⟩, ?_⟩
      rintro fr L ⟨i, r, lo, hi, hl, hb, rfl, hk⟩
      rw [← kn_eq _ _ hk]
      conv => whnf
      refine br_intro (fun h => ?_) (fun h => ?_) <;> (conv => whnf)
      · cases r with
        | zero => simp at h; omega
        | succ r =>
        refine br_intro (fun h1 => ?_) (fun h1 => ?_) <;> (conv => whnf)
        · simp only [Bool.not_eq_true'] at h1
          have hc : critOk a b c d (midV lo hi) = false := h1
          refine tup3' ?_ ?_ ?_ <;> (conv => lhs; whnf) <;> rw [hb, crit, hc] <;> rfl
        · simp only [Bool.not_eq_false'] at h1
          have hc : critOk a b c d (midV lo hi) = true := h1
          refine br_intro (fun h3 => ?_) (fun h3 => ?_) <;> (conv => whnf)
          · have hu : critUp a b c d q (midV lo hi) = true := h3
            refine ⟨⟨i + 1, r, lo, midV lo hi, by omega, ?_, rfl, rfl, rfl, rfl, ?_, trivial⟩, ?_⟩
            · rw [hb, crit, hc, hu]; rfl
            · exact congrArg (AV.int _) (i64_next (by omega))
            · show 40 - (IntKind.i64.wrap ((i : Int) + 1)).toNat < 40 - ((i : Int)).toNat
              rw [i64_next (by omega)]; omega
          · have hu : critUp a b c d q (midV lo hi) = false := h3
            refine ⟨⟨i + 1, r, midV lo hi, hi, by omega, ?_, rfl, rfl, rfl, rfl, ?_, trivial⟩, ?_⟩
            · rw [hb, crit, hc, hu]; rfl
            · exact congrArg (AV.int _) (i64_next (by omega))
            · show 40 - (IntKind.i64.wrap ((i : Int) + 1)).toNat < 40 - ((i : Int)).toNat
              rw [i64_next (by omega)]; omega
      · cases r with
        | succ r => simp at h; omega
        | zero =>
        refine tup3' ?_ ?_ ?_ <;> (conv => lhs; whnf) <;> rw [hb] <;> rfl
    · cases h
  · cases h
theorem g56 : Ax.Good Try.prog env 56 := by
  intro args r h
  rw [e56] at h
  unfold S56 at h
  split at h
  · rename_i a b c d q
    cases h
    refine Does.of_awp (X := cx 17 [89, 98, 99]) (by simpa [cx] using ⟨g89, g98, g99⟩) Try.func56 rfl (by kernel_rfl) rfl (by simp [cx]) [] (by simp) ?_
    conv => whnf
    repeat' (first | (refine br_intro (fun h => ?_) (fun h => ?_) <;> (conv => whnf)) | (refine ⟨⟨by kernel_rfl, by kernel_rfl⟩, ?_⟩; conv => whnf))
    all_goals (refine tup2 ?_ ?_)
    all_goals (conv => lhs; whnf)
    all_goals (first | rfl | (cases hs : sectOk a b c d <;> cases hx : above q <;> simp_all [crit0, critH, critB, K]))
  · cases h
theorem g57 : Ax.Good Try.prog env 57 := by
  intro args r h
  rw [e57] at h
  unfold S56 at h
  split at h
  · rename_i a b c d q
    cases h
    refine Does.of_awp (X := cx 22 [63, 100]) (by simpa [cx] using ⟨g63, g100⟩) Try.func57 rfl (by kernel_rfl) rfl (by simp [cx]) [] (by simp) ?_
    conv => whnf
    repeat' (first | (refine br_intro (fun h => ?_) (fun h => ?_) <;> (conv => whnf)) | (refine ⟨⟨by kernel_rfl, by kernel_rfl⟩, ?_⟩; conv => whnf))
    all_goals (refine tup2 ?_ ?_)
    all_goals (conv => lhs; whnf)
    all_goals (first | rfl | (cases hs : sectOk a b c d <;> cases hx : above q <;> simp_all [allA, crit0, critH, critB, K]))
  · cases h
theorem g17 : Ax.Good Try.prog env 17 := by
  intro args r h
  rw [e17] at h
  unfold S17 at h
  split at h
  ·
    cases h
    refine Does.of_awp (X := cx 34 [20, 22, 56, 57]) (by simpa [cx] using ⟨g20, g22, g56, g57⟩) Try.func17 rfl (by kernel_rfl) rfl (by simp [cx]) [] (by simp) ?_
    conv => whnf
    repeat' (first | (refine br_intro (fun h => ?_) (fun h => ?_) <;> (conv => whnf)) | (refine ⟨⟨by kernel_rfl, by kernel_rfl⟩, ?_⟩; conv => whnf))
    all_goals (conv => lhs; whnf)
    all_goals (first | rfl | simp_all [sameF_self])
  · cases h
end Go.Proofs.Ytkjdcbgliekjnaa
