/- Small laws of whole numbers. -/
import Derived.Test.YtkjdcbgliekjnaaAxL
namespace Go.Ax
theorem i64_sub {a b : Nat} (h : b ≤ a) (ha : a < 2 ^ 40) : IntKind.i64.wrap ((a : Int) - (b : Int)) = ((a - b : Nat) : Int) := by rw [IntKind.wrap_i64]; omega
theorem tup3' {a b c d e f : AV} (h1 : a = d) (h2 : b = e) (h3 : c = f) : AV.tup [a, b, c] = AV.tup [d, e, f] := by rw [h1, h2, h3]
end Go.Ax
