/- What each function of this seat does (Sd0). Printed from templates of this seat's own. -/
import Derived.Test.YtnepjbnoaemmdaaNr1
namespace Go.Proofs.Ytnepjbnoaemmdaa
open Go.Ax Go.Bx
set_option maxRecDepth 8000
set_option linter.unusedSimpArgs false
set_option linter.unusedVariables false
def dvB (k i : Nat) : Bool := dyB .f32 15 ((1024 * k + i + 1 : Nat) : Int) (fop .quo .f32 (floatOfInt .f32 ((1024 * k + i + 1 : Nat) : Int)) (canon .f32 1191182336))

end Go.Proofs.Ytnepjbnoaemmdaa
