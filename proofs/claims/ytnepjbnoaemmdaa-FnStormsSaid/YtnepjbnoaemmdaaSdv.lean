/- What each function of this seat does (Sdv). Printed from templates of this seat's own. -/
import Derived.Test.YtnepjbnoaemmdaaSda
import Derived.Test.YtnepjbnoaemmdaaSdb
import Derived.Test.YtnepjbnoaemmdaaSdc
import Derived.Test.YtnepjbnoaemmdaaSdd
namespace Go.Proofs.Ytnepjbnoaemmdaa
open Go.Ax Go.Bx
set_option maxRecDepth 8000
set_option linter.unusedSimpArgs false
set_option linter.unusedVariables false
theorem dvB_all {k i : Nat} (hk : k < 32) (hi : i < 1024) : dvB k i = true :=
  match k, hk with
  | 0, _ => of_tab tab_dv0 hi
  | 1, _ => of_tab tab_dv1 hi
  | 2, _ => of_tab tab_dv2 hi
  | 3, _ => of_tab tab_dv3 hi
  | 4, _ => of_tab tab_dv4 hi
  | 5, _ => of_tab tab_dv5 hi
  | 6, _ => of_tab tab_dv6 hi
  | 7, _ => of_tab tab_dv7 hi
  | 8, _ => of_tab tab_dv8 hi
  | 9, _ => of_tab tab_dv9 hi
  | 10, _ => of_tab tab_dv10 hi
  | 11, _ => of_tab tab_dv11 hi
  | 12, _ => of_tab tab_dv12 hi
  | 13, _ => of_tab tab_dv13 hi
  | 14, _ => of_tab tab_dv14 hi
  | 15, _ => of_tab tab_dv15 hi
  | 16, _ => of_tab tab_dv16 hi
  | 17, _ => of_tab tab_dv17 hi
  | 18, _ => of_tab tab_dv18 hi
  | 19, _ => of_tab tab_dv19 hi
  | 20, _ => of_tab tab_dv20 hi
  | 21, _ => of_tab tab_dv21 hi
  | 22, _ => of_tab tab_dv22 hi
  | 23, _ => of_tab tab_dv23 hi
  | 24, _ => of_tab tab_dv24 hi
  | 25, _ => of_tab tab_dv25 hi
  | 26, _ => of_tab tab_dv26 hi
  | 27, _ => of_tab tab_dv27 hi
  | 28, _ => of_tab tab_dv28 hi
  | 29, _ => of_tab tab_dv29 hi
  | 30, _ => of_tab tab_dv30 hi
  | 31, _ => of_tab tab_dv31 hi
  | k + 32, h => absurd h (by omega)
theorem dy_draw {m : Nat} (h : m < 32768) : Dy .f32 15 ((m + 1 : Nat) : Int) (fop .quo .f32 (foi .f32 ((m + 1 : Nat) : Int)) (canon .f32 1191182336)) := by
  rw [foi_eq]
  have hk : m / 1024 < 32 := by omega
  have hi : m % 1024 < 1024 := Nat.mod_lt _ (by omega)
  have e : m + 1 = 1024 * (m / 1024) + m % 1024 + 1 := by omega
  have := dvB_all hk hi
  unfold dvB at this
  rw [← e] at this
  exact dyB_spec this

end Go.Proofs.Ytnepjbnoaemmdaa
