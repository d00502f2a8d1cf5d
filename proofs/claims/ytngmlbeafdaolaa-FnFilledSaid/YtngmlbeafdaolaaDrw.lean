/- What each function of this seat does (Drw). Printed from templates of this seat's own. -/
import Derived.Test.YtngmlbeafdaolaaMrk
import Derived.Test.YtngmlbeafdaolaaSrc
namespace Go.Proofs.Ytngmlbeafdaolaa
open Go.Ax Go.Bx
set_option maxRecDepth 8000
set_option linter.unusedSimpArgs false
set_option linter.unusedVariables false
/-- Numbers drawn one after another, each below n. -/
noncomputable def drS (bs : List Int) (n : Int) : Nat → Nat × Int
  | 0 => (0, 0)
  | i + 1 => ((pk bs (drS bs n i).1 (drS bs n i).2 n).2.1, (pk bs (drS bs n i).1 (drS bs n i).2 n).2.2)
noncomputable def drN (bs : List Int) (n : Int) (i : Nat) : Int := (pk bs (drS bs n i).1 (drS bs n i).2 n).1
theorem drS_bound {bs : List Int} {n : Int} (hb : Byt bs) (hn : n ≤ 65536) : ∀ i : Nat, i ≤ 1048576 → (drS bs n i).1 ≤ 2 * i
  | 0, _ => Nat.le_refl _
  | i + 1, h => by
    have h1 := drS_bound hb hn i (by omega)
    have := (pk_bound (p := (drS bs n i).1) (s := (drS bs n i).2) hb (by omega) hn).1
    simp only [drS]; omega
theorem drN_bound {bs : List Int} {n : Int} (hb : Byt bs) (hn : n ≤ 65536) (h0 : 0 < n) {i : Nat} (hi : i ≤ 1048576) : 0 ≤ drN bs n i ∧ drN bs n i < n := by
  have h1 := drS_bound hb hn i hi
  have := pk_bound (p := (drS bs n i).1) (s := (drS bs n i).2) (n := n) hb (by omega) hn
  exact ⟨this.2.1, this.2.2 h0⟩
noncomputable def rnW (bs : List Int) (i : Nat) : Nat := fop .quo .f32 (foi .f32 (drN bs 9 i)) (canon .f32 1082130432)

end Go.Proofs.Ytngmlbeafdaolaa
