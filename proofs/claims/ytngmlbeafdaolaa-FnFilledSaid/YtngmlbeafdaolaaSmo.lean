/- What each function of this seat does (Smo). Printed from templates of this seat's own. -/
import Derived.Test.YtngmlbeafdaolaaNbr
namespace Go.Proofs.Ytngmlbeafdaolaa
open Go.Ax Go.Bx
set_option maxRecDepth 8000
set_option linter.unusedSimpArgs false
set_option linter.unusedVariables false
section
variable (W H : Int) (xs : List Nat) (c : Int)
noncomputable def smF (a : Nat) (r : Int × Nat) : Nat := fop .add .f32 a (xs.getD r.1.toNat 0)
noncomputable def smI : Nat := fop .add .f32 (canon .f32 0) (xs.getD c.toNat 0)
noncomputable def smS (k : Nat) : Nat := (nbL W H c k).foldl (smF xs) (smI xs c)
noncomputable def smV : Nat := fop .quo .f32 (smS W H xs c 8) (foi .f32 ((nbL W H c 8).length + 1))
noncomputable def smL : List Nat := tabN (fun i => smV W H xs (i : Nat)) (W * H).toNat
end
theorem smS_no {W H c : Int} {xs : List Nat} {k : Nat} (h : nbOk W H c k = false) : smS W H xs c k = smS W H xs c (k + 1) := by
  unfold smS; rw [← nbL_no h]
theorem smS_yes {W H c : Int} {xs : List Nat} {k : Nat} (h : nbOk W H c k = true) : fop .add .f32 (smS W H xs c k) (xs.getD (nbC W c k).toNat 0) = smS W H xs c (k + 1) := by
  unfold smS; rw [← nbL_yes h, List.foldl_append]; rfl
theorem nbAt_neg {W H c : Int} {k : Nat} (h : nbOk W H c k = false) : nbAt W H c k = -1 := by unfold nbAt; rw [h]; rfl
theorem nbAt_pos {W H c : Int} {k : Nat} (h : nbOk W H c k = true) : nbAt W H c k = nbC W c k := by unfold nbAt; rw [h]; rfl
theorem nearL_getD {W H c : Int} {k : Nat} (h : k < 8) : (nearL W H c).getD k 0 = nbAt W H c k := tabN_getD _ h _
noncomputable def hlC (W H : Int) (xs out : List Nat) : Bool := hillB W H xs && hillB W H out
noncomputable def hlO (W H : Int) (xs out : List Nat) : List Nat := bif hlC W H xs out then out else []
noncomputable def hlR (W H : Int) (xs out : List Nat) : AV := .tup [.agg [.int .i64 (selI (hlC W H xs out) W), .int .i64 (selI (hlC W H xs out) H), .own 0 .f32 (hlO W H xs out)], .bool (hlC W H xs out)]

end Go.Proofs.Ytngmlbeafdaolaa
