/- What each function of this seat does (Fal). Printed from templates of this seat's own. -/
import Derived.Test.YtldlfjcaaaigkaaSm2
import Derived.Test.YtldlfjcaaaigkaaBxA
namespace Go.Proofs.Ytldlfjcaaaigkaa
open Go.Ax Go.Bx
set_option maxRecDepth 8000
set_option linter.unusedSimpArgs false
set_option linter.unusedVariables false
section
variable (W H : Int) (xs : List Nat) (c : Int)
noncomputable def flD (r : Int × Nat) : Nat := fop .quo .f32 (fop .sub .f32 (xs.getD c.toNat 0) (xs.getD r.1.toNat 0)) r.2
noncomputable def flF (s : Int × Nat) (r : Int × Nat) : Int × Nat := bif fcmp .gtr .f32 (flD xs c r) s.2 then (r.1, flD xs c r) else s
noncomputable def flS (k : Nat) : Int × Nat := (nbL W H c k).foldl (flF xs c) (-1, canon .f32 0)
end
theorem hid_ex {α : Type} (x : α) : ∃ y, y = x := ⟨x, rfl⟩
/-- A value that no reckoner unfolds. -/
noncomputable def hid {α : Type} (x : α) : α := Classical.choose (hid_ex x)
theorem hid_eq {α : Type} (x : α) : hid x = x := Classical.choose_spec (hid_ex x)
noncomputable def flR (W H : Int) (xs : List Nat) (c : Int) : Int × Nat := hid (flS W H xs c 8)
theorem flR_eq (W H : Int) (xs : List Nat) (c : Int) : flR W H xs c = flS W H xs c 8 := hid_eq _
theorem flS_no {W H c : Int} {xs : List Nat} {k : Nat} (h : nbOk W H c k = false) : flS W H xs c k = flS W H xs c (k + 1) := by
  unfold flS; rw [← nbL_no h]
theorem flS_yes {W H c : Int} {xs : List Nat} {k : Nat} (h : nbOk W H c k = true) : flF xs c (flS W H xs c k) (nbC W c k, farK k) = flS W H xs c (k + 1) := by
  unfold flS; rw [← nbL_yes h, List.foldl_append]; rfl

theorem getD_setG {α : Type} {d : α} (l : List α) (i c : Nat) (x : α) (h : i < l.length) : (l.set i x).getD c d = if c = i then x else l.getD c d := by
  rw [List.getD_eq_getElem?_getD, List.getD_eq_getElem?_getD]
  by_cases e : c = i
  · subst e; rw [List.getElem?_set_self h, if_pos rfl]; rfl
  · rw [List.getElem?_set_ne (fun h => e h.symm), if_neg e]

end Go.Proofs.Ytldlfjcaaaigkaa
