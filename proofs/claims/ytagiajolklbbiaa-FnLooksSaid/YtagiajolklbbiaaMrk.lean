/- What each function of this seat does (Mrk). Printed from templates of this seat's own. -/
import Derived.Test.YtagiajolklbbiaaLst
namespace Go.Proofs.Ytagiajolklbbiaa
open Go.Ax Go.Bx
set_option maxRecDepth 8000
set_option linter.unusedSimpArgs false
set_option linter.unusedVariables false
theorem tabN_len {α : Type} (f : Nat → α) (n : Nat) : (tabN f n).length = n := by
  induction n with
  | zero => rfl
  | succ n ih => simp [tabN, ih]
/-- Block keys under other names. -/
def ren : List (Nat × Nat) → Nat → Nat
  | [], k => k
  | (a, b) :: l, k => bif Nat.beq k a then b else ren l k
theorem getD_set {α : Type} (l : List α) (i : Nat) (x d : α) (h : i < l.length) : (l.set i x).getD i d = x := by
  rw [List.getD_eq_getElem?_getD, List.getElem?_set_self h]; rfl
/-- A list gone through, 'j' steps of it. -/
def fo {α β : Type} (f : β → α → β) (a : β) (l : List α) (j : Nat) : β := (l.take j).foldl f a
theorem fo_succ {α β : Type} (f : β → α → β) (a : β) {l : List α} {j : Nat} (h : j < l.length) (d : α) : fo f a l (j + 1) = f (fo f a l j) (l.getD j d) := by
  unfold fo
  rw [List.take_add_one, List.getElem?_eq_getElem h, List.foldl_append, List.getD_eq_getElem?_getD, List.getElem?_eq_getElem h]
  rfl
theorem fo_all {α β : Type} (f : β → α → β) (a : β) (l : List α) : fo f a l l.length = l.foldl f a := by
  unfold fo; rw [List.take_length]

theorem nan_ofInt (n : Int) : isNaN .f32 (foi .f32 n) = false := by
  rw [foi_eq]
  refine nan_false ?_
  show rungOf Ieee.single (Ieee.single.nearest _ _ _) ≤ _
  unfold Ieee.Format.nearest
  split
  · rw [rungOf_word _ _ (by decide +kernel)]; exact Nat.zero_le _
  · rw [rungOf_word _ _ (by have : Ieee.single.infRung < Ieee.single.signWeight := by decide +kernel
                            omega)]
    exact Nat.min_le_right _ _
theorem ne_ofInt (n : Int) : fcmp .neq .f32 (foi .f32 n) (foi .f32 n) = false := by rw [neq_self, nan_ofInt]
@[simp] theorem mkF_len (k : Int) (n : Nat) : (mkF k n).length = n := tabN_len _ n

def mkI (k : Int) (n : Nat) : List Int := tabN (fun i => k + i) n
@[simp] theorem mkI_len (k : Int) (n : Nat) : (mkI k n).length = n := tabN_len _ n

end Go.Proofs.Ytagiajolklbbiaa
