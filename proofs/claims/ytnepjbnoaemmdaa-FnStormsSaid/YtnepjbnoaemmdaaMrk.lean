/- What each function of this seat does (Mrk). Printed from templates of this seat's own. -/
import Derived.Test.YtnepjbnoaemmdaaLst
namespace Go.Proofs.Ytnepjbnoaemmdaa
open Go.Ax Go.Bx
set_option maxRecDepth 8000
set_option linter.unusedSimpArgs false
set_option linter.unusedVariables false
theorem tabN_len {α : Type} (f : Nat → α) (n : Nat) : (tabN f n).length = n := by
  induction n with
  | zero => rfl
  | succ n ih => simp [tabN, ih]
/-- Block keys under other names. -/
def ren : List (Nat × Nat) → Nat → Nat
  | [], k => k
  | (a, b) :: l, k => bif Nat.beq k a then b else ren l k
theorem getD_set {α : Type} (l : List α) (i : Nat) (x d : α) (h : i < l.length) : (l.set i x).getD i d = x := by
  rw [List.getD_eq_getElem?_getD, List.getElem?_set_self h]; rfl
/-- A list gone through, 'j' steps of it. -/
def fo {α β : Type} (f : β → α → β) (a : β) (l : List α) (j : Nat) : β := (l.take j).foldl f a
theorem fo_succ {α β : Type} (f : β → α → β) (a : β) {l : List α} {j : Nat} (h : j < l.length) (d : α) : fo f a l (j + 1) = f (fo f a l j) (l.getD j d) := by
  unfold fo
  rw [List.take_add_one, List.getElem?_eq_getElem h, List.foldl_append, List.getD_eq_getElem?_getD, List.getElem?_eq_getElem h]
  rfl
theorem fo_all {α β : Type} (f : β → α → β) (a : β) (l : List α) : fo f a l l.length = l.foldl f a := by
  unfold fo; rw [List.take_length]

theorem rain_len {xs : List Nat} (h : rainB xs = true) : xs.length ≤ 128 := by
  simp only [rainB, Bool.and_eq_true, decide_eq_true_eq] at h
  omega

end Go.Proofs.Ytnepjbnoaemmdaa
