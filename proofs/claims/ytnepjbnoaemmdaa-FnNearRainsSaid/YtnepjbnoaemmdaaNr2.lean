/- What each function of this seat does (Nr2). Printed from templates of this seat's own. -/
import Derived.Test.YtnepjbnoaemmdaaNr1
namespace Go.Proofs.Ytnepjbnoaemmdaa
open Go.Ax Go.Bx
set_option maxRecDepth 8000
set_option linter.unusedSimpArgs false
set_option linter.unusedVariables false
/-- A quotient of numbers, by a share of itself. -/
theorem quo_v {x y : Nat} (hx : NN .f32 x) (hy : NN .f32 y) (h0 : 0 < sv .f32 y) (hq : sv .f32 x ≤ 1000 * sv .f32 y) :
    NN .f32 (fop .quo .f32 x y) ∧ 16777216 * (sv .f32 (fop .quo .f32 x y) * sv .f32 y) ≤ 16777219 * (sv .f32 x * Zu) + 8388608 * sv .f32 y ∧ 16777213 * (sv .f32 x * Zu) ≤ 16777216 * (sv .f32 (fop .quo .f32 x y) * sv .f32 y) + 8388608 * sv .f32 y := by
  have vx := hx.val
  have vy := hy.val
  have hz : 0 < Zu := by have := Zu_q; have := Qu_big; omega
  obtain ⟨r, e, h2, h3⟩ := quo_up (k := .f32) hx.1 hy.1 (by omega)
  have dK : Dy .f32 0 1000 (canon .f32 1148846080) := dyB_spec (by decide +kernel)
  have vK : (valR .f32 (canon .f32 1148846080) : Int) = 1000 * Zu := by
    have h1 := dK.2.2
    have h2 := sv_abs .f32 (canon .f32 1148846080)
    rw [Nat.sub_zero] at h1
    have : Zu = ((2 ^ zOf .f32 : Nat) : Int) := rfl
    omega
  have hr := h3 (rungOf FloatKind.f32.format (canon .f32 1148846080)) (by
    show valR .f32 x * 2 ^ zOf .f32 ≤ valR .f32 (canon .f32 1148846080) * valR .f32 y
    have k1 : sv .f32 x * Zu ≤ 1000 * sv .f32 y * Zu := Int.mul_le_mul_of_nonneg_right hq (Int.le_of_lt hz)
    have k2 : (valR .f32 (canon .f32 1148846080) : Int) * sv .f32 y = 1000 * sv .f32 y * Zu := by rw [vK, Int.mul_right_comm]
    rw [← vy] at k2 k1
    rw [← vx] at k1
    have k3 : Zu = ((2 ^ zOf .f32 : Nat) : Int) := rfl
    rw [k3] at k1 k2
    have : ((valR .f32 x * 2 ^ zOf .f32 : Nat) : Int) ≤ ((valR .f32 (canon .f32 1148846080) * valR .f32 y : Nat) : Int) := by
      rw [Int.natCast_mul, Int.natCast_mul, k2]; exact k1
    omega)
  obtain ⟨f1, f2⟩ := word_facts (k := .f32) (s := negOf FloatKind.f32.format x ^^ negOf FloatKind.f32.format y) h2
  have hfin : Fin .f32 (fop .quo .f32 x y) := by unfold Go.Ax.Fin; rw [e, f2]; exact Nat.lt_of_le_of_lt hr dK.1
  have n := quo_nearN hx.1 hy.1 (by omega) hfin
  rw [binade32] at n
  have ny : negOf FloatKind.f32.format y = false := by
    rcases sg_nn hy.2 with h | h
    · exact h
    · exfalso; have : valR .f32 y = 0 := h; omega
  have hs : sv .f32 (fop .quo .f32 x y) = (valR .f32 (fop .quo .f32 x y) : Int) := by
    rcases sg_nn hx.2 with h | h
    · unfold sv
      rw [show negOf FloatKind.f32.format (fop .quo .f32 x y) = false by rw [e, f1, h, ny]; rfl]
      rfl
    · have h : valR .f32 x = 0 := h
      have hr0 := h3 0 (by rw [h, Nat.zero_mul]; exact Nat.zero_le _)
      have : valR .f32 (fop .quo .f32 x y) = 0 := by
        rw [e, word_val h2, show r = 0 by omega]; exact rungV_zero (binade_pos _)
      unfold sv; rw [this]; unfold sg; split <;> rfl
  have k3 : Zu = ((2 ^ zOf .f32 : Nat) : Int) := rfl
  rw [hs, ← vx, ← vy, k3, ← Int.natCast_mul, ← Int.natCast_mul]
  refine ⟨⟨hfin, by rw [hs]; omega⟩, by omega, by omega⟩
theorem fmin_sv {x y : Nat} (hx : Fin .f32 x) (hy : Fin .f32 y) : (fminA .f32 x y = x ∨ fminA .f32 x y = y) ∧ sv .f32 (fminA .f32 x y) ≤ sv .f32 x ∧ sv .f32 (fminA .f32 x y) ≤ sv .f32 y := by
  have p1 := pos_sv (k := .f32) (x := x) (y := y)
  have p2 := pos_sv (k := .f32) (x := y) (y := x)
  unfold fminA
  rw [order_num hx.num hy.num]
  simp only [compare, compareOfLessAndEq]
  by_cases h : pos .f32 x < pos .f32 y
  · rw [if_pos h]; exact ⟨.inl rfl, Int.le_refl _, p1.1 (by omega)⟩
  · rw [if_neg h]
    by_cases h' : pos .f32 x = pos .f32 y
    · rw [if_pos h']
      dsimp only
      split
      · exact ⟨.inl rfl, Int.le_refl _, p1.1 (by omega)⟩
      · exact ⟨.inr rfl, p2.1 (by omega), Int.le_refl _⟩
    · rw [if_neg h']; exact ⟨.inr rfl, p2.1 (by omega), Int.le_refl _⟩
theorem fmax_sv {x y : Nat} (hx : Fin .f32 x) (hy : Fin .f32 y) : (fmaxA .f32 x y = x ∨ fmaxA .f32 x y = y) ∧ sv .f32 x ≤ sv .f32 (fmaxA .f32 x y) ∧ sv .f32 y ≤ sv .f32 (fmaxA .f32 x y) := by
  have p1 := pos_sv (k := .f32) (x := x) (y := y)
  have p2 := pos_sv (k := .f32) (x := y) (y := x)
  unfold fmaxA
  rw [order_num hx.num hy.num]
  simp only [compare, compareOfLessAndEq]
  by_cases h : pos .f32 x < pos .f32 y
  · rw [if_pos h]; exact ⟨.inr rfl, p1.1 (by omega), Int.le_refl _⟩
  · rw [if_neg h]
    by_cases h' : pos .f32 x = pos .f32 y
    · rw [if_pos h']
      dsimp only
      split
      · exact ⟨.inr rfl, p1.1 (by omega), Int.le_refl _⟩
      · exact ⟨.inl rfl, Int.le_refl _, p2.1 (by omega)⟩
    · rw [if_neg h']; exact ⟨.inl rfl, Int.le_refl _, p2.1 (by omega)⟩
/-- The places. -/
def psL : List (Nat × Nat) := [(canon .f32 0, canon .f32 0), (canon .f32 1082130432, canon .f32 0), (canon .f32 0, canon .f32 1082130432), (canon .f32 3225419776, canon .f32 3221225472)]
def okW (w : Nat) : Bool := decide (rungOf FloatKind.f32.format w < FloatKind.f32.format.infRung) && decide (((2 ^ zOf .f32 : Nat) : Int) ≤ 128 * sv .f32 w) && decide (sv .f32 w ≤ 16 * ((2 ^ zOf .f32 : Nat) : Int))
noncomputable def nrT (a : Nat × Nat) : Bool := (fin a.1 && fin a.2) && (List.range 4).all (fun i => (!tooBig (fsqrt (pw64 (cDif a (psL.getD i (0, 0))))) && !tooBig (pw64 (cDif a (psL.getD i (0, 0))))) && (nrZ psL a i || okW (nrW psL a i)))
def nrX (v : Nat) : Nat := fop .quo .f32 (floatOfInt .f32 ((v : Int) - 16)) (canon .f32 1082130432)
theorem tab_own : (List.range 4).all (fun i => nrT (psL.getD i (0, 0)) && (nrZ psL (psL.getD i (0, 0)) i && (List.range i).all fun j => !nrZ psL (psL.getD i (0, 0)) j)) = true := by decide +kernel
theorem tab_dis : (List.range 4).all (fun i => (fin (psL.getD i (0, 0)).1 && fin (psL.getD i (0, 0)).2) && (List.range i).all fun j => !cEq (psL.getD i (0, 0)) (psL.getD j (0, 0))) = true := by decide +kernel

end Go.Proofs.Ytnepjbnoaemmdaa
