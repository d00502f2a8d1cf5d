/- What each function of this seat does (St6). Printed from templates of this seat's own. -/
import Derived.Test.YtnepjbnoaemmdaaSt5
import Derived.Test.YtnepjbnoaemmdaaSdv
namespace Go.Proofs.Ytnepjbnoaemmdaa
open Go.Ax Go.Bx
set_option maxRecDepth 8000
set_option linter.unusedSimpArgs false
set_option linter.unusedVariables false
/-! Storms drawn one after another. -/
def lo4 : Nat := canon .f32 1082130432
def si2 : Nat := canon .f32 1073741824
theorem dv_dy {s : Int} (h : 0 ≤ s ∧ s ≤ 2147483647) : ∃ m : Int, 1 ≤ m ∧ m ≤ 32768 ∧ Dy .f32 15 m (dv s) := by
  obtain ⟨k, hk⟩ : ∃ k : Nat, s / 65536 = (k : Int) := ⟨(s / 65536).toNat, by omega⟩
  refine ⟨((k + 1 : Nat) : Int), by omega, by omega, ?_⟩
  have := dy_draw (m := k) (by omega)
  unfold dv
  rw [show s / 65536 + 1 = ((k + 1 : Nat) : Int) by omega]
  exact this
theorem dy_lo : Dy .f32 0 4 lo4 := dyB_spec (by decide +kernel)
theorem dy_si : Dy .f32 0 2 si2 := dyB_spec (by decide +kernel)
theorem lo_dv {s : Int} (h : 0 ≤ s ∧ s ≤ 2147483647) : ∃ m : Int, 1 ≤ m ∧ m ≤ 32768 ∧ Dy .f32 15 (4 * m) (fop .mul .f32 lo4 (dv s)) := by
  obtain ⟨m, h1, h2, h3⟩ := dv_dy h
  refine ⟨m, h1, h2, ?_⟩
  have := dy_lo.mul h3 (by rw [zOf_32]; omega) (by rw [bin32]; omega)
  rwa [Nat.zero_add] at this
theorem si_dv {s : Int} (h : 0 ≤ s ∧ s ≤ 2147483647) : ∃ m : Int, 1 ≤ m ∧ m ≤ 32768 ∧ Dy .f32 15 (2 * m) (fop .mul .f32 si2 (dv s)) := by
  obtain ⟨m, h1, h2, h3⟩ := dv_dy h
  refine ⟨m, h1, h2, ?_⟩
  have := dy_si.mul h3 (by rw [zOf_32]; omega) (by rw [bin32]; omega)
  rwa [Nat.zero_add] at this
theorem pk_dv {s : Int} (h : 0 ≤ s ∧ s ≤ 2147483647) : ∃ m : Int, 1 ≤ m ∧ m ≤ 32768 ∧ Dy .f32 16 (m + 16384) (fop .add .f32 (fop .mul .f32 (dv s) (canon .f32 1056964608)) (canon .f32 1048576000)) := by
  obtain ⟨m, h1, h2, h3⟩ := dv_dy h
  refine ⟨m, h1, h2, ?_⟩
  have dh : Dy .f32 1 1 (canon .f32 1056964608) := dyB_spec (by decide +kernel)
  have dq : Dy .f32 16 16384 (canon .f32 1048576000) := dyB_spec (by decide +kernel)
  have h4 := h3.mul dh (by rw [zOf_32]; omega) (by rw [bin32]; omega)
  rw [Int.mul_one] at h4
  exact h4.add dq (by rw [bin32]; omega)
theorem so_nn {s : Int} (h : 0 ≤ s ∧ s ≤ 2147483647) : Go.Ax.NN .f32 (fop .mul .f32 lo4 (dv s)) ∧ sv .f32 (fop .mul .f32 lo4 (dv s)) ≤ 4 * Zu := by
  obtain ⟨m, h1, h2, h3⟩ := lo_dv h
  exact dy_nn (m := 4) h3 (by omega) (by show _ ≤ 4 * (32768 : Int); omega)
theorem so_start {s0 : Int} : ∀ j : Nat, j ≤ 8 → Go.Ax.NN .f32 (soSt lo4 s0 j).1 ∧ sv .f32 (soSt lo4 s0 j).1 ≤ j * (9 * Zu) ∧ Go.Ax.NN .f32 (soStart lo4 (soSt lo4 s0 j).1 (soSt lo4 s0 j).2) ∧ sv .f32 (soStart lo4 (soSt lo4 s0 j).1 (soSt lo4 s0 j).2) ≤ j * (9 * Zu) + 4 * Zu + 102401 * Qu
  | 0, _ => by
    have z := sv_zero
    have hz := Zu_q
    have hq := Qu_big
    have e : sv .f32 (soSt lo4 s0 0).1 = 0 := z.2
    have n0 : Go.Ax.NN .f32 (soSt lo4 s0 0).1 := ⟨z.1, by rw [e]; exact Int.le_refl _⟩
    obtain ⟨m1, m2⟩ := so_nn (nx_range (soSt lo4 s0 0).2)
    have g := add_v (V := 100 * Zu) (e := 102401 * Qu) n0 m1 (by omega) (by omega) (by omega)
    have eS : soStart lo4 (soSt lo4 s0 0).1 (soSt lo4 s0 0).2 = fop .add .f32 (soSt lo4 s0 0).1 (fop .mul .f32 lo4 (dv (nx (soSt lo4 s0 0).2))) := rfl
    rw [← eS] at g
    exact ⟨n0, by omega, g.1, by omega⟩
  | j + 1, h => by
    have hz := Zu_q
    have hq := Qu_big
    obtain ⟨_, _, i3, i4⟩ := so_start j (by omega)
    obtain ⟨l1, l2⟩ := so_nn (nx_range (nx (soSt lo4 s0 j).2))
    have jb : (j : Int) * (9 * Zu) ≤ 7 * (9 * Zu) := Int.mul_le_mul_of_nonneg_right (by omega) (by omega)
    have kE : ((j + 1 : Nat) : Int) * (9 * Zu) = j * (9 * Zu) + 9 * Zu := by rw [Int.natCast_add, Int.add_mul]; simp
    have g := add_v (V := 100 * Zu) (e := 102401 * Qu) i3 l1 (by omega) (by omega) (by omega)
    have e : (soSt lo4 s0 (j + 1)).1 = fop .add .f32 (soStart lo4 (soSt lo4 s0 j).1 (soSt lo4 s0 j).2) (fop .mul .f32 lo4 (dv (nx (nx (soSt lo4 s0 j).2)))) := rfl
    rw [← e] at g
    obtain ⟨m1, m2⟩ := so_nn (nx_range (soSt lo4 s0 (j + 1)).2)
    have g' := add_v (V := 100 * Zu) (e := 102401 * Qu) g.1 m1 (by omega) (by omega) (by omega)
    have eS : soStart lo4 (soSt lo4 s0 (j + 1)).1 (soSt lo4 s0 (j + 1)).2 = fop .add .f32 (soSt lo4 s0 (j + 1)).1 (fop .mul .f32 lo4 (dv (nx (soSt lo4 s0 (j + 1)).2))) := rfl
    rw [← eS] at g'
    exact ⟨g.1, by omega, g'.1, by omega⟩
theorem so_valid {s0 : Int} {j : Nat} (hj : j ≤ 8) : stV (soL lo4 si2 s0 j) = true ∧ fcmp .gtr .f32 (soL lo4 si2 s0 j).2.2.1 (canon .f32 1073741824) = false ∧ (0 < j → fcmp .lss .f32 (soL lo4 si2 s0 j).1 (fop .add .f32 (soL lo4 si2 s0 (j - 1)).1 (soL lo4 si2 s0 (j - 1)).2.1) = false) := by
  obtain ⟨a1, a2, a3, a4⟩ := so_start (s0 := s0) j hj
  obtain ⟨m1, p1, p2, p3⟩ := lo_dv (nx_range (nx (soSt lo4 s0 j).2))
  obtain ⟨m2, q1, q2, q3⟩ := si_dv (nx_range (nx (nx (soSt lo4 s0 j).2)))
  obtain ⟨m3, r1, r2, r3⟩ := pk_dv (nx_range (nx (nx (nx (soSt lo4 s0 j).2))))
  have e : soL lo4 si2 s0 j = (soStart lo4 (soSt lo4 s0 j).1 (soSt lo4 s0 j).2, fop .mul .f32 lo4 (dv (nx (nx (soSt lo4 s0 j).2))), fop .mul .f32 si2 (dv (nx (nx (nx (soSt lo4 s0 j).2)))), fop .add .f32 (fop .mul .f32 (dv (nx (nx (nx (nx (soSt lo4 s0 j).2))))) (canon .f32 1056964608)) (canon .f32 1048576000)) := rfl
  have d2 : Dy .f32 15 65536 (canon .f32 1073741824) := dyB_spec (by decide +kernel)
  have d1 : Dy .f32 16 65536 (canon .f32 1065353216) := dyB_spec (by decide +kernel)
  refine ⟨?_, ?_, fun h => ?_⟩
  · rw [e]
    unfold stV
    dsimp only
    have v2 : above (fop .mul .f32 lo4 (dv (nx (nx (soSt lo4 s0 j).2)))) = true := by
      unfold above K
      rw [p3.fin, p3.gtr (dy_zero 15 (by omega)), decide_eq_true (by omega)]; rfl
    have v3 := least_dy q3 (by omega) (by omega)
    rw [least_nn a3, v2, v3, r3.gtr (dy_zero 16 (by omega)), decide_eq_true (by omega), r3.lss d1, decide_eq_true (by omega)]
    rfl
  · rw [e]
    dsimp only
    rw [q3.gtr d2]
    exact decide_eq_false (by omega)
  · obtain ⟨i, rfl⟩ : ∃ i, j = i + 1 := ⟨j - 1, by omega⟩
    rw [Nat.add_sub_cancel]
    have e2 : fop .add .f32 (soL lo4 si2 s0 i).1 (soL lo4 si2 s0 i).2.1 = (soSt lo4 s0 (i + 1)).1 := rfl
    rw [e2, e]
    dsimp only
    rw [lss_sv a3.1 a1.1]
    obtain ⟨g1, g2⟩ := so_nn (nx_range (soSt lo4 s0 (i + 1)).2)
    have := (add_mono a1.1 g1.1 a1.1).2 (by have := g1.2; omega)
    have eS : soStart lo4 (soSt lo4 s0 (i + 1)).1 (soSt lo4 s0 (i + 1)).2 = fop .add .f32 (soSt lo4 s0 (i + 1)).1 (fop .mul .f32 lo4 (dv (nx (soSt lo4 s0 (i + 1)).2))) := rfl
    rw [← eS] at this
    exact decide_eq_false (by omega)
section
variable {s0 : Int} (h0 : 0 ≤ s0 ∧ s0 ≤ 2147483647)
include h0
theorem so_seed (j : Nat) : 0 ≤ (soSt lo4 s0 j).2 ∧ (soSt lo4 s0 j).2 ≤ 2147483647 := soSt_range lo4 s0 h0 j
theorem so_C {n : Nat} (hn : n ≤ 8) : soC lo4 si2 (n : Int) s0 = true := by
  unfold soC
  rw [show inR (n : Int) 0 24 = true by simp [inR]; omega, show inR s0 0 2147483647 = true by simp [inR]; omega, show above lo4 = true by unfold lo4 above K; decide +kernel, show above si2 = true by unfold si2 above K; decide +kernel]
  rw [show allN (fun j => stV (soL lo4 si2 s0 j)) (n : Int).toNat = true from allN_iff.2 fun j hj => (so_valid (by rw [Int.toNat_natCast] at hj; omega)).1]
  rfl
end
theorem soL_W4 (s0 : Int) (j : Nat) : W4 (soL lo4 si2 s0 j) := ⟨fop_lt _ _ _, fop_lt _ _ _, fop_lt _ _ _, fop_lt _ _ _⟩
theorem sameSS_self (xs : List S4) : sameSS xs xs = true := by
  unfold sameSS
  rw [decide_eq_true rfl, Bool.true_and]
  exact allN_iff.2 fun i hi => by simp [sameS, sb]

end Go.Proofs.Ytnepjbnoaemmdaa
