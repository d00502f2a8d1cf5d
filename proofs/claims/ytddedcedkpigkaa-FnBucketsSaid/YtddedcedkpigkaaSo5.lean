/- What each function of this seat does (So5). Printed from templates of this seat's own. -/
import Derived.Test.YtddedcedkpigkaaSo4
namespace Go.Proofs.Ytddedcedkpigkaa
open Go.Ax Go.Bx
set_option maxRecDepth 8000
set_option linter.unusedSimpArgs false
set_option linter.unusedVariables false
section
variable (bs cs : List Int)
noncomputable def uS (N i : Nat) : Nat := soS (oA bs) (oB bs) (oC bs) (oD bs) (oE bs) (fsR cs N) tk2 i
noncomputable def uO (N i : Nat) : Nat := soOff (oA bs) (oB bs) (oC bs) (oD bs) (oE bs) (fsR cs N) tk2 i
noncomputable def uL (N i : Nat) : Nat := soLet (oA bs) (oB bs) (oC bs) (oD bs) (oE bs) (fsR cs N) tk2 i
end
structure UAt (bs cs : List Int) (N i : Nat) : Prop where
  fall : NN .f32 ((fsR cs N).getD i 0)
  off : NN .f32 (uO bs cs N i)
  offle : sv .f32 (uO bs cs N i) ≤ sv .f32 ((fsR cs N).getD i 0)
  lets : NN .f32 (uL bs cs N i)
  two : sv .f32 ((fsR cs N).getD i 0) ≤ 2 * Zu
section
variable {bs cs : List Int} (hb : Byt bs) (hc : Byt cs) {N : Nat} (hN : N ≤ 11)
include hb hc hN
theorem soil_inv : ∀ i : Nat, i ≤ N → (NN .f32 (uS bs cs N i) ∧ sv .f32 (uS bs cs N i) ≤ sv .f32 (oC bs) ∧
    wv (uS bs cs N i) + tJ (tabN (uO bs cs N) N) i + tJ (tabN (uL bs cs N) N) i ≤ wv (oE bs) + tJ (fsR cs N) i + i * (402653184 * Hu) ∧
    wv (oE bs) + tJ (fsR cs N) i ≤ wv (uS bs cs N i) + tJ (tabN (uO bs cs N) N) i + tJ (tabN (uL bs cs N) N) i + i * (402653184 * Hu) ∧
    tJ (tabN (uO bs cs N) N) i ≤ tJ (fsR cs N) i ∧ tJ (fsR cs N) i ≤ i * (2 * (140737488355328 * Hu))) ∧ ∀ j, j < i → UAt bs cs N j
  | 0, _ => by
    obtain ⟨s, e, le⟩ := o_soil hb
    refine ⟨⟨e, le, ?_, ?_, Int.le_refl _, ?_⟩, fun j hj => absurd hj (by omega)⟩
    · simp only [tJ]; show wv (oE bs) + 0 + 0 ≤ _; simp
    · simp only [tJ]; show _ ≤ wv (oE bs) + 0 + 0 + _; simp
    · simp only [tJ]; simp
  | i + 1, hi => by
    obtain ⟨⟨h1, h2, h3, h4, h5, h6⟩, hall⟩ := soil_inv i (by omega)
    obtain ⟨s, e, le⟩ := o_soil hb
    have bj := drN_bound hc (n := 9) (by omega) (by omega) (i := i) (by omega)
    have e1 : (fsR cs N).getD i 0 = rnW cs i := tabN_getD (rnW cs) (show i < N by omega) 0
    have e2 : (tabN (uO bs cs N) N).getD i 0 = uO bs cs N i := tabN_getD (uO bs cs N) (show i < N by omega) 0
    have e3 : (tabN (uL bs cs N) N).getD i 0 = uL bs cs N i := tabN_getD (uL bs cs N) (show i < N by omega) 0
    have hf := dy_nn (m := 2) (dy_quarters bj.1 (by omega)) bj.1 (by show _ ≤ 2 * (4 : Int); omega)
    have ht := dy_nn (m := 1) tk2_dy (by omega) (by show _ ≤ 1 * (2 : Int); omega)
    rw [show fop .quo .f32 (foi .f32 (drN cs 9 i)) (canon .f32 1082130432) = (fsR cs N).getD i 0 from e1.symm] at hf
    obtain ⟨g1, g2, g3, g4, g5, _, _, _⟩ := soil_step s h1 h2 hf.1 hf.2 ht.1 ht.2
    obtain ⟨k1, k2⟩ := soil_wide s h1 h2 hf.1 hf.2 ht.1 ht.2
    have u1 : uS bs cs N (i + 1) = soE (oA bs) (oB bs) (oC bs) (oD bs) (uS bs cs N i) ((fsR cs N).getD i 0) tk2 := rfl
    have u2 : uO bs cs N i = soO (oA bs) (oB bs) (oC bs) (uS bs cs N i) ((fsR cs N).getD i 0) tk2 := rfl
    have u3 : uL bs cs N i = soL (oA bs) (oB bs) (oC bs) (oD bs) (uS bs cs N i) ((fsR cs N).getD i 0) tk2 := rfl
    have wf := wv_leZ hf.1.1 hf.2
    rw [← u1, ← u2, ← u3] at k1 k2
    rw [← u1] at g1 g2
    rw [← u2] at g3 g4
    rw [← u3] at g5
    have wo := wv_le g3.1 hf.1.1 g4
    have ei : ∀ z : Int, ((i + 1 : Nat) : Int) * z = i * z + z := fun z => by rw [Int.natCast_add, Int.add_mul]; simp
    refine ⟨⟨g1, g2, ?_, ?_, ?_, ?_⟩, fun j hj => ?_⟩
    · simp only [tJ]; rw [e2, e3, ei]; omega
    · simp only [tJ]; rw [e2, e3, ei]; omega
    · simp only [tJ]; rw [e2]; omega
    · simp only [tJ]; rw [ei]; omega
    · by_cases hj' : j < i
      · exact hall j hj'
      · obtain rfl : j = i := by omega
        exact ⟨hf.1, g3, g4, g5, hf.2⟩
theorem soil_gap : fcmp .gtr .f64 (gapW (fop .add .f64 (fwiden (oE bs)) (totW (fsR cs N) N)) (fop .add .f64 (fop .add .f64 (fwiden (uS bs cs N N)) (totW (tabN (uO bs cs N) N) N)) (totW (tabN (uL bs cs N) N) N))) (canon .f64 4576918229304087675) = false := by
  obtain ⟨⟨h1, h2, h3, h4, h5, h6⟩, hall⟩ := soil_inv hb hc hN N (Nat.le_refl _)
  obtain ⟨s, e, le⟩ := o_soil hb
  have hH : 0 < Hu := by rw [Hu_eq]; have := Wu_pos; omega
  have eO : ∀ j, j < N → (tabN (uO bs cs N) N).getD j 0 = uO bs cs N j := fun j hj => tabN_getD (uO bs cs N) hj 0
  have eL : ∀ j, j < N → (tabN (uL bs cs N) N).getD j 0 = uL bs cs N j := fun j hj => tabN_getD (uL bs cs N) hj 0
  have nO : ∀ j, j < N → NN .f32 ((tabN (uO bs cs N) N).getD j 0) := fun j hj => by rw [eO j hj]; exact (hall j hj).off
  have nL : ∀ j, j < N → NN .f32 ((tabN (uL bs cs N) N).getD j 0) := fun j hj => by rw [eL j hj]; exact (hall j hj).lets
  have nF : ∀ j, j < N → NN .f32 ((fsR cs N).getD j 0) := fun j hj => (hall j hj).fall
  have pO := (tJ_mono nO N (Nat.le_refl _)).1
  have pL := (tJ_mono nL N (Nat.le_refl _)).1
  have pF := (tJ_mono nF N (Nat.le_refl _)).1
  have w1 := wv_nn e
  have w2 := wv_nn h1
  have w3 := wv_leZ e.1 (Int.le_trans le s.c2)
  have n1 : (N : Int) * (402653184 * Hu) ≤ 11 * (402653184 * Hu) := Int.mul_le_mul_of_nonneg_right (by omega) (by omega)
  have n2 : (N : Int) * (2 * (140737488355328 * Hu)) ≤ 11 * (2 * (140737488355328 * Hu)) := Int.mul_le_mul_of_nonneg_right (by omega) (by omega)
  have n3 : (N : Int) * Hu ≤ 11 * Hu := Int.mul_le_mul_of_nonneg_right (by omega) (by omega)
  obtain ⟨fF, a1, a2⟩ := tot_near nF (by omega) (by omega) N (Nat.le_refl _)
  obtain ⟨fO, b1, b2⟩ := tot_near nO (by omega) (by omega) N (Nat.le_refl _)
  obtain ⟨fL, c1, c2⟩ := tot_near nL (by omega) (by omega) N (Nat.le_refl _)
  have v1 : sv .f64 (fwiden (oE bs)) = wv (oE bs) := rfl
  have v2 : sv .f64 (fwiden (uS bs cs N N)) = wv (uS bs cs N N) := rfl
  have x1 := add64 (widen_val e.1).1 fF (by rw [v1]; omega) (by rw [v1]; omega)
  have y1 := add64 (widen_val h1.1).1 fO (by rw [v2]; omega) (by rw [v2]; omega)
  rw [v1] at x1
  rw [v2] at y1
  have y2 := add64 y1.1 fL (by omega) (by omega)
  generalize fop .add .f64 (fwiden (oE bs)) (totW (fsR cs N) N) = X at x1 ⊢
  generalize fop .add .f64 (fop .add .f64 (fwiden (uS bs cs N N)) (totW (tabN (uO bs cs N) N) N)) (totW (tabN (uL bs cs N) N) N) = Y at y2 ⊢
  have hcv : Fin .f64 (canon .f64 4576918229304087675) ∧ sv .f64 (canon .f64 4576918229304087675) = 5764607523034235 * Wu := by
    refine ⟨dy_001.1, ?_⟩
    rw [dy_001.2.2, show zOf .f64 - 59 = eW by rw [zOf_64]; decide]
    unfold Wu
    generalize ((2 ^ eW : Nat) : Int) = z
    omega
  have hWH := Hu_eq
  have hW := Wu_pos
  unfold gapW
  rw [lss_sv x1.1 y2.1]
  by_cases g : sv .f64 X < sv .f64 Y
  · rw [decide_eq_true g]
    have z := sub64 y2.1 x1.1 (by omega) (by omega)
    show fcmp .gtr .f64 (fop .sub .f64 Y X) _ = false
    rw [gtr_sv z.1 hcv.1, hcv.2]
    exact decide_eq_false (by omega)
  · rw [decide_eq_false g]
    have z := sub64 x1.1 y2.1 (by omega) (by omega)
    show fcmp .gtr .f64 (fop .sub .f64 X Y) _ = false
    rw [gtr_sv z.1 hcv.1, hcv.2]
    exact decide_eq_false (by omega)
end

end Go.Proofs.Ytddedcedkpigkaa
