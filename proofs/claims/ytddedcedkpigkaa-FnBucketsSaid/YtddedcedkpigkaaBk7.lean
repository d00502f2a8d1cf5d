/- What each function of this seat does (Bk7). Printed from templates of this seat's own. -/
import Derived.Test.YtddedcedkpigkaaBk6
namespace Go.Proofs.Ytddedcedkpigkaa
open Go.Ax Go.Bx
set_option maxRecDepth 8000
set_option linter.unusedSimpArgs false
set_option linter.unusedVariables false
section
variable {cs : List Int} (hc : Byt cs) {n N : Nat} (hn : n ≤ 5) (hN : N ≤ 16) (hN0 : 0 < N) {sh : Nat} (hs : Unit .f32 false sh)
/-- The list of a unit. -/
noncomputable def uN (sh n N : Nat) : List Nat := (bkO sh (List.replicate n (canon .f32 0)) (ulR N) N).2
noncomputable def eN (sh n : Nat) (rs : List Nat) (N : Nat) : List Nat := (bkO sh (List.replicate n (canon .f32 0)) rs N).2
theorem uN_at {j : Nat} (h : j < N) : (uN sh n N).getD j 0 = bF sh (List.replicate n (canon .f32 0)) (ulR N) j n := by
  have := bO_get (sh := sh) (st := List.replicate n (canon .f32 0)) (rs := ulR N) N j h
  rw [nz] at this
  exact this
theorem eN_at {rs : List Nat} {j : Nat} (h : j < N) : (eN sh n rs N).getD j 0 = bF sh (List.replicate n (canon .f32 0)) rs j n := by
  have := bO_get (sh := sh) (st := List.replicate n (canon .f32 0)) (rs := rs) N j h
  rw [nz] at this
  exact this
include hn hN hN0 hs in
theorem uN_facts : (∀ j, j < N → NN .f32 ((uN sh n N).getD j 0) ∧ vR (uN sh n N) j ≤ Zu + 16777216 * Qu) ∧ sm (vR (uN sh n N)) N ≤ Zu + 16777216 * Qu := by
  obtain ⟨_, uf, us⟩ := unit_facts hn hN hN0 hs
  have nn : ∀ j, j < N → NN .f32 ((uN sh n N).getD j 0) := fun j hj => by rw [uN_at hj]; exact (uf j hj n (Nat.le_refl _)).1
  have e : sm (vR (uN sh n N)) N = sm (fun i => vF sh (List.replicate n (canon .f32 0)) (ulR N) i n) N := sm_congr N fun i hi => by
    unfold vR; rw [uN_at hi]; rfl
  have hsum : sm (vR (uN sh n N)) N ≤ Zu + 16777216 * Qu := by rw [e]; exact us
  refine ⟨fun j hj => ⟨nn j hj, ?_⟩, hsum⟩
  have h1 := sm_mono (f := vR (uN sh n N)) (m := j + 1) N (by omega) fun i hi => (nn i hi).2
  have h2 := sm_nn (f := vR (uN sh n N)) j fun i hi => (nn i (by omega)).2
  rw [sm] at h1
  omega
include hn hN hN0 hs in
/-- The unit's total is one, nearly. -/
theorem unit_tot : fcmp .gtr .f64 (totW (uN sh n N) N) (canon .f64 4607186922399644778) = false := by
  obtain ⟨h1, h2⟩ := uN_facts hn hN hN0 hs
  have hz := Zu_q
  have hq := Qu_big
  have hQ := QP
  have hH := Hu_eq
  have hW := Wu_pos
  obtain ⟨t1, t2, t3⟩ := tot_w (xs := uN sh n N) (n := N) (fun j hj => (h1 j hj).1) (by omega) (by omega)
  rw [gtr_sv t1 c_1001.1, c_1001.2]
  have k : sm (vR (uN sh n N)) N * PU ≤ (Zu + 16777216 * Qu) * PU := Int.mul_le_mul_of_nonneg_right h2 (Int.le_of_lt PU_pos)
  rw [Int.add_mul, ZP, Int.mul_assoc 16777216, hQ] at k
  exact decide_eq_false (by omega)
include hc hn hN hN0 hs in
/-- Empty buckets let go what their unit spreads. -/
theorem spread_gap {r : Nat} (hr : r < N) : NN .f32 (spreadAt (fsR cs N) (uN sh n N) r (r + 1)) ∧ fcmp .gtr .f64 (gapW (fwiden (spreadAt (fsR cs N) (uN sh n N) r (r + 1))) (fwiden ((eN sh n (fsR cs N) N).getD r 0))) (canon .f64 4562254508917369340) = false := by
  obtain ⟨h1, h2⟩ := uN_facts hn hN hN0 hs
  have hz := Zu_q
  have hq := Qu_big
  have hQ := QP
  have hH := Hu_eq
  have hW := Wu_pos
  have lu : (uN sh n N).length = N := (bkO_len _ _ _ _).2
  obtain ⟨g1, g2, g3, g4⟩ := spread_near (xs := fsR cs N) (ys := uN sh n N) (R := rQ cs N) (N := N) (fun i hi => by
    obtain ⟨a, b, c, d, e⟩ := rain_facts hc (N := N) (by omega) hi
    exact ⟨a, by rw [c, show rQ cs N i = drN cs 9 i from if_pos hi], b⟩) h1 lu hN hr (r + 1) (Nat.le_refl _)
  have o := outs_near hc hn hN hN0 hs r hr
  obtain ⟨_, ef⟩ := empty_facts hc hn hN hs
  have en := (ef r hr n (Nat.le_refl _)).1
  have e1 : cv (rQ cs N) (fun j => vF sh (List.replicate n (canon .f32 0)) (ulR N) j n) r = sm (fun i => rQ cs N i * vR (uN sh n N) (r - i)) (r + 1) := by
    unfold cv
    apply sm_congr
    intro i hi
    unfold vR
    rw [uN_at (by omega)]; rfl
  rw [e1] at o
  refine ⟨g1, ?_⟩
  rw [eN_at hr]
  have v1 := wv_eq g1.1
  have v2 := wv_eq en.1
  have v3 : sv .f32 (bF sh (List.replicate n (canon .f32 0)) (fsR cs N) r n) = vF sh (List.replicate n (canon .f32 0)) (fsR cs N) r n := rfl
  rw [v3] at v2
  have kr : ((r + 1 : Nat) : Int) * (8 * (36865 * Qu)) ≤ 16 * (8 * (36865 * Qu)) := Int.mul_le_mul_of_nonneg_right (by omega) (by omega)
  have d1 : 4 * (sv .f32 (spreadAt (fsR cs N) (uN sh n N) r (r + 1)) - vF sh (List.replicate n (canon .f32 0)) (fsR cs N) r n) ≤ 50718720 * Qu := by omega
  have d2 : -(50718720 * Qu) ≤ 4 * (sv .f32 (spreadAt (fsR cs N) (uN sh n N) r (r + 1)) - vF sh (List.replicate n (canon .f32 0)) (fsR cs N) r n) := by omega
  have d1' := Int.mul_le_mul_of_nonneg_right d1 (Int.le_of_lt PU_pos)
  have d2' := Int.mul_le_mul_of_nonneg_right d2 (Int.le_of_lt PU_pos)
  rw [Int.mul_assoc 4, Int.sub_mul, Int.mul_assoc 50718720, hQ] at d1'
  rw [Int.mul_assoc 4, Int.sub_mul, Int.neg_mul, Int.mul_assoc 50718720, hQ] at d2'
  have w1 : sv .f64 (fwiden (spreadAt (fsR cs N) (uN sh n N) r (r + 1))) = wv (spreadAt (fsR cs N) (uN sh n N) r (r + 1)) := rfl
  have w2 : sv .f64 (fwiden (bF sh (List.replicate n (canon .f32 0)) (fsR cs N) r n)) = wv (bF sh (List.replicate n (canon .f32 0)) (fsR cs N) r n) := rfl
  obtain ⟨c1, c2⟩ := c_001
  exact gap_ok (d := 103871938560 * Hu) (widen_val g1.1).1 (widen_val en.1).1 (by rw [w1, w2, v1, v2]; omega) (by rw [w1, w2, v1, v2]; omega) (by omega) c1 (by omega)
end
section
variable {bs cs : List Int} (hb : Byt bs) (hc : Byt cs) {n N : Nat} (hn : n ≤ 5) (hN : N ≤ 16) {sh : Nat} (hs : Unit .f32 false sh)
include hb hc hn hN hs in
/-- Buckets lose nothing. -/
theorem bucket_gap : fcmp .gtr .f64 (gapW (fop .add .f64 (totW (fsR bs n) n) (totW (fsR cs N) N)) (fop .add .f64 (totW (bkO sh (fsR bs n) (fsR cs N) N).1 n) (totW (bkO sh (fsR bs n) (fsR cs N) N).2 N))) (canon .f64 4576918229304087675) = false := by
  obtain ⟨h1, h2, h3, h4, h5, h6⟩ := outs_facts hb hc hn hN hs
  have hz := Zu_q
  have hq := Qu_big
  have hQ := QP
  have hH := Hu_eq
  have hW := Wu_pos
  have p1 : ∀ j, j < N → (bkO sh (fsR bs n) (fsR cs N) N).2.getD j 0 = bF sh (fsR bs n) (fsR cs N) j n := fun j hj => by
    have := bO_get (sh := sh) (st := fsR bs n) (rs := fsR cs N) N j hj
    rw [fsR_len] at this
    exact this
  have nnE : ∀ j, j < n → NN .f32 ((bkO sh (fsR bs n) (fsR cs N) N).1.getD j 0) := h1
  have nnO : ∀ j, j < N → NN .f32 ((bkO sh (fsR bs n) (fsR cs N) N).2.getD j 0) := fun j hj => by rw [p1 j hj]; exact h2 j hj
  have sO : sm (vR (bkO sh (fsR bs n) (fsR cs N) N).2) N = sm (fun i => vF sh (fsR bs n) (fsR cs N) i n) N := sm_congr N fun i hi => by
    unfold vR; rw [p1 i hi]; rfl
  have sE : sm (vR (bkO sh (fsR bs n) (fsR cs N) N).1) n = sm (vN sh (fsR bs n) (fsR cs N) N) n := rfl
  have q1 := sm_nn (f := vR (bkO sh (fsR bs n) (fsR cs N) N).1) n fun i hi => (nnE i hi).2
  have q2 := sm_nn (f := vR (bkO sh (fsR bs n) (fsR cs N) N).2) N fun i hi => (nnO i hi).2
  have q3 := sm_nn (f := vR (fsR bs n)) n fun i hi => (rain_facts hb (N := n) (by omega) hi).1.2
  have q4 := sm_nn (f := vR (fsR cs N)) N fun i hi => (rain_facts hc (N := N) (by omega) hi).1.2
  rw [← sO, ← sE] at h3 h4
  obtain ⟨a1, a2, a3⟩ := tot_w (xs := fsR bs n) (n := n) (fun j hj => (rain_facts hb (by omega) hj).1) (by omega) (by omega)
  obtain ⟨b1, b2, b3⟩ := tot_w (xs := fsR cs N) (n := N) (fun j hj => (rain_facts hc (by omega) hj).1) (by omega) (by omega)
  obtain ⟨c1, c2, c3⟩ := tot_w (xs := (bkO sh (fsR bs n) (fsR cs N) N).1) (n := n) nnE (by omega) (by omega)
  obtain ⟨d1, d2, d3⟩ := tot_w (xs := (bkO sh (fsR bs n) (fsR cs N) N).2) (n := N) nnO (by omega) (by omega)
  generalize sm (vR (fsR bs n)) n = A at *
  generalize sm (vR (fsR cs N)) N = B at *
  generalize sm (vR (bkO sh (fsR bs n) (fsR cs N) N).1) n = C at *
  generalize sm (vR (bkO sh (fsR bs n) (fsR cs N) N).2) N = D at *
  have P0 := Int.le_of_lt PU_pos
  have k1 := Int.mul_le_mul_of_nonneg_right h3 P0
  have k2 := Int.mul_le_mul_of_nonneg_right h4 P0
  have k3 := Int.mul_le_mul_of_nonneg_right (show A + B ≤ 42 * Zu by omega) P0
  have k4 := Int.mul_nonneg q1 P0
  have k5 := Int.mul_nonneg q2 P0
  have k6 := Int.mul_nonneg q3 P0
  have k7 := Int.mul_nonneg q4 P0
  rw [Int.mul_assoc 42, ZP] at k3
  simp only [Int.add_mul, Int.mul_assoc, hQ] at k1 k2 k3
  have x1 := add64 a1 b1 (by omega) (by omega)
  have y1 := add64 c1 d1 (by omega) (by omega)
  exact gap_ok (d := 137438957568 * Hu) x1.1 y1.1 (by omega) (by omega) (by omega) c_01.1 (by rw [c_01.2]; omega)
end

end Go.Proofs.Ytddedcedkpigkaa
