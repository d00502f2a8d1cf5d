/- What each function of this seat does (St5). Printed from templates of this seat's own. -/
import Derived.Test.YtnepjbnoaemmdaaSt4
namespace Go.Proofs.Ytnepjbnoaemmdaa
open Go.Ax Go.Bx
set_option maxRecDepth 8000
set_option linter.unusedSimpArgs false
set_option linter.unusedVariables false
noncomputable def btN (bs : List Int) : Nat := (bt0 bs).1.toNat
noncomputable def szL (bs : List Int) : List Nat := tabN (fun i => (btT bs i).2.2.1) (btN bs)
noncomputable def tkF (r : Nat) : Nat := rlT tk2 (r : Int)
noncomputable def vFT (bs : List Int) (i r : Nat) : Int := sv .f32 (stF (btT bs i) (tkF r))
theorem sm_tel (f : Nat → Nat → Int) (R : Nat) : ∀ n, sm (fun i => f i (R + 1) - f i 0) n = sm (fun i => f i R - f i 0) n + sm (fun i => f i (R + 1) - f i R) n
  | 0 => rfl
  | n + 1 => by rw [sm, sm, sm, sm_tel f R n]; omega
section
variable {bs : List Int} (hb : Byt bs)
include hb
theorem btN_le : btN bs ≤ 4 := by have := bt0_bound hb; unfold btN; omega
omit hb in
theorem btL_len : (btL bs).length = btN bs := tabN_len _ _
omit hb in
theorem btL_at {i : Nat} (h : i < btN bs) : (btL bs).getD i z4 = btT bs i := tabN_getD (btT bs) h z4
omit hb in
theorem szL_at {i : Nat} (h : i < btN bs) : (szL bs).getD i 0 = (btT bs i).2.2.1 := tabN_getD (fun i => (btT bs i).2.2.1) h 0
omit hb in
theorem tkF_eq (r : Nat) : tkF r = tkR r := by unfold tkF rlT tkR tk2; rw [foi_eq]
theorem bt_fallen {i : Nat} (hi : i < btN bs) : (∀ r : Nat, r ≤ 40 → NN .f32 (stF (btT bs i) (tkF r)) ∧ (r < 40 → vFT bs i r ≤ vFT bs i (r + 1))) ∧ vFT bs i 0 = 0 ∧ vFT bs i 40 = sv .f32 (btT bs i).2.2.1 ∧ NN .f32 (btT bs i).2.2.1 ∧ sv .f32 (btT bs i).2.2.1 ≤ 4 * Zu ∧ stV (btT bs i) = true := by
  have hn := btN_le hb
  obtain ⟨a, b, c, d, ha, hb', hc, hd, e⟩ := bt_sT hb (i := i) (by omega)
  unfold vFT
  simp only [tkF_eq]
  rw [e]
  obtain ⟨h1, h2, h3⟩ := sT_fallen ha hb' hc hd
  obtain ⟨s1, s2, _⟩ := sT_size hc
  exact ⟨h1, h2, by rw [h3]; rfl, s1, s2, sT_valid ha hb' hc hd⟩
theorem vFT_le {i : Nat} (hi : i < btN bs) : ∀ k r : Nat, r + k = 40 → vFT bs i r ≤ 4 * Zu
  | 0, r, h => by
    obtain ⟨_, _, h3, _, h5, _⟩ := bt_fallen hb hi
    rw [show r = 40 by omega, h3]; exact h5
  | k + 1, r, h => by
    have h1 := vFT_le hi k (r + 1) (by omega)
    have := ((bt_fallen hb hi).1 r (by omega)).2 (by omega)
    omega
theorem rl_near {r : Nat} (hr : r < 40) : ∀ m : Nat, m ≤ btN bs → NN .f32 (rlAt (btL bs) tk2 (r : Int) m) ∧ sv .f32 (rlAt (btL bs) tk2 (r : Int) m) ≤ m * (5 * Zu) ∧
    sv .f32 (rlAt (btL bs) tk2 (r : Int) m) - sm (fun i => vFT bs i (r + 1) - vFT bs i r) m ≤ m * (2 * (26625 * Qu)) ∧ -(m * (2 * (26625 * Qu))) ≤ sv .f32 (rlAt (btL bs) tk2 (r : Int) m) - sm (fun i => vFT bs i (r + 1) - vFT bs i r) m
  | 0, _ => by
    have z := sv_zero
    have e : sv .f32 (rlAt (btL bs) tk2 (r : Int) 0) = 0 := z.2
    refine ⟨⟨z.1, by rw [e]; exact Int.le_refl _⟩, ?_, ?_, ?_⟩ <;> rw [e] <;> simp [sm]
  | m + 1, hm => by
    obtain ⟨h1, h2, h3, h4⟩ := rl_near hr m (by omega)
    have hz := Zu_q
    have hq := Qu_big
    have hn := btN_le hb
    obtain ⟨f1, _⟩ := bt_fallen hb (i := m) (by omega)
    have g0 := f1 r (by omega)
    have g1 := f1 (r + 1) (by omega)
    have l1 := vFT_le hb (i := m) (by omega) (40 - (r + 1)) (r + 1) (by omega)
    have mo := g0.2 hr
    have eo : rlD ((btL bs).getD m z4) tk2 (r : Int) = fop .sub .f32 (stF (btT bs m) (tkF (r + 1))) (stF (btT bs m) (tkF r)) := by
      rw [btL_at (by omega)]; rfl
    have s := sub_v (V := 26 * Zu) (e := 26625 * Qu) g1.1 g0.1 mo (by rw [show sv .f32 (stF (btT bs m) (tkF (r + 1))) = vFT bs m (r + 1) from rfl]; omega) (by omega) (by omega)
    have v1 : sv .f32 (stF (btT bs m) (tkF (r + 1))) = vFT bs m (r + 1) := rfl
    have v0 : sv .f32 (stF (btT bs m) (tkF r)) = vFT bs m r := rfl
    have vn : 0 ≤ vFT bs m r := g0.1.2
    rw [v1, v0] at s
    have mb : (m : Int) * (5 * Zu) ≤ 3 * (5 * Zu) := Int.mul_le_mul_of_nonneg_right (by omega) (by omega)
    have kE : ∀ z : Int, ((m + 1 : Nat) : Int) * z = m * z + z := fun z => by rw [Int.natCast_add, Int.add_mul]; simp
    rw [rlAt, eo]
    generalize fop .sub .f32 (stF (btT bs m) (tkF (r + 1))) (stF (btT bs m) (tkF r)) = o at *
    rw [kE, kE]
    simp only [sm]
    cases hg : fcmp .gtr .f32 o (canon .f32 0) with
    | true =>
      have g := add_v (V := 26 * Zu) (e := 26625 * Qu) h1 s.1 (by omega) (by omega) (by omega)
      rw [cond_true]
      refine ⟨g.1, by omega, by omega, by omega⟩
    | false =>
      rw [cond_false]
      rw [gtr_sv s.1.1 sv_zero.1, sv_zero.2] at hg
      have := of_decide_eq_false hg
      have := s.1.2
      refine ⟨h1, by omega, by omega, by omega⟩
noncomputable def rnL (bs : List Int) : List Nat := rlL (btL bs) tk2 40
omit hb in
theorem rnL_len (bs : List Int) : (rnL bs).length = 40 := tabN_len _ _
omit hb in
theorem rnL_at {r : Nat} (h : r < 40) : (rnL bs).getD r 0 = rlAt (btL bs) tk2 (r : Int) (btN bs) := by
  unfold rnL rlL
  rw [tabN_getD (fun r => rlAt (btL bs) tk2 (r : Int) (btL bs).length) h 0, btL_len]
theorem rnL_nn {r : Nat} (h : r < 40) : NN .f32 ((rnL bs).getD r 0) := by
  rw [rnL_at h]; exact (rl_near hb h _ (Nat.le_refl _)).1
theorem rl_total : ∀ R : Nat, R ≤ 40 → sm (vR (rnL bs)) R - sm (fun i => vFT bs i R - vFT bs i 0) (btN bs) ≤ R * (213000 * Qu) ∧ -(R * (213000 * Qu)) ≤ sm (vR (rnL bs)) R - sm (fun i => vFT bs i R - vFT bs i 0) (btN bs)
  | 0, _ => by
    have : sm (fun i => vFT bs i 0 - vFT bs i 0) (btN bs) = 0 := by
      generalize btN bs = n
      induction n with
      | zero => rfl
      | succ n ih => rw [sm, ih]; omega
    rw [this]; simp [sm]
  | R + 1, h => by
    obtain ⟨h1, h2⟩ := rl_total R (by omega)
    have hz := Zu_q
    have hq := Qu_big
    have hn := btN_le hb
    obtain ⟨g1, g2, g3, g4⟩ := rl_near hb (r := R) (by omega) (btN bs) (Nat.le_refl _)
    have e : vR (rnL bs) R = sv .f32 (rlAt (btL bs) tk2 (R : Int) (btN bs)) := by unfold vR; rw [rnL_at (by omega)]
    have kE : ((R + 1 : Nat) : Int) * (213000 * Qu) = R * (213000 * Qu) + 213000 * Qu := by rw [Int.natCast_add, Int.add_mul]; simp
    have nb : (btN bs : Int) * (2 * (26625 * Qu)) ≤ 4 * (2 * (26625 * Qu)) := Int.mul_le_mul_of_nonneg_right (by omega) (by omega)
    rw [sm_tel (vFT bs) R (btN bs), kE, sm, e]
    omega
theorem sizes_eq : sm (fun i => vFT bs i 40 - vFT bs i 0) (btN bs) = sm (vR (szL bs)) (btN bs) := sm_congr _ fun i hi => by
  obtain ⟨_, h2, h3, _⟩ := bt_fallen hb hi
  unfold vR
  rw [h2, h3, szL_at hi]; omega
theorem sizes_b : (∀ i, i < btN bs → NN .f32 ((szL bs).getD i 0)) ∧ 0 ≤ sm (vR (szL bs)) (btN bs) ∧ sm (vR (szL bs)) (btN bs) ≤ 16 * Zu := by
  have hz := Zu_pos
  have hn := btN_le hb
  have h1 : ∀ i, i < btN bs → NN .f32 ((szL bs).getD i 0) := fun i hi => by rw [szL_at hi]; exact (bt_fallen hb hi).2.2.2.1
  refine ⟨h1, sm_nn _ fun i hi => (h1 i hi).2, ?_⟩
  have := sm_le (f := vR (szL bs)) (c := 4 * Zu) (btN bs) fun i hi => by unfold vR; rw [szL_at hi]; exact (bt_fallen hb hi).2.2.2.2.1
  have k : (btN bs : Int) * (4 * Zu) ≤ 4 * (4 * Zu) := Int.mul_le_mul_of_nonneg_right (by omega) (by omega)
  omega
theorem storms_ok : stormsB (btL bs) = true ∧ rnC (btL bs) tk2 40 = true := by
  have hn := btN_le hb
  have h1 : stormsB (btL bs) = true := by
    unfold stormsB
    rw [btL_len, decide_eq_true (by omega), Bool.true_and]
    exact allN_iff.2 fun i hi => by rw [btL_at hi]; exact (bt_fallen hb hi).2.2.2.2.2
  refine ⟨h1, ?_⟩
  unfold rnC
  rw [h1, show above tk2 = true by unfold above K; rw [tk2_dy.fin, tk2_dy.gtr (dy_zero 1 (by omega))]; rfl, show inR (40 : Int) 0 128 = true from rfl]
  unfold rlC
  have f1 : allN (fun r => fin (rlT tk2 ((r : Int) + 1))) (40 : Int).toNat = true := allN_iff.2 fun r hr => by
    have hr : r < 40 := hr
    rw [show rlT tk2 ((r : Int) + 1) = tkF (r + 1) from rfl, tkF_eq]
    have := of_tab tab_tick (show r + 1 < 41 by omega)
    rw [Bool.and_eq_true] at this
    exact this.1
  have f2 : finL (rlL (btL bs) tk2 (40 : Int).toNat) = true := by
    unfold finL
    exact allN_iff.2 fun r hr => by
      have hr : r < 40 := by rw [show (rlL (btL bs) tk2 (40 : Int).toNat).length = 40 from tabN_len _ _] at hr; exact hr
      exact fin_nn (rnL_nn hb hr)
  rw [f1, f2]; rfl
theorem rnO_eq : rnO (btL bs) tk2 40 = rnL bs := by unfold rnO; rw [(storms_ok hb).2]; rfl
theorem rn_rain : rainB (rnL bs) = true := by
  unfold rainB leastL
  rw [rnL_len, show decide (40 ≤ 128) = true from rfl, Bool.true_and]
  exact allN_iff.2 fun i hi => least_nn (rnL_nn hb hi)
/-- All of the rain falls, nearly. -/
theorem storms_gap : fcmp .gtr .f64 (gapW (totW (rnL bs) 40) (totW (szL bs) (btN bs))) (fop .mul .f64 (canon .f64 4562254508917369340) (fop .add .f64 (canon .f64 4607182418800017408) (totW (szL bs) (btN bs)))) = false := by
  have hz := Zu_q
  have hq := Qu_big
  have hQ := QP
  have hH := Hu_eq
  have hW := Wu_pos
  have hn := btN_le hb
  obtain ⟨a1, a2⟩ := rl_total hb 40 (Nat.le_refl _)
  rw [sizes_eq hb] at a1 a2
  obtain ⟨s1, s2, s3⟩ := sizes_b hb
  obtain ⟨p1, p2, p3⟩ := tot_w (xs := rnL bs) (n := 40) (fun j hj => rnL_nn hb hj) (by omega) (by omega)
  obtain ⟨q1, q2, q3⟩ := tot_w (xs := szL bs) (n := btN bs) s1 (by omega) (by omega)
  generalize sm (vR (rnL bs)) 40 = A at *
  generalize sm (vR (szL bs)) (btN bs) = B at *
  have P0 := Int.le_of_lt PU_pos
  have k1 := Int.mul_le_mul_of_nonneg_right a1 P0
  have k2 := Int.mul_le_mul_of_nonneg_right a2 P0
  have k3 := Int.mul_le_mul_of_nonneg_right s3 P0
  have k4 := Int.mul_nonneg s2 P0
  have e40 : ((40 : Nat) : Int) * (213000 * Qu) = 8520000 * Qu := by omega
  rw [e40] at k1 k2
  rw [Int.mul_assoc 16, ZP] at k3
  simp only [Int.sub_mul, Int.neg_mul, Int.mul_assoc, hQ] at k1 k2
  have d1 : Dy .f64 0 1 (canon .f64 4607182418800017408) := dyB_spec (by decide +kernel)
  have v1 : sv .f64 (canon .f64 4607182418800017408) = 140737488355328 * Hu := by
    rw [d1.2.2, Nat.sub_zero, zOf_64]
    have p47 : ((2 ^ 47 : Nat) : Int) = 140737488355328 := rfl
    rw [pow_cast 47 eH 1074 (by decide), p47]
    unfold Hu; omega
  have m1 := add64 d1.1 q1 (by omega) (by omega)
  have mm := (add_mono d1.1 q1 d1.1).2
  obtain ⟨c1, c2⟩ := c_001
  have c3 : sv .f64 (canon .f64 4562254508917369340) ≤ 576460752303424 * Wu := by
    rw [dy_m001.2.2, show zOf .f64 - 62 = 1012 by rw [zOf_64]]
    unfold Wu
    have p3 : ((2 ^ 3 : Nat) : Int) = 8 := rfl
    rw [pow_cast 3 1012 eW (by decide), p3]
    have := Nat.two_pow_pos 1012
    generalize 2 ^ 1012 = z at *
    omega
  have qn : 0 ≤ sv .f64 (totW (szL bs) (btN bs)) := by
    have : ∀ k, k ≤ btN bs → Fin .f64 (totW (szL bs) k) ∧ 0 ≤ sv .f64 (totW (szL bs) k) := by
      intro k
      induction k with
      | zero =>
        intro _
        have z64 : Dy .f64 0 0 (canon .f64 0) := dyB_spec (by decide +kernel)
        have e := z64.2.2
        rw [Int.zero_mul] at e
        exact ⟨z64.1, by show 0 ≤ sv .f64 (canon .f64 0); rw [e]; exact Int.le_refl _⟩
      | succ k ih =>
        intro hk
        have ih := ih (by omega)
        have hs := s1 k (by omega)
        have z64 : Dy .f64 0 0 (canon .f64 0) := dyB_spec (by decide +kernel)
        have e0 := z64.2.2
        rw [Int.zero_mul] at e0
        have w0 := wv_nn hs
        have w1 : wv ((szL bs).getD k 0) = sv .f64 (fwiden ((szL bs).getD k 0)) := rfl
        have g := (add_mono ih.1 (widen_val hs.1).1 z64.1).2 (by rw [e0]; omega)
        rw [e0] at g
        refine ⟨?_, g⟩
        exact (tot_w (xs := szL bs) (n := k + 1) (fun j hj => s1 j (by omega)) (by omega) (by
          have := sm_mono (f := vR (szL bs)) (m := k + 1) (btN bs) hk fun i hi => (s1 i hi).2
          obtain ⟨_, _, t3⟩ := sizes_b hb
          have := Zu_pos
          omega)).1
    exact (this _ (Nat.le_refl _)).2
  have mm := mm (by omega)
  rw [v1] at m1 mm
  generalize fop .add .f64 (canon .f64 4607182418800017408) (totW (szL bs) (btN bs)) = Y at *
  have yn : Go.Ax.NN .f64 Y := ⟨m1.1, by omega⟩
  have cn : Go.Ax.NN .f64 (canon .f64 4562254508917369340) := ⟨c1, by omega⟩
  have z64 : ((2 ^ zOf .f64 : Nat) : Int) = 140737488355328 * Hu := by
    rw [zOf_64]
    have p47 : ((2 ^ 47 : Nat) : Int) = 140737488355328 := rfl
    rw [pow_cast 47 eH 1074 (by decide), p47]
    unfold Hu; omega
  have H0 : 0 ≤ Hu := Int.le_of_lt Hu_pos
  have pr : sv .f64 (canon .f64 4562254508917369340) * sv .f64 Y ≤ (140737488355328 * Hu) * (9007199254740992 * Hu) := Int.mul_le_mul (by omega) (by omega) yn.2 (by omega)
  have mul := mul_near cn yn (N := 9007199254740992) (j := eH) (by rw [bin64]; omega) (by rw [zOf_64]; decide) (by
    rw [Int.natCast_mul, z64, Int.natCast_mul]
    show _ ≤ 9007199254740992 * Hu * _
    rw [Int.mul_comm (140737488355328 * Hu)] at pr
    exact pr)
  have lo := (mul_mono cn yn cn).2 (by rw [z64]; exact Int.mul_le_mul_of_nonneg_left mm cn.2) mul.1.2
  exact gap_ok (d := 70000000000 * Hu) p1 q1 (by omega) (by omega) (by omega) mul.1.1 (by omega)
end

end Go.Proofs.Ytnepjbnoaemmdaa
