/- What each function of this seat does (Fs1). Printed from templates of this seat's own. -/
import Derived.Test.YtddedcedkpigkaaSam
import Derived.Test.YtddedcedkpigkaaBxM
namespace Go.Proofs.Ytddedcedkpigkaa
open Go.Ax Go.Bx
set_option maxRecDepth 8000
set_option linter.unusedSimpArgs false
set_option linter.unusedVariables false
theorem bin32 : 2 * FloatKind.f32.format.binade = 16777216 := by decide +kernel
theorem bin64 : 2 * FloatKind.f64.format.binade = 9007199254740992 := by decide +kernel
theorem dy_ints {i : Int} (h : -16 ≤ i) (h2 : i < 48) : Dy .f32 0 i (foi .f32 i) := by
  obtain ⟨j, hj⟩ : ∃ j : Nat, (j : Int) = i + 16 := ⟨(i + 16).toNat, by omega⟩
  have h0 := of_tab tab_ints (show j < 64 by omega)
  have := dyB_spec h0
  rw [show (j : Int) - 16 = i by omega] at this
  rwa [foi_eq]
theorem dy_halves {i : Int} (h : 0 ≤ i) (h2 : i < 64) : Dy .f32 1 i (fop .quo .f32 (foi .f32 i) (canon .f32 1073741824)) := by
  obtain ⟨j, rfl⟩ : ∃ j : Nat, (j : Int) = i := ⟨i.toNat, by omega⟩
  have h0 := of_tab tab_halves (show j < 64 by omega)
  have := dyB_spec h0
  rwa [foi_eq]
theorem dy_quarters {i : Int} (h : 0 ≤ i) (h2 : i < 64) : Dy .f32 2 i (fop .quo .f32 (foi .f32 i) (canon .f32 1082130432)) := by
  obtain ⟨j, rfl⟩ : ∃ j : Nat, (j : Int) = i := ⟨i.toNat, by omega⟩
  have h0 := of_tab tab_quarters (show j < 64 by omega)
  have := dyB_spec h0
  rwa [foi_eq]
theorem dy_eighths {i : Int} (h : 0 ≤ i) (h2 : i < 64) : Dy .f32 3 i (fop .quo .f32 (foi .f32 i) (canon .f32 1090519040)) := by
  obtain ⟨j, rfl⟩ : ∃ j : Nat, (j : Int) = i := ⟨i.toNat, by omega⟩
  have h0 := of_tab tab_eighths (show j < 64 by omega)
  have := dyB_spec h0
  rwa [foi_eq]
theorem least_dy {e : Nat} {n : Int} {x : Nat} (h : Dy .f32 e n x) (he : e ≤ 149) (hn : 0 ≤ n) : least x = true := by
  unfold least K
  rw [h.fin, h.geq (dy_zero e he), decide_eq_true hn]
  rfl
theorem dy_one : Dy .f32 2 4 (canon .f32 1065353216) := dyB_spec (by decide +kernel)
theorem share_dy {n : Int} {x : Nat} (h : Dy .f32 2 n x) (hn : 0 ≤ n) (h4 : n ≤ 4) : share x = true := by
  unfold share K
  rw [h.geq (dy_zero 2 (by omega)), h.leq dy_one, decide_eq_true hn, decide_eq_true h4]
  rfl
def tk : Nat := canon .f32 1048576000
theorem mul_abs {a b : Int} {p q : Nat} (ha : a.natAbs ≤ p) (hb : b.natAbs ≤ q) : (a * b).natAbs ≤ p * q := by
  rw [Int.natAbs_mul]; exact Nat.mul_le_mul ha hb
theorem snow_out {b c' d1 : Nat} {B C D : Int} (hb : Dy .f32 2 B b) (hc : Dy .f32 5 C c') (hd : Dy .f32 7 D d1) (bB : 0 ≤ B ∧ B ≤ 4) (bC : 0 ≤ C ∧ C ≤ 8192) (bD : 0 ≤ D ∧ D ≤ 65536) :
    ∃ D' O : Int, Dy .f32 7 D' (bif fcmp .gtr .f32 (fop .sub .f32 d1 (fop .mul .f32 b c')) (canon .f32 0) then fop .mul .f32 b c' else d1) ∧
      Dy .f32 7 O (bif fcmp .gtr .f32 (fop .sub .f32 d1 (fop .mul .f32 b c')) (canon .f32 0) then fop .sub .f32 d1 (fop .mul .f32 b c') else canon .f32 0) ∧ 0 ≤ D' ∧ 0 ≤ O ∧ D' + O = D := by
  have hq : (B * C).natAbs ≤ 4 * 8192 := mul_abs (by omega) (by omega)
  have h0 : 0 ≤ B * C := Int.mul_nonneg bB.1 bC.1
  have h1 : Dy .f32 7 (B * C) (fop .mul .f32 b c') := hb.mul hc (by rw [zOf_32]; omega) (by rw [bin32]; omega)
  generalize B * C = Q at hq h0 h1
  have h2 := hd.sub h1 (by rw [bin32]; omega)
  rw [h2.gtr (dy_zero 7 (by omega))]
  by_cases h : 0 < D - Q
  · rw [decide_eq_true h]; exact ⟨Q, D - Q, h1, h2, h0, by omega, by omega⟩
  · rw [decide_eq_false h]; exact ⟨D, 0, hd, dy_zero 7 (by omega), bD.1, by omega, by omega⟩
theorem snow_step {a b c d fall warm : Nat} {A B C D J W : Int} (ha : Dy .f32 3 A a) (hb : Dy .f32 2 B b) (hc : Dy .f32 5 C c) (hd : Dy .f32 7 D d) (hf : Dy .f32 2 J fall) (hw : Dy .f32 0 W warm)
    (bA : 0 ≤ A ∧ A ≤ 8) (bB : 0 ≤ B ∧ B ≤ 4) (bC : 0 ≤ C ∧ C ≤ 4096) (bD : 0 ≤ D ∧ D ≤ 16384) (bJ : 0 ≤ J ∧ J ≤ 8) (bW : -8 ≤ W ∧ W ≤ 8) :
    ∃ C' D' O : Int, Dy .f32 5 C' (snC a c fall warm tk) ∧ Dy .f32 7 D' (snD a b c d fall warm tk) ∧ Dy .f32 7 O (snR a b c d fall warm tk) ∧ 0 ≤ C' ∧ 0 ≤ D' ∧ 0 ≤ O ∧ 4 * C' + D' + O = 4 * C + D + 32 * J ∧ (W ≤ 0 → C' = C + 8 * J) ∧ (0 < W → C' ≤ C) := by
  have hz : fcmp .leq .f32 warm (canon .f32 0) = decide (W ≤ 0) := hw.leq (dy_zero 0 (by omega))
  have hf5 : Dy .f32 5 (J * 8) fall := hf.up 3 (by rw [zOf_32]; omega)
  have key : ∃ C' D1 : Int, Dy .f32 5 C' (snC a c fall warm tk) ∧ Dy .f32 7 D1 (snD1 a c d fall warm tk) ∧ 0 ≤ C' ∧ C' ≤ 8192 ∧ 0 ≤ D1 ∧ D1 ≤ 65536 ∧ 4 * C' + D1 = 4 * C + D + 32 * J ∧ (W ≤ 0 → C' = C + 8 * J) ∧ (0 < W → C' ≤ C) := by
    unfold snC snD1
    rw [hz]
    by_cases h : W ≤ 0
    · rw [decide_eq_true h]
      have h1 := hc.add hf5 (by rw [bin32]; omega)
      exact ⟨C + J * 8, D, h1, hd, by omega, by omega, by omega, by omega, by omega, by omega, by omega⟩
    · rw [decide_eq_false h]
      have hp : (A * W).natAbs ≤ 8 * 8 := mul_abs (by omega) (by omega)
      have h0 : 0 ≤ A * W := Int.mul_nonneg bA.1 (by omega)
      have h1 : Dy .f32 3 (A * W) (fop .mul .f32 a warm) := ha.mul hw (by rw [zOf_32]; omega) (by rw [bin32]; omega)
      generalize A * W = P at hp h0 h1
      have h2 : Dy .f32 5 (P * 1) (fop .mul .f32 (fop .mul .f32 a warm) tk) := h1.mul dy_quarter (by rw [zOf_32]; omega) (by rw [bin32]; omega)
      rw [Int.mul_one] at h2
      obtain ⟨M, hM, b1, b2⟩ : ∃ M : Int, Dy .f32 5 M (snM a c warm tk) ∧ 0 ≤ M ∧ M ≤ C := by
        unfold snM
        rw [h2.gtr hc]
        by_cases g : C < P
        · rw [decide_eq_true g]; exact ⟨C, hc, bC.1, by omega⟩
        · rw [decide_eq_false g]; exact ⟨P, h2, h0, by omega⟩
      have h3 := hc.sub hM (by rw [bin32]; omega)
      have h4 := hM.add hf5 (by rw [bin32]; omega)
      have h5 : Dy .f32 7 ((M + J * 8) * 4) (fop .add .f32 (snM a c warm tk) fall) := h4.up 2 (by rw [zOf_32]; omega)
      have h6 := hd.add h5 (by rw [bin32]; omega)
      exact ⟨C - M, D + (M + J * 8) * 4, h3, h6, by omega, by omega, by omega, by omega, by omega, by omega, by omega⟩
  obtain ⟨C', D1, k1, k2, k3, k4, k5, k6, k7, k8, k9⟩ := key
  obtain ⟨D', O, o1, o2, o3, o4, o5⟩ := snow_out hb k1 k2 bB ⟨k3, k4⟩ ⟨k5, k6⟩
  exact ⟨C', D', O, k1, o1, o2, k3, o3, o4, by omega, k8, k9⟩
section
variable (bs cs : List Int)
noncomputable def fsR (N : Nat) : List Nat := tabN (rnW cs) N
noncomputable def fsWk (k : Nat) : Nat := foi .f32 (atV bs (k + 4) 17 - 8)
noncomputable def fsW (N : Nat) : List Nat := tabN (fsWk bs) N
noncomputable def fsS (N i : Nat) : Nat × Nat := snSt (swA bs) (swB bs) (swC bs) (swD bs) (fsR cs N) (fsW bs N) tk i
noncomputable def fsO (N i : Nat) : Nat := snRunAt (swA bs) (swB bs) (swC bs) (swD bs) (fsR cs N) (fsW bs N) tk i
end
/-- What holds of each step. -/
structure SnAt (bs cs : List Int) (N i : Nat) : Prop where
  ok : snOkAt (swA bs) (swB bs) (swC bs) (swD bs) (fsR cs N) (fsW bs N) tk i = true
  pos : fcmp .lss .f32 (fsO bs cs N i) (canon .f32 0) = false
  cold : fcmp .leq .f32 (fsWk bs i) (canon .f32 0) = true → ∃ Z : Int, Dy .f64 5 Z (fwiden (fsS bs cs N (i + 1)).1) ∧ Dy .f64 5 Z (fop .add .f64 (fwiden (fsS bs cs N i).1) (fwiden (rnW cs i)))
  warm : fcmp .gtr .f32 (fsWk bs i) (canon .f32 0) = true → fcmp .gtr .f32 (fsS bs cs N (i + 1)).1 (fsS bs cs N i).1 = false
section
variable {bs cs : List Int} (hb : Byt bs) (hc : Byt cs) {N : Nat} (hN : N ≤ 16)
include hb hc hN
theorem snow_inv : ∀ i : Nat, i ≤ N → (∃ C D S T : Int, Dy .f32 5 C (fsS bs cs N i).1 ∧ Dy .f32 7 D (fsS bs cs N i).2 ∧ Dy .f64 7 S (totW (fsR cs N) i) ∧ Dy .f64 7 T (totW (tabN (fsO bs cs N) N) i) ∧ 4 * C + D + T = 32 * (s3 bs).1 + 32 * (s4 bs).1 + S ∧ 0 ≤ C ∧ 0 ≤ D ∧ 0 ≤ T ∧ 0 ≤ S ∧ S ≤ 256 * i) ∧ ∀ j, j < i → SnAt bs cs N j
  | 0, _ => by
    obtain ⟨q1, q2, q3, q4⟩ := sw_bound hb
    have z64 : Dy .f64 7 0 (canon .f64 0) := dyB_spec (by decide +kernel)
    refine ⟨⟨(s3 bs).1 * 8, (s4 bs).1 * 32, 0, 0, (dy_quarters q3.2.1 (by omega)).up 3 (by rw [zOf_32]; omega), (dy_quarters q4.1 (by omega)).up 5 (by rw [zOf_32]; omega), z64, z64, by omega, by omega, by omega, by omega, by omega, by omega⟩, fun j hj => absurd hj (by omega)⟩
  | i + 1, hi => by
    obtain ⟨⟨C, D, S, T, h1, h2, h3, h4, h5, h6, h7, h8, h9, h10⟩, hall⟩ := snow_inv i (by omega)
    obtain ⟨q1, q2, q3, q4⟩ := sw_bound hb
    have bj := drN_bound hc (n := 9) (by omega) (by omega) (i := i) (by omega)
    have bw := atV_bound bs (i + 4) (n := 17) (by omega)
    have hA : Dy .f32 3 (s1 bs).1 (swA bs) := dy_eighths q1.2.1 (by omega)
    have hB : Dy .f32 2 (s2 bs).1 (swB bs) := dy_quarters q2.2.1 (by omega)
    have hf : Dy .f32 2 (drN cs 9 i) (rnW cs i) := dy_quarters bj.1 (by omega)
    have hw : Dy .f32 0 (atV bs (i + 4) 17 - 8) (fsWk bs i) := dy_ints (by omega) (by omega)
    have e1 : (fsR cs N).getD i 0 = rnW cs i := tabN_getD (rnW cs) (show i < N by omega) 0
    have e2 : (fsW bs N).getD i 0 = fsWk bs i := tabN_getD (fsWk bs) (show i < N by omega) 0
    have e3 : (tabN (fsO bs cs N) N).getD i 0 = fsO bs cs N i := tabN_getD (fsO bs cs N) (show i < N by omega) 0
    obtain ⟨C', D', O, g1, g2, g3, g4, g5, g6, g7, g8, g9⟩ := snow_step hA hB h1 h2 hf hw ⟨q1.2.1, by omega⟩ ⟨q2.2.1, by omega⟩ ⟨h6, by omega⟩ ⟨h7, by omega⟩ ⟨bj.1, by omega⟩ ⟨by omega, by omega⟩
    have s1' : (fsS bs cs N (i + 1)).1 = snC (swA bs) (fsS bs cs N i).1 (rnW cs i) (fsWk bs i) tk := by
      rw [← e1, ← e2]; rfl
    have s2' : (fsS bs cs N (i + 1)).2 = snD (swA bs) (swB bs) (fsS bs cs N i).1 (fsS bs cs N i).2 (rnW cs i) (fsWk bs i) tk := by
      rw [← e1, ← e2]; rfl
    have so : fsO bs cs N i = snR (swA bs) (swB bs) (fsS bs cs N i).1 (fsS bs cs N i).2 (rnW cs i) (fsWk bs i) tk := by
      rw [← e1, ← e2]; rfl
    have t1 : Dy .f64 7 (S + drN cs 9 i * 32) (totW (fsR cs N) (i + 1)) := by
      simp only [totW]; rw [e1]
      exact h3.add (hf.widen.up 5 (by rw [zOf_64]; omega)) (by rw [bin64]; show (S + drN cs 9 i * 32).natAbs ≤ _; omega)
    have t2 : Dy .f64 7 (T + O) (totW (tabN (fsO bs cs N) N) (i + 1)) := by
      simp only [totW]; rw [e3, so]
      exact h4.add g3.widen (by rw [bin64]; omega)
    refine ⟨⟨C', D', _, _, by rw [s1']; exact g1, by rw [s2']; exact g2, t1, t2, by omega, g4, g5, by omega, by omega, by omega⟩, fun j hj => ?_⟩
    by_cases hj' : j < i
    · exact hall j hj'
    · obtain rfl : j = i := by omega
      refine ⟨?_, ?_, fun hcold => ⟨C + 8 * drN cs 9 j, ?_, ?_⟩, fun hwarm => ?_⟩
      · unfold snOkAt
        rw [e1, e2]
        unfold snOk snV
        have l1 := least_dy hA (by omega) q1.2.1
        have l2 := share_dy hB q2.2.1 (by omega)
        have l3 := least_dy g1 (by omega) g4
        have l4 := least_dy g2 (by omega) g5
        have l5 := g3.fin
        unfold fsS at l3 l4 l5
        rw [l1, l2, l3, l4, l5]
        rfl
      · rw [so, g3.lss (dy_zero 7 (by omega))]; exact decide_eq_false (by omega)
      · rw [hw.leq (dy_zero 0 (by omega))] at hcold
        have := g8 (of_decide_eq_true hcold)
        rw [s1', ← this]; exact g1.widen
      · have := h1.widen.add (hf.widen.up 3 (by rw [zOf_64]; omega)) (by rw [bin64]; show (C + drN cs 9 j * 8).natAbs ≤ _; omega)
        rw [show C + 8 * drN cs 9 j = C + drN cs 9 j * ((2 ^ 3 : Nat) : Int) by show _ = C + drN cs 9 j * 8; omega]
        exact this
      · rw [hw.gtr (dy_zero 0 (by omega))] at hwarm
        have := g9 (of_decide_eq_true hwarm)
        rw [s1', g1.gtr h1]; exact decide_eq_false (by omega)
end

end Go.Proofs.Ytddedcedkpigkaa
