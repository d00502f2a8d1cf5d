/- What each function of this seat does (Nr4). Printed from templates of this seat's own. -/
import Derived.Test.YtnepjbnoaemmdaaN3a
import Derived.Test.YtnepjbnoaemmdaaN3b
import Derived.Test.YtnepjbnoaemmdaaN3c
namespace Go.Proofs.Ytnepjbnoaemmdaa
open Go.Ax Go.Bx
set_option maxRecDepth 8000
set_option linter.unusedSimpArgs false
set_option linter.unusedVariables false
theorem tab_at {v w : Nat} (hv : v < 33) (hw : w < 33) : nrT (nrX v, nrX w) = true :=
  match v, hv with
  | 0, _ => of_tab tab_at_0 hw
  | 1, _ => of_tab tab_at_1 hw
  | 2, _ => of_tab tab_at_2 hw
  | 3, _ => of_tab tab_at_3 hw
  | 4, _ => of_tab tab_at_4 hw
  | 5, _ => of_tab tab_at_5 hw
  | 6, _ => of_tab tab_at_6 hw
  | 7, _ => of_tab tab_at_7 hw
  | 8, _ => of_tab tab_at_8 hw
  | 9, _ => of_tab tab_at_9 hw
  | 10, _ => of_tab tab_at_10 hw
  | 11, _ => of_tab tab_at_11 hw
  | 12, _ => of_tab tab_at_12 hw
  | 13, _ => of_tab tab_at_13 hw
  | 14, _ => of_tab tab_at_14 hw
  | 15, _ => of_tab tab_at_15 hw
  | 16, _ => of_tab tab_at_16 hw
  | 17, _ => of_tab tab_at_17 hw
  | 18, _ => of_tab tab_at_18 hw
  | 19, _ => of_tab tab_at_19 hw
  | 20, _ => of_tab tab_at_20 hw
  | 21, _ => of_tab tab_at_21 hw
  | 22, _ => of_tab tab_at_22 hw
  | 23, _ => of_tab tab_at_23 hw
  | 24, _ => of_tab tab_at_24 hw
  | 25, _ => of_tab tab_at_25 hw
  | 26, _ => of_tab tab_at_26 hw
  | 27, _ => of_tab tab_at_27 hw
  | 28, _ => of_tab tab_at_28 hw
  | 29, _ => of_tab tab_at_29 hw
  | 30, _ => of_tab tab_at_30 hw
  | 31, _ => of_tab tab_at_31 hw
  | 32, _ => of_tab tab_at_32 hw
  | n + 33, h => absurd h (by omega)
theorem nr_hyp {a : Nat × Nat} {fs : List Nat} (h : nrT a = true) (lf : fs.length = 4) (ff : finL fs = true) : NrH psL fs a := by
  simp only [nrT, Bool.and_eq_true] at h
  obtain ⟨h1, h2⟩ := h
  have hp : psL.length = 4 := rfl
  refine ⟨by rw [hp]; omega, by rw [hp, lf], ff, by rw [h1.1, h1.2]; rfl, fun i hi => ?_, fun i hi j hj => ?_, fun i hi => ?_, fun i hi => ?_⟩
  · have := of_tab tab_dis (show i < 4 from hi)
    rw [Bool.and_eq_true] at this
    exact this.1
  · have := of_tab tab_dis (show i < 4 from hi)
    rw [Bool.and_eq_true] at this
    have := of_tab this.2 hj
    simpa using this
  · have := of_tab h2 (show i < 4 from hi)
    rw [Bool.and_eq_true, Bool.and_eq_true] at this
    simpa using this.1.1
  · have := of_tab h2 (show i < 4 from hi)
    rw [Bool.and_eq_true, Bool.and_eq_true] at this
    simpa using this.1.2
theorem okW_nn {w : Nat} (h : okW w = true) : NN .f32 w ∧ Zu ≤ 128 * sv .f32 w ∧ sv .f32 w ≤ 16 * Zu := by
  simp only [okW, Bool.and_eq_true, decide_eq_true_eq] at h
  have hz := Zu_q
  have hq := Qu_big
  have k3 : Zu = ((2 ^ zOf .f32 : Nat) : Int) := rfl
  rw [← k3] at h
  exact ⟨⟨h.1.1, by omega⟩, h.1.2, h.2⟩
theorem nr_w {a : Nat × Nat} (h : nrT a = true) (hz : ∀ j, j < 4 → nrZ psL a j = false) {i : Nat} (hi : i < 4) : NN .f32 (nrW psL a i) ∧ Zu ≤ 128 * sv .f32 (nrW psL a i) ∧ sv .f32 (nrW psL a i) ≤ 16 * Zu := by
  simp only [nrT, Bool.and_eq_true] at h
  have := of_tab h.2 hi
  rw [Bool.and_eq_true, hz i hi, Bool.false_or] at this
  exact okW_nn this.2
section
variable {a : Nat × Nat} {fs : List Nat} {H L : Int} (hw : ∀ i, i < 4 → NN .f32 (nrW psL a i) ∧ Zu ≤ 128 * sv .f32 (nrW psL a i) ∧ sv .f32 (nrW psL a i) ≤ 16 * Zu) (hf : ∀ i, i < 4 → NN .f32 (fs.getD i 0) ∧ sv .f32 (fs.getD i 0) ≤ H ∧ L ≤ sv .f32 (fs.getD i 0)) (hH : H ≤ 8 * Zu) (hL : 0 ≤ L)
include hw hf hH hL
theorem nr_sums : ∀ k : Nat, k ≤ 4 → NN .f32 (nrS psL fs a k) ∧ NN .f32 (nrA psL a k) ∧ sv .f32 (nrS psL fs a k) ≤ k * (130 * Zu) ∧ sv .f32 (nrA psL a k) ≤ k * (17 * Zu) ∧ (0 < k → Zu ≤ 256 * sv .f32 (nrA psL a k)) ∧
    1048576 * (sv .f32 (nrS psL fs a k) * Zu) ≤ (1048576 + 4 * (k : Int)) * (sv .f32 (nrA psL a k) * H) + k * (1073741824 * Zu) ∧
    (1048576 - 4 * (k : Int)) * (sv .f32 (nrA psL a k) * L) ≤ 1048576 * (sv .f32 (nrS psL fs a k) * Zu) + k * (1073741824 * Zu)
  | 0, _ => by
    have z := sv_zero
    have e1 : sv .f32 (nrS psL fs a 0) = 0 := z.2
    have e2 : sv .f32 (nrA psL a 0) = 0 := z.2
    refine ⟨⟨z.1, by rw [e1]; exact Int.le_refl _⟩, ⟨z.1, by rw [e2]; exact Int.le_refl _⟩, ?_, ?_, fun h => absurd h (by omega), ?_, ?_⟩ <;> simp [e1, e2]
  | k + 1, hk => by
    obtain ⟨i1, i2, i3, i4, i5, i6, i7⟩ := nr_sums k (by omega)
    obtain ⟨w1, w2, w3⟩ := hw k (by omega)
    obtain ⟨f1, f2, f3⟩ := hf k (by omega)
    have hz := Zu_q
    have hq := Qu_big
    have H0 : 0 ≤ H := Int.le_trans f1.2 f2
    have eP : sv .f32 (nrW psL a k) * sv .f32 (fs.getD k 0) ≤ (128 * Zu) * Zu := by
      have : sv .f32 (nrW psL a k) * sv .f32 (fs.getD k 0) ≤ (16 * Zu) * (8 * Zu) := Int.mul_le_mul w3 (by omega) f1.2 (by omega)
      rw [show (16 * Zu) * (8 * Zu) = (128 * Zu) * Zu by rw [← Int.mul_assoc]; congr 1] at this
      exact this
    obtain ⟨m1, m2, m3⟩ := mul_w (V := 128 * Zu) (e := 131073 * Qu) w1 f1 eP (by omega) (by omega)
    have mr := mul_rel w1 f1 m1
    have k3 : ((2 ^ zOf .f32 : Nat) : Int) = Zu := rfl
    rw [k3] at mr
    have mle : sv .f32 (fop .mul .f32 (nrW psL a k) (fs.getD k 0)) ≤ 128 * Zu + 131073 * Qu := Int.le_of_mul_le_mul_right (a := Zu) (by rw [Int.add_mul]; omega) (by omega)
    have WH : sv .f32 (nrW psL a k) * sv .f32 (fs.getD k 0) ≤ sv .f32 (nrW psL a k) * H := Int.mul_le_mul_of_nonneg_left f2 w1.2
    have WL : sv .f32 (nrW psL a k) * L ≤ sv .f32 (nrW psL a k) * sv .f32 (fs.getD k 0) := Int.mul_le_mul_of_nonneg_left f3 w1.2
    have k4 : k = 0 ∨ k = 1 ∨ k = 2 ∨ k = 3 := by omega
    have i3' : sv .f32 (nrS psL fs a k) ≤ 390 * Zu := by
      have : (k : Int) * (130 * Zu) ≤ 3 * (130 * Zu) := Int.mul_le_mul_of_nonneg_right (by omega) (by omega)
      omega
    have i4' : sv .f32 (nrA psL a k) ≤ 51 * Zu := by
      have : (k : Int) * (17 * Zu) ≤ 3 * (17 * Zu) := Int.mul_le_mul_of_nonneg_right (by omega) (by omega)
      omega
    have s1 := add_v (V := 530 * Zu) (e := 542721 * Qu) i1 m1 (by omega) (by omega) (by omega)
    have s2 := add_v (V := 70 * Zu) (e := 71681 * Qu) i2 w1 (by omega) (by omega) (by omega)
    have r1 := add_rel i1.1 m1.1 (by have := i1.2; have := m1.2; omega) s1.1.1 s1.1.2
    have r2 := add_rel i2.1 w1.1 (by have := i2.2; have := w1.2; omega) s2.1.1 s2.1.2
    have eS : nrS psL fs a (k + 1) = fop .add .f32 (nrS psL fs a k) (fop .mul .f32 (nrW psL a k) (fs.getD k 0)) := rfl
    have eA : nrA psL a (k + 1) = fop .add .f32 (nrA psL a k) (nrW psL a k) := rfl
    rw [← eS] at s1 r1
    rw [← eA] at s2 r2
    have S0 := i1.2
    have A0 := i2.2
    have W0 := w1.2
    have P0 := m1.2
    have S1 := s1.1.2
    have A1 := s2.1.2
    generalize sv .f32 (nrS psL fs a (k + 1)) = S' at *
    generalize sv .f32 (nrA psL a (k + 1)) = A' at *
    generalize sv .f32 (nrS psL fs a k) = S at *
    generalize sv .f32 (nrA psL a k) = A at *
    generalize sv .f32 (fop .mul .f32 (nrW psL a k) (fs.getD k 0)) = P at *
    generalize sv .f32 (nrW psL a k) * sv .f32 (fs.getD k 0) = WF at *
    generalize sv .f32 (nrW psL a k) = W at *
    have Z0 : (0 : Int) ≤ Zu := by omega
    -- all times Zu, H or L
    have a1 := Int.mul_le_mul_of_nonneg_right r1.1 Z0
    have a2 := Int.mul_le_mul_of_nonneg_right r1.2 Z0
    have b1 := Int.mul_le_mul_of_nonneg_right r2.2 H0
    have b2 := Int.mul_le_mul_of_nonneg_right r2.1 hL
    simp only [Int.add_mul, Int.mul_add, Int.mul_assoc] at a1 a2 b1 b2
    have AH : 0 ≤ A * H := Int.mul_nonneg A0 H0
    have AL : 0 ≤ A * L := Int.mul_nonneg A0 hL
    have WL0 : 0 ≤ W * L := Int.mul_nonneg W0 hL
    have WH0 : 0 ≤ W * H := Int.mul_nonneg W0 H0
    have L8 : L ≤ 8 * Zu := by omega
    refine ⟨s1.1, s2.1, ?_, ?_, fun _ => by omega, ?_, ?_⟩
    · rcases k4 with rfl | rfl | rfl | rfl <;> omega
    · rcases k4 with rfl | rfl | rfl | rfl <;> omega
    · rcases k4 with rfl | rfl | rfl | rfl <;> omega
    · rcases k4 with rfl | rfl | rfl | rfl <;> omega
theorem nr_between : NN .f32 (nrQ psL fs a) ∧ 32768 * sv .f32 (nrQ psL fs a) ≤ 32769 * H + Qu ∧ 32767 * L ≤ 32768 * sv .f32 (nrQ psL fs a) + Qu := by
  obtain ⟨i1, i2, i3, i4, i5, i6, i7⟩ := nr_sums hw hf hH hL 4 (Nat.le_refl _)
  have i5 := i5 (by omega)
  have hz := Zu_q
  have hq := Qu_big
  have hq2 : 274877906944 * 1024 ≤ Qu := by
    unfold Qu
    have h : (2 : Nat) ^ 48 ≤ 2 ^ 115 := Nat.pow_le_pow_right (by omega) (by omega)
    have : (2 : Nat) ^ 48 = 281474976710656 := rfl
    omega
  have eQ : nrQ psL fs a = fop .quo .f32 (nrS psL fs a 4) (nrA psL a 4) := rfl
  have A0 : 0 < sv .f32 (nrA psL a 4) := by omega
  have H0 : 0 ≤ H := by obtain ⟨f1, f2, _⟩ := hf 0 (by omega); exact Int.le_trans f1.2 f2
  have L8 : L ≤ 8 * Zu := by obtain ⟨f1, f2, f3⟩ := hf 0 (by omega); omega
  have Z0 : (0 : Int) ≤ Zu := by omega
  have AH8 : sv .f32 (nrA psL a 4) * H ≤ sv .f32 (nrA psL a 4) * (8 * Zu) := Int.mul_le_mul_of_nonneg_left hH (Int.le_of_lt A0)
  have AL8 : sv .f32 (nrA psL a 4) * L ≤ sv .f32 (nrA psL a 4) * (8 * Zu) := Int.mul_le_mul_of_nonneg_left L8 (Int.le_of_lt A0)
  have AZ : sv .f32 (nrA psL a 4) * (8 * Zu) = 8 * (sv .f32 (nrA psL a 4) * Zu) := Int.mul_left_comm _ _ _
  have ZZ : Zu * Zu ≤ 256 * sv .f32 (nrA psL a 4) * Zu := Int.mul_le_mul_of_nonneg_right i5 Z0
  have ZZ2 : 16777216 * Zu ≤ Zu * Zu := Int.mul_le_mul_of_nonneg_right (by omega) Z0
  have ZZ3 : 256 * sv .f32 (nrA psL a 4) * Zu = 256 * (sv .f32 (nrA psL a 4) * Zu) := Int.mul_assoc _ _ _
  have hle : sv .f32 (nrS psL fs a 4) ≤ 1000 * sv .f32 (nrA psL a 4) := by
    refine Int.le_of_mul_le_mul_right (a := Zu) ?_ (by omega)
    rw [Int.mul_assoc 1000]
    omega
  obtain ⟨q1, q2, q3⟩ := quo_v i1 i2 A0 hle
  rw [← eQ] at q1 q2 q3
  generalize sv .f32 (nrS psL fs a 4) = S at *
  generalize sv .f32 (nrA psL a 4) = A at *
  generalize sv .f32 (nrQ psL fs a) = q at *
  have ZA : 281474976710656 * A ≤ Qu * A := Int.mul_le_mul_of_nonneg_right hq2 (Int.le_of_lt A0)
  have AH0 : 0 ≤ A * H := Int.mul_nonneg (Int.le_of_lt A0) H0
  have AL0 : 0 ≤ A * L := Int.mul_nonneg (Int.le_of_lt A0) hL
  refine ⟨q1, ?_, ?_⟩
  · refine Int.le_of_mul_le_mul_right (a := A) ?_ A0
    have e1 : (32769 * H + Qu) * A = 32769 * (A * H) + Qu * A := by rw [Int.add_mul, Int.mul_assoc, Int.mul_comm H]
    rw [e1, Int.mul_assoc]
    omega
  · refine Int.le_of_mul_le_mul_right (a := A) ?_ A0
    have e1 : (32768 * q + Qu) * A = 32768 * (q * A) + Qu * A := by rw [Int.add_mul, Int.mul_assoc]
    rw [e1, Int.mul_assoc 32767, Int.mul_comm L]
    omega
end

end Go.Proofs.Ytnepjbnoaemmdaa
