/- What each function of this seat does (St4). Printed from templates of this seat's own. -/
import Derived.Test.YtnepjbnoaemmdaaS3a
import Derived.Test.YtnepjbnoaemmdaaS3b
import Derived.Test.YtnepjbnoaemmdaaS3c
import Derived.Test.YtnepjbnoaemmdaaS3d
namespace Go.Proofs.Ytnepjbnoaemmdaa
open Go.Ax Go.Bx
set_option maxRecDepth 8000
set_option linter.unusedSimpArgs false
set_option linter.unusedVariables false
theorem tab_mo {b c d j : Nat} (hb : b < 12) (hc : c < 17) (hd : d < 7) (hj : j < b + 1) : moB b c d j = true :=
  match b, hb, hj with
  | 0, _, hj => of_tab (of_tab (of_tab tab_mo0 hc) hd) hj
  | 1, _, hj => of_tab (of_tab (of_tab tab_mo1 hc) hd) hj
  | 2, _, hj => of_tab (of_tab (of_tab tab_mo2 hc) hd) hj
  | 3, _, hj => of_tab (of_tab (of_tab tab_mo3 hc) hd) hj
  | 4, _, hj => of_tab (of_tab (of_tab tab_mo4 hc) hd) hj
  | 5, _, hj => of_tab (of_tab (of_tab tab_mo5 hc) hd) hj
  | 6, _, hj => of_tab (of_tab (of_tab tab_mo6 hc) hd) hj
  | 7, _, hj => of_tab (of_tab (of_tab tab_mo7 hc) hd) hj
  | 8, _, hj => of_tab (of_tab (of_tab tab_mo8 hc) hd) hj
  | 9, _, hj => of_tab (of_tab (of_tab tab_mo9 hc) hd) hj
  | 10, _, hj => of_tab (of_tab (of_tab tab_mo10 hc) hd) hj
  | 11, _, hj => of_tab (of_tab (of_tab tab_mo11 hc) hd) hj
  | n + 12, h, _ => absurd h (by omega)
theorem leB_le {x y : Nat} (h : leB x y = true) : sv .f32 x ≤ sv .f32 y := of_decide_eq_true h
theorem Zu_pos : 0 < Zu := by have := Zu_q; have := Qu_big; omega
theorem c_4 : sv .f32 (canon .f32 1082130432) = 4 * Zu := by
  have h : Dy .f32 0 4 (canon .f32 1082130432) := dyB_spec (by decide +kernel)
  have := h.2.2
  rw [Nat.sub_zero] at this; exact this
theorem c_8 : sv .f32 (canon .f32 1090519040) = 8 * Zu := by
  have h : Dy .f32 0 8 (canon .f32 1090519040) := dyB_spec (by decide +kernel)
  have := h.2.2
  rw [Nat.sub_zero] at this; exact this
theorem c_16 : sv .f32 (canon .f32 1098907648) = 16 * Zu := by
  have h : Dy .f32 0 16 (canon .f32 1098907648) := dyB_spec (by decide +kernel)
  have := h.2.2
  rw [Nat.sub_zero] at this; exact this
section
variable {a b c d : Nat} (ha : a < 17) (hb : b < 12) (hc : c < 17) (hd : d < 7)
include hc in
theorem sT_size : NN .f32 (qN c) ∧ sv .f32 (qN c) ≤ 4 * Zu ∧ least (qN c) = true := by
  have := of_tab tab_valid3 hc
  simp only [Bool.and_eq_true] at this
  have h := leB_le this.2
  rw [c_4] at h
  exact ⟨nnB_nn this.1.2, h, this.1.1⟩
include ha in
theorem sT_start : NN .f32 (hI (a : Int)) ∧ sv .f32 (hI (a : Int)) ≤ 8 * Zu ∧ least (hI (a : Int)) = true := by
  have := of_tab tab_valid ha
  simp only [Bool.and_eq_true] at this
  have h := leB_le this.2
  rw [c_8] at h
  exact ⟨nnB_nn this.1.2, h, this.1.1⟩
include ha hb hc hd in
theorem sT_valid : stV (sT a b c d) = true := by
  have h4 := of_tab tab_valid4 hd
  rw [Bool.and_eq_true] at h4
  unfold stV sT
  dsimp only
  rw [(sT_start ha).2.2, of_tab tab_valid2 hb, (sT_size hc).2.2, h4.1, h4.2]
  rfl
include ha hb in
theorem sT_time {k : Nat} (hk : k < 9) : stT (sT a b c d) (tmK a b k) = e8 k ∧ fin (tmK a b k) = true := by
  have := of_tab (of_tab (of_tab tab_time ha) hb) hk
  rw [Bool.and_eq_true] at this
  exact ⟨Nat.eq_of_beq_eq_true this.1, fin_nn (nnB_nn this.2)⟩
include ha hb hc hd in
theorem sT_eight {k : Nat} (hk : k < 9) : NN .f32 (stF (sT a b c d) (tmK a b k)) ∧ sv .f32 (stF (sT a b c d) (tmK a b k)) ≤ sv .f32 (qN c) ∧ sv .f32 (stF (sT a b c d) (tmK a b (k - 1))) ≤ sv .f32 (stF (sT a b c d) (tmK a b k)) := by
  rw [stF_u, stF_u, (sT_time (c := c) (d := d) ha hb hk).1, (sT_time (c := c) (d := d) ha hb (show k - 1 < 9 by omega)).1]
  have := of_tab (of_tab (of_tab tab_eight hc) hd) hk
  simp only [Bool.and_eq_true] at this
  exact ⟨nnB_nn this.1.1, leB_le this.1.2, leB_le this.2⟩
include ha hb hc hd in
theorem sT_rate {k : Nat} (hk : k < 9) : fcmp .lss .f32 (stT (sT a b c d) (tmK a b k)) (canon .f32 0) = false ∧ fcmp .gtr .f32 (stT (sT a b c d) (tmK a b k)) (canon .f32 1065353216) = false ∧ NN .f32 (raR (sT a b c d) (tmK a b k)) := by
  rw [(sT_time (c := c) (d := d) ha hb hk).1]
  have r1 := of_tab (of_tab tab_r1 hb) hc
  have r2 := of_tab tab_r2 hk
  simp only [Bool.and_eq_true, Bool.not_eq_true'] at r1 r2
  have r3 := of_tab r2.2 hd
  simp only [Bool.and_eq_true] at r3
  refine ⟨r2.1.1, r2.1.2, ?_⟩
  have hz := Zu_q
  have hq := Qu_big
  have n1 := nnB_nn r1.1
  have l1 := leB_le r1.2
  rw [c_16] at l1
  have key : ∀ y, NN .f32 y → sv .f32 y ≤ 16 * Zu → NN .f32 (fop .mul .f32 (fop .quo .f32 (fop .mul .f32 (canon .f32 1073741824) (qN c)) (hI ((b + 1 : Nat) : Int))) y) := fun y hy hy2 => by
    refine (mul_w (V := 256 * Zu) (e := 262145 * Qu) n1 hy ?_ (by omega) (by omega)).1
    have := Int.mul_le_mul l1 hy2 hy.2 (by omega)
    rw [show (16 * Zu) * (16 * Zu) = (256 * Zu) * Zu by rw [← Int.mul_assoc]; congr 1] at this
    exact this
  have l2 := leB_le r3.1.1.2
  have l3 := leB_le r3.2
  rw [c_16] at l2 l3
  unfold raR
  rw [(sT_time (c := c) (d := d) ha hb hk).1]
  cases fcmp .leq .f32 (e8 k) (sT a b c d).2.2.2
  · exact key _ (nnB_nn r3.1.2) l3
  · exact key _ (nnB_nn r3.1.1.1) l2
include ha hb in
theorem sT_ends : fin (tmE a b) = true ∧ stF (sT a b c d) (tmE a b) = qN c ∧ stF (sT a b c d) (hI (a : Int)) = canon .f32 0 := by
  have := of_tab (of_tab tab_ends ha) hb
  simp only [Bool.and_eq_true, Bool.not_eq_true'] at this
  obtain ⟨⟨h1, h2, h3⟩, h4⟩ := this
  refine ⟨fin_nn (nnB_nn h1), ?_, ?_⟩
  · rw [stF_u]
    unfold stFu
    rw [show stT (sT a b c d) (tmE a b) = stTt a b (tmE a b) from rfl, h2, h3]
    rfl
  · rw [stF_u]
    unfold stFu
    rw [show stT (sT a b c d) (hI (a : Int)) = stTt a b (hI (a : Int)) from rfl, h4]
    rfl
include ha in
theorem sT_tick {r : Nat} (hr : r < 41) : stF (sT a b c d) (tkR r) = fB b c d ((r : Int) - a) ∧ fin (tkR r) = true := by
  have := of_tab tab_tick hr
  rw [Bool.and_eq_true] at this
  have e := Nat.eq_of_beq_eq_true (of_tab (p := fun a => Nat.beq (fop .sub .f32 (tkR r) (hI (a : Int))) (hI ((r : Int) - (a : Int)))) this.2 ha)
  refine ⟨?_, this.1⟩
  rw [stF_u]
  unfold fB uB
  rw [← e]
  rfl
include hb in
theorem fB_lo {z : Int} (h : z ≤ 0) (h' : -16 ≤ z) : fB b c d z = canon .f32 0 := by
  obtain ⟨n, rfl⟩ : ∃ n : Nat, z = -(n : Int) := ⟨z.natAbs, by omega⟩
  have := of_tab (of_tab tab_lo hb) (show n < 17 by omega)
  unfold fB stFu
  rw [this]; rfl
include hb in
theorem fB_hi {z : Int} (h : (b : Int) + 1 ≤ z) (h' : z ≤ 40) : fB b c d z = qN c := by
  obtain ⟨n, rfl⟩ : ∃ n : Nat, z = (n : Int) := ⟨z.toNat, by omega⟩
  have := of_tab (of_tab tab_hi hb) (show n < 41 by omega)
  rw [decide_eq_false (by omega), Bool.false_or, Bool.and_eq_true] at this
  unfold fB stFu
  rw [this.1, this.2]; rfl
include hb hc hd in
theorem fB_facts {z : Int} (h : -16 ≤ z) (h' : z ≤ 40) : NN .f32 (fB b c d z) ∧ (z + 1 ≤ 40 → sv .f32 (fB b c d z) ≤ sv .f32 (fB b c d (z + 1))) := by
  have z0 := sv_zero
  by_cases h1 : z < 0
  · have e1 : fB b c d z = canon .f32 0 := fB_lo hb (by omega) h
    have e2 : fB b c d (z + 1) = canon .f32 0 := fB_lo hb (by omega) (by omega)
    rw [e1, e2, z0.2]
    exact ⟨⟨z0.1, by rw [z0.2]; exact Int.le_refl _⟩, fun _ => Int.le_refl _⟩
  · by_cases h2 : (b : Int) + 1 ≤ z
    · have e1 : fB b c d z = qN c := fB_hi hb h2 h'
      rw [e1]
      refine ⟨(sT_size hc).1, fun h3 => ?_⟩
      have e2 : fB b c d (z + 1) = qN c := fB_hi hb (by omega) h3
      rw [e2]; exact Int.le_refl _
    · obtain ⟨j, rfl⟩ : ∃ j : Nat, z = (j : Int) := ⟨z.toNat, by omega⟩
      have := tab_mo hb hc hd (show j < b + 1 by omega)
      unfold moB at this
      rw [Bool.and_eq_true] at this
      exact ⟨nnB_nn this.1, fun _ => leB_le this.2⟩
include ha hb hc hd in
/-- What has fallen at each of the ticks. -/
theorem sT_fallen : (∀ r : Nat, r ≤ 40 → NN .f32 (stF (sT a b c d) (tkR r)) ∧ (r < 40 → sv .f32 (stF (sT a b c d) (tkR r)) ≤ sv .f32 (stF (sT a b c d) (tkR (r + 1))))) ∧ sv .f32 (stF (sT a b c d) (tkR 0)) = 0 ∧ stF (sT a b c d) (tkR 40) = qN c := by
  refine ⟨fun r hr => ?_, ?_, ?_⟩
  · have f := fB_facts (z := (r : Int) - a) hb hc hd (by omega) (by omega)
    rw [(sT_tick ha (by omega)).1]
    refine ⟨f.1, fun h => ?_⟩
    rw [(sT_tick ha (show r + 1 < 41 by omega)).1, show ((r + 1 : Nat) : Int) - a = (r : Int) - a + 1 by omega]
    exact f.2 (by omega)
  · rw [(sT_tick ha (by omega)).1, fB_lo hb (by omega) (by omega)]; exact sv_zero.2
  · rw [(sT_tick ha (by omega)).1, fB_hi hb (by omega) (by omega)]
end
theorem bt_sT {bs : List Int} (hb : Byt bs) {i : Nat} (hi : i < 16) : ∃ a b c d : Nat, a < 17 ∧ b < 12 ∧ c < 17 ∧ d < 7 ∧ btT bs i = sT a b c d := by
  obtain ⟨_, h1, h2, h3, h4⟩ := bt_bound hb hi
  refine ⟨(btA bs i).1.toNat, (btB bs i).1.toNat, (btC bs i).1.toNat, (btD bs i).1.toNat, by omega, by omega, by omega, by omega, ?_⟩
  unfold btT sT hI qN e8
  rw [foi_eq, foi_eq, foi_eq, foi_eq]
  rw [show (((btA bs i).1.toNat : Nat) : Int) = (btA bs i).1 by omega, show (((btB bs i).1.toNat + 1 : Nat) : Int) = 1 + (btB bs i).1 by omega, show (((btC bs i).1.toNat : Nat) : Int) = (btC bs i).1 by omega, show (((btD bs i).1.toNat + 1 : Nat) : Int) = 1 + (btD bs i).1 by omega]

end Go.Proofs.Ytnepjbnoaemmdaa
