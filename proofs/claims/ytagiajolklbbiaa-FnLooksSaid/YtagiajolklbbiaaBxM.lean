/- Numbers with few digits: what the operations give is exact. -/
import Derived.Test.YtagiajolklbbiaaBxJ
namespace Go.Ax
theorem rep {B : Nat} (hB : 0 < B) : ∀ (j n : Nat), n ≤ 2 * B → ∃ r, rungV B r = n * 2 ^ j ∧ r ≤ (j + 2) * B
  | 0, n, h => ⟨0 * B + n, rungV_word hB h (.inl rfl), by omega⟩
  | j + 1, n, h => by
    by_cases hn : B ≤ n
    · exact ⟨(j + 1) * B + n, rungV_word hB h (.inr hn), by rw [show j + 1 + 2 = (j + 1) + 2 from rfl, Nat.add_mul (j + 1) 2]; omega⟩
    · obtain ⟨r, h1, h2⟩ := rep hB j (2 * n) (by omega)
      refine ⟨r, by rw [h1, Nat.pow_succ, Nat.mul_comm 2 n, Nat.mul_assoc, Nat.mul_comm 2], Nat.le_trans h2 (Nat.mul_le_mul_right _ (by omega))⟩
theorem rep_room (k : FloatKind) : (zOf k + 2) * k.format.binade < k.format.infRung := by cases k <;> decide +kernel
theorem Sides.exact {k : FloatKind} {y : Nat} {s : Bool} {num den : Nat} (h : Sides k y s num den) {n j : Nat} (hn : n ≤ 2 * k.format.binade) (hj : j ≤ zOf k) (_ : 0 < den) (e : num = n * 2 ^ j * den) :
    Fin k y ∧ valR k y = n * 2 ^ j ∧ negOf k.format y = s := by
  obtain ⟨r, hy, h1, h2, h3⟩ := h
  obtain ⟨q, g1, g2⟩ := rep (binade_pos k.format) j n hn
  have hq : q < k.format.infRung := Nat.lt_of_le_of_lt (Nat.le_trans g2 (Nat.mul_le_mul_right _ (by omega))) (rep_room k)
  have e1 := h2 q (by rw [g1, e]; exact Nat.le_refl _)
  have e2 := h3 q (by omega) (by rw [g1, e]; exact Nat.le_refl _)
  have : r = q := by omega
  subst this
  obtain ⟨f1, f2⟩ := word_facts (k := k) (s := s) h1
  refine ⟨?_, ?_, ?_⟩
  · unfold Fin; rw [hy, f2]; exact hq
  · unfold valR; rw [hy, f2]; exact g1
  · rw [hy, f1]
theorem sv_abs (k : FloatKind) (x : Nat) : (sv k x).natAbs = valR k x := by unfold sv sg; split <;> simp
/-- 'x' is the number n / 2^e. -/
def Dy (k : FloatKind) (e : Nat) (n : Int) (x : Nat) : Prop := Fin k x ∧ e ≤ zOf k ∧ sv k x = n * ((2 ^ (zOf k - e) : Nat) : Int)
section
variable {k : FloatKind} {e : Nat} {n m : Int} {x y : Nat}
theorem sv_of {z : Int} {s : Bool} (hs : negOf k.format y = if z = 0 then s else decide (z < 0)) (hv : valR k y = z.natAbs) : sv k y = z := by
  unfold sv
  rw [hs, hv]
  by_cases h : z = 0
  · subst h; rw [if_pos rfl]; cases s <;> rfl
  · rw [if_neg h]
    unfold sg
    by_cases h2 : z < 0
    · rw [decide_eq_true h2, if_pos rfl]; omega
    · rw [decide_eq_false h2]; simp; omega
theorem pow_abs (z : Int) (p : Nat) : (z * ((p : Nat) : Int)).natAbs = z.natAbs * p := by rw [Int.natAbs_mul, Int.natAbs_natCast]
theorem Dy.add (hx : Dy k e n x) (hy : Dy k e m y) (hb : (n + m).natAbs ≤ 2 * k.format.binade) : Dy k e (n + m) (fop .add k x y) := by
  have h := add_sides hx.1 hy.1
  have hs : sv k x + sv k y = (n + m) * ((2 ^ (zOf k - e) : Nat) : Int) := by rw [hx.2.2, hy.2.2, Int.add_mul]
  rw [hs] at h
  obtain ⟨h1, h2, h3⟩ := h.exact hb (Nat.sub_le _ e) Nat.one_pos (by rw [pow_abs, Nat.mul_one])
  exact ⟨h1, hx.2.1, sv_of h3 (by rw [h2, pow_abs])⟩
theorem Dy.sub (hx : Dy k e n x) (hy : Dy k e m y) (hb : (n - m).natAbs ≤ 2 * k.format.binade) : Dy k e (n - m) (fop .sub k x y) := by
  have h := sub_sides hx.1 hy.1
  have hs : sv k x - sv k y = (n - m) * ((2 ^ (zOf k - e) : Nat) : Int) := by rw [hx.2.2, hy.2.2, Int.sub_mul]
  rw [hs] at h
  obtain ⟨h1, h2, h3⟩ := h.exact hb (Nat.sub_le _ e) Nat.one_pos (by rw [pow_abs, Nat.mul_one])
  exact ⟨h1, hx.2.1, sv_of h3 (by rw [h2, pow_abs])⟩
theorem sg_xor (a b : Bool) (v w : Nat) : sg (a ^^ b) (v * w) = sg a v * sg b w := by
  cases a <;> cases b <;> simp [sg, Int.neg_mul, Int.mul_neg]
theorem Dy.mul {d : Nat} (hx : Dy k e n x) (hy : Dy k d m y) (hz : e + d ≤ zOf k) (hb : (n * m).natAbs ≤ 2 * k.format.binade) : Dy k (e + d) (n * m) (fop .mul k x y) := by
  have h := mul_sides hx.1 hy.1
  have vx : valR k x = n.natAbs * 2 ^ (zOf k - e) := by rw [← sv_abs, hx.2.2, pow_abs]
  have vy : valR k y = m.natAbs * 2 ^ (zOf k - d) := by rw [← sv_abs, hy.2.2, pow_abs]
  have hp : zOf k - e + (zOf k - d) = zOf k - (e + d) + zOf k := by omega
  obtain ⟨h1, h2, h3⟩ := h.exact hb (Nat.sub_le _ (e + d)) (Nat.two_pow_pos _) (by
    rw [vx, vy, Int.natAbs_mul, Nat.mul_assoc (n.natAbs * m.natAbs), ← Nat.pow_add, ← hp, Nat.pow_add, Nat.mul_assoc, Nat.mul_assoc, Nat.mul_left_comm (2 ^ (zOf k - e))])
  refine ⟨h1, hz, ?_⟩
  have : sv k (fop .mul k x y) = sg (negOf k.format x ^^ negOf k.format y) ((n * m).natAbs * 2 ^ (zOf k - (e + d))) := by
    unfold sv; rw [h3, h2]
  rw [this, sg_mul, Int.natAbs_mul, sg_xor]
  have sx : sg (negOf k.format x) n.natAbs = n := by
    have : sg (negOf k.format x) n.natAbs * ((2 ^ (zOf k - e) : Nat) : Int) = n * ((2 ^ (zOf k - e) : Nat) : Int) := by
      rw [← sg_mul, ← vx]; exact hx.2.2
    exact Int.eq_of_mul_eq_mul_right (by have := Nat.two_pow_pos (zOf k - e); omega) this
  have sy : sg (negOf k.format y) m.natAbs = m := by
    have : sg (negOf k.format y) m.natAbs * ((2 ^ (zOf k - d) : Nat) : Int) = m * ((2 ^ (zOf k - d) : Nat) : Int) := by
      rw [← sg_mul, ← vy]; exact hy.2.2
    exact Int.eq_of_mul_eq_mul_right (by have := Nat.two_pow_pos (zOf k - d); omega) this
  rw [sx, sy]
theorem Dy.up (h : Dy k e n x) (t : Nat) (ht : e + t ≤ zOf k) : Dy k (e + t) (n * ((2 ^ t : Nat) : Int)) x := by
  refine ⟨h.1, ht, ?_⟩
  rw [h.2.2, Int.mul_assoc, ← Int.natCast_mul, ← Nat.pow_add, show t + (zOf k - (e + t)) = zOf k - e by omega]
theorem Fin.num (h : Fin k x) : isNaN k x = false := nan_false (Nat.le_of_lt h)
theorem Dy.le_iff (hx : Dy k e n x) (hy : Dy k e m y) : pos k x ≤ pos k y ↔ n ≤ m := by
  rw [pos_sv, hx.2.2, hy.2.2]
  have : (0 : Int) < ((2 ^ (zOf k - e) : Nat) : Int) := by have := Nat.two_pow_pos (zOf k - e); omega
  exact Int.mul_le_mul_right this
theorem Dy.lss (hx : Dy k e n x) (hy : Dy k e m y) : fcmp .lss k x y = decide (n < m) := by
  rw [cmp_lss hx.1.num hy.1.num]
  have := hy.le_iff hx
  exact decide_eq_decide.2 (by omega)
theorem Dy.gtr (hx : Dy k e n x) (hy : Dy k e m y) : fcmp .gtr k x y = decide (m < n) := by
  rw [cmp_gtr hx.1.num hy.1.num]
  have := hx.le_iff hy
  exact decide_eq_decide.2 (by omega)
theorem Dy.geq (hx : Dy k e n x) (hy : Dy k e m y) : fcmp .geq k x y = decide (m ≤ n) := by
  rw [cmp_geq hx.1.num hy.1.num]
  exact decide_eq_decide.2 (hy.le_iff hx)
theorem cmp_leq {a b : Nat} (ha : isNaN k a = false) (hb : isNaN k b = false) : fcmp .leq k a b = decide (pos k a ≤ pos k b) := by
  unfold fcmp
  rw [order_num ha hb]
  simp only [compare, compareOfLessAndEq]
  by_cases h : pos k a < pos k b
  · rw [if_pos h, decide_eq_true (by omega)]; rfl
  · rw [if_neg h]
    by_cases h' : pos k a = pos k b
    · rw [if_pos h', decide_eq_true (by omega)]; rfl
    · rw [if_neg h', decide_eq_false (by omega)]; rfl
theorem Dy.leq (hx : Dy k e n x) (hy : Dy k e m y) : fcmp .leq k x y = decide (n ≤ m) := by
  rw [cmp_leq hx.1.num hy.1.num]
  exact decide_eq_decide.2 (hx.le_iff hy)
theorem zOf_32 : zOf .f32 = 149 := by decide +kernel
theorem zOf_64 : zOf .f64 = 1074 := by decide +kernel
theorem gap_eq : gap = 925 := rfl
theorem Dy.widen (h : Dy .f32 e n x) : Dy .f64 e n (fwiden x) := by
  have hz := h.2.1
  rw [zOf_32] at hz
  refine ⟨(widen_val h.1).1, by rw [zOf_64]; omega, ?_⟩
  rw [widen_sv h.1, h.2.2, Int.mul_assoc, ← Int.natCast_mul, ← Nat.pow_add]
  congr 4
  rw [zOf_32, zOf_64, gap_eq]; omega
theorem Dy.fin (h : Dy .f32 e n x) : fin x = true := by rw [fin_eq]; exact decide_eq_true h.1
end
/-- The test of a given word. -/
def dyB (k : FloatKind) (e : Nat) (n : Int) (x : Nat) : Bool := decide (rungOf k.format x < k.format.infRung) && Nat.ble e (zOf k) && decide (sv k x = n * ((2 ^ (zOf k - e) : Nat) : Int))
theorem dyB_spec {k : FloatKind} {e : Nat} {n : Int} {x : Nat} (h : dyB k e n x = true) : Dy k e n x := by
  simp only [dyB, Bool.and_eq_true, decide_eq_true_eq] at h
  exact ⟨h.1.1, Nat.le_of_ble_eq_true h.1.2, h.2⟩
theorem dy_zero (e : Nat) (h : e ≤ 149) : Dy .f32 e 0 (canon .f32 0) := by
  have : Dy .f32 0 0 (canon .f32 0) := dyB_spec (by decide +kernel)
  have := this.up e (by rw [zOf_32]; omega)
  rwa [Nat.zero_add, Int.zero_mul] at this
theorem dy_quarter : Dy .f32 2 1 (canon .f32 1048576000) := dyB_spec (by decide +kernel)
theorem tab_ints : (List.range 64).all (fun i => dyB .f32 0 ((i : Int) - 16) (floatOfInt .f32 ((i : Int) - 16))) = true := by decide +kernel
theorem tab_halves : (List.range 64).all (fun i => dyB .f32 1 (i : Int) (fop .quo .f32 (floatOfInt .f32 (i : Int)) (canon .f32 1073741824))) = true := by decide +kernel
theorem tab_quarters : (List.range 64).all (fun i => dyB .f32 2 (i : Int) (fop .quo .f32 (floatOfInt .f32 (i : Int)) (canon .f32 1082130432))) = true := by decide +kernel
theorem tab_eighths : (List.range 64).all (fun i => dyB .f32 3 (i : Int) (fop .quo .f32 (floatOfInt .f32 (i : Int)) (canon .f32 1090519040))) = true := by decide +kernel
theorem of_tab {p : Nat → Bool} {N i : Nat} (h : (List.range N).all p = true) (hi : i < N) : p i = true := List.all_eq_true.1 h i (List.mem_range.2 hi)
end Go.Ax
