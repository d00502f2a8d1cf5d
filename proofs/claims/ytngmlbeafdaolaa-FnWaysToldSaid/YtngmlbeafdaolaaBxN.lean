/- Rounding: how far off, and on which side. -/
import Derived.Test.YtngmlbeafdaolaaBxM
namespace Go.Ax
section
variable {k : FloatKind} {x y u : Nat}
theorem valR_le {a b : Nat} : valR k a ≤ valR k b ↔ rungOf k.format a ≤ rungOf k.format b := rungV_le_iff (binade_pos k.format)
theorem Sides.near {s : Bool} {num den : Nat} (h : Sides k y s num den) (hd : 0 < den) {N j : Nat} (hN : N ≤ 2 * k.format.binade) (hj : j ≤ zOf k) (hle : num ≤ N * 2 ^ j * den) :
    Fin k y ∧ negOf k.format y = s ∧ valR k y ≤ N * 2 ^ j ∧ valR k y * den ≤ num + 2 ^ j * den ∧ num ≤ valR k y * den + 2 ^ j * den := by
  have hp : 0 < 2 ^ j * den := Nat.mul_pos (Nat.two_pow_pos _) hd
  obtain ⟨r, hy, h1, h2, h3⟩ := h
  obtain ⟨f1, f2⟩ := word_facts (k := k) (s := s) h1
  have room : ∀ {q n : Nat}, q ≤ (j + 2) * k.format.binade → q < k.format.infRung := fun {q n} g => Nat.lt_of_le_of_lt (Nat.le_trans g (Nat.mul_le_mul_right _ (by omega))) (rep_room k)
  have hval : valR k y = rungV k.format.binade r := by unfold valR; rw [hy, f2]
  have hneg : negOf k.format y = s := by rw [hy, f1]
  have hn : num / (2 ^ j * den) ≤ N := by
    apply Nat.div_le_of_le_mul
    rw [Nat.mul_comm, ← Nat.mul_assoc]; exact hle
  have d1 : num / (2 ^ j * den) * 2 ^ j * den ≤ num := by rw [Nat.mul_assoc]; exact Nat.div_mul_le_self _ _
  have d2 : num < (num / (2 ^ j * den) + 1) * 2 ^ j * den := by
    rw [Nat.mul_assoc, Nat.add_mul, Nat.one_mul]
    exact Nat.lt_div_mul_add hp
  generalize num / (2 ^ j * den) = n at hn d1 d2
  obtain ⟨q1, a1, a2⟩ := rep (binade_pos k.format) j n (by omega)
  have e1 := h3 q1 (Nat.le_of_lt (room (n := 0) a2)) (by rw [a1]; exact d1)
  have v1 : n * 2 ^ j ≤ rungV k.format.binade r := by rw [← a1]; exact (rungV_le_iff (binade_pos _)).2 e1
  by_cases hnN : n = N
  · subst hnN
    have e2 := h2 q1 (by rw [a1]; exact hle)
    have : r = q1 := by omega
    subst this
    refine ⟨?_, hneg, by rw [hval, a1]; exact Nat.le_refl _, ?_, ?_⟩
    · unfold Fin; rw [hy, f2]; exact room (n := 0) a2
    · rw [hval, a1]; omega
    · rw [hval, a1]; omega
  · obtain ⟨q2, b1, b2⟩ := rep (binade_pos k.format) j (n + 1) (by omega)
    have e2 := h2 q2 (by rw [b1]; omega)
    have v2 : rungV k.format.binade r ≤ (n + 1) * 2 ^ j := by rw [← b1]; exact (rungV_le_iff (binade_pos _)).2 e2
    have v2' : rungV k.format.binade r * den ≤ (n + 1) * 2 ^ j * den := Nat.mul_le_mul_right _ v2
    have v1' : n * 2 ^ j * den ≤ rungV k.format.binade r * den := Nat.mul_le_mul_right _ v1
    have ex : (n + 1) * 2 ^ j * den = n * 2 ^ j * den + 2 ^ j * den := by rw [Nat.add_mul, Nat.one_mul, Nat.add_mul]
    have v3 : (n + 1) * 2 ^ j ≤ N * 2 ^ j := Nat.mul_le_mul_right _ (by omega)
    refine ⟨?_, hneg, by rw [hval]; omega, by rw [hval]; omega, by rw [hval]; omega⟩
    unfold Fin; rw [hy, f2]; exact Nat.lt_of_le_of_lt e2 (room (n := 0) b2)
/-- The sign of a sum. -/
def SgOf (z : Int) (s : Bool) : Prop := z ≠ 0 → s = decide (z < 0)
theorem sv_sign {z : Int} {s : Bool} (hs : SgOf z s) (hn : negOf k.format y = s) (h0 : z = 0 → valR k y = 0) : (0 ≤ z → sv k y = valR k y) ∧ (z ≤ 0 → sv k y = -(valR k y : Int)) := by
  unfold sv
  rw [hn]
  by_cases hz : z = 0
  · rw [h0 hz]; unfold sg; cases s <;> simp
  · rw [hs hz]
    unfold sg
    by_cases h : z < 0
    · rw [decide_eq_true h]; simp; omega
    · rw [decide_eq_false h]; simp; omega
theorem Sides.word {s : Bool} {num den : Nat} (h : Sides k y s num den) : ∃ r, rungOf k.format y = r ∧ r ≤ k.format.infRung ∧ negOf k.format y = s ∧ valR k y = rungV k.format.binade r ∧ (∀ q, num ≤ rungV k.format.binade q * den → r ≤ q) ∧ ∀ q, q ≤ k.format.infRung → rungV k.format.binade q * den ≤ num → q ≤ r := by
  obtain ⟨r, hy, h1, h2, h3⟩ := h
  obtain ⟨f1, f2⟩ := word_facts (k := k) (s := s) h1
  exact ⟨r, by rw [hy, f2], h1, by rw [hy, f1], by unfold valR; rw [hy, f2], h2, h3⟩
/-- A rounded whole number of units lies on the side of any word on which the true one lies. -/
theorem Sides.mono {z : Int} {s : Bool} (h : Sides k y s z.natAbs 1) (hs : SgOf z s) (hu : Fin k u) : (z ≤ sv k u → sv k y ≤ sv k u) ∧ (sv k u ≤ z → sv k u ≤ sv k y) := by
  obtain ⟨r, _, _, h3, h4, h5, h6⟩ := h.word
  have h0 : z = 0 → valR k y = 0 := fun hz => by
    have := h5 0 (by rw [hz]; simp)
    rw [h4, show r = 0 by omega]; exact rungV_zero (binade_pos _)
  obtain ⟨p1, p2⟩ := sv_sign hs h3 h0
  have hua := sv_abs k u
  have up : z.natAbs ≤ valR k u → valR k y ≤ valR k u := fun g => by
    have := h5 (rungOf k.format u) (by rw [Nat.mul_one]; exact g)
    rw [h4]; exact (rungV_le_iff (binade_pos _)).2 this
  have dn : valR k u ≤ z.natAbs → valR k u ≤ valR k y := fun g => by
    have := h6 (rungOf k.format u) (Nat.le_of_lt hu) (by rw [Nat.mul_one]; exact g)
    rw [h4]; exact (rungV_le_iff (binade_pos _)).2 this
  refine ⟨fun g => ?_, fun g => ?_⟩
  · by_cases hz : 0 ≤ z
    · rw [p1 hz]; have := up (by omega); omega
    · rw [p2 (by omega)]
      by_cases hv : 0 ≤ sv k u
      · omega
      · have := dn (by omega); omega
  · by_cases hz : 0 ≤ z
    · rw [p1 hz]
      by_cases hv : 0 ≤ sv k u
      · have := dn (by omega); omega
      · omega
    · rw [p2 (by omega)]; have := up (by omega); omega
theorem sgOf_add {a b : Bool} {z : Int} : SgOf z (if z = 0 then a && b else decide (z < 0)) := fun h => by rw [if_neg h]
theorem sgOf_add' {a b : Bool} {z : Int} : SgOf z (if z = 0 then a && !b else decide (z < 0)) := fun h => by rw [if_neg h]
theorem add_mono (hx : Fin k x) (hy : Fin k y) (hu : Fin k u) : (sv k x + sv k y ≤ sv k u → sv k (fop .add k x y) ≤ sv k u) ∧ (sv k u ≤ sv k x + sv k y → sv k u ≤ sv k (fop .add k x y)) :=
  (add_sides hx hy).mono sgOf_add hu
theorem sub_mono (hx : Fin k x) (hy : Fin k y) (hu : Fin k u) : (sv k x - sv k y ≤ sv k u → sv k (fop .sub k x y) ≤ sv k u) ∧ (sv k u ≤ sv k x - sv k y → sv k u ≤ sv k (fop .sub k x y)) :=
  (sub_sides hx hy).mono sgOf_add' hu
theorem Sides.near' {z : Int} {s : Bool} (h : Sides k y s z.natAbs 1) (hs : SgOf z s) {N j : Nat} (hN : N ≤ 2 * k.format.binade) (hj : j ≤ zOf k) (hle : z.natAbs ≤ N * 2 ^ j) :
    Fin k y ∧ sv k y ≤ z + ((2 ^ j : Nat) : Int) ∧ z ≤ sv k y + ((2 ^ j : Nat) : Int) ∧ (0 ≤ z → 0 ≤ sv k y) ∧ (z ≤ 0 → sv k y ≤ 0) := by
  obtain ⟨f, g1, g2, g3, g4⟩ := h.near Nat.one_pos hN hj (by rw [Nat.mul_one]; exact hle)
  obtain ⟨r, _, _, h3, h4, h5, h6⟩ := h.word
  have h0 : z = 0 → valR k y = 0 := fun hz => by
    have := h5 0 (by rw [hz]; simp)
    rw [h4, show r = 0 by omega]; exact rungV_zero (binade_pos _)
  obtain ⟨p1, p2⟩ := sv_sign hs h3 h0
  rw [Nat.mul_one, Nat.mul_one] at g3 g4
  refine ⟨f, ?_, ?_, fun hz => by rw [p1 hz]; omega, fun hz => by rw [p2 hz]; omega⟩
  · by_cases hz : 0 ≤ z
    · rw [p1 hz]; omega
    · rw [p2 (by omega)]; omega
  · by_cases hz : 0 ≤ z
    · rw [p1 hz]; omega
    · rw [p2 (by omega)]; omega
theorem add_near (hx : Fin k x) (hy : Fin k y) {N j : Nat} (hN : N ≤ 2 * k.format.binade) (hj : j ≤ zOf k) (hle : (sv k x + sv k y).natAbs ≤ N * 2 ^ j) :
    Fin k (fop .add k x y) ∧ sv k (fop .add k x y) ≤ sv k x + sv k y + ((2 ^ j : Nat) : Int) ∧ sv k x + sv k y ≤ sv k (fop .add k x y) + ((2 ^ j : Nat) : Int) ∧ (0 ≤ sv k x + sv k y → 0 ≤ sv k (fop .add k x y)) ∧ (sv k x + sv k y ≤ 0 → sv k (fop .add k x y) ≤ 0) :=
  (add_sides hx hy).near' sgOf_add hN hj hle
theorem sub_near (hx : Fin k x) (hy : Fin k y) {N j : Nat} (hN : N ≤ 2 * k.format.binade) (hj : j ≤ zOf k) (hle : (sv k x - sv k y).natAbs ≤ N * 2 ^ j) :
    Fin k (fop .sub k x y) ∧ sv k (fop .sub k x y) ≤ sv k x - sv k y + ((2 ^ j : Nat) : Int) ∧ sv k x - sv k y ≤ sv k (fop .sub k x y) + ((2 ^ j : Nat) : Int) ∧ (0 ≤ sv k x - sv k y → 0 ≤ sv k (fop .sub k x y)) ∧ (sv k x - sv k y ≤ 0 → sv k (fop .sub k x y) ≤ 0) :=
  (sub_sides hx hy).near' sgOf_add' hN hj hle
/-- Not less than nothing. -/
def NN (k : FloatKind) (x : Nat) : Prop := Fin k x ∧ 0 ≤ sv k x
theorem NN.val (h : NN k x) : (valR k x : Int) = sv k x := by have := sv_abs k x; have := h.2; omega
theorem sg_nn {s : Bool} {n : Nat} (h : 0 ≤ sg s n) : s = false ∨ n = 0 := by unfold sg at h; cases s <;> simp at h ⊢; omega
theorem mul_near (hx : NN k x) (hy : NN k y) {N j : Nat} (hN : N ≤ 2 * k.format.binade) (hj : j ≤ zOf k) (hle : sv k x * sv k y ≤ ((N * 2 ^ j * 2 ^ zOf k : Nat) : Int)) :
    NN k (fop .mul k x y) ∧ sv k (fop .mul k x y) ≤ ((N * 2 ^ j : Nat) : Int) ∧ sv k (fop .mul k x y) * ((2 ^ zOf k : Nat) : Int) ≤ sv k x * sv k y + ((2 ^ j * 2 ^ zOf k : Nat) : Int) ∧ sv k x * sv k y ≤ sv k (fop .mul k x y) * ((2 ^ zOf k : Nat) : Int) + ((2 ^ j * 2 ^ zOf k : Nat) : Int) := by
  have h := mul_sides hx.1 hy.1
  rw [← hx.val, ← hy.val, ← Int.natCast_mul] at hle ⊢
  have hle' : valR k x * valR k y ≤ N * 2 ^ j * 2 ^ zOf k := by omega
  obtain ⟨f, g1, g2, g3, g4⟩ := h.near (Nat.two_pow_pos _) hN hj hle'
  have hs : sv k (fop .mul k x y) = (valR k (fop .mul k x y) : Int) := by
    obtain ⟨r, _, _, h3, h4, h5, h6⟩ := h.word
    rcases sg_nn hx.2 with e1 | e1
    · rcases sg_nn hy.2 with e2 | e2
      · unfold sv; rw [g1, e1, e2]; rfl
      · have := h5 0 (by rw [e2]; simp)
        have e : valR k (fop .mul k x y) = 0 := by rw [h4, show r = 0 by omega]; exact rungV_zero (binade_pos _)
        unfold sv; rw [e]; unfold sg; split <;> rfl
    · have := h5 0 (by rw [e1]; simp)
      have e : valR k (fop .mul k x y) = 0 := by rw [h4, show r = 0 by omega]; exact rungV_zero (binade_pos _)
      unfold sv; rw [e]; unfold sg; split <;> rfl
  rw [hs]
  refine ⟨⟨f, by rw [hs]; omega⟩, by omega, ?_, ?_⟩
  · rw [← Int.natCast_mul]; omega
  · rw [← Int.natCast_mul]; omega
theorem mul_mono (hx : NN k x) (hy : NN k y) (hu : NN k u) : (sv k x * sv k y ≤ sv k u * ((2 ^ zOf k : Nat) : Int) → Fin k (fop .mul k x y) → sv k (fop .mul k x y) ≤ sv k u) ∧ (sv k u * ((2 ^ zOf k : Nat) : Int) ≤ sv k x * sv k y → 0 ≤ sv k (fop .mul k x y) → sv k u ≤ sv k (fop .mul k x y)) := by
  have h := mul_sides hx.1 hy.1
  rw [← hx.val, ← hy.val, ← hu.val, ← Int.natCast_mul, ← Int.natCast_mul]
  obtain ⟨r, h1, h2, h3, h4, h5, h6⟩ := h.word
  have ha := sv_abs k (fop .mul k x y)
  refine ⟨fun g _ => ?_, fun g g0 => ?_⟩
  · have := h5 (rungOf k.format u) (by show _ ≤ valR k u * _; omega)
    have : valR k (fop .mul k x y) ≤ valR k u := by rw [h4]; exact (rungV_le_iff (binade_pos _)).2 this
    omega
  · have := h6 (rungOf k.format u) (Nat.le_of_lt hu.1) (by show valR k u * _ ≤ _; omega)
    have : valR k u ≤ valR k (fop .mul k x y) := by rw [h4]; exact (rungV_le_iff (binade_pos _)).2 this
    omega
end
end Go.Ax
