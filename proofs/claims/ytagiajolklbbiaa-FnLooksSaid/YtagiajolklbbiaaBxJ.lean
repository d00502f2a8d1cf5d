/- Rounding keeps to the side of a number that the format has. -/
import Derived.Test.YtagiajolklbbiaaBxI
namespace Go.Ax
open Ieee (Format Datum)

theorem cut_le_of {neg : Bool} {n drop m : Nat} (h : n ≤ m * 2 ^ drop) : Ieee.Toward.even.cut neg n drop ≤ m := by
  unfold Ieee.Toward.cut
  dsimp only
  rw [Nat.one_shiftLeft]
  have hn : n < 2 ^ (n.log2 + 1) := Nat.lt_log2_self
  by_cases hd : drop ≤ n.log2 + 2
  · rw [Nat.min_eq_left hd]
    have hp := Nat.two_pow_pos drop
    have hlow : n / 2 ^ drop ≤ m := Nat.div_le_of_le_mul (by rw [Nat.mul_comm]; exact h)
    rcases Nat.lt_or_eq_of_le hlow with h1 | h1
    · have : ∀ b : Bool, b.toNat ≤ 1 := by decide
      exact Nat.le_trans (Nat.add_le_add_left (this _) _) h1
    · have h2 := Nat.div_add_mod n (2 ^ drop)
      rw [h1, Nat.mul_comm] at h2
      have h3 : n % 2 ^ drop = 0 := by omega
      rw [h1, h3]
      have : (decide (2 ^ drop < 2 * 0) || (2 ^ drop == 2 * 0 && m % 2 == 1)) = false := by
        rw [Bool.or_eq_false_iff]
        refine ⟨decide_eq_false (by omega), ?_⟩
        rw [show (2 ^ drop == 2 * 0) = false from beq_eq_false_iff_ne.2 (by omega)]; rfl
      rw [this]; exact Nat.le_refl _
  · rw [Nat.min_eq_right (by omega)]
    have e : 2 ^ (n.log2 + 2) = 2 * 2 ^ (n.log2 + 1) := by rw [Nat.pow_succ, Nat.mul_comm]
    have h1 : n / 2 ^ (n.log2 + 2) = 0 := Nat.div_eq_of_lt (by omega)
    have h2 : n % 2 ^ (n.log2 + 2) = n := Nat.mod_eq_of_lt (by omega)
    rw [h1, h2]
    have : (decide (2 ^ (n.log2 + 2) < 2 * n) || (2 ^ (n.log2 + 2) == 2 * n && 0 % 2 == 1)) = false := by
      rw [Bool.or_eq_false_iff]
      refine ⟨decide_eq_false (by omega), ?_⟩
      rw [show (2 ^ (n.log2 + 2) == 2 * n) = false from beq_eq_false_iff_ne.2 (by omega)]; rfl
    rw [this]; exact Nat.zero_le _
theorem cut_ge_of {neg : Bool} {n drop m : Nat} (h : m * 2 ^ drop ≤ n) : m ≤ Ieee.Toward.even.cut neg n drop := by
  unfold Ieee.Toward.cut
  dsimp only
  rw [Nat.one_shiftLeft]
  have hn : n < 2 ^ (n.log2 + 1) := Nat.lt_log2_self
  by_cases hd : drop ≤ n.log2 + 2
  · rw [Nat.min_eq_left hd]
    have : m ≤ n / 2 ^ drop := (Nat.le_div_iff_mul_le (Nat.two_pow_pos _)).2 h
    omega
  · have h1 : 2 ^ (n.log2 + 1) ≤ 2 ^ drop := Nat.pow_le_pow_right (by decide) (by omega)
    rcases Nat.eq_zero_or_pos m with h0 | h0
    · rw [h0]; exact Nat.zero_le _
    · have : 2 ^ drop ≤ m * 2 ^ drop := Nat.le_mul_of_pos_left _ h0
      exact absurd (Nat.le_trans h1 (Nat.le_trans this h)) (Nat.not_le.2 hn)
theorem rungV_word {B D k : Nat} (hB : 0 < B) (hk : k ≤ 2 * B) (h : D = 0 ∨ B ≤ k) : rungV B (D * B + k) = k * 2 ^ D := by
  unfold rungV
  by_cases hlt : D * B + k < B
  · have hD : D = 0 := by
      rcases Nat.eq_zero_or_pos D with h0 | h0
      · exact h0
      · have := Nat.mul_le_mul_right B h0; omega
    rw [if_pos hlt, hD]; simp
  · rw [if_neg hlt]
    rcases Nat.lt_or_eq_of_le hk with h2 | h2
    · have hkB : B ≤ k := by
        rcases h with h | h
        · subst h; omega
        · exact h
      have e1 : (D * B + k) / B = D + 1 := by
        rw [Nat.div_eq_of_lt_le (k := D + 1)]
        · rw [Nat.add_mul]; omega
        · rw [Nat.add_mul, Nat.add_mul]; omega
      have e2 : (D * B + k) % B = k - B := by
        have h5 := Nat.div_add_mod (D * B + k) B
        rw [e1, Nat.mul_add, Nat.mul_comm B D] at h5; omega
      rw [e1, e2]
      have : B + (k - B) = k := by omega
      rw [this]; simp
    · subst h2
      have e1 : (D * B + 2 * B) / B = D + 2 := by rw [← Nat.add_mul, Nat.mul_div_cancel _ hB]
      have e2 : (D * B + 2 * B) % B = 0 := by rw [← Nat.add_mul, Nat.mul_mod_left]
      rw [e1, e2, show D + 2 - 1 = D + 1 by omega, Nat.pow_succ, Nat.add_zero, Nat.mul_comm (2 ^ D) 2, ← Nat.mul_assoc, Nat.mul_comm B 2]
theorem rungV_le_iff {B : Nat} (hB : 0 < B) {r s : Nat} : rungV B r ≤ rungV B s ↔ r ≤ s := by
  have := rungV_lt_iff hB (r := s) (s := r)
  omega
/-- The nearest word lies on no other side of a number that the format has than the number itself. -/
theorem nearest_sides (f : Format) (neg : Bool) {mag : Nat} {place : Int} {c : Nat} (hc : 0 ≤ place - f.leastPlace + c) :
    ∃ r, f.nearest neg mag place = f.word neg r ∧ r ≤ f.infRung ∧ (∀ q, mag * 2 ^ (place - f.leastPlace + c).toNat ≤ rungV f.binade q * 2 ^ c → r ≤ q) ∧ ∀ q, q ≤ f.infRung → rungV f.binade q * 2 ^ c ≤ mag * 2 ^ (place - f.leastPlace + c).toNat → q ≤ r := by
  have hB := binade_pos f
  unfold Format.nearest
  by_cases hz : mag = 0
  · rw [if_pos hz]
    refine ⟨0, rfl, Nat.zero_le _, fun q _ => Nat.zero_le _, fun q _ hq => ?_⟩
    rw [hz, Nat.zero_mul] at hq
    have h0 : rungV f.binade q = 0 := by
      rcases Nat.eq_zero_or_pos (rungV f.binade q) with h | h
      · exact h
      · have := Nat.mul_pos h (Nat.two_pow_pos c); omega
    rw [← rungV_zero hB] at h0
    exact (rungV_le_iff hB).1 (Nat.le_of_eq h0)
  · rw [if_neg hz]
    have hlt : mag < 2 ^ (mag.log2 + 1) := Nat.lt_log2_self
    have hge : 2 ^ mag.log2 ≤ mag := Nat.log2_self_le hz
    have hBe : f.binade = 2 ^ f.fractionBits := rfl
    obtain ⟨D, hD⟩ : ∃ D : Nat, max (place + mag.log2 - f.fractionBits) f.leastPlace = f.leastPlace + D := ⟨(max (place + mag.log2 - f.fractionBits) f.leastPlace - f.leastPlace).toNat, by omega⟩
    simp only [hD]
    rw [show (f.leastPlace + (D : Int) - f.leastPlace).toNat = D by omega]
    -- a cut against a whole number of units
    have cmp : ∀ m : Nat, (mag * 2 ^ (place - f.leastPlace + c).toNat ≤ m * 2 ^ (D + c) → Ieee.Toward.even.cut neg (mag <<< (place - (f.leastPlace + D)).toNat) (f.leastPlace + D - place).toNat ≤ m) ∧ (m * 2 ^ (D + c) ≤ mag * 2 ^ (place - f.leastPlace + c).toNat → m ≤ Ieee.Toward.even.cut neg (mag <<< (place - (f.leastPlace + D)).toNat) (f.leastPlace + D - place).toNat) := by
      intro m
      rw [Nat.shiftLeft_eq]
      rcases Int.lt_or_le place (f.leastPlace + D) with h | h
      · have e1 : (place - (f.leastPlace + D)).toNat = 0 := by omega
        have e2 : D + c = (f.leastPlace + D - place).toNat + (place - f.leastPlace + c).toNat := by omega
        rw [e1, Nat.pow_zero, Nat.mul_one, e2, Nat.pow_add, ← Nat.mul_assoc]
        exact ⟨fun h => cut_le_of (Nat.le_of_mul_le_mul_right h (Nat.two_pow_pos _)), fun h => cut_ge_of (Nat.le_of_mul_le_mul_right h (Nat.two_pow_pos _))⟩
      · have e1 : (f.leastPlace + D - place).toNat = 0 := by omega
        have e2 : (place - f.leastPlace + c).toNat = (place - (f.leastPlace + D)).toNat + (D + c) := by omega
        rw [e1, cut_zero, e2, Nat.pow_add, ← Nat.mul_assoc]
        exact ⟨fun h => Nat.le_of_mul_le_mul_right h (Nat.two_pow_pos _), fun h => Nat.le_of_mul_le_mul_right h (Nat.two_pow_pos _)⟩
    -- the number is less than two binades of units, and not less than one unless its last place is the least
    have hup : mag * 2 ^ (place - f.leastPlace + c).toNat < 2 * f.binade * 2 ^ (D + c) := by
      have h1 : mag * 2 ^ (place - f.leastPlace + c).toNat < 2 ^ (mag.log2 + 1) * 2 ^ (place - f.leastPlace + c).toNat := Nat.mul_lt_mul_of_pos_right hlt (Nat.two_pow_pos _)
      rw [← Nat.pow_add] at h1
      have e : 2 * f.binade * 2 ^ (D + c) = 2 ^ (f.fractionBits + 1 + (D + c)) := by rw [Nat.pow_add 2 (f.fractionBits + 1), Nat.pow_succ, hBe, Nat.mul_comm 2]
      rw [e]
      exact Nat.lt_of_lt_of_le h1 (Nat.pow_le_pow_right (by decide) (by omega))
    have hlo : D = 0 ∨ f.binade * 2 ^ (D + c) ≤ mag * 2 ^ (place - f.leastPlace + c).toNat := by
      rcases Nat.eq_zero_or_pos D with h0 | h0
      · exact .inl h0
      · right
        have hl : place + mag.log2 - f.fractionBits = f.leastPlace + D := by omega
        have h1 : 2 ^ mag.log2 * 2 ^ (place - f.leastPlace + c).toNat ≤ mag * 2 ^ (place - f.leastPlace + c).toNat := Nat.mul_le_mul_right _ hge
        rw [← Nat.pow_add] at h1
        rw [hBe, ← Nat.pow_add]
        exact Nat.le_trans (Nat.pow_le_pow_right (by decide) (by omega)) h1
    generalize Ieee.Toward.even.cut neg (mag <<< (place - (f.leastPlace + D)).toNat) (f.leastPlace + D - place).toNat = k at *
    have hk2 : k ≤ 2 * f.binade := (cmp _).1 (Nat.le_of_lt hup)
    have hk1 : D = 0 ∨ f.binade ≤ k := by
      rcases hlo with h | h
      · exact .inl h
      · exact .inr ((cmp _).2 h)
    have hV := rungV_word hB hk2 hk1
    generalize hY : mag * 2 ^ (place - f.leastPlace + c).toNat = Y at *
    refine ⟨_, rfl, Nat.min_le_right _ _, fun q hq => ?_, fun q hqi hq => ?_⟩
    · refine Nat.le_trans (Nat.min_le_left _ _) ?_
      apply Classical.byContradiction
      intro hn
      have hlt : q < D * f.binade + k := by omega
      rcases Nat.eq_zero_or_pos k with h0 | h0
      · rcases hk1 with h | h
        · subst h; omega
        · omega
      · by_cases hkB : D = 0 ∨ f.binade ≤ k - 1
        · have hV1 := rungV_word (k := k - 1) hB (by omega) hkB
          have hle : rungV f.binade q ≤ rungV f.binade (D * f.binade + (k - 1)) := (rungV_le_iff hB).2 (by omega)
          rw [hV1] at hle
          have : Y ≤ (k - 1) * 2 ^ (D + c) := by
            rw [Nat.pow_add, ← Nat.mul_assoc]
            exact Nat.le_trans hq (Nat.mul_le_mul_right _ hle)
          have := (cmp _).1 this
          omega
        · have hD0 : D ≠ 0 := fun h => hkB (.inl h)
          have hkb : f.binade ≤ k := by rcases hk1 with h | h; exact absurd h hD0; exact h
          have hkeq : k = f.binade := by
            have : ¬ f.binade ≤ k - 1 := fun h => hkB (.inr h)
            omega
          have h1 : f.binade * 2 ^ (D + c) ≤ Y := by rcases hlo with h | h; exact absurd h hD0; exact h
          have h2 : rungV f.binade q < k * 2 ^ D := by rw [← hV]; exact (rungV_lt_iff hB).2 hlt
          have h3 : rungV f.binade q * 2 ^ c < k * 2 ^ D * 2 ^ c := Nat.mul_lt_mul_of_pos_right h2 (Nat.two_pow_pos _)
          rw [Nat.mul_assoc, ← Nat.pow_add, hkeq] at h3
          omega
    · refine Nat.le_min.2 ⟨?_, hqi⟩
      apply Classical.byContradiction
      intro hn
      have hlt : D * f.binade + k < q := by omega
      rcases Nat.lt_or_eq_of_le hk2 with h | h
      · have hV1 := rungV_word (k := k + 1) hB (by omega) (by omega : D = 0 ∨ f.binade ≤ k + 1)
        have hle : rungV f.binade (D * f.binade + (k + 1)) ≤ rungV f.binade q := (rungV_le_iff hB).2 (by omega)
        rw [hV1] at hle
        have : (k + 1) * 2 ^ (D + c) ≤ Y := by
          rw [Nat.pow_add, ← Nat.mul_assoc]
          exact Nat.le_trans (Nat.mul_le_mul_right _ hle) hq
        have := (cmp _).2 this
        omega
      · have h2 : k * 2 ^ D < rungV f.binade q := by rw [← hV]; exact (rungV_lt_iff hB).2 hlt
        have h3 : k * 2 ^ D * 2 ^ c < rungV f.binade q * 2 ^ c := Nat.mul_lt_mul_of_pos_right h2 (Nat.two_pow_pos _)
        rw [Nat.mul_assoc, ← Nat.pow_add, h] at h3
        omega
/-! ### The operations, by the values of the words -/
/-- The value of a finite word in units of the least place. -/
def valR (k : FloatKind) (x : Nat) : Nat := rungV k.format.binade (rungOf k.format x)
/-- How many digits lie behind the point. -/
def zOf (k : FloatKind) : Nat := (-k.format.leastPlace).toNat
theorem zOf_eq (k : FloatKind) : (zOf k : Int) = -k.format.leastPlace := by cases k <;> decide +kernel
def Fin (k : FloatKind) (x : Nat) : Prop := rungOf k.format x < k.format.infRung
/-- What an operation gives: a word of the sign 's' on the same side as 'num / den' units of every word that the format has. -/
def Sides (k : FloatKind) (y : Nat) (s : Bool) (num den : Nat) : Prop :=
  ∃ r, y = k.format.word s r ∧ r ≤ k.format.infRung ∧ (∀ q, num ≤ rungV k.format.binade q * den → r ≤ q) ∧ ∀ q, q ≤ k.format.infRung → rungV k.format.binade q * den ≤ num → q ≤ r
theorem mul_sides {k : FloatKind} {x y : Nat} (hx : Fin k x) (hy : Fin k y) : Sides k (fop .mul k x y) (negOf k.format x ^^ negOf k.format y) (valR k x * valR k y) (2 ^ zOf k) := by
  obtain ⟨m, d, h1, h2, _⟩ := read_fin k.format hx
  obtain ⟨n, e, g1, g2, _⟩ := read_fin k.format hy
  have hz := zOf_eq k
  have heq : fop .mul k x y = k.format.nearest (negOf k.format x ^^ negOf k.format y) (m * n) (k.format.leastPlace + d + (k.format.leastPlace + e)) := by
    simp only [fop, floatBits, Format.mul, h1, g1, Datum.product, Option.map_some, Option.getD_some, Format.write]
  obtain ⟨r, r1, r2, r3, r4⟩ := nearest_sides k.format (negOf k.format x ^^ negOf k.format y) (mag := m * n) (place := k.format.leastPlace + d + (k.format.leastPlace + e)) (c := zOf k) (by omega)
  have hp : m * n * 2 ^ (k.format.leastPlace + (d : Int) + (k.format.leastPlace + e) - k.format.leastPlace + (zOf k : Int)).toNat = valR k x * valR k y := by
    rw [show (k.format.leastPlace + (d : Int) + (k.format.leastPlace + e) - k.format.leastPlace + (zOf k : Int)).toNat = d + e by omega, Nat.pow_add]
    unfold valR
    rw [← h2, ← g2, Nat.mul_assoc, Nat.mul_assoc, Nat.mul_left_comm n]
  rw [hp] at r3 r4
  exact ⟨r, heq.trans r1, r2, r3, r4⟩
/-- The value with its sign. -/
def sv (k : FloatKind) (x : Nat) : Int := sg (negOf k.format x) (valR k x)
theorem sum_sides (k : FloatKind) (s t : Bool) (m d n e : Nat) :
    ∃ D, (Datum.number s m (k.format.leastPlace + d)).sum (Datum.number t n (k.format.leastPlace + e)) = some D ∧ Sides k (k.format.write D) (if sg s (m * 2 ^ d) + sg t (n * 2 ^ e) = 0 then s && t else decide (sg s (m * 2 ^ d) + sg t (n * 2 ^ e) < 0)) (sg s (m * 2 ^ d) + sg t (n * 2 ^ e)).natAbs 1 := by
  obtain ⟨b, hb, hbd, hbe⟩ : ∃ b : Nat, min (k.format.leastPlace + d) (k.format.leastPlace + e) = k.format.leastPlace + b ∧ b ≤ d ∧ b ≤ e := ⟨min d e, by omega, by omega, by omega⟩
  refine ⟨_, rfl, ?_⟩
  simp only [hb]
  rw [show (k.format.leastPlace + (d : Int) - (k.format.leastPlace + b)).toNat = d - b by omega, show (k.format.leastPlace + (e : Int) - (k.format.leastPlace + b)).toNat = e - b by omega, signed_eq, signed_eq]
  have e1 : sg s (m * 2 ^ d) + sg t (n * 2 ^ e) = (sg s (m * 2 ^ (d - b)) + sg t (n * 2 ^ (e - b))) * ((2 ^ b : Nat) : Int) := by
    have h1 : m * 2 ^ d = m * 2 ^ (d - b) * 2 ^ b := by rw [Nat.mul_assoc, ← Nat.pow_add, Nat.sub_add_cancel hbd]
    have h2 : n * 2 ^ e = n * 2 ^ (e - b) * 2 ^ b := by rw [Nat.mul_assoc, ← Nat.pow_add, Nat.sub_add_cancel hbe]
    rw [h1, h2, sg_mul s (m * 2 ^ (d - b)), sg_mul t (n * 2 ^ (e - b)), Int.add_mul]
  have hp : (0 : Int) < ((2 ^ b : Nat) : Int) := by have := Nat.two_pow_pos b; omega
  rw [e1]
  generalize sg s (m * 2 ^ (d - b)) + sg t (n * 2 ^ (e - b)) = T at *
  have hs : (if T = 0 then s && t else decide (T < 0)) = (if T * ((2 ^ b : Nat) : Int) = 0 then s && t else decide (T * ((2 ^ b : Nat) : Int) < 0)) := by
    by_cases h0 : T = 0
    · rw [if_pos h0, if_pos (by rw [h0, Int.zero_mul])]
    · have h1 : T * ((2 ^ b : Nat) : Int) ≠ 0 := fun h => by
        rcases Int.mul_eq_zero.1 h with h | h
        · exact h0 h
        · omega
      rw [if_neg h0, if_neg h1]
      congr 1
      apply propext
      constructor
      · intro h; exact Int.mul_neg_of_neg_of_pos h hp
      · intro h
        apply Classical.byContradiction
        intro hn
        have := Int.mul_nonneg (show 0 ≤ T by omega) (Int.le_of_lt hp)
        omega
  rw [← hs]
  simp only [Format.write]
  obtain ⟨r, r1, r2, r3, r4⟩ := nearest_sides k.format (if T = 0 then s && t else decide (T < 0)) (mag := T.natAbs) (place := k.format.leastPlace + b) (c := 0) (by omega)
  rw [show (k.format.leastPlace + (b : Int) - k.format.leastPlace + ((0 : Nat) : Int)).toNat = b by omega, Nat.pow_zero] at r3 r4
  refine ⟨r, r1, r2, ?_, ?_⟩
  · rw [Int.natAbs_mul, Int.natAbs_natCast]; exact r3
  · rw [Int.natAbs_mul, Int.natAbs_natCast]; exact r4
theorem add_sides {k : FloatKind} {x y : Nat} (hx : Fin k x) (hy : Fin k y) : Sides k (fop .add k x y) (if sv k x + sv k y = 0 then negOf k.format x && negOf k.format y else decide (sv k x + sv k y < 0)) (sv k x + sv k y).natAbs 1 := by
  obtain ⟨m, d, h1, h2, _⟩ := read_fin k.format hx
  obtain ⟨n, e, g1, g2, _⟩ := read_fin k.format hy
  obtain ⟨D, hD, hS⟩ := sum_sides k (negOf k.format x) (negOf k.format y) m d n e
  rw [h2, g2] at hS
  have heq : fop .add k x y = k.format.write D := by simp only [fop, floatBits, Format.add, h1, g1, hD, Option.map_some, Option.getD_some]
  rw [heq]; exact hS
theorem sg_not (s : Bool) (n : Nat) : sg (!s) n = - sg s n := by cases s <;> simp [sg]
theorem sub_sides {k : FloatKind} {x y : Nat} (hx : Fin k x) (hy : Fin k y) : Sides k (fop .sub k x y) (if sv k x - sv k y = 0 then negOf k.format x && !negOf k.format y else decide (sv k x - sv k y < 0)) (sv k x - sv k y).natAbs 1 := by
  obtain ⟨m, d, h1, h2, _⟩ := read_fin k.format hx
  obtain ⟨n, e, g1, g2, _⟩ := read_fin k.format hy
  obtain ⟨D, hD, hS⟩ := sum_sides k (negOf k.format x) (!negOf k.format y) m d n e
  rw [h2, g2, sg_not, ← Int.sub_eq_add_neg] at hS
  have heq : fop .sub k x y = k.format.write D := by simp only [fop, floatBits, Format.sub, h1, g1, Datum.opposite, hD, Option.map_some, Option.getD_some]
  rw [heq]; exact hS

/-! ### From nought to one -/
def oneR : FloatKind → Nat
  | .f32 => 1065353216
  | .f64 => 4607182418800017408
theorem oneR_val (k : FloatKind) : rungV k.format.binade (oneR k) = 2 ^ zOf k := by cases k <;> decide +kernel
theorem oneR_inf (k : FloatKind) : oneR k < k.format.infRung := by cases k <;> decide +kernel
theorem inf_sw (k : FloatKind) : k.format.infRung < k.format.signWeight := by cases k <;> decide +kernel
/-- A word of the sign 's' whose magnitude is one at most. -/
def Unit (k : FloatKind) (s : Bool) (x : Nat) : Prop := ∃ r, x = k.format.word s r ∧ r ≤ oneR k
theorem Unit.facts {k : FloatKind} {s : Bool} {x : Nat} (h : Unit k s x) : negOf k.format x = s ∧ rungOf k.format x ≤ oneR k ∧ Fin k x ∧ valR k x ≤ 2 ^ zOf k := by
  obtain ⟨r, rfl, hr⟩ := h
  have h1 := oneR_inf k
  have h2 := inf_sw k
  have e := rungOf_word k.format s (r := r) (by omega)
  refine ⟨negOf_word _ _ (by omega), by rw [e]; exact hr, by unfold Fin; rw [e]; omega, ?_⟩
  unfold valR
  rw [e, ← oneR_val]
  exact (rungV_le_iff (binade_pos _)).2 hr
theorem Sides.unit {k : FloatKind} {y : Nat} {s : Bool} {num den : Nat} (h : Sides k y s num den) (hle : num ≤ 2 ^ zOf k * den) : Unit k s y := by
  obtain ⟨r, r1, _, r3, _⟩ := h
  exact ⟨r, r1, r3 _ (by rw [oneR_val]; exact hle)⟩
theorem mul_unit {k : FloatKind} {s t : Bool} {x y : Nat} (hx : Unit k s x) (hy : Unit k t y) : Unit k (s ^^ t) (fop .mul k x y) := by
  obtain ⟨a1, a2, a3, a4⟩ := hx.facts
  obtain ⟨b1, b2, b3, b4⟩ := hy.facts
  have := mul_sides a3 b3
  rw [a1, b1] at this
  exact this.unit (Nat.mul_le_mul a4 b4)
theorem quo_le {k : FloatKind} {x y : Nat} (a3 : Fin k x) (hy : Fin k y) (hn : negOf k.format y = false) (hle : valR k x ≤ valR k y) (h0 : 0 < valR k y) : ∃ r, fop .quo k x y = k.format.word (negOf k.format x) r ∧ r ≤ oneR k ∧ (valR k x = 0 → r = 0) := by
  obtain ⟨m, d, g1, g2, _⟩ := read_fin k.format a3
  obtain ⟨n, e, f1, f2, _⟩ := read_fin k.format hy
  have hz := zOf_eq k
  have hv : m * 2 ^ d ≤ n * 2 ^ e := by
    rw [g2, f2]; exact hle
  have hn0 : n ≠ 0 := fun h => by
    subst h
    rw [Nat.zero_mul] at f2
    have : valR k y = 0 := f2.symm
    omega
  obtain ⟨D, hdig⟩ : ∃ D, D = k.format.fractionBits + 2 := ⟨_, rfl⟩
  have heq : fop .quo k x y = k.format.nearest (negOf k.format x) (2 * (m <<< (D + n.log2 - m.log2) / n) + (m <<< (D + n.log2 - m.log2) % n != 0).toNat) (k.format.leastPlace + d - (k.format.leastPlace + e) - (D + n.log2 - m.log2 : Nat) - 1) := by
    simp only [fop, floatBits, Format.div, g1, f1, Datum.quotient, if_neg hn0, Option.map_some, Option.getD_some, Format.write, hn, Bool.xor_false, hdig]
  rw [heq]
  generalize hmore : D + n.log2 - m.log2 = more
  obtain ⟨r, r1, r2, r3, _⟩ := nearest_sides k.format (negOf k.format x) (mag := 2 * (m <<< more / n) + (m <<< more % n != 0).toNat) (place := k.format.leastPlace + d - (k.format.leastPlace + e) - (more : Nat) - 1) (c := e + more + 1) (by omega)
  refine ⟨r, r1, r3 _ ?_, fun hx0 => ?_⟩
  case refine_2 =>
    have hm0 : m = 0 := by
      have : m * 2 ^ d = 0 := by rw [g2]; exact hx0
      rcases Nat.mul_eq_zero.1 this with h | h
      · exact h
      · have := Nat.two_pow_pos d; omega
    refine Nat.le_zero.1 (r3 0 ?_)
    rw [hm0]; simp
  rw [oneR_val, show (k.format.leastPlace + (d : Int) - (k.format.leastPlace + e) - (more : Nat) - 1 - k.format.leastPlace + ((e + more + 1 : Nat) : Int)).toNat = d + zOf k by omega, Nat.pow_add, ← Nat.mul_assoc, Nat.mul_comm (2 ^ zOf k)]
  refine Nat.mul_le_mul_right _ ?_
  rw [Nat.shiftLeft_eq]
  by_cases hm0 : m = 0
  · subst hm0; simp
  · have hd : d ≤ e + more := by
      have l1 : 2 ^ m.log2 ≤ m := Nat.log2_self_le hm0
      have l2 : n < 2 ^ (n.log2 + 1) := Nat.lt_log2_self
      have l3 : 2 ^ (m.log2 + d) < 2 ^ (n.log2 + 1 + e) := by
        rw [Nat.pow_add, Nat.pow_add 2 (n.log2 + 1)]
        exact Nat.lt_of_le_of_lt (Nat.le_trans (Nat.mul_le_mul_right _ l1) hv) (Nat.mul_lt_mul_of_pos_right l2 (Nat.two_pow_pos _))
      have := (Nat.pow_lt_pow_iff_right (a := 2) (by omega)).1 l3
      omega
    have hF : m * 2 ^ more / n * 2 ^ d ≤ 2 ^ (e + more) ∧ ((m * 2 ^ more % n != 0) = true → m * 2 ^ more / n * 2 ^ d < 2 ^ (e + more)) := by
      have q1 := Nat.div_add_mod (m * 2 ^ more) n
      have hnp : 0 < n := Nat.pos_of_ne_zero hn0
      generalize m * 2 ^ more / n = F at *
      generalize m * 2 ^ more % n = R at *
      have q2 : n * (F * 2 ^ d) + R * 2 ^ d ≤ n * 2 ^ (e + more) := by
        have : n * (F * 2 ^ d) + R * 2 ^ d = m * 2 ^ d * 2 ^ more := by
          rw [← Nat.mul_assoc, ← Nat.add_mul, q1, Nat.mul_assoc, Nat.mul_comm (2 ^ more), ← Nat.mul_assoc]
        rw [this, Nat.pow_add, ← Nat.mul_assoc]
        exact Nat.mul_le_mul_right _ hv
      refine ⟨Nat.le_of_mul_le_mul_left (Nat.le_trans (Nat.le_add_right _ _) q2) hnp, fun hR => ?_⟩
      have hRp : 0 < R * 2 ^ d := Nat.mul_pos (Nat.pos_of_ne_zero (by simpa using hR)) (Nat.two_pow_pos _)
      exact Nat.lt_of_mul_lt_mul_left (a := n) (by omega)
    have e2 : 2 ^ (e + more + 1) = 2 * 2 ^ (e + more) := by rw [Nat.pow_succ, Nat.mul_comm]
    rw [e2]
    cases hb : (m * 2 ^ more % n != 0) with
    | false =>
      rw [show (false : Bool).toNat = 0 from rfl, Nat.add_zero, Nat.mul_assoc]
      exact Nat.mul_le_mul_left _ hF.1
    | true =>
      have h2 := hF.2 hb
      rw [show e + more = (e + more - d) + d by omega, Nat.pow_add] at h2 ⊢
      have h3 : m * 2 ^ more / n < 2 ^ (e + more - d) := Nat.lt_of_mul_lt_mul_right h2
      rw [← Nat.mul_assoc]
      refine Nat.mul_le_mul_right _ ?_
      show 2 * (m * 2 ^ more / n) + 1 ≤ 2 * 2 ^ (e + more - d)
      omega
theorem Unit.sv {k : FloatKind} {s : Bool} {x : Nat} (h : Unit k s x) : sv k x = sg s (valR k x) := by unfold Go.Ax.sv; rw [h.facts.1]
/-- One and a number of [-1, 0]. -/
theorem one_add {k : FloatKind} {x y : Nat} (hx : x = k.format.word false (oneR k)) (hy : Unit k true y) : Unit k false (fop .add k x y) := by
  have h1 : Unit k false x := ⟨_, hx, Nat.le_refl _⟩
  obtain ⟨b1, b2, b3, b4⟩ := hy.facts
  have hv : valR k x = 2 ^ zOf k := by
    unfold valR
    rw [hx, rungOf_word _ _ (by have := oneR_inf k; have := inf_sw k; omega), oneR_val]
  have := add_sides h1.facts.2.2.1 b3
  rw [h1.sv, hy.sv, h1.facts.1, b1, hv] at this
  have hT : sg false (2 ^ zOf k) + sg true (valR k y) = ((2 ^ zOf k : Nat) : Int) - (valR k y : Int) := by simp [sg]; omega
  rw [hT] at this
  have hsgn : (if ((2 ^ zOf k : Nat) : Int) - (valR k y : Int) = 0 then false && true else decide (((2 ^ zOf k : Nat) : Int) - (valR k y : Int) < 0)) = false := by
    split
    · rfl
    · exact decide_eq_false (by omega)
  rw [hsgn] at this
  exact this.unit (by omega)
/-- One less a number of [0, 1]. -/
theorem one_sub {k : FloatKind} {x y : Nat} (hx : x = k.format.word false (oneR k)) (hy : Unit k false y) : Unit k false (fop .sub k x y) := by
  have h1 : Unit k false x := ⟨_, hx, Nat.le_refl _⟩
  obtain ⟨b1, b2, b3, b4⟩ := hy.facts
  have hv : valR k x = 2 ^ zOf k := by
    unfold valR
    rw [hx, rungOf_word _ _ (by have := oneR_inf k; have := inf_sw k; omega), oneR_val]
  have := sub_sides h1.facts.2.2.1 b3
  rw [h1.sv, hy.sv, h1.facts.1, b1, hv] at this
  have hT : sg false (2 ^ zOf k) - sg false (valR k y) = ((2 ^ zOf k : Nat) : Int) - (valR k y : Int) := by simp [sg]
  rw [hT] at this
  have hsgn : (if ((2 ^ zOf k : Nat) : Int) - (valR k y : Int) = 0 then false && !false else decide (((2 ^ zOf k : Nat) : Int) - (valR k y : Int) < 0)) = false := by
    split
    · rfl
    · exact decide_eq_false (by omega)
  rw [hsgn] at this
  exact this.unit (by omega)
theorem narrow_unit {x : Nat} (hx : Unit .f64 false x) : tooBig x = false ∧ Unit .f32 false (fnarrow x) := by
  obtain ⟨a1, a2, a3, a4⟩ := hx.facts
  obtain ⟨m, d, g1, g2, _⟩ := read_fin FloatKind.f64.format a3
  have hn : isNaN .f64 x = false := nan_false (Nat.le_of_lt a3)
  have e1 : FloatKind.f64.format.leastPlace = -1074 := by decide +kernel
  have e2 : FloatKind.f32.format.leastPlace = -149 := by decide +kernel
  obtain ⟨r, r1, r2, r3, _⟩ := nearest_sides FloatKind.f32.format false (mag := m) (place := FloatKind.f64.format.leastPlace + d) (c := 1074) (by omega)
  have hr : r ≤ oneR .f32 := r3 _ (by
    rw [oneR_val, show (FloatKind.f64.format.leastPlace + (d : Int) - FloatKind.f32.format.leastPlace + ((1074 : Nat) : Int)).toNat = d + 149 by omega, Nat.pow_add, ← Nat.mul_assoc, g2, Nat.mul_comm]
    exact Nat.mul_le_mul (by rw [show zOf .f32 = 149 from by decide +kernel]; exact Nat.le_refl _) (by have := a4; rw [show zOf .f64 = 1074 from by decide +kernel] at this; exact this))
  have hw : Ieee.single.write (Ieee.double.read x) = FloatKind.f32.format.word false r := by
    have g1' : Ieee.double.read x = .number (negOf FloatKind.f64.format x) m (FloatKind.f64.format.leastPlace + d) := g1
    rw [g1', a1]; exact r1
  refine ⟨?_, r, ?_, hr⟩
  · unfold tooBig
    have g1' : Ieee.double.read x = .number (negOf FloatKind.f64.format x) m (FloatKind.f64.format.leastPlace + d) := g1
    have hw' := hw
    rw [g1'] at hw' ⊢
    simp only
    rw [hw']
    have h1 := oneR_inf .f32
    have h2 := inf_sw .f32
    obtain ⟨m', d', k1, _⟩ := read_fin FloatKind.f32.format (x := FloatKind.f32.format.word false r) (by rw [rungOf_word _ _ (by omega)]; omega)
    have k1' : Ieee.single.read (FloatKind.f32.format.word false r) = _ := k1
    rw [k1']; rfl
  · unfold fnarrow
    rw [if_neg (by rw [hn]; simp)]; exact hw
/-! ### Numbers not above nought, and not less than minus one -/
def NZ (k : FloatKind) (x : Nat) : Prop := Fin k x ∧ sv k x = -(valR k x : Int) ∧ valR k x ≤ 2 ^ zOf k
theorem word_facts {k : FloatKind} {s : Bool} {r : Nat} (h : r ≤ k.format.infRung) : negOf k.format (k.format.word s r) = s ∧ rungOf k.format (k.format.word s r) = r := by
  have := inf_sw k
  exact ⟨negOf_word _ _ (by omega), rungOf_word _ _ (by omega)⟩
theorem word_val {k : FloatKind} {s : Bool} {r : Nat} (h : r ≤ k.format.infRung) : valR k (k.format.word s r) = rungV k.format.binade r := by unfold valR; rw [(word_facts h).2]
theorem nz_word {k : FloatKind} {s : Bool} {r : Nat} (h : r ≤ oneR k) (h0 : s = false → r = 0) : NZ k (k.format.word s r) := by
  have h1 := oneR_inf k
  obtain ⟨f1, f2⟩ := word_facts (k := k) (s := s) (r := r) (by omega)
  refine ⟨by unfold Fin; rw [f2]; omega, ?_, ?_⟩
  · unfold sv
    rw [f1]
    cases s
    · rw [word_val (by omega), h0 rfl, rungV_zero (binade_pos _)]; rfl
    · rfl
  · rw [word_val (by omega), ← oneR_val]
    exact (rungV_le_iff (binade_pos _)).2 h
theorem NZ.zero {k : FloatKind} {x : Nat} (h : NZ k x) (hs : negOf k.format x = false) : valR k x = 0 := by
  have := h.2.1
  unfold sv at this
  rw [hs] at this
  simp only [sg, Bool.false_eq_true, if_false] at this
  omega
theorem mul_nz {k : FloatKind} {x y : Nat} (hx : NZ k x) (hy : Unit k false y) : NZ k (fop .mul k x y) := by
  obtain ⟨b1, b2, b3, b4⟩ := hy.facts
  obtain ⟨r, r1, r2, r3, r4⟩ := mul_sides hx.1 b3
  rw [b1, Bool.xor_false] at r1
  rw [r1]
  refine nz_word (r3 _ (by rw [oneR_val]; exact Nat.mul_le_mul hx.2.2 b4)) fun hs => Nat.le_zero.1 (r3 0 ?_)
  rw [hx.zero hs, Nat.zero_mul]; exact Nat.zero_le _
theorem quo_nz {k : FloatKind} {x y : Nat} (hx : Fin k x) (hsv : sv k x = -(valR k x : Int)) (hy : Fin k y) (hn : negOf k.format y = false) (hle : valR k x ≤ valR k y) (h0 : 0 < valR k y) : NZ k (fop .quo k x y) := by
  obtain ⟨r, r1, r2, r3⟩ := quo_le hx hy hn hle h0
  rw [r1]
  refine nz_word r2 fun hs => r3 ?_
  unfold sv at hsv
  rw [hs] at hsv
  simp only [sg, Bool.false_eq_true, if_false] at hsv
  omega
theorem one_add_nz {k : FloatKind} {x y : Nat} (hx : x = k.format.word false (oneR k)) (hy : NZ k y) : Unit k false (fop .add k x y) := by
  have h1 : Unit k false x := ⟨_, hx, Nat.le_refl _⟩
  obtain ⟨b3, bs, b4⟩ := hy
  have hv : valR k x = 2 ^ zOf k := by
    unfold valR
    rw [hx, rungOf_word _ _ (by have := oneR_inf k; have := inf_sw k; omega), oneR_val]
  have := add_sides h1.facts.2.2.1 b3
  rw [h1.sv, bs, h1.facts.1, hv] at this
  have hT : sg false (2 ^ zOf k) + -(valR k y : Int) = ((2 ^ zOf k : Nat) : Int) - (valR k y : Int) := by simp [sg]; omega
  rw [hT] at this
  have hsgn : (if ((2 ^ zOf k : Nat) : Int) - (valR k y : Int) = 0 then false && negOf k.format y else decide (((2 ^ zOf k : Nat) : Int) - (valR k y : Int) < 0)) = false := by
    split
    · rfl
    · exact decide_eq_false (by omega)
  rw [hsgn] at this
  exact this.unit (by omega)
theorem pos_sv {k : FloatKind} {x y : Nat} : pos k x ≤ pos k y ↔ sv k x ≤ sv k y := by
  unfold pos sv valR
  have := sg_lt (binade_pos k.format) (s := negOf k.format y) (t := negOf k.format x) (r := rungOf k.format y) (q := rungOf k.format x)
  omega
theorem cmp_lss {k : FloatKind} {a b : Nat} (ha : isNaN k a = false) (hb : isNaN k b = false) : fcmp .lss k a b = decide (pos k a < pos k b) := by
  unfold fcmp
  rw [order_num ha hb]
  simp only [compare, compareOfLessAndEq]
  by_cases h : pos k a < pos k b
  · rw [if_pos h, decide_eq_true h]; rfl
  · rw [if_neg h, decide_eq_false h]
    by_cases h' : pos k a = pos k b
    · rw [if_pos h']; rfl
    · rw [if_neg h']; rfl
theorem cmp_gtr {k : FloatKind} {a b : Nat} (ha : isNaN k a = false) (hb : isNaN k b = false) : fcmp .gtr k a b = decide (pos k b < pos k a) := by
  unfold fcmp
  rw [order_num ha hb]
  simp only [compare, compareOfLessAndEq]
  by_cases h : pos k a < pos k b
  · rw [if_pos h, decide_eq_false (by omega)]; rfl
  · rw [if_neg h]
    by_cases h' : pos k a = pos k b
    · rw [if_pos h', decide_eq_false (by omega)]; rfl
    · rw [if_neg h', decide_eq_true (by omega)]; rfl
theorem cmp_geq {k : FloatKind} {a b : Nat} (ha : isNaN k a = false) (hb : isNaN k b = false) : fcmp .geq k a b = decide (pos k b ≤ pos k a) := by
  unfold fcmp
  rw [order_num ha hb]
  simp only [compare, compareOfLessAndEq]
  by_cases h : pos k a < pos k b
  · rw [if_pos h, decide_eq_false (by omega)]; rfl
  · rw [if_neg h]
    by_cases h' : pos k a = pos k b
    · rw [if_pos h', decide_eq_true (by omega)]; rfl
    · rw [if_neg h', decide_eq_true (by omega)]; rfl
/-! ### Widening keeps values -/
theorem widen_val {x : Nat} (h : Fin .f32 x) : Fin .f64 (fwiden x) ∧ negOf FloatKind.f64.format (fwiden x) = negOf FloatKind.f32.format x ∧ valR .f64 (fwiden x) = valR .f32 x * 2 ^ gap := by
  obtain ⟨r, h1, h2, h3⟩ := fwiden_fin h
  have hw : Ieee.double.infRung < Ieee.double.signWeight := Ieee.double.infRung_lt
  have e : rungOf Ieee.double (Ieee.double.word (negOf Ieee.single x) r) = r := rungOf_word _ _ (by omega)
  refine ⟨?_, ?_, ?_⟩
  · unfold Fin; rw [h1]; show rungOf Ieee.double _ < _; rw [e]; exact h2
  · rw [h1]; show negOf Ieee.double _ = _; exact negOf_word _ _ (by omega)
  · unfold valR; rw [h1]; show rungV Ieee.double.binade (rungOf Ieee.double _) = _; rw [e]; exact h3
theorem widen_sv {x : Nat} (h : Fin .f32 x) : sv .f64 (fwiden x) = sv .f32 x * ((2 ^ gap : Nat) : Int) := by
  obtain ⟨_, h2, h3⟩ := widen_val h
  unfold sv
  rw [h2, h3, sg_mul]
theorem widen_lt {x c : Nat} (hx : Fin .f32 x) (hc : Fin .f32 c) : pos .f64 (fwiden x) < pos .f64 (fwiden c) ↔ pos .f32 x < pos .f32 c := by
  have h1 := pos_sv (k := .f64) (x := fwiden c) (y := fwiden x)
  have h2 := pos_sv (k := .f32) (x := c) (y := x)
  rw [widen_sv hx, widen_sv hc] at h1
  have hp : (0 : Int) < ((2 ^ gap : Nat) : Int) := by have := Nat.two_pow_pos gap; omega
  have h3 : sv .f32 c * ((2 ^ gap : Nat) : Int) ≤ sv .f32 x * ((2 ^ gap : Nat) : Int) ↔ sv .f32 c ≤ sv .f32 x := ⟨fun h => Int.le_of_mul_le_mul_right h hp, fun h => Int.mul_le_mul_of_nonneg_right h (Int.le_of_lt hp)⟩
  omega
theorem fin_of_nn {k : FloatKind} {x : Nat} (h : isNaN k x = false) : Fin k x ∨ rungOf k.format x = k.format.infRung := by
  rcases rung_cases k x with h1 | h1 | h1
  · exact .inl h1
  · exact .inr h1
  · rw [isNaN_iff.2 h1] at h; cases h
/-! ### Quotients -/
theorem rungV_div {B : Nat} (hB : 0 < B) (q : Nat) : ∃ a j, rungV B q = a * 2 ^ j ∧ a < 2 * B ∧ (j = 0 ∨ B ≤ a) := by
  unfold rungV
  by_cases h : q < B
  · rw [if_pos h]; exact ⟨q, 0, by simp, by omega, .inl rfl⟩
  · rw [if_neg h]
    exact ⟨B + q % B, q / B - 1, rfl, by have := Nat.mod_lt q hB; omega, .inr (by omega)⟩
/-- A quotient lies no higher than a number that the format has, where the true one does not. -/
theorem quo_up {k : FloatKind} {x y : Nat} (a3 : Fin k x) (hy : Fin k y) (h0 : 0 < valR k y) : ∃ r, fop .quo k x y = k.format.word (negOf k.format x ^^ negOf k.format y) r ∧ r ≤ k.format.infRung ∧ ∀ q, valR k x * 2 ^ zOf k ≤ rungV k.format.binade q * valR k y → r ≤ q := by
  obtain ⟨m, d, g1, g2, _⟩ := read_fin k.format a3
  obtain ⟨n, e, f1, f2, _⟩ := read_fin k.format hy
  have hz := zOf_eq k
  have hn0 : n ≠ 0 := fun h => by
    subst h
    rw [Nat.zero_mul] at f2
    have : valR k y = 0 := f2.symm
    omega
  obtain ⟨D, hdig⟩ : ∃ D, D = k.format.fractionBits + 2 := ⟨_, rfl⟩
  have heq : fop .quo k x y = k.format.nearest (negOf k.format x ^^ negOf k.format y) (2 * (m <<< (D + n.log2 - m.log2) / n) + (m <<< (D + n.log2 - m.log2) % n != 0).toNat) (k.format.leastPlace + d - (k.format.leastPlace + e) - (D + n.log2 - m.log2 : Nat) - 1) := by
    simp only [fop, floatBits, Format.div, g1, f1, Datum.quotient, if_neg hn0, Option.map_some, Option.getD_some, Format.write, hdig]
  rw [heq]
  generalize hmore : D + n.log2 - m.log2 = more
  obtain ⟨r, r1, r2, r3, _⟩ := nearest_sides k.format (negOf k.format x ^^ negOf k.format y) (mag := 2 * (m <<< more / n) + (m <<< more % n != 0).toNat) (place := k.format.leastPlace + d - (k.format.leastPlace + e) - (more : Nat) - 1) (c := e + more + 1) (by omega)
  refine ⟨r, r1, r2, fun q hle => r3 q ?_⟩
  rw [show (k.format.leastPlace + (d : Int) - (k.format.leastPlace + e) - (more : Nat) - 1 - k.format.leastPlace + ((e + more + 1 : Nat) : Int)).toNat = d + zOf k by omega]
  rw [Nat.shiftLeft_eq]
  by_cases hm0 : m = 0
  · subst hm0; simp
  obtain ⟨a, j, q1, q2, q3⟩ := rungV_div (binade_pos k.format) q
  rw [q1] at hle ⊢
  have hv : m * 2 ^ (d + zOf k) ≤ a * 2 ^ j * (n * 2 ^ e) := by
    rw [Nat.pow_add, ← Nat.mul_assoc, g2, f2]; exact hle
  have ha0 : a ≠ 0 := fun h => by
    subst h
    rw [Nat.zero_mul, Nat.zero_mul] at hv
    have := Nat.mul_pos (Nat.pos_of_ne_zero hm0) (Nat.two_pow_pos (d + zOf k))
    omega
  have hBe : k.format.binade = 2 ^ k.format.fractionBits := rfl
  have hj : d + zOf k ≤ j + e + more := by
    have l1 : 2 ^ m.log2 ≤ m := Nat.log2_self_le hm0
    have l2 : n < 2 ^ (n.log2 + 1) := Nat.lt_log2_self
    have l4 : a < 2 ^ (k.format.fractionBits + 1) := by rw [Nat.pow_succ, ← hBe]; omega
    have l3 : 2 ^ (m.log2 + (d + zOf k)) < 2 ^ (k.format.fractionBits + 1 + j + (n.log2 + 1 + e)) := by
      rw [Nat.pow_add 2 m.log2, Nat.pow_add 2 (k.format.fractionBits + 1 + j), Nat.pow_add 2 (k.format.fractionBits + 1), Nat.pow_add 2 (n.log2 + 1)]
      refine Nat.lt_of_le_of_lt (Nat.le_trans (Nat.mul_le_mul_right _ l1) hv) ?_
      refine Nat.mul_lt_mul_of_lt_of_le' (Nat.mul_lt_mul_of_pos_right l4 (Nat.two_pow_pos _)) (Nat.mul_le_mul_right _ (Nat.le_of_lt l2)) (Nat.mul_pos (Nat.pos_of_ne_zero hn0) (Nat.two_pow_pos _))
    have := (Nat.pow_lt_pow_iff_right (a := 2) (by omega)).1 l3
    omega
  have hnp : 0 < n := Nat.pos_of_ne_zero hn0
  have q0 := Nat.div_add_mod (m * 2 ^ more) n
  generalize m * 2 ^ more / n = F at *
  generalize m * 2 ^ more % n = R at *
  have e0 : (n * F + R) * 2 ^ (d + zOf k) ≤ n * (a * 2 ^ (j + e + more)) := by
    rw [q0, Nat.mul_assoc, Nat.mul_comm (2 ^ more), ← Nat.mul_assoc]
    have := Nat.mul_le_mul_right (2 ^ more) hv
    refine Nat.le_trans this (Nat.le_of_eq ?_)
    rw [Nat.pow_add, Nat.pow_add]
    simp only [Nat.mul_assoc, Nat.mul_left_comm, Nat.mul_comm]
  have hG : a * 2 ^ (j + e + more) = a * 2 ^ (j + e + more - (d + zOf k)) * 2 ^ (d + zOf k) := by
    rw [Nat.mul_assoc, ← Nat.pow_add, Nat.sub_add_cancel hj]
  generalize a * 2 ^ (j + e + more - (d + zOf k)) = G at hG
  rw [hG, ← Nat.mul_assoc] at e0
  have e1 : n * F + R ≤ n * G := Nat.le_of_mul_le_mul_right e0 (Nat.two_pow_pos _)
  have hfin : 2 * F + (R != 0).toNat ≤ 2 * G := by
    cases hb : (R != 0) with
    | false =>
      have : F ≤ G := Nat.le_of_mul_le_mul_left (Nat.le_trans (Nat.le_add_right _ _) e1) hnp
      show 2 * F + 0 ≤ _
      omega
    | true =>
      have hR : R ≠ 0 := by simpa using hb
      have : F < G := Nat.lt_of_mul_lt_mul_left (a := n) (by omega)
      show 2 * F + 1 ≤ _
      omega
  have e2 : a * 2 ^ j * 2 ^ (e + more + 1) = 2 * (G * 2 ^ (d + zOf k)) := by
    rw [← hG, Nat.mul_assoc, ← Nat.pow_add, show j + (e + more + 1) = (j + e + more) + 1 by omega, Nat.pow_succ, ← Nat.mul_assoc, Nat.mul_comm]
  rw [e2, ← Nat.mul_assoc]
  exact Nat.mul_le_mul_right _ hfin
theorem rungV_up {B r : Nat} (hB : 0 < B) (h : B ≤ r) (p : Nat) : rungV B (r + p * B) = rungV B r * 2 ^ p := by
  unfold rungV
  have h2 : ¬ r + p * B < B := by omega
  rw [if_neg h2, if_neg (show ¬ r < B by omega), Nat.add_mul_mod_self_right, Nat.add_mul_div_right _ _ hB]
  have h1 : 1 ≤ r / B := (Nat.le_div_iff_mul_le hB).2 (by omega)
  rw [show r / B + p - 1 = (r / B - 1) + p by omega, Nat.pow_add, Nat.mul_assoc]
/-- Twice. -/
theorem double_word {x y : Nat} (hx : Fin .f64 x) (hB : FloatKind.f64.format.binade ≤ rungOf FloatKind.f64.format x) (hi : rungOf FloatKind.f64.format x + FloatKind.f64.format.binade ≤ FloatKind.f64.format.infRung) (hy : y = 4611686018427387904) : fop .mul .f64 x y = FloatKind.f64.format.word (negOf FloatKind.f64.format x) (rungOf FloatKind.f64.format x + FloatKind.f64.format.binade) := by
  have y1 : Fin .f64 y := by rw [hy]; unfold Fin; decide +kernel
  have y2 : negOf FloatKind.f64.format y = false := by rw [hy]; decide +kernel
  have y3 : valR .f64 y = 2 * 2 ^ zOf .f64 := by rw [hy]; decide +kernel
  obtain ⟨r, r1, r2, r3, r4⟩ := mul_sides hx y1
  have hV := rungV_up (binade_pos FloatKind.f64.format) hB 1
  rw [Nat.one_mul, Nat.pow_one] at hV
  have e : valR .f64 x * valR .f64 y = rungV FloatKind.f64.format.binade (rungOf FloatKind.f64.format x + FloatKind.f64.format.binade) * 2 ^ zOf .f64 := by
    rw [hV, y3, ← Nat.mul_assoc]; rfl
  have h1 := r3 _ (Nat.le_of_eq e)
  have h2 := r4 _ hi (Nat.le_of_eq e.symm)
  rw [r1, y2, Bool.xor_false, Nat.le_antisymm h1 h2]
/-- Divided by a power of two. -/
theorem halve_word {x y p : Nat} (hx : Fin .f64 x) (hB : (p + 1) * FloatKind.f64.format.binade ≤ rungOf FloatKind.f64.format x) (hy : Ieee.double.read y = .number false 4503599627370496 (p - 52)) : fop .quo .f64 x y = FloatKind.f64.format.word (negOf FloatKind.f64.format x) (rungOf FloatKind.f64.format x - p * FloatKind.f64.format.binade) := by
  obtain ⟨m, d, g1, g2, g3, g4, g5, _⟩ := read_fin FloatKind.f64.format hx
  have eB : FloatKind.f64.format.binade = 4503599627370496 := by decide +kernel
  have eL : FloatKind.f64.format.leastPlace = -1074 := by decide +kernel
  have hm : FloatKind.f64.format.binade ≤ m := by
    rcases g4 with h | h
    · subst h
      rw [Nat.add_mul, Nat.one_mul] at hB
      omega
    · exact h
  have hlog : m.log2 = 52 := (Nat.log2_eq_iff (by omega)).2 ⟨by rw [eB] at hm; exact hm, by rw [eB] at g3; exact g3⟩
  have hlogB : (4503599627370496 : Nat).log2 = 52 := by decide +kernel
  have hq : m <<< 54 / 4503599627370496 = 4 * m ∧ m <<< 54 % 4503599627370496 = 0 := by
    rw [Nat.shiftLeft_eq]
    have : m * 2 ^ 54 = 4503599627370496 * (4 * m) := by
      rw [show (2 : Nat) ^ 54 = 4503599627370496 * 4 from by decide +kernel, ← Nat.mul_assoc, Nat.mul_comm m, Nat.mul_assoc, Nat.mul_comm m]
    rw [this]
    exact ⟨Nat.mul_div_cancel_left _ (by decide), Nat.mul_mod_right _ _⟩
  have g1' : Ieee.double.read x = .number (negOf FloatKind.f64.format x) m (FloatKind.f64.format.leastPlace + d) := g1
  have heq : fop .quo .f64 x y = FloatKind.f64.format.nearest (negOf FloatKind.f64.format x) (2 * (4 * m)) (FloatKind.f64.format.leastPlace + d - ((p : Int) - 52) - 54 - 1) := by
    show ((Ieee.double.div x y).getD _) = _
    unfold Format.div
    rw [g1', hy]
    have hmore : Ieee.double.fractionBits + 2 + 52 - 52 = 54 := rfl
    simp only [Datum.quotient, hlog, hlogB, hmore, hq.1, hq.2, Bool.xor_false]
    rfl
  obtain ⟨r, r1, r2, r3, r4⟩ := nearest_sides FloatKind.f64.format (negOf FloatKind.f64.format x) (mag := 2 * (4 * m)) (place := FloatKind.f64.format.leastPlace + d - ((p : Int) - 52) - 54 - 1) (c := p + 3) (by omega)
  rw [show (FloatKind.f64.format.leastPlace + (d : Int) - ((p : Int) - 52) - 54 - 1 - FloatKind.f64.format.leastPlace + ((p + 3 : Nat) : Int)).toNat = d by omega] at r3 r4
  have hle : p * FloatKind.f64.format.binade ≤ rungOf FloatKind.f64.format x := Nat.le_trans (Nat.mul_le_mul_right _ (by omega)) hB
  have hV := rungV_up (r := rungOf FloatKind.f64.format x - p * FloatKind.f64.format.binade) (binade_pos FloatKind.f64.format) (by rw [Nat.add_mul, Nat.one_mul] at hB; omega) p
  rw [Nat.sub_add_cancel hle] at hV
  have e : 2 * (4 * m) * 2 ^ d = rungV FloatKind.f64.format.binade (rungOf FloatKind.f64.format x - p * FloatKind.f64.format.binade) * 2 ^ (p + 3) := by
    have e0 : rungV FloatKind.f64.format.binade (rungOf FloatKind.f64.format x - p * FloatKind.f64.format.binade) * (2 ^ p * 2 ^ 3) = rungV FloatKind.f64.format.binade (rungOf FloatKind.f64.format x - p * FloatKind.f64.format.binade) * 2 ^ p * 2 ^ 3 := (Nat.mul_assoc _ _ _).symm
    rw [Nat.pow_add, e0, ← hV, ← g2]
    generalize 2 ^ d = t
    rw [show 2 * (4 * m) = m * 8 by omega, Nat.mul_assoc, Nat.mul_comm 8 t, ← Nat.mul_assoc]
  have h1 := r3 _ (Nat.le_of_eq e)
  have h2 := r4 _ (by unfold Fin at hx; omega) (Nat.le_of_eq e.symm)
  rw [heq, r1, Nat.le_antisymm h1 h2]
end Go.Ax
