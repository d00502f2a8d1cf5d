/- Rounding: no further off than half a place, hence than a share of the number itself. -/
import Derived.Test.YtngmlbeafdaolaaBxN
namespace Go.Ax
open Ieee (Format Datum)
theorem cut_half {neg : Bool} {n drop : Nat} : 2 * (Ieee.Toward.even.cut neg n drop * 2 ^ drop) ≤ 2 * n + 2 ^ drop ∧ 2 * n ≤ 2 * (Ieee.Toward.even.cut neg n drop * 2 ^ drop) + 2 ^ drop := by
  unfold Ieee.Toward.cut
  dsimp only
  rw [Nat.one_shiftLeft]
  have hn : n < 2 ^ (n.log2 + 1) := Nat.lt_log2_self
  by_cases hd : drop ≤ n.log2 + 2
  · rw [Nat.min_eq_left hd]
    have h2 := Nat.div_add_mod n (2 ^ drop)
    have h3 := Nat.mod_lt n (Nat.two_pow_pos drop)
    rw [Nat.mul_comm] at h2
    generalize n / 2 ^ drop = a at *
    generalize n % 2 ^ drop = b at *
    by_cases hb : (decide (2 ^ drop < 2 * b) || (2 ^ drop == 2 * b && a % 2 == 1)) = true
    · rw [hb]
      have : 2 ^ drop ≤ 2 * b := by
        rw [Bool.or_eq_true] at hb
        rcases hb with h | h
        · exact Nat.le_of_lt (of_decide_eq_true h)
        · rw [Bool.and_eq_true] at h; exact Nat.le_of_eq (beq_iff_eq.1 h.1)
      show 2 * ((a + 1) * 2 ^ drop) ≤ _ ∧ _ ≤ 2 * ((a + 1) * 2 ^ drop) + _
      rw [Nat.add_mul, Nat.one_mul]
      omega
    · have hb : (decide (2 ^ drop < 2 * b) || (2 ^ drop == 2 * b && a % 2 == 1)) = false := by simpa using hb
      rw [hb]
      have : 2 * b ≤ 2 ^ drop := by
        rw [Bool.or_eq_false_iff] at hb
        have := of_decide_eq_false hb.1; omega
      show 2 * ((a + 0) * 2 ^ drop) ≤ _ ∧ _ ≤ 2 * ((a + 0) * 2 ^ drop) + _
      rw [Nat.add_zero]
      omega
  · rw [Nat.min_eq_right (by omega)]
    have e : 2 ^ (n.log2 + 2) = 2 * 2 ^ (n.log2 + 1) := by rw [Nat.pow_succ, Nat.mul_comm]
    have h1 : n / 2 ^ (n.log2 + 2) = 0 := Nat.div_eq_of_lt (by omega)
    have h2 : n % 2 ^ (n.log2 + 2) = n := Nat.mod_eq_of_lt (by omega)
    have h4 : 2 ^ (n.log2 + 2) ≤ 2 ^ drop := Nat.pow_le_pow_right (by decide) (by omega)
    rw [h1, h2]
    have : (decide (2 ^ (n.log2 + 2) < 2 * n) || (2 ^ (n.log2 + 2) == 2 * n && 0 % 2 == 1)) = false := by
      rw [Bool.or_eq_false_iff]
      refine ⟨decide_eq_false (by omega), ?_⟩
      rw [show (2 ^ (n.log2 + 2) == 2 * n) = false from beq_eq_false_iff_ne.2 (by omega)]; rfl
    rw [this]
    show 2 * ((0 + 0) * 2 ^ drop) ≤ _ ∧ _ ≤ 2 * ((0 + 0) * 2 ^ drop) + _
    rw [Nat.zero_mul]
    omega
/-- How near 'y' is to 'num / den' units. -/
def Near (k : FloatKind) (y num den : Nat) : Prop := Fin k y → 2 * k.format.binade * (valR k y * den) ≤ 2 * k.format.binade * num + (num + k.format.binade * den) ∧ 2 * k.format.binade * num ≤ 2 * k.format.binade * (valR k y * den) + (num + k.format.binade * den)
theorem nearest_near (k : FloatKind) (neg : Bool) {mag : Nat} {place : Int} {c : Nat} (hc : 0 ≤ place - k.format.leastPlace + c) :
    Near k (k.format.nearest neg mag place) (mag * 2 ^ (place - k.format.leastPlace + c).toNat) (2 ^ c) := by
  have hB := binade_pos k.format
  generalize hf : k.format = f at *
  unfold Near
  intro hfin
  unfold Fin valR at *
  rw [hf] at hfin ⊢
  have hN : ∃ r, f.nearest neg mag place = f.word neg r ∧ r ≤ f.infRung ∧ (r < f.infRung → ∃ D, 2 * (rungV f.binade r * 2 ^ c) ≤ 2 * (mag * 2 ^ (place - f.leastPlace + c).toNat) + 2 ^ (D + c) ∧ 2 * (mag * 2 ^ (place - f.leastPlace + c).toNat) ≤ 2 * (rungV f.binade r * 2 ^ c) + 2 ^ (D + c) ∧ (D = 0 ∨ f.binade * 2 ^ (D + c) ≤ mag * 2 ^ (place - f.leastPlace + c).toNat)) := by
    unfold Format.nearest
    by_cases hz : mag = 0
    · rw [if_pos hz]
      refine ⟨0, rfl, Nat.zero_le _, fun _ => ⟨0, ?_, ?_, .inl rfl⟩⟩
      · rw [rungV_zero hB]; simp
      · rw [hz]; simp
    · rw [if_neg hz]
      have hlt : mag < 2 ^ (mag.log2 + 1) := Nat.lt_log2_self
      have hge : 2 ^ mag.log2 ≤ mag := Nat.log2_self_le hz
      have hBe : f.binade = 2 ^ f.fractionBits := rfl
      obtain ⟨D, hD⟩ : ∃ D : Nat, max (place + mag.log2 - f.fractionBits) f.leastPlace = f.leastPlace + D := ⟨(max (place + mag.log2 - f.fractionBits) f.leastPlace - f.leastPlace).toNat, by omega⟩
      simp only [hD]
      rw [show (f.leastPlace + (D : Int) - f.leastPlace).toNat = D by omega]
      have half : 2 * (Ieee.Toward.even.cut neg (mag <<< (place - (f.leastPlace + D)).toNat) (f.leastPlace + D - place).toNat * 2 ^ (D + c)) ≤ 2 * (mag * 2 ^ (place - f.leastPlace + c).toNat) + 2 ^ (D + c) ∧ 2 * (mag * 2 ^ (place - f.leastPlace + c).toNat) ≤ 2 * (Ieee.Toward.even.cut neg (mag <<< (place - (f.leastPlace + D)).toNat) (f.leastPlace + D - place).toNat * 2 ^ (D + c)) + 2 ^ (D + c) := by
        rw [Nat.shiftLeft_eq]
        rcases Int.lt_or_le place (f.leastPlace + D) with h | h
        · have e1 : (place - (f.leastPlace + D)).toNat = 0 := by omega
          have e2 : D + c = (f.leastPlace + D - place).toNat + (place - f.leastPlace + c).toNat := by omega
          rw [e1, Nat.pow_zero, Nat.mul_one, e2, Nat.pow_add]
          obtain ⟨g1, g2⟩ := @cut_half neg mag (f.leastPlace + D - place).toNat
          have k1 := Nat.mul_le_mul_right (2 ^ (place - f.leastPlace + c).toNat) g1
          have k2 := Nat.mul_le_mul_right (2 ^ (place - f.leastPlace + c).toNat) g2
          simp only [Nat.add_mul, Nat.mul_assoc] at k1 k2 ⊢
          exact ⟨k1, k2⟩
        · have e1 : (f.leastPlace + D - place).toNat = 0 := by omega
          have e2 : (place - f.leastPlace + c).toNat = (place - (f.leastPlace + D)).toNat + (D + c) := by omega
          have e3 : mag * 2 ^ (place - (f.leastPlace + D)).toNat * 2 ^ (D + c) = mag * 2 ^ ((place - (f.leastPlace + D)).toNat + (D + c)) := by rw [Nat.mul_assoc, ← Nat.pow_add]
          have e4 := Nat.two_pow_pos (D + c)
          rw [e1, cut_zero, e2, e3]
          generalize 2 ^ (D + c) = P at *
          omega
      have hup : mag * 2 ^ (place - f.leastPlace + c).toNat < 2 * f.binade * 2 ^ (D + c) := by
        have h1 : mag * 2 ^ (place - f.leastPlace + c).toNat < 2 ^ (mag.log2 + 1) * 2 ^ (place - f.leastPlace + c).toNat := Nat.mul_lt_mul_of_pos_right hlt (Nat.two_pow_pos _)
        rw [← Nat.pow_add] at h1
        have e : 2 * f.binade * 2 ^ (D + c) = 2 ^ (f.fractionBits + 1 + (D + c)) := by rw [Nat.pow_add 2 (f.fractionBits + 1), Nat.pow_succ, hBe, Nat.mul_comm 2]
        rw [e]
        exact Nat.lt_of_lt_of_le h1 (Nat.pow_le_pow_right (by decide) (by omega))
      have hlo : D = 0 ∨ f.binade * 2 ^ (D + c) ≤ mag * 2 ^ (place - f.leastPlace + c).toNat := by
        rcases Nat.eq_zero_or_pos D with h0 | h0
        · exact .inl h0
        · right
          have hl : place + mag.log2 - f.fractionBits = f.leastPlace + D := by omega
          have h1 : 2 ^ mag.log2 * 2 ^ (place - f.leastPlace + c).toNat ≤ mag * 2 ^ (place - f.leastPlace + c).toNat := Nat.mul_le_mul_right _ hge
          rw [← Nat.pow_add] at h1
          rw [hBe, ← Nat.pow_add]
          exact Nat.le_trans (Nat.pow_le_pow_right (by decide) (by omega)) h1
      generalize Ieee.Toward.even.cut neg (mag <<< (place - (f.leastPlace + D)).toNat) (f.leastPlace + D - place).toNat = q at *
      generalize mag * 2 ^ (place - f.leastPlace + c).toNat = Y at *
      have hp := Nat.two_pow_pos (D + c)
      have hk2 : q ≤ 2 * f.binade := by
        apply Classical.byContradiction
        intro hn
        have h1 : (2 * f.binade + 1) * 2 ^ (D + c) ≤ q * 2 ^ (D + c) := Nat.mul_le_mul_right _ (by omega)
        rw [Nat.add_mul, Nat.one_mul] at h1
        omega
      have hk1 : D = 0 ∨ f.binade ≤ q := by
        rcases hlo with h | h
        · exact .inl h
        · right
          apply Classical.byContradiction
          intro hn
          have h1 : (q + 1) * 2 ^ (D + c) ≤ f.binade * 2 ^ (D + c) := Nat.mul_le_mul_right _ (by omega)
          rw [Nat.add_mul, Nat.one_mul] at h1
          omega
      have hV := rungV_word hB hk2 hk1
      refine ⟨_, rfl, Nat.min_le_right _ _, fun hr => ⟨D, ?_⟩⟩
      have hm : min (D * f.binade + q) f.infRung = D * f.binade + q := by omega
      rw [hm, hV, Nat.mul_assoc q, ← Nat.pow_add]
      exact ⟨half.1, half.2, hlo⟩
  obtain ⟨r, r1, r2, r3⟩ := hN
  have wf := @word_facts k neg r (by rw [hf]; exact r2)
  rw [hf] at wf
  rw [r1, wf.2] at hfin ⊢
  obtain ⟨D, h1, h2, h3⟩ := r3 hfin
  have hb : f.binade * 2 ^ (D + c) ≤ mag * 2 ^ (place - f.leastPlace + c).toNat + f.binade * 2 ^ c := by
    rcases h3 with h | h
    · subst h; rw [Nat.zero_add]; omega
    · omega
  generalize mag * 2 ^ (place - f.leastPlace + c).toNat = Y at *
  have k1 := Nat.mul_le_mul_left f.binade h1
  have k2 := Nat.mul_le_mul_left f.binade h2
  rw [Nat.mul_add] at k1 k2
  have a1 : f.binade * (2 * (rungV f.binade r * 2 ^ c)) = 2 * f.binade * (rungV f.binade r * 2 ^ c) := by rw [← Nat.mul_assoc, Nat.mul_comm f.binade 2]
  have a2 : f.binade * (2 * Y) = 2 * f.binade * Y := by rw [← Nat.mul_assoc, Nat.mul_comm f.binade 2]
  rw [a1, a2] at k1 k2
  omega
theorem mul_nearN {k : FloatKind} {x y : Nat} (hx : Fin k x) (hy : Fin k y) : Near k (fop .mul k x y) (valR k x * valR k y) (2 ^ zOf k) := by
  obtain ⟨m, d, h1, h2, _⟩ := read_fin k.format hx
  obtain ⟨n, e, g1, g2, _⟩ := read_fin k.format hy
  have hz := zOf_eq k
  have heq : fop .mul k x y = k.format.nearest (negOf k.format x ^^ negOf k.format y) (m * n) (k.format.leastPlace + d + (k.format.leastPlace + e)) := by
    simp only [fop, floatBits, Format.mul, h1, g1, Datum.product, Option.map_some, Option.getD_some, Format.write]
  have r := nearest_near k (negOf k.format x ^^ negOf k.format y) (mag := m * n) (place := k.format.leastPlace + d + (k.format.leastPlace + e)) (c := zOf k) (by omega)
  have hp : m * n * 2 ^ (k.format.leastPlace + (d : Int) + (k.format.leastPlace + e) - k.format.leastPlace + (zOf k : Int)).toNat = valR k x * valR k y := by
    rw [show (k.format.leastPlace + (d : Int) + (k.format.leastPlace + e) - k.format.leastPlace + (zOf k : Int)).toNat = d + e by omega, Nat.pow_add]
    unfold valR
    rw [← h2, ← g2, Nat.mul_assoc, Nat.mul_assoc, Nat.mul_left_comm n]
  rw [hp] at r
  rw [heq]
  exact r
theorem sum_near (k : FloatKind) (s t : Bool) (m d n e : Nat) :
    ∃ D, (Datum.number s m (k.format.leastPlace + d)).sum (Datum.number t n (k.format.leastPlace + e)) = some D ∧ Near k (k.format.write D) (sg s (m * 2 ^ d) + sg t (n * 2 ^ e)).natAbs 1 := by
  obtain ⟨b, hb, hbd, hbe⟩ : ∃ b : Nat, min (k.format.leastPlace + d) (k.format.leastPlace + e) = k.format.leastPlace + b ∧ b ≤ d ∧ b ≤ e := ⟨min d e, by omega, by omega, by omega⟩
  refine ⟨_, rfl, ?_⟩
  simp only [hb]
  rw [show (k.format.leastPlace + (d : Int) - (k.format.leastPlace + b)).toNat = d - b by omega, show (k.format.leastPlace + (e : Int) - (k.format.leastPlace + b)).toNat = e - b by omega, signed_eq, signed_eq]
  have e1 : sg s (m * 2 ^ d) + sg t (n * 2 ^ e) = (sg s (m * 2 ^ (d - b)) + sg t (n * 2 ^ (e - b))) * ((2 ^ b : Nat) : Int) := by
    have h1 : m * 2 ^ d = m * 2 ^ (d - b) * 2 ^ b := by rw [Nat.mul_assoc, ← Nat.pow_add, Nat.sub_add_cancel hbd]
    have h2 : n * 2 ^ e = n * 2 ^ (e - b) * 2 ^ b := by rw [Nat.mul_assoc, ← Nat.pow_add, Nat.sub_add_cancel hbe]
    rw [h1, h2, sg_mul s (m * 2 ^ (d - b)), sg_mul t (n * 2 ^ (e - b)), Int.add_mul]
  rw [e1]
  generalize sg s (m * 2 ^ (d - b)) + sg t (n * 2 ^ (e - b)) = T at *
  simp only [Format.write]
  have r := nearest_near k (if T = 0 then s && t else decide (T < 0)) (mag := T.natAbs) (place := k.format.leastPlace + b) (c := 0) (by omega)
  rw [show (k.format.leastPlace + (b : Int) - k.format.leastPlace + ((0 : Nat) : Int)).toNat = b by omega, Nat.pow_zero] at r
  rw [Int.natAbs_mul, Int.natAbs_natCast]
  exact r
theorem add_nearN {k : FloatKind} {x y : Nat} (hx : Fin k x) (hy : Fin k y) : Near k (fop .add k x y) (sv k x + sv k y).natAbs 1 := by
  obtain ⟨m, d, h1, h2, _⟩ := read_fin k.format hx
  obtain ⟨n, e, g1, g2, _⟩ := read_fin k.format hy
  obtain ⟨D, hD, hS⟩ := sum_near k (negOf k.format x) (negOf k.format y) m d n e
  rw [h2, g2] at hS
  have heq : fop .add k x y = k.format.write D := by simp only [fop, floatBits, Format.add, h1, g1, hD, Option.map_some, Option.getD_some]
  rw [heq]; exact hS
theorem sub_nearN {k : FloatKind} {x y : Nat} (hx : Fin k x) (hy : Fin k y) : Near k (fop .sub k x y) (sv k x - sv k y).natAbs 1 := by
  obtain ⟨m, d, h1, h2, _⟩ := read_fin k.format hx
  obtain ⟨n, e, g1, g2, _⟩ := read_fin k.format hy
  obtain ⟨D, hD, hS⟩ := sum_near k (negOf k.format x) (!negOf k.format y) m d n e
  rw [h2, g2, sg_not, ← Int.sub_eq_add_neg] at hS
  have heq : fop .sub k x y = k.format.write D := by simp only [fop, floatBits, Format.sub, h1, g1, Datum.opposite, hD, Option.map_some, Option.getD_some]
  rw [heq]; exact hS
theorem quo_nearN {k : FloatKind} {x y : Nat} (hx : Fin k x) (hy : Fin k y) (h0 : 0 < valR k y) (hf : Fin k (fop .quo k x y)) :
    2 * k.format.binade * (valR k (fop .quo k x y) * valR k y) ≤ 2 * k.format.binade * (valR k x * 2 ^ zOf k) + (3 * (valR k x * 2 ^ zOf k) + k.format.binade * valR k y) ∧
    2 * k.format.binade * (valR k x * 2 ^ zOf k) ≤ 2 * k.format.binade * (valR k (fop .quo k x y) * valR k y) + (3 * (valR k x * 2 ^ zOf k) + k.format.binade * valR k y) := by
  obtain ⟨m, d, g1, g2, _⟩ := read_fin k.format hx
  obtain ⟨n, e, f1, f2, _⟩ := read_fin k.format hy
  have hz := zOf_eq k
  have hn0 : n ≠ 0 := fun h => by
    subst h
    rw [Nat.zero_mul] at f2
    have : valR k y = 0 := f2.symm
    omega
  have hnp : 0 < n := Nat.pos_of_ne_zero hn0
  obtain ⟨D, hdig⟩ : ∃ D, D = k.format.fractionBits + 2 := ⟨_, rfl⟩
  have heq : fop .quo k x y = k.format.nearest (negOf k.format x ^^ negOf k.format y) (2 * (m <<< (D + n.log2 - m.log2) / n) + (m <<< (D + n.log2 - m.log2) % n != 0).toNat) (k.format.leastPlace + d - (k.format.leastPlace + e) - (D + n.log2 - m.log2 : Nat) - 1) := by
    simp only [fop, floatBits, Format.div, g1, f1, Datum.quotient, if_neg hn0, Option.map_some, Option.getD_some, Format.write, hdig]
  obtain ⟨more, hmore⟩ : ∃ more, D + n.log2 - m.log2 = more := ⟨_, rfl⟩
  rw [hmore] at heq
  have r := nearest_near k (negOf k.format x ^^ negOf k.format y) (mag := 2 * (m <<< more / n) + (m <<< more % n != 0).toNat) (place := k.format.leastPlace + d - (k.format.leastPlace + e) - (more : Nat) - 1) (c := e + more + 1) (by omega)
  rw [← heq] at r
  have r := r hf
  rw [show (k.format.leastPlace + (d : Int) - (k.format.leastPlace + e) - (more : Nat) - 1 - k.format.leastPlace + ((e + more + 1 : Nat) : Int)).toNat = d + zOf k by omega, Nat.shiftLeft_eq] at r
  have gx : valR k x = m * 2 ^ d := g2.symm
  have gy : valR k y = n * 2 ^ e := f2.symm
  have hBe : k.format.binade = 2 ^ k.format.fractionBits := rfl
  have hB0 := binade_pos k.format
  rw [gx, gy]
  generalize valR k (fop .quo k x y) = v at *
  generalize k.format.binade = B at *
  by_cases hm0 : m = 0
  · subst hm0
    rw [Nat.zero_mul, Nat.zero_div, Nat.zero_mod] at r
    simp only [Nat.zero_mul, Nat.mul_zero, Nat.zero_add, Nat.add_zero, bne_self_eq_false, Bool.toNat_false] at r ⊢
    refine ⟨?_, Nat.zero_le _⟩
    have h1 := Nat.mul_le_mul_right (n * 2 ^ e) (show 2 * B * v ≤ B by
      have h2 : 2 * B * v * 2 ^ (e + more + 1) ≤ B * 2 ^ (e + more + 1) := by rw [Nat.mul_assoc]; exact r.1
      exact Nat.le_of_mul_le_mul_right h2 (Nat.two_pow_pos _))
    rw [Nat.mul_assoc (2 * B)] at h1
    exact h1
  have l1 : 2 ^ m.log2 ≤ m := Nat.log2_self_le hm0
  have l2 : n < 2 ^ (n.log2 + 1) := Nat.lt_log2_self
  have hF : 2 * B * n ≤ m * 2 ^ more := by
    have h1 : 2 ^ (D + n.log2) ≤ m * 2 ^ more := by
      have : 2 ^ (D + n.log2) ≤ 2 ^ (m.log2 + more) := Nat.pow_le_pow_right (by decide) (by omega)
      rw [Nat.pow_add 2 m.log2] at this
      exact Nat.le_trans this (Nat.mul_le_mul_right _ l1)
    have h2 : 2 * B * n ≤ 2 * B * 2 ^ (n.log2 + 1) := Nat.mul_le_mul_left _ (Nat.le_of_lt l2)
    have h3 : 2 * B * 2 ^ (n.log2 + 1) = 2 ^ (D + n.log2) := by
      rw [hdig, hBe, Nat.pow_succ, show k.format.fractionBits + 2 + n.log2 = k.format.fractionBits + n.log2 + 1 + 1 by omega, Nat.pow_succ, Nat.pow_succ, Nat.pow_add]
      simp only [Nat.mul_assoc, Nat.mul_comm, Nat.mul_left_comm]
    omega
  have q0 := Nat.div_add_mod (m * 2 ^ more) n
  have q1 := Nat.mod_lt (m * 2 ^ more) hnp
  generalize hFF : m * 2 ^ more / n = F at *
  generalize m * 2 ^ more % n = R at *
  have hs : ∃ s : Nat, (R != 0).toNat = s ∧ s * n ≤ 2 * R + n ∧ 2 * R ≤ s * n + n := by
    refine ⟨_, rfl, ?_⟩
    by_cases h : R = 0
    · subst h
      rw [show ((0 : Nat) != 0) = false from rfl]
      show 0 * n ≤ _ ∧ _
      omega
    · rw [show (R != 0) = true by simpa using h]
      rw [Bool.toNat_true]
      omega
  obtain ⟨s, hs0, hs1, hs2⟩ := hs
  rw [hs0] at r
  -- all times n
  obtain ⟨r1, r2⟩ := r
  have P := Nat.two_pow_pos (d + zOf k)
  have yn : (2 * F + s) * n ≤ 2 * (m * 2 ^ more) + n ∧ 2 * (m * 2 ^ more) ≤ (2 * F + s) * n + n := by
    have : (2 * F + s) * n = 2 * (n * F) + s * n := by rw [Nat.add_mul, Nat.mul_assoc, Nat.mul_comm F]
    rw [this]; omega
  generalize 2 * F + s = G at *
  have k1 := Nat.mul_le_mul_right n r1
  have k2 := Nat.mul_le_mul_right n r2
  have T1 : m * 2 ^ d * 2 ^ zOf k * 2 ^ (more + 1) = 2 * (m * 2 ^ more) * 2 ^ (d + zOf k) := by
    rw [Nat.pow_succ, Nat.pow_add]
    simp only [Nat.mul_assoc, Nat.mul_comm, Nat.mul_left_comm]
  have T2 : v * 2 ^ (e + more + 1) * n = v * (n * 2 ^ e) * 2 ^ (more + 1) := by
    rw [show e + more + 1 = e + (more + 1) by omega, Nat.pow_add]
    simp only [Nat.mul_assoc, Nat.mul_comm, Nat.mul_left_comm]
  have T3 : 2 ^ (e + more + 1) * n = n * 2 ^ e * 2 ^ (more + 1) := by
    rw [show e + more + 1 = e + (more + 1) by omega, Nat.pow_add]
    simp only [Nat.mul_assoc, Nat.mul_comm]
  have y1 := Nat.mul_le_mul_right (2 ^ (d + zOf k)) yn.1
  have y2 := Nat.mul_le_mul_right (2 ^ (d + zOf k)) yn.2
  have y3 := Nat.mul_le_mul_right (2 ^ (d + zOf k)) hF
  have Y : G * 2 ^ (d + zOf k) * n = G * n * 2 ^ (d + zOf k) := Nat.mul_right_comm _ _ _
  simp only [Nat.add_mul] at k1 k2 y1 y2
  rw [Nat.mul_assoc (2 * B), Nat.mul_assoc (2 * B), Nat.mul_assoc B, T2, T3, Y] at k1
  rw [Nat.mul_assoc (2 * B), Nat.mul_assoc (2 * B), Nat.mul_assoc B, T2, T3, Y] at k2
  rw [← T1] at y1 y2
  generalize G * n * 2 ^ (d + zOf k) = YY at *
  have y4 : 2 * B * (n * 2 ^ (d + zOf k)) ≤ m * 2 ^ more * 2 ^ (d + zOf k) := by rw [← Nat.mul_assoc]; exact y3
  have T4 : 2 * (m * 2 ^ more * 2 ^ (d + zOf k)) = m * 2 ^ d * 2 ^ zOf k * 2 ^ (more + 1) := by rw [T1, Nat.mul_assoc 2]
  generalize n * 2 ^ (d + zOf k) = NN at *
  have b1 : NN ≤ B * NN := Nat.le_mul_of_pos_left _ hB0
  have e1 : 2 * B * YY ≤ 2 * B * (m * 2 ^ d * 2 ^ zOf k * 2 ^ (more + 1)) + 2 * B * NN := by rw [← Nat.mul_add]; exact Nat.mul_le_mul_left _ y1
  have e2 : 2 * B * (m * 2 ^ d * 2 ^ zOf k * 2 ^ (more + 1)) ≤ 2 * B * YY + 2 * B * NN := by rw [← Nat.mul_add]; exact Nat.mul_le_mul_left _ y2
  have b2 : 2 * B * NN = 2 * (B * NN) := Nat.mul_assoc _ _ _
  refine ⟨?_, ?_⟩
  · refine Nat.le_of_mul_le_mul_right (c := 2 ^ (more + 1)) ?_ (Nat.two_pow_pos _)
    simp only [Nat.add_mul]
    rw [Nat.mul_assoc (2 * B), Nat.mul_assoc (2 * B), Nat.mul_assoc 3, Nat.mul_assoc B]
    omega
  · refine Nat.le_of_mul_le_mul_right (c := 2 ^ (more + 1)) ?_ (Nat.two_pow_pos _)
    simp only [Nat.add_mul]
    rw [Nat.mul_assoc (2 * B), Nat.mul_assoc (2 * B), Nat.mul_assoc 3, Nat.mul_assoc B]
    omega
theorem binade32 : FloatKind.f32.format.binade = 8388608 := by decide +kernel
section
variable {x y : Nat}
/-- A sum of single numbers, by a share of itself. -/
theorem add_rel (hx : Fin .f32 x) (hy : Fin .f32 y) (h0 : 0 ≤ sv .f32 x + sv .f32 y) (hf : Fin .f32 (fop .add .f32 x y)) (hp : 0 ≤ sv .f32 (fop .add .f32 x y)) :
    16777216 * sv .f32 (fop .add .f32 x y) ≤ 16777217 * (sv .f32 x + sv .f32 y) + 8388608 ∧ 16777215 * (sv .f32 x + sv .f32 y) ≤ 16777216 * sv .f32 (fop .add .f32 x y) + 8388608 := by
  have h := add_nearN hx hy hf
  rw [binade32, Nat.mul_one] at h
  have := sv_abs .f32 (fop .add .f32 x y)
  omega
theorem sub_rel (hx : Fin .f32 x) (hy : Fin .f32 y) (h0 : 0 ≤ sv .f32 x - sv .f32 y) (hf : Fin .f32 (fop .sub .f32 x y)) (hp : 0 ≤ sv .f32 (fop .sub .f32 x y)) :
    16777216 * sv .f32 (fop .sub .f32 x y) ≤ 16777217 * (sv .f32 x - sv .f32 y) + 8388608 ∧ 16777215 * (sv .f32 x - sv .f32 y) ≤ 16777216 * sv .f32 (fop .sub .f32 x y) + 8388608 := by
  have h := sub_nearN hx hy hf
  rw [binade32, Nat.mul_one] at h
  have := sv_abs .f32 (fop .sub .f32 x y)
  omega
theorem mul_rel (hx : NN .f32 x) (hy : NN .f32 y) (hf : NN .f32 (fop .mul .f32 x y)) :
    16777216 * (sv .f32 (fop .mul .f32 x y) * ((2 ^ zOf .f32 : Nat) : Int)) ≤ 16777217 * (sv .f32 x * sv .f32 y) + 8388608 * ((2 ^ zOf .f32 : Nat) : Int) ∧ 16777215 * (sv .f32 x * sv .f32 y) ≤ 16777216 * (sv .f32 (fop .mul .f32 x y) * ((2 ^ zOf .f32 : Nat) : Int)) + 8388608 * ((2 ^ zOf .f32 : Nat) : Int) := by
  have h := mul_nearN hx.1 hy.1 hf.1
  rw [binade32] at h
  rw [← hx.val, ← hy.val, ← hf.val, ← Int.natCast_mul, ← Int.natCast_mul]
  generalize valR .f32 x * valR .f32 y = A at *
  generalize valR .f32 (fop .mul .f32 x y) * 2 ^ zOf .f32 = C at *
  generalize 2 ^ zOf .f32 = D at *
  omega
end
end Go.Ax
