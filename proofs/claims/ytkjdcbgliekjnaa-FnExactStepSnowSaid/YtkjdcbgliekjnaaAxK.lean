/- Halving a float32: '0.5 * y' is 'y / 2'. -/
import Derived.Test.YtkjdcbgliekjnaaAxI
namespace Go.Ax
open Ieee (Format Datum)

theorem cut_scale (neg : Bool) {n d k : Nat} (hn : 0 < n) : Ieee.Toward.even.cut neg (n * 2 ^ k) (d + k) = Ieee.Toward.even.cut neg n d := by
  have hmin : min (d + k) ((n * 2 ^ k).log2 + 2) = min d (n.log2 + 2) + k := by rw [log2_shift hn]; omega
  have hp : 0 < 2 ^ k := Nat.two_pow_pos k
  simp only [Ieee.Toward.cut, hmin, Nat.shiftLeft_eq, Nat.one_mul, Nat.pow_add]
  generalize 2 ^ min d (n.log2 + 2) = g
  rw [Nat.mul_div_mul_right _ _ hp, Nat.mul_mod_mul_right]
  have h1 : decide (g * 2 ^ k < 2 * (n % g * 2 ^ k)) = decide (g < 2 * (n % g)) := by
    rw [← Nat.mul_assoc]
    exact decide_eq_decide.2 (Nat.mul_lt_mul_right hp)
  have h2 : (g * 2 ^ k == 2 * (n % g * 2 ^ k)) = (g == 2 * (n % g)) := by
    rw [← Nat.mul_assoc, Bool.eq_iff_iff, beq_iff_eq, beq_iff_eq]
    exact ⟨fun h => Nat.eq_of_mul_eq_mul_right hp h, fun h => congrArg (· * 2 ^ k) h⟩
  rw [h1, h2]
/-- The nearest word hangs on the number alone. -/
theorem nearest_scale (f : Format) (neg : Bool) {mag : Nat} (place : Int) (k : Nat) (hm : 0 < mag) : f.nearest neg (mag * 2 ^ k) (place - k) = f.nearest neg mag place := by
  have hp : 0 < 2 ^ k := Nat.two_pow_pos k
  have hm2 : mag * 2 ^ k ≠ 0 := Nat.ne_of_gt (Nat.mul_pos hm hp)
  unfold Format.nearest
  rw [if_neg hm2, if_neg (by omega)]
  have hl : place - (k : Int) + ((mag * 2 ^ k).log2 : Int) - f.fractionBits = place + (mag.log2 : Int) - f.fractionBits := by rw [log2_shift hm]; omega
  simp only [hl]
  generalize max (place + (mag.log2 : Int) - f.fractionBits) f.leastPlace = last
  have : Ieee.Toward.even.cut neg ((mag * 2 ^ k) <<< (place - k - last).toNat) (last - (place - k)).toNat = Ieee.Toward.even.cut neg (mag <<< (place - last).toNat) (last - place).toNat := by
    rw [Nat.shiftLeft_eq, Nat.shiftLeft_eq]
    rcases Int.lt_or_le place last with h | h
    · rw [show (place - k - last).toNat = 0 by omega, show (place - last).toNat = 0 by omega, show (last - (place - k)).toNat = (last - place).toNat + k by omega, Nat.pow_zero, Nat.mul_one, Nat.mul_one]
      exact cut_scale neg hm
    · rcases Int.lt_or_le (place - k) last with h' | h'
      · rw [show (place - k - last).toNat = 0 by omega, show (last - place).toNat = 0 by omega, cut_zero, Nat.pow_zero, Nat.mul_one]
        have e : mag * 2 ^ k = mag * 2 ^ (place - last).toNat * 2 ^ (last - (place - k)).toNat := by rw [Nat.mul_assoc, ← Nat.pow_add]; congr 2; omega
        rw [e]; exact cut_exact neg (Nat.mul_pos hm (Nat.two_pow_pos _))
      · rw [show (last - (place - k)).toNat = 0 by omega, show (last - place).toNat = 0 by omega, cut_zero, cut_zero, Nat.mul_assoc, ← Nat.pow_add]; congr 2; omega
  rw [this]
theorem half_eq (y : Nat) : fop .quo .f32 y (canon .f32 1073741824) = fop .mul .f32 (canon .f32 1056964608) y := by
  have c2 : canon .f32 1073741824 = 1073741824 := by decide +kernel
  have ch : canon .f32 1056964608 = 1056964608 := by decide +kernel
  have r2 : Ieee.single.read 1073741824 = .number false (2 ^ 23) (-22) := by decide +kernel
  have rh : Ieee.single.read 1056964608 = .number false (2 ^ 23) (-24) := by decide +kernel
  rw [c2, ch]
  unfold fop floatBits Format.div Format.mul
  simp only
  show ((((Ieee.single.read y).quotient 25 (Ieee.single.read 1073741824)).map Ieee.single.write).getD _) = ((((Ieee.single.read 1056964608).product (Ieee.single.read y)).map Ieee.single.write).getD _)
  rw [r2, rh]
  have l23 : (2 ^ 23 : Nat).log2 = 23 := by decide +kernel
  rcases rung_cases .f32 y with h | h | h
  · obtain ⟨m, d, h1, h2, h3, h4, h5, h6⟩ := read_fin Ieee.single h
    rw [h1]
    simp only [Datum.quotient, Datum.product]
    rw [if_neg (by decide)]
    generalize Ieee.single.leastPlace + (d : Int) = i
    have e4 : Ieee.single.binade = 8388608 := by decide +kernel
    rw [e4] at h3
    rcases Nat.eq_zero_or_pos m with hz | hz
    · subst hz
      simp only [Nat.zero_shiftLeft, Nat.zero_div, Nat.zero_mod, Nat.mul_zero]
      simp only [Option.map_some, Option.getD_some, Format.write]
      unfold Format.nearest
      rw [if_pos (by decide), if_pos rfl]
      cases negOf Ieee.single y <;> rfl
    · have hml : m.log2 ≤ 23 := log2_le_of (by omega)
      rw [l23]
      generalize hmo : 25 + 23 - m.log2 = more
      have hmore : 25 ≤ more := by omega
      have e : m <<< more = m * 2 ^ (more - 23) * 2 ^ 23 := by rw [Nat.shiftLeft_eq, Nat.mul_assoc, ← Nat.pow_add]; congr 2; omega
      rw [e, Nat.mul_div_cancel _ (Nat.two_pow_pos 23), Nat.mul_mod_left]
      show Ieee.single.nearest (negOf Ieee.single y ^^ false) (2 * (m * 2 ^ (more - 23)) + 0) (i - -22 - more - 1) = Ieee.single.nearest (false ^^ negOf Ieee.single y) (2 ^ 23 * m) (-24 + i)
      have hx : (negOf Ieee.single y ^^ false) = (false ^^ negOf Ieee.single y) := by cases negOf Ieee.single y <;> rfl
      rw [hx]
      have a1 := nearest_scale Ieee.single (false ^^ negOf Ieee.single y) (i - 1) (more - 22) hz
      have a2 := nearest_scale Ieee.single (false ^^ negOf Ieee.single y) (i - 1) 23 hz
      have m1 : 2 * (m * 2 ^ (more - 23)) + 0 = m * 2 ^ (more - 22) := by
        rw [show more - 22 = (more - 23) + 1 by omega, Nat.pow_succ, Nat.add_zero, ← Nat.mul_assoc m, Nat.mul_comm 2]
      have m2 : 2 ^ 23 * m = m * 2 ^ 23 := Nat.mul_comm _ _
      have p1 : i - -22 - (more : Int) - 1 = i - 1 - ((more - 22 : Nat) : Int) := by omega
      have p2 : -24 + i = i - 1 - ((23 : Nat) : Int) := by omega
      rw [m1, m2, p1, p2, a1, a2]
  · have h' : rungOf Ieee.single y = Ieee.single.infRung := h
    rw [read_inf Ieee.single (binade_le .f32) h']
    simp only [Datum.quotient, Datum.product]
    rw [if_neg (by decide)]
  · rw [read_nan Ieee.single (binade_le .f32) h]
    rfl
end Go.Ax
