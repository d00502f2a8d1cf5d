/- The square root of a float32, by way of float64: it fits. -/
import Derived.Test.YtagiajolklbbiaaBxC
namespace Go.Ax
open Ieee (Format Datum)
open Go.RowKit (Below)

theorem cut_bound (f : Format) (neg : Bool) {mag : Nat} {place last : Int} (h : place + mag.log2 - f.fractionBits ≤ last) :
    Ieee.Toward.even.cut neg (mag <<< (place - last).toNat) (last - place).toNat ≤ 2 * f.binade := by
  have hlt : mag < 2 ^ (mag.log2 + 1) := Nat.lt_log2_self
  have hB : 2 * f.binade = 2 ^ (f.fractionBits + 1) := by rw [Nat.pow_succ]; show 2 * 2 ^ f.fractionBits = _; rw [Nat.mul_comm]
  rw [hB]
  refine Nat.le_trans (cut_le _ _ _) ?_
  rw [Nat.shiftLeft_eq]
  by_cases hp : last ≤ place
  · have h0 : (last - place).toNat = 0 := by omega
    rw [h0, Nat.zero_min, Nat.pow_zero, Nat.div_one]
    have h1 : mag * 2 ^ (place - last).toNat < 2 ^ (mag.log2 + 1) * 2 ^ (place - last).toNat := Nat.mul_lt_mul_of_pos_right hlt (Nat.two_pow_pos _)
    rw [← Nat.pow_add] at h1
    have h2 : 2 ^ (mag.log2 + 1 + (place - last).toNat) ≤ 2 ^ (f.fractionBits + 1) := Nat.pow_le_pow_right (by decide) (by omega)
    exact Nat.le_trans (Nat.succ_le_of_lt h1) h2
  · have h0 : (place - last).toNat = 0 := by omega
    rw [h0, Nat.pow_zero, Nat.mul_one]
    have hd : mag / 2 ^ (min (last - place).toNat (mag.log2 + 2)) < 2 ^ (f.fractionBits + 1) := by
      rw [Nat.div_lt_iff_lt_mul (Nat.two_pow_pos _), ← Nat.pow_add]
      exact Nat.lt_of_lt_of_le hlt (Nat.pow_le_pow_right (by decide) (by omega))
    exact Nat.succ_le_of_lt hd
theorem nearest_word (f : Format) (neg : Bool) {mag : Nat} {place : Int} {D : Nat} (h : place + mag.log2 - f.fractionBits ≤ f.leastPlace + D) :
    ∃ r, f.nearest neg mag place = f.word neg r ∧ r ≤ f.infRung ∧ r ≤ D * f.binade + 2 * f.binade := by
  unfold Format.nearest
  split
  · exact ⟨0, rfl, Nat.zero_le _, Nat.zero_le _⟩
  · refine ⟨_, rfl, Nat.min_le_right _ _, Nat.le_trans (Nat.min_le_left _ _) (Nat.add_le_add (Nat.mul_le_mul_right _ ?_) (cut_bound f neg ?_))⟩
    · omega
    · exact Int.le_max_left _ _
theorem small32 (neg : Bool) {mag : Nat} {place : Int} (h : place + mag.log2 ≤ 120) : (Ieee.single.read (Ieee.single.nearest neg mag place)).isInfinity = false := by
  have e1 : Ieee.single.leastPlace = -149 := by decide +kernel
  have e2 : Ieee.single.fractionBits = 23 := rfl
  obtain ⟨r, h1, h2, h3⟩ := nearest_word Ieee.single neg (mag := mag) (place := place) (D := 246) (by rw [e1, e2]; omega)
  have e3 : Ieee.single.binade = 8388608 := by decide +kernel
  have e4 : Ieee.single.infRung = 2139095040 := by decide +kernel
  have hw : Ieee.single.infRung < Ieee.single.signWeight := Ieee.single.infRung_lt
  rw [e3] at h3
  obtain ⟨m, d, g1, _⟩ := read_fin Ieee.single (x := Ieee.single.word neg r) (by rw [rungOf_word _ _ (by omega)]; omega)
  rw [h1, g1]; rfl
/-- A double whose leading digit lies low fits a single. -/
theorem tooBig_of {neg : Bool} {mag : Nat} {place : Int} (h : place + mag.log2 ≤ 66) : tooBig (Ieee.double.nearest neg mag place) = false := by
  have e1 : Ieee.double.leastPlace = -1074 := by decide +kernel
  have e2 : Ieee.double.fractionBits = 52 := rfl
  obtain ⟨r, h1, h2, h3⟩ := nearest_word Ieee.double neg (mag := mag) (place := place) (D := 1088) (by rw [e1, e2]; omega)
  have e3 : Ieee.double.binade = 4503599627370496 := by decide +kernel
  have e4 : Ieee.double.infRung = 9218868437227405312 := by decide +kernel
  have hw : Ieee.double.infRung < Ieee.double.signWeight := Ieee.double.infRung_lt
  rw [e3] at h3
  obtain ⟨m, d, g1, g2, g3, g4, g5, _⟩ := read_fin Ieee.double (x := Ieee.double.word neg r) (by rw [rungOf_word _ _ (by omega)]; omega)
  rw [rungOf_word _ _ (by omega), e3] at g5
  rw [e3] at g3
  unfold tooBig
  rw [h1, g1]
  have hm : m.log2 ≤ 52 := by
    rcases Nat.eq_zero_or_pos m with hz | hz
    · rw [hz]; decide
    · have := (Nat.log2_eq_iff (n := m) (by omega) (k := m.log2)).1 rfl
      have h7 : 2 ^ m.log2 < 2 ^ 53 := Nat.lt_of_le_of_lt this.1 (by omega)
      have := (Nat.pow_lt_pow_iff_right (a := 2) (by omega)).1 h7
      omega
  exact small32 _ (by rw [e1]; omega)
theorem rootFrom_sq (n : Nat) : ∀ (todo root : Nat), root * root ≤ n → Ieee.Datum.rootFrom n todo root * Ieee.Datum.rootFrom n todo root ≤ n
  | 0, root, h => h
  | todo + 1, root, h => by
    unfold Ieee.Datum.rootFrom
    dsimp only
    split
    · rename_i h'; exact rootFrom_sq n todo _ h'
    · exact rootFrom_sq n todo _ h
theorem log2_le_of {a k : Nat} (h : a < 2 ^ (k + 1)) : a.log2 ≤ k := by
  rcases Nat.eq_zero_or_pos a with hz | hz
  · rw [hz]; simp
  · have := (Nat.log2_eq_iff (n := a) (by omega) (k := a.log2)).1 rfl
    have := (Nat.pow_lt_pow_iff_right (a := 2) (by omega)).1 (Nat.lt_of_le_of_lt this.1 h)
    omega
theorem root_small {n w : Nat} {L : Nat} (hn : n < 2 ^ (L + 1)) (hw : w * w ≤ n) : w.log2 ≤ L / 2 := by
  rcases Nat.eq_zero_or_pos w with hz | hz
  · rw [hz]; simp
  · have h1 := (Nat.log2_eq_iff (n := w) (by omega) (k := w.log2)).1 rfl
    have h2 : 2 ^ (w.log2 + w.log2) ≤ w * w := by rw [Nat.pow_add]; exact Nat.mul_le_mul h1.1 h1.1
    have h3 := (Nat.pow_lt_pow_iff_right (a := 2) (by omega)).1 (Nat.lt_of_le_of_lt (Nat.le_trans h2 hw) hn)
    omega

theorem lt_shift {m d A D c : Nat} (hm : m < 2 ^ A) (hd : d ≤ D) : m * 2 ^ d * 2 ^ c < 2 ^ (A + D + c) := by
  refine Nat.lt_of_lt_of_le (Nat.mul_lt_mul_of_pos_right (Nat.lt_of_lt_of_le (Nat.mul_lt_mul_of_pos_right hm (Nat.two_pow_pos d)) (Nat.mul_le_mul_left (2 ^ A) (Nat.pow_le_pow_right (by decide) hd))) (Nat.two_pow_pos c)) ?_
  rw [Nat.pow_add, Nat.pow_add]; exact Nat.le_refl _
def fsqrt (x : Nat) : Nat := (Ieee.double.sqrt x).getD (qnan .f64)
theorem root_bound {m : Nat} {i : Int} (hm : m ≠ 0) (h : i + m.log2 ≤ 130) {d : Datum} (hd : (Datum.number false m i).root 54 = some d) : ∃ M E, d = .number false M E ∧ E + M.log2 ≤ 66 := by
  unfold Datum.root at hd
  simp only at hd
  rw [if_neg hm] at hd
  simp only [Bool.false_eq_true, if_false, Option.some.injEq] at hd
  generalize hmore : 2 * 54 - m.log2 + ((i - ((2 * 54 - m.log2 : Nat) : Int)) % 2).toNat = more at hd
  have hsh : m <<< more = m * 2 ^ more := Nat.shiftLeft_eq _ _
  have hnL : (m <<< more) < 2 ^ (m.log2 + more + 1) := by
    rw [hsh, show m.log2 + more + 1 = (m.log2 + 1) + more by omega, Nat.pow_add]
    exact Nat.mul_lt_mul_of_pos_right Nat.lt_log2_self (Nat.two_pow_pos _)
  generalize hw : Datum.rootFrom (m <<< more) ((m <<< more).log2 / 2 + 1) 0 = w at hd
  have hsq : w * w ≤ m <<< more := by rw [← hw]; exact rootFrom_sq _ _ 0 (Nat.zero_le _)
  have hwl := root_small hnL hsq
  refine ⟨_, _, hd.symm, ?_⟩
  have hM : (2 * w + (w * w != m <<< more).toNat).log2 ≤ w.log2 + 1 := by
    refine log2_le_of ?_
    have h1 : w < 2 ^ (w.log2 + 1) := Nat.lt_log2_self
    have h2 : (w * w != m <<< more).toNat ≤ 1 := by cases (w * w != m <<< more) <;> decide
    rw [show w.log2 + 1 + 1 = 1 + (w.log2 + 1) by omega, Nat.pow_add]
    omega
  have : ((w * w != m <<< more)) = !decide (w * w = m <<< more) := by
    cases h : decide (w * w = m <<< more) <;> simp at h <;> simp [h]
  omega
theorem sqrt_fits (x : Nat) : tooBig (fsqrt (fwiden x)) = false := by
  unfold fsqrt Format.sqrt
  have hq : tooBig (qnan .f64) = false := by decide +kernel
  have hI : ∀ s, (Ieee.double.read (Ieee.double.word s Ieee.double.infRung)) = .infinity s := fun s => by
    have hw : Ieee.double.infRung < Ieee.double.signWeight := Ieee.double.infRung_lt
    have := read_inf Ieee.double (binade_le .f64) (x := Ieee.double.word s Ieee.double.infRung) (rungOf_word _ _ hw)
    rw [this, negOf_word _ _ hw]
  rcases rung_cases .f32 x with h | h | h
  · obtain ⟨r, h1, h2, h3⟩ := fwiden_fin h
    have hw : Ieee.double.infRung < Ieee.double.signWeight := Ieee.double.infRung_lt
    obtain ⟨m, d, g1, g2, g3, g4, g5, g6⟩ := read_fin Ieee.double (x := Ieee.double.word (negOf Ieee.single x) r) (by rw [rungOf_word _ _ (by omega)]; exact h2)
    rw [rungOf_word _ _ (by omega), h3] at g2
    rw [negOf_word _ _ (by omega)] at g1
    rw [h1, g1]
    have e2 : Ieee.double.leastPlace = -1074 := by decide +kernel
    rcases Nat.eq_zero_or_pos m with hz | hz
    · rw [hz]
      show tooBig (Ieee.double.write (.number (negOf Ieee.single x) 0 (Ieee.double.leastPlace + d))) = false
      have : Ieee.double.write (.number (negOf Ieee.single x) 0 (Ieee.double.leastPlace + d)) = Ieee.double.word (negOf Ieee.single x) 0 := by
        show Ieee.double.nearest _ 0 _ = _
        unfold Format.nearest; rw [if_pos rfl]
      rw [this]
      cases negOf Ieee.single x <;> decide +kernel
    · cases hs : negOf Ieee.single x with
      | true =>
        have : (Datum.number true m (Ieee.double.leastPlace + d)).root (Ieee.double.fractionBits + 2) = none := by
          unfold Datum.root; simp only; rw [if_neg (by omega)]; rfl
        rw [this]; exact hq
      | false =>
        obtain ⟨m3, d3, k1, k2, k3, k4, k5, k6⟩ := read_fin Ieee.single h
        have e3 : Ieee.single.exponentBits = 8 := rfl
        have e4 : Ieee.single.binade = 8388608 := by decide +kernel
        rw [e3] at k6; rw [e4] at k3
        have hlog : m.log2 + d ≤ 23 + 255 + gap := by
          rw [← log2_shift hz, g2]
          refine log2_le_of ?_
          show rungV Ieee.single.binade (rungOf Ieee.single x) * _ < _
          rw [← k2, show 23 + 255 + gap + 1 = 24 + 255 + gap by omega]
          exact lt_shift (by omega) (by omega)
        have hg : gap = 925 := rfl
        cases hr : (Datum.number false m (Ieee.double.leastPlace + d)).root (Ieee.double.fractionBits + 2) with
        | none => exact hq
        | some dd =>
          obtain ⟨M, E, rfl, hME⟩ := root_bound (by omega) (by rw [e2]; omega) hr
          exact tooBig_of hME
  · rw [fwiden_inf h, hI]
    cases negOf Ieee.single x
    · show tooBig (Ieee.double.word false Ieee.double.infRung) = false
      unfold tooBig; rw [hI]
    · exact hq
  · have h' := isNaN_iff.2 h
    rw [fwiden_nan h']
    decide +kernel
theorem sqrt_canon {b x : Nat} (h : Fl .f64 b x) : Ieee.double.sqrt b = Ieee.double.sqrt x := by
  cases hn : isNaN .f64 b with
  | false => rw [h.eq hn]
  | true =>
    obtain ⟨s, t, e⟩ := read_of_nan hn
    obtain ⟨s', t', e'⟩ := read_of_nan (h.nan.trans hn)
    have e1 : Ieee.double.read b = .nan s t := e
    have e2 : Ieee.double.read x = .nan s' t' := e'
    unfold Format.sqrt
    rw [e1, e2]; rfl

end Go.Ax
