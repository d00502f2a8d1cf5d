/- More of the floats: results are canonical; the magnitude, two ways. -/
import Derived.Test.YtagiajolklbbiaaBxH
namespace Go.Ax
open Ieee (Format Datum)

theorem fop_fl (op : BinOp) (k : FloatKind) (x y : Nat) : Fl k (fop op k x y) (fop op k x y) := by
  unfold fop
  cases h : floatBits op k x y with
  | none => exact ⟨qnan_lt k, by show (if isNaN k (qnan k) = true then qnan k else qnan k) = qnan k; rw [if_pos (isNaN_qnan k)]⟩
  | some r => exact ⟨floatBits_lt h, by unfold canon; rw [if_neg (by show ¬ isNaN k r = true; rw [floatBits_notNaN h]; simp)]⟩
theorem leq_num {k : FloatKind} {a b : Nat} (ha : isNaN k a = false) (hb : isNaN k b = false) : fcmp .leq k a b = decide (pos k a ≤ pos k b) := by
  unfold fcmp
  rw [order_num ha hb]
  simp only [compare, compareOfLessAndEq]
  by_cases h : pos k a < pos k b
  · rw [if_pos h, decide_eq_true (by omega)]; rfl
  · rw [if_neg h]
    by_cases h' : pos k a = pos k b
    · rw [if_pos h', decide_eq_true (by omega)]; rfl
    · rw [if_neg h', decide_eq_false (by omega)]; rfl
def fabs32 (x : Nat) : Nat := fnarrow (fabs64 (fwiden x))
theorem fabs32_eq (x : Nat) : tooBig (fabs64 (fwiden x)) = false ∧ fabs32 x = if isNaN .f32 x = true then qnan .f32 else rungOf Ieee.single x := by
  unfold fabs32
  rcases rung_cases .f32 x with h | h | h
  · obtain ⟨r, h1, h2, h3⟩ := fwiden_fin h
    obtain ⟨g1, g2⟩ := rung_small (r := r) (by omega)
    obtain ⟨k1, k2⟩ := fnarrow_fin (y := r) (q := rungOf Ieee.single x) (by rw [g1]; exact h2) h (by rw [g1]; exact h3)
    rw [h1, fabs64_word _ (by omega), nan_false (k := .f32) (by omega)]
    refine ⟨k2, ?_⟩
    rw [k1, g2]; rfl
  · rw [fwiden_inf h, fabs64_word _ (Nat.le_refl _), nan_false (k := .f32) (by omega)]
    have h' : rungOf Ieee.single x = Ieee.single.infRung := h
    rw [h']
    exact ⟨by decide +kernel, by decide +kernel⟩
  · have h' := isNaN_iff.2 h
    rw [fwiden_nan h', h', if_pos rfl]
    exact ⟨by decide +kernel, by decide +kernel⟩
theorem pos_zero32 : pos .f32 0 = 0 := by decide +kernel
theorem absV {p : Nat} (hp : Fl .f32 p p) : fabs32 p = bif fcmp .leq .f32 p (canon .f32 0) then fop .sub .f32 (canon .f32 0) p else p := by
  rw [(fabs32_eq p).2, canon0_32]
  have h0 : isNaN .f32 0 = false := by decide +kernel
  cases hn : isNaN .f32 p with
  | true =>
    have : fcmp .leq .f32 p 0 = false := by unfold fcmp; rw [order_nan (.inl hn)]; rfl
    rw [this, if_pos rfl]
    exact (hp.nan_eq hn).symm
  | false =>
    rw [if_neg (by simp), leq_num hn h0, pos_zero32]
    have hw : Ieee.single.infRung < Ieee.single.signWeight := Ieee.single.infRung_lt
    have hword := word_of Ieee.single (x := p) hp.1
    by_cases hle : pos .f32 p ≤ 0
    · rw [decide_eq_true hle]
      show rungOf Ieee.single p = fop .sub .f32 0 p
      unfold pos sg at hle
      have hle' : negOf Ieee.single p = true ∨ rungOf Ieee.single p = 0 := by
        change (if negOf Ieee.single p = true then -(rungOf Ieee.single p : Int) else (rungOf Ieee.single p : Int)) ≤ 0 at hle
        cases hc : negOf Ieee.single p with
        | true => exact .inl rfl
        | false => rw [hc] at hle; simp at hle; exact .inr hle
      have e0 : Ieee.single.read 0 = .number false 0 Ieee.single.leastPlace := by decide +kernel
      rcases rung_cases .f32 p with h | h | h
      · obtain ⟨m, d, h1, h2, h3, h4, h5, h6⟩ := read_fin Ieee.single h
        have : fop .sub .f32 0 p = Ieee.single.word false (rungOf Ieee.single p) := by
          unfold fop floatBits Format.sub
          simp only
          show ((((Ieee.single.read 0).sum (Ieee.single.read p).opposite).map Ieee.single.write).getD _) = _
          rw [e0, h1]
          simp only [Datum.opposite, Datum.sum]
          have e1 : min Ieee.single.leastPlace (Ieee.single.leastPlace + d) = Ieee.single.leastPlace := by omega
          have e2 : (Ieee.single.leastPlace + (d : Int) - Ieee.single.leastPlace).toNat = d := by omega
          rw [e1, e2, signed_eq, signed_eq, Nat.zero_mul, h2]
          have e3 : sg false 0 = 0 := rfl
          rw [e3, Int.zero_add]
          rcases Nat.eq_zero_or_pos (rungOf Ieee.single p) with hz | hz
          · rw [hz, rungV_zero (binade_pos _)]
            have e4 : sg (!negOf Ieee.single p) 0 = 0 := by cases negOf Ieee.single p <;> rfl
            rw [e4]
            simp only [if_true]
            show Ieee.single.write (.number (false && _) 0 _) = _
            rw [Bool.false_and]
            show Ieee.single.nearest false 0 _ = _
            unfold Format.nearest; rw [if_pos rfl]
          · have hneg : negOf Ieee.single p = true := by
              rcases hle' with h' | h'
              · exact h'
              · omega
            rw [hneg]
            have hV : 0 < rungV Ieee.single.binade (rungOf Ieee.single p) := by
              have := rungV_mono (binade_pos Ieee.single) hz
              rw [rungV_zero (binade_pos _)] at this; exact this
            have e4 : sg (!true) (rungV Ieee.single.binade (rungOf Ieee.single p)) = (rungV Ieee.single.binade (rungOf Ieee.single p) : Int) := rfl
            rw [e4, if_neg (by omega), decide_eq_false (by omega), Int.natAbs_natCast]
            show Ieee.single.nearest false _ _ = _
            rw [← h5]
            refine nearest_exact Ieee.single false (c := 0) h3 h4 (by rw [h5]; exact h) ?_ (by omega)
            have e5 : (Ieee.single.leastPlace - Ieee.single.leastPlace + ((0 : Nat) : Int)).toNat = 0 := by omega
            rw [e5, Nat.pow_zero, Nat.mul_one, Nat.add_zero, h5]; exact h2.symm
        rw [this]; rfl
      · have h' : rungOf Ieee.single p = Ieee.single.infRung := h
        have hneg : negOf Ieee.single p = true := by
          rcases hle' with h'' | h''
          · exact h''
          · rw [h'] at h''; exact absurd h'' (by decide +kernel)
        have : fop .sub .f32 0 p = Ieee.single.word false Ieee.single.infRung := by
          unfold fop floatBits Format.sub
          simp only
          show ((((Ieee.single.read 0).sum (Ieee.single.read p).opposite).map Ieee.single.write).getD _) = _
          rw [e0, read_inf Ieee.single (binade_le .f32) h', hneg]; rfl
        rw [this, h']; rfl
      · rw [isNaN_iff.2 h] at hn; cases hn
    · rw [decide_eq_false hle]
      show rungOf Ieee.single p = p
      have hneg : negOf Ieee.single p = false := by
        cases hc : negOf Ieee.single p with
        | false => rfl
        | true =>
          exfalso; apply hle
          unfold pos sg
          change (if negOf Ieee.single p = true then -(rungOf Ieee.single p : Int) else _) ≤ 0
          rw [hc]; simp
      rw [hneg] at hword
      exact hword
end Go.Ax
