/- The floats of the model: order, sign, absolute value; from 32 bits to 64 and back. -/
import Derived.Test.YtagiajolklbbiaaBxF
namespace Go.Ax

/-! ### Floats -/
theorem isNaN_rung (k : FloatKind) (b : Nat) : isNaN k b = decide (k.format.infRung < b % k.format.signWeight) := by
  unfold isNaN Ieee.Format.read
  have h1 : k.format.binade ≤ k.format.infRung := by cases k <;> decide +kernel
  dsimp only
  generalize b % k.format.signWeight = r
  by_cases h2 : r < k.format.binade
  · rw [if_pos h2]; simp [Ieee.Datum.isNaN]; omega
  · rw [if_neg h2]
    by_cases h3 : r < k.format.infRung
    · rw [if_pos h3]; simp [Ieee.Datum.isNaN]; omega
    · rw [if_neg h3]
      by_cases h4 : r = k.format.infRung
      · rw [if_pos h4]; simp [Ieee.Datum.isNaN]; omega
      · rw [if_neg h4]; simp [Ieee.Datum.isNaN]; omega
def signBit : FloatKind → Nat
  | .f32 => 2 ^ 31
  | .f64 => 2 ^ 63
theorem signWeight_eq (k : FloatKind) : k.format.signWeight = signBit k := by cases k <;> decide +kernel
theorem width_eq (k : FloatKind) : 2 ^ k.format.width = 2 * signBit k := by cases k <;> decide +kernel
/-- '-x'. -/
def fneg (k : FloatKind) (x : Nat) : Nat := if isNaN k x then qnan k else Op.negFloat k x
theorem negFloat_mod (k : FloatKind) (b : Nat) : Op.negFloat k b % k.format.signWeight = b % k.format.signWeight := by
  have e : ∃ n, k.format.signWeight = 2 ^ n ∧ Op.negFloat k b = b ^^^ 2 ^ n := by
    cases k
    · exact ⟨31, by decide +kernel, rfl⟩
    · exact ⟨63, by decide +kernel, rfl⟩
  obtain ⟨n, e1, e2⟩ := e
  rw [e1, e2, Nat.xor_mod_two_pow, Nat.mod_self, Nat.xor_zero]
theorem negFloat_lt (k : FloatKind) {b : Nat} (h : b < 2 ^ k.format.width) : Op.negFloat k b < 2 ^ k.format.width := by
  cases k
  · exact Nat.xor_lt_two_pow (n := 32) h (by decide +kernel)
  · exact Nat.xor_lt_two_pow (n := 64) h (by decide +kernel)
theorem fneg_sound {k : FloatKind} {b x : Nat} (h : Fl k b x) : Fl k (Op.negFloat k b) (fneg k x) := by
  refine ⟨negFloat_lt k h.1, ?_⟩
  have hn : isNaN k (Op.negFloat k b) = isNaN k b := by rw [isNaN_rung, isNaN_rung, negFloat_mod]
  unfold canon fneg
  rw [hn, h.nan]
  cases hb : isNaN k b with
  | true => rfl
  | false => have e := h.eq hb; subst e; rfl
/-- The absolute value, by the bits. -/
def fabs64 (x : Nat) : Nat := if isNaN .f64 x then qnan .f64 else x % 2 ^ 63
theorem andNot_sign {b : Nat} (h : b < 2 ^ 64) : (BitVec.ofInt 64 (b : Int) &&& ~~~ BitVec.ofInt 64 9223372036854775808).toNat = b % 2 ^ 63 := by
  have e1 : BitVec.ofInt 64 (b : Int) = BitVec.ofNat 64 b := by simp
  have e2 : (~~~ BitVec.ofInt 64 9223372036854775808) = BitVec.ofNat 64 (2 ^ 63 - 1) := by decide +kernel
  rw [e1, e2, BitVec.toNat_and, BitVec.toNat_ofNat, BitVec.toNat_ofNat, Nat.mod_eq_of_lt h]
  rw [Nat.mod_eq_of_lt (show 2 ^ 63 - 1 < 2 ^ 64 by decide)]
  exact Nat.and_two_pow_sub_one_eq_mod b 63
theorem fabs64_sound {b x : Nat} (h : Fl .f64 b x) : Fl .f64 (b % 2 ^ 63) (fabs64 x) := by
  have hw : b < 2 ^ 64 := h.1
  refine ⟨show _ < 2 ^ 64 by omega, ?_⟩
  have hn : isNaN .f64 (b % 2 ^ 63) = isNaN .f64 b := by
    rw [isNaN_rung, isNaN_rung, signWeight_eq]
    show decide (_ < b % 2 ^ 63 % 2 ^ 63) = decide (_ < b % 2 ^ 63)
    rw [Nat.mod_mod]
  unfold canon fabs64
  rw [hn, h.nan]
  cases hb : isNaN .f64 b with
  | true => rfl
  | false => have e := h.eq hb; subst e; rfl
def fcmp (op : BinOp) (k : FloatKind) (x y : Nat) : Bool :=
  match op with
  | .eql => k.format.order x y == some .eq
  | .neq => k.format.order x y != some .eq
  | .lss => k.format.order x y == some .lt
  | .leq => k.format.order x y == some .lt || k.format.order x y == some .eq
  | .gtr => k.format.order x y == some .gt
  | .geq => k.format.order x y == some .gt || k.format.order x y == some .eq
  | _ => false
def isCmp : BinOp → Bool
  | .eql | .neq | .lss | .leq | .gtr | .geq => true
  | _ => false
def isArith : BinOp → Bool
  | .add | .sub | .mul | .quo => true
  | _ => false


section
variable {P : Program} {w : World}
theorem run_fcmp {op : BinOp} (hop : isCmp op = true) (t : TypeId) {k : FloatKind} {a b x y : Nat} (ha : Fl k a x) (hb : Fl k b y) :
    (binOp op t (.float k a) (.float k b)).run P w = .ok (.bool (fcmp op k x y)) w := by
  have := order_canon ha hb
  cases op <;> simp [isCmp] at hop <;> simp [binOp, Op.floatCmp, fcmp, this]

theorem run_carith' {op : BinOp} (hop : op = .add ∨ op = .sub ∨ op = .mul ∨ op = .quo) {k : FloatKind} {a b x y : Nat} (ha : Fl k a x) (hb : Fl k b y) :
    ∃ r d, (Op.Complex.arith op k a b).run P w = .ok r { w with drawn := d } ∧ Fl k r (fop op k x y) := by
  obtain ⟨r, d, h1, h2⟩ := run_fop (P := P) w hop 0 ha hb
  refine ⟨r, d, ?_, h2⟩
  have h3 : (Op.floatArith op k a b).run P w = .ok (.float k r) { w with drawn := d } := by
    rcases hop with rfl | rfl | rfl | rfl <;> simpa [binOp] using h1
  simp [Op.Complex.arith, h3]

end

/-! ### From a number of 32 bits to one of 64, and back -/
theorem cut_le (neg : Bool) (n drop : Nat) : Ieee.Toward.even.cut neg n drop ≤ n / 2 ^ (min drop (n.log2 + 2)) + 1 := by
  unfold Ieee.Toward.cut
  dsimp only
  rw [Nat.one_shiftLeft]
  have : ∀ b : Bool, b.toNat ≤ 1 := by decide
  exact Nat.add_le_add_left (this _) _
/-- A number whose leading digit lies far below the greatest exponent is not rounded to infinity. -/
theorem nearest_finite64 (neg : Bool) (mag : Nat) (place : Int) (h : place + mag.log2 ≤ 1000) : (Ieee.double.read (Ieee.double.nearest neg mag place)).isInfinity = false := by
  have e1 : Ieee.double.signWeight = 9223372036854775808 := by decide +kernel
  have e2 : Ieee.double.binade = 4503599627370496 := by decide +kernel
  have e3 : Ieee.double.infRung = 9218868437227405312 := by decide +kernel
  have e4 : Ieee.double.leastPlace = -1074 := by decide +kernel
  have e5 : Ieee.double.fractionBits = 52 := rfl
  have key : ∀ rung : Nat, rung < Ieee.double.infRung → (Ieee.double.read (Ieee.double.word neg rung)).isInfinity = false := by
    intro rung hr
    have hm : Ieee.double.word neg rung % Ieee.double.signWeight = rung := by
      unfold Ieee.Format.word
      rw [e3] at hr
      split
      · rw [Nat.add_mod_left, e1]; exact Nat.mod_eq_of_lt (by omega)
      · rw [e1]; exact Nat.mod_eq_of_lt (by omega)
    unfold Ieee.Format.read
    simp only [hm]
    split
    · rfl
    · first | rfl | (rw [if_pos hr]; rfl)
  unfold Ieee.Format.nearest
  dsimp only
  split
  · exact key 0 (by rw [e3]; decide)
  · rename_i hmag
    refine key _ ?_
    rw [e2, e3, e4, e5]
    generalize hlast : max (place + (mag.log2 : Int) - (52 : Nat)) (-1074) = last
    have hl1 : last ≤ 948 := by omega
    have hl2 : -1074 ≤ last := by omega
    have hl3 : place + (mag.log2 : Int) - 52 ≤ last := by omega
    have hlt : mag < 2 ^ (mag.log2 + 1) := Nat.lt_log2_self
    have hkept : Ieee.Toward.even.cut neg (mag <<< (place - last).toNat) (last - place).toNat ≤ 9007199254740992 := by
      refine Nat.le_trans (cut_le _ _ _) ?_
      rw [Nat.shiftLeft_eq]
      by_cases hp : last ≤ place
      · have h0 : (last - place).toNat = 0 := by omega
        rw [h0, Nat.zero_min, Nat.pow_zero, Nat.div_one]
        have h1 : mag * 2 ^ (place - last).toNat < 2 ^ (mag.log2 + 1) * 2 ^ (place - last).toNat := Nat.mul_lt_mul_of_pos_right hlt (Nat.two_pow_pos _)
        rw [← Nat.pow_add] at h1
        have h2 : 2 ^ (mag.log2 + 1 + (place - last).toNat) ≤ 2 ^ 53 := Nat.pow_le_pow_right (by decide) (by omega)
        have h3 : (2 : Nat) ^ 53 = 9007199254740992 := by decide
        rw [h3] at h2
        exact Nat.le_trans (Nat.succ_le_of_lt h1) h2
      · have h0 : (place - last).toNat = 0 := by omega
        rw [h0, Nat.pow_zero, Nat.mul_one]
        have hd : mag / 2 ^ (min (last - place).toNat (mag.log2 + 2)) < 2 ^ 53 := by
          rw [Nat.div_lt_iff_lt_mul (Nat.two_pow_pos _), ← Nat.pow_add]
          exact Nat.lt_of_lt_of_le hlt (Nat.pow_le_pow_right (by decide) (by omega))
        exact Nat.succ_le_of_lt hd
    have h1 : (last - -1074).toNat ≤ 2022 := by omega
    generalize Ieee.Toward.even.cut neg (mag <<< (place - last).toNat) (last - place).toNat = kept at hkept ⊢
    generalize (last - -1074).toNat = r at h1 ⊢
    clear hl1 hl2 hl3 hlt key hlast
    omega
/-- 'float64(x)' of a float32. -/
def fwiden (x : Nat) : Nat := if isNaN .f32 x then qnan .f64 else Ieee.double.write (Ieee.single.read x)
/-- 'float32(x)' of a float64, where it is not too great. -/
def fnarrow (x : Nat) : Nat := if isNaN .f64 x then qnan .f32 else Ieee.single.write (Ieee.double.read x)
/-- Whether it is too great. -/
def tooBig (x : Nat) : Bool :=
  match Ieee.double.read x with
  | .number s m e => (Ieee.single.read (Ieee.single.write (.number s m e))).isInfinity
  | _ => false

theorem fl_write {k : FloatKind} {d : Ieee.Datum} (h : d.isNaN = false) : Fl k (k.format.write d) (k.format.write d) :=
  ⟨k.format.write_lt d, by unfold canon isNaN; rw [write_notNaN _ h]; rfl⟩


section
variable {P : Program} {w : World}
theorem fl_nanConv (k : FloatKind) (b : Nat) (t : Nat) : Fl k ((Question.nanConv k b).cut t) (qnan k) := by
  cases k
  · exact nan32 t
  · exact nan64 t
theorem run_widen {b x : Nat} (h : Fl .f32 b x) : ∃ r d, (Conv.floatToFloat .f32 b .f64).run P w = .ok (.float .f64 r) { w with drawn := d } ∧ Fl .f64 r (fwiden x) := by
  cases hn : isNaN .f32 b with
  | true =>
    obtain ⟨s, f, hr⟩ := read_of_nan hn
    refine ⟨(Question.nanConv .f64 b).cut (w.tape w.drawn (.nanConv .f64 b)), w.drawn + 1, ?_, ?_⟩
    · simp only [Conv.floatToFloat, FloatKind.decode, hr]; simp [Question.forced]
    · have hx : isNaN .f32 x = true := by rw [h.nan, hn]
      unfold fwiden; rw [hx]; exact fl_nanConv .f64 b _
  | false =>
    have hx := h.eq hn
    subst hx
    have hlt : b < 2 ^ 32 := h.1
    unfold fwiden
    rw [hn]
    have hnn : (Ieee.single.read b).isNaN = false := hn
    refine ⟨Ieee.double.write (Ieee.single.read b), w.drawn, ?_, fl_write (k := .f64) hnn⟩
    show (Conv.floatToFloat .f32 b .f64).run P w = _
    simp only [Conv.floatToFloat, FloatKind.decode, FloatKind.encode, FloatKind.format]
    cases hr : Ieee.single.read b with
    | nan s f => rw [hr] at hnn; simp [Ieee.Datum.isNaN] at hnn
    | infinity s => simp
    | number s mg e =>
      have hb : e + mg.log2 ≤ 1000 := by
        have e1 : Ieee.single.signWeight = 2147483648 := by decide +kernel
        have e2 : Ieee.single.binade = 8388608 := by decide +kernel
        have e3 : Ieee.single.infRung = 2139095040 := by decide +kernel
        have e4 : Ieee.single.leastPlace = -149 := by decide +kernel
        unfold Ieee.Format.read at hr
        dsimp only at hr
        rw [e1, e2, e3, e4] at hr
        have hlog : ∀ x : Nat, x < 2 ^ 24 → x.log2 ≤ 24 := fun x hx => by
          by_cases h0 : x = 0
          · subst h0; decide
          · have := (Nat.log2_lt h0).2 hx; omega
        split at hr
        · cases hr
          have := hlog (b % 2147483648) (by omega)
          omega
        · split at hr
          · cases hr
            have := hlog (8388608 + b % 2147483648 % 8388608) (by omega)
            omega
          · split at hr <;> cases hr
      have hf := nearest_finite64 s mg e hb
      simp only [Ieee.Format.write, hf]
      simp
theorem run_narrow {b x : Nat} (h : Fl .f64 b x) (hbig : tooBig x = false) : ∃ r d, (Conv.floatToFloat .f64 b .f32).run P w = .ok (.float .f32 r) { w with drawn := d } ∧ Fl .f32 r (fnarrow x) := by
  cases hn : isNaN .f64 b with
  | true =>
    obtain ⟨s, f, hr⟩ := read_of_nan hn
    refine ⟨(Question.nanConv .f32 b).cut (w.tape w.drawn (.nanConv .f32 b)), w.drawn + 1, ?_, ?_⟩
    · simp only [Conv.floatToFloat, FloatKind.decode, hr]; simp [Question.forced]
    · have hx : isNaN .f64 x = true := by rw [h.nan, hn]
      unfold fnarrow; rw [hx]; exact fl_nanConv .f32 b _
  | false =>
    have hx := h.eq hn
    subst hx
    unfold fnarrow
    rw [hn]
    have hnn : (Ieee.double.read b).isNaN = false := hn
    refine ⟨Ieee.single.write (Ieee.double.read b), w.drawn, ?_, fl_write (k := .f32) hnn⟩
    simp only [Conv.floatToFloat, FloatKind.decode, FloatKind.encode, FloatKind.format]
    unfold tooBig at hbig
    cases hr : Ieee.double.read b with
    | nan s f => rw [hr] at hnn; simp [Ieee.Datum.isNaN] at hnn
    | infinity s => simp
    | number s mg e => rw [hr] at hbig; simp only at hbig; simp [hbig]

/-- Conversions. -/
def cvF (s k : FloatKind) (x : Nat) : Option Nat :=
  match s, k with
  | .f32, .f64 => some (fwiden x)
  | .f64, .f32 => if tooBig x = false then some (fnarrow x) else none
  | _, _ => some x
theorem run_cvF {s k : FloatKind} {b x y : Nat} (h : Fl s b x) (hy : cvF s k x = some y) : ∃ r d, (Conv.floatToFloat s b k).run P w = .ok (.float k r) { w with drawn := d } ∧ Fl k r y := by
  unfold cvF at hy
  split at hy
  · cases hy; exact run_widen h
  · split at hy
    · rename_i hb; cases hy; exact run_narrow h hb
    · cases hy
  · rename_i h1 h2
    cases hy
    have : s = k := by cases s <;> cases k <;> simp_all
    subst this
    exact ⟨b, w.drawn, by simp [Conv.floatToFloat], h⟩
theorem floatToIntVal_canon {s : FloatKind} {b x : Nat} (h : Fl s b x) {k : IntKind} {n : Int} (hx : floatToIntVal s x k = some n) : floatToIntVal s b k = some n := by
  cases hn : isNaN s b with
  | false => rw [h.eq hn]; exact hx
  | true =>
    have hx' : isNaN s x = true := by rw [h.nan, hn]
    obtain ⟨sg, f, hr⟩ := read_of_nan hx'
    unfold floatToIntVal FloatKind.decode at hx
    rw [hr] at hx
    simp [Ieee.Datum.toInt, Ieee.Datum.integral] at hx
end
theorem canon_lt {b : Nat} (h : b < 2 ^ 32) : canon .f32 b < 2 ^ 32 := (Fl.canon (k := .f32) h).lt
end Go.Ax
