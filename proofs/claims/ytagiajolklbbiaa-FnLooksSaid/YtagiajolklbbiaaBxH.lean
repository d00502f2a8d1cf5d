/- Small facts of the floats that programs like to test. -/
import Derived.Test.YtagiajolklbbiaaBxG
namespace Go.Ax
open Ieee (Format Datum)

def fin (x : Nat) : Bool := fcmp .eql .f32 (fop .sub .f32 x x) (canon .f32 0)
def isFin (k : FloatKind) (x : Nat) : Bool := decide (rungOf k.format x < k.format.infRung)

theorem rung_cases (k : FloatKind) (x : Nat) : rungOf k.format x < k.format.infRung ∨ rungOf k.format x = k.format.infRung ∨ k.format.infRung < rungOf k.format x := by omega
theorem nan_false {k : FloatKind} {x : Nat} (h : rungOf k.format x ≤ k.format.infRung) : isNaN k x = false := by
  cases hc : isNaN k x with
  | false => rfl
  | true => have := isNaN_iff.1 hc; omega
theorem canon0_32 : canon .f32 0 = 0 := by decide +kernel
theorem canon0_64 : canon .f64 0 = 0 := by decide +kernel
theorem opposite_sum (s : Bool) (m : Nat) (e : Int) : (Datum.number s m e).sum (Datum.number s m e).opposite = some (.number false 0 e) := by
  simp only [Datum.opposite, Datum.sum]
  have : e - min e e = 0 := by omega
  rw [this]
  simp only [signed_eq, Int.toNat_zero, Nat.pow_zero, Nat.mul_one]
  have e2 : min e e = e := by omega
  rw [e2]
  cases s <;> simp [sg] <;> omega
theorem fin_eq (x : Nat) : fin x = isFin .f32 x := by
  unfold fin isFin
  have hq : ∀ y, fcmp .eql .f32 (qnan .f32) y = false := fun y => by
    unfold fcmp; rw [order_nan (.inl (isNaN_qnan _))]; rfl
  rcases rung_cases .f32 x with h | h | h
  · obtain ⟨m, d, h1, _⟩ := read_fin _ h
    have : fop .sub .f32 x x = 0 := by
      unfold fop floatBits Format.sub
      simp only
      rw [h1, opposite_sum]; rfl
    rw [this, canon0_32, decide_eq_true h]; decide +kernel
  · have : fop .sub .f32 x x = qnan .f32 := by
      unfold fop floatBits Format.sub
      simp only
      rw [read_inf _ (binade_le _) h]
      cases negOf FloatKind.f32.format x <;> rfl
    rw [this, hq, decide_eq_false (by omega)]
  · have : fop .sub .f32 x x = qnan .f32 := by
      unfold fop floatBits Format.sub
      simp only
      rw [read_nan _ (binade_le _) h]; rfl
    rw [this, hq, decide_eq_false (by omega)]
theorem neq_self (k : FloatKind) (x : Nat) : fcmp .neq k x x = isNaN k x := by
  unfold fcmp
  cases h : isNaN k x with
  | true => rw [order_nan (.inl h)]; rfl
  | false => rw [order_num h h]; simp [compare, compareOfLessAndEq]
theorem fwiden_nan {x : Nat} (h : isNaN .f32 x = true) : fwiden x = qnan .f64 := by unfold fwiden; rw [if_pos h]
theorem fwiden_inf {x : Nat} (h : rungOf Ieee.single x = Ieee.single.infRung) : fwiden x = Ieee.double.word (negOf Ieee.single x) Ieee.double.infRung := by
  unfold fwiden
  rw [if_neg (by rw [nan_false (k := .f32) (Nat.le_of_eq h)]; simp), read_inf Ieee.single (binade_le .f32) h]
  rfl
theorem isNaN_widen (x : Nat) : isNaN .f64 (fwiden x) = isNaN .f32 x := by
  have hw : Ieee.double.infRung < Ieee.double.signWeight := Ieee.double.infRung_lt
  rcases rung_cases .f32 x with h | h | h
  · obtain ⟨r, h1, h2, _⟩ := fwiden_fin h
    rw [h1, nan_false (k := .f32) (by omega), nan_false (k := .f64)]
    show rungOf Ieee.double _ ≤ Ieee.double.infRung
    rw [rungOf_word _ _ (by omega)]; omega
  · rw [fwiden_inf h, nan_false (k := .f32) (by omega), nan_false (k := .f64)]
    show rungOf Ieee.double _ ≤ Ieee.double.infRung
    rw [rungOf_word _ _ (by omega)]; omega
  · have h' := isNaN_iff.2 h
    rw [fwiden_nan h', h', isNaN_qnan]
theorem fabs64_word (s : Bool) {r : Nat} (h : r ≤ Ieee.double.infRung) : fabs64 (Ieee.double.word s r) = r := by
  have hw : Ieee.double.infRung < Ieee.double.signWeight := Ieee.double.infRung_lt
  unfold fabs64
  have : isNaN .f64 (Ieee.double.word s r) = false := nan_false (k := .f64) (by show rungOf Ieee.double _ ≤ _; rw [rungOf_word _ _ (by omega)]; exact h)
  rw [if_neg (by simp [this])]
  exact rungOf_word Ieee.double s (by omega)
theorem rung_small {r : Nat} (h : r ≤ Ieee.double.infRung) : rungOf Ieee.double r = r ∧ negOf Ieee.double r = false := by
  have hw : Ieee.double.infRung < Ieee.double.signWeight := Ieee.double.infRung_lt
  exact ⟨rungOf_word Ieee.double false (by omega), negOf_word Ieee.double false (by omega)⟩
/-- 'not NaN and not infinite', as 'math' tests it. -/
theorem finite_widen (x : Nat) : (!(fcmp .neq .f64 (fwiden x) (fwiden x)) && !(fcmp .gtr .f64 (fabs64 (fwiden x)) (canon .f64 9218868437227405311))) = fin x := by
  have hM : canon .f64 9218868437227405311 = 9218868437227405311 := by decide +kernel
  have hI : 9218868437227405311 + 1 = Ieee.double.infRung := by decide +kernel
  rw [neq_self, isNaN_widen, fin_eq, hM]
  generalize 9218868437227405311 = M at hI
  unfold isFin
  have key : ∀ r, r ≤ Ieee.double.infRung → fcmp .gtr .f64 r M = decide (r = Ieee.double.infRung) := fun r hr => by
    obtain ⟨h1, h2⟩ := rung_small hr
    obtain ⟨h3, h4⟩ := rung_small (r := M) (by omega)
    unfold fcmp
    rw [order_num (nan_false (by show rungOf Ieee.double r ≤ _; rw [h1]; exact hr)) (nan_false (by show rungOf Ieee.double _ ≤ Ieee.double.infRung; rw [h3]; omega))]
    unfold pos
    show (some (compare (sg (negOf Ieee.double r) (rungOf Ieee.double r)) (sg (negOf Ieee.double M) (rungOf Ieee.double M))) == some .gt) = _
    rw [h1, h2, h3, h4]
    show (some (compare (r : Int) (M : Int)) == some .gt) = _
    simp only [compare, compareOfLessAndEq]
    rcases Nat.lt_trichotomy r M with h | h | h
    · rw [if_pos (by omega), decide_eq_false (by omega)]; rfl
    · rw [if_neg (by omega), if_pos (by omega), decide_eq_false (by omega)]; rfl
    · rw [if_neg (by omega), if_neg (by omega), decide_eq_true (by omega)]; rfl
  rcases rung_cases .f32 x with h | h | h
  · obtain ⟨r, h1, h2, _⟩ := fwiden_fin h
    rw [h1, fabs64_word _ (by omega), key r (by omega), nan_false (by omega), decide_eq_true h, decide_eq_false (by omega)]; rfl
  · rw [fwiden_inf h, fabs64_word _ (by omega), key _ (by omega), nan_false (by omega), decide_eq_false (p := rungOf _ _ < _) (by omega), decide_eq_true (by omega)]; rfl
  · rw [isNaN_iff.2 h, decide_eq_false (p := rungOf _ _ < _) (by omega)]; rfl

/-! ### Sameness -/
def bitsI (x : Nat) : Int := bif fcmp .neq .f32 x x then 2143289344 else IntKind.i64.wrap (x : Int)
def sgn (y : Nat) : Bool := decide (IntKind.i64.wrap (y : Int) < 0)
def sameN (a b : Nat) : Bool := bif fcmp .neq .f32 a a || fcmp .neq .f32 b b then fcmp .neq .f32 a a && fcmp .neq .f32 b b else fcmp .eql .f32 a b && (sgn (fwiden a) == sgn (fwiden b))
theorem sgn_word (s : Bool) {r : Nat} (h : r ≤ Ieee.double.infRung) : sgn (Ieee.double.word s r) = s := by
  have hI : Ieee.double.infRung = 9218868437227405312 := by decide +kernel
  have hS : Ieee.double.signWeight = 9223372036854775808 := by decide +kernel
  unfold sgn Format.word
  rw [IntKind.wrap_i64, hS]
  cases s
  · simp only [Bool.false_eq_true, if_false]; exact decide_eq_false (by omega)
  · simp only [if_true]; exact decide_eq_true (by omega)
theorem sgn_widen {x : Nat} (h : isNaN .f32 x = false) : sgn (fwiden x) = negOf Ieee.single x := by
  rcases rung_cases .f32 x with h1 | h1 | h1
  · obtain ⟨r, h2, h3, _⟩ := fwiden_fin h1
    rw [h2, sgn_word _ (by omega)]
  · rw [fwiden_inf h1, sgn_word _ (by omega)]
  · rw [isNaN_iff.2 h1] at h; cases h
theorem eql_num {k : FloatKind} {a b : Nat} (ha : isNaN k a = false) (hb : isNaN k b = false) : fcmp .eql k a b = decide (pos k a = pos k b) := by
  unfold fcmp
  rw [order_num ha hb]
  simp only [compare, compareOfLessAndEq]
  by_cases h : pos k a < pos k b
  · rw [if_pos h, decide_eq_false (by omega)]; rfl
  · rw [if_neg h]
    by_cases h' : pos k a = pos k b
    · rw [if_pos h', decide_eq_true h']; rfl
    · rw [if_neg h', decide_eq_false h']; rfl
theorem pos_inj {f : Format} {a b : Nat} (ha : a < 2 ^ f.width) (hb : b < 2 ^ f.width) (hn : negOf f a = negOf f b) (hp : sg (negOf f a) (rungOf f a) = sg (negOf f b) (rungOf f b)) : a = b := by
  rw [← word_of f ha, ← word_of f hb, hn]
  congr 1
  rw [hn] at hp
  unfold sg at hp
  split at hp <;> omega
theorem wrap_u32 {x : Nat} (h : x < 2 ^ 32) : IntKind.i64.wrap (x : Int) = x := by rw [IntKind.wrap_i64]; omega
theorem sameN_eq {a b : Nat} (ha : a < 2 ^ 32) (hb : b < 2 ^ 32) : sameN a b = (bitsI a == bitsI b) := by
  have hq : isNaN .f32 2143289344 = true := by decide +kernel
  unfold sameN bitsI
  rw [neq_self, neq_self, wrap_u32 ha, wrap_u32 hb]
  cases hna : isNaN .f32 a <;> cases hnb : isNaN .f32 b
  · rw [eql_num hna hnb, sgn_widen hna, sgn_widen hnb]
    show (decide _ && _) = ((a : Int) == (b : Int))
    by_cases hab : a = b
    · subst hab; simp
    · have h1 : ((a : Int) == (b : Int)) = false := by simp; omega
      rw [h1]
      cases hc : (negOf Ieee.single a == negOf Ieee.single b) with
      | false => simp
      | true =>
        have : decide (pos .f32 a = pos .f32 b) = false := decide_eq_false fun h => hab (pos_inj (f := Ieee.single) ha hb (by simpa using hc) h)
        rw [this]; rfl
  · have : (a : Int) ≠ 2143289344 := fun e => by
      have : a = 2143289344 := by omega
      rw [this, hq] at hna; cases hna
    simp; exact fun e => this e
  · have : (2143289344 : Int) ≠ b := fun e => by
      have : b = 2143289344 := by omega
      rw [this, hq] at hnb; cases hnb
    simp; exact fun e => this e
  · simp

def sameF (a b : Nat) : Bool := bif fcmp .neq .f64 a a || fcmp .neq .f64 b b then fcmp .neq .f64 a a && fcmp .neq .f64 b b else
  bif fcmp .eql .f64 a (canon .f64 0) && fcmp .eql .f64 b (canon .f64 0) then fcmp .gtr .f64 (fop .quo .f64 (canon .f64 4607182418800017408) a) (canon .f64 0) == fcmp .gtr .f64 (fop .quo .f64 (canon .f64 4607182418800017408) b) (canon .f64 0) else fcmp .eql .f64 a b
theorem sameF_self (a : Nat) : sameF a a = true := by
  unfold sameF
  rw [neq_self]
  cases h : isNaN .f64 a
  · rw [eql_num h h]; simp
  · rfl
end Go.Ax
