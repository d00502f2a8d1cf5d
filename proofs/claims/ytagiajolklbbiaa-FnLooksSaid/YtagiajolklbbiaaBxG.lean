/- The floats, as whole numbers: what a word stands for, in units of the least; order; exact writing. -/
import Derived.Test.YtagiajolklbbiaaBxR
namespace Go.Ax
open Ieee (Format Datum)

theorem log2_shift {M k : Nat} (hM : 0 < M) : (M * 2 ^ k).log2 = M.log2 + k := by
  have h := (Nat.log2_eq_iff (n := M) (by omega) (k := M.log2)).1 rfl
  have hp : 0 < 2 ^ k := Nat.two_pow_pos k
  refine (Nat.log2_eq_iff (by have := Nat.mul_pos hM hp; omega)).2 ⟨?_, ?_⟩
  · rw [Nat.pow_add]; exact Nat.mul_le_mul_right _ h.1
  · rw [show M.log2 + k + 1 = (M.log2 + 1) + k by omega, Nat.pow_add]; exact Nat.mul_lt_mul_of_pos_right h.2 hp
theorem cut_exact (neg : Bool) {M k : Nat} (hM : 0 < M) : Ieee.Toward.even.cut neg (M * 2 ^ k) k = M := by
  have hmin : min k ((M * 2 ^ k).log2 + 2) = k := by rw [log2_shift hM]; omega
  have hp : 0 < 2 ^ k := Nat.two_pow_pos k
  simp only [Ieee.Toward.cut, hmin, Nat.shiftLeft_eq, Nat.one_mul]
  rw [Nat.mul_div_cancel _ hp, Nat.mul_mod_left]
  have : (2 ^ k == 2 * 0) = false := by simp
  simp [this]
theorem cut_zero (neg : Bool) (n : Nat) : Ieee.Toward.even.cut neg n 0 = n := by
  simp [Ieee.Toward.cut, Nat.mod_one]

/-- The magnitude of a rung, in units of the least. -/
def rungV (B r : Nat) : Nat := if r < B then r else (B + r % B) * 2 ^ (r / B - 1)
theorem rungV_succ {B : Nat} (hB : 0 < B) (r : Nat) : rungV B r < rungV B (r + 1) := by
  unfold rungV
  by_cases h : r + 1 < B
  · rw [if_pos (by omega), if_pos h]; omega
  · by_cases h' : r < B
    · have : r + 1 = B := by omega
      rw [if_pos h', if_neg h, this, Nat.mod_self, Nat.div_self hB]; simp; omega
    · rw [if_neg h', if_neg h]
      have h1 := Nat.div_add_mod r B
      have h2 := Nat.mod_lt r hB
      have h3 : 1 ≤ r / B := (Nat.le_div_iff_mul_le hB).2 (by omega)
      by_cases h4 : r % B + 1 < B
      · have e1 : (r + 1) / B = r / B := by
          rw [Nat.div_eq_of_lt_le (k := r / B)]
          · rw [Nat.mul_comm]; omega
          · rw [Nat.add_mul, Nat.mul_comm]; omega
        have e2 : (r + 1) % B = r % B + 1 := by
          have h5 := Nat.div_add_mod (r + 1) B
          rw [e1] at h5; omega
        rw [e1, e2]
        exact Nat.mul_lt_mul_of_pos_right (by omega) (Nat.two_pow_pos _)
      · have e1 : (r + 1) / B = r / B + 1 := by
          rw [Nat.div_eq_of_lt_le (k := r / B + 1)]
          · rw [Nat.add_mul, Nat.mul_comm]; omega
          · rw [Nat.add_mul, Nat.add_mul, Nat.mul_comm]; omega
        have e2 : (r + 1) % B = 0 := by
          have h5 := Nat.div_add_mod (r + 1) B
          rw [e1, Nat.mul_add] at h5; omega
        rw [e1, e2, show r / B + 1 - 1 = (r / B - 1) + 1 by omega, Nat.pow_succ, Nat.add_zero, show B * (2 ^ (r / B - 1) * 2) = (2 * B) * 2 ^ (r / B - 1) by rw [Nat.mul_comm (2 ^ _) 2, ← Nat.mul_assoc, Nat.mul_comm B 2]]
        exact Nat.mul_lt_mul_of_pos_right (by omega) (Nat.two_pow_pos _)
theorem rungV_mono {B : Nat} (hB : 0 < B) {r s : Nat} (h : r < s) : rungV B r < rungV B s := by
  induction s with
  | zero => omega
  | succ s ih =>
    rcases Nat.lt_or_ge r s with h' | h'
    · exact Nat.lt_trans (ih h') (rungV_succ hB s)
    · rw [show r = s by omega]; exact rungV_succ hB s
theorem rungV_lt_iff {B : Nat} (hB : 0 < B) {r s : Nat} : rungV B r < rungV B s ↔ r < s := by
  refine ⟨fun h => ?_, rungV_mono hB⟩
  rcases Nat.lt_trichotomy r s with h1 | h1 | h1
  · exact h1
  · subst h1; omega
  · have := rungV_mono hB h1; omega
theorem rungV_zero {B : Nat} (hB : 0 < B) : rungV B 0 = 0 := by unfold rungV; rw [if_pos hB]

def rungOf (f : Format) (x : Nat) : Nat := x % f.signWeight
def negOf (f : Format) (x : Nat) : Bool := x / f.signWeight % 2 == 1
theorem binade_pos (f : Format) : 0 < f.binade := Nat.two_pow_pos _
theorem binade_le (k : FloatKind) : k.format.binade ≤ k.format.infRung := by cases k <;> decide +kernel
/-- A finite word read. -/
theorem read_fin (f : Format) {x : Nat} (h : rungOf f x < f.infRung) : ∃ m d : Nat, f.read x = .number (negOf f x) m (f.leastPlace + d) ∧ m * 2 ^ d = rungV f.binade (rungOf f x) ∧ m < 2 * f.binade ∧ (d = 0 ∨ f.binade ≤ m) ∧ d * f.binade + m = rungOf f x ∧ d < 2 ^ f.exponentBits := by
  unfold Format.read
  unfold rungOf at h ⊢
  simp only
  have hB := binade_pos f
  have hE := Nat.two_pow_pos f.exponentBits
  split
  · rename_i h1
    exact ⟨x % f.signWeight, 0, by simp [negOf], by simp [rungV, h1], by omega, .inl rfl, by omega, hE⟩
  · rename_i h1
    have h2 := Nat.mod_lt (x % f.signWeight) hB
    have h3 := Nat.div_add_mod (x % f.signWeight) f.binade
    have h4 : 1 ≤ x % f.signWeight / f.binade := (Nat.le_div_iff_mul_le hB).2 (by omega)
    refine ⟨f.binade + x % f.signWeight % f.binade, x % f.signWeight / f.binade - 1, by simp [negOf], by simp [rungV, h1], by omega, .inr (by omega), ?_, ?_⟩
    · have : (x % f.signWeight / f.binade - 1 + 1) * f.binade = f.binade * (x % f.signWeight / f.binade) := by rw [Nat.mul_comm]; congr 1; omega
      rw [Nat.add_mul] at this
      omega
    · have : x % f.signWeight / f.binade < 2 ^ f.exponentBits := by
        rw [Nat.div_lt_iff_lt_mul hB]
        have : f.infRung ≤ 2 ^ f.exponentBits * f.binade := Nat.mul_le_mul_right _ (by omega)
        omega
      omega
theorem read_inf (f : Format) (h0 : f.binade ≤ f.infRung) {x : Nat} (h : rungOf f x = f.infRung) : f.read x = .infinity (negOf f x) := by
  unfold Format.read
  unfold rungOf at h
  simp only [h]
  rw [if_neg (by omega), if_neg (Nat.lt_irrefl _), if_pos trivial]; rfl
theorem read_nan (f : Format) (h0 : f.binade ≤ f.infRung) {x : Nat} (h : f.infRung < rungOf f x) : f.read x = .nan (negOf f x) (rungOf f x - f.infRung) := by
  unfold Format.read
  unfold rungOf at h
  simp only
  rw [if_neg (by omega), if_neg (by omega), if_neg (by omega)]; rfl
theorem isNaN_iff {k : FloatKind} {x : Nat} : isNaN k x = true ↔ k.format.infRung < rungOf k.format x := by
  unfold isNaN
  rcases Nat.lt_trichotomy (rungOf k.format x) k.format.infRung with h | h | h
  · obtain ⟨m, d, h1, _⟩ := read_fin _ h; rw [h1]; simp [Datum.isNaN]; omega
  · rw [read_inf _ (binade_le k) h]; simp [Datum.isNaN, h]
  · rw [read_nan _ (binade_le k) h]; simp [Datum.isNaN]; omega

/-- A rung with its sign. -/
def sg (s : Bool) (n : Nat) : Int := if s then -(n : Int) else n
def pos (k : FloatKind) (x : Nat) : Int := sg (negOf k.format x) (rungOf k.format x)
theorem signed_eq (s : Bool) (m u : Nat) : Ieee.signed s m u = sg s (m * 2 ^ u) := by
  unfold Ieee.signed sg; rw [Nat.shiftLeft_eq]
theorem sg_mul (s : Bool) (m c : Nat) : sg s (m * c) = sg s m * c := by cases s <;> simp [sg, Int.neg_mul]
theorem sg_lt {B : Nat} (hB : 0 < B) {s t : Bool} {r q : Nat} : sg s (rungV B r) < sg t (rungV B q) ↔ sg s r < sg t q := by
  have h1 := rungV_lt_iff hB (r := r) (s := q)
  have h2 := rungV_lt_iff hB (r := q) (s := r)
  have h3 := rungV_lt_iff hB (r := 0) (s := q)
  have h4 := rungV_lt_iff hB (r := 0) (s := r)
  rw [rungV_zero hB] at h3 h4
  cases s <;> cases t <;> simp only [sg, if_true, if_false, Bool.false_eq_true] <;> omega
theorem compare_of_lt_iff {a b c d : Int} (h1 : a < b ↔ c < d) (h2 : b < a ↔ d < c) : compare a b = compare c d := by
  simp only [compare, compareOfLessAndEq]
  by_cases h3 : a < b
  · rw [if_pos h3, if_pos (h1.1 h3)]
  · rw [if_neg h3, if_neg (fun h => h3 (h1.2 h))]
    by_cases h4 : b < a
    · rw [if_neg (by omega), if_neg (by have := h2.1 h4; omega)]
    · have : ¬ c < d := fun h => h3 (h1.2 h)
      have : ¬ d < c := fun h => h4 (h2.2 h)
      rw [if_pos (by omega), if_pos (by omega)]
theorem order_fin {k : FloatKind} {x y : Nat} (hx : rungOf k.format x < k.format.infRung) (hy : rungOf k.format y < k.format.infRung) :
    k.format.order x y = some (compare (pos k x) (pos k y)) := by
  obtain ⟨m, d, h1, h2, _⟩ := read_fin _ hx
  obtain ⟨n, e, h3, h4, _⟩ := read_fin _ hy
  unfold Format.order
  rw [h1, h3]
  simp only [Datum.order]
  have hB := binade_pos k.format
  have key : ∀ (s t : Bool) (m n d e : Nat), compare (Ieee.signed s m (k.format.leastPlace + d - min (k.format.leastPlace + d) (k.format.leastPlace + e)).toNat) (Ieee.signed t n (k.format.leastPlace + e - min (k.format.leastPlace + d) (k.format.leastPlace + e)).toNat)
      = compare (sg s (m * 2 ^ d)) (sg t (n * 2 ^ e)) := by
    intro s t m n d e
    have e1 : (k.format.leastPlace + d - min (k.format.leastPlace + d) (k.format.leastPlace + e)).toNat = d - min d e := by omega
    have e2 : (k.format.leastPlace + e - min (k.format.leastPlace + d) (k.format.leastPlace + e)).toNat = e - min d e := by omega
    rw [e1, e2, signed_eq, signed_eq]
    have hd : m * 2 ^ d = m * 2 ^ (d - min d e) * 2 ^ min d e := by rw [Nat.mul_assoc, ← Nat.pow_add]; congr 2; omega
    have he : n * 2 ^ e = n * 2 ^ (e - min d e) * 2 ^ min d e := by rw [Nat.mul_assoc, ← Nat.pow_add]; congr 2; omega
    rw [hd, he, sg_mul _ _ (2 ^ min d e), sg_mul _ _ (2 ^ min d e)]
    have hp : (0 : Int) < ((2 ^ min d e : Nat) : Int) := by exact_mod_cast Nat.two_pow_pos _
    refine compare_of_lt_iff ?_ ?_
    · exact (Int.mul_lt_mul_right hp).symm
    · exact (Int.mul_lt_mul_right hp).symm
  rw [key, h2, h4]
  exact congrArg some (compare_of_lt_iff (sg_lt hB) (sg_lt hB))
theorem order_num {k : FloatKind} {x y : Nat} (hx : isNaN k x = false) (hy : isNaN k y = false) :
    k.format.order x y = some (compare (pos k x) (pos k y)) := by
  have hx' : rungOf k.format x ≤ k.format.infRung := by
    rcases Nat.lt_or_ge k.format.infRung (rungOf k.format x) with h | h
    · rw [isNaN_iff.2 h] at hx; cases hx
    · exact h
  have hy' : rungOf k.format y ≤ k.format.infRung := by
    rcases Nat.lt_or_ge k.format.infRung (rungOf k.format y) with h | h
    · rw [isNaN_iff.2 h] at hy; cases hy
    · exact h
  have hpos : 0 < k.format.infRung := by cases k <;> decide +kernel
  have cl : ∀ {a b : Int}, a < b → compare a b = .lt := fun h => by simp only [compare, compareOfLessAndEq]; rw [if_pos h]
  have cg : ∀ {a b : Int}, b < a → compare a b = .gt := fun h => by simp only [compare, compareOfLessAndEq]; rw [if_neg (by omega), if_neg (by omega)]
  have ce : ∀ {a b : Int}, a = b → compare a b = .eq := fun h => by simp only [compare, compareOfLessAndEq]; rw [if_neg (by omega), if_pos h]
  rcases Nat.lt_or_eq_of_le hx' with hx' | hx' <;> rcases Nat.lt_or_eq_of_le hy' with hy' | hy'
  · exact order_fin hx' hy'
  · obtain ⟨m, d, h1, _⟩ := read_fin _ hx'
    unfold Format.order
    rw [h1, read_inf _ (binade_le k) hy']
    simp only [Datum.order, pos, hy']
    cases negOf k.format y <;> cases negOf k.format x <;> simp only [sg, if_true, if_false, Bool.false_eq_true] <;> congr 1 <;> symm <;> first | (apply cl; omega) | (apply cg; omega)
  · obtain ⟨m, d, h1, _⟩ := read_fin _ hy'
    unfold Format.order
    rw [h1, read_inf _ (binade_le k) hx']
    simp only [Datum.order, pos, hx']
    cases negOf k.format y <;> cases negOf k.format x <;> simp only [sg, if_true, if_false, Bool.false_eq_true] <;> congr 1 <;> symm <;> first | (apply cl; omega) | (apply cg; omega)
  · unfold Format.order
    rw [read_inf _ (binade_le k) hx', read_inf _ (binade_le k) hy']
    simp only [Datum.order, pos, hx', hy']
    cases negOf k.format y <;> cases negOf k.format x <;> simp only [sg, if_true, if_false, Bool.false_eq_true] <;> congr 1 <;> symm <;> first | (rw [cl (by omega)]; rfl) | (rw [cg (by omega)]; rfl) | (rw [ce (by omega)]; rfl)
theorem order_nan {k : FloatKind} {x y : Nat} (h : isNaN k x = true ∨ isNaN k y = true) : k.format.order x y = none := by
  unfold Format.order
  rcases h with h | h
  · obtain ⟨s, t, e⟩ := read_of_nan h; rw [e]; rfl
  · obtain ⟨s, t, e⟩ := read_of_nan h; rw [e]
    cases k.format.read x <;> rfl

/-- Writing a number that the format has: whatever the place it is written at. -/
theorem nearest_exact (f : Format) (neg : Bool) {mag : Nat} {place : Int} {M d : Nat} (hM : M < 2 * f.binade) (hd : d = 0 ∨ f.binade ≤ M) (hr : d * f.binade + M < f.infRung) {c : Nat}
    (hv : mag * 2 ^ (place - f.leastPlace + c).toNat = M * 2 ^ (d + c)) (hc : 0 ≤ place - f.leastPlace + c) : f.nearest neg mag place = f.word neg (d * f.binade + M) := by
  unfold Format.nearest
  have hB := binade_pos f
  have p2 := fun n => Nat.two_pow_pos n
  by_cases hz : mag = 0
  · rw [if_pos hz]
    rw [hz, Nat.zero_mul] at hv
    have : M = 0 := by
      rcases Nat.eq_zero_or_pos M with h | h
      · exact h
      · have := Nat.mul_pos h (p2 (d + c)); omega
    have hd0 : d = 0 := by rcases hd with h | h; exact h; omega
    rw [this, hd0]; simp
  · rw [if_neg hz]
    have hMp : 0 < M := by
      rcases Nat.eq_zero_or_pos M with h | h
      · rw [h, Nat.zero_mul] at hv; have := Nat.mul_pos (Nat.pos_of_ne_zero hz) (p2 (place - f.leastPlace + c).toNat); omega
      · exact h
    have hlog : mag.log2 + (place - f.leastPlace + c).toNat = M.log2 + (d + c) := by
      rw [← log2_shift (Nat.pos_of_ne_zero hz), ← log2_shift hMp, hv]
    have hMl := (Nat.log2_eq_iff (n := M) (by omega) (k := M.log2)).1 rfl
    have hB2 : f.binade = 2 ^ f.fractionBits := rfl
    have hlast : max (place + mag.log2 - f.fractionBits) f.leastPlace = f.leastPlace + d := by
      rcases hd with hd | hd
      · subst hd
        by_cases hMB : M < f.binade
        · have : M.log2 < f.fractionBits := by
            rw [hB2] at hMB
            exact (Nat.pow_lt_pow_iff_right (by omega)).1 (Nat.lt_of_le_of_lt hMl.1 hMB)
          omega
        · have : M.log2 = f.fractionBits := (Nat.log2_eq_iff (by omega)).2 ⟨by rw [← hB2]; omega, by rw [Nat.pow_succ, ← hB2]; omega⟩
          omega
      · have : M.log2 = f.fractionBits := (Nat.log2_eq_iff (by omega)).2 ⟨by rw [← hB2]; omega, by rw [Nat.pow_succ, ← hB2]; omega⟩
        omega
    simp only [hlast]
    have hcut : Ieee.Toward.even.cut neg (mag <<< (place - (f.leastPlace + d)).toNat) (f.leastPlace + d - place).toNat = M := by
      rcases Int.lt_or_le place (f.leastPlace + d) with h | h
      · have e1 : (place - (f.leastPlace + d)).toNat = 0 := by omega
        rw [e1, Nat.shiftLeft_eq, Nat.pow_zero, Nat.mul_one]
        have e2 : mag = M * 2 ^ (f.leastPlace + d - place).toNat := by
          have : d + c = (f.leastPlace + d - place).toNat + (place - f.leastPlace + c).toNat := by omega
          rw [this, Nat.pow_add, ← Nat.mul_assoc] at hv
          exact Nat.eq_of_mul_eq_mul_right (p2 _) hv
        rw [e2]; exact cut_exact neg hMp
      · have e1 : (f.leastPlace + d - place).toNat = 0 := by omega
        rw [e1, cut_zero, Nat.shiftLeft_eq]
        have : (place - f.leastPlace + c).toNat = (place - (f.leastPlace + d)).toNat + (d + c) := by omega
        rw [this, Nat.pow_add, ← Nat.mul_assoc] at hv
        exact Nat.eq_of_mul_eq_mul_right (p2 _) hv
    rw [hcut]
    have : (f.leastPlace + d - f.leastPlace).toNat = d := by omega
    rw [this, Nat.min_eq_left (by omega)]

theorem rungOf_word (f : Format) (s : Bool) {r : Nat} (h : r < f.signWeight) : rungOf f (f.word s r) = r := by
  unfold rungOf Format.word
  split
  · rw [Nat.add_mod_left]; exact Nat.mod_eq_of_lt h
  · exact Nat.mod_eq_of_lt h
theorem negOf_word (f : Format) (s : Bool) {r : Nat} (h : r < f.signWeight) : negOf f (f.word s r) = s := by
  unfold negOf Format.word
  have hp : 0 < f.signWeight := by omega
  cases s
  · simp [Nat.div_eq_of_lt h]
  · simp [Nat.add_div_left, hp, Nat.div_eq_of_lt h]
theorem word_of (f : Format) {x : Nat} (h : x < 2 ^ f.width) : f.word (negOf f x) (rungOf f x) = x := by
  have two : 2 ^ f.width = 2 * f.signWeight := by
    unfold Format.width Format.signWeight
    rw [Nat.add_assoc, Nat.add_comm 1, Nat.pow_succ, Nat.mul_comm]
  have hp : 0 < f.signWeight := Nat.two_pow_pos _
  have h1 := Nat.div_add_mod x f.signWeight
  have h2 : x / f.signWeight < 2 := by rw [Nat.div_lt_iff_lt_mul hp]; rw [← two]; exact h
  unfold Format.word negOf rungOf
  have h3 : ∀ n, n < 2 → n = 0 ∨ n = 1 := by omega
  rcases h3 _ h2 with h3 | h3
  · rw [h3] at h1 ⊢; simp at h1 ⊢; omega
  · rw [h3] at h1 ⊢; simp at h1 ⊢; omega

/-- How many places the least of a double lies below the least of a single. -/
def gap : Nat := 925
theorem fwiden_fin {x : Nat} (h : rungOf Ieee.single x < Ieee.single.infRung) : ∃ r, fwiden x = Ieee.double.word (negOf Ieee.single x) r ∧ r < Ieee.double.infRung ∧ rungV Ieee.double.binade r = rungV Ieee.single.binade (rungOf Ieee.single x) * 2 ^ gap := by
  have hg : gap = 925 := rfl
  obtain ⟨m, d, h1, h2, h3, h4, h5, h6⟩ := read_fin Ieee.single h
  have hn : isNaN .f32 x = false := by
    cases hc : isNaN .f32 x with
    | false => rfl
    | true => have : Ieee.single.infRung < rungOf Ieee.single x := isNaN_iff.1 hc; omega
  have e1 : Ieee.single.leastPlace = -149 := by decide +kernel
  have e2 : Ieee.double.leastPlace = -1074 := by decide +kernel
  have e3 : Ieee.double.binade = 2 ^ 52 := rfl
  have e4 : Ieee.single.binade = 2 ^ 23 := rfl
  have e5 : Ieee.double.infRung = 2047 * 2 ^ 52 := rfl
  have e6 : Ieee.single.exponentBits = 8 := rfl
  rw [e6] at h6
  rw [e4] at h3
  unfold fwiden
  rw [if_neg (by simp [hn]), h1]
  show ∃ r, Ieee.double.nearest (negOf Ieee.single x) m (Ieee.single.leastPlace + d) = _ ∧ _
  rcases Nat.eq_zero_or_pos m with hm | hm
  · refine ⟨0, by unfold Format.nearest; rw [if_pos hm], by rw [e5]; decide, ?_⟩
    rw [← h2, hm, rungV_zero (binade_pos _), Nat.zero_mul, Nat.zero_mul]
  · have hml := (Nat.log2_eq_iff (n := m) (by omega) (k := m.log2)).1 rfl
    have hl : m.log2 ≤ 23 := by
      have : 2 ^ m.log2 < 2 ^ 24 := by omega
      have := (Nat.pow_lt_pow_iff_right (a := 2) (by omega)).1 this
      omega
    generalize hq : m.log2 = q at hml hl
    have hM1 : 2 ^ 52 ≤ m * 2 ^ (52 - q) := by
      calc 2 ^ 52 = 2 ^ q * 2 ^ (52 - q) := by rw [← Nat.pow_add]; congr 1; omega
        _ ≤ _ := Nat.mul_le_mul_right _ hml.1
    have hM2 : m * 2 ^ (52 - q) < 2 * 2 ^ 52 := by
      calc m * 2 ^ (52 - q) < 2 ^ (q + 1) * 2 ^ (52 - q) := Nat.mul_lt_mul_of_pos_right hml.2 (Nat.two_pow_pos _)
        _ = 2 * 2 ^ 52 := by rw [← Nat.pow_add, show q + 1 + (52 - q) = 1 + 52 by omega, Nat.pow_add]
    have hval : m * 2 ^ (52 - q) * 2 ^ (gap + d - (52 - q)) = m * 2 ^ (gap + d) := by
      rw [Nat.mul_assoc, ← Nat.pow_add]; congr 2; omega
    generalize hM : m * 2 ^ (52 - q) = M at hM1 hM2 hval
    generalize hD : gap + d - (52 - q) = D at hval
    have hlt : D * 2 ^ 52 + M < 2047 * 2 ^ 52 := by
      have h7 : D ≤ 1180 := by omega
      omega
    refine ⟨D * 2 ^ 52 + M, ?_, by rw [e5]; exact hlt, ?_⟩
    · refine nearest_exact Ieee.double _ (M := M) (d := D) (c := 0) (by rw [e3]; exact hM2) (.inr (by rw [e3]; exact hM1)) (by rw [e3, e5]; exact hlt) ?_ (by rw [e1, e2]; omega)
      rw [e1, e2, show ((-149 : Int) + d - -1074 + (0 : Nat)).toNat = gap + d by omega, Nat.add_zero, hval]
    · have hz : (D * 2 ^ 52 + M) % 2 ^ 52 = M - 2 ^ 52 := by
        rw [Nat.mul_comm, Nat.mul_add_mod]
        rw [Nat.mod_eq_sub_mod hM1]; exact Nat.mod_eq_of_lt (by omega)
      have hw : (D * 2 ^ 52 + M) / 2 ^ 52 = D + 1 := by
        rw [Nat.mul_comm, Nat.mul_add_div (by omega)]
        congr 1
        exact Nat.div_eq_of_lt_le (by omega) (by omega)
      have : rungV (2 ^ 52) (D * 2 ^ 52 + M) = M * 2 ^ D := by
        unfold rungV
        rw [if_neg (by omega), hz, hw, show 2 ^ 52 + (M - 2 ^ 52) = M by omega, Nat.add_sub_cancel]
      rw [e3, this, hval, ← h2, Nat.mul_assoc, ← Nat.pow_add, Nat.add_comm]
theorem fnarrow_fin {y q : Nat} (h : rungOf Ieee.double y < Ieee.double.infRung) (hq : q < Ieee.single.infRung) (hv : rungV Ieee.double.binade (rungOf Ieee.double y) = rungV Ieee.single.binade q * 2 ^ gap) :
    fnarrow y = Ieee.single.word (negOf Ieee.double y) q ∧ tooBig y = false := by
  have hg : gap = 925 := rfl
  obtain ⟨m, d, h1, h2, h3, h4, h5, h6⟩ := read_fin Ieee.double h
  have hn : isNaN .f64 y = false := by
    cases hc : isNaN .f64 y with
    | false => rfl
    | true => have : Ieee.double.infRung < rungOf Ieee.double y := isNaN_iff.1 hc; omega
  have hsw : Ieee.single.infRung < Ieee.single.signWeight := Ieee.single.infRung_lt
  have hq' : rungOf Ieee.single q = q := by unfold rungOf; exact Nat.mod_eq_of_lt (by omega)
  obtain ⟨M, D, g1, g2, g3, g4, g5, g6⟩ := read_fin Ieee.single (x := q) (by rw [hq']; exact hq)
  rw [hq'] at g2 g5
  have e1 : Ieee.single.leastPlace = -149 := by decide +kernel
  have e2 : Ieee.double.leastPlace = -1074 := by decide +kernel
  have hw : Ieee.single.write (Ieee.double.read y) = Ieee.single.word (negOf Ieee.double y) q := by
    rw [h1]
    show Ieee.single.nearest _ m _ = _
    rw [← g5]
    refine nearest_exact Ieee.single _ (c := gap) g3 g4 (by rw [g5]; exact hq) ?_ (by rw [e1, e2]; omega)
    rw [e1, e2, show ((-1074 : Int) + d - -149 + (gap : Nat)).toNat = d by omega, h2, hv, ← g2, Nat.mul_assoc, ← Nat.pow_add]
  refine ⟨?_, ?_⟩
  · unfold fnarrow; rw [if_neg (by simp [hn])]; exact hw
  · unfold tooBig
    rw [h1] at hw ⊢
    simp only
    rw [hw]
    have : rungOf Ieee.single (Ieee.single.word (negOf Ieee.double y) q) = q := rungOf_word _ _ (by omega)
    obtain ⟨m', d', k1, _⟩ := read_fin Ieee.single (x := Ieee.single.word (negOf Ieee.double y) q) (by rw [this]; exact hq)
    rw [k1]; rfl
end Go.Ax
