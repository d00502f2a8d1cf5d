/- Adding +0: of a number that is not negative (nor -0), or of the NaN, nothing turns. -/
import Derived.Test.YtagiajolklbbiaaBxZ
namespace Go.Bx
open Go.Ax
open Ieee

/-- The NaN, or a word of a number whose sign is '+'. -/
def NN (x : Nat) : Prop := x = qnan .f32 ∨ (x < 2 ^ 32 ∧ rungOf single x ≤ single.infRung ∧ negOf single x = false)
theorem write_NN {d : Datum} (hd : d.neg = false) (hn : d.isNaN = false) : NN (single.write d) := by
  have hI : single.infRung < single.signWeight := by decide +kernel
  have hw : ∀ r, r ≤ single.infRung → NN (single.word false r) := fun r hr => by
    refine .inr ⟨?_, by rw [rungOf_word _ _ (by omega)]; exact hr, negOf_word _ _ (by omega)⟩
    have : single.signWeight < 2 ^ 32 := by decide +kernel
    show (if false = true then _ else r) < _
    rw [if_neg (by simp)]; omega
  cases d with
  | nan s f => simp [Datum.isNaN] at hn
  | infinity s => cases s <;> simp [Datum.neg] at hd; exact hw _ (Nat.le_refl _)
  | number s m i =>
    cases s <;> simp [Datum.neg] at hd
    show NN (single.nearest false m i)
    unfold Format.nearest
    split
    · exact hw _ (Nat.zero_le _)
    · exact hw _ (Nat.min_le_right _ _)
theorem read_sign {x : Nat} (hx : rungOf single x ≤ single.infRung) : (single.read x).neg = negOf single x ∧ (single.read x).isNaN = false := by
  rcases Nat.lt_or_eq_of_le hx with h | h
  · obtain ⟨m, d, h1, _⟩ := read_fin single h
    rw [h1]; exact ⟨rfl, rfl⟩
  · rw [read_inf single (binade_le .f32) h]; exact ⟨rfl, rfl⟩
theorem sum_sign {a b c : Datum} (ha : a.neg = false) (hb : b.neg = false) (h : a.sum b = some c) : c.neg = false ∧ c.isNaN = false := by
  have hs : ∀ m u, 0 ≤ signed false m u := fun m u => by show (0 : Int) ≤ ((m <<< u : Nat) : Int); exact Int.natCast_nonneg _
  cases a with
  | nan _ _ => simp [Datum.sum] at h
  | infinity s =>
    simp only [Datum.neg] at ha
    subst ha
    cases b with
    | nan _ _ => simp [Datum.sum] at h
    | infinity t =>
      simp only [Datum.neg] at hb
      subst hb
      simp [Datum.sum] at h
      subst h; exact ⟨rfl, rfl⟩
    | number t n j =>
      simp [Datum.sum] at h
      subst h; exact ⟨rfl, rfl⟩
  | number s m i =>
    simp only [Datum.neg] at ha
    subst ha
    cases b with
    | nan _ _ => simp [Datum.sum] at h
    | infinity t =>
      simp only [Datum.neg] at hb
      subst hb
      simp [Datum.sum] at h
      subst h; exact ⟨rfl, rfl⟩
    | number t n j =>
      simp only [Datum.neg] at hb
      subst hb
      simp only [Datum.sum] at h
      cases h
      refine ⟨?_, rfl⟩
      show (if signed false m (i - min i j).toNat + signed false n (j - min i j).toNat = 0 then false && false else decide (signed false m (i - min i j).toNat + signed false n (j - min i j).toNat < 0)) = false
      have h1 := hs m (i - min i j).toNat
      have h2 := hs n (j - min i j).toNat
      split
      · rfl
      · exact decide_eq_false (by omega)
theorem add_NN {p q : Nat} (hp : NN p) (hq : NN q) : NN (fop .add .f32 p q) := by
  unfold fop floatBits
  show NN ((single.add p q).getD _)
  unfold Format.add
  cases h : (single.read p).sum (single.read q) with
  | none => exact .inl rfl
  | some c =>
    show NN (single.write c)
    rcases hp with rfl | ⟨_, hp1, hp2⟩
    · have : (single.read (qnan .f32)).sum (single.read q) = none := by
        rw [show single.read (qnan .f32) = .nan false (rungOf single (qnan .f32) - single.infRung) from by decide +kernel]
        rfl
      rw [this] at h; cases h
    rcases hq with rfl | ⟨_, hq1, hq2⟩
    · have : (single.read p).sum (single.read (qnan .f32)) = none := by
        rw [show single.read (qnan .f32) = .nan false (rungOf single (qnan .f32) - single.infRung) from by decide +kernel]
        cases single.read p <;> rfl
      rw [this] at h; cases h
    obtain ⟨h1, h2⟩ := sum_sign ((read_sign hp1).1.trans hp2) ((read_sign hq1).1.trans hq2) h
    exact write_NN h1 h2
theorem NN.add0 {x : Nat} (h : NN x) : fop .add .f32 x (canon .f32 0) = x := by
  rcases h with rfl | ⟨hx, hr, hn⟩
  · decide +kernel
  have h0 : single.read (canon .f32 0) = .number false 0 (single.leastPlace + (0 : Nat)) := by decide +kernel
  unfold fop floatBits
  show (single.add x (canon .f32 0)).getD _ = x
  unfold Format.add
  rw [h0]
  have hwx := word_of single (x := x) hx
  rcases Nat.lt_or_eq_of_le hr with h | h
  · obtain ⟨m, d, h1, h2, h3, h4, h5, _⟩ := read_fin single h
    rw [h1, hn]
    show single.nearest _ _ _ = x
    rw [hn] at hwx
    have hmin : min (single.leastPlace + (d : Int)) (single.leastPlace + ((0 : Nat) : Int)) = single.leastPlace := by omega
    simp only [hmin]
    have e1 : (single.leastPlace + (d : Int) - single.leastPlace).toNat = d := by omega
    rw [e1]
    have e2 : signed false m d + signed false 0 (single.leastPlace + ((0 : Nat) : Int) - single.leastPlace).toNat = ((m * 2 ^ d : Nat) : Int) := by
      rw [signed_eq, signed_eq]; simp [sg]
    rw [e2]
    have e3 : (if ((m * 2 ^ d : Nat) : Int) = 0 then false && false else decide (((m * 2 ^ d : Nat) : Int) < 0)) = false := by
      split
      · rfl
      · exact decide_eq_false (by omega)
    rw [e3, show (((m * 2 ^ d : Nat) : Int)).natAbs = m * 2 ^ d from rfl]
    rw [nearest_exact single false (M := m) (d := d) (c := 0) h3 h4 (by rw [h5]; exact h) (by simp) (by omega), h5]
    exact hwx
  · rw [read_inf single (binade_le .f32) h]
    show single.word _ _ = x
    rw [← h]; exact hwx
theorem NN.zero : NN (canon .f32 0) := .inr (by decide +kernel)
theorem NN.gt {q : Nat} (hq : q < 2 ^ 32) (h : fcmp .gtr .f32 q (canon .f32 0) = true) : NN q := by
  cases hn : isNaN .f32 q with
  | true =>
    unfold fcmp at h
    rw [order_nan (.inl hn)] at h
    cases h
  | false =>
    have h0 : isNaN .f32 (canon .f32 0) = false := by decide +kernel
    have hr : rungOf single q ≤ single.infRung := by
      rcases Nat.lt_or_ge single.infRung (rungOf single q) with h' | h'
      · rw [isNaN_iff (k := .f32) |>.2 h'] at hn; cases hn
      · exact h'
    refine .inr ⟨hq, hr, ?_⟩
    unfold fcmp at h
    rw [order_num hn h0, show pos .f32 (canon .f32 0) = 0 from by decide +kernel] at h
    cases hs : negOf single q with
    | false => rfl
    | true =>
      exfalso
      have hp : pos .f32 q ≤ 0 := by
        show sg (negOf single q) (rungOf single q) ≤ 0
        rw [hs]; simp [sg]
      have : compare (pos .f32 q) 0 ≠ .gt := by
        simp only [compare, compareOfLessAndEq]
        split
        · simp
        · rw [if_pos (by omega)]; simp
      simp at h
      exact this h
theorem fop_lt (op : BinOp) (x y : Nat) : fop op .f32 x y < 2 ^ 32 := by
  unfold fop
  cases h : floatBits op .f32 x y with
  | none => exact qnan_lt .f32
  | some r =>
    have := floatBits_wf h
    simpa [Lit.wf] using this
/-- Words that stand for themselves: the NaN, or any other word. -/
def Cn (x : Nat) : Prop := x = qnan .f32 ∨ (x < 2 ^ 32 ∧ rungOf single x ≤ single.infRung)
theorem canon_Cn {b : Nat} (h : b < 2 ^ 32) : Cn (canon .f32 b) := by
  unfold canon
  split
  · exact .inl rfl
  · rename_i hn
    refine .inr ⟨h, ?_⟩
    rcases Nat.lt_or_ge single.infRung (rungOf single b) with h' | h'
    · exact absurd (isNaN_iff (k := .f32) |>.2 h') hn
    · exact h'
theorem write_Cn {d : Datum} (hn : d.isNaN = false) : Cn (single.write d) := by
  have hI : single.infRung < single.signWeight := by decide +kernel
  have hw : ∀ s r, r ≤ single.infRung → Cn (single.word s r) := fun s r hr => by
    refine .inr ⟨?_, by rw [rungOf_word _ _ (by omega)]; exact hr⟩
    have : single.signWeight + single.infRung < 2 ^ 32 := by decide +kernel
    unfold Format.word
    split <;> omega
  cases d with
  | nan s f => simp [Datum.isNaN] at hn
  | infinity s => exact hw _ _ (Nat.le_refl _)
  | number s m i =>
    show Cn (single.nearest s m i)
    unfold Format.nearest
    split
    · exact hw _ _ (Nat.zero_le _)
    · exact hw _ _ (Nat.min_le_right _ _)
theorem sum_notNaN {a b c : Datum} (h : a.sum b = some c) : c.isNaN = false := by
  cases a <;> cases b <;> simp only [Datum.sum] at h
  all_goals first
    | (cases h; rfl)
    | (split at h <;> cases h; rfl)
    | (cases h)
theorem sub_Cn (p q : Nat) : Cn (fop .sub .f32 p q) := by
  unfold fop floatBits
  show Cn ((single.sub p q).getD _)
  unfold Format.sub
  cases h : (single.read p).sum (single.read q).opposite with
  | none => exact .inl rfl
  | some c => exact write_Cn (sum_notNaN h)
/-- A number divided by 1. -/
theorem Cn.quo1 {x : Nat} (h : Cn x) : fop .quo .f32 x (canon .f32 1065353216) = x := by
  rcases h with rfl | ⟨hx, hr⟩
  · decide +kernel
  have h0 : single.read (canon .f32 1065353216) = .number false 8388608 (-23) := by decide +kernel
  unfold fop floatBits
  show (single.div x (canon .f32 1065353216)).getD _ = x
  unfold Format.div
  rw [h0]
  have hwx := word_of single (x := x) hx
  rcases Nat.lt_or_eq_of_le hr with h | h
  · obtain ⟨m, d, h1, h2, h3, h4, h5, _⟩ := read_fin single h
    rw [h1]
    have hB : single.binade = 8388608 := by decide +kernel
    have hlog : m.log2 ≤ 23 := by
      by_cases hm : m = 0
      · subst hm; decide
      · have : m.log2 < 24 := (Nat.log2_lt hm).2 (by rw [hB] at h3; omega)
        omega
    obtain ⟨e, he⟩ : ∃ e, e = single.fractionBits + 2 + (8388608 : Nat).log2 - m.log2 - 23 := ⟨_, rfl⟩
    have h23 : single.fractionBits + 2 + (8388608 : Nat).log2 - m.log2 = e + 23 := by
      have : (8388608 : Nat).log2 = 23 := by decide +kernel
      have : single.fractionBits = 23 := rfl
      omega
    have hd : m <<< (e + 23) = m * 2 ^ e * 8388608 := by rw [Nat.shiftLeft_eq, Nat.pow_add, ← Nat.mul_assoc]
    show (Option.map single.write (some (.number (negOf single x ^^ false) (2 * (m <<< (single.fractionBits + 2 + (8388608 : Nat).log2 - m.log2) / 8388608) + (m <<< (single.fractionBits + 2 + (8388608 : Nat).log2 - m.log2) % 8388608 != 0).toNat) (single.leastPlace + (d : Int) - (-23) - ((single.fractionBits + 2 + (8388608 : Nat).log2 - m.log2 : Nat) : Int) - 1)))).getD _ = x
    rw [h23, hd, Nat.mul_div_cancel _ (by decide), Nat.mul_mod_left, Bool.xor_false]
    show single.nearest _ _ _ = x
    rw [nearest_exact single (negOf single x) (M := m) (d := d) (c := e + 1) h3 h4 (by rw [h5]; exact h) ?_ (by omega), h5]
    · exact hwx
    · have e1 : (single.leastPlace + (d : Int) - (-23) - ((e + 23 : Nat) : Int) - 1 - single.leastPlace + ((e + 1 : Nat) : Int)).toNat = d := by omega
      rw [e1]
      show (2 * (m * 2 ^ e) + 0) * 2 ^ d = _
      rw [Nat.add_zero, show d + (e + 1) = e + 1 + d by omega, Nat.pow_add, Nat.pow_succ]
      simp only [Nat.mul_left_comm, Nat.mul_comm]
  · rw [read_inf single (binade_le .f32) h]
    show single.word _ _ = x
    rw [Bool.xor_false, ← h]; exact hwx
end Go.Bx
