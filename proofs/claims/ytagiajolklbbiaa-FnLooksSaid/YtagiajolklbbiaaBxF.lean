/- The floats of the model with all not-a-numbers taken as one: what the operations give on such numbers. -/
import Derived.WalkKit
import Derived.WalkLawsBesides
namespace Go.Ax

def isNaN (k : FloatKind) (b : Nat) : Bool := (k.format.read b).isNaN
def qnan : FloatKind → Nat
  | .f32 => 0x7fc00000
  | .f64 => 0x7ff8000000000000
def canon (k : FloatKind) (b : Nat) : Nat := if isNaN k b then qnan k else b
/-- The bits 'b' are those of the number 'x', whichever not-a-number it is. -/
def Fl (k : FloatKind) (b x : Nat) : Prop := b < 2 ^ k.format.width ∧ canon k b = x
/-- '+', '-', '*', '/'. -/
def fop (op : BinOp) (k : FloatKind) (x y : Nat) : Nat := (floatBits op k x y).getD (qnan k)

theorem isNaN_qnan (k : FloatKind) : isNaN k (qnan k) = true := by cases k <;> decide +kernel
theorem qnan_lt (k : FloatKind) : qnan k < 2 ^ k.format.width := by cases k <;> decide +kernel

theorem Fl.nan {k : FloatKind} {b x : Nat} (h : Fl k b x) : isNaN k x = isNaN k b := by
  obtain ⟨_, h⟩ := h
  unfold canon at h
  split at h
  · rename_i hn; rw [← h, isNaN_qnan, hn]
  · rw [h]
theorem Fl.eq {k : FloatKind} {b x : Nat} (h : Fl k b x) (hn : isNaN k b = false) : b = x := by
  obtain ⟨_, h⟩ := h
  simpa [canon, hn] using h
theorem Fl.nan_eq {k : FloatKind} {b x : Nat} (h : Fl k b x) (hn : isNaN k b = true) : x = qnan k := by
  obtain ⟨_, h⟩ := h
  simpa [canon, hn] using h.symm
theorem Fl.canon {k : FloatKind} {b : Nat} (h : b < 2 ^ k.format.width) : Fl k b (canon k b) := ⟨h, rfl⟩
theorem Fl.lt {k : FloatKind} {b x : Nat} (h : Fl k b x) : x < 2 ^ k.format.width := by
  cases hn : isNaN k b with
  | false => rw [← h.eq hn]; exact h.1
  | true => rw [h.nan_eq hn]; exact qnan_lt k
theorem Fl.canon_eq {k : FloatKind} {b x : Nat} (h : Fl k b x) : Ax.canon k x = x := by
  cases hn : isNaN k b with
  | false => have e := h.eq hn; subst e; simp [Ax.canon, hn]
  | true => rw [h.nan_eq hn]; simp [Ax.canon, isNaN_qnan]

theorem read_of_nan {k : FloatKind} {b : Nat} (h : isNaN k b = true) : ∃ s f, k.format.read b = .nan s f := by
  unfold isNaN Ieee.Datum.isNaN at h
  cases hr : k.format.read b <;> simp [hr] at h
  exact ⟨_, _, rfl⟩

/-- A fact of the word of a rung up to infinity's: it is no NaN. -/
theorem read_word (f : Ieee.Format) (neg : Bool) {rung : Nat} (h : rung ≤ f.infRung) : (f.read (f.word neg rung)).isNaN = false := by
  have hlt := f.infRung_lt
  have hm : f.word neg rung % f.signWeight = rung := by
    unfold Ieee.Format.word
    split
    · rw [Nat.add_mod_left]; exact Nat.mod_eq_of_lt (by omega)
    · exact Nat.mod_eq_of_lt (by omega)
  unfold Ieee.Format.read
  simp only [hm]
  split
  · rfl
  · split
    · rfl
    · split
      · rfl
      · omega
theorem nearest_notNaN (f : Ieee.Format) (neg : Bool) (mag : Nat) (place : Int) : (f.read (f.nearest neg mag place)).isNaN = false := by
  unfold Ieee.Format.nearest
  dsimp only
  split
  · exact read_word f neg (Nat.zero_le _)
  · exact read_word f neg (Nat.min_le_right ..)
theorem write_notNaN (f : Ieee.Format) {d : Ieee.Datum} (h : d.isNaN = false) : (f.read (f.write d)).isNaN = false := by
  cases d with
  | number neg mag place => exact nearest_notNaN f neg mag place
  | infinity neg => exact read_word f neg (Nat.le_refl _)
  | nan s t => simp [Ieee.Datum.isNaN] at h

theorem sum_notNaN {a b d : Ieee.Datum} (h : a.sum b = some d) : d.isNaN = false := by
  cases a <;> cases b <;> simp only [Ieee.Datum.sum] at h
  all_goals first
    | (cases h; done)
    | (cases h; rfl)
    | (split at h
       · cases h; rfl
       · cases h)
theorem product_notNaN {a b d : Ieee.Datum} (h : a.product b = some d) : d.isNaN = false := by
  cases a <;> cases b <;> simp only [Ieee.Datum.product] at h
  all_goals first
    | (cases h; done)
    | (cases h; rfl)
    | (split at h
       · cases h
       · cases h; rfl)
theorem quotient_notNaN {n : Nat} {a b d : Ieee.Datum} (h : a.quotient n b = some d) : d.isNaN = false := by
  cases a <;> cases b <;> simp only [Ieee.Datum.quotient] at h
  all_goals first
    | (cases h; done)
    | (cases h; rfl)
    | (split at h
       · split at h
         · cases h
         · cases h; rfl
       · cases h; rfl)
theorem root_notNaN {n : Nat} {a d : Ieee.Datum} (h : a.root n = some d) : d.isNaN = false := by
  cases a <;> simp only [Ieee.Datum.root] at h
  · split at h
    · cases h; rfl
    · split at h
      · cases h
      · cases h; rfl
  · split at h
    · cases h
    · cases h; rfl
  · cases h

theorem floatBits_notNaN {op : BinOp} {k : FloatKind} {x y r : Nat} (h : floatBits op k x y = some r) : isNaN k r = false := by
  unfold floatBits at h
  split at h
  · simp only [Ieee.Format.add, Option.map_eq_some_iff] at h
    obtain ⟨d, hd, rfl⟩ := h; exact write_notNaN _ (sum_notNaN hd)
  · simp only [Ieee.Format.sub, Option.map_eq_some_iff] at h
    obtain ⟨d, hd, rfl⟩ := h; exact write_notNaN _ (sum_notNaN hd)
  · simp only [Ieee.Format.mul, Option.map_eq_some_iff] at h
    obtain ⟨d, hd, rfl⟩ := h; exact write_notNaN _ (product_notNaN hd)
  · simp only [Ieee.Format.div, Option.map_eq_some_iff] at h
    obtain ⟨d, hd, rfl⟩ := h; exact write_notNaN _ (quotient_notNaN hd)
  · cases h
theorem floatBits_lt {op : BinOp} {k : FloatKind} {x y r : Nat} (h : floatBits op k x y = some r) : r < 2 ^ k.format.width := by
  have := floatBits_wf h
  cases k <;> simp only [Lit.wf, decide_eq_true_eq] at this <;> exact this

theorem sum_nan_left (s : Bool) (f : Nat) (d : Ieee.Datum) : (Ieee.Datum.nan s f).sum d = none := by cases d <;> rfl
theorem sum_nan_right (s : Bool) (f : Nat) (d : Ieee.Datum) : d.sum (Ieee.Datum.nan s f) = none := by cases d <;> rfl
theorem product_nan_left (s : Bool) (f : Nat) (d : Ieee.Datum) : (Ieee.Datum.nan s f).product d = none := by cases d <;> rfl
theorem product_nan_right (s : Bool) (f : Nat) (d : Ieee.Datum) : d.product (Ieee.Datum.nan s f) = none := by cases d <;> rfl
theorem quotient_nan_left (n : Nat) (s : Bool) (f : Nat) (d : Ieee.Datum) : (Ieee.Datum.nan s f).quotient n d = none := by cases d <;> rfl
theorem quotient_nan_right (n : Nat) (s : Bool) (f : Nat) (d : Ieee.Datum) : d.quotient n (Ieee.Datum.nan s f) = none := by cases d <;> rfl
theorem order_nan_left (s : Bool) (f : Nat) (d : Ieee.Datum) : (Ieee.Datum.nan s f).order d = none := by cases d <;> rfl
theorem order_nan_right (s : Bool) (f : Nat) (d : Ieee.Datum) : d.order (Ieee.Datum.nan s f) = none := by cases d <;> rfl

theorem floatBits_nan_left (op : BinOp) {k : FloatKind} {a : Nat} (b : Nat) (h : isNaN k a = true) : floatBits op k a b = none := by
  obtain ⟨s, f, hr⟩ := read_of_nan h
  unfold floatBits
  cases op <;> simp only [Ieee.Format.add, Ieee.Format.sub, Ieee.Format.mul, Ieee.Format.div, hr, sum_nan_left, product_nan_left, quotient_nan_left, Option.map_none]
theorem floatBits_nan_right (op : BinOp) {k : FloatKind} (a : Nat) {b : Nat} (h : isNaN k b = true) : floatBits op k a b = none := by
  obtain ⟨s, f, hr⟩ := read_of_nan h
  unfold floatBits
  cases op <;> simp only [Ieee.Format.add, Ieee.Format.sub, Ieee.Format.mul, Ieee.Format.div, hr, Ieee.Datum.opposite, sum_nan_right, product_nan_right, quotient_nan_right, Option.map_none]

theorem floatBits_canon (op : BinOp) {k : FloatKind} {a b x y : Nat} (ha : Fl k a x) (hb : Fl k b y) : floatBits op k a b = floatBits op k x y := by
  cases hna : isNaN k a with
  | true => rw [floatBits_nan_left op b hna, floatBits_nan_left op y (by rw [ha.nan, hna])]
  | false =>
    cases hnb : isNaN k b with
    | true => rw [floatBits_nan_right op a hnb, floatBits_nan_right op x (by rw [hb.nan, hnb])]
    | false => rw [ha.eq hna, hb.eq hnb]

theorem order_canon {k : FloatKind} {a b x y : Nat} (ha : Fl k a x) (hb : Fl k b y) : k.format.order a b = k.format.order x y := by
  have L : ∀ (a b : Nat), isNaN k a = true → k.format.order a b = none := fun a b h => by
    obtain ⟨s, f, hr⟩ := read_of_nan h; simp only [Ieee.Format.order, hr, order_nan_left]
  have R : ∀ (a b : Nat), isNaN k b = true → k.format.order a b = none := fun a b h => by
    obtain ⟨s, f, hr⟩ := read_of_nan h; simp only [Ieee.Format.order, hr, order_nan_right]
  cases hna : isNaN k a with
  | true => rw [L a b hna, L x y (by rw [ha.nan, hna])]
  | false =>
    cases hnb : isNaN k b with
    | true => rw [R a b hnb, R x y (by rw [hb.nan, hnb])]
    | false => rw [ha.eq hna, hb.eq hnb]

/-- The bits that the tape gives for a NaN are those of a NaN. -/
theorem nan32 (t : Nat) : Fl .f32 ((t % 2) * 2 ^ 31 + 0x7f800000 + 1 + (t / 2) % (2 ^ 23 - 1)) (qnan .f32) := by
  have hr : (t / 2) % (2 ^ 23 - 1) < 2 ^ 23 - 1 := Nat.mod_lt _ (by decide)
  have h2 : t % 2 = 0 ∨ t % 2 = 1 := by omega
  generalize (t / 2) % (2 ^ 23 - 1) = r at hr ⊢
  have hn : isNaN .f32 ((t % 2) * 2 ^ 31 + 0x7f800000 + 1 + r) = true := by
    unfold isNaN Ieee.Format.read
    have e1 : FloatKind.f32.format.signWeight = 2147483648 := by decide +kernel
    have e2 : FloatKind.f32.format.binade = 8388608 := by decide +kernel
    have e3 : FloatKind.f32.format.infRung = 2139095040 := by decide +kernel
    have em : ((t % 2) * 2 ^ 31 + 0x7f800000 + 1 + r) % 2147483648 = 2139095041 + r := by omega
    simp only [e1, e2, e3, em]
    rw [if_neg (by omega), if_neg (by omega), if_neg (by omega)]
    rfl
  refine ⟨?_, by simp [canon, hn]⟩
  show _ < 2 ^ 32
  omega
theorem nan64 (t : Nat) : Fl .f64 ((t % 2) * 2 ^ 63 + 0x7ff0000000000000 + 1 + (t / 2) % (2 ^ 52 - 1)) (qnan .f64) := by
  have hr : (t / 2) % (2 ^ 52 - 1) < 2 ^ 52 - 1 := Nat.mod_lt _ (by decide)
  have h2 : t % 2 = 0 ∨ t % 2 = 1 := by omega
  generalize (t / 2) % (2 ^ 52 - 1) = r at hr ⊢
  have hn : isNaN .f64 ((t % 2) * 2 ^ 63 + 0x7ff0000000000000 + 1 + r) = true := by
    unfold isNaN Ieee.Format.read
    have e1 : FloatKind.f64.format.signWeight = 9223372036854775808 := by decide +kernel
    have e2 : FloatKind.f64.format.binade = 4503599627370496 := by decide +kernel
    have e3 : FloatKind.f64.format.infRung = 9218868437227405312 := by decide +kernel
    have em : ((t % 2) * 2 ^ 63 + 0x7ff0000000000000 + 1 + r) % 9223372036854775808 = 9218868437227405313 + r := by omega
    simp only [e1, e2, e3, em]
    rw [if_neg (by omega), if_neg (by omega), if_neg (by omega)]
    rfl
  refine ⟨?_, by simp [canon, hn]⟩
  show _ < 2 ^ 64
  omega

/-- '+', '-', '*', '/' as the walk meets them: the world changes in its count of draws alone. -/
theorem run_fop {P : Program} (w : World) {op : BinOp} (hop : op = .add ∨ op = .sub ∨ op = .mul ∨ op = .quo) (t : TypeId) {k : FloatKind} {a b x y : Nat} (ha : Fl k a x) (hb : Fl k b y) :
    ∃ r d, (binOp op t (.float k a) (.float k b)).run P w = .ok (.float k r) { w with drawn := d } ∧ Fl k r (fop op k x y) := by
  have hc := floatBits_canon op ha hb
  cases h : floatBits op k a b with
  | some r =>
    refine ⟨r, w.drawn, run_float_arith w op t k a b r h, floatBits_lt h, ?_⟩
    rw [fop, ← hc, h]
    simp [canon, floatBits_notNaN h]
  | none =>
    have hf : fop op k x y = qnan k := by rw [fop, ← hc, h]; rfl
    rw [hf]
    have hrun : (binOp op t (.float k a) (.float k b)).run P w = .ok (.float k ((Question.nanBits k a b).cut (w.tape w.drawn (.nanBits k a b)))) { w with drawn := w.drawn + 1 } := by
      unfold floatBits at h
      rcases hop with rfl | rfl | rfl | rfl <;> simp only at h <;> simp [binOp, Op.floatArith, h, Question.forced]
    refine ⟨_, _, hrun, ?_⟩
    cases k with
    | f32 => exact nan32 _
    | f64 => exact nan64 _

#print axioms run_fop
end Go.Ax
