/- What each function of this seat does (Bk3). Printed from templates of this seat's own. -/
import Derived.Test.YtddedcedkpigkaaSo2
import Derived.Test.YtddedcedkpigkaaBxL
namespace Go.Proofs.Ytddedcedkpigkaa
open Go.Ax Go.Bx
set_option maxRecDepth 8000
set_option linter.unusedSimpArgs false
set_option linter.unusedVariables false
/-! Buckets, in units: what a step loses, and how steps of sums go. -/
noncomputable def Qu : Int := ((2 ^ 115 : Nat) : Int)
theorem Zu_q : Zu = 17179869184 * Qu := by
  unfold Zu Qu
  rw [zOf_32, show 149 = 34 + 115 from rfl, Nat.pow_add, Int.natCast_mul]
  congr 1
theorem Qu_big : 16777216 ≤ Qu := by
  unfold Qu
  have h : (2 : Nat) ^ 24 ≤ 2 ^ 115 := Nat.pow_le_pow_right (by omega) (by omega)
  have : (2 : Nat) ^ 24 = 16777216 := rfl
  omega
theorem room1024 : ((16777216 * 2 ^ 135 : Nat) : Int) = 1024 * Zu := by
  unfold Zu
  rw [zOf_32, show 149 = 14 + 135 from rfl, Nat.pow_add, Int.natCast_mul, Int.natCast_mul]
  show (16777216 : Int) * _ = 1024 * (16384 * _)
  omega
theorem j135 : 135 ≤ zOf .f32 := by rw [zOf_32]; omega
theorem unit_nn {sh : Nat} (h : Unit .f32 false sh) : NN .f32 sh ∧ sv .f32 sh ≤ Zu := by
  obtain ⟨h1, h2, h3, h4⟩ := h.facts
  have : sv .f32 sh = (valR .f32 sh : Int) := by unfold sv; rw [h1]; rfl
  refine ⟨⟨h3, by rw [this]; omega⟩, ?_⟩
  rw [this]; unfold Zu; omega
theorem add_v {x y : Nat} {V e : Int} (hx : NN .f32 x) (hy : NN .f32 y) (hV : sv .f32 x + sv .f32 y ≤ V) (hb : V ≤ 1000 * Zu) (he : V + e + 16777216 ≤ 16777216 * e) :
    NN .f32 (fop .add .f32 x y) ∧ sv .f32 (fop .add .f32 x y) ≤ sv .f32 x + sv .f32 y + e ∧ sv .f32 x + sv .f32 y ≤ sv .f32 (fop .add .f32 x y) + e := by
  have hz := Zu_q
  have hq := Qu_big
  have g := add_near hx.1 hy.1 (N := 16777216) (j := 135) (by rw [bin32]; omega) j135 (by have := room1024; have := hx.2; have := hy.2; omega)
  have g0 := g.2.2.2.1 (by have := hx.2; have := hy.2; omega)
  have r := add_rel hx.1 hy.1 (by have := hx.2; have := hy.2; omega) g.1 g0
  refine ⟨⟨g.1, g0⟩, ?_, ?_⟩ <;> omega
theorem sub_v {x y : Nat} {V e : Int} (hx : NN .f32 x) (hy : NN .f32 y) (hxy : sv .f32 y ≤ sv .f32 x) (hV : sv .f32 x ≤ V + e) (hb : V + e ≤ 1000 * Zu) (he : V + e + 16777216 ≤ 16777216 * e) :
    NN .f32 (fop .sub .f32 x y) ∧ sv .f32 (fop .sub .f32 x y) ≤ sv .f32 x - sv .f32 y + e ∧ sv .f32 x - sv .f32 y ≤ sv .f32 (fop .sub .f32 x y) + e := by
  have hz := Zu_q
  have hq := Qu_big
  have g := sub_near hx.1 hy.1 (N := 16777216) (j := 135) (by rw [bin32]; omega) j135 (by have := room1024; have := hx.2; have := hy.2; omega)
  have g0 := g.2.2.2.1 (by omega)
  have r := sub_rel hx.1 hy.1 (by omega) g.1 g0
  have := hy.2
  refine ⟨⟨g.1, g0⟩, ?_, ?_⟩ <;> omega
theorem mul_v {x y : Nat} {V e : Int} (hx : NN .f32 x) (hy : NN .f32 y) (h1 : sv .f32 y ≤ Zu) (hV : sv .f32 x ≤ V + e) (hb : V + e ≤ 1000 * Zu) (he : V + e + 16777216 ≤ 16777216 * e) :
    NN .f32 (fop .mul .f32 x y) ∧ sv .f32 (fop .mul .f32 x y) ≤ sv .f32 x ∧ sv .f32 (fop .mul .f32 x y) * Zu ≤ sv .f32 x * sv .f32 y + e * Zu ∧ sv .f32 x * sv .f32 y ≤ sv .f32 (fop .mul .f32 x y) * Zu + e * Zu := by
  have hz := Zu_q
  have hq := Qu_big
  have hp : sv .f32 x * sv .f32 y ≤ sv .f32 x * Zu := Int.mul_le_mul_of_nonneg_left h1 hx.2
  have hw : sv .f32 x * Zu ≤ (1000 * Zu) * Zu := Int.mul_le_mul_of_nonneg_right (by omega) (by omega)
  have g := mul_near hx hy (N := 16777216) (j := 135) (by rw [bin32]; omega) j135 (by
    rw [Int.natCast_mul, room1024]
    show _ ≤ 1024 * Zu * Zu
    have : (1000 * Zu) * Zu ≤ (1024 * Zu) * Zu := Int.mul_le_mul_of_nonneg_right (by omega) (by omega)
    omega)
  have m := (mul_mono hx hy hx).1 hp g.1.1
  have r := mul_rel hx hy g.1
  have eZ : ((2 ^ zOf .f32 : Nat) : Int) = Zu := rfl
  rw [eZ] at r
  have k1 : sv .f32 x * Zu ≤ (V + e) * Zu := Int.mul_le_mul_of_nonneg_right hV (by omega)
  have k2 : (V + e + 16777216) * Zu ≤ (16777216 * e) * Zu := Int.mul_le_mul_of_nonneg_right he (by omega)
  have k3 : (V + e + 16777216) * Zu = (V + e) * Zu + 16777216 * Zu := Int.add_mul _ _ _
  have k4 : (16777216 * e) * Zu = 16777216 * (e * Zu) := Int.mul_assoc _ _ _
  refine ⟨g.1, m, ?_, ?_⟩
  · omega
  · omega
theorem mul_w {x y : Nat} {V e : Int} (hx : NN .f32 x) (hy : NN .f32 y) (hV : sv .f32 x * sv .f32 y ≤ V * Zu) (hb : V ≤ 1000 * Zu) (he : V + 16777216 ≤ 16777216 * e) :
    NN .f32 (fop .mul .f32 x y) ∧ sv .f32 (fop .mul .f32 x y) * Zu ≤ sv .f32 x * sv .f32 y + e * Zu ∧ sv .f32 x * sv .f32 y ≤ sv .f32 (fop .mul .f32 x y) * Zu + e * Zu := by
  have hz := Zu_q
  have hq := Qu_big
  have g := mul_near hx hy (N := 16777216) (j := 135) (by rw [bin32]; omega) j135 (by
    rw [Int.natCast_mul, room1024]
    show _ ≤ 1024 * Zu * Zu
    have : V * Zu ≤ (1024 * Zu) * Zu := Int.mul_le_mul_of_nonneg_right (by omega) (by omega)
    omega)
  have r := mul_rel hx hy g.1
  have eZ : ((2 ^ zOf .f32 : Nat) : Int) = Zu := rfl
  rw [eZ] at r
  have k2 : (V + 16777216) * Zu ≤ (16777216 * e) * Zu := Int.mul_le_mul_of_nonneg_right he (by omega)
  have k3 : (V + 16777216) * Zu = V * Zu + 16777216 * Zu := Int.add_mul _ _ _
  have k4 : (16777216 * e) * Zu = 16777216 * (e * Zu) := Int.mul_assoc _ _ _
  refine ⟨g.1, ?_, ?_⟩
  · omega
  · omega
/-- One bucket's step. -/
theorem bk_cell {n f sh : Nat} {V e : Int} (hn : NN .f32 n) (hf : NN .f32 f) (hs : Unit .f32 false sh) (hV : sv .f32 n + sv .f32 f ≤ V) (hb : V + e ≤ 1000 * Zu) (he : V + e + 16777216 ≤ 16777216 * e) :
    (NN .f32 (fop .add .f32 n f) ∧ NN .f32 (fop .mul .f32 (fop .add .f32 n f) sh) ∧ NN .f32 (fop .sub .f32 (fop .add .f32 n f) (fop .mul .f32 (fop .add .f32 n f) sh))) ∧
    (sv .f32 (fop .add .f32 n f) ≤ sv .f32 n + sv .f32 f + e ∧ sv .f32 n + sv .f32 f ≤ sv .f32 (fop .add .f32 n f) + e) ∧
    (sv .f32 (fop .mul .f32 (fop .add .f32 n f) sh) * Zu ≤ sv .f32 (fop .add .f32 n f) * sv .f32 sh + e * Zu ∧ sv .f32 (fop .add .f32 n f) * sv .f32 sh ≤ sv .f32 (fop .mul .f32 (fop .add .f32 n f) sh) * Zu + e * Zu) ∧
    (sv .f32 (fop .sub .f32 (fop .add .f32 n f) (fop .mul .f32 (fop .add .f32 n f) sh)) ≤ sv .f32 (fop .add .f32 n f) - sv .f32 (fop .mul .f32 (fop .add .f32 n f) sh) + e ∧ sv .f32 (fop .add .f32 n f) - sv .f32 (fop .mul .f32 (fop .add .f32 n f) sh) ≤ sv .f32 (fop .sub .f32 (fop .add .f32 n f) (fop .mul .f32 (fop .add .f32 n f) sh)) + e) := by
  have hz := Zu_q
  have hq := Qu_big
  have e0 : 0 ≤ e := by have := hn.2; have := hf.2; omega
  obtain ⟨a1, a2, a3⟩ := add_v hn hf hV (by omega) he
  obtain ⟨u1, u2⟩ := unit_nn hs
  obtain ⟨m1, m2, m3, m4⟩ := mul_v a1 u1 u2 (by omega) hb he
  obtain ⟨s1, s2, s3⟩ := sub_v a1 m1 m2 (by omega) hb he
  exact ⟨⟨a1, m1, s1⟩, ⟨a2, a3⟩, ⟨m3, m4⟩, s2, s3⟩
/-- Sums. -/
def sm (f : Nat → Int) : Nat → Int
  | 0 => 0
  | n + 1 => sm f n + f n
theorem sm_congr {f g : Nat → Int} : ∀ n, (∀ i, i < n → f i = g i) → sm f n = sm g n
  | 0, _ => rfl
  | n + 1, h => by rw [sm, sm, sm_congr n fun i hi => h i (by omega), h n (by omega)]
theorem sm_nn {f : Nat → Int} : ∀ n, (∀ i, i < n → 0 ≤ f i) → 0 ≤ sm f n
  | 0, _ => Int.le_refl _
  | n + 1, h => by have := sm_nn n fun i hi => h i (by omega); have := h n (by omega); rw [sm]; omega
theorem sm_mono {f : Nat → Int} {m : Nat} : ∀ n, m ≤ n → (∀ i, i < n → 0 ≤ f i) → sm f m ≤ sm f n
  | 0, hm, _ => by rw [show m = 0 by omega]; exact Int.le_refl _
  | n + 1, hm, h => by
    by_cases hh : m = n + 1
    · rw [hh]; exact Int.le_refl _
    · have := sm_mono (f := f) (m := m) n (by omega) fun i hi => h i (by omega)
      have := h n (by omega)
      rw [sm]; omega
theorem sm_le {f : Nat → Int} {c : Int} : ∀ n : Nat, (∀ i, i < n → f i ≤ c) → sm f n ≤ n * c
  | 0, _ => by simp [sm]
  | n + 1, h => by
    have h1 := sm_le n fun i hi => h i (by omega)
    have h2 := h n (by omega)
    rw [sm, Int.natCast_add, Int.add_mul]
    simp only [Int.natCast_one, Int.one_mul]
    omega
def cv (R f : Nat → Int) (t : Nat) : Int := sm (fun i => R i * f (t - i)) (t + 1)
theorem cv_succ (R f : Nat → Int) (t : Nat) : cv R f (t + 1) = cv R (fun j => f (j + 1)) t + R (t + 1) * f 0 := by
  unfold cv
  rw [sm, Nat.sub_self]
  congr 1
  apply sm_congr
  intro i hi
  dsimp only
  rw [show t + 1 - i = t - i + 1 by omega]
theorem cv_lin {R f g h : Nat → Int} {a b c e : Int} (hR : ∀ i, 0 ≤ R i) (t : Nat) (H : ∀ j, j ≤ t → a * f j + b * g j + c * h j ≤ e ∧ -e ≤ a * f j + b * g j + c * h j) :
    a * cv R f t + b * cv R g t + c * cv R h t ≤ e * sm R (t + 1) ∧ -(e * sm R (t + 1)) ≤ a * cv R f t + b * cv R g t + c * cv R h t := by
  unfold cv
  generalize hn : t + 1 = n
  have : ∀ n, n ≤ t + 1 → a * sm (fun i => R i * f (t - i)) n + b * sm (fun i => R i * g (t - i)) n + c * sm (fun i => R i * h (t - i)) n ≤ e * sm R n ∧ -(e * sm R n) ≤ a * sm (fun i => R i * f (t - i)) n + b * sm (fun i => R i * g (t - i)) n + c * sm (fun i => R i * h (t - i)) n := by
    intro n
    induction n with
    | zero => intro _; simp [sm]
    | succ n ih =>
      intro hn
      obtain ⟨i1, i2⟩ := ih (by omega)
      obtain ⟨h1, h2⟩ := H (t - n) (by omega)
      have k1 := Int.mul_le_mul_of_nonneg_left h1 (hR n)
      have k2 := Int.mul_le_mul_of_nonneg_left h2 (hR n)
      simp only [sm, Int.mul_add, Int.mul_neg] at k1 k2 ⊢
      rw [Int.mul_left_comm (R n) a, Int.mul_left_comm (R n) b, Int.mul_left_comm (R n) c, Int.mul_comm (R n) e] at k1
      rw [Int.mul_left_comm (R n) a, Int.mul_left_comm (R n) b, Int.mul_left_comm (R n) c, Int.mul_comm (R n) e] at k2
      omega
  exact this n (by omega)
theorem cell_abs {T S E dm df dn dg dk : Int} (hT : 0 < T) (hS : 0 ≤ S) (hST : S ≤ T) (h1 : dm - dn - df ≤ E) (h1' : -E ≤ dm - dn - df) (h2 : dg * T - dm * S ≤ E * T) (h2' : -(E * T) ≤ dg * T - dm * S) (h3 : dk - dm + dg ≤ E) (h3' : -E ≤ dk - dm + dg) :
    dk.natAbs + dg.natAbs ≤ dn.natAbs + df.natAbs + 4 * E := by
  have c1 : ∀ {a b : Int}, a * T ≤ b * T → a ≤ b := fun h => Int.le_of_mul_le_mul_right h hT
  by_cases g : 0 ≤ dm
  · have k1 : dm * S ≤ dm * T := Int.mul_le_mul_of_nonneg_left hST g
    have k2 : 0 ≤ dm * S := Int.mul_nonneg g hS
    have m1 : dg ≤ dm + E := c1 (by rw [Int.add_mul]; omega)
    have m2 : -E ≤ dg := c1 (by rw [Int.neg_mul]; omega)
    omega
  · have k1 : (-dm) * S ≤ (-dm) * T := Int.mul_le_mul_of_nonneg_left hST (by omega)
    have k2 : 0 ≤ (-dm) * S := Int.mul_nonneg (by omega) hS
    rw [Int.neg_mul, Int.neg_mul] at k1
    rw [Int.neg_mul] at k2
    have m1 : dg ≤ E := c1 (by omega)
    have m2 : dm - E ≤ dg := c1 (by rw [Int.sub_mul]; omega)
    omega
section
variable {T S eU : Int} {R : Nat → Int} {eX : Nat → Int} {nX fX mX nU fU mU : Nat → Nat → Int} {n N : Nat}
/-- Steps of a sum are sums of steps, nearly. -/
theorem super (hT : 0 < T) (hS : 0 ≤ S) (hST : S ≤ T) (hR : ∀ i, 0 ≤ R i)
    (A1 : ∀ t b, t < N → b < n → mX t b - nX t b - fX t b ≤ eX t ∧ -(eX t) ≤ mX t b - nX t b - fX t b)
    (A2 : ∀ t b, t < N → b < n → fX t (b + 1) * T - mX t b * S ≤ eX t * T ∧ -(eX t * T) ≤ fX t (b + 1) * T - mX t b * S)
    (A3 : ∀ t b, t < N → b < n → nX (t + 1) b - mX t b + fX t (b + 1) ≤ eX t ∧ -(eX t) ≤ nX (t + 1) b - mX t b + fX t (b + 1))
    (B1 : ∀ t b, t < N → b < n → mU t b - nU t b - fU t b ≤ eU ∧ -eU ≤ mU t b - nU t b - fU t b)
    (B2 : ∀ t b, t < N → b < n → fU t (b + 1) * T - mU t b * S ≤ eU * T ∧ -(eU * T) ≤ fU t (b + 1) * T - mU t b * S)
    (B3 : ∀ t b, t < N → b < n → nU (t + 1) b - mU t b + fU t (b + 1) ≤ eU ∧ -eU ≤ nU (t + 1) b - mU t b + fU t (b + 1))
    (z1 : ∀ b, b < n → nX 0 b = 0) (z2 : ∀ b, b < n → nU 0 b = 0) (z3 : ∀ t, t < N → 4 * fX t 0 = R t * fU 0 0) (z4 : ∀ j, 0 < j → j < N → fU j 0 = 0)
    (G : Nat → Int) (g0 : G 0 = 0) (gs : ∀ t, t < N → G t + n * (4 * (4 * eX t + eU * sm R (t + 1))) ≤ G (t + 1)) :
    ∀ t, t < N → ((sm (fun b => ((4 * nX (t + 1) b - cv R (fun j => nU (j + 1) b) t).natAbs : Int)) n) + (4 * fX t n - cv R (fun j => fU j n) t).natAbs ≤ G (t + 1)) := by
  have step : ∀ t, t < N → (sm (fun b => ((4 * nX t b - cv R (fun j => nU j b) t).natAbs : Int)) n) ≤ G t → ((sm (fun b => ((4 * nX (t + 1) b - cv R (fun j => nU (j + 1) b) t).natAbs : Int)) n) + (4 * fX t n - cv R (fun j => fU j n) t).natAbs ≤ G (t + 1)) := by
    intro t ht hG
    have d0 : 4 * fX t 0 - cv R (fun j => fU j 0) t = 0 := by
      rw [z3 t ht]
      unfold cv
      rw [sm, Nat.sub_self]
      have : sm (fun i => R i * fU (t - i) 0) t = 0 := by
        have h0 : ∀ k, k ≤ t → sm (fun i => R i * fU (t - i) 0) k = 0 := by
          intro k
          induction k with
          | zero => intro _; rfl
          | succ k ih =>
            intro hk
            rw [sm, ih (by omega), z4 (t - k) (by omega) (by omega)]
            simp
        exact h0 t (Nat.le_refl _)
      rw [this]; dsimp only; omega
    have inner : ∀ k : Nat, k ≤ n → (sm (fun b => ((4 * nX (t + 1) b - cv R (fun j => nU (j + 1) b) t).natAbs : Int)) k) + (4 * fX t k - cv R (fun j => fU j k) t).natAbs ≤ (sm (fun b => ((4 * nX t b - cv R (fun j => nU j b) t).natAbs : Int)) k) + k * (4 * (4 * eX t + eU * sm R (t + 1))) := by
      intro k
      induction k with
      | zero => intro _; rw [d0]; simp [sm]
      | succ k ih =>
        intro hk
        have ih := ih (by omega)
        have a1 := A1 t k ht (by omega)
        have a2 := A2 t k ht (by omega)
        have a3 := A3 t k ht (by omega)
        have b1 := cv_lin (R := R) (f := fun j => mU j k) (g := fun j => nU j k) (h := fun j => fU j k) (a := 1) (b := -1) (c := -1) (e := eU) hR t fun j hj => by have := B1 j k (by omega) (by omega); omega
        have b2 := cv_lin (R := R) (f := fun j => fU j (k + 1)) (g := fun j => mU j k) (h := fun _ => 0) (a := T) (b := -S) (c := 0) (e := eU * T) hR t fun j hj => by
          have := B2 j k (by omega) (by omega)
          rw [Int.mul_comm T, Int.neg_mul, Int.mul_comm S]; omega
        have b3 := cv_lin (R := R) (f := fun j => nU (j + 1) k) (g := fun j => mU j k) (h := fun j => fU j (k + 1)) (a := 1) (b := -1) (c := 1) (e := eU) hR t fun j hj => by have := B3 j k (by omega) (by omega); omega
        have c := cell_abs (T := T) (S := S) (E := 4 * eX t + eU * sm R (t + 1)) (dm := 4 * mX t k - cv R (fun j => mU j k) t) (df := 4 * fX t k - cv R (fun j => fU j k) t) (dn := 4 * nX t k - cv R (fun j => nU j k) t) (dg := 4 * fX t (k + 1) - cv R (fun j => fU j (k + 1)) t) (dk := 4 * nX (t + 1) k - cv R (fun j => nU (j + 1) k) t) hT hS hST (by omega) (by omega)
          (by
            have e1 : eU * T * sm R (t + 1) = eU * sm R (t + 1) * T := Int.mul_right_comm _ _ _
            rw [e1, Int.mul_comm T, Int.neg_mul, Int.mul_comm S] at b2
            rw [Int.sub_mul, Int.sub_mul, Int.add_mul, Int.mul_assoc 4, Int.mul_assoc 4, Int.mul_assoc 4]
            omega)
          (by
            have e1 : eU * T * sm R (t + 1) = eU * sm R (t + 1) * T := Int.mul_right_comm _ _ _
            rw [e1, Int.mul_comm T, Int.neg_mul, Int.mul_comm S] at b2
            rw [Int.sub_mul, Int.sub_mul, Int.add_mul, Int.mul_assoc 4, Int.mul_assoc 4, Int.mul_assoc 4]
            omega) (by omega) (by omega)
        have sE : ∀ f : Nat → Int, sm f (k + 1) = sm f k + f k := fun _ => rfl
        have ek : ((k + 1 : Nat) : Int) * (4 * (4 * eX t + eU * sm R (t + 1))) = k * (4 * (4 * eX t + eU * sm R (t + 1))) + 4 * (4 * eX t + eU * sm R (t + 1)) := by rw [Int.natCast_add, Int.add_mul]; simp
        rw [sE, sE, ek]
        omega
    have := inner n (Nat.le_refl _)
    have := gs t ht
    omega
  intro t
  induction t with
  | zero =>
    intro ht
    refine step 0 ht ?_
    rw [g0]
    have : ∀ k, k ≤ n → sm (fun b => ((4 * nX 0 b - cv R (fun j => nU j b) 0).natAbs : Int)) k = 0 := by
      intro k
      induction k with
      | zero => intro _; rfl
      | succ k ih =>
        intro hk
        rw [sm, ih (by omega), z1 k (by omega)]
        simp [cv, sm, z2 k (by omega)]
    rw [this n (Nat.le_refl _)]
    exact Int.le_refl _
  | succ t ih =>
    intro ht
    have ih := ih (by omega)
    refine step (t + 1) ht ?_
    have : sm (fun b => ((4 * nX (t + 1) b - cv R (fun j => nU j b) (t + 1)).natAbs : Int)) n = sm (fun b => ((4 * nX (t + 1) b - cv R (fun j => nU (j + 1) b) t).natAbs : Int)) n := by
      apply sm_congr
      intro b hb
      rw [cv_succ, z2 b hb, Int.mul_zero, Int.add_zero]
    rw [this]
    omega
end

end Go.Proofs.Ytddedcedkpigkaa
