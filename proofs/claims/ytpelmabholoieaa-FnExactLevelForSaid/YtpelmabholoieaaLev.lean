/- What each function of this seat does (Lev). Printed from templates of this seat's own. -/
import Derived.Test.YtpelmabholoieaaUni
namespace Go.Proofs.Ytpelmabholoieaa
open Go.Ax Go.Bx
set_option maxRecDepth 8000
set_option linter.unusedSimpArgs false
set_option linter.unusedVariables false
/-! Numbers against whole numbers. -/
def tbl (n : Nat) : Nat := rungOf FloatKind.f64.format (floatOfInt .f64 n)
theorem tbl_val {n : Nat} (h : n ≤ 200) : rungV FloatKind.f64.format.binade (tbl n) = n * 2 ^ zOf .f64 ∧ tbl n < FloatKind.f64.format.infRung := by
  have : ∀ n, n < 201 → rungV FloatKind.f64.format.binade (tbl n) = n * 2 ^ zOf .f64 ∧ tbl n < FloatKind.f64.format.infRung := by decide +kernel
  exact this n (by omega)
theorem foi_pos {n : Nat} (h : n ≤ 200) : Ax.Fin .f64 (foi .f64 n) ∧ negOf FloatKind.f64.format (foi .f64 n) = false ∧ valR .f64 (foi .f64 n) = n * 2 ^ zOf .f64 := by
  have : ∀ n, n < 201 → rungOf FloatKind.f64.format (floatOfInt .f64 (n : Nat)) < FloatKind.f64.format.infRung ∧ negOf FloatKind.f64.format (floatOfInt .f64 (n : Nat)) = false ∧ valR .f64 (floatOfInt .f64 (n : Nat)) = n * 2 ^ zOf .f64 := by decide +kernel
  rw [foi_eq]
  exact this n (by omega)
theorem foi_neg {n : Nat} (h : n ≤ 200) (h0 : 0 < n) : Ax.Fin .f64 (foi .f64 (-(n : Int))) ∧ negOf FloatKind.f64.format (foi .f64 (-(n : Int))) = true ∧ valR .f64 (foi .f64 (-(n : Int))) = n * 2 ^ zOf .f64 := by
  have : ∀ n, n < 200 → rungOf FloatKind.f64.format (floatOfInt .f64 (-((n + 1 : Nat) : Int))) < FloatKind.f64.format.infRung ∧ negOf FloatKind.f64.format (floatOfInt .f64 (-((n + 1 : Nat) : Int))) = true ∧ valR .f64 (floatOfInt .f64 (-((n + 1 : Nat) : Int))) = (n + 1) * 2 ^ zOf .f64 := by decide +kernel
  rw [foi_eq]
  have h1 := this (n - 1) (by omega)
  rw [show n - 1 + 1 = n by omega] at h1
  exact h1
theorem foi_up {n : Nat} (h : n < 200) : fop .add .f64 (foi .f64 n) (canon .f64 4607182418800017408) = foi .f64 ((n : Int) + 1) := by
  have : ∀ n, n < 200 → fop .add .f64 (floatOfInt .f64 (n : Nat)) (canon .f64 4607182418800017408) = floatOfInt .f64 ((n : Int) + 1) := by decide +kernel
  rw [foi_eq, foi_eq]
  exact this n h
theorem foi_dn {n : Nat} (h : n < 200) : fop .sub .f64 (foi .f64 (-(n : Int))) (canon .f64 4607182418800017408) = foi .f64 (-(n : Int) - 1) := by
  have : ∀ n : Nat, n < 200 → fop .sub .f64 (floatOfInt .f64 (-(n : Int))) (canon .f64 4607182418800017408) = floatOfInt .f64 (-(n : Int) - 1) := by decide +kernel
  rw [foi_eq, foi_eq]
  exact this n h
theorem foi_zero : foi .f64 0 = canon .f64 0 := by rw [foi_eq]; decide +kernel
def AbsI (x n : Nat) : Prop := Ax.Fin .f64 x ∧ valR .f64 x ≤ n * 2 ^ zOf .f64
theorem word64 {s : Bool} {r q : Nat} (h : r ≤ q) (hq : q < FloatKind.f64.format.infRung) : Ax.Fin .f64 (FloatKind.f64.format.word s r) ∧ negOf FloatKind.f64.format (FloatKind.f64.format.word s r) = s ∧ rungOf FloatKind.f64.format (FloatKind.f64.format.word s r) = r ∧ valR .f64 (FloatKind.f64.format.word s r) ≤ rungV FloatKind.f64.format.binade q := by
  obtain ⟨f1, f2⟩ := word_facts (k := .f64) (s := s) (r := r) (by omega)
  refine ⟨by unfold Ax.Fin; rw [f2]; omega, f1, f2, ?_⟩
  unfold valR
  rw [f2]
  exact (rungV_le_iff (binade_pos _)).2 h
theorem absI_word {s : Bool} {r n : Nat} (h : r ≤ tbl n) (hn : n ≤ 200) : AbsI (FloatKind.f64.format.word s r) n := by
  obtain ⟨t1, t2⟩ := tbl_val hn
  obtain ⟨w1, _, _, w4⟩ := word64 (s := s) h t2
  rw [t1] at w4
  exact ⟨w1, w4⟩
theorem absI_mul {x y a b : Nat} (hx : AbsI x a) (hy : AbsI y b) (h : a * b ≤ 200) : AbsI (fop .mul .f64 x y) (a * b) := by
  obtain ⟨r, r1, r2, r3, r4⟩ := mul_sides hx.1 hy.1
  rw [r1]
  refine absI_word (r3 _ ?_) h
  rw [(tbl_val h).1]
  have := Nat.mul_le_mul hx.2 hy.2
  rw [Nat.mul_mul_mul_comm] at this
  rwa [Nat.mul_assoc (a * b)]
theorem posI_add {x y a b : Nat} (hx : AbsI x a) (hy : AbsI y b) (nx : negOf FloatKind.f64.format x = false) (ny : negOf FloatKind.f64.format y = false) (h : a + b ≤ 200) : AbsI (fop .add .f64 x y) (a + b) ∧ negOf FloatKind.f64.format (fop .add .f64 x y) = false := by
  obtain ⟨r, r1, r2, r3, r4⟩ := add_sides hx.1 hy.1
  have sx : sv .f64 x = (valR .f64 x : Int) := by unfold sv; rw [nx]; rfl
  have sy : sv .f64 y = (valR .f64 y : Int) := by unfold sv; rw [ny]; rfl
  have hs : (if sv .f64 x + sv .f64 y = 0 then negOf FloatKind.f64.format x && negOf FloatKind.f64.format y else decide (sv .f64 x + sv .f64 y < 0)) = false := by
    split
    · rw [nx]; rfl
    · rw [sx, sy]; exact decide_eq_false (by omega)
  rw [hs] at r1
  have hr : r ≤ tbl (a + b) := r3 _ (by
    rw [(tbl_val h).1, sx, sy, Nat.add_mul]
    have := hx.2
    have := hy.2
    omega)
  rw [r1]
  exact ⟨absI_word hr h, (word_facts (k := .f64) r2).1⟩
/-! The logarithm. -/
noncomputable def lgQ (u : Nat) : Nat → Nat
  | 0 => canon .f64 0
  | j + 1 => fop .add .f64 (fop .quo .f64 (canon .f64 4607182418800017408) (foi .f64 (25 - 2 * (j : Int)))) (fop .mul .f64 u (lgQ u j))
noncomputable def lgS (y : Nat) : Nat := fop .quo .f64 (fop .sub .f64 y (canon .f64 4607182418800017408)) (fop .add .f64 y (canon .f64 4607182418800017408))
noncomputable def lgV (y : Nat) (e : Int) : Nat := fop .add .f64 (fop .mul .f64 (canon .f64 4611686018427387904) (fop .mul .f64 (lgS y) (lgQ (fop .mul .f64 (lgS y) (lgS y)) 13))) (fop .mul .f64 (foi .f64 e) (canon .f64 4604418534313441775))
def R15 : Nat := 4609434218613702656
def R075 : Nat := 4604930618986332160
def BB : Nat := 4503599627370496
theorem BB_eq : FloatKind.f64.format.binade = BB := by decide +kernel
theorem inf64 : FloatKind.f64.format.infRung = 9218868437227405312 := by decide +kernel
theorem hid_ex {α : Type} (x : α) : ∃ y, y = x := ⟨x, rfl⟩
/-- A value that no reckoner unfolds. -/
noncomputable def hid {α : Type} (x : α) : α := Classical.choose (hid_ex x)
theorem hid_eq {α : Type} (x : α) : hid x = x := Classical.choose_spec (hid_ex x)
noncomputable def lgJ (r : Nat) : Nat := hid (if R15 ≤ r then (r - R15) / BB + 1 else 0)
noncomputable def lgI (r : Nat) : Nat := hid (if r - lgJ r * BB < R075 then (R075 - 1 - (r - lgJ r * BB)) / BB + 1 else 0)
noncomputable def lgW (r : Nat) : Nat := hid (FloatKind.f64.format.word false r)
theorem lgJ_eq (r : Nat) : lgJ r = if R15 ≤ r then (r - R15) / BB + 1 else 0 := hid_eq _
theorem lgI_eq (r : Nat) : lgI r = if r - lgJ r * BB < R075 then (R075 - 1 - (r - lgJ r * BB)) / BB + 1 else 0 := hid_eq _
theorem lgW_eq (r : Nat) : lgW r = FloatKind.f64.format.word false r := hid_eq _
noncomputable def lgY (r : Nat) : Nat := lgW (r - lgJ r * BB + lgI r * BB)
noncomputable def lgL (r : Nat) : Nat := lgV (lgY r) ((lgJ r : Int) - lgI r)
/-- The rungs of the numbers that are looked at. -/
def LgR (r : Nat) : Prop := 3936146074321813504 ≤ r ∧ r < 5183643171103440896
theorem lg_up {r j : Nat} (h : LgR r) (hj : j ≤ lgJ r) : j * BB ≤ r ∧ (R15 ≤ r - j * BB ↔ j < lgJ r) ∧ lgJ r ≤ 128 ∧ 2 * BB ≤ r - j * BB := by
  obtain ⟨h1, h2⟩ := h
  rw [lgJ_eq] at *
  unfold R15 BB at *
  split at hj <;> split <;> omega
theorem lg_dn {r i : Nat} (h : LgR r) (hi : i ≤ lgI r) : (r - lgJ r * BB + i * BB < R075 ↔ i < lgI r) ∧ lgI r ≤ 150 ∧ r - lgJ r * BB + i * BB < R15 ∧ (0 < lgI r → lgJ r = 0) ∧ 2 * BB ≤ r - lgJ r * BB := by
  obtain ⟨a1, a2, a3, a4⟩ := lg_up h (Nat.le_refl (lgJ r))
  obtain ⟨h1, h2⟩ := h
  have hJ : lgJ r = 0 ∨ R075 ≤ r - lgJ r * BB := by
    rw [lgJ_eq]
    unfold R15 R075 BB
    split <;> omega
  rw [lgI_eq] at *
  unfold R15 R075 BB at *
  split at hi <;> split <;> omega
theorem lg_end {r : Nat} (h : LgR r) : R075 ≤ r - lgJ r * BB + lgI r * BB ∧ r - lgJ r * BB + lgI r * BB < R15 := by
  obtain ⟨a1, a2, a3, a4, a5⟩ := lg_dn h (Nat.le_refl (lgI r))
  omega
theorem lgW_facts {r : Nat} (h : r < FloatKind.f64.format.infRung) : Ax.Fin .f64 (lgW r) ∧ negOf FloatKind.f64.format (lgW r) = false ∧ rungOf FloatKind.f64.format (lgW r) = r ∧ isNaN .f64 (lgW r) = false ∧ pos .f64 (lgW r) = r := by
  obtain ⟨f1, f2⟩ := word_facts (k := .f64) (s := false) (r := r) (by omega)
  rw [lgW_eq]
  refine ⟨by unfold Ax.Fin; rw [f2]; exact h, f1, f2, nan_false (by rw [f2]; omega), ?_⟩
  unfold pos; rw [f1, f2]; rfl
theorem lgW_half {r : Nat} (h : r < FloatKind.f64.format.infRung) (hB : 2 * BB ≤ r) : fop .quo .f64 (lgW r) (canon .f64 4611686018427387904) = lgW (r - BB) := by
  obtain ⟨w1, w2, w3, _⟩ := lgW_facts h
  have := halve_word (x := lgW r) (y := canon .f64 4611686018427387904) (p := 1) w1 (by rw [w3, BB_eq]; exact hB) (by decide +kernel)
  rw [w2, w3, BB_eq, Nat.one_mul] at this
  rw [this, lgW_eq]
theorem lgW_twice {r : Nat} (h : r + BB < FloatKind.f64.format.infRung) (hB : BB ≤ r) : fop .mul .f64 (lgW r) (canon .f64 4611686018427387904) = lgW (r + BB) := by
  obtain ⟨w1, w2, w3, _⟩ := lgW_facts (r := r) (by omega)
  have := double_word (x := lgW r) (y := canon .f64 4611686018427387904) w1 (by rw [w3, BB_eq]; exact hB) (by rw [w3, BB_eq]; omega) (by decide +kernel)
  rw [w2, w3, BB_eq] at this
  rw [this, lgW_eq (r + BB)]
theorem one_facts : AbsI (canon .f64 4607182418800017408) 1 ∧ negOf FloatKind.f64.format (canon .f64 4607182418800017408) = false ∧ valR .f64 (canon .f64 4607182418800017408) = 2 ^ zOf .f64 := by
  unfold AbsI Ax.Fin; decide +kernel
theorem two_facts : AbsI (canon .f64 4611686018427387904) 2 := by unfold AbsI Ax.Fin; decide +kernel
theorem ln_facts : AbsI (canon .f64 4604418534313441775) 1 ∧ negOf FloatKind.f64.format (canon .f64 4604418534313441775) = false ∧ 128 * valR .f64 (canon .f64 4604418534313441775) ≤ 89 * 2 ^ zOf .f64 := by
  unfold AbsI Ax.Fin; decide +kernel
theorem lgS_abs {r : Nat} (h1 : R075 ≤ r) (h2 : r < R15) : AbsI (lgS (lgW r)) 1 := by
  have hi : r < FloatKind.f64.format.infRung := by rw [inf64]; unfold R15 at h2; omega
  obtain ⟨w1, w2, w3, _⟩ := lgW_facts hi
  obtain ⟨⟨o1, _⟩, o2, o3⟩ := one_facts
  have hv : 3 * 2 ^ (zOf .f64 - 2) ≤ valR .f64 (lgW r) ∧ valR .f64 (lgW r) ≤ 3 * 2 ^ (zOf .f64 - 1) := by
    unfold valR
    rw [w3]
    have e1 : rungV FloatKind.f64.format.binade R075 = 3 * 2 ^ (zOf .f64 - 2) := by decide +kernel
    have e2 : rungV FloatKind.f64.format.binade R15 = 3 * 2 ^ (zOf .f64 - 1) := by decide +kernel
    rw [← e1, ← e2]
    exact ⟨(rungV_le_iff (binade_pos _)).2 h1, (rungV_le_iff (binade_pos _)).2 (Nat.le_of_lt h2)⟩
  have hz : 2 ^ zOf .f64 = 4 * 2 ^ (zOf .f64 - 2) ∧ 2 ^ (zOf .f64 - 1) = 2 * 2 ^ (zOf .f64 - 2) := by decide +kernel
  have sx : sv .f64 (lgW r) = (valR .f64 (lgW r) : Int) := by unfold sv; rw [w2]; rfl
  have so : sv .f64 (canon .f64 4607182418800017408) = ((2 ^ zOf .f64 : Nat) : Int) := by unfold sv; rw [o2, o3]; rfl
  generalize 2 ^ (zOf .f64 - 2) = G at *
  obtain ⟨a, a1, a2, a3, _⟩ := sub_sides w1 o1
  obtain ⟨b, b1, b2, b3, b4⟩ := add_sides w1 o1
  rw [sx, so] at a3 b1 b3 b4
  have ha : a ≤ oneR .f64 := a3 _ (by rw [oneR_val]; omega)
  have hb : oneR .f64 ≤ b := b4 _ (Nat.le_of_lt (oneR_inf _)) (by rw [oneR_val]; omega)
  have hb3 : b ≤ tbl 3 := b3 _ (by rw [(tbl_val (by omega)).1]; omega)
  have hsb : (if (valR .f64 (lgW r) : Int) + ((2 ^ zOf .f64 : Nat) : Int) = 0 then negOf FloatKind.f64.format (lgW r) && negOf FloatKind.f64.format (canon .f64 4607182418800017408) else decide ((valR .f64 (lgW r) : Int) + ((2 ^ zOf .f64 : Nat) : Int) < 0)) = false := by
    split
    · rw [w2]; rfl
    · exact decide_eq_false (by omega)
  rw [hsb] at b1
  obtain ⟨wb1, wb2, wb3, _⟩ := word64 (s := false) hb3 (tbl_val (n := 3) (by omega)).2
  have hvb : 2 ^ zOf .f64 ≤ valR .f64 (FloatKind.f64.format.word false b) := by
    rw [word_val b2, ← oneR_val]
    exact (rungV_le_iff (binade_pos _)).2 hb
  unfold lgS
  rw [b1]
  obtain ⟨s, hs⟩ : ∃ s, fop .sub .f64 (lgW r) (canon .f64 4607182418800017408) = FloatKind.f64.format.word s a := ⟨_, a1⟩
  rw [hs]
  obtain ⟨wa1, _, _, wa4⟩ := word64 (s := s) ha (oneR_inf .f64)
  obtain ⟨q, q1, q2, q3⟩ := quo_up wa1 wb1 (Nat.lt_of_lt_of_le (Nat.two_pow_pos _) hvb)
  rw [q1]
  refine absI_word (q3 _ ?_) (by omega)
  rw [(tbl_val (n := 1) (by omega)).1, Nat.one_mul, Nat.mul_comm]
  rw [oneR_val] at wa4
  exact Nat.mul_le_mul hvb wa4 |> fun h => by rw [Nat.mul_comm] at h ⊢; exact Nat.mul_le_mul wa4 hvb |> fun h' => by rw [Nat.mul_comm]; rw [Nat.mul_comm] at h'; exact h'

theorem lgQ_pos {u : Nat} (hu : AbsI u 1) (nu : negOf FloatKind.f64.format u = false) : ∀ j, j ≤ 13 → AbsI (lgQ u j) j ∧ negOf FloatKind.f64.format (lgQ u j) = false
  | 0, _ => by unfold lgQ AbsI Ax.Fin; decide +kernel
  | j + 1, hj => by
    obtain ⟨ih1, ih2⟩ := lgQ_pos hu nu j (by omega)
    obtain ⟨⟨o1, o0⟩, o2, o3⟩ := one_facts
    obtain ⟨k1, k2, k3⟩ := foi_pos (n := 25 - 2 * j) (by omega)
    rw [show ((25 - 2 * j : Nat) : Int) = 25 - 2 * (j : Int) by omega] at k1 k2 k3
    have hk : 2 ^ zOf .f64 ≤ valR .f64 (foi .f64 (25 - 2 * (j : Int))) := by
      rw [k3]; exact Nat.le_mul_of_pos_left _ (by omega)
    obtain ⟨r, r1, r2, r3⟩ := quo_up o1 k1 (Nat.lt_of_lt_of_le (Nat.two_pow_pos _) hk)
    have hr : r ≤ tbl 1 := r3 _ (by
      rw [(tbl_val (n := 1) (by omega)).1, Nat.one_mul, o3]
      exact Nat.mul_le_mul_left _ hk)
    rw [o2, k2, Bool.xor_false] at r1
    have hq : AbsI (fop .quo .f64 (canon .f64 4607182418800017408) (foi .f64 (25 - 2 * (j : Int)))) 1 := by rw [r1]; exact absI_word hr (by omega)
    have nq : negOf FloatKind.f64.format (fop .quo .f64 (canon .f64 4607182418800017408) (foi .f64 (25 - 2 * (j : Int)))) = false := by rw [r1]; exact (word_facts (k := .f64) r2).1
    have hm := absI_mul hu ih1 (by omega)
    rw [Nat.one_mul] at hm
    have nm : negOf FloatKind.f64.format (fop .mul .f64 u (lgQ u j)) = false := by
      obtain ⟨s, s1, s2, _⟩ := mul_sides hu.1 ih1.1
      rw [s1, nu, ih2]; exact (word_facts (k := .f64) s2).1
    have := posI_add hq hm nq nm (by omega)
    rw [lgQ]
    rw [Nat.add_comm 1 j] at this
    exact this
theorem sv_le {x n : Nat} (h : valR .f64 x ≤ n * 2 ^ zOf .f64) : sv .f64 x ≤ ((n * 2 ^ zOf .f64 : Nat) : Int) ∧ -((n * 2 ^ zOf .f64 : Nat) : Int) ≤ sv .f64 x := by
  unfold sv sg
  split <;> omega
theorem add_size {A X : Nat} (hA : AbsI A 26) (hX : AbsI X 150) (hs : sv .f64 X ≤ ((89 * 2 ^ zOf .f64 : Nat) : Int)) : AbsI (fop .add .f64 A X) 176 ∧ (negOf FloatKind.f64.format (fop .add .f64 A X) = false → valR .f64 (fop .add .f64 A X) ≤ 115 * 2 ^ zOf .f64) := by
  obtain ⟨q, q1, q2, q3, _⟩ := add_sides hA.1 hX.1
  have z1 := sv_le hA.2
  have z2 := sv_le hX.2
  have t1 := (tbl_val (n := 176) (by omega)).1
  have t2 := (tbl_val (n := 115) (by omega)).1
  have hq176 : q ≤ tbl 176 := q3 _ (by
    rw [t1]
    generalize 2 ^ zOf .f64 = G at *
    omega)
  refine ⟨by rw [q1]; exact absI_word hq176 (by omega), fun hn => ?_⟩
  rw [q1, (word_facts (k := .f64) q2).1] at hn
  have hT : sv .f64 A + sv .f64 X ≥ 0 := by
    split at hn
    · omega
    · have := of_decide_eq_false hn; omega
  have hq115 : q ≤ tbl 115 := q3 _ (by
    rw [t2]
    generalize 2 ^ zOf .f64 = G at *
    omega)
  rw [q1, word_val q2, ← t2]
  exact (rungV_le_iff (binade_pos _)).2 hq115
theorem lgX_size {J I : Nat} (hJ : J ≤ 128) (hI : I ≤ 150) (h0 : 0 < I → J = 0) : AbsI (fop .mul .f64 (foi .f64 ((J : Int) - I)) (canon .f64 4604418534313441775)) 150 ∧ sv .f64 (fop .mul .f64 (foi .f64 ((J : Int) - I)) (canon .f64 4604418534313441775)) ≤ ((89 * 2 ^ zOf .f64 : Nat) : Int) := by
  obtain ⟨l1, l2, l3⟩ := ln_facts
  have t89 := (tbl_val (n := 89) (by omega)).1
  rcases Nat.eq_zero_or_pos I with hz | hz
  · subst hz
    rw [show ((J : Int) - ((0 : Nat) : Int)) = (J : Nat) by omega]
    obtain ⟨k1, k2, k3⟩ := foi_pos (n := J) (by omega)
    obtain ⟨s, s1, s2, s3, s4⟩ := mul_sides k1 l1.1
    have hs89 : s ≤ tbl 89 := s3 _ (by
      rw [t89, k3, Nat.mul_right_comm]
      exact Nat.mul_le_mul_right _ (Nat.le_trans (Nat.mul_le_mul_right _ hJ) l3))
    obtain ⟨sg', hsg⟩ : ∃ b, fop .mul .f64 (foi .f64 (J : Nat)) (canon .f64 4604418534313441775) = FloatKind.f64.format.word b s := ⟨_, s1⟩
    rw [hsg]
    have w := absI_word (s := sg') hs89 (by omega)
    exact ⟨⟨w.1, Nat.le_trans w.2 (Nat.mul_le_mul_right _ (by omega))⟩, (sv_le w.2).1⟩
  · have hJ0 := h0 hz
    subst hJ0
    rw [show (((0 : Nat) : Int) - (I : Int)) = -(I : Int) by omega]
    obtain ⟨k1, k2, k3⟩ := foi_neg (n := I) (by omega) hz
    have hk : AbsI (foi .f64 (-(I : Int))) I := ⟨k1, Nat.le_of_eq k3⟩
    have hm := absI_mul hk l1 (by omega)
    rw [Nat.mul_one] at hm
    refine ⟨⟨hm.1, Nat.le_trans hm.2 (Nat.mul_le_mul_right _ hI)⟩, ?_⟩
    obtain ⟨s, s1, s2, _⟩ := mul_sides k1 l1.1
    have hn : negOf FloatKind.f64.format (fop .mul .f64 (foi .f64 (-(I : Int))) (canon .f64 4604418534313441775)) = true := by
      rw [s1, k2, l2]; exact (word_facts (k := .f64) s2).1
    unfold sv sg
    rw [hn, if_pos rfl]
    generalize 2 ^ zOf .f64 = G
    omega
theorem lgA_size {y : Nat} (hs : AbsI (lgS y) 1) : AbsI (fop .mul .f64 (canon .f64 4611686018427387904) (fop .mul .f64 (lgS y) (lgQ (fop .mul .f64 (lgS y) (lgS y)) 13))) 26 := by
  have hu := absI_mul hs hs (by omega)
  rw [Nat.one_mul] at hu
  have nu : negOf FloatKind.f64.format (fop .mul .f64 (lgS y) (lgS y)) = false := by
    obtain ⟨s, s1, s2, _⟩ := mul_sides hs.1 hs.1
    rw [s1, Bool.xor_self]; exact (word_facts (k := .f64) s2).1
  have hq := (lgQ_pos hu nu 13 (Nat.le_refl _)).1
  have h1 := absI_mul hs hq (by omega)
  rw [Nat.one_mul] at h1
  have h2 := absI_mul two_facts h1 (by omega)
  rw [show 2 * 13 = 26 from rfl] at h2
  exact h2
/-- The logarithm's size: not above 115, and its magnitude not above 176. -/
theorem lgL_size {r : Nat} (h : LgR r) : AbsI (lgL r) 176 ∧ (negOf FloatKind.f64.format (lgL r) = false → valR .f64 (lgL r) ≤ 115 * 2 ^ zOf .f64) := by
  obtain ⟨a1, a2, a3, a4⟩ := lg_up h (Nat.le_refl (lgJ r))
  obtain ⟨b1, b2, b3, b4, b5⟩ := lg_dn h (Nat.le_refl (lgI r))
  obtain ⟨c1, c2⟩ := lg_end h
  obtain ⟨x1, x2⟩ := lgX_size a3 b2 b4
  exact add_size (lgA_size (lgS_abs c1 c2)) x1 x2
/-! From 64 bits to 32. -/
theorem narrow_le {x : Nat} (hx : Ax.Fin .f64 x) {q : Nat} (hq : q < FloatKind.f32.format.infRung) (hv : valR .f64 x ≤ rungV FloatKind.f32.format.binade q * 2 ^ gap) : tooBig x = false ∧ ∃ r, fnarrow x = FloatKind.f32.format.word (negOf FloatKind.f64.format x) r ∧ r ≤ q ∧ ∀ q', valR .f64 x ≤ rungV FloatKind.f32.format.binade q' * 2 ^ gap → r ≤ q' := by
  obtain ⟨m, d, g1, g2, _⟩ := read_fin FloatKind.f64.format hx
  have hn : isNaN .f64 x = false := nan_false (Nat.le_of_lt hx)
  have e1 : FloatKind.f64.format.leastPlace = -1074 := by decide +kernel
  have e2 : FloatKind.f32.format.leastPlace = -149 := by decide +kernel
  obtain ⟨r, r1, r2, r3, _⟩ := nearest_sides FloatKind.f32.format (negOf FloatKind.f64.format x) (mag := m) (place := FloatKind.f64.format.leastPlace + d) (c := gap) (by rw [show gap = 925 from rfl]; omega)
  rw [show (FloatKind.f64.format.leastPlace + (d : Int) - FloatKind.f32.format.leastPlace + ((gap : Nat) : Int)).toNat = d by rw [show gap = 925 from rfl]; omega, g2] at r3
  have hr := r3 q hv
  have g1' : Ieee.double.read x = .number (negOf FloatKind.f64.format x) m (FloatKind.f64.format.leastPlace + d) := g1
  have hw : Ieee.single.write (Ieee.double.read x) = FloatKind.f32.format.word (negOf FloatKind.f64.format x) r := by rw [g1']; exact r1
  refine ⟨?_, r, ?_, hr, r3⟩
  · unfold tooBig
    have hw' := hw
    rw [g1'] at hw' ⊢
    simp only
    rw [hw']
    have h2 := inf_sw .f32
    obtain ⟨m', d', k1, _⟩ := read_fin FloatKind.f32.format (x := FloatKind.f32.format.word (negOf FloatKind.f64.format x) r) (by rw [rungOf_word _ _ (by omega)]; omega)
    have k1' : Ieee.single.read (FloatKind.f32.format.word (negOf FloatKind.f64.format x) r) = _ := k1
    rw [k1']; rfl
  · unfold fnarrow
    rw [if_neg (by rw [hn]; simp)]; exact hw
def tb32 (n : Nat) : Nat := rungOf FloatKind.f32.format (floatOfInt .f32 n)
theorem tb32_val {n : Nat} (h : n ≤ 200) : rungV FloatKind.f32.format.binade (tb32 n) = n * 2 ^ zOf .f32 ∧ tb32 n < FloatKind.f32.format.infRung := by
  have : ∀ n, n < 201 → rungV FloatKind.f32.format.binade (tb32 n) = n * 2 ^ zOf .f32 ∧ tb32 n < FloatKind.f32.format.infRung := by decide +kernel
  exact this n (by omega)
theorem zgap : zOf .f64 = zOf .f32 + gap := by decide +kernel
theorem lgN {r : Nat} (h : LgR r) : tooBig (lgL r) = false ∧ ∃ s q, fnarrow (lgL r) = FloatKind.f32.format.word s q ∧ q ≤ tb32 176 ∧ (s = false → q ≤ tb32 115) := by
  obtain ⟨l1, l2⟩ := lgL_size h
  obtain ⟨n1, q, n2, n3, n4⟩ := narrow_le l1.1 (tb32_val (n := 176) (by omega)).2 (by
    rw [(tb32_val (n := 176) (by omega)).1, Nat.mul_assoc, ← Nat.pow_add, ← zgap]; exact l1.2)
  refine ⟨n1, _, q, n2, n3, fun hs => n4 _ ?_⟩
  rw [(tb32_val (n := 115) (by omega)).1, Nat.mul_assoc, ← Nat.pow_add, ← zgap]
  exact l2 hs
/-- What is raised: 0.6666667 times the logarithm. -/
noncomputable def lvZ (l : Nat) : Nat := fop .mul .f32 (canon .f32 1059760811) l
theorem lvZ_cases {s : Bool} {q : Nat} (h1 : q ≤ tb32 176) (h2 : s = false → q ≤ tb32 115) : LeZ (lvZ (FloatKind.f32.format.word s q)) ∨ ∃ r, lvZ (FloatKind.f32.format.word s q) = FloatKind.f32.format.word false r ∧ r ≤ tb32 77 := by
  have c1 : Ax.Fin .f32 (canon .f32 1059760811) := by unfold Ax.Fin; decide +kernel
  have c2 : negOf FloatKind.f32.format (canon .f32 1059760811) = false := by decide +kernel
  have c3 : valR .f32 (canon .f32 1059760811) * 115 ≤ 77 * 2 ^ zOf .f32 := by decide +kernel
  have ht := (tb32_val (n := 176) (by omega))
  obtain ⟨f1, f2⟩ := word_facts (k := .f32) (s := s) (r := q) (by omega)
  have fx : Ax.Fin .f32 (FloatKind.f32.format.word s q) := by unfold Ax.Fin; rw [f2]; omega
  obtain ⟨r, r1, r2, r3, _⟩ := mul_sides c1 fx
  rw [c2, f1, Bool.false_xor] at r1
  unfold lvZ
  rw [r1]
  cases s with
  | true =>
    left
    refine ⟨nn_word r2, word_lt r2, ?_⟩
    rw [pos_word' r2]
    unfold sg
    rw [if_pos rfl]
    omega
  | false =>
    right
    refine ⟨r, rfl, r3 _ ?_⟩
    have ht5 := (tb32_val (n := 115) (by omega))
    have hv : valR .f32 (FloatKind.f32.format.word false q) ≤ 115 * 2 ^ zOf .f32 := by
      rw [word_val (by omega), ← ht5.1]
      exact (rungV_le_iff (binade_pos _)).2 (h2 rfl)
    rw [(tb32_val (n := 77) (by omega)).1]
    have := Nat.mul_le_mul_left (valR .f32 (canon .f32 1059760811)) hv
    rw [← Nat.mul_assoc] at this
    exact Nat.le_trans this (Nat.mul_le_mul_right _ c3)
/-! The exponential of a number of [0, 77]. -/
def Wd (q x : Nat) : Prop := ∃ r, x = FloatKind.f64.format.word false r ∧ r ≤ q
theorem Wd.facts {q x : Nat} (h : Wd q x) (hq : q < FloatKind.f64.format.infRung) : Ax.Fin .f64 x ∧ negOf FloatKind.f64.format x = false ∧ valR .f64 x ≤ rungV FloatKind.f64.format.binade q := by
  obtain ⟨r, rfl, hr⟩ := h
  obtain ⟨w1, w2, w3, w4⟩ := word64 (s := false) hr hq
  exact ⟨w1, w2, w4⟩
theorem Wd.mul {a b c x y : Nat} (hx : Wd a x) (hy : Wd b y) (ha : a < FloatKind.f64.format.infRung) (hb : b < FloatKind.f64.format.infRung) (h : rungV FloatKind.f64.format.binade a * rungV FloatKind.f64.format.binade b ≤ rungV FloatKind.f64.format.binade c * 2 ^ zOf .f64) : Wd c (fop .mul .f64 x y) := by
  obtain ⟨x1, x2, x3⟩ := hx.facts ha
  obtain ⟨y1, y2, y3⟩ := hy.facts hb
  obtain ⟨r, r1, r2, r3, _⟩ := mul_sides x1 y1
  rw [x2, y2] at r1
  exact ⟨r, r1, r3 _ (Nat.le_trans (Nat.mul_le_mul x3 y3) h)⟩
theorem Wd.quo {a c x y : Nat} (hx : Wd a x) (ha : a < FloatKind.f64.format.infRung) (y1 : Ax.Fin .f64 y) (y2 : negOf FloatKind.f64.format y = false) (y0 : 0 < valR .f64 y) (h : rungV FloatKind.f64.format.binade a * 2 ^ zOf .f64 ≤ rungV FloatKind.f64.format.binade c * valR .f64 y) : Wd c (fop .quo .f64 x y) := by
  obtain ⟨x1, x2, x3⟩ := hx.facts ha
  obtain ⟨r, r1, r2, r3⟩ := quo_up x1 y1 y0
  rw [x2, y2] at r1
  exact ⟨r, r1, r3 _ (Nat.le_trans (Nat.mul_le_mul_right _ x3) h)⟩
theorem Wd.one_add {a c x : Nat} (hx : Wd a x) (ha : a < FloatKind.f64.format.infRung) (h : 2 ^ zOf .f64 + rungV FloatKind.f64.format.binade a ≤ rungV FloatKind.f64.format.binade c) : Wd c (fop .add .f64 one64 x) := by
  obtain ⟨x1, x2, x3⟩ := hx.facts ha
  obtain ⟨⟨o1, _⟩, o2, o3⟩ := one_facts
  obtain ⟨r, r1, r2, r3, _⟩ := add_sides o1 x1
  have sx : sv .f64 x = (valR .f64 x : Int) := by unfold sv; rw [x2]; rfl
  have so : sv .f64 (canon .f64 4607182418800017408) = ((2 ^ zOf .f64 : Nat) : Int) := by unfold sv; rw [o2, o3]; rfl
  rw [sx, so] at r1 r3
  have hs : (if ((2 ^ zOf .f64 : Nat) : Int) + (valR .f64 x : Int) = 0 then negOf FloatKind.f64.format (canon .f64 4607182418800017408) && negOf FloatKind.f64.format x else decide (((2 ^ zOf .f64 : Nat) : Int) + (valR .f64 x : Int) < 0)) = false := by
    split
    · rw [o2]; rfl
    · exact decide_eq_false (by omega)
  rw [hs] at r1
  exact ⟨r, r1, r3 _ (by omega)⟩
def bt : Nat := 4599090013219586048
def b54 : Nat := 4608308318706860032
def ba : Nat := 4600444611545006080
def bq : Nat := 4598175219545276416
def bs : Nat → Nat
  | 0 => 4608875666706792448
  | 1 => 4611205536141017088
  | 2 => 4615254284449089536
  | 3 => 4623423277843329846
  | 4 => 4640013351126174660
  | 5 => 4673222857006912238
  | 6 => 4739517630919819098
  | 7 => 4872518032721038960
  | _ => 5137869406389168431
theorem bs_ok : ∀ j, j < 8 → bs j < FloatKind.f64.format.infRung ∧ rungV FloatKind.f64.format.binade (bs j) * rungV FloatKind.f64.format.binade (bs j) ≤ rungV FloatKind.f64.format.binade (bs (j + 1)) * 2 ^ zOf .f64 := by decide +kernel
theorem b_ok : bt < FloatKind.f64.format.infRung ∧ b54 < FloatKind.f64.format.infRung ∧ ba < FloatKind.f64.format.infRung ∧ bq < FloatKind.f64.format.infRung ∧ rungV FloatKind.f64.format.binade bt * rungV FloatKind.f64.format.binade b54 ≤ rungV FloatKind.f64.format.binade ba * 2 ^ zOf .f64 ∧ rungV FloatKind.f64.format.binade ba ≤ rungV FloatKind.f64.format.binade bq * 2 ∧ 2 ^ zOf .f64 + rungV FloatKind.f64.format.binade bq ≤ rungV FloatKind.f64.format.binade b54 ∧ 2 ^ zOf .f64 + rungV FloatKind.f64.format.binade ba ≤ rungV FloatKind.f64.format.binade (bs 0) := by decide +kernel
theorem exP_wd {t : Nat} (ht : Wd bt t) : ∀ j, j ≤ 11 → Wd b54 (exP t j)
  | 0, _ => ⟨oneR .f64, one64_word, by decide⟩
  | j + 1, hj => by
    obtain ⟨k1, k2, k3, k4, k5, k6, k7, k8⟩ := b_ok
    have ih := exP_wd ht j (by omega)
    obtain ⟨c1, c2, c3⟩ := foi_pos (n := 12 - j) (by omega)
    rw [show ((12 - j : Nat) : Int) = 12 - (j : Int) by omega] at c1 c2 c3
    have hz := Nat.two_pow_pos (zOf .f64)
    have hm : Wd ba (fop .mul .f64 t (exP t j)) := ht.mul ih k1 k2 k5
    have hq : Wd bq (fop .quo .f64 (fop .mul .f64 t (exP t j)) (foi .f64 (12 - (j : Int)))) := hm.quo k3 c1 c2 (by rw [c3]; exact Nat.mul_pos (by omega) hz) (by
      rw [c3, ← Nat.mul_assoc]
      refine Nat.mul_le_mul_right _ (Nat.le_trans k6 (Nat.mul_le_mul_left _ (by omega))))
    rw [exP]
    exact hq.one_add k4 k7
theorem exP_wd' {t : Nat} (ht : Wd bt t) : Wd (bs 0) (exP t 12) := by
  obtain ⟨k1, k2, k3, k4, k5, k6, k7, k8⟩ := b_ok
  have ih := exP_wd ht 11 (Nat.le_refl _)
  obtain ⟨c1, c2, c3⟩ := foi_pos (n := 1) (by omega)
  rw [Nat.one_mul] at c3
  have hm : Wd ba (fop .mul .f64 t (exP t 11)) := ht.mul ih k1 k2 k5
  have hq : Wd ba (fop .quo .f64 (fop .mul .f64 t (exP t 11)) (foi .f64 ((1 : Nat) : Int))) := hm.quo k3 c1 c2 (by rw [c3]; exact Nat.two_pow_pos _) (by rw [c3]; exact Nat.le_refl _)
  have e12 : (12 : Int) - ((11 : Nat) : Int) = ((1 : Nat) : Int) := by omega
  show Wd (bs 0) (exP t (11 + 1))
  rw [exP, e12]
  exact hq.one_add k3 k8
theorem exQ_wd {p : Nat} (hp : Wd (bs 0) p) : ∀ j, j ≤ 8 → Wd (bs j) (exQ p j)
  | 0, _ => hp
  | j + 1, hj => by
    have ih := exQ_wd hp j (by omega)
    obtain ⟨h1, h2⟩ := bs_ok j (by omega)
    exact ih.mul ih h1 h1 h2
theorem exW_big {x r : Nat} (hx : x = FloatKind.f32.format.word false r) (hr : r ≤ tb32 77) : tooBig (exW x) = false := by
  have ht := tb32_val (n := 77) (by omega)
  obtain ⟨f1, f2⟩ := word_facts (k := .f32) (s := false) (r := r) (by omega)
  have fx : Ax.Fin .f32 x := by unfold Ax.Fin; rw [hx, f2]; omega
  obtain ⟨w1, w2, w3⟩ := widen_val fx
  have hv : valR .f32 x ≤ 77 * 2 ^ zOf .f32 := by
    rw [hx, word_val (by omega), ← ht.1]
    exact (rungV_le_iff (binade_pos _)).2 hr
  have c1 : Ax.Fin .f64 (canon .f64 4643211215818981376) := by unfold Ax.Fin; decide +kernel
  have c2 : negOf FloatKind.f64.format (canon .f64 4643211215818981376) = false := by decide +kernel
  have c3 : valR .f64 (canon .f64 4643211215818981376) = 256 * 2 ^ zOf .f64 := by decide +kernel
  have c4 : 77 * 2 ^ zOf .f64 ≤ rungV FloatKind.f64.format.binade bt * 256 := by decide +kernel
  have hb : Wd bt (exT x) := by
    obtain ⟨q, q1, q2, q3⟩ := quo_up w1 c1 (by rw [c3]; exact Nat.mul_pos (by omega) (Nat.two_pow_pos _))
    rw [w2, c2, hx, f1] at q1
    refine ⟨q, by unfold exT; rw [hx]; exact q1, q3 _ ?_⟩
    rw [c3, ← Nat.mul_assoc]
    refine Nat.mul_le_mul_right _ (Nat.le_trans ?_ c4)
    rw [w3, zgap, Nat.pow_add, ← Nat.mul_assoc]
    exact Nat.mul_le_mul_right _ hv
  have hW := exQ_wd (exP_wd' hb) 8 (Nat.le_refl _)
  have hi : bs 8 < FloatKind.f64.format.infRung := by decide +kernel
  obtain ⟨v1, v2, v3⟩ := hW.facts hi
  have h32 : (2063597568 : Nat) < FloatKind.f32.format.infRung := by decide +kernel
  have hfin : rungV FloatKind.f64.format.binade (bs 8) ≤ rungV FloatKind.f32.format.binade 2063597568 * 2 ^ gap := by decide +kernel
  exact (narrow_le v1 h32 (Nat.le_trans v3 hfin)).1

end Go.Proofs.Ytpelmabholoieaa
