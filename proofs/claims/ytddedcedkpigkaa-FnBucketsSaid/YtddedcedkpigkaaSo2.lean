/- What each function of this seat does (So2). Printed from templates of this seat's own. -/
import Derived.Test.YtddedcedkpigkaaSol
import Derived.Test.YtddedcedkpigkaaBxN
import Derived.Test.YtddedcedkpigkaaFs1
namespace Go.Proofs.Ytddedcedkpigkaa
open Go.Ax Go.Bx
set_option maxRecDepth 8000
set_option linter.unusedSimpArgs false
set_option linter.unusedVariables false
noncomputable def Zu : Int := ((2 ^ zOf .f32 : Nat) : Int)
noncomputable def Gu : Int := ((2 ^ 129 : Nat) : Int)
theorem Zu_eq : Zu = 1048576 * Gu := by
  unfold Zu Gu
  rw [zOf_32, show 149 = 20 + 129 from rfl, Nat.pow_add, Int.natCast_mul]
  congr 1
theorem Gu_pos : 0 < Gu := by unfold Gu; have := Nat.two_pow_pos 129; omega
theorem room16 : ((16777216 * 2 ^ 129 : Nat) : Int) = 16 * Zu := by
  rw [Zu_eq, Int.natCast_mul]
  show (16777216 : Int) * Gu = _
  omega
theorem lss_sv {k : FloatKind} {x y : Nat} (hx : Fin k x) (hy : Fin k y) : fcmp .lss k x y = decide (sv k x < sv k y) := by
  rw [cmp_lss hx.num hy.num]
  have := pos_sv (k := k) (x := y) (y := x)
  exact decide_eq_decide.2 (by omega)
theorem gtr_sv {k : FloatKind} {x y : Nat} (hx : Fin k x) (hy : Fin k y) : fcmp .gtr k x y = decide (sv k y < sv k x) := by
  rw [cmp_gtr hx.num hy.num]
  have := pos_sv (k := k) (x := x) (y := y)
  exact decide_eq_decide.2 (by omega)
theorem geq_sv {k : FloatKind} {x y : Nat} (hx : Fin k x) (hy : Fin k y) : fcmp .geq k x y = decide (sv k y ≤ sv k x) := by
  rw [cmp_geq hx.num hy.num]
  exact decide_eq_decide.2 pos_sv
theorem leq_sv {k : FloatKind} {x y : Nat} (hx : Fin k x) (hy : Fin k y) : fcmp .leq k x y = decide (sv k x ≤ sv k y) := by
  rw [cmp_leq hx.num hy.num]
  exact decide_eq_decide.2 pos_sv
theorem j129 : 129 ≤ zOf .f32 := by rw [zOf_32]; omega
theorem add16 {x y : Nat} (hx : Fin .f32 x) (hy : Fin .f32 y) (h : -(16 * Zu) ≤ sv .f32 x + sv .f32 y) (h' : sv .f32 x + sv .f32 y ≤ 16 * Zu) :
    Fin .f32 (fop .add .f32 x y) ∧ sv .f32 (fop .add .f32 x y) ≤ sv .f32 x + sv .f32 y + Gu ∧ sv .f32 x + sv .f32 y ≤ sv .f32 (fop .add .f32 x y) + Gu ∧ (0 ≤ sv .f32 x + sv .f32 y → 0 ≤ sv .f32 (fop .add .f32 x y)) :=
  have g := add_near hx hy (N := 16777216) (j := 129) (by rw [bin32]; omega) j129 (by have := room16; omega)
  ⟨g.1, g.2.1, g.2.2.1, g.2.2.2.1⟩
theorem sub16 {x y : Nat} (hx : Fin .f32 x) (hy : Fin .f32 y) (h : -(16 * Zu) ≤ sv .f32 x - sv .f32 y) (h' : sv .f32 x - sv .f32 y ≤ 16 * Zu) :
    Fin .f32 (fop .sub .f32 x y) ∧ sv .f32 (fop .sub .f32 x y) ≤ sv .f32 x - sv .f32 y + Gu ∧ sv .f32 x - sv .f32 y ≤ sv .f32 (fop .sub .f32 x y) + Gu ∧ (0 ≤ sv .f32 x - sv .f32 y → 0 ≤ sv .f32 (fop .sub .f32 x y)) :=
  have g := sub_near hx hy (N := 16777216) (j := 129) (by rw [bin32]; omega) j129 (by have := room16; omega)
  ⟨g.1, g.2.1, g.2.2.1, g.2.2.2.1⟩
theorem mul16 {x y : Nat} {p q : Int} (hx : NN .f32 x) (hy : NN .f32 y) (hp : sv .f32 x ≤ p * Zu) (hq : sv .f32 y ≤ q * Zu) (h0 : 0 ≤ p) (h : p * q ≤ 16) : NN .f32 (fop .mul .f32 x y) ∧ sv .f32 (fop .mul .f32 x y) ≤ 16 * Zu := by
  have hz : 0 < Zu := by rw [Zu_eq]; have := Gu_pos; omega
  have g := mul_near hx hy (N := 16777216) (j := 129) (by rw [bin32]; omega) j129 (by
    rw [Int.natCast_mul, room16]
    show _ ≤ 16 * Zu * Zu
    have h1 : sv .f32 x * sv .f32 y ≤ (p * Zu) * (q * Zu) := Int.mul_le_mul hp hq hy.2 (Int.mul_nonneg h0 (by omega))
    have h2 : (p * Zu) * (q * Zu) = (p * q) * (Zu * Zu) := by rw [Int.mul_assoc, Int.mul_assoc, Int.mul_left_comm Zu q]
    have h3 : (p * q) * (Zu * Zu) ≤ 16 * (Zu * Zu) := Int.mul_le_mul_of_nonneg_right h (Int.mul_nonneg (by omega) (by omega))
    rw [Int.mul_assoc 16]
    omega)
  exact ⟨g.1, by have := g.2.1; rw [room16] at this; exact this⟩
theorem quo_nn {x y : Nat} (hx : NN .f32 x) (hy : NN .f32 y) (h1 : Zu ≤ sv .f32 y) : NN .f32 (fop .quo .f32 x y) ∧ sv .f32 (fop .quo .f32 x y) ≤ sv .f32 x := by
  have hz : 0 < Zu := by rw [Zu_eq]; have := Gu_pos; omega
  have vy := hy.val
  have vx := hx.val
  obtain ⟨r, e, h2, h3⟩ := quo_up (k := .f32) hx.1 hy.1 (by omega)
  have hr := h3 (rungOf FloatKind.f32.format x) (by
    show valR .f32 x * 2 ^ zOf .f32 ≤ valR .f32 x * valR .f32 y
    refine Nat.mul_le_mul_left _ ?_
    have : Zu = ((2 ^ zOf .f32 : Nat) : Int) := rfl
    omega)
  obtain ⟨f1, f2⟩ := word_facts (k := .f32) (s := negOf FloatKind.f32.format x ^^ negOf FloatKind.f32.format y) h2
  have hv : valR .f32 (fop .quo .f32 x y) ≤ valR .f32 x := by rw [e, word_val h2]; exact (rungV_le_iff (binade_pos _)).2 hr
  have hfin : Fin .f32 (fop .quo .f32 x y) := by unfold Go.Ax.Fin; rw [e, f2]; exact Nat.lt_of_le_of_lt hr hx.1
  have hs : sv .f32 (fop .quo .f32 x y) = (valR .f32 (fop .quo .f32 x y) : Int) := by
    rcases sg_nn hx.2 with e1 | e1
    · rcases sg_nn hy.2 with e2 | e2
      · unfold sv
        rw [show negOf FloatKind.f32.format (fop .quo .f32 x y) = false by rw [e, f1, e1, e2]; rfl]
        rfl
      · exfalso
        have : valR .f32 y = 0 := e2
        omega
    · have e1' : valR .f32 x = 0 := e1
      have : valR .f32 (fop .quo .f32 x y) = 0 := by omega
      unfold sv; rw [this]; unfold sg; split <;> rfl
  exact ⟨⟨hfin, by rw [hs]; omega⟩, by rw [hs]; omega⟩
theorem sv_one : Fin .f32 (K 1065353216) ∧ sv .f32 (K 1065353216) = Zu := by
  have h : Dy .f32 0 1 (canon .f32 1065353216) := dyB_spec (by decide +kernel)
  refine ⟨h.1, ?_⟩
  have := h.2.2
  rw [Int.one_mul, Nat.sub_zero] at this
  exact this
/-- What a soil is, in units. -/
structure SoilB (a b c d : Nat) : Prop where
  na : NN .f32 a
  nb : NN .f32 b
  nc : NN .f32 c
  nd : NN .f32 d
  a2 : sv .f32 a ≤ 2 * Zu
  b2 : sv .f32 b ≤ 2 * Zu
  c2 : sv .f32 c ≤ 8 * Zu
  d2 : sv .f32 d ≤ 1 * Zu
theorem can_nn {a b c d e : Nat} (h : SoilB a b c d) (he : NN .f32 e) (hE : sv .f32 e ≤ sv .f32 c) : NN .f32 (soCan a b e) ∧ sv .f32 (soCan a b e) ≤ 16 * Zu ∧ sv .f32 a ≤ sv .f32 (soCan a b e) := by
  have hg := Gu_pos
  have hz := Zu_eq
  obtain ⟨o1, o2⟩ := sv_one
  have h1 := add16 o1 he.1 (by have := he.2; omega) (by have := h.c2; omega)
  have h1m := (add_mono o1 he.1 o1).2 (by have := he.2; omega)
  have h2 := quo_nn h.nb (y := fop .add .f32 (K 1065353216) e) ⟨h1.1, h1.2.2.2 (by have := he.2; omega)⟩ (by omega)
  have h3 := add16 o1 h2.1.1 (by have := h2.1.2; omega) (by have := h.b2; omega)
  have h3m := (add_mono o1 h2.1.1 o1).2 (by have := h2.1.2; omega)
  have n3 : NN .f32 (fop .add .f32 (K 1065353216) (fop .quo .f32 b (fop .add .f32 (K 1065353216) e))) := ⟨h3.1, by omega⟩
  have h4 := mul16 h.na n3 (p := 2) (q := 4) h.a2 (by have := h.b2; omega) (by omega) (by omega)
  refine ⟨h4.1, h4.2, (mul_mono h.na n3 h.na).2 ?_ h4.1.2⟩
  exact Int.mul_le_mul_of_nonneg_left (by show Zu ≤ _; omega) h.na.2
theorem soil_step {a b c d e fall tick : Nat} (h : SoilB a b c d) (he : NN .f32 e) (hE : sv .f32 e ≤ sv .f32 c) (hf : NN .f32 fall) (hF : sv .f32 fall ≤ 2 * Zu) (ht : NN .f32 tick) (hT : sv .f32 tick ≤ 1 * Zu) :
    NN .f32 (soE a b c d e fall tick) ∧ sv .f32 (soE a b c d e fall tick) ≤ sv .f32 c ∧ NN .f32 (soO a b c e fall tick) ∧ sv .f32 (soO a b c e fall tick) ≤ sv .f32 fall ∧ NN .f32 (soL a b c d e fall tick) ∧ sv .f32 (soL a b c d e fall tick) ≤ sv .f32 c ∧
    sv .f32 (soE a b c d e fall tick) + sv .f32 (soO a b c e fall tick) + sv .f32 (soL a b c d e fall tick) ≤ sv .f32 e + sv .f32 fall + 3 * Gu ∧
    sv .f32 e + sv .f32 fall ≤ sv .f32 (soE a b c d e fall tick) + sv .f32 (soO a b c e fall tick) + sv .f32 (soL a b c d e fall tick) + 3 * Gu := by
  have hg := Gu_pos
  have hz := Zu_eq
  have c2 := h.c2
  obtain ⟨n1, n2, _⟩ := can_nn h he hE
  have h5 := mul16 n1 ht (p := 16) (q := 1) n2 hT (by omega) (by omega)
  have h6 := sub16 h.nc.1 he.1 (by have := he.2; omega) (by have := he.2; omega)
  have e0 : soG a b c e tick 0 = fop .mul .f32 (soCan a b e) tick := rfl
  have e1 : soG a b c e tick 1 = fop .sub .f32 c e := rfl
  have t1 : NN .f32 (soT a b c e fall tick 1) ∧ sv .f32 (soT a b c e fall tick 1) ≤ sv .f32 fall := by
    simp only [soT]
    rw [e0, lss_sv h5.1.1 hf.1]
    by_cases g : sv .f32 (fop .mul .f32 (soCan a b e) tick) < sv .f32 fall
    · rw [decide_eq_true g]; exact ⟨h5.1, Int.le_of_lt g⟩
    · rw [decide_eq_false g]; exact ⟨hf, Int.le_refl _⟩
  have t2 : NN .f32 (soT a b c e fall tick 2) ∧ sv .f32 (soT a b c e fall tick 2) ≤ sv .f32 fall ∧ sv .f32 (soT a b c e fall tick 2) ≤ sv .f32 c - sv .f32 e + Gu := by
    rw [soT, e1, lss_sv h6.1 t1.1.1]
    by_cases g : sv .f32 (fop .sub .f32 c e) < sv .f32 (soT a b c e fall tick 1)
    · rw [decide_eq_true g]
      exact ⟨⟨h6.1, h6.2.2.2 (by omega)⟩, by have := t1.2; show sv .f32 (fop .sub .f32 c e) ≤ _; omega, h6.2.1⟩
    · rw [decide_eq_false g]
      exact ⟨t1.1, t1.2, by have := h6.2.1; show sv .f32 (soT a b c e fall tick 1) ≤ _; omega⟩
  obtain ⟨T1, T2, T3⟩ := t2
  have a1 := add16 he.1 T1.1 (by have := he.2; have := T1.2; omega) (by omega)
  have w1 : NN .f32 (soW1 a b c e fall tick) ∧ sv .f32 (soW1 a b c e fall tick) ≤ sv .f32 c ∧ sv .f32 (soW1 a b c e fall tick) ≤ sv .f32 e + sv .f32 (soT a b c e fall tick 2) + Gu ∧ sv .f32 e + sv .f32 (soT a b c e fall tick 2) ≤ sv .f32 (soW1 a b c e fall tick) + Gu := by
    unfold soW1
    rw [gtr_sv a1.1 h.nc.1]
    by_cases g : sv .f32 c < sv .f32 (fop .add .f32 e (soT a b c e fall tick 2))
    · rw [decide_eq_true g]
      exact ⟨h.nc, Int.le_refl _, by have := a1.2.1; show sv .f32 c ≤ _; omega, by show _ ≤ sv .f32 c + Gu; omega⟩
    · rw [decide_eq_false g]
      exact ⟨⟨a1.1, a1.2.2.2 (by have := he.2; have := T1.2; omega)⟩, by show sv .f32 (fop .add .f32 e (soT a b c e fall tick 2)) ≤ _; omega, a1.2.1, a1.2.2.1⟩
  obtain ⟨W1, W2, W3, W4⟩ := w1
  have l1 := mul16 W1 h.nd (p := 8) (q := 1) (by omega) h.d2 (by omega) (by omega)
  have l2 := mul16 l1.1 ht (p := 16) (q := 1) l1.2 hT (by omega) (by omega)
  have l3 : NN .f32 (soL a b c d e fall tick) ∧ sv .f32 (soL a b c d e fall tick) ≤ sv .f32 (soW1 a b c e fall tick) := by
    unfold soL
    rw [gtr_sv l2.1.1 W1.1]
    by_cases g : sv .f32 (soW1 a b c e fall tick) < sv .f32 (fop .mul .f32 (fop .mul .f32 (soW1 a b c e fall tick) d) tick)
    · rw [decide_eq_true g]; exact ⟨W1, Int.le_refl _⟩
    · rw [decide_eq_false g]; exact ⟨l2.1, by show sv .f32 (fop .mul .f32 (fop .mul .f32 (soW1 a b c e fall tick) d) tick) ≤ _; omega⟩
  obtain ⟨L1, L2⟩ := l3
  have s1 := sub16 W1.1 L1.1 (by have := W1.2; omega) (by have := L1.2; omega)
  have s1m := (sub_mono W1.1 L1.1 W1.1).1 (by have := L1.2; omega)
  have s2 := sub16 hf.1 T1.1 (by have := hf.2; omega) (by have := T1.2; omega)
  have s2m := (sub_mono hf.1 T1.1 hf.1).1 (by have := T1.2; omega)
  have E1 : soE a b c d e fall tick = fop .sub .f32 (soW1 a b c e fall tick) (soL a b c d e fall tick) := rfl
  have O1 : soO a b c e fall tick = fop .sub .f32 fall (soT a b c e fall tick 2) := rfl
  rw [E1, O1]
  refine ⟨⟨s1.1, s1.2.2.2 (by omega)⟩, by omega, ⟨s2.1, s2.2.2.2 (by omega)⟩, s2m, L1, by omega, by omega, by omega⟩

end Go.Proofs.Ytddedcedkpigkaa
