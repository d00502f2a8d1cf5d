/- What each function of this seat does (Zu). Printed from templates of this seat's own. -/
import Derived.Test.YtnepjbnoaemmdaaDrw
import Derived.Test.YtnepjbnoaemmdaaBxL
namespace Go.Proofs.Ytnepjbnoaemmdaa
open Go.Ax Go.Bx
set_option maxRecDepth 8000
set_option linter.unusedSimpArgs false
set_option linter.unusedVariables false
/-! Values in whole units: of single and of double numbers. -/
theorem bin32 : 2 * FloatKind.f32.format.binade = 16777216 := by decide +kernel
theorem bin64 : 2 * FloatKind.f64.format.binade = 9007199254740992 := by decide +kernel
theorem dy_ints {i : Int} (h : -16 ≤ i) (h2 : i < 48) : Dy .f32 0 i (foi .f32 i) := by
  obtain ⟨j, hj⟩ : ∃ j : Nat, (j : Int) = i + 16 := ⟨(i + 16).toNat, by omega⟩
  have h0 := of_tab tab_ints (show j < 64 by omega)
  have := dyB_spec h0
  rw [show (j : Int) - 16 = i by omega] at this
  rwa [foi_eq]
theorem dy_halves {i : Int} (h : 0 ≤ i) (h2 : i < 64) : Dy .f32 1 i (fop .quo .f32 (foi .f32 i) (canon .f32 1073741824)) := by
  obtain ⟨j, rfl⟩ : ∃ j : Nat, (j : Int) = i := ⟨i.toNat, by omega⟩
  have h0 := of_tab tab_halves (show j < 64 by omega)
  have := dyB_spec h0
  rwa [foi_eq]
theorem dy_quarters {i : Int} (h : 0 ≤ i) (h2 : i < 64) : Dy .f32 2 i (fop .quo .f32 (foi .f32 i) (canon .f32 1082130432)) := by
  obtain ⟨j, rfl⟩ : ∃ j : Nat, (j : Int) = i := ⟨i.toNat, by omega⟩
  have h0 := of_tab tab_quarters (show j < 64 by omega)
  have := dyB_spec h0
  rwa [foi_eq]
theorem dy_eighths {i : Int} (h : 0 ≤ i) (h2 : i < 64) : Dy .f32 3 i (fop .quo .f32 (foi .f32 i) (canon .f32 1090519040)) := by
  obtain ⟨j, rfl⟩ : ∃ j : Nat, (j : Int) = i := ⟨i.toNat, by omega⟩
  have h0 := of_tab tab_eighths (show j < 64 by omega)
  have := dyB_spec h0
  rwa [foi_eq]
theorem least_dy {e : Nat} {n : Int} {x : Nat} (h : Dy .f32 e n x) (he : e ≤ 149) (hn : 0 ≤ n) : least x = true := by
  unfold least K
  rw [h.fin, h.geq (dy_zero e he), decide_eq_true hn]
  rfl
theorem dy_one : Dy .f32 2 4 (canon .f32 1065353216) := dyB_spec (by decide +kernel)
noncomputable def Zu : Int := ((2 ^ zOf .f32 : Nat) : Int)
noncomputable def Gu : Int := ((2 ^ 129 : Nat) : Int)
theorem Zu_eq : Zu = 1048576 * Gu := by
  unfold Zu Gu
  rw [zOf_32, show 149 = 20 + 129 from rfl, Nat.pow_add, Int.natCast_mul]
  congr 1
theorem Gu_pos : 0 < Gu := by unfold Gu; have := Nat.two_pow_pos 129; omega
theorem room16 : ((16777216 * 2 ^ 129 : Nat) : Int) = 16 * Zu := by
  rw [Zu_eq, Int.natCast_mul]
  show (16777216 : Int) * Gu = _
  omega
theorem lss_sv {k : FloatKind} {x y : Nat} (hx : Fin k x) (hy : Fin k y) : fcmp .lss k x y = decide (sv k x < sv k y) := by
  rw [cmp_lss hx.num hy.num]
  have := pos_sv (k := k) (x := y) (y := x)
  exact decide_eq_decide.2 (by omega)
theorem gtr_sv {k : FloatKind} {x y : Nat} (hx : Fin k x) (hy : Fin k y) : fcmp .gtr k x y = decide (sv k y < sv k x) := by
  rw [cmp_gtr hx.num hy.num]
  have := pos_sv (k := k) (x := x) (y := y)
  exact decide_eq_decide.2 (by omega)
theorem geq_sv {k : FloatKind} {x y : Nat} (hx : Fin k x) (hy : Fin k y) : fcmp .geq k x y = decide (sv k y ≤ sv k x) := by
  rw [cmp_geq hx.num hy.num]
  exact decide_eq_decide.2 pos_sv
theorem leq_sv {k : FloatKind} {x y : Nat} (hx : Fin k x) (hy : Fin k y) : fcmp .leq k x y = decide (sv k x ≤ sv k y) := by
  rw [cmp_leq hx.num hy.num]
  exact decide_eq_decide.2 pos_sv
theorem j129 : 129 ≤ zOf .f32 := by rw [zOf_32]; omega
theorem add16 {x y : Nat} (hx : Fin .f32 x) (hy : Fin .f32 y) (h : -(16 * Zu) ≤ sv .f32 x + sv .f32 y) (h' : sv .f32 x + sv .f32 y ≤ 16 * Zu) :
    Fin .f32 (fop .add .f32 x y) ∧ sv .f32 (fop .add .f32 x y) ≤ sv .f32 x + sv .f32 y + Gu ∧ sv .f32 x + sv .f32 y ≤ sv .f32 (fop .add .f32 x y) + Gu ∧ (0 ≤ sv .f32 x + sv .f32 y → 0 ≤ sv .f32 (fop .add .f32 x y)) :=
  have g := add_near hx hy (N := 16777216) (j := 129) (by rw [bin32]; omega) j129 (by have := room16; omega)
  ⟨g.1, g.2.1, g.2.2.1, g.2.2.2.1⟩
theorem sub16 {x y : Nat} (hx : Fin .f32 x) (hy : Fin .f32 y) (h : -(16 * Zu) ≤ sv .f32 x - sv .f32 y) (h' : sv .f32 x - sv .f32 y ≤ 16 * Zu) :
    Fin .f32 (fop .sub .f32 x y) ∧ sv .f32 (fop .sub .f32 x y) ≤ sv .f32 x - sv .f32 y + Gu ∧ sv .f32 x - sv .f32 y ≤ sv .f32 (fop .sub .f32 x y) + Gu ∧ (0 ≤ sv .f32 x - sv .f32 y → 0 ≤ sv .f32 (fop .sub .f32 x y)) :=
  have g := sub_near hx hy (N := 16777216) (j := 129) (by rw [bin32]; omega) j129 (by have := room16; omega)
  ⟨g.1, g.2.1, g.2.2.1, g.2.2.2.1⟩
theorem mul16 {x y : Nat} {p q : Int} (hx : NN .f32 x) (hy : NN .f32 y) (hp : sv .f32 x ≤ p * Zu) (hq : sv .f32 y ≤ q * Zu) (h0 : 0 ≤ p) (h : p * q ≤ 16) : NN .f32 (fop .mul .f32 x y) ∧ sv .f32 (fop .mul .f32 x y) ≤ 16 * Zu := by
  have hz : 0 < Zu := by rw [Zu_eq]; have := Gu_pos; omega
  have g := mul_near hx hy (N := 16777216) (j := 129) (by rw [bin32]; omega) j129 (by
    rw [Int.natCast_mul, room16]
    show _ ≤ 16 * Zu * Zu
    have h1 : sv .f32 x * sv .f32 y ≤ (p * Zu) * (q * Zu) := Int.mul_le_mul hp hq hy.2 (Int.mul_nonneg h0 (by omega))
    have h2 : (p * Zu) * (q * Zu) = (p * q) * (Zu * Zu) := by rw [Int.mul_assoc, Int.mul_assoc, Int.mul_left_comm Zu q]
    have h3 : (p * q) * (Zu * Zu) ≤ 16 * (Zu * Zu) := Int.mul_le_mul_of_nonneg_right h (Int.mul_nonneg (by omega) (by omega))
    rw [Int.mul_assoc 16]
    omega)
  exact ⟨g.1, by have := g.2.1; rw [room16] at this; exact this⟩
theorem quo_nn {x y : Nat} (hx : NN .f32 x) (hy : NN .f32 y) (h1 : Zu ≤ sv .f32 y) : NN .f32 (fop .quo .f32 x y) ∧ sv .f32 (fop .quo .f32 x y) ≤ sv .f32 x := by
  have hz : 0 < Zu := by rw [Zu_eq]; have := Gu_pos; omega
  have vy := hy.val
  have vx := hx.val
  obtain ⟨r, e, h2, h3⟩ := quo_up (k := .f32) hx.1 hy.1 (by omega)
  have hr := h3 (rungOf FloatKind.f32.format x) (by
    show valR .f32 x * 2 ^ zOf .f32 ≤ valR .f32 x * valR .f32 y
    refine Nat.mul_le_mul_left _ ?_
    have : Zu = ((2 ^ zOf .f32 : Nat) : Int) := rfl
    omega)
  obtain ⟨f1, f2⟩ := word_facts (k := .f32) (s := negOf FloatKind.f32.format x ^^ negOf FloatKind.f32.format y) h2
  have hv : valR .f32 (fop .quo .f32 x y) ≤ valR .f32 x := by rw [e, word_val h2]; exact (rungV_le_iff (binade_pos _)).2 hr
  have hfin : Fin .f32 (fop .quo .f32 x y) := by unfold Go.Ax.Fin; rw [e, f2]; exact Nat.lt_of_le_of_lt hr hx.1
  have hs : sv .f32 (fop .quo .f32 x y) = (valR .f32 (fop .quo .f32 x y) : Int) := by
    rcases sg_nn hx.2 with e1 | e1
    · rcases sg_nn hy.2 with e2 | e2
      · unfold sv
        rw [show negOf FloatKind.f32.format (fop .quo .f32 x y) = false by rw [e, f1, e1, e2]; rfl]
        rfl
      · exfalso
        have : valR .f32 y = 0 := e2
        omega
    · have e1' : valR .f32 x = 0 := e1
      have : valR .f32 (fop .quo .f32 x y) = 0 := by omega
      unfold sv; rw [this]; unfold sg; split <;> rfl
  exact ⟨⟨hfin, by rw [hs]; omega⟩, by rw [hs]; omega⟩
theorem sv_one : Fin .f32 (K 1065353216) ∧ sv .f32 (K 1065353216) = Zu := by
  have h : Dy .f32 0 1 (canon .f32 1065353216) := dyB_spec (by decide +kernel)
  refine ⟨h.1, ?_⟩
  have := h.2.2
  rw [Int.one_mul, Nat.sub_zero] at this
  exact this
def eH : Nat := 1027
def eW : Nat := 1015
noncomputable def Hu : Int := ((2 ^ eH : Nat) : Int)
noncomputable def Wu : Int := ((2 ^ eW : Nat) : Int)
noncomputable def PU : Int := ((2 ^ gap : Nat) : Int)
theorem pow_cast (a b c : Nat) (h : c = a + b) : ((2 ^ c : Nat) : Int) = ((2 ^ a : Nat) : Int) * ((2 ^ b : Nat) : Int) := by
  rw [h, Nat.pow_add, Int.natCast_mul]
theorem p12 : ((2 ^ 12 : Nat) : Int) = 4096 := rfl
theorem p27 : ((2 ^ 27 : Nat) : Int) = 134217728 := rfl
theorem Hu_eq : Hu = 4096 * Wu := by unfold Hu Wu; rw [pow_cast 12 eW eH (by decide), p12]
theorem Wu_pos : 0 < Wu := by unfold Wu; have := Nat.two_pow_pos eW; omega
theorem PU_pos : 0 < PU := by unfold PU; have := Nat.two_pow_pos gap; omega
theorem GP : Gu * PU = 134217728 * Hu := by
  unfold Gu PU Hu
  rw [← pow_cast 129 gap (129 + gap) rfl, pow_cast 27 eH (129 + gap) (by decide), p27]
theorem ZP : Zu * PU = 140737488355328 * Hu := by rw [Zu_eq, Int.mul_assoc, GP]; omega
/-- The value of a number, in the units of the wide kind. -/
noncomputable def wv (x : Nat) : Int := sv .f64 (fwiden x)
theorem wv_eq {x : Nat} (h : Fin .f32 x) : wv x = sv .f32 x * PU := widen_sv h
theorem wv_nn {x : Nat} (h : NN .f32 x) : 0 ≤ wv x := by rw [wv_eq h.1]; exact Int.mul_nonneg h.2 (Int.le_of_lt PU_pos)
theorem wv_le {x y : Nat} (hx : Fin .f32 x) (hy : Fin .f32 y) (h : sv .f32 x ≤ sv .f32 y) : wv x ≤ wv y := by rw [wv_eq hx, wv_eq hy]; exact Int.mul_le_mul_of_nonneg_right h (Int.le_of_lt PU_pos)
theorem wv_leZ {x : Nat} {m : Int} (hx : Fin .f32 x) (h : sv .f32 x ≤ m * Zu) : wv x ≤ m * (140737488355328 * Hu) := by
  rw [wv_eq hx, ← ZP, ← Int.mul_assoc]; exact Int.mul_le_mul_of_nonneg_right h (Int.le_of_lt PU_pos)
noncomputable def tJ (xs : List Nat) : Nat → Int
  | 0 => 0
  | i + 1 => tJ xs i + wv (xs.getD i 0)
theorem add64 {x y : Nat} (hx : Fin .f64 x) (hy : Fin .f64 y) (h : -(9007199254740992 * Hu) ≤ sv .f64 x + sv .f64 y) (h' : sv .f64 x + sv .f64 y ≤ 9007199254740992 * Hu) :
    Fin .f64 (fop .add .f64 x y) ∧ sv .f64 (fop .add .f64 x y) ≤ sv .f64 x + sv .f64 y + Hu ∧ sv .f64 x + sv .f64 y ≤ sv .f64 (fop .add .f64 x y) + Hu :=
  have g := add_near hx hy (N := 9007199254740992) (j := eH) (by rw [bin64]; omega) (by rw [zOf_64]; decide) (by
    have e : ((9007199254740992 * 2 ^ eH : Nat) : Int) = 9007199254740992 * Hu := by rw [Int.natCast_mul]; rfl
    omega)
  ⟨g.1, g.2.1, g.2.2.1⟩
theorem sub64 {x y : Nat} (hx : Fin .f64 x) (hy : Fin .f64 y) (h : -(9007199254740992 * Hu) ≤ sv .f64 x - sv .f64 y) (h' : sv .f64 x - sv .f64 y ≤ 9007199254740992 * Hu) :
    Fin .f64 (fop .sub .f64 x y) ∧ sv .f64 (fop .sub .f64 x y) ≤ sv .f64 x - sv .f64 y + Hu ∧ sv .f64 x - sv .f64 y ≤ sv .f64 (fop .sub .f64 x y) + Hu :=
  have g := sub_near hx hy (N := 9007199254740992) (j := eH) (by rw [bin64]; omega) (by rw [zOf_64]; decide) (by
    have e : ((9007199254740992 * 2 ^ eH : Nat) : Int) = 9007199254740992 * Hu := by rw [Int.natCast_mul]; rfl
    omega)
  ⟨g.1, g.2.1, g.2.2.1⟩
theorem tJ_mono {xs : List Nat} {n : Nat} (h : ∀ j, j < n → NN .f32 (xs.getD j 0)) : ∀ i, i ≤ n → 0 ≤ tJ xs i ∧ tJ xs i ≤ tJ xs n := by
  have up : ∀ d i, i + d = n → tJ xs i ≤ tJ xs n := by
    intro d
    induction d with
    | zero => intro i hi; simp at hi; subst hi; exact Int.le_refl _
    | succ d ih =>
      intro i hi
      have h1 := ih (i + 1) (by omega)
      have h2 := wv_nn (h i (by omega))
      simp only [tJ] at h1; omega
  intro i hi
  refine ⟨?_, up (n - i) i (by omega)⟩
  induction i with
  | zero => exact Int.le_refl _
  | succ i ih =>
    have h1 := ih (by omega)
    have h2 := wv_nn (h i (by omega))
    simp only [tJ]; omega
theorem tot_near {xs : List Nat} {n : Nat} (h : ∀ j, j < n → NN .f32 (xs.getD j 0)) (hn : n ≤ 64) (hB : tJ xs n ≤ 8444249301319680 * Hu) : ∀ i : Nat, i ≤ n → Fin .f64 (totW xs i) ∧ sv .f64 (totW xs i) ≤ tJ xs i + i * Hu ∧ tJ xs i ≤ sv .f64 (totW xs i) + i * Hu
  | 0, _ => by
    have z64 : Dy .f64 0 0 (canon .f64 0) := dyB_spec (by decide +kernel)
    have e := z64.2.2
    rw [Int.zero_mul] at e
    exact ⟨z64.1, by simp only [totW, tJ]; rw [e]; simp, by simp only [totW, tJ]; rw [e]; simp⟩
  | i + 1, hi => by
    obtain ⟨f, h1, h2⟩ := tot_near h hn hB i (by omega)
    have hx := h i (by omega)
    have hw := wv_nn hx
    obtain ⟨m1, m2⟩ := tJ_mono h (i + 1) hi
    have m3 := tJ_mono h i (by omega)
    have hH : 0 < Hu := by rw [Hu_eq]; have := Wu_pos; omega
    have hi64 : (i : Int) * Hu ≤ 64 * Hu := Int.mul_le_mul_of_nonneg_right (by omega) (by omega)
    have e : wv (xs.getD i 0) = sv .f64 (fwiden (xs.getD i 0)) := rfl
    simp only [tJ] at m1 m2
    have g := add64 f (widen_val hx.1).1 (by rw [← e]; omega) (by rw [← e]; omega)
    rw [← e] at g
    simp only [totW, tJ]
    have ei : ((i + 1 : Nat) : Int) * Hu = i * Hu + Hu := by rw [Int.natCast_add, Int.add_mul]; simp
    rw [ei]
    exact ⟨g.1, by omega, by omega⟩
theorem dy_nn {e : Nat} {n m : Int} {x : Nat} (h : Dy .f32 e n x) (h0 : 0 ≤ n) (hm : n ≤ m * ((2 ^ e : Nat) : Int)) : NN .f32 x ∧ sv .f32 x ≤ m * Zu := by
  have hp : (0 : Int) ≤ ((2 ^ (zOf .f32 - e) : Nat) : Int) := Int.natCast_nonneg _
  refine ⟨⟨h.1, by rw [h.2.2]; exact Int.mul_nonneg h0 hp⟩, ?_⟩
  rw [h.2.2, show Zu = ((2 ^ e : Nat) : Int) * ((2 ^ (zOf .f32 - e) : Nat) : Int) from pow_cast _ _ _ (by have := h.2.1; omega), ← Int.mul_assoc]
  exact Int.mul_le_mul_of_nonneg_right hm hp
def tk2 : Nat := canon .f32 1056964608
theorem tk2_dy : Dy .f32 1 1 tk2 := dyB_spec (by decide +kernel)

theorem sv_zero : Fin .f32 (canon .f32 0) ∧ sv .f32 (canon .f32 0) = 0 := by
  have h := dy_zero 0 (by omega)
  exact ⟨h.1, by rw [h.2.2, Int.zero_mul]⟩
theorem least_nn {x : Nat} (h : NN .f32 x) : least x = true := by
  unfold least K
  rw [fin_eq, show isFin .f32 x = true from decide_eq_true h.1, geq_sv h.1 sv_zero.1, sv_zero.2, decide_eq_true h.2]
  rfl
theorem fin_nn {x : Nat} (h : NN .f32 x) : fin x = true := by rw [fin_eq]; exact decide_eq_true h.1
noncomputable def vR (rs : List Nat) (t : Nat) : Int := sv .f32 (rs.getD t 0)
noncomputable def Qu : Int := ((2 ^ 115 : Nat) : Int)
theorem Zu_q : Zu = 17179869184 * Qu := by
  unfold Zu Qu
  rw [zOf_32, show 149 = 34 + 115 from rfl, Nat.pow_add, Int.natCast_mul]
  congr 1
theorem Qu_big : 16777216 ≤ Qu := by
  unfold Qu
  have h : (2 : Nat) ^ 24 ≤ 2 ^ 115 := Nat.pow_le_pow_right (by omega) (by omega)
  have : (2 : Nat) ^ 24 = 16777216 := rfl
  omega
theorem room1024 : ((16777216 * 2 ^ 135 : Nat) : Int) = 1024 * Zu := by
  unfold Zu
  rw [zOf_32, show 149 = 14 + 135 from rfl, Nat.pow_add, Int.natCast_mul, Int.natCast_mul]
  show (16777216 : Int) * _ = 1024 * (16384 * _)
  omega
theorem j135 : 135 ≤ zOf .f32 := by rw [zOf_32]; omega
theorem unit_nn {sh : Nat} (h : Unit .f32 false sh) : NN .f32 sh ∧ sv .f32 sh ≤ Zu := by
  obtain ⟨h1, h2, h3, h4⟩ := h.facts
  have : sv .f32 sh = (valR .f32 sh : Int) := by unfold sv; rw [h1]; rfl
  refine ⟨⟨h3, by rw [this]; omega⟩, ?_⟩
  rw [this]; unfold Zu; omega
theorem add_v {x y : Nat} {V e : Int} (hx : NN .f32 x) (hy : NN .f32 y) (hV : sv .f32 x + sv .f32 y ≤ V) (hb : V ≤ 1000 * Zu) (he : V + e + 16777216 ≤ 16777216 * e) :
    NN .f32 (fop .add .f32 x y) ∧ sv .f32 (fop .add .f32 x y) ≤ sv .f32 x + sv .f32 y + e ∧ sv .f32 x + sv .f32 y ≤ sv .f32 (fop .add .f32 x y) + e := by
  have hz := Zu_q
  have hq := Qu_big
  have g := add_near hx.1 hy.1 (N := 16777216) (j := 135) (by rw [bin32]; omega) j135 (by have := room1024; have := hx.2; have := hy.2; omega)
  have g0 := g.2.2.2.1 (by have := hx.2; have := hy.2; omega)
  have r := add_rel hx.1 hy.1 (by have := hx.2; have := hy.2; omega) g.1 g0
  refine ⟨⟨g.1, g0⟩, ?_, ?_⟩ <;> omega
theorem sub_v {x y : Nat} {V e : Int} (hx : NN .f32 x) (hy : NN .f32 y) (hxy : sv .f32 y ≤ sv .f32 x) (hV : sv .f32 x ≤ V + e) (hb : V + e ≤ 1000 * Zu) (he : V + e + 16777216 ≤ 16777216 * e) :
    NN .f32 (fop .sub .f32 x y) ∧ sv .f32 (fop .sub .f32 x y) ≤ sv .f32 x - sv .f32 y + e ∧ sv .f32 x - sv .f32 y ≤ sv .f32 (fop .sub .f32 x y) + e := by
  have hz := Zu_q
  have hq := Qu_big
  have g := sub_near hx.1 hy.1 (N := 16777216) (j := 135) (by rw [bin32]; omega) j135 (by have := room1024; have := hx.2; have := hy.2; omega)
  have g0 := g.2.2.2.1 (by omega)
  have r := sub_rel hx.1 hy.1 (by omega) g.1 g0
  have := hy.2
  refine ⟨⟨g.1, g0⟩, ?_, ?_⟩ <;> omega
theorem mul_v {x y : Nat} {V e : Int} (hx : NN .f32 x) (hy : NN .f32 y) (h1 : sv .f32 y ≤ Zu) (hV : sv .f32 x ≤ V + e) (hb : V + e ≤ 1000 * Zu) (he : V + e + 16777216 ≤ 16777216 * e) :
    NN .f32 (fop .mul .f32 x y) ∧ sv .f32 (fop .mul .f32 x y) ≤ sv .f32 x ∧ sv .f32 (fop .mul .f32 x y) * Zu ≤ sv .f32 x * sv .f32 y + e * Zu ∧ sv .f32 x * sv .f32 y ≤ sv .f32 (fop .mul .f32 x y) * Zu + e * Zu := by
  have hz := Zu_q
  have hq := Qu_big
  have hp : sv .f32 x * sv .f32 y ≤ sv .f32 x * Zu := Int.mul_le_mul_of_nonneg_left h1 hx.2
  have hw : sv .f32 x * Zu ≤ (1000 * Zu) * Zu := Int.mul_le_mul_of_nonneg_right (by omega) (by omega)
  have g := mul_near hx hy (N := 16777216) (j := 135) (by rw [bin32]; omega) j135 (by
    rw [Int.natCast_mul, room1024]
    show _ ≤ 1024 * Zu * Zu
    have : (1000 * Zu) * Zu ≤ (1024 * Zu) * Zu := Int.mul_le_mul_of_nonneg_right (by omega) (by omega)
    omega)
  have m := (mul_mono hx hy hx).1 hp g.1.1
  have r := mul_rel hx hy g.1
  have eZ : ((2 ^ zOf .f32 : Nat) : Int) = Zu := rfl
  rw [eZ] at r
  have k1 : sv .f32 x * Zu ≤ (V + e) * Zu := Int.mul_le_mul_of_nonneg_right hV (by omega)
  have k2 : (V + e + 16777216) * Zu ≤ (16777216 * e) * Zu := Int.mul_le_mul_of_nonneg_right he (by omega)
  have k3 : (V + e + 16777216) * Zu = (V + e) * Zu + 16777216 * Zu := Int.add_mul _ _ _
  have k4 : (16777216 * e) * Zu = 16777216 * (e * Zu) := Int.mul_assoc _ _ _
  refine ⟨g.1, m, ?_, ?_⟩
  · omega
  · omega
theorem mul_w {x y : Nat} {V e : Int} (hx : NN .f32 x) (hy : NN .f32 y) (hV : sv .f32 x * sv .f32 y ≤ V * Zu) (hb : V ≤ 1000 * Zu) (he : V + 16777216 ≤ 16777216 * e) :
    NN .f32 (fop .mul .f32 x y) ∧ sv .f32 (fop .mul .f32 x y) * Zu ≤ sv .f32 x * sv .f32 y + e * Zu ∧ sv .f32 x * sv .f32 y ≤ sv .f32 (fop .mul .f32 x y) * Zu + e * Zu := by
  have hz := Zu_q
  have hq := Qu_big
  have g := mul_near hx hy (N := 16777216) (j := 135) (by rw [bin32]; omega) j135 (by
    rw [Int.natCast_mul, room1024]
    show _ ≤ 1024 * Zu * Zu
    have : V * Zu ≤ (1024 * Zu) * Zu := Int.mul_le_mul_of_nonneg_right (by omega) (by omega)
    omega)
  have r := mul_rel hx hy g.1
  have eZ : ((2 ^ zOf .f32 : Nat) : Int) = Zu := rfl
  rw [eZ] at r
  have k2 : (V + 16777216) * Zu ≤ (16777216 * e) * Zu := Int.mul_le_mul_of_nonneg_right he (by omega)
  have k3 : (V + 16777216) * Zu = V * Zu + 16777216 * Zu := Int.add_mul _ _ _
  have k4 : (16777216 * e) * Zu = 16777216 * (e * Zu) := Int.mul_assoc _ _ _
  refine ⟨g.1, ?_, ?_⟩
  · omega
  · omega
/-- Sums. -/
def sm (f : Nat → Int) : Nat → Int
  | 0 => 0
  | n + 1 => sm f n + f n
theorem sm_congr {f g : Nat → Int} : ∀ n, (∀ i, i < n → f i = g i) → sm f n = sm g n
  | 0, _ => rfl
  | n + 1, h => by rw [sm, sm, sm_congr n fun i hi => h i (by omega), h n (by omega)]
theorem sm_nn {f : Nat → Int} : ∀ n, (∀ i, i < n → 0 ≤ f i) → 0 ≤ sm f n
  | 0, _ => Int.le_refl _
  | n + 1, h => by have := sm_nn n fun i hi => h i (by omega); have := h n (by omega); rw [sm]; omega
theorem sm_mono {f : Nat → Int} {m : Nat} : ∀ n, m ≤ n → (∀ i, i < n → 0 ≤ f i) → sm f m ≤ sm f n
  | 0, hm, _ => by rw [show m = 0 by omega]; exact Int.le_refl _
  | n + 1, hm, h => by
    by_cases hh : m = n + 1
    · rw [hh]; exact Int.le_refl _
    · have := sm_mono (f := f) (m := m) n (by omega) fun i hi => h i (by omega)
      have := h n (by omega)
      rw [sm]; omega
theorem sm_le {f : Nat → Int} {c : Int} : ∀ n : Nat, (∀ i, i < n → f i ≤ c) → sm f n ≤ n * c
  | 0, _ => by simp [sm]
  | n + 1, h => by
    have h1 := sm_le n fun i hi => h i (by omega)
    have h2 := h n (by omega)
    rw [sm, Int.natCast_add, Int.add_mul]
    simp only [Int.natCast_one, Int.one_mul]
    omega
theorem tJ_sm {xs : List Nat} : ∀ n, (∀ j, j < n → NN .f32 (xs.getD j 0)) → tJ xs n = sm (vR xs) n * PU
  | 0, _ => by simp [tJ, sm]
  | n + 1, h => by
    rw [tJ, sm, Int.add_mul, tJ_sm n fun j hj => h j (by omega), wv_eq (h n (by omega)).1]; rfl
theorem QP : Qu * PU = 8192 * Hu := by
  have h := ZP
  rw [Zu_q, Int.mul_assoc] at h
  omega
theorem Hu_pos : 0 < Hu := by rw [Hu_eq]; have := Wu_pos; omega
/-- A total of numbers, in wide units. -/
theorem tot_w {xs : List Nat} {n : Nat} (h : ∀ j, j < n → NN .f32 (xs.getD j 0)) (hn : n ≤ 64) (hB : sm (vR xs) n ≤ 60 * Zu) :
    Fin .f64 (totW xs n) ∧ sv .f64 (totW xs n) ≤ sm (vR xs) n * PU + 64 * Hu ∧ sm (vR xs) n * PU ≤ sv .f64 (totW xs n) + 64 * Hu := by
  have hH := Hu_pos
  have e := tJ_sm n h
  have k : sm (vR xs) n * PU ≤ (60 * Zu) * PU := Int.mul_le_mul_of_nonneg_right hB (Int.le_of_lt PU_pos)
  rw [Int.mul_assoc, ZP] at k
  obtain ⟨f, h1, h2⟩ := tot_near h hn (by rw [e]; omega) n (Nat.le_refl _)
  have : (n : Int) * Hu ≤ 64 * Hu := Int.mul_le_mul_of_nonneg_right (by omega) (by omega)
  rw [e] at h1 h2
  exact ⟨f, by omega, by omega⟩
theorem dy_001 : Dy .f64 59 5764607523034235 (canon .f64 4576918229304087675) := dyB_spec (by decide +kernel)
theorem c_01 : Fin .f64 (canon .f64 4576918229304087675) ∧ sv .f64 (canon .f64 4576918229304087675) = 5764607523034235 * Wu := by
  refine ⟨dy_001.1, ?_⟩
  rw [dy_001.2.2, show zOf .f64 - 59 = eW by rw [zOf_64]; decide]
  unfold Wu
  generalize ((2 ^ eW : Nat) : Int) = z
  omega
theorem dy_m001 : Dy .f64 62 4611686018427388 (canon .f64 4562254508917369340) := dyB_spec (by decide +kernel)
theorem c_001 : Fin .f64 (canon .f64 4562254508917369340) ∧ 576460752303423 * Wu ≤ sv .f64 (canon .f64 4562254508917369340) := by
  refine ⟨dy_m001.1, ?_⟩
  rw [dy_m001.2.2, show zOf .f64 - 62 = 1012 by rw [zOf_64]]
  unfold Wu
  have p3 : ((2 ^ 3 : Nat) : Int) = 8 := rfl
  rw [pow_cast 3 1012 eW (by decide), p3]
  have := Nat.two_pow_pos 1012
  generalize 2 ^ 1012 = z at *
  omega
theorem dy_1001 : Dy .f64 52 4508103226997866 (canon .f64 4607186922399644778) := dyB_spec (by decide +kernel)
theorem c_1001 : Fin .f64 (canon .f64 4607186922399644778) ∧ sv .f64 (canon .f64 4607186922399644778) = 577037213055726848 * Wu := by
  refine ⟨dy_1001.1, ?_⟩
  rw [dy_1001.2.2, show zOf .f64 - 52 = 1022 by rw [zOf_64]]
  unfold Wu
  have p7 : ((2 ^ 7 : Nat) : Int) = 128 := rfl
  rw [pow_cast 7 eW 1022 (by decide), p7]
  generalize ((2 ^ eW : Nat) : Int) = z
  omega
theorem gap_ok {X Y c : Nat} {d : Int} (hX : Fin .f64 X) (hY : Fin .f64 Y) (h1 : sv .f64 X - sv .f64 Y ≤ d) (h2 : -d ≤ sv .f64 X - sv .f64 Y) (hd : d ≤ 9007199254740992 * Hu) (hc : Fin .f64 c) (h : d + Hu ≤ sv .f64 c) :
    fcmp .gtr .f64 (gapW X Y) c = false := by
  have hH := Hu_pos
  unfold gapW
  rw [lss_sv hX hY]
  by_cases g : sv .f64 X < sv .f64 Y
  · rw [decide_eq_true g]
    have z := sub64 hY hX (by omega) (by omega)
    show fcmp .gtr .f64 (fop .sub .f64 Y X) _ = false
    rw [gtr_sv z.1 hc]
    exact decide_eq_false (by omega)
  · rw [decide_eq_false g]
    have z := sub64 hX hY (by omega) (by omega)
    show fcmp .gtr .f64 (fop .sub .f64 X Y) _ = false
    rw [gtr_sv z.1 hc]
    exact decide_eq_false (by omega)

noncomputable def fsR (cs : List Int) (N : Nat) : List Nat := tabN (rnW cs) N
theorem fsR_len (cs : List Int) (N : Nat) : (fsR cs N).length = N := tabN_len _ _
/-- Rain that is drawn. -/
theorem rain_facts {cs : List Int} (hc : Byt cs) {N j : Nat} (hN : N ≤ 64) (hj : j < N) : NN .f32 ((fsR cs N).getD j 0) ∧ vR (fsR cs N) j ≤ 2 * Zu ∧ 4 * vR (fsR cs N) j = drN cs 9 j * Zu ∧ 0 ≤ drN cs 9 j ∧ drN cs 9 j ≤ 8 := by
  have bj := drN_bound hc (n := 9) (by omega) (by omega) (i := j) (by omega)
  have e1 : (fsR cs N).getD j 0 = rnW cs j := tabN_getD (rnW cs) hj 0
  have d := dy_quarters bj.1 (by omega)
  have hf := dy_nn (m := 2) d bj.1 (by show _ ≤ 2 * (4 : Int); omega)
  unfold vR
  rw [e1]
  refine ⟨hf.1, hf.2, ?_, bj.1, by omega⟩
  show 4 * sv .f32 (fop .quo .f32 (foi .f32 (drN cs 9 j)) (canon .f32 1082130432)) = _
  rw [d.2.2, show Zu = 4 * ((2 ^ (zOf .f32 - 2) : Nat) : Int) from pow_cast 2 (zOf .f32 - 2) (zOf .f32) (by rw [zOf_32])]
  rw [Int.mul_left_comm]

end Go.Proofs.Ytnepjbnoaemmdaa
