/- What each function of this seat does (So4). Printed from templates of this seat's own. -/
import Derived.Test.YtddedcedkpigkaaSo3
import Derived.Test.YtddedcedkpigkaaDso
namespace Go.Proofs.Ytddedcedkpigkaa
open Go.Ax Go.Bx
set_option maxRecDepth 8000
set_option linter.unusedSimpArgs false
set_option linter.unusedVariables false
def eH : Nat := 1027
def eW : Nat := 1015
noncomputable def Hu : Int := ((2 ^ eH : Nat) : Int)
noncomputable def Wu : Int := ((2 ^ eW : Nat) : Int)
noncomputable def PU : Int := ((2 ^ gap : Nat) : Int)
theorem pow_cast (a b c : Nat) (h : c = a + b) : ((2 ^ c : Nat) : Int) = ((2 ^ a : Nat) : Int) * ((2 ^ b : Nat) : Int) := by
  rw [h, Nat.pow_add, Int.natCast_mul]
theorem p12 : ((2 ^ 12 : Nat) : Int) = 4096 := rfl
theorem p27 : ((2 ^ 27 : Nat) : Int) = 134217728 := rfl
theorem Hu_eq : Hu = 4096 * Wu := by unfold Hu Wu; rw [pow_cast 12 eW eH (by decide), p12]
theorem Wu_pos : 0 < Wu := by unfold Wu; have := Nat.two_pow_pos eW; omega
theorem PU_pos : 0 < PU := by unfold PU; have := Nat.two_pow_pos gap; omega
theorem GP : Gu * PU = 134217728 * Hu := by
  unfold Gu PU Hu
  rw [← pow_cast 129 gap (129 + gap) rfl, pow_cast 27 eH (129 + gap) (by decide), p27]
theorem ZP : Zu * PU = 140737488355328 * Hu := by rw [Zu_eq, Int.mul_assoc, GP]; omega
/-- The value of a number, in the units of the wide kind. -/
noncomputable def wv (x : Nat) : Int := sv .f64 (fwiden x)
theorem wv_eq {x : Nat} (h : Fin .f32 x) : wv x = sv .f32 x * PU := widen_sv h
theorem wv_nn {x : Nat} (h : NN .f32 x) : 0 ≤ wv x := by rw [wv_eq h.1]; exact Int.mul_nonneg h.2 (Int.le_of_lt PU_pos)
theorem wv_le {x y : Nat} (hx : Fin .f32 x) (hy : Fin .f32 y) (h : sv .f32 x ≤ sv .f32 y) : wv x ≤ wv y := by rw [wv_eq hx, wv_eq hy]; exact Int.mul_le_mul_of_nonneg_right h (Int.le_of_lt PU_pos)
theorem wv_leZ {x : Nat} {m : Int} (hx : Fin .f32 x) (h : sv .f32 x ≤ m * Zu) : wv x ≤ m * (140737488355328 * Hu) := by
  rw [wv_eq hx, ← ZP, ← Int.mul_assoc]; exact Int.mul_le_mul_of_nonneg_right h (Int.le_of_lt PU_pos)
theorem soil_wide {a b c d e fall tick : Nat} (h : SoilB a b c d) (he : NN .f32 e) (hE : sv .f32 e ≤ sv .f32 c) (hf : NN .f32 fall) (hF : sv .f32 fall ≤ 2 * Zu) (ht : NN .f32 tick) (hT : sv .f32 tick ≤ 1 * Zu) :
    wv (soE a b c d e fall tick) + wv (soO a b c e fall tick) + wv (soL a b c d e fall tick) ≤ wv e + wv fall + 402653184 * Hu ∧ wv e + wv fall ≤ wv (soE a b c d e fall tick) + wv (soO a b c e fall tick) + wv (soL a b c d e fall tick) + 402653184 * Hu := by
  obtain ⟨n1, _, n2, _, n3, _, h1, h2⟩ := soil_step h he hE hf hF ht hT
  rw [wv_eq n1.1, wv_eq n2.1, wv_eq n3.1, wv_eq he.1, wv_eq hf.1]
  have k1 := Int.mul_le_mul_of_nonneg_right h1 (Int.le_of_lt PU_pos)
  have k2 := Int.mul_le_mul_of_nonneg_right h2 (Int.le_of_lt PU_pos)
  simp only [Int.add_mul, Int.mul_assoc, GP] at k1 k2
  omega
noncomputable def tJ (xs : List Nat) : Nat → Int
  | 0 => 0
  | i + 1 => tJ xs i + wv (xs.getD i 0)
theorem add64 {x y : Nat} (hx : Fin .f64 x) (hy : Fin .f64 y) (h : -(9007199254740992 * Hu) ≤ sv .f64 x + sv .f64 y) (h' : sv .f64 x + sv .f64 y ≤ 9007199254740992 * Hu) :
    Fin .f64 (fop .add .f64 x y) ∧ sv .f64 (fop .add .f64 x y) ≤ sv .f64 x + sv .f64 y + Hu ∧ sv .f64 x + sv .f64 y ≤ sv .f64 (fop .add .f64 x y) + Hu :=
  have g := add_near hx hy (N := 9007199254740992) (j := eH) (by rw [bin64]; omega) (by rw [zOf_64]; decide) (by
    have e : ((9007199254740992 * 2 ^ eH : Nat) : Int) = 9007199254740992 * Hu := by rw [Int.natCast_mul]; rfl
    omega)
  ⟨g.1, g.2.1, g.2.2.1⟩
theorem sub64 {x y : Nat} (hx : Fin .f64 x) (hy : Fin .f64 y) (h : -(9007199254740992 * Hu) ≤ sv .f64 x - sv .f64 y) (h' : sv .f64 x - sv .f64 y ≤ 9007199254740992 * Hu) :
    Fin .f64 (fop .sub .f64 x y) ∧ sv .f64 (fop .sub .f64 x y) ≤ sv .f64 x - sv .f64 y + Hu ∧ sv .f64 x - sv .f64 y ≤ sv .f64 (fop .sub .f64 x y) + Hu :=
  have g := sub_near hx hy (N := 9007199254740992) (j := eH) (by rw [bin64]; omega) (by rw [zOf_64]; decide) (by
    have e : ((9007199254740992 * 2 ^ eH : Nat) : Int) = 9007199254740992 * Hu := by rw [Int.natCast_mul]; rfl
    omega)
  ⟨g.1, g.2.1, g.2.2.1⟩
theorem tJ_mono {xs : List Nat} {n : Nat} (h : ∀ j, j < n → NN .f32 (xs.getD j 0)) : ∀ i, i ≤ n → 0 ≤ tJ xs i ∧ tJ xs i ≤ tJ xs n := by
  have up : ∀ d i, i + d = n → tJ xs i ≤ tJ xs n := by
    intro d
    induction d with
    | zero => intro i hi; simp at hi; subst hi; exact Int.le_refl _
    | succ d ih =>
      intro i hi
      have h1 := ih (i + 1) (by omega)
      have h2 := wv_nn (h i (by omega))
      simp only [tJ] at h1; omega
  intro i hi
  refine ⟨?_, up (n - i) i (by omega)⟩
  induction i with
  | zero => exact Int.le_refl _
  | succ i ih =>
    have h1 := ih (by omega)
    have h2 := wv_nn (h i (by omega))
    simp only [tJ]; omega
theorem tot_near {xs : List Nat} {n : Nat} (h : ∀ j, j < n → NN .f32 (xs.getD j 0)) (hn : n ≤ 64) (hB : tJ xs n ≤ 8444249301319680 * Hu) : ∀ i : Nat, i ≤ n → Fin .f64 (totW xs i) ∧ sv .f64 (totW xs i) ≤ tJ xs i + i * Hu ∧ tJ xs i ≤ sv .f64 (totW xs i) + i * Hu
  | 0, _ => by
    have z64 : Dy .f64 0 0 (canon .f64 0) := dyB_spec (by decide +kernel)
    have e := z64.2.2
    rw [Int.zero_mul] at e
    exact ⟨z64.1, by simp only [totW, tJ]; rw [e]; simp, by simp only [totW, tJ]; rw [e]; simp⟩
  | i + 1, hi => by
    obtain ⟨f, h1, h2⟩ := tot_near h hn hB i (by omega)
    have hx := h i (by omega)
    have hw := wv_nn hx
    obtain ⟨m1, m2⟩ := tJ_mono h (i + 1) hi
    have m3 := tJ_mono h i (by omega)
    have hH : 0 < Hu := by rw [Hu_eq]; have := Wu_pos; omega
    have hi64 : (i : Int) * Hu ≤ 64 * Hu := Int.mul_le_mul_of_nonneg_right (by omega) (by omega)
    have e : wv (xs.getD i 0) = sv .f64 (fwiden (xs.getD i 0)) := rfl
    simp only [tJ] at m1 m2
    have g := add64 f (widen_val hx.1).1 (by rw [← e]; omega) (by rw [← e]; omega)
    rw [← e] at g
    simp only [totW, tJ]
    have ei : ((i + 1 : Nat) : Int) * Hu = i * Hu + Hu := by rw [Int.natCast_add, Int.add_mul]; simp
    rw [ei]
    exact ⟨g.1, by omega, by omega⟩
theorem dy_nn {e : Nat} {n m : Int} {x : Nat} (h : Dy .f32 e n x) (h0 : 0 ≤ n) (hm : n ≤ m * ((2 ^ e : Nat) : Int)) : NN .f32 x ∧ sv .f32 x ≤ m * Zu := by
  have hp : (0 : Int) ≤ ((2 ^ (zOf .f32 - e) : Nat) : Int) := Int.natCast_nonneg _
  refine ⟨⟨h.1, by rw [h.2.2]; exact Int.mul_nonneg h0 hp⟩, ?_⟩
  rw [h.2.2, show Zu = ((2 ^ e : Nat) : Int) * ((2 ^ (zOf .f32 - e) : Nat) : Int) from pow_cast _ _ _ (by have := h.2.1; omega), ← Int.mul_assoc]
  exact Int.mul_le_mul_of_nonneg_right hm hp
theorem tab_wet : (List.range 17).all (fun h => (List.range 9).all fun k => dyB .f32 4 ((h : Int) * (k : Int)) (fop .quo .f32 (fop .mul .f32 (fop .quo .f32 (floatOfInt .f32 (h : Int)) (canon .f32 1073741824)) (floatOfInt .f32 (k : Int))) (canon .f32 1090519040))) = true := by decide +kernel
def tk2 : Nat := canon .f32 1056964608
theorem tk2_dy : Dy .f32 1 1 tk2 := dyB_spec (by decide +kernel)
theorem o_soil {bs : List Int} (hb : Byt bs) : SoilB (oA bs) (oB bs) (oC bs) (oD bs) ∧ NN .f32 (oE bs) ∧ sv .f32 (oE bs) ≤ sv .f32 (oC bs) := by
  obtain ⟨h1, h2, h3, h4, h5⟩ := o_bound hb
  have a1 := dy_nn (m := 2) (dy_quarters h1.2.1 (by omega)) h1.2.1 (by show _ ≤ 2 * (4 : Int); omega)
  have a2 := dy_nn (m := 2) (dy_quarters h2.2.1 (by omega)) h2.2.1 (by show _ ≤ 2 * (4 : Int); omega)
  have d3 := dy_halves h3.2.1 (show (o3 bs).1 < 64 by omega)
  have a3 := dy_nn (m := 8) d3 h3.2.1 (by show _ ≤ 8 * (2 : Int); omega)
  have a4 := dy_nn (m := 1) (dy_eighths h4.2.1 (by omega)) h4.2.1 (by show _ ≤ 1 * (8 : Int); omega)
  have d5 : Dy .f32 4 ((o3 bs).1 * (o5 bs).1) (oE bs) := by
    obtain ⟨h, hh⟩ : ∃ h : Nat, (h : Int) = (o3 bs).1 := ⟨(o3 bs).1.toNat, by omega⟩
    obtain ⟨k, hk⟩ : ∃ k : Nat, (k : Int) = (o5 bs).1 := ⟨(o5 bs).1.toNat, by omega⟩
    have t1 := of_tab tab_wet (show h < 17 by omega)
    have t2 := of_tab t1 (show k < 9 by omega)
    have := dyB_spec t2
    unfold oE oC
    rw [foi_eq, foi_eq, ← hh, ← hk]
    exact this
  have b0 : 0 ≤ (o3 bs).1 * (o5 bs).1 := Int.mul_nonneg h3.2.1 h5.1
  have b1 : (o3 bs).1 * (o5 bs).1 ≤ (o3 bs).1 * 8 := Int.mul_le_mul_of_nonneg_left (by omega) h3.2.1
  have a5 := dy_nn (m := 8) d5 b0 (by show _ ≤ 8 * (16 : Int); omega)
  refine ⟨⟨a1.1, a2.1, a3.1, a4.1, a1.2, a2.2, a3.2, a4.2⟩, a5.1, ?_⟩
  have d3' : Dy .f32 4 ((o3 bs).1 * 8) (oC bs) := d3.up 3 (by rw [zOf_32]; omega)
  have := (d5.le_iff d3').2 b1
  exact pos_sv.1 this

end Go.Proofs.Ytddedcedkpigkaa
