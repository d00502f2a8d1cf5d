/- What each function of this seat does (Lk7). Printed from templates of this seat's own. -/
import Derived.Test.YtagiajolklbbiaaLk8
import Derived.Test.YtagiajolklbbiaaLt1
import Derived.Test.YtagiajolklbbiaaLk3
namespace Go.Proofs.Ytagiajolklbbiaa
open Go.Ax Go.Bx
set_option maxRecDepth 8000
set_option linter.unusedSimpArgs false
set_option linter.unusedVariables false
/-! What the law of looks asks of halves. -/
theorem tab_eq {X : List Nat} {G : Nat → Nat} {n : Nat} (hl : X.length = n) (h : ∀ i, i < n → G i = X.getD i 0) : tabN G n = X := by
  apply List.ext_getElem
  · rw [tabN_len, hl]
  · intro i h1 h2
    have hi : i < n := by omega
    have e := tabN_getD G hi 0
    rw [h i hi, List.getD_eq_getElem?_getD, List.getElem?_eq_getElem h1, List.getD_eq_getElem?_getD, List.getElem?_eq_getElem h2] at e
    simpa only [Option.getD_some] using e
theorem hill_tab {w v : Nat} {G : Nat → Nat} (hw : 1 ≤ w ∧ w ≤ 16) (hv : 1 ≤ v ∧ v ≤ 16) (h : ∀ i, i < v * w → fin (G i) = true) : hillB w v (tabN G (v * w)) = true := by
  unfold hillB
  rw [show inR (w : Int) 1 16 = true by simp [inR]; omega, show inR (v : Int) 1 16 = true by simp [inR]; omega, tabN_len, decide_eq_true (show ((v * w : Nat) : Int) = (w : Int) * v by rw [Int.natCast_mul, Int.mul_comm])]
  show finL _ = true
  unfold finL
  rw [tabN_len]
  exact allN_iff.2 fun i hi => by rw [tabN_getD G hi 0]; exact h i hi
theorem flat_ok {X : List Nat} {h : Nat → Nat} (hx : ∀ i, i < X.length → h i ≤ 8 ∧ X.getD i 0 = hI (h i : Int)) {i : Nat} (hi : i < X.length) : fin (fop .mul .f32 (X.getD i 0) (canon .f32 0)) = true ∧ fop .add .f32 (X.getD i 0) (fop .mul .f32 (X.getD i 0) (canon .f32 0)) = X.getD i 0 := by
  obtain ⟨a, b⟩ := hx i hi
  have t := of_tab (p := fun a : Nat => fin (fop .mul .f32 (hI (a : Int)) (canon .f32 0)) && (fop .add .f32 (hI (a : Int)) (fop .mul .f32 (hI (a : Int)) (canon .f32 0)) == hI (a : Int))) tab_flat (show h i < 9 by omega)
  simp only [Bool.and_eq_true, beq_iff_eq] at t
  rw [b]
  exact t
section
variable {w v : Nat} {X : List Nat} {h : Nat → Nat} (hl : X.length = v * w) (hx : ∀ i, i < X.length → h i ≤ 8 ∧ X.getD i 0 = hI (h i : Int))
include hl hx
theorem rough_eq (hn : X.length ≤ 36) : tabN (fun n => rgV X (canon .f32 0) (sdT n) n) (v * w) = X := by
  refine tab_eq hl fun i hi => ?_
  obtain ⟨a, b⟩ := hx i (by omega)
  have t := List.all_eq_true.1 (of_tab (p := fun i => (List.range 9).all fun a => rgT a i == hI (a : Int)) tab_rough (show i < 36 by omega)) (h i) (List.mem_range.2 (by omega))
  simp only [beq_iff_eq] at t
  rw [rgV, b, foi_eq]
  exact t
theorem sum_eq : adL (v * w) X (tabN (fun i => fop .mul .f32 (X.getD i 0) (canon .f32 0)) (v * w)) = X := by
  unfold adL
  refine tab_eq hl fun i hi => ?_
  rw [tabN_getD (fun i => fop .mul .f32 (X.getD i 0) (canon .f32 0)) hi 0]
  exact (flat_ok hx (by omega)).2
end
theorem minmax_ok {a b : Nat} (ha : a ≤ 8) (hb : b ≤ 8) : fminA .f32 (hI (a : Int)) (hI (b : Int)) = hI ((min a b : Nat) : Int) ∧ fmaxA .f32 (hI (a : Int)) (hI (b : Int)) = hI ((max a b : Nat) : Int) := by
  have t := List.all_eq_true.1 (of_tab (p := fun a : Nat => (List.range 9).all fun b : Nat => (fminA .f32 (hI (a : Int)) (hI (b : Int)) == hI ((min a b : Nat) : Int)) && (fmaxA .f32 (hI (a : Int)) (hI (b : Int)) == hI ((max a b : Nat) : Int))) tab_minmax (show a < 9 by omega)) b (List.mem_range.2 (by omega))
  simpa only [Bool.and_eq_true, beq_iff_eq] using t
theorem low_ok {X : List Nat} {h : Nat → Nat} (h0 : 0 < X.length) (hx : ∀ i, i < X.length → h i ≤ 8 ∧ X.getD i 0 = hI (h i : Int)) : ∀ n, n ≤ X.length → ∃ a : Nat, a ≤ 8 ∧ lwN X n = hI (a : Int) ∧ ∀ j, j < n → a ≤ h j
  | 0, _ => ⟨h 0, (hx 0 h0).1, (hx 0 h0).2, fun j hj => by omega⟩
  | n + 1, hn => by
    obtain ⟨a, a1, a2, a3⟩ := low_ok h0 hx n (by omega)
    obtain ⟨b1, b2⟩ := hx n (by omega)
    refine ⟨min a (h n), by omega, ?_, fun j hj => ?_⟩
    · rw [lwN, a2, b2]; exact (minmax_ok a1 b1).1
    · by_cases e : j = n
      · subst e; omega
      · have := a3 j (by omega); omega
theorem high_ok {X : List Nat} {h : Nat → Nat} (h0 : 0 < X.length) (hx : ∀ i, i < X.length → h i ≤ 8 ∧ X.getD i 0 = hI (h i : Int)) : ∀ n, n ≤ X.length → ∃ a : Nat, a ≤ 8 ∧ hgN X n = hI (a : Int) ∧ ∀ j, j < n → h j ≤ a
  | 0, _ => ⟨h 0, (hx 0 h0).1, (hx 0 h0).2, fun j hj => by omega⟩
  | n + 1, hn => by
    obtain ⟨a, a1, a2, a3⟩ := high_ok h0 hx n (by omega)
    obtain ⟨b1, b2⟩ := hx n (by omega)
    refine ⟨max a (h n), by omega, ?_, fun j hj => ?_⟩
    · rw [hgN, a2, b2]; exact (minmax_ok a1 b1).2
    · by_cases e : j = n
      · subst e; omega
      · have := a3 j (by omega); omega
theorem sum_ok {a b : Nat} (ha : a ≤ 64) (hb : b ≤ 8) : fop .add .f32 (hI (a : Int)) (hI (b : Int)) = hI ((a + b : Nat) : Int) := by
  have t := List.all_eq_true.1 (of_tab (p := fun a : Nat => (List.range 9).all fun b : Nat => fop .add .f32 (hI (a : Int)) (hI (b : Int)) == hI ((a + b : Nat) : Int)) tab_sum (show a < 65 by omega)) b (List.mem_range.2 (by omega))
  simpa only [beq_iff_eq] using t
theorem fold_ok {X : List Nat} {h : Nat → Nat} {lo hi : Nat} (hx : ∀ i, i < X.length → h i ≤ 8 ∧ X.getD i 0 = hI (h i : Int)) (hlo : ∀ j, j < X.length → lo ≤ h j) (hhi : ∀ j, j < X.length → h j ≤ hi) : ∀ (l : List (Int × Nat)) (c a : Nat), (∀ r ∈ l, r.1.toNat < X.length) → c + l.length ≤ 9 → a ≤ 8 * c → lo * c ≤ a → a ≤ hi * c → ∃ z : Nat, l.foldl (smF X) (hI (a : Int)) = hI (z : Int) ∧ z ≤ 8 * (c + l.length) ∧ lo * (c + l.length) ≤ z ∧ z ≤ hi * (c + l.length)
  | [], c, a, _, _, h1, h2, h3 => ⟨a, rfl, h1, h2, h3⟩
  | r :: l, c, a, hr, hc, h1, h2, h3 => by
    have hm := hr r (List.mem_cons_self ..)
    obtain ⟨b1, b2⟩ := hx _ hm
    have b3 := hlo _ hm
    have b4 := hhi _ hm
    rw [List.length_cons] at hc ⊢
    have e : smF X (hI (a : Int)) r = hI ((a + h r.1.toNat : Nat) : Int) := by
      unfold smF
      rw [b2]
      exact sum_ok (by omega) b1
    obtain ⟨z, z1, z2⟩ := fold_ok hx hlo hhi l (c + 1) (a + h r.1.toNat) (fun r' h' => hr r' (List.mem_cons_of_mem _ h')) (by omega) (by omega) (by rw [Nat.mul_succ]; omega) (by rw [Nat.mul_succ]; omega)
    refine ⟨z, by rw [List.foldl_cons, e]; exact z1, ?_⟩
    rw [show c + (l.length + 1) = c + 1 + l.length by omega]
    exact z2
theorem smooth_ok {w v : Nat} {X : List Nat} {h : Nat → Nat} {lo hi : Nat} (hB : hillB w v X = true) (hx : ∀ i, i < X.length → h i ≤ 8 ∧ X.getD i 0 = hI (h i : Int)) (hlo : ∀ j, j < X.length → lo ≤ h j) (hhi : ∀ j, j < X.length → h j ≤ hi) (l8 : lo ≤ 8) (h8 : hi ≤ 8) {i : Nat} (hi' : i < X.length) : fin (smV w v X (i : Nat)) = true ∧ fcmp .lss .f64 (fwiden (smV w v X (i : Nat))) (fop .sub .f64 (fwiden (hI (lo : Int))) (canon .f64 4562254508917369340)) = false ∧ fcmp .gtr .f64 (fwiden (smV w v X (i : Nat))) (fop .add .f64 (fwiden (hI (hi : Int))) (canon .f64 4562254508917369340)) = false := by
  obtain ⟨k1, k2, k3, k4, k5, k6, k7⟩ := hill_len hB
  obtain ⟨a1, a2⟩ := hx i hi'
  have e0 : smI X (i : Nat) = hI (h i : Int) := by
    unfold smI
    rw [Int.toNat_natCast, a2]
    have t := of_tab (p := fun a : Nat => fop .add .f32 (canon .f32 0) (hI (a : Int)) == hI (a : Int)) tab_start (show h i < 9 by omega)
    simpa only [beq_iff_eq] using t
  have hlen := nbL_len w v (i : Nat) 8
  obtain ⟨z, z1, z2, z3, z4⟩ := fold_ok hx hlo hhi (nbL w v (i : Nat) 8) 1 (h i) (fun r hr => by
    have := nbL_mem (W := (w : Int)) (H := (v : Int)) (c := ((i : Nat) : Int)) (by omega) hr
    omega) (by omega) (by omega) (by have := hlo i hi'; omega) (by have := hhi i hi'; omega)
  generalize hm : (nbL w v (i : Nat) 8).length = m at *
  have eV : smV w v X (i : Nat) = smQ (m + 1) z := by
    unfold smV smS
    rw [e0, z1, hm, foi_eq]
    rfl
  rw [eV]
  rw [Nat.add_comm 1 m] at z2 z3 z4
  have t := List.all_eq_true.1 (of_tab (p := fun m => (List.range (8 * (m + 1) + 1)).all fun z => fin (smQ (m + 1) z) && (List.range 9).all fun a => smOk (m + 1) z a) tab_smooth (show m < 9 by omega)) z (List.mem_range.2 (by omega))
  rw [Bool.and_eq_true] at t
  have tl := List.all_eq_true.1 t.2 lo (List.mem_range.2 (by omega))
  have th := List.all_eq_true.1 t.2 hi (List.mem_range.2 (by omega))
  unfold smOk at tl th
  rw [show Nat.blt z (lo * (m + 1)) = false by rw [← Bool.not_eq_true, Nat.blt_eq]; omega] at tl
  rw [show Nat.blt (hi * (m + 1)) z = false by rw [← Bool.not_eq_true, Nat.blt_eq]; omega] at th
  simp only [Bool.false_or, Bool.and_eq_true, Bool.not_eq_true'] at tl th
  exact ⟨t.1, tl.1, th.2⟩

end Go.Proofs.Ytagiajolklbbiaa
