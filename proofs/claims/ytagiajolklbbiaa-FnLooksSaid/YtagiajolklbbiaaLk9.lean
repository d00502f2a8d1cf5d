/- What each function of this seat does (Lk9). Printed from templates of this seat's own. -/
import Derived.Test.YtagiajolklbbiaaLk4
import Derived.Test.YtagiajolklbbiaaLt2
import Derived.Test.YtagiajolklbbiaaLk7
import Derived.Test.YtagiajolklbbiaaDig
namespace Go.Proofs.Ytagiajolklbbiaa
open Go.Ax Go.Bx
set_option maxRecDepth 8000
set_option linter.unusedSimpArgs false
set_option linter.unusedVariables false
theorem getD_setG {α : Type} {d : α} (l : List α) (i c : Nat) (x : α) (h : i < l.length) : (l.set i x).getD c d = if c = i then x else l.getD c d := by
  rw [List.getD_eq_getElem?_getD, List.getD_eq_getElem?_getD]
  by_cases e : c = i
  · subst e; rw [List.getElem?_set_self h, if_pos rfl]; rfl
  · rw [List.getElem?_set_ne (fun h => e h.symm), if_neg e]
theorem pig : ∀ (n m : Nat) (f : Nat → Nat), (∀ i, i < m → f i < n) → (∀ i j, i < m → j < m → f i = f j → i = j) → m ≤ n
  | 0, m, f, h, _ => by
    rcases Nat.eq_zero_or_pos m with h0 | h0
    · omega
    · have := h 0 h0; omega
  | n + 1, 0, f, _, _ => by omega
  | n + 1, m + 1, f, h, hi => by
    have := pig n m (fun i => if f i = n then f m else f i) (fun i hlt => by
      have h1 := h i (by omega)
      have h2 := h m (by omega)
      try dsimp only
      split
      · rename_i e
        have : f i ≠ f m := fun e' => by have := hi i m (by omega) (by omega) e'; omega
        omega
      · omega) (fun i j h1 h2 e => by
      try dsimp only at e
      split at e <;> split at e
      · rename_i e1 e2; exact hi i j (by omega) (by omega) (e1.trans e2.symm)
      · have := hi m j (by omega) (by omega) e; omega
      · have := hi i m (by omega) (by omega) e; omega
      · exact hi i j (by omega) (by omega) e)
    omega

/-! What the law of looks asks of slopes. -/
theorem east_ok {e : Int} (h : -8 ≤ e ∧ e ≤ 8) {x : Nat} (hx : x < 4) : fop .add .f32 (canon .f32 1065353216) (fop .mul .f32 (qW e) (foi .f32 (x : Int))) = qW (4 + e * x) := by
  have t := List.all_eq_true.1 (of_tab (p := fun e : Nat => (List.range 4).all fun x : Nat => fop .add .f32 (canon .f32 1065353216) (fop .mul .f32 (qW ((e : Int) - 8)) (floatOfInt .f32 (x : Int))) == qW (4 + ((e : Int) - 8) * x)) tab_east (show (e + 8).toNat < 17 by omega)) x (List.mem_range.2 hx)
  rw [show (((e + 8).toNat : Nat) : Int) - 8 = e by omega] at t
  rw [foi_eq]
  simpa only [beq_iff_eq] using t
theorem south_ok {u s : Int} (hu : -20 ≤ u ∧ u ≤ 28) (h : -8 ≤ s ∧ s ≤ 8) {y : Nat} (hy : y < 3) : fop .add .f32 (qW u) (fop .mul .f32 (qW s) (foi .f32 (y : Int))) = qW (u + s * y) := by
  have t := List.all_eq_true.1 (List.all_eq_true.1 (of_tab (p := fun s : Nat => (List.range 3).all fun y : Nat => (List.range 49).all fun u : Nat => fop .add .f32 (qW ((u : Int) - 20)) (fop .mul .f32 (qW ((s : Int) - 8)) (floatOfInt .f32 (y : Int))) == qW ((u : Int) - 20 + ((s : Int) - 8) * y)) tab_south (show (s + 8).toNat < 17 by omega)) y (List.mem_range.2 hy)) (u + 20).toNat (List.mem_range.2 (by omega))
  rw [show (((s + 8).toNat : Nat) : Int) - 8 = s by omega, show (((u + 20).toNat : Nat) : Int) - 20 = u by omega] at t
  rw [foi_eq]
  simpa only [beq_iff_eq] using t
theorem sub_ok {A D : Int} (hA : -36 ≤ A ∧ A ≤ 44) (hD : -16 ≤ D ∧ D ≤ 16) : fop .sub .f32 (qW (A + D)) (qW A) = qW D := by
  have t := List.all_eq_true.1 (of_tab (p := fun d : Nat => (List.range 81).all fun a : Nat => fop .sub .f32 (qW ((a : Int) - 36 + ((d : Int) - 16))) (qW ((a : Int) - 36)) == qW ((d : Int) - 16)) tab_sub (show (D + 16).toNat < 33 by omega)) (A + 36).toNat (List.mem_range.2 (by omega))
  rw [show (((D + 16).toNat : Nat) : Int) - 16 = D by omega, show (((A + 36).toNat : Nat) : Int) - 36 = A by omega] at t
  simpa only [beq_iff_eq] using t
theorem quo_ok {e : Int} (h : -8 ≤ e ∧ e ≤ 8) : fop .quo .f32 (qW e) (foi .f32 1) = qW e ∧ fop .quo .f32 (qW (e * 2)) (foi .f32 2) = qW e := by
  have t := of_tab (p := fun e : Nat => (fop .quo .f32 (qW ((e : Int) - 8)) (floatOfInt .f32 1) == qW ((e : Int) - 8)) && (fop .quo .f32 (qW (((e : Int) - 8) * 2)) (floatOfInt .f32 2) == qW ((e : Int) - 8))) tab_quo (show (e + 8).toNat < 17 by omega)
  rw [show (((e + 8).toNat : Nat) : Int) - 8 = e by omega] at t
  rw [foi_eq, foi_eq]
  simpa only [Bool.and_eq_true, beq_iff_eq] using t
theorem finq_ok {z : Int} (h : -36 ≤ z ∧ z ≤ 44) : fin (qW z) = true := by
  have t := of_tab (p := fun a : Nat => fin (qW ((a : Int) - 36))) tab_finq (show (z + 36).toNat < 81 by omega)
  rwa [show (((z + 36).toNat : Nat) : Int) - 36 = z by omega] at t
theorem rise1 {A e : Int} (hA : -36 ≤ A ∧ A ≤ 44) (h : -8 ≤ e ∧ e ≤ 8) {B k : Int} (hB : B = A + e) (hk : k = 1) : fop .quo .f32 (fop .sub .f32 (qW B) (qW A)) (foi .f32 k) = qW e := by
  rw [hB, hk, sub_ok hA (by omega)]; exact (quo_ok h).1
theorem rise2 {A e : Int} (hA : -36 ≤ A ∧ A ≤ 44) (h : -8 ≤ e ∧ e ≤ 8) {B k : Int} (hB : B = A + e * 2) (hk : k = 2) : fop .quo .f32 (fop .sub .f32 (qW B) (qW A)) (foi .f32 k) = qW e := by
  rw [hB, hk, sub_ok hA (by omega)]; exact (quo_ok h).2
/-- Quarters at the cells of a slope. -/
def zAt (e s : Int) (n : Nat) : Int := 4 + e * ((n % 4 : Nat) : Int) + s * ((n / 4 : Nat) : Int)
theorem zAt_range {e s : Int} (he : -8 ≤ e ∧ e ≤ 8) (hs : -8 ≤ s ∧ s ≤ 8) {n : Nat} (hn : n < 12) : -36 ≤ zAt e s n ∧ zAt e s n ≤ 44 := by
  unfold zAt
  have a : n % 4 = 0 ∨ n % 4 = 1 ∨ n % 4 = 2 ∨ n % 4 = 3 := by omega
  have b : n / 4 = 0 ∨ n / 4 = 1 ∨ n / 4 = 2 := by omega
  rcases a with a | a | a | a <;> rcases b with b | b | b <;> rw [a, b] <;> omega
theorem slope_at {e s : Int} (he : -8 ≤ e ∧ e ≤ 8) (hs : -8 ≤ s ∧ s ≤ 8) {n : Nat} (hn : n < 12) : slG (canon .f32 1065353216) (qW e) (qW s) 4 n = qW (zAt e s n) := by
  unfold slG zAt
  rw [east_ok he (show n % 4 < 4 by omega)]
  refine south_ok ?_ hs (show n / 4 < 3 by omega)
  have a : n % 4 = 0 ∨ n % 4 = 1 ∨ n % 4 = 2 ∨ n % 4 = 3 := by omega
  rcases a with a | a | a | a <;> rw [a] <;> omega
section
variable {e s : Int} (he : -8 ≤ e ∧ e ≤ 8) (hs : -8 ≤ s ∧ s ≤ 8) {S : List Nat} (lS : S.length = 12) (hS : ∀ n, n < 12 → S.getD n 0 = qW (zAt e s n))
include he hs lS hS
theorem riseE {i : Nat} (hi : i < 12) {t : AV} : Does Try.prog 59 [.agg [.int .i64 4, .int .i64 3, .sli .f32 S t], .int .i64 i, .int .i64 ((i : Int) % 4), .int .i64 3, .int .i64 1] (.flt .f32 (qW e)) := by
  have zr := fun n hn => zAt_range he hs (n := n) hn
  have c : i % 4 = 0 ∨ i % 4 = 1 ∨ i % 4 = 2 ∨ i % 4 = 3 := by omega
  rcases c with c | c | c | c
  · have r := @iRise S 4 3 i ((i : Int) % 4) 3 1 t (by omega) (by omega) (by omega) i ((i + 1 : Nat) : Int) (by rw [if_neg (by omega)]) (by rw [if_pos (by omega)]; omega) (by omega) (by omega) (by omega)
    rw [Int.toNat_natCast, Int.toNat_natCast, hS _ hi, hS (i + 1) (by omega)] at r
    rwa [rise1 (zr i hi) he (show zAt e s (i + 1) = zAt e s i + e by unfold zAt; rw [show (i + 1) % 4 = 1 by omega, c, show (i + 1) / 4 = i / 4 by omega]; omega) (show (((i + 1 : Nat) : Int) - i) / 1 = 1 by omega)] at r
  · have r := @iRise S 4 3 i ((i : Int) % 4) 3 1 t (by omega) (by omega) (by omega) ((i - 1 : Nat) : Int) ((i + 1 : Nat) : Int) (by rw [if_pos (by omega)]; omega) (by rw [if_pos (by omega)]; omega) (by omega) (by omega) (by omega)
    rw [Int.toNat_natCast, Int.toNat_natCast, hS (i - 1) (by omega), hS (i + 1) (by omega)] at r
    rwa [rise2 (zr (i - 1) (by omega)) he (show zAt e s (i + 1) = zAt e s (i - 1) + e * 2 by unfold zAt; rw [show (i + 1) % 4 = 2 by omega, show (i - 1) % 4 = 0 by omega, show (i + 1) / 4 = i / 4 by omega, show (i - 1) / 4 = i / 4 by omega]; omega) (show (((i + 1 : Nat) : Int) - ((i - 1 : Nat) : Int)) / 1 = 2 by omega)] at r
  · have r := @iRise S 4 3 i ((i : Int) % 4) 3 1 t (by omega) (by omega) (by omega) ((i - 1 : Nat) : Int) ((i + 1 : Nat) : Int) (by rw [if_pos (by omega)]; omega) (by rw [if_pos (by omega)]; omega) (by omega) (by omega) (by omega)
    rw [Int.toNat_natCast, Int.toNat_natCast, hS (i - 1) (by omega), hS (i + 1) (by omega)] at r
    rwa [rise2 (zr (i - 1) (by omega)) he (show zAt e s (i + 1) = zAt e s (i - 1) + e * 2 by unfold zAt; rw [show (i + 1) % 4 = 3 by omega, show (i - 1) % 4 = 1 by omega, show (i + 1) / 4 = i / 4 by omega, show (i - 1) / 4 = i / 4 by omega]; omega) (show (((i + 1 : Nat) : Int) - ((i - 1 : Nat) : Int)) / 1 = 2 by omega)] at r
  · have r := @iRise S 4 3 i ((i : Int) % 4) 3 1 t (by omega) (by omega) (by omega) ((i - 1 : Nat) : Int) i (by rw [if_pos (by omega)]; omega) (by rw [if_neg (by omega)]) (by omega) (by omega) (by omega)
    rw [Int.toNat_natCast, Int.toNat_natCast, hS (i - 1) (by omega), hS i hi] at r
    rwa [rise1 (zr (i - 1) (by omega)) he (show zAt e s i = zAt e s (i - 1) + e by unfold zAt; rw [c, show (i - 1) % 4 = 2 by omega, show (i - 1) / 4 = i / 4 by omega]; omega) (show (((i : Nat) : Int) - ((i - 1 : Nat) : Int)) / 1 = 1 by omega)] at r
theorem riseS {i : Nat} (hi : i < 12) {t : AV} : Does Try.prog 59 [.agg [.int .i64 4, .int .i64 3, .sli .f32 S t], .int .i64 i, .int .i64 ((i : Int) / 4), .int .i64 2, .int .i64 4] (.flt .f32 (qW s)) := by
  have zr := fun n hn => zAt_range he hs (n := n) hn
  have c : i / 4 = 0 ∨ i / 4 = 1 ∨ i / 4 = 2 := by omega
  rcases c with c | c | c
  · have r := @iRise S 4 3 i ((i : Int) / 4) 2 4 t (by omega) (by omega) (by omega) i ((i + 4 : Nat) : Int) (by rw [if_neg (by omega)]) (by rw [if_pos (by omega)]; omega) (by omega) (by omega) (by omega)
    rw [Int.toNat_natCast, Int.toNat_natCast, hS _ hi, hS (i + 4) (by omega)] at r
    rwa [rise1 (zr i hi) hs (show zAt e s (i + 4) = zAt e s i + s by unfold zAt; rw [show (i + 4) % 4 = i % 4 by omega, c, show (i + 4) / 4 = 1 by omega]; omega) (show (((i + 4 : Nat) : Int) - i) / 4 = 1 by omega)] at r
  · have r := @iRise S 4 3 i ((i : Int) / 4) 2 4 t (by omega) (by omega) (by omega) ((i - 4 : Nat) : Int) ((i + 4 : Nat) : Int) (by rw [if_pos (by omega)]; omega) (by rw [if_pos (by omega)]; omega) (by omega) (by omega) (by omega)
    rw [Int.toNat_natCast, Int.toNat_natCast, hS (i - 4) (by omega), hS (i + 4) (by omega)] at r
    rwa [rise2 (zr (i - 4) (by omega)) hs (show zAt e s (i + 4) = zAt e s (i - 4) + s * 2 by unfold zAt; rw [show (i + 4) % 4 = i % 4 by omega, show (i - 4) % 4 = i % 4 by omega, show (i + 4) / 4 = 2 by omega, show (i - 4) / 4 = 0 by omega]; omega) (show (((i + 4 : Nat) : Int) - ((i - 4 : Nat) : Int)) / 4 = 2 by omega)] at r
  · have r := @iRise S 4 3 i ((i : Int) / 4) 2 4 t (by omega) (by omega) (by omega) ((i - 4 : Nat) : Int) i (by rw [if_pos (by omega)]; omega) (by rw [if_neg (by omega)]) (by omega) (by omega) (by omega)
    rw [Int.toNat_natCast, Int.toNat_natCast, hS (i - 4) (by omega), hS i hi] at r
    rwa [rise1 (zr (i - 4) (by omega)) hs (show zAt e s i = zAt e s (i - 4) + s by unfold zAt; rw [c, show (i - 4) % 4 = i % 4 by omega, show (i - 4) / 4 = 1 by omega]; omega) (show (((i : Nat) : Int) - ((i - 4 : Nat) : Int)) / 4 = 1 by omega)] at r
theorem tilt_ok (h0 : hillB 4 3 S = true) {i : Nat} (hi : i < 12) {t : AV} : Does Try.prog 15 [.agg [.int .i64 4, .int .i64 3, .sli .f32 S t], .int .i64 i] (.tup [.cpx .f32 (qW e) (qW s), .bool true]) :=
  iTiltAt h0 hi (finq_ok (by omega)) (finq_ok (by omega)) fun t => iTilt hi (fun t => riseE he hs lS hS hi) fun t => riseS he hs lS hS hi
end
theorem seL_eq (X : List Nat) (i k far eye n : Nat) : seL X i k far eye n = lnW (X.getD i 0) (X.getD k 0) eye n far := by
  unfold seL seE lnW
  rw [foi_eq, foi_eq]
theorem see_ok {e : Int} (h : -8 ≤ e ∧ e ≤ 8) : (see1 e = true ∧ see2 e = true) ∧ see3 e = true := by
  have t := of_tab (p := fun e : Nat => (see1 ((e : Int) - 8) && see2 ((e : Int) - 8)) && see3 ((e : Int) - 8)) tab_see (show (e + 8).toNat < 17 by omega)
  rw [show (((e + 8).toNat : Nat) : Int) - 8 = e by omega] at t
  simpa only [Bool.and_eq_true] using t
theorem sees1 {e s : Int} (he : -8 ≤ e ∧ e ≤ 8) {S : List Nat} (h0 : hillB 4 3 S = true) (hS : ∀ n, n < 12 → S.getD n 0 = qW (zAt e s n)) {t : AV} : Does Try.prog 16 [.agg [.int .i64 4, .int .i64 3, .sli .f32 S t], .int .i64 0, .int .i64 3, .flt .f32 eyQ] (.tup [.bool true, .bool true]) := by
  have g := (see_ok he).1.1
  simp only [see1, Bool.and_eq_true, Bool.not_eq_true'] at g
  obtain ⟨⟨g1, g2, g3⟩, g4, g5⟩ := g
  have x0 : S.getD 0 0 = qW 4 := by rw [hS 0 (by omega)]; congr 1; unfold zAt; omega
  have x1 : S.getD 1 0 = qW (4 + e) := by rw [hS 1 (by omega)]; congr 1; unfold zAt; omega
  have x2 : S.getD 2 0 = qW (4 + 2 * e) := by rw [hS 2 (by omega)]; congr 1; unfold zAt; omega
  have x3 : S.getD 3 0 = qW (4 + 3 * e) := by rw [hS 3 (by omega)]; congr 1; unfold zAt; omega
  have l : ∀ n, seL S 0 3 3 eyQ n = lnW (qW 4) (qW (4 + 3 * e)) eyQ n 3 := fun n => by rw [seL_eq, x0, x3]
  have r := @iSees03 S eyQ t h0 (by decide +kernel) (by unfold seE; rw [x0]; exact g1) (fun n h1 h2 => by
    rw [l]
    have : n = 1 ∨ n = 2 := by omega
    rcases this with rfl | rfl
    · exact g2
    · exact g3)
  have e2 : seS S 0 3 3 eyQ 1 2 = ((true && !(fcmp .gtr .f32 (S.getD 1 0) (seL S 0 3 3 eyQ 1))) && !(fcmp .gtr .f32 (S.getD 2 0) (seL S 0 3 3 eyQ 2))) := rfl
  rw [l, l, x1, x2, g4, g5] at e2
  rw [e2] at r
  exact r
theorem sees2 {e s : Int} (hs : -8 ≤ s ∧ s ≤ 8) {S : List Nat} (h0 : hillB 4 3 S = true) (hS : ∀ n, n < 12 → S.getD n 0 = qW (zAt e s n)) {t : AV} : Does Try.prog 16 [.agg [.int .i64 4, .int .i64 3, .sli .f32 S t], .int .i64 8, .int .i64 0, .flt .f32 eyQ] (.tup [.bool true, .bool true]) := by
  have g := (see_ok hs).1.2
  simp only [see2, Bool.and_eq_true, Bool.not_eq_true'] at g
  obtain ⟨⟨g1, g2⟩, g4⟩ := g
  have x0 : S.getD 0 0 = qW 4 := by rw [hS 0 (by omega)]; congr 1; unfold zAt; omega
  have x4 : S.getD 4 0 = qW (4 + s) := by rw [hS 4 (by omega)]; congr 1; unfold zAt; omega
  have x8 : S.getD 8 0 = qW (4 + 2 * s) := by rw [hS 8 (by omega)]; congr 1; unfold zAt; omega
  have l : ∀ n, seL S 8 0 2 eyQ n = lnW (qW (4 + 2 * s)) (qW 4) eyQ n 2 := fun n => by rw [seL_eq, x0, x8]
  have r := @iSees80 S eyQ t h0 (by decide +kernel) (by unfold seE; rw [x8]; exact g1) (fun n h1 h2 => by
    rw [l]
    have : n = 1 := by omega
    rw [this]; exact g2)
  have e2 : seS S 8 0 2 eyQ (-4) 1 = (true && !(fcmp .gtr .f32 (S.getD 4 0) (seL S 8 0 2 eyQ 1))) := rfl
  rw [l, x4, g4] at e2
  rw [e2] at r
  exact r
theorem wall_ok {e s : Int} (he : -8 ≤ e ∧ e ≤ 8) {S : List Nat} (h0 : hillB 4 3 S = true) (hS : ∀ n, n < 12 → S.getD n 0 = qW (zAt e s n)) {t t' : AV} : Does Try.prog 17 [.agg [.int .i64 4, .int .i64 3, .sli .f32 S t], .sli (.int .i64) [1] t', .flt .f32 (canon .f32 3246391296)] (.tup [.agg [.int .i64 4, .int .i64 3, .own 0 .f32 (S.set 1 (fop .sub .f32 (S.getD 1 0) (canon .f32 3246391296)))], .bool true]) ∧ hillB 4 3 (S.set 1 (fop .sub .f32 (S.getD 1 0) (canon .f32 3246391296))) = true := by
  obtain ⟨_, _, _, _, k5, _, _⟩ := hill_len h0
  have lS : S.length = 12 := by omega
  have g := (see_ok he).2
  simp only [see3, Bool.and_eq_true] at g
  have x1 : S.getD 1 0 = qW (4 + e) := by rw [hS 1 (by omega)]; congr 1; unfold zAt; omega
  have hf : finL S = true := by
    have := h0
    simp only [hillB, Bool.and_eq_true] at this
    exact this.2
  have hW : hillB 4 3 (S.set 1 (fop .sub .f32 (S.getD 1 0) (canon .f32 3246391296))) = true := by
    unfold hillB
    rw [List.length_set, lS]
    show finL _ = true
    unfold finL at hf ⊢
    rw [List.length_set]
    refine allN_iff.2 fun i hi => ?_
    rw [getD_setG _ _ _ _ (show 1 < S.length by omega)]
    by_cases c : i = 1
    · rw [if_pos c, x1]; exact g.1
    · rw [if_neg c]; exact allN_iff.1 hf i hi
  refine ⟨?_, hW⟩
  have r := @iDig 4 3 S [1] (canon .f32 3246391296) t t' (by omega) (by simp)
  have eN : dgN S [1] (canon .f32 3246391296) [(1 : Int)].length = S.set 1 (fop .sub .f32 (S.getD 1 0) (canon .f32 3246391296)) := rfl
  have eC : dgC 4 3 S [1] (canon .f32 3246391296) = true := by
    unfold dgC dgC0
    rw [h0, eN, hW, show fin (canon .f32 3246391296) = true by decide +kernel, show isSetB [1] (4 * 3) = true by decide]
    rfl
  unfold dgR dgO at r
  rw [eC, eN] at r
  exact r
theorem sees4 {e s : Int} (he : -8 ≤ e ∧ e ≤ 8) {S : List Nat} (h0 : hillB 4 3 S = true) (hS : ∀ n, n < 12 → S.getD n 0 = qW (zAt e s n)) {W : List Nat} (hW : W = S.set 1 (fop .sub .f32 (S.getD 1 0) (canon .f32 3246391296))) (h1 : hillB 4 3 W = true) {t : AV} : Does Try.prog 16 [.agg [.int .i64 4, .int .i64 3, .sli .f32 W t], .int .i64 0, .int .i64 3, .flt .f32 eyQ] (.tup [.bool false, .bool true]) := by
  obtain ⟨_, _, _, _, k5, _, _⟩ := hill_len h0
  have lS : S.length = 12 := by omega
  have g := (see_ok he).1.1
  simp only [see1, Bool.and_eq_true, Bool.not_eq_true'] at g
  obtain ⟨⟨g1, g2, g3⟩, g4, g5⟩ := g
  have g6 := (see_ok he).2
  simp only [see3, Bool.and_eq_true] at g6
  have w : ∀ n, W.getD n 0 = if n = 1 then fop .sub .f32 (S.getD 1 0) (canon .f32 3246391296) else S.getD n 0 := fun n => by
    rw [hW, getD_setG _ _ _ _ (show 1 < S.length by omega)]
  have x0 : W.getD 0 0 = qW 4 := by rw [w, if_neg (by omega), hS 0 (by omega)]; congr 1; unfold zAt; omega
  have x1 : W.getD 1 0 = fop .sub .f32 (qW (4 + e)) (canon .f32 3246391296) := by rw [w, if_pos rfl, hS 1 (by omega)]; congr 2; unfold zAt; omega
  have x3 : W.getD 3 0 = qW (4 + 3 * e) := by rw [w, if_neg (by omega), hS 3 (by omega)]; congr 1; unfold zAt; omega
  have l : ∀ n, seL W 0 3 3 eyQ n = lnW (qW 4) (qW (4 + 3 * e)) eyQ n 3 := fun n => by rw [seL_eq, x0, x3]
  have r := @iSees03 W eyQ t h1 (by decide +kernel) (by unfold seE; rw [x0]; exact g1) (fun n h1 h2 => by
    rw [l]
    have : n = 1 ∨ n = 2 := by omega
    rcases this with rfl | rfl
    · exact g2
    · exact g3)
  have e2 : seS W 0 3 3 eyQ 1 2 = ((true && !(fcmp .gtr .f32 (W.getD 1 0) (seL W 0 3 3 eyQ 1))) && !(fcmp .gtr .f32 (W.getD 2 0) (seL W 0 3 3 eyQ 2))) := rfl
  rw [l 1, x1, g6.2] at e2
  rw [e2] at r
  exact r
theorem cone_at (n : Nat) : coG (canon .f32 1073741824) (canon .f32 1065353216) 3 3 n = coC (n % 3) (n / 3) := by
  unfold coG coV coP coC
  rw [foi_eq, foi_eq, foi_eq]
  rfl
theorem cone_hill : hillB ((3 : Nat) : Int) ((3 : Nat) : Int) (tabN (coG (canon .f32 1073741824) (canon .f32 1065353216) 3 3) (3 * 3)) = true := hill_tab (by omega) (by omega) fun i hi => by
  rw [cone_at]
  exact List.all_eq_true.1 (List.all_eq_true.1 tab_cone (i % 3) (List.mem_range.2 (by omega))) (i / 3) (List.mem_range.2 (by omega))
theorem pow_ok {e s : Int} (he : -8 ≤ e ∧ e ≤ 8) (hs : -8 ≤ s ∧ s ≤ 8) : tooBig (pw64 (qW e, qW s)) = false := by
  have t := List.all_eq_true.1 (of_tab (p := fun e : Nat => (List.range 17).all fun s : Nat => !(tooBig (pw64 (qW ((e : Int) - 8), qW ((s : Int) - 8))))) tab_pow (show (e + 8).toNat < 17 by omega)) (s + 8).toNat (List.mem_range.2 (by omega))
  rw [show (((e + 8).toNat : Nat) : Int) - 8 = e by omega, show (((s + 8).toNat : Nat) : Int) - 8 = s by omega] at t
  simpa only [Bool.not_eq_true'] using t
theorem phase_ok {k : Nat} (hk : k < 16) : fin (tkW k) = true ∧ Does Try.prog 36 [.flt .f64 (fwiden (tkW k))] (.cpx .f32 (phW.getD k (0, 0)).1 (phW.getD k (0, 0)).2) := by
  have t := of_tab (p := phQ) tab_phase hk
  simp only [phQ, Bool.and_eq_true, beq_iff_eq] at t
  obtain ⟨⟨t1, t2⟩, t3, t4⟩ := t
  have r := iPhasor t1
  rw [t3, t4] at r
  exact ⟨t2, r⟩

end Go.Proofs.Ytagiajolklbbiaa
