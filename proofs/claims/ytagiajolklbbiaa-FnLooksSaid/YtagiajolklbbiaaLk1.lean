/- What each function of this seat does (Lk1). Printed from templates of this seat's own. -/
import Derived.Test.YtagiajolklbbiaaR8b
namespace Go.Proofs.Ytagiajolklbbiaa
open Go.Ax Go.Bx
set_option maxRecDepth 8000
set_option linter.unusedSimpArgs false
set_option linter.unusedVariables false

/-! A hill that is turned. -/
def tuG (w h : Nat) (X : List Nat) (n : Nat) : Nat := X.getD ((h - 1 - n % h) * w + n / h) 0
def tuL (w h : Nat) (X : List Nat) : List Nat := tabN (tuG w h X) (w * h)
theorem tu_in {w h n : Nat} (hh : 0 < h) (hn : n < w * h) : n % h < h ∧ n / h < w ∧ (h - 1 - n % h) * w + n / h < w * h := by
  have a := Nat.mod_lt n hh
  have b : n / h < w := Nat.div_lt_of_lt_mul (by rw [Nat.mul_comm]; exact hn)
  refine ⟨a, b, ?_⟩
  have c : (h - 1 - n % h) * w ≤ (h - 1) * w := Nat.mul_le_mul_right w (by omega)
  have d : (h - 1) * w + w = w * h := by
    obtain ⟨m, rfl⟩ : ∃ m, h = m + 1 := ⟨h - 1, by omega⟩
    rw [Nat.add_sub_cancel, Nat.mul_comm w, Nat.succ_mul]
  omega
theorem tu2 {w h : Nat} {X : List Nat} {n : Nat} (hw : 0 < w) (hh : 0 < h) (hn : n < w * h) : (tuL h w (tuL w h X)).getD n 0 = X.getD (w * h - 1 - n) 0 := by
  have hn' : n < h * w := by rw [Nat.mul_comm]; exact hn
  obtain ⟨a, b, c⟩ := tu_in hw hn'
  have c' : (w - 1 - n % w) * h + n / w < w * h := by rw [Nat.mul_comm w]; exact c
  have e1 : (tuL h w (tuL w h X)).getD n 0 = tuG h w (tuL w h X) n := tabN_getD (tuG h w (tuL w h X)) hn' 0
  have e2 : (tuL w h X).getD ((w - 1 - n % w) * h + n / w) 0 = tuG w h X ((w - 1 - n % w) * h + n / w) := tabN_getD (tuG w h X) c' 0
  rw [e1, tuG, e2, tuG]
  have m1 : ((w - 1 - n % w) * h + n / w) % h = n / w := by
    rw [Nat.add_comm, Nat.add_mul_mod_self_right, Nat.mod_eq_of_lt b]
  have m2 : ((w - 1 - n % w) * h + n / w) / h = w - 1 - n % w := by
    rw [Nat.add_comm, Nat.add_mul_div_right _ _ hh, Nat.div_eq_of_lt b, Nat.zero_add]
  rw [m1, m2]
  have d := Nat.div_add_mod n w
  generalize n / w = q at *
  generalize n % w = r at *
  congr 1
  obtain ⟨k, rfl⟩ : ∃ k, h = k + 1 + q := ⟨h - 1 - q, by omega⟩
  rw [show k + 1 + q - 1 - q = k by omega, Nat.mul_add, Nat.mul_add, Nat.mul_one, Nat.mul_comm k w]
  omega
theorem tu4 {w h : Nat} {X : List Nat} (hw : 0 < w) (hh : 0 < h) (hl : X.length = w * h) : tuL h w (tuL w h (tuL h w (tuL w h X))) = X := by
  apply List.ext_getElem
  · unfold tuL; rw [tabN_len, hl, Nat.mul_comm]
  · intro n h1 h2
    have hn : n < w * h := by omega
    have e := (tu2 (X := tuL h w (tuL w h X)) hw hh hn).trans (tu2 (X := X) hw hh (show w * h - 1 - n < w * h by omega))
    rw [show w * h - 1 - (w * h - 1 - n) = n by omega] at e
    rw [List.getD_eq_getElem?_getD, List.getElem?_eq_getElem h1, List.getD_eq_getElem?_getD, List.getElem?_eq_getElem (by omega)] at e
    simpa only [Option.getD_some] using e
theorem tu_hill {w h : Nat} {X : List Nat} (hh : HillW w h X) : HillW h w (tuL w h X) := by
  obtain ⟨k1, k2, k3, k4, k5, k6, k7⟩ := hill_len hh.1
  have hf : finL X = true := by
    have := hh.1
    simp only [hillB, Bool.and_eq_true] at this
    exact this.2
  have hlen : (tuL w h X).length = w * h := tabN_len _ _
  have hX : X.length = w * h := by rw [← Int.natCast_mul] at k5; omega
  refine ⟨?_, fun y hy => ?_⟩
  · unfold hillB
    rw [show inR (h : Int) 1 16 = true by simp [inR]; omega, show inR (w : Int) 1 16 = true by simp [inR]; omega, hlen, decide_eq_true (show ((w * h : Nat) : Int) = (h : Int) * w by rw [Int.natCast_mul, Int.mul_comm])]
    show finL _ = true
    unfold finL at hf ⊢
    rw [hlen]
    refine allN_iff.2 fun n hn => ?_
    unfold tuL
    rw [tabN_getD (tuG w h X) hn 0, tuG]
    exact allN_iff.1 hf _ (by have := (tu_in (w := w) (h := h) (by omega) hn).2.2; omega)
  · obtain ⟨n, hn, e⟩ := List.getElem_of_mem hy
    have hn' : n < w * h := by omega
    have g := tabN_getD (tuG w h X) hn' 0
    rw [show tabN (tuG w h X) (w * h) = tuL w h X from rfl, List.getD_eq_getElem?_getD, List.getElem?_eq_getElem hn, Option.getD_some, e] at g
    rw [g, tuG]
    have hi := (tu_in (w := w) (h := h) (by omega) hn').2.2
    rw [List.getD_eq_getElem?_getD, List.getElem?_eq_getElem (by omega)]
    exact hh.2 _ (List.getElem_mem _)
theorem iTurn1 {w h x y : Nat} {X : List Nat} {t t' : AV} (hl : X.length = w * h) (hw : 1 ≤ w ∧ w ≤ 16) (hh : 1 ≤ h ∧ h ≤ 16) (hx : x < h) (hy : y < w) : Does Try.prog 23 [.int .i64 x, .int .i64 y, .ref [.int .i64 w, .int .i64 h, .sli .f32 X t] t'] (.flt .f32 (X.getD ((h - 1 - x) * w + y) 0)) := by
  have hxy : (h - 1 - x) * w + y < w * h := by
    have c : (h - 1 - x) * w ≤ (h - 1) * w := Nat.mul_le_mul_right w (by omega)
    have d : (h - 1) * w + w = w * h := by
      obtain ⟨m, rfl⟩ : ∃ m, h = m + 1 := ⟨h - 1, by omega⟩
      rw [Nat.add_sub_cancel, Nat.mul_comm w, Nat.succ_mul]
    omega
  have hb : w * h ≤ 16 * 16 := Nat.mul_le_mul hw.2 hh.2
  have e0 : (h : Int) - 1 - x = ((h - 1 - x : Nat) : Int) := by omega
  have e : (((h : Int) - 1 - x) * (w : Int) + (y : Int)) = (((h - 1 - x) * w + y : Nat) : Int) := by rw [e0, Int.natCast_add, Int.natCast_mul]
  have b1 : (0 : Int) ≤ ((h : Int) - 1 - x) * (w : Int) ∧ ((h : Int) - 1 - x) * (w : Int) ≤ 256 := by rw [e0, ← Int.natCast_mul]; omega
  have b2 : (0 : Int) ≤ ((h : Int) - 1 - x) * (w : Int) + (y : Int) ∧ ((h : Int) - 1 - x) * (w : Int) + (y : Int) < X.length := by rw [e]; omega
  refine Does.of_awp (X := cx 20) Try.func23 rfl (by kernel_rfl) rfl (by simp [cx]) [] rfl ?_
  conv => whnf
  repeat (first
    | (refine ⟨⟨by kernel_rfl, by kernel_rfl⟩, ?_⟩; conv => whnf)
    | (refine And.intro (by first | omega | (simp; done) | (simp; omega)) ?_; conv => whnf)
    | (refine Or.inl (And.intro (by omega) ?_); conv => whnf))
  rw [e]
  all_goals (first | rfl | trivial)
theorem iTurn {w h : Nat} {X : List Nat} {t : AV} (hh : HillW w h X) : Does Try.prog 6 [.agg [.int .i64 w, .int .i64 h, .sli .f32 X t]] (.tup [.agg [.int .i64 h, .int .i64 w, .own 0 .f32 (tuL w h X)], .bool true]) := by
  obtain ⟨k1, k2, k3, k4, k5, k6, k7⟩ := hill_len hh.1
  have hX : X.length = w * h := by rw [← Int.natCast_mul] at k5; omega
  have e1 : ∀ t, Does Try.prog 21 [.agg [.int .i64 w, .int .i64 h, .sli .f32 X t]] (.bool true) := fun t => hh.1 ▸ iIs (by omega)
  have hs := (tu_hill hh).1
  have e3 : ∀ t t', Does Try.prog 22 [.int .i64 h, .int .i64 w, .fn 23 [.ref [.int .i64 w, .int .i64 h, .sli .f32 X t] t']] (.tup [.agg [.int .i64 h, .int .i64 w, .own 0 .f32 (tuL w h X)], .bool true]) := fun t t' => by
    have := @iMade h w X 23 (tuG w h X) w h t t' (by omega) (by omega) (fun x y t t' hx hy => by
      have c := iTurn1 (t := t) (t' := t') hX (by omega) (by omega) hx hy
      have m1 : (y * h + x) % h = x := by rw [Nat.add_comm, Nat.add_mul_mod_self_right, Nat.mod_eq_of_lt hx]
      have m2 : (y * h + x) / h = y := by rw [Nat.add_comm, Nat.add_mul_div_right _ _ (by omega), Nat.div_eq_of_lt hx, Nat.zero_add]
      rw [tuG, m1, m2]
      exact c)
    rw [show tabN (tuG w h X) (w * h) = tuL w h X from rfl, hs] at this
    exact this
  refine Does.of_awp (X := cx 16) Try.func6 rfl (by kernel_rfl) rfl (by simp [cx]) [52] rfl ?_
  conv => whnf
  repeat (first
    | (refine ⟨⟨by kernel_rfl, by kernel_rfl⟩, ?_⟩; conv => whnf)
    | (refine And.intro (by first | omega | (simp; done) | (simp; omega)) ?_; conv => whnf)
    | (refine Or.inl (And.intro (by omega) ?_); conv => whnf)
    | (refine Exists.intro _ (And.intro (e1 _) ?_); conv => whnf)
    | (refine Exists.intro _ (And.intro (e3 _ _) ?_); conv => whnf))
  all_goals (first | rfl | trivial)

end Go.Proofs.Ytagiajolklbbiaa
