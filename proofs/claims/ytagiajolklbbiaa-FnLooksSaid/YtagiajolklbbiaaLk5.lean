/- What each function of this seat does (Lk5). Printed from templates of this seat's own. -/
import Derived.Test.YtagiajolklbbiaaR8b
namespace Go.Proofs.Ytagiajolklbbiaa
open Go.Ax Go.Bx
set_option maxRecDepth 8000
set_option linter.unusedSimpArgs false
set_option linter.unusedVariables false

/-- Does a number lie less than one from nought, and is no part of it kept? -/
def trB (x : Nat) : Bool := match FloatKind.f64.decode x with
  | .nan _ _ => false
  | d => FloatKind.f64.encode (d.integral .zero) == 0
theorem xArch {x : Nat} (hn : isNaN .f64 x = false) (h : trB x = true) : Does Try.prog 69 [.flt .f64 x] (.flt .f64 (canon .f64 0)) :=
  Does.ext Try.func69 rfl (by kernel_rfl) rfl (e := Extern.MathFloor.toIntegral "math.archTrunc" .zero) rfl (fun F Tg w m vs hv => by
    simp only [VRs, VR] at hv
    obtain ⟨v, vs', rfl, ⟨b, rfl, hb⟩, rfl⟩ := hv
    have hn' := hb.nan ▸ hn
    have := hb.eq hn'
    subst this
    refine ⟨.float .f64 0, w.drawn, ?_, by simp only [RV]; exact ⟨0, rfl, Fl.canon (k := .f64) (by decide)⟩⟩
    show (Extern.MathFloor.toIntegral "math.archTrunc" .zero #[.float .f64 _]).run _ w = _
    conv in (Extern.MathFloor.toIntegral _ _ _) => whnf
    unfold trB at h
    split at h
    · cases h
    · next d hd =>
      simp only [beq_iff_eq] at h
      split
      · next s t e => exact absurd e (hd s t)
      · rw [h]; rfl) (.inl rfl)

theorem xTrunc0 {x : Nat} (hn : isNaN .f64 x = false) (h : trB x = true) : Does Try.prog 66 [.flt .f64 x] (.flt .f64 (canon .f64 0)) := by
  have e1 := xArch hn h
  refine Does.of_awp (X := cx 7) Try.func66 rfl (by kernel_rfl) rfl (by simp [cx]) [] rfl ?_
  conv => whnf
  repeat (first
    | (refine ⟨⟨by kernel_rfl, by kernel_rfl⟩, ?_⟩; conv => whnf)
    | (refine And.intro (by first | omega | (simp; done) | (simp; omega)) ?_; conv => whnf)
    | (refine Or.inl (And.intro (by omega) ?_); conv => whnf)
    | (refine Exists.intro _ (And.intro (e1) ?_); conv => whnf))
  all_goals (first | rfl | trivial)

def bhN (x : Nat) : Nat := fop .sub .f64 x (fop .add .f64 (canon .f64 0) (canon .f64 0))
def okB (x : Nat) : Bool := (!(isNaN .f64 x) && trB x) && !(fcmp .lss .f64 (bhN x) (canon .f64 0))
theorem iBehind {x : Nat} (h : okB x = true) : Does Try.prog 55 [.flt .f64 x] (.flt .f64 (bhN x)) := by
  simp only [okB, Bool.and_eq_true, Bool.not_eq_true'] at h
  obtain ⟨⟨h1, h2⟩, h4⟩ := h
  have e := xTrunc0 h1 h2
  refine Does.of_awp (X := cx 14) Try.func55 rfl (by kernel_rfl) rfl (by simp [cx]) [] rfl ?_
  conv => whnf
  repeat (first
    | (refine ⟨⟨by kernel_rfl, by kernel_rfl⟩, ?_⟩; conv => whnf)
    | (refine And.intro (by first | omega | (simp; done) | (simp; omega)) ?_; conv => whnf)
    | (refine Or.inl (And.intro (by omega) ?_); conv => whnf)
    | (refine Exists.intro _ (And.intro (e) ?_); conv => whnf))
  (refine br_intro (fun c => ?_) (fun c => ?_) <;> (conv => whnf))
  · have c : fcmp .lss .f64 (bhN x) (canon .f64 0) = true := c
    rw [h4] at c; cases c
  repeat (first
    | (refine ⟨⟨by kernel_rfl, by kernel_rfl⟩, ?_⟩; conv => whnf)
    | (refine And.intro (by first | omega | (simp; done) | (simp; omega)) ?_; conv => whnf)
    | (refine Or.inl (And.intro (by omega) ?_); conv => whnf))
  all_goals (first | rfl | trivial)

def okS (x : Nat) : Bool := okB x && (!(fcmp .geq .f64 (bhN x) (canon .f64 4602678819172646912)) && !(fcmp .gtr .f64 (bhN x) (canon .f64 4598175219545276416)))
def snP (u : Nat) : Nat → Nat
  | 0 => canon .f64 4607182418800017408
  | j + 1 => fop .sub .f64 (canon .f64 4607182418800017408) (fop .quo .f64 (fop .mul .f64 u (snP u j)) (floatOfInt .f64 (2 * (8 - (j : Int)) * (2 * (8 - (j : Int)) + 1))))
def snZ (x : Nat) : Nat := fop .mul .f64 (bhN x) (canon .f64 4618760256179416344)
def snV (x : Nat) : Nat := fop .mul .f64 (snZ x) (snP (fop .mul .f64 (snZ x) (snZ x)) 8)
theorem iSine {x : Nat} (h : okS x = true) : Does Try.prog 56 [.flt .f64 x] (.flt .f64 (snV x)) := by
  simp only [okS, Bool.and_eq_true, Bool.not_eq_true'] at h
  obtain ⟨h1, h2, h3⟩ := h
  have e := iBehind h1
  refine Does.of_awp (X := cx 48) Try.func56 rfl (by kernel_rfl) rfl (by simp [cx]) [] rfl ?_
  conv => whnf
  repeat (first
    | (refine ⟨⟨by kernel_rfl, by kernel_rfl⟩, ?_⟩; conv => whnf)
    | (refine And.intro (by first | omega | (simp; done) | (simp; omega)) ?_; conv => whnf)
    | (refine Or.inl (And.intro (by omega) ?_); conv => whnf)
    | (refine Exists.intro _ (And.intro (e) ?_); conv => whnf))
  (refine br_intro (fun c1 => ?_) (fun c1 => ?_) <;> (conv => whnf))
  · have c1 : fcmp .geq .f64 (bhN x) (canon .f64 4602678819172646912) = true := c1
    rw [h2] at c1; cases c1
  repeat (first
    | (refine ⟨⟨by kernel_rfl, by kernel_rfl⟩, ?_⟩; conv => whnf)
    | (refine And.intro (by first | omega | (simp; done) | (simp; omega)) ?_; conv => whnf)
    | (refine Or.inl (And.intro (by omega) ?_); conv => whnf))
  (refine br_intro (fun c2 => ?_) (fun c2 => ?_) <;> (conv => whnf))
  · have c2 : fcmp .gtr .f64 (bhN x) (canon .f64 4598175219545276416) = true := c2
    rw [h3] at c2; cases c2
  repeat (first
    | (refine ⟨⟨by kernel_rfl, by kernel_rfl⟩, ?_⟩; conv => whnf)
    | (refine And.intro (by first | omega | (simp; done) | (simp; omega)) ?_; conv => whnf)
    | (refine Or.inl (And.intro (by omega) ?_); conv => whnf))
  refine ⟨Nat, fun j => j ≤ 8, fun j => [(4, .bool false), (5, .flt .f64 (snZ x)), (6, .flt .f64 (fop .mul .f64 (snZ x) (snZ x))), (7, .flt .f64 (snP (fop .mul .f64 (snZ x) (snZ x)) j)), (8, .int .i64 (8 - (j : Int)))], fun _ => [], fun j => 8 - j, ⟨0, id, Nat.zero_le _, rfl, ⟨rfl, rfl, rfl, rfl, rfl, trivial⟩, trivial⟩, fun j hj => ?_⟩
  dsimp only at hj
  conv => whnf
  (refine br_intro (fun c3 => ?_) (fun c3 => ?_) <;> (conv => whnf))
  · have c3 : j < 8 := by simp at c3; omega
    have b : 0 ≤ 2 * (8 - (j : Int)) * (2 * (8 - (j : Int)) + 1) ∧ 2 * (8 - (j : Int)) * (2 * (8 - (j : Int)) + 1) ≤ 272 := by
      have : j = 0 ∨ j = 1 ∨ j = 2 ∨ j = 3 ∨ j = 4 ∨ j = 5 ∨ j = 6 ∨ j = 7 := by omega
      rcases this with rfl | rfl | rfl | rfl | rfl | rfl | rfl | rfl <;> decide
    have eP : snP (fop .mul .f64 (snZ x) (snZ x)) (j + 1) = fop .sub .f64 (canon .f64 4607182418800017408) (fop .quo .f64 (fop .mul .f64 (fop .mul .f64 (snZ x) (snZ x)) (snP (fop .mul .f64 (snZ x) (snZ x)) j)) (foi .f64 (2 * (8 - (j : Int)) * (2 * (8 - (j : Int)) + 1)))) := by rw [snP, foi_eq]
    repeat (first
      | (refine ⟨⟨by kernel_rfl, by kernel_rfl⟩, ?_⟩; conv => whnf)
      | (refine And.intro (by first | omega | (simp; done) | (simp; omega)) ?_; conv => whnf)
      | (refine Or.inl (And.intro (by omega) ?_); conv => whnf))
    refine ⟨j + 1, id, ⟨c3, by dsimp only; omega⟩, rfl, ⟨rfl, rfl, rfl, congrArg (AV.flt .f64) eP.symm, congrArg (AV.int .i64) (show (8 : Int) - j - 1 = 8 - ((j + 1 : Nat) : Int) by omega), trivial⟩, trivial⟩
  · have c3 : j = 8 := by simp at c3; omega
    subst c3
    repeat (first
      | (refine ⟨⟨by kernel_rfl, by kernel_rfl⟩, ?_⟩; conv => whnf)
      | (refine And.intro (by first | omega | (simp; done) | (simp; omega)) ?_; conv => whnf)
      | (refine Or.inl (And.intro (by omega) ?_); conv => whnf))
    all_goals (first | rfl | trivial)

end Go.Proofs.Ytagiajolklbbiaa
