/- What each function of this seat does (Num). Printed from templates of this seat's own. -/
import Derived.Test.YtagiajolklbbiaaBxZ
import Derived.Test.YtagiajolklbbiaaRows
namespace Go.Proofs.Ytagiajolklbbiaa
open Go.Ax Go.Bx
set_option maxRecDepth 8000
set_option linter.unusedSimpArgs false
set_option linter.unusedVariables false
noncomputable def cx (N : Nat) : Cx := { P := Try.prog, N, ms := [19, 20, 46], cuts := [] }
def K (n : Nat) : Nat := canon .f32 n
def least (x : Nat) : Bool := fin x && fcmp .geq .f32 x (K 0)
def above (x : Nat) : Bool := fin x && fcmp .gtr .f32 x (K 0)
def share (x : Nat) : Bool := fcmp .geq .f32 x (K 0) && fcmp .leq .f32 x (K 1065353216)
def inR (n lo hi : Int) : Bool := decide (lo ≤ n) && decide (n ≤ hi)
def numV (x : Nat) : Nat := bif fin x then x else K 0

theorem xFloat64bits {x : Nat} : Does Try.prog 65 [.flt .f64 x] (.fbits x) :=
  Does.ext Try.func65 rfl (by kernel_rfl) rfl (e := Extern.MathFloatBits.float64bits) rfl (fun F Tg w m vs hv => by
    simp only [VRs, VR] at hv
    obtain ⟨v, vs', rfl, ⟨b, rfl, hb⟩, rfl⟩ := hv
    exact ⟨_, w.drawn, rfl, by simp only [RV]; exact ⟨b, rfl, hb⟩⟩) (.inr ⟨_, rfl⟩)

theorem xFloat64frombits {x : Nat} : Does Try.prog 64 [.fbits x] (.flt .f64 x) :=
  Does.ext Try.func64 rfl (by kernel_rfl) rfl (e := Extern.MathFloatBits.float64frombits) rfl (fun F Tg w m vs hv => by
    simp only [VRs, VR] at hv
    obtain ⟨v, vs', rfl, ⟨b, rfl, hb⟩, rfl⟩ := hv
    exact ⟨_, w.drawn, rfl, by simp only [RV]; exact ⟨b, rfl, hb⟩⟩) (.inl rfl)
theorem xFloat64frombitsK {n : Int} {b : Nat} (h1 : n = (b : Int)) (h : b < 2 ^ 64) : Does Try.prog 64 [.int .u64 n] (.flt .f64 (canon .f64 b)) :=
  Does.ext Try.func64 rfl (by kernel_rfl) rfl (e := Extern.MathFloatBits.float64frombits) rfl (fun F Tg w m vs hv => by
    simp only [VRs, VR] at hv
    obtain ⟨v, vs', rfl, rfl, rfl⟩ := hv
    subst h1
    exact ⟨_, w.drawn, rfl, by simp only [RV]; exact ⟨b, rfl, Fl.canon (k := .f64) h⟩⟩) (.inl rfl)

theorem xsqrt {x : Nat} : Does Try.prog 67 [.flt .f64 x] (.flt .f64 (fsqrt x)) := Does.sqrt Try.func67 rfl (by kernel_rfl) rfl rfl

theorem xSqrt {x : Nat} : Does Try.prog 57 [.flt .f64 x] (.flt .f64 (fsqrt x)) := by
  refine Does.of_awp (X := cx 5) Try.func57 rfl (by kernel_rfl) rfl (by simp [cx]) [] rfl ?_
  conv => whnf
  repeat' (first
    | (refine br_intro (fun h => ?_) (fun h => ?_) <;> (conv => whnf))
    | (refine ⟨⟨by kernel_rfl, by kernel_rfl⟩, ?_⟩; conv => whnf)
    | (refine And.intro (by first | omega | (simp; done) | (simp; omega)) ?_; conv => whnf)
    | (refine Or.inl (And.intro (by omega) ?_); conv => whnf)
    | (refine Exists.intro _ (And.intro (xsqrt) ?_); conv => whnf))
  all_goals rfl

theorem xIsNaN {x : Nat} : Does Try.prog 60 [.flt .f64 x] (.bool (fcmp .neq .f64 x x)) := by
  refine Does.of_awp (X := cx 6) Try.func60 rfl (by kernel_rfl) rfl (by simp [cx]) [] rfl ?_
  conv => whnf
  all_goals (try (conv => whnf))
  all_goals (repeat' (first | exact True.intro | (refine And.intro ?_ ?_ <;> (conv => whnf))))
  all_goals (first | rfl | (simp_all []; done) | (simp only [cond_true, cond_false, Bool.and_true, Bool.true_and, Bool.and_false, Bool.false_and]; rfl) | (simp_all []; omega))

theorem xAbs {x : Nat} : Does Try.prog 54 [.flt .f64 x] (.flt .f64 (fabs64 x)) := by
  refine Does.of_awp (X := cx 7) Try.func54 rfl (by kernel_rfl) rfl (by simp [cx]) [] rfl ?_
  conv => whnf
  repeat' (first
    | (refine br_intro (fun h => ?_) (fun h => ?_) <;> (conv => whnf))
    | (refine ⟨⟨by kernel_rfl, by kernel_rfl⟩, ?_⟩; conv => whnf)
    | (refine And.intro (by first | omega | (simp; done) | (simp; omega)) ?_; conv => whnf)
    | (refine Or.inl (And.intro (by omega) ?_); conv => whnf)
    | (refine Exists.intro _ (And.intro (xFloat64bits) ?_); conv => whnf)
    | (refine Exists.intro _ (And.intro (xFloat64frombits) ?_); conv => whnf))
  all_goals rfl

theorem xIsInf {x : Nat} : Does Try.prog 61 [.flt .f64 x, .int .i64 0] (.bool (fcmp .gtr .f64 (fabs64 x) (canon .f64 9218868437227405311))) := by
  refine Does.of_awp (X := cx 15) Try.func61 rfl (by kernel_rfl) rfl (by simp [cx]) [] rfl ?_
  conv => whnf
  repeat' (first
    | (refine br_intro (fun h => ?_) (fun h => ?_) <;> (conv => whnf))
    | (refine ⟨⟨by kernel_rfl, by kernel_rfl⟩, ?_⟩; conv => whnf)
    | (refine And.intro (by first | omega | (simp; done) | (simp; omega)) ?_; conv => whnf)
    | (refine Or.inl (And.intro (by omega) ?_); conv => whnf)
    | (refine Exists.intro _ (And.intro (xAbs) ?_); conv => whnf))
  all_goals (try (conv => whnf))
  all_goals (repeat' (first | exact True.intro | (refine And.intro ?_ ?_ <;> (conv => whnf))))
  all_goals (first | rfl | (simp_all []; done) | (simp only [cond_true, cond_false, Bool.and_true, Bool.true_and, Bool.and_false, Bool.false_and]; rfl) | (simp_all []; omega))

theorem xSignbit {x : Nat} (hn : isNaN .f64 x = false) : Does Try.prog 62 [.flt .f64 x] (.bool (sgn x)) := by
  refine Does.of_awp (X := cx 7) Try.func62 rfl (by kernel_rfl) rfl (by simp [cx]) [] rfl ?_
  conv => whnf
  repeat' (first
    | (refine br_intro (fun h => ?_) (fun h => ?_) <;> (conv => whnf))
    | (refine ⟨⟨by kernel_rfl, by kernel_rfl⟩, ?_⟩; conv => whnf)
    | (refine And.intro (by first | omega | (simp; done) | (simp; omega)) ?_; conv => whnf)
    | (refine Or.inl (And.intro (by omega) ?_); conv => whnf)
    | (refine Exists.intro _ (And.intro (xFloat64bits) ?_); conv => whnf))
  all_goals (try (conv => whnf))
  all_goals (repeat' (first | exact True.intro | (refine And.intro ?_ ?_ <;> (conv => whnf))))
  all_goals (first | rfl | (simp_all []; done) | (simp only [cond_true, cond_false, Bool.and_true, Bool.true_and, Bool.and_false, Bool.false_and]; rfl) | (simp_all []; omega))

theorem ifinite {x : Nat} : Does Try.prog 48 [.flt .f64 x] (.bool (!(fcmp .neq .f64 x x) && !(fcmp .gtr .f64 (fabs64 x) (canon .f64 9218868437227405311)))) := by
  refine Does.of_awp (X := cx 11) Try.func48 rfl (by kernel_rfl) rfl (by simp [cx]) [] rfl ?_
  conv => whnf
  repeat' (first
    | (refine br_intro (fun h => ?_) (fun h => ?_) <;> (conv => whnf))
    | (refine ⟨⟨by kernel_rfl, by kernel_rfl⟩, ?_⟩; conv => whnf)
    | (refine And.intro (by first | omega | (simp; done) | (simp; omega)) ?_; conv => whnf)
    | (refine Or.inl (And.intro (by omega) ?_); conv => whnf)
    | (refine Exists.intro _ (And.intro (xIsNaN) ?_); conv => whnf)
    | (refine Exists.intro _ (And.intro (xIsInf) ?_); conv => whnf))
  all_goals (try (conv => whnf))
  all_goals (repeat' (first | exact True.intro | (refine And.intro ?_ ?_ <;> (conv => whnf))))
  all_goals (first | rfl | (simp_all []; done) | (simp only [cond_true, cond_false, Bool.and_true, Bool.true_and, Bool.and_false, Bool.false_and]; rfl) | (simp_all []; omega))

theorem iIsFinite {x : Nat} : Does Try.prog 26 [.flt .f32 x] (.bool (fin x)) := by
  rw [← finite_widen]
  refine Does.of_awp (X := cx 6) Try.func26 rfl (by kernel_rfl) rfl (by simp [cx]) [] rfl ?_
  conv => whnf
  repeat' (first
    | (refine br_intro (fun h => ?_) (fun h => ?_) <;> (conv => whnf))
    | (refine ⟨⟨by kernel_rfl, by kernel_rfl⟩, ?_⟩; conv => whnf)
    | (refine And.intro (by first | omega | (simp; done) | (simp; omega)) ?_; conv => whnf)
    | (refine Or.inl (And.intro (by omega) ?_); conv => whnf)
    | (refine Exists.intro _ (And.intro (ifinite) ?_); conv => whnf))
  all_goals rfl

theorem iWithin {n lo hi : Int} : Does Try.prog 47 [.int .i64 n, .int .i64 lo, .int .i64 hi] (.bool (inR n lo hi)) := by
  refine Does.of_awp (X := cx 15) Try.func47 rfl (by kernel_rfl) rfl (by simp [cx]) [] rfl ?_
  conv => whnf
  repeat' (first
    | (refine br_intro (fun h => ?_) (fun h => ?_) <;> (conv => whnf))
    | (refine ⟨⟨by kernel_rfl, by kernel_rfl⟩, ?_⟩; conv => whnf)
    | (refine And.intro (by first | omega | (simp; done) | (simp; omega)) ?_; conv => whnf)
    | (refine Or.inl (And.intro (by omega) ?_); conv => whnf))
  all_goals (try (conv => whnf))
  all_goals (repeat' (first | exact True.intro | (refine And.intro ?_ ?_ <;> (conv => whnf))))
  all_goals (first | rfl | (simp_all [inR]; done) | (simp only [inR, cond_true, cond_false, Bool.and_true, Bool.true_and, Bool.and_false, Bool.false_and]; rfl) | (simp_all [inR]; omega))

end Go.Proofs.Ytagiajolklbbiaa
