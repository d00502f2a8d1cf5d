/- What each function of this seat does (Lk2). Printed from templates of this seat's own. -/
import Derived.Test.YtagiajolklbbiaaScl
namespace Go.Proofs.Ytagiajolklbbiaa
open Go.Ax Go.Bx
set_option maxRecDepth 8000
set_option linter.unusedSimpArgs false
set_option linter.unusedVariables false

/-! A hill that is roughened: the closure draws on. -/
noncomputable def cxW (N : Nat) : Cx := { P := Try.prog, N, ms := [19, 20, 46], cuts := [], all := true, ws := [28] }
def sdN (s : Int) : Int := (1103515245 * s + 12345) % 2147483648
def sdT : Nat → Int
  | 0 => 77
  | n + 1 => sdN (sdT n)
theorem sdN_range (s : Int) : 0 ≤ sdN s ∧ sdN s < 2147483648 := by unfold sdN; omega
theorem sdT_range : ∀ n, 0 ≤ sdT n ∧ sdT n < 2147483648
  | 0 => by decide
  | n + 1 => sdN_range _
theorem iDraw {s : Int} (h0 : 0 ≤ s) (h1 : s < 2147483648) : Does Try.prog 29 [.int .i64 s] (.tup [.int .i64 (sdN s), .int .i64 (sdN s / 65536)]) := by
  refine Does.of_awp (X := cx 11) Try.func29 rfl (by kernel_rfl) rfl (by simp [cx]) [] rfl ?_
  conv => whnf
  repeat (first
    | (refine ⟨⟨by kernel_rfl, by kernel_rfl⟩, ?_⟩; conv => whnf)
    | (refine And.intro (by first | omega | (simp; done) | (simp; omega)) ?_; conv => whnf)
    | (refine Or.inl (And.intro (by omega) ?_); conv => whnf))
  all_goals (try (conv => whnf))
  all_goals (repeat' (first | exact True.intro | (refine And.intro ?_ ?_ <;> (conv => whnf))))
  all_goals (first | rfl | (simp_all [sdN]; done) | (simp only [sdN, cond_true, cond_false, Bool.and_true, Bool.true_and, Bool.and_false, Bool.false_and]; rfl) | (simp_all [sdN]; omega))
noncomputable def rgV (X : List Nat) (q : Nat) (s : Int) (n : Nat) : Nat := fop .add .f32 (X.getD n 0) (fop .mul .f32 q (fop .quo .f32 (foi .f32 (sdN s / 65536 - 16384)) (canon .f32 1182793728)))
theorem iRough1 {w h x y : Nat} {X : List Nat} {q : Nat} {s : Int} {t t' t2 : AV} (hl : X.length = w * h) (hw : 1 ≤ w ∧ w ≤ 16) (hh : 1 ≤ h ∧ h ≤ 16) (hx : x < w) (hy : y < h) (h0 : 0 ≤ s) (h1 : s < 2147483648) : DoesP Try.prog 28 [.int .i64 x, .int .i64 y, .loc LK 0, .ref [.int .i64 w, .int .i64 h, .sli .f32 X t] t', .ref [.flt .f32 q] t2] [.int .i64 s] (.flt .f32 (rgV X q s (y * w + x))) [.int .i64 (sdN s)] := by
  have hxy : y * w + x < w * h := by
    have := Nat.mul_le_mul_right w (show y + 1 ≤ h by omega)
    rw [Nat.succ_mul, Nat.mul_comm h] at this; omega
  have hb : w * h ≤ 16 * 16 := Nat.mul_le_mul hw.2 hh.2
  have e : ((y : Int) * (w : Int) + (x : Int)) = ((y * w + x : Nat) : Int) := by rw [Int.natCast_add, Int.natCast_mul]
  have b1 : (0 : Int) ≤ (y : Int) * (w : Int) ∧ (y : Int) * (w : Int) ≤ 256 := by rw [← Int.natCast_mul]; omega
  have b2 : (0 : Int) ≤ (y : Int) * (w : Int) + (x : Int) ∧ (y : Int) * (w : Int) + (x : Int) < X.length := by rw [e]; omega
  have b3 := sdN_range s
  have b4 : -16384 ≤ sdN s / 65536 - 16384 ∧ sdN s / 65536 - 16384 ≤ 16384 := by omega
  refine DoesP.of_awp (X := cx 31) Try.func28 rfl (by kernel_rfl) rfl (by simp [cx]) rfl (by simp) rfl ?_
  conv => whnf
  repeat (first
    | (refine ⟨⟨by kernel_rfl, by kernel_rfl⟩, ?_⟩; conv => whnf)
    | (refine And.intro (by first | omega | (simp; done) | (simp; omega)) ?_; conv => whnf)
    | (refine Or.inl (And.intro (by omega) ?_); conv => whnf)
    | (refine Exists.intro _ (And.intro (iDraw h0 h1) ?_); conv => whnf))
  refine ⟨?_, rfl⟩
  conv => lhs; whnf
  rw [e]
  rfl

end Go.Proofs.Ytagiajolklbbiaa
