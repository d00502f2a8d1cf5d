/- What each function of this seat does (Lst). Printed from templates of this seat's own. -/
import Derived.Test.YtagiajolklbbiaaNum
namespace Go.Proofs.Ytagiajolklbbiaa
open Go.Ax Go.Bx
set_option maxRecDepth 8000
set_option linter.unusedSimpArgs false
set_option linter.unusedVariables false
def finL (xs : List Nat) : Bool := allN (fun j => fin (xs.getD j 0)) xs.length
def leastL (xs : List Nat) : Bool := allN (fun j => least (xs.getD j 0)) xs.length
def rainB (xs : List Nat) : Bool := decide (xs.length ≤ 128) && leastL xs
def eqF (xs ys : List Nat) : Bool := decide (xs.length = ys.length) && allN (fun i => sameF (fwiden (xs.getD i 0)) (fwiden (ys.getD i 0))) xs.length
theorem eqF_self (xs : List Nat) : eqF xs xs = true := by
  simp only [eqF, decide_true, Bool.true_and]
  exact allN_iff.2 fun i _ => sameF_self _
noncomputable def mkF (k : Int) (n : Nat) : List Nat := tabN (fun i => foi .f32 (k + i)) n

theorem iNotFinite {x : Nat} : Does Try.prog 52 [.flt .f32 x] (.bool (!fin x)) := by
  refine Does.of_awp (X := cx 6) Try.func52 rfl (by kernel_rfl) rfl (by simp [cx]) [] rfl ?_
  conv => whnf
  repeat (first
    | (refine ⟨⟨by kernel_rfl, by kernel_rfl⟩, ?_⟩; conv => whnf)
    | (refine And.intro (by first | omega | (simp; done) | (simp; omega)) ?_; conv => whnf)
    | (refine Or.inl (And.intro (by omega) ?_); conv => whnf)
    | (refine Exists.intro _ (And.intro (iIsFinite) ?_); conv => whnf))
  all_goals (try (conv => whnf))
  all_goals (repeat' (first | exact True.intro | (refine And.intro ?_ ?_ <;> (conv => whnf))))
  all_goals (first | rfl | (simp_all []; done) | (simp only [cond_true, cond_false, Bool.and_true, Bool.true_and, Bool.and_false, Bool.false_and]; rfl) | (simp_all []; omega))

/-- 'IndexFunc', as far as 'ContainsFunc' looks at it. -/
theorem xIndexFuncF {xs : List Nat} {t : AV} {f : FuncId} {p : Nat → Bool} (hn : xs.length ≤ 1048576) (hf : ∀ x, Does Try.prog f [.flt .f32 x] (.bool (!p x))) :
    ∃ n : Int, Does Try.prog 63 [.sli .f32 xs t, .fn f []] (.int .i64 n) ∧ decide (n ≥ 0) = !allN (fun j => p (xs.getD j 0)) xs.length := by
  by_cases hex : ∃ i, i < xs.length ∧ p (xs.getD i 0) = false ∧ allN (fun j => p (xs.getD j 0)) i = true
  · obtain ⟨k, hk, hpk, hak⟩ := hex
    refine ⟨k, ?_, by rw [allN_false hk hpk]; simp⟩
    refine Does.of_awp (X := cx 19) Try.func63 rfl (by kernel_rfl) rfl (by simp [cx]) [] rfl ?_
    conv => whnf
    refine ⟨Nat, fun i => i ≤ k, fun i => [(0, .sli .f32 xs t), (1, .fn f []), (7, .int .i64 xs.length), (8, .int .i64 i)], fun _ => [], fun i => xs.length - i, ⟨0, id, Nat.zero_le _, rfl, ⟨rfl, rfl, rfl, rfl, trivial⟩, trivial⟩, fun i hi => ?_⟩
    conv => whnf
    (refine br_intro (fun h => ?_) (fun h => ?_) <;> (conv => whnf))
    · have h : i < xs.length := by simp at h; omega
      repeat (first
        | (refine ⟨⟨by kernel_rfl, by kernel_rfl⟩, ?_⟩; conv => whnf)
        | (refine And.intro (by first | omega | (simp; done) | (simp; omega)) ?_; conv => whnf)
        | (refine Or.inl (And.intro (by omega) ?_); conv => whnf)
        | (refine Exists.intro _ (And.intro (hf _) ?_); conv => whnf))
      (refine br_intro (fun hs => ?_) (fun hs => ?_) <;> (conv => whnf))
      · have hs : p (xs.getD i 0) = false := by simpa using hs
        have : ¬ i < k := fun hlt => by rw [allN_iff.1 hak i hlt] at hs; cases hs
        have : i = k := by omega
        subst this
        all_goals (try (conv => whnf))
        all_goals (repeat' (first | exact True.intro | (refine And.intro ?_ ?_ <;> (conv => whnf))))
        all_goals (first | rfl | (simp_all []; done) | (simp only [cond_true, cond_false, Bool.and_true, Bool.true_and, Bool.and_false, Bool.false_and]; rfl) | (simp_all []; omega))
      · have hs : p (xs.getD i 0) = true := by simpa using hs
        have : i ≠ k := fun e => by subst e; rw [hpk] at hs; cases hs
        repeat (first
          | (refine ⟨⟨by kernel_rfl, by kernel_rfl⟩, ?_⟩; conv => whnf)
          | (refine And.intro (by first | omega | (simp; done) | (simp; omega)) ?_; conv => whnf)
          | (refine Or.inl (And.intro (by omega) ?_); conv => whnf))
        refine ⟨i + 1, id, ⟨by omega, by dsimp only; omega⟩, rfl, ⟨rfl, rfl, rfl, rfl, trivial⟩, trivial⟩
    · exfalso; simp at h; omega
  · have hall : ∀ i, i ≤ xs.length → allN (fun j => p (xs.getD j 0)) i = true := by
      intro i
      induction i with
      | zero => intro _; rfl
      | succ i ih =>
        intro hi
        have ih := ih (by omega)
        rw [allN, ih, Bool.true_and]
        cases hp : p (xs.getD i 0) with
        | true => rfl
        | false => exact absurd ⟨i, by omega, hp, ih⟩ hex
    refine ⟨-1, ?_, by rw [hall _ (Nat.le_refl _)]; simp⟩
    refine Does.of_awp (X := cx 19) Try.func63 rfl (by kernel_rfl) rfl (by simp [cx]) [] rfl ?_
    conv => whnf
    refine ⟨Nat, fun i => i ≤ xs.length, fun i => [(0, .sli .f32 xs t), (1, .fn f []), (7, .int .i64 xs.length), (8, .int .i64 i)], fun _ => [], fun i => xs.length - i, ⟨0, id, Nat.zero_le _, rfl, ⟨rfl, rfl, rfl, rfl, trivial⟩, trivial⟩, fun i hi => ?_⟩
    conv => whnf
    (refine br_intro (fun h => ?_) (fun h => ?_) <;> (conv => whnf))
    · have h : i < xs.length := by simp at h; omega
      repeat (first
        | (refine ⟨⟨by kernel_rfl, by kernel_rfl⟩, ?_⟩; conv => whnf)
        | (refine And.intro (by first | omega | (simp; done) | (simp; omega)) ?_; conv => whnf)
        | (refine Or.inl (And.intro (by omega) ?_); conv => whnf)
        | (refine Exists.intro _ (And.intro (hf _) ?_); conv => whnf))
      (refine br_intro (fun hs => ?_) (fun hs => ?_) <;> (conv => whnf))
      · have hs : p (xs.getD i 0) = false := by simpa using hs
        have := allN_iff.1 (hall _ (Nat.le_refl _)) i h
        rw [hs] at this; cases this
      · repeat (first
          | (refine ⟨⟨by kernel_rfl, by kernel_rfl⟩, ?_⟩; conv => whnf)
          | (refine And.intro (by first | omega | (simp; done) | (simp; omega)) ?_; conv => whnf)
          | (refine Or.inl (And.intro (by omega) ?_); conv => whnf))
        refine ⟨i + 1, id, ⟨h, by dsimp only; omega⟩, rfl, ⟨rfl, rfl, rfl, rfl, trivial⟩, trivial⟩
theorem xContainsFuncF {xs : List Nat} {t : AV} {f : FuncId} {p : Nat → Bool} (hf : ∀ x, Does Try.prog f [.flt .f32 x] (.bool (!p x))) (hn : xs.length ≤ 1048576) :
    Does Try.prog 51 [.sli .f32 xs t, .fn f []] (.bool (!allN (fun j => p (xs.getD j 0)) xs.length)) := by
  obtain ⟨n, h1, h2⟩ := xIndexFuncF (t := .sli .f32 xs t) hn hf
  rw [← h2]
  refine Does.of_awp (X := cx 9) Try.func51 rfl (by kernel_rfl) rfl (by simp [cx]) [] rfl ?_
  conv => whnf
  repeat (first
    | (refine ⟨⟨by kernel_rfl, by kernel_rfl⟩, ?_⟩; conv => whnf)
    | (refine And.intro (by first | omega | (simp; done) | (simp; omega)) ?_; conv => whnf)
    | (refine Or.inl (And.intro (by omega) ?_); conv => whnf)
    | (refine Exists.intro _ (And.intro (h1) ?_); conv => whnf))
  all_goals (try (conv => whnf))
  all_goals (repeat' (first | exact True.intro | (refine And.intro ?_ ?_ <;> (conv => whnf))))
  all_goals (first | rfl | (simp_all []; done) | (simp only [cond_true, cond_false, Bool.and_true, Bool.true_and, Bool.and_false, Bool.false_and]; rfl) | (simp_all []; omega))

theorem iFinL {xs : List Nat} {t : AV} (hn : xs.length ≤ 1048576) : Does Try.prog 34 [.sli .f32 xs t] (.bool (finL xs)) := by
  refine Does.of_awp (X := cx 6) Try.func34 rfl (by kernel_rfl) rfl (by simp [cx]) [] rfl ?_
  conv => whnf
  repeat (first
    | (refine ⟨⟨by kernel_rfl, by kernel_rfl⟩, ?_⟩; conv => whnf)
    | (refine And.intro (by first | omega | (simp; done) | (simp; omega)) ?_; conv => whnf)
    | (refine Or.inl (And.intro (by omega) ?_); conv => whnf)
    | (refine Exists.intro _ (And.intro (xContainsFuncF (fun x => iNotFinite (x := x)) (by first | omega | (simp; done) | (simp; omega))) ?_); conv => whnf))
  all_goals (try (conv => whnf))
  all_goals (repeat' (first | exact True.intro | (refine And.intro ?_ ?_ <;> (conv => whnf))))
  all_goals (first | rfl | (simp_all [finL]; done) | (simp only [finL, cond_true, cond_false, Bool.and_true, Bool.true_and, Bool.and_false, Bool.false_and]; rfl) | (simp_all [finL]; omega))

end Go.Proofs.Ytagiajolklbbiaa
