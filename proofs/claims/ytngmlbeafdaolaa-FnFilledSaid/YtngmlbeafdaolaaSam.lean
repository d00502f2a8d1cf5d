/- What each function of this seat does (Sam). Printed from templates of this seat's own. -/
import Derived.Test.YtngmlbeafdaolaaMrk
namespace Go.Proofs.Ytngmlbeafdaolaa
open Go.Ax Go.Bx
set_option maxRecDepth 8000
set_option linter.unusedSimpArgs false
set_option linter.unusedVariables false
theorem nott {b : Bool} (h : (!b) = true) : b = false := by cases b <;> simp at h ⊢
theorem notf {b : Bool} (h : (!b) = false) : b = true := by cases b <;> simp at h ⊢
def sb (a b : Nat) : Bool := bitsI a == bitsI b

theorem iSameNum {a b : Nat} : Does Try.prog 79 [.flt .f32 a, .flt .f32 b] (.bool (sameN a b)) := by
  refine Does.of_awp (X := cx 33) Try.func79 rfl (by kernel_rfl) rfl (by simp [cx]) [] rfl ?_
  conv => whnf
  repeat (first
    | (refine ⟨⟨by kernel_rfl, by kernel_rfl⟩, ?_⟩; conv => whnf)
    | (refine And.intro (by first | omega | (simp; done) | (simp; omega)) ?_; conv => whnf)
    | (refine Or.inl (And.intro (by omega) ?_); conv => whnf))
  (refine br_intro (fun h1 => ?_) (fun h1 => ?_) <;> (conv => whnf))
  · repeat (first
      | (refine ⟨⟨by kernel_rfl, by kernel_rfl⟩, ?_⟩; conv => whnf)
      | (refine And.intro (by first | omega | (simp; done) | (simp; omega)) ?_; conv => whnf)
      | (refine Or.inl (And.intro (by omega) ?_); conv => whnf))
    (refine br_intro (fun h2 => ?_) (fun h2 => ?_) <;> (conv => whnf))
    · all_goals (try (conv => whnf))
      all_goals (repeat' (first | exact True.intro | (refine And.intro ?_ ?_ <;> (conv => whnf))))
      all_goals (first | rfl | (simp_all [sameN]; done) | (simp only [sameN, cond_true, cond_false, Bool.and_true, Bool.true_and, Bool.and_false, Bool.false_and]; rfl) | (simp_all [sameN]; omega))
    · rw [h1] at h2; cases h2
  · repeat (first
      | (refine ⟨⟨by kernel_rfl, by kernel_rfl⟩, ?_⟩; conv => whnf)
      | (refine And.intro (by first | omega | (simp; done) | (simp; omega)) ?_; conv => whnf)
      | (refine Or.inl (And.intro (by omega) ?_); conv => whnf))
    (refine br_intro (fun h2 => ?_) (fun h2 => ?_) <;> (conv => whnf))
    · repeat (first
        | (refine ⟨⟨by kernel_rfl, by kernel_rfl⟩, ?_⟩; conv => whnf)
        | (refine And.intro (by first | omega | (simp; done) | (simp; omega)) ?_; conv => whnf)
        | (refine Or.inl (And.intro (by omega) ?_); conv => whnf))
      (refine br_intro (fun h3 => ?_) (fun h3 => ?_) <;> (conv => whnf))
      · rw [h1] at h3; cases h3
      · all_goals (try (conv => whnf))
        all_goals (repeat' (first | exact True.intro | (refine And.intro ?_ ?_ <;> (conv => whnf))))
        all_goals (first | rfl | (simp_all [sameN]; done) | (simp only [sameN, cond_true, cond_false, Bool.and_true, Bool.true_and, Bool.and_false, Bool.false_and]; rfl) | (simp_all [sameN]; omega))
    · have n1 : isNaN .f64 (fwiden a) = false := by rw [isNaN_widen, ← neq_self]; exact h1
      have n2 : isNaN .f64 (fwiden b) = false := by rw [isNaN_widen, ← neq_self]; exact h2
      repeat (first
        | (refine ⟨⟨by kernel_rfl, by kernel_rfl⟩, ?_⟩; conv => whnf)
        | (refine And.intro (by first | omega | (simp; done) | (simp; omega)) ?_; conv => whnf)
        | (refine Or.inl (And.intro (by omega) ?_); conv => whnf))
      (refine br_intro (fun h3 => ?_) (fun h3 => ?_) <;> (conv => whnf))
      · repeat (first
          | (refine ⟨⟨by kernel_rfl, by kernel_rfl⟩, ?_⟩; conv => whnf)
          | (refine And.intro (by first | omega | (simp; done) | (simp; omega)) ?_; conv => whnf)
          | (refine Or.inl (And.intro (by omega) ?_); conv => whnf)
          | (refine Exists.intro _ (And.intro (xSignbit n1) ?_); conv => whnf)
          | (refine Exists.intro _ (And.intro (xSignbit n2) ?_); conv => whnf))
        all_goals (try (conv => whnf))
        all_goals (repeat' (first | exact True.intro | (refine And.intro ?_ ?_ <;> (conv => whnf))))
        all_goals (first | rfl | (simp_all [sameN]; done) | (simp only [sameN, cond_true, cond_false, Bool.and_true, Bool.true_and, Bool.and_false, Bool.false_and]; rfl) | (simp_all [sameN]; omega))
      · all_goals (try (conv => whnf))
        all_goals (repeat' (first | exact True.intro | (refine And.intro ?_ ?_ <;> (conv => whnf))))
        all_goals (first | rfl | (simp_all [sameN]; done) | (simp only [sameN, cond_true, cond_false, Bool.and_true, Bool.true_and, Bool.and_false, Bool.false_and]; rfl) | (simp_all [sameN]; omega))
theorem iSameNum' {a b : Nat} (ha : a < 2 ^ 32) (hb : b < 2 ^ 32) : Does Try.prog 79 [.flt .f32 a, .flt .f32 b] (.bool (sb a b)) := by
  have := iSameNum (a := a) (b := b)
  rwa [sameN_eq ha hb] at this

def sbL (xs ys : List Nat) : Bool := decide (xs.length = ys.length) && allN (fun i => sb (xs.getD i 0) (ys.getD i 0)) xs.length
theorem W1_at {xs : List Nat} (h : ∀ y ∈ xs, y < 2 ^ 32) {i : Nat} (hi : i < xs.length) : xs.getD i 0 < 2 ^ 32 := by
  apply h
  rw [List.getD_eq_getElem?_getD, List.getElem?_eq_getElem hi]
  exact List.getElem_mem _
theorem xEqualF {xs ys : List Nat} {t t' : AV} (hn : xs.length ≤ 1048576) (hx : ∀ y ∈ xs, y < 2 ^ 32) (hy : ∀ y ∈ ys, y < 2 ^ 32) : Does Try.prog 78 [.sli .f32 xs t, .sli .f32 ys t', .fn 79 []] (.bool (sbL xs ys)) := by
  refine Does.of_awp (X := cx 32) Try.func78 rfl (by kernel_rfl) rfl (by simp [cx]) [] rfl ?_
  conv => whnf
  repeat (first
    | (refine ⟨⟨by kernel_rfl, by kernel_rfl⟩, ?_⟩; conv => whnf)
    | (refine And.intro (by first | omega | (simp; done) | (simp; omega)) ?_; conv => whnf)
    | (refine Or.inl (And.intro (by omega) ?_); conv => whnf))
  (refine br_intro (fun h0 => ?_) (fun h0 => ?_) <;> (conv => whnf))
  · have h0 : ¬ xs.length = ys.length := by simp at h0; omega
    all_goals (try (conv => whnf))
    all_goals (repeat' (first | exact True.intro | (refine And.intro ?_ ?_ <;> (conv => whnf))))
    all_goals (first | rfl | (simp_all [sbL]; done) | (simp only [sbL, cond_true, cond_false, Bool.and_true, Bool.true_and, Bool.and_false, Bool.false_and]; rfl) | (simp_all [sbL]; omega))
  have h0 : xs.length = ys.length := by simp at h0; omega
  have eL : sbL xs ys = allN (fun i => sb (xs.getD i 0) (ys.getD i 0)) xs.length := by rw [sbL, decide_eq_true h0]; rfl
  rw [eL]
  clear eL
  repeat (first
    | (refine ⟨⟨by kernel_rfl, by kernel_rfl⟩, ?_⟩; conv => whnf)
    | (refine And.intro (by first | omega | (simp; done) | (simp; omega)) ?_; conv => whnf)
    | (refine Or.inl (And.intro (by omega) ?_); conv => whnf))
  refine ⟨Nat, fun i => i ≤ xs.length ∧ allN (fun i => sb (xs.getD i 0) (ys.getD i 0)) i = true, fun i => [(1, .sli .f32 ys t'), (2, .fn 79 []), (15, .sli .f32 xs t), (16, .int .i64 xs.length), (17, .int .i64 i)], fun _ => [], fun i => xs.length - i, ⟨0, id, ⟨Nat.zero_le _, rfl⟩, rfl, ⟨rfl, rfl, rfl, rfl, rfl, trivial⟩, trivial⟩, fun i hi => ?_⟩
  obtain ⟨hi, hA⟩ := hi
  conv => whnf
  (refine br_intro (fun h => ?_) (fun h => ?_) <;> (conv => whnf))
  · have h : i < xs.length := by simp at h; omega
    have h' : i < ys.length := by omega
    repeat (first
      | (refine ⟨⟨by kernel_rfl, by kernel_rfl⟩, ?_⟩; conv => whnf)
      | (refine And.intro (by first | omega | (simp; done) | (simp; omega)) ?_; conv => whnf)
      | (refine Or.inl (And.intro (by omega) ?_); conv => whnf)
      | (refine Exists.intro _ (And.intro (iSameNum' (W1_at hx h) (W1_at hy h')) ?_); conv => whnf))
    (refine br_intro (fun hs => ?_) (fun hs => ?_) <;> (conv => whnf))
    · have hs : sb (xs.getD i 0) (ys.getD i 0) = false := nott hs
      have := allN_false (p := fun i => sb (xs.getD i 0) (ys.getD i 0)) h hs
      rw [this]
    · have hs : sb (xs.getD i 0) (ys.getD i 0) = true := notf hs
      repeat (first
        | (refine ⟨⟨by kernel_rfl, by kernel_rfl⟩, ?_⟩; conv => whnf)
        | (refine And.intro (by first | omega | (simp; done) | (simp; omega)) ?_; conv => whnf)
        | (refine Or.inl (And.intro (by omega) ?_); conv => whnf))
      refine ⟨i + 1, id, ⟨⟨h, by simp only [allN, hA, Bool.true_and]; exact hs⟩, by dsimp only; omega⟩, rfl, ⟨rfl, rfl, rfl, rfl, rfl, trivial⟩, trivial⟩
  · have h : i = xs.length := by simp at h; omega
    subst h
    rw [hA]

theorem iSameNums {xs ys : List Nat} {t t' : AV} (hn : xs.length ≤ 1048576) (hx : ∀ y ∈ xs, y < 2 ^ 32) (hy : ∀ y ∈ ys, y < 2 ^ 32) : Does Try.prog 50 [.sli .f32 xs t, .sli .f32 ys t'] (.bool (sbL xs ys)) := by
  refine Does.of_awp (X := cx 8) Try.func50 rfl (by kernel_rfl) rfl (by simp [cx]) [] rfl ?_
  conv => whnf
  repeat (first
    | (refine ⟨⟨by kernel_rfl, by kernel_rfl⟩, ?_⟩; conv => whnf)
    | (refine And.intro (by first | omega | (simp; done) | (simp; omega)) ?_; conv => whnf)
    | (refine Or.inl (And.intro (by omega) ?_); conv => whnf)
    | (refine Exists.intro _ (And.intro (xEqualF hn hx hy) ?_); conv => whnf))
  all_goals (try (conv => whnf))
  all_goals (repeat' (first | exact True.intro | (refine And.intro ?_ ?_ <;> (conv => whnf))))
  all_goals (first | rfl | (simp_all []; done) | (simp only [cond_true, cond_false, Bool.and_true, Bool.true_and, Bool.and_false, Bool.false_and]; rfl) | (simp_all []; omega))

end Go.Proofs.Ytngmlbeafdaolaa
