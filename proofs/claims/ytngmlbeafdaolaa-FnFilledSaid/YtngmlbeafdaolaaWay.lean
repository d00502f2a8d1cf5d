/- What each function of this seat does (Way). Printed from templates of this seat's own. -/
import Derived.Test.YtngmlbeafdaolaaFal
namespace Go.Proofs.Ytngmlbeafdaolaa
open Go.Ax Go.Bx
set_option maxRecDepth 8000
set_option linter.unusedSimpArgs false
set_option linter.unusedVariables false
theorem allN_list {α : Type} (p : α → Bool) (l : List α) (d : α) : allN (fun j => p (l.getD j d)) l.length = l.all p := by
  rw [Bool.eq_iff_iff, allN_iff, List.all_eq_true]
  constructor
  · intro h x hx
    obtain ⟨j, hj, rfl⟩ := List.getElem_of_mem hx
    have := h j hj
    rwa [List.getD_eq_getElem?_getD, List.getElem?_eq_getElem hj] at this
  · intro h j hj
    exact h _ (getD_mem hj d)
def isBes (W H c d : Int) : Bool := (nbL W H c 8).any fun r => r.1 == d
theorem bes_mono {W H c d : Int} {k : Nat} (h : ((nbL W H c k).any fun r => r.1 == d) = true) : ∀ n, ((nbL W H c (k + n)).any fun r => r.1 == d) = true
  | 0 => h
  | n + 1 => by
    have := bes_mono h n
    show ((nbL W H c (k + n) ++ _).any fun r => r.1 == d) = true
    rw [List.any_append, this]; rfl

theorem iWay1 {r : Int × Nat} {d : Int} {t : AV} : Does Try.prog 52 [.agg [.int .i64 r.1, .flt .f32 r.2], .ref [.int .i64 d] t] (.bool (r.1 == d)) := by
  refine Does.of_awp (X := cx 8) Try.func52 rfl (by kernel_rfl) rfl (by simp [cx]) [] rfl ?_
  conv => whnf
  repeat (first
    | (refine ⟨⟨by kernel_rfl, by kernel_rfl⟩, ?_⟩; conv => whnf)
    | (refine And.intro (by first | omega | (simp; done) | (simp; omega)) ?_; conv => whnf)
    | (refine Or.inl (And.intro (by omega) ?_); conv => whnf))
  all_goals (try (conv => whnf))
  all_goals (repeat' (first | exact True.intro | (refine And.intro ?_ ?_ <;> (conv => whnf))))
  all_goals (first | rfl | (simp_all []; done) | (simp only [cond_true, cond_false, Bool.and_true, Bool.true_and, Bool.and_false, Bool.false_and]; rfl) | (simp_all []; omega))

theorem xIndexFuncN {xs : List (Int × Nat)} {t t' : AV} {d : Int} (hn : xs.length ≤ 1048576) :
    ∃ n : Int, Does Try.prog 80 [.sli .nb xs t, .fn 52 [.ref [.int .i64 d] t']] (.int .i64 n) ∧ decide (n ≥ 0) = !allN (fun j => !((xs.getD j RK.nb.z).1 == d)) xs.length := by
  by_cases hex : ∃ i, i < xs.length ∧ (!((xs.getD i RK.nb.z).1 == d)) = false ∧ allN (fun j => !((xs.getD j RK.nb.z).1 == d)) i = true
  · obtain ⟨k, hk, hpk, hak⟩ := hex
    refine ⟨k, ?_, by rw [allN_false hk hpk]; simp⟩
    refine Does.of_awp (X := cx 19) Try.func80 rfl (by kernel_rfl) rfl (by simp [cx]) [] rfl ?_
    conv => whnf
    refine ⟨Nat, fun i => i ≤ k, fun i => [(0, .sli .nb xs t), (1, .fn 52 [.ref [.int .i64 d] t']), (7, .int .i64 xs.length), (8, .int .i64 i)], fun _ => [], fun i => xs.length - i, ⟨0, id, Nat.zero_le _, rfl, ⟨rfl, rfl, rfl, rfl, trivial⟩, trivial⟩, fun i hi => ?_⟩
    conv => whnf
    (refine br_intro (fun h => ?_) (fun h => ?_) <;> (conv => whnf))
    · have h : i < xs.length := by simp at h; omega
      repeat (first
        | (refine ⟨⟨by kernel_rfl, by kernel_rfl⟩, ?_⟩; conv => whnf)
        | (refine And.intro (by first | omega | (simp; done) | (simp; omega)) ?_; conv => whnf)
        | (refine Or.inl (And.intro (by omega) ?_); conv => whnf)
        | (refine Exists.intro _ (And.intro (iWay1 (r := xs.getD i RK.nb.z)) ?_); conv => whnf))
      (refine br_intro (fun hs => ?_) (fun hs => ?_) <;> (conv => whnf))
      · have hs : ((xs.getD i RK.nb.z).1 == d) = true := hs
        have : ¬ i < k := fun hlt => by have := allN_iff.1 hak i hlt; simp only [hs] at this; cases this
        have : i = k := by omega
        subst this
        all_goals (try (conv => whnf))
        all_goals (repeat' (first | exact True.intro | (refine And.intro ?_ ?_ <;> (conv => whnf))))
        all_goals (first | rfl | (simp_all []; done) | (simp only [cond_true, cond_false, Bool.and_true, Bool.true_and, Bool.and_false, Bool.false_and]; rfl) | (simp_all []; omega))
      · have hs : ((xs.getD i RK.nb.z).1 == d) = false := hs
        have : i ≠ k := fun e => by subst e; rw [hs] at hpk; cases hpk
        repeat (first
          | (refine ⟨⟨by kernel_rfl, by kernel_rfl⟩, ?_⟩; conv => whnf)
          | (refine And.intro (by first | omega | (simp; done) | (simp; omega)) ?_; conv => whnf)
          | (refine Or.inl (And.intro (by omega) ?_); conv => whnf))
        refine ⟨i + 1, id, ⟨by omega, by dsimp only; omega⟩, rfl, ⟨rfl, rfl, rfl, rfl, trivial⟩, trivial⟩
    · exfalso; simp at h; omega
  · have hall : ∀ i, i ≤ xs.length → allN (fun j => !((xs.getD j RK.nb.z).1 == d)) i = true := by
      intro i
      induction i with
      | zero => intro _; rfl
      | succ i ih =>
        intro hi
        have ih := ih (by omega)
        rw [allN, ih, Bool.true_and]
        cases hp : (!((xs.getD i RK.nb.z).1 == d)) with
        | true => rfl
        | false => exact absurd ⟨i, by omega, hp, ih⟩ hex
    refine ⟨-1, ?_, by rw [hall _ (Nat.le_refl _)]; simp⟩
    refine Does.of_awp (X := cx 19) Try.func80 rfl (by kernel_rfl) rfl (by simp [cx]) [] rfl ?_
    conv => whnf
    refine ⟨Nat, fun i => i ≤ xs.length, fun i => [(0, .sli .nb xs t), (1, .fn 52 [.ref [.int .i64 d] t']), (7, .int .i64 xs.length), (8, .int .i64 i)], fun _ => [], fun i => xs.length - i, ⟨0, id, Nat.zero_le _, rfl, ⟨rfl, rfl, rfl, rfl, trivial⟩, trivial⟩, fun i hi => ?_⟩
    conv => whnf
    (refine br_intro (fun h => ?_) (fun h => ?_) <;> (conv => whnf))
    · have h : i < xs.length := by simp at h; omega
      repeat (first
        | (refine ⟨⟨by kernel_rfl, by kernel_rfl⟩, ?_⟩; conv => whnf)
        | (refine And.intro (by first | omega | (simp; done) | (simp; omega)) ?_; conv => whnf)
        | (refine Or.inl (And.intro (by omega) ?_); conv => whnf)
        | (refine Exists.intro _ (And.intro (iWay1 (r := xs.getD i RK.nb.z)) ?_); conv => whnf))
      (refine br_intro (fun hs => ?_) (fun hs => ?_) <;> (conv => whnf))
      · have hs : ((xs.getD i RK.nb.z).1 == d) = true := hs
        have := allN_iff.1 (hall _ (Nat.le_refl _)) i h
        simp only [hs] at this; cases this
      · repeat (first
          | (refine ⟨⟨by kernel_rfl, by kernel_rfl⟩, ?_⟩; conv => whnf)
          | (refine And.intro (by first | omega | (simp; done) | (simp; omega)) ?_; conv => whnf)
          | (refine Or.inl (And.intro (by omega) ?_); conv => whnf))
        refine ⟨i + 1, id, ⟨h, by dsimp only; omega⟩, rfl, ⟨rfl, rfl, rfl, rfl, trivial⟩, trivial⟩
theorem any_allN {xs : List (Int × Nat)} {d : Int} : (!allN (fun j => !((xs.getD j RK.nb.z).1 == d)) xs.length) = xs.any fun r => r.1 == d := by
  rw [allN_list (fun r : Int × Nat => !(r.1 == d)) xs RK.nb.z, ← List.not_any_eq_all_not, Bool.not_not]
theorem xContainsFuncN {xs : List (Int × Nat)} {t t' : AV} {d : Int} (hn : xs.length ≤ 1048576) :
    Does Try.prog 51 [.sli .nb xs t, .fn 52 [.ref [.int .i64 d] t']] (.bool (xs.any fun r => r.1 == d)) := by
  obtain ⟨n, h1, h2⟩ := xIndexFuncN (t := .sli .nb xs t) (t' := .ref [.int .i64 d] t') (d := d) hn
  rw [← any_allN, ← h2]
  clear h2
  refine Does.of_awp (X := cx 9) Try.func51 rfl (by kernel_rfl) rfl (by simp [cx]) [] rfl ?_
  conv => whnf
  repeat (first
    | (refine ⟨⟨by kernel_rfl, by kernel_rfl⟩, ?_⟩; conv => whnf)
    | (refine And.intro (by first | omega | (simp; done) | (simp; omega)) ?_; conv => whnf)
    | (refine Or.inl (And.intro (by omega) ?_); conv => whnf)
    | (refine Exists.intro _ (And.intro (h1) ?_); conv => whnf))
  all_goals (try (conv => whnf))
  all_goals (repeat' (first | exact True.intro | (refine And.intro ?_ ?_ <;> (conv => whnf))))
  all_goals (first | rfl | (simp_all []; done) | (simp only [cond_true, cond_false, Bool.and_true, Bool.true_and, Bool.and_false, Bool.false_and]; rfl) | (simp_all []; omega))

end Go.Proofs.Ytngmlbeafdaolaa
