/- What each function of this seat does (Stm). Printed from templates of this seat's own. -/
import Derived.Test.YtnepjbnoaemmdaaMrk
namespace Go.Proofs.Ytnepjbnoaemmdaa
open Go.Ax Go.Bx
set_option maxRecDepth 8000
set_option linter.unusedSimpArgs false
set_option linter.unusedVariables false
abbrev S4 := Nat × Nat × Nat × Nat
def stV (s : S4) : Bool := least s.1 && above s.2.1 && least s.2.2.1 && fcmp .gtr .f32 s.2.2.2 (canon .f32 0) && fcmp .lss .f32 s.2.2.2 (canon .f32 1065353216)
def z4 : S4 := (0, 0, 0, 0)
def stormsB (xs : List S4) : Bool := decide (xs.length ≤ 24) && allN (fun i => stV (xs.getD i z4)) xs.length
noncomputable def stT (s : S4) (at' : Nat) : Nat := fop .quo .f32 (fop .sub .f32 at' s.1) s.2.1
noncomputable def stF (s : S4) (at' : Nat) : Nat :=
  bif !fcmp .gtr .f32 (stT s at') (canon .f32 0) then canon .f32 0 else
  bif fcmp .geq .f32 (stT s at') (canon .f32 1065353216) then s.2.2.1 else
  bif fcmp .leq .f32 (stT s at') s.2.2.2 then fop .mul .f32 s.2.2.1 (fop .quo .f32 (fop .mul .f32 (stT s at') (stT s at')) s.2.2.2) else
  fop .mul .f32 s.2.2.1 (fop .sub .f32 (canon .f32 1065353216) (fop .quo .f32 (fop .mul .f32 (fop .sub .f32 (canon .f32 1065353216) (stT s at')) (fop .sub .f32 (canon .f32 1065353216) (stT s at'))) (fop .sub .f32 (canon .f32 1065353216) s.2.2.2)))

theorem sStormE {s : S4} {t : AV} : Does Try.prog 45 [.ref [.flt .f32 s.1, .flt .f32 s.2.1, .flt .f32 s.2.2.1, .flt .f32 s.2.2.2] t] (.bool (stV s)) := by
  refine Does.of_awp (X := cx 36) Try.func45 rfl (by kernel_rfl) rfl (by simp [cx]) [] rfl ?_
  conv => whnf
  repeat' (first
    | (refine br_intro (fun h => ?_) (fun h => ?_) <;> (conv => whnf))
    | (refine ⟨⟨by kernel_rfl, by kernel_rfl⟩, ?_⟩; conv => whnf)
    | (refine And.intro (by first | omega | (simp; done) | (simp; omega)) ?_; conv => whnf)
    | (refine Or.inl (And.intro (by omega) ?_); conv => whnf)
    | (refine Exists.intro _ (And.intro (sLeast) ?_); conv => whnf)
    | (refine Exists.intro _ (And.intro (sAbove) ?_); conv => whnf))
  all_goals (try (conv => whnf))
  all_goals (repeat' (first | exact True.intro | (refine And.intro ?_ ?_ <;> (conv => whnf))))
  all_goals (first | rfl | (simp_all [stV, RK.z, z4]; done) | (simp only [stV, RK.z, z4, cond_true, cond_false, Bool.and_true, Bool.true_and, Bool.and_false, Bool.false_and]; rfl) | (simp_all [stV, RK.z, z4]; omega))

theorem iStorm {s : S4} : Does Try.prog 13 [.agg [.flt .f32 s.1, .flt .f32 s.2.1, .flt .f32 s.2.2.1, .flt .f32 s.2.2.2]] (.bool (stV s)) := by
  refine Does.of_awp (X := cx 24) Try.func13 rfl (by kernel_rfl) rfl (by simp [cx]) [] rfl ?_
  conv => whnf
  repeat' (first
    | (refine br_intro (fun h => ?_) (fun h => ?_) <;> (conv => whnf))
    | (refine ⟨⟨by kernel_rfl, by kernel_rfl⟩, ?_⟩; conv => whnf)
    | (refine And.intro (by first | omega | (simp; done) | (simp; omega)) ?_; conv => whnf)
    | (refine Or.inl (And.intro (by omega) ?_); conv => whnf)
    | (refine Exists.intro _ (And.intro (iLeastL (by first | omega | (simp; done) | (simp; omega))) ?_); conv => whnf)
    | (refine Exists.intro _ (And.intro (iLength) ?_); conv => whnf))
  all_goals (try (conv => whnf))
  all_goals (repeat' (first | exact True.intro | (refine And.intro ?_ ?_ <;> (conv => whnf))))
  all_goals (first | rfl | (simp_all [stV, leastL, allN]; done) | (simp only [stV, leastL, allN, cond_true, cond_false, Bool.and_true, Bool.true_and, Bool.and_false, Bool.false_and]; rfl) | (simp_all [stV, leastL, allN]; omega))

theorem iFallen {s : S4} {a : Nat} : Does Try.prog 35 [.agg [.flt .f32 s.1, .flt .f32 s.2.1, .flt .f32 s.2.2.1, .flt .f32 s.2.2.2], .flt .f32 a] (.flt .f32 (stF s a)) := by
  refine Does.of_awp (X := cx 50) Try.func35 rfl (by kernel_rfl) rfl (by simp [cx]) [] rfl ?_
  conv => whnf
  repeat' (first
    | (refine br_intro (fun h => ?_) (fun h => ?_) <;> (conv => whnf))
    | (refine ⟨⟨by kernel_rfl, by kernel_rfl⟩, ?_⟩; conv => whnf)
    | (refine And.intro (by first | omega | (simp; done) | (simp; omega)) ?_; conv => whnf)
    | (refine Or.inl (And.intro (by omega) ?_); conv => whnf))
  all_goals (try (conv => whnf))
  all_goals (repeat' (first | exact True.intro | (refine And.intro ?_ ?_ <;> (conv => whnf))))
  all_goals (first | rfl | (simp_all [stF, stT]; done) | (simp only [stF, stT, cond_true, cond_false, Bool.and_true, Bool.true_and, Bool.and_false, Bool.false_and]; rfl) | (simp_all [stF, stT]; omega))

theorem iNotStorm {s : S4} : Does Try.prog 59 [.agg [.flt .f32 s.1, .flt .f32 s.2.1, .flt .f32 s.2.2.1, .flt .f32 s.2.2.2]] (.bool (!stV s)) := by
  refine Does.of_awp (X := cx 6) Try.func59 rfl (by kernel_rfl) rfl (by simp [cx]) [] rfl ?_
  conv => whnf
  repeat (first
    | (refine ⟨⟨by kernel_rfl, by kernel_rfl⟩, ?_⟩; conv => whnf)
    | (refine And.intro (by first | omega | (simp; done) | (simp; omega)) ?_; conv => whnf)
    | (refine Or.inl (And.intro (by omega) ?_); conv => whnf)
    | (refine Exists.intro _ (And.intro (iStorm (s := s)) ?_); conv => whnf))
  all_goals (try (conv => whnf))
  all_goals (repeat' (first | exact True.intro | (refine And.intro ?_ ?_ <;> (conv => whnf))))
  all_goals (first | rfl | (simp_all []; done) | (simp only [cond_true, cond_false, Bool.and_true, Bool.true_and, Bool.and_false, Bool.false_and]; rfl) | (simp_all []; omega))

theorem xIndexFuncS {xs : List S4} {t : AV} {f : FuncId} {p : S4 → Bool} (hn : xs.length ≤ 1048576) (hf : ∀ s : S4, Does Try.prog f [.agg [.flt .f32 s.1, .flt .f32 s.2.1, .flt .f32 s.2.2.1, .flt .f32 s.2.2.2]] (.bool (!p s))) :
    ∃ n : Int, Does Try.prog 70 [.sli .f4 xs t, .fn f []] (.int .i64 n) ∧ decide (n ≥ 0) = !allN (fun j => p (xs.getD j z4)) xs.length := by
  by_cases hex : ∃ i, i < xs.length ∧ p (xs.getD i z4) = false ∧ allN (fun j => p (xs.getD j z4)) i = true
  · obtain ⟨k, hk, hpk, hak⟩ := hex
    refine ⟨k, ?_, by rw [allN_false hk hpk]; simp⟩
    refine Does.of_awp (X := cx 19) Try.func70 rfl (by kernel_rfl) rfl (by simp [cx]) [] rfl ?_
    conv => whnf
    refine ⟨Nat, fun i => i ≤ k, fun i => [(0, .sli .f4 xs t), (1, .fn f []), (7, .int .i64 xs.length), (8, .int .i64 i)], fun _ => [], fun i => xs.length - i, ⟨0, id, Nat.zero_le _, rfl, ⟨rfl, rfl, rfl, rfl, trivial⟩, trivial⟩, fun i hi => ?_⟩
    conv => whnf
    (refine br_intro (fun h => ?_) (fun h => ?_) <;> (conv => whnf))
    · have h : i < xs.length := by simp at h; omega
      repeat (first
        | (refine ⟨⟨by kernel_rfl, by kernel_rfl⟩, ?_⟩; conv => whnf)
        | (refine And.intro (by first | omega | (simp; done) | (simp; omega)) ?_; conv => whnf)
        | (refine Or.inl (And.intro (by omega) ?_); conv => whnf)
        | (refine Exists.intro _ (And.intro (hf (xs.getD i z4)) ?_); conv => whnf))
      (refine br_intro (fun hs => ?_) (fun hs => ?_) <;> (conv => whnf))
      · have hs : p (xs.getD i z4) = false := by simpa using hs
        have : ¬ i < k := fun hlt => by rw [allN_iff.1 hak i hlt] at hs; cases hs
        have : i = k := by omega
        subst this
        all_goals (try (conv => whnf))
        all_goals (repeat' (first | exact True.intro | (refine And.intro ?_ ?_ <;> (conv => whnf))))
        all_goals (first | rfl | (simp_all []; done) | (simp only [cond_true, cond_false, Bool.and_true, Bool.true_and, Bool.and_false, Bool.false_and]; rfl) | (simp_all []; omega))
      · have hs : p (xs.getD i z4) = true := by simpa using hs
        have : i ≠ k := fun e => by subst e; rw [hpk] at hs; cases hs
        repeat (first
          | (refine ⟨⟨by kernel_rfl, by kernel_rfl⟩, ?_⟩; conv => whnf)
          | (refine And.intro (by first | omega | (simp; done) | (simp; omega)) ?_; conv => whnf)
          | (refine Or.inl (And.intro (by omega) ?_); conv => whnf))
        refine ⟨i + 1, id, ⟨by omega, by dsimp only; omega⟩, rfl, ⟨rfl, rfl, rfl, rfl, trivial⟩, trivial⟩
    · exfalso; simp at h; omega
  · have hall : ∀ i, i ≤ xs.length → allN (fun j => p (xs.getD j z4)) i = true := by
      intro i
      induction i with
      | zero => intro _; rfl
      | succ i ih =>
        intro hi
        have ih := ih (by omega)
        rw [allN, ih, Bool.true_and]
        cases hp : p (xs.getD i z4) with
        | true => rfl
        | false => exact absurd ⟨i, by omega, hp, ih⟩ hex
    refine ⟨-1, ?_, by rw [hall _ (Nat.le_refl _)]; simp⟩
    refine Does.of_awp (X := cx 19) Try.func70 rfl (by kernel_rfl) rfl (by simp [cx]) [] rfl ?_
    conv => whnf
    refine ⟨Nat, fun i => i ≤ xs.length, fun i => [(0, .sli .f4 xs t), (1, .fn f []), (7, .int .i64 xs.length), (8, .int .i64 i)], fun _ => [], fun i => xs.length - i, ⟨0, id, Nat.zero_le _, rfl, ⟨rfl, rfl, rfl, rfl, trivial⟩, trivial⟩, fun i hi => ?_⟩
    conv => whnf
    (refine br_intro (fun h => ?_) (fun h => ?_) <;> (conv => whnf))
    · have h : i < xs.length := by simp at h; omega
      repeat (first
        | (refine ⟨⟨by kernel_rfl, by kernel_rfl⟩, ?_⟩; conv => whnf)
        | (refine And.intro (by first | omega | (simp; done) | (simp; omega)) ?_; conv => whnf)
        | (refine Or.inl (And.intro (by omega) ?_); conv => whnf)
        | (refine Exists.intro _ (And.intro (hf (xs.getD i z4)) ?_); conv => whnf))
      (refine br_intro (fun hs => ?_) (fun hs => ?_) <;> (conv => whnf))
      · have hs : p (xs.getD i z4) = false := by simpa using hs
        have := allN_iff.1 (hall _ (Nat.le_refl _)) i h
        rw [hs] at this; cases this
      · repeat (first
          | (refine ⟨⟨by kernel_rfl, by kernel_rfl⟩, ?_⟩; conv => whnf)
          | (refine And.intro (by first | omega | (simp; done) | (simp; omega)) ?_; conv => whnf)
          | (refine Or.inl (And.intro (by omega) ?_); conv => whnf))
        refine ⟨i + 1, id, ⟨h, by dsimp only; omega⟩, rfl, ⟨rfl, rfl, rfl, rfl, trivial⟩, trivial⟩
theorem xContainsFuncS {xs : List S4} {t : AV} {f : FuncId} {p : S4 → Bool} (hf : ∀ s : S4, Does Try.prog f [.agg [.flt .f32 s.1, .flt .f32 s.2.1, .flt .f32 s.2.2.1, .flt .f32 s.2.2.2]] (.bool (!p s))) (hn : xs.length ≤ 1048576) :
    Does Try.prog 58 [.sli .f4 xs t, .fn f []] (.bool (!allN (fun j => p (xs.getD j z4)) xs.length)) := by
  obtain ⟨n, h1, h2⟩ := xIndexFuncS (t := .sli .f4 xs t) hn hf
  rw [← h2]
  refine Does.of_awp (X := cx 9) Try.func58 rfl (by kernel_rfl) rfl (by simp [cx]) [] rfl ?_
  conv => whnf
  repeat (first
    | (refine ⟨⟨by kernel_rfl, by kernel_rfl⟩, ?_⟩; conv => whnf)
    | (refine And.intro (by first | omega | (simp; done) | (simp; omega)) ?_; conv => whnf)
    | (refine Or.inl (And.intro (by omega) ?_); conv => whnf)
    | (refine Exists.intro _ (And.intro (h1) ?_); conv => whnf))
  all_goals (try (conv => whnf))
  all_goals (repeat' (first | exact True.intro | (refine And.intro ?_ ?_ <;> (conv => whnf))))
  all_goals (first | rfl | (simp_all []; done) | (simp only [cond_true, cond_false, Bool.and_true, Bool.true_and, Bool.and_false, Bool.false_and]; rfl) | (simp_all []; omega))

theorem iStorms {xs : List S4} {t : AV} (hn : xs.length ≤ 1048576) : Does Try.prog 38 [.sli .f4 xs t] (.bool (stormsB xs)) := by
  refine Does.of_awp (X := cx 11) Try.func38 rfl (by kernel_rfl) rfl (by simp [cx]) [] rfl ?_
  conv => whnf
  repeat' (first
    | (refine br_intro (fun h => ?_) (fun h => ?_) <;> (conv => whnf))
    | (refine ⟨⟨by kernel_rfl, by kernel_rfl⟩, ?_⟩; conv => whnf)
    | (refine And.intro (by first | omega | (simp; done) | (simp; omega)) ?_; conv => whnf)
    | (refine Or.inl (And.intro (by omega) ?_); conv => whnf)
    | (refine Exists.intro _ (And.intro (xContainsFuncS (fun s => iNotStorm (s := s)) (by first | omega | (simp; done) | (simp; omega))) ?_); conv => whnf))
  all_goals (try (conv => whnf))
  all_goals (repeat' (first | exact True.intro | (refine And.intro ?_ ?_ <;> (conv => whnf))))
  all_goals (first | rfl | (simp_all [stormsB]; done) | (simp only [stormsB, cond_true, cond_false, Bool.and_true, Bool.true_and, Bool.and_false, Bool.false_and]; rfl) | (simp_all [stormsB]; omega))

end Go.Proofs.Ytnepjbnoaemmdaa
