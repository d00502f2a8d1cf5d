/- What each function of this seat does (Rls). Printed from templates of this seat's own. -/
import Derived.Test.YtnepjbnoaemmdaaStm
import Derived.Test.YtnepjbnoaemmdaaBxA
namespace Go.Proofs.Ytnepjbnoaemmdaa
open Go.Ax Go.Bx
set_option maxRecDepth 8000
set_option linter.unusedSimpArgs false
set_option linter.unusedVariables false
noncomputable def rlT (step : Nat) (k : Int) : Nat := fop .mul .f32 (foi .f32 k) step
noncomputable def rlD (s : S4) (step : Nat) (r : Int) : Nat := fop .sub .f32 (stF s (rlT step (r + 1))) (stF s (rlT step r))
noncomputable def rlAt (xs : List S4) (step : Nat) (r : Int) : Nat → Nat
  | 0 => canon .f32 0
  | n + 1 => bif fcmp .gtr .f32 (rlD (xs.getD n z4) step r) (canon .f32 0) then fop .add .f32 (rlAt xs step r n) (rlD (xs.getD n z4) step r) else rlAt xs step r n
noncomputable def rlL (xs : List S4) (step : Nat) (n : Nat) : List Nat := tabN (fun r => rlAt xs step r xs.length) n
noncomputable def rlC (xs : List S4) (step : Nat) (n : Nat) : Bool := allN (fun r => fin (rlT step ((r : Int) + 1))) n && finL (rlL xs step n)
noncomputable def rlO (xs : List S4) (step : Nat) (n : Nat) : List Nat := bif rlC xs step n then rlL xs step n else []
theorem rlL_len (xs : List S4) (step n : Nat) : (rlL xs step n).length = n := tabN_len _ n

theorem rlAt_NN (xs : List S4) (step : Nat) (r : Int) : ∀ n, NN (rlAt xs step r n)
  | 0 => NN.zero
  | n + 1 => by
    unfold rlAt
    cases h : fcmp .gtr .f32 (rlD (xs.getD n z4) step r) (canon .f32 0) with
    | false => exact rlAt_NN xs step r n
    | true => exact add_NN (rlAt_NN xs step r n) (NN.gt (fop_lt _ _ _) h)
noncomputable def rnC (xs : List S4) (step : Nat) (n : Int) : Bool := stormsB xs && above step && inR n 0 128 && rlC xs step n.toNat
noncomputable def rnO (xs : List S4) (step : Nat) (n : Int) : List Nat := bif rnC xs step n then rlL xs step n.toNat else []
theorem rnO_len (xs : List S4) (step : Nat) (n : Int) : (rnO xs step n).length ≤ 128 := by
  unfold rnO
  cases h : rnC xs step n
  · exact Nat.zero_le _
  · rw [cond_true, rlL_len]
    simp [rnC, inR] at h
    omega


theorem iRainList {xs : List S4} {t : AV} {step : Nat} {n : Int} (hx : xs.length ≤ 1048576) : Does Try.prog 14 [.sli .f4 xs t, .flt .f32 step, .int .i64 n] (.tup [.own 0 .f32 (rnO xs step n), .bool (rnC xs step n)]) := by
  refine Does.of_awp (X := cx 76) Try.func14 rfl (by kernel_rfl) rfl (by simp [cx]) [116] rfl ?_
  conv => whnf
  repeat (first
    | (refine ⟨⟨by kernel_rfl, by kernel_rfl⟩, ?_⟩; conv => whnf)
    | (refine And.intro (by first | omega | (simp; done) | (simp; omega)) ?_; conv => whnf)
    | (refine Or.inl (And.intro (by omega) ?_); conv => whnf)
    | (refine Exists.intro _ (And.intro (iStorms (by first | omega | (simp; done) | (simp; omega))) ?_); conv => whnf))
  (refine br_intro (fun g1 => ?_) (fun g1 => ?_) <;> (conv => whnf))
  · have g1 : stormsB xs = false := by simpa using g1
    all_goals (try (conv => whnf))
    all_goals (repeat' (first | exact True.intro | (refine And.intro ?_ ?_ <;> (conv => whnf))))
    all_goals (first | rfl | (simp_all [rnO, rnC]; done) | (simp only [rnO, rnC, cond_true, cond_false, Bool.and_true, Bool.true_and, Bool.and_false, Bool.false_and]; rfl) | (simp_all [rnO, rnC]; omega))
  have g1 : stormsB xs = true := by simpa using g1
  repeat (first
    | (refine ⟨⟨by kernel_rfl, by kernel_rfl⟩, ?_⟩; conv => whnf)
    | (refine And.intro (by first | omega | (simp; done) | (simp; omega)) ?_; conv => whnf)
    | (refine Or.inl (And.intro (by omega) ?_); conv => whnf)
    | (refine Exists.intro _ (And.intro (iLength) ?_); conv => whnf))
  (refine br_intro (fun g2 => ?_) (fun g2 => ?_) <;> (conv => whnf))
  · have g2 : above step = false := by simpa using g2
    all_goals (try (conv => whnf))
    all_goals (repeat' (first | exact True.intro | (refine And.intro ?_ ?_ <;> (conv => whnf))))
    all_goals (first | rfl | (simp_all [rnO, rnC]; done) | (simp only [rnO, rnC, cond_true, cond_false, Bool.and_true, Bool.true_and, Bool.and_false, Bool.false_and]; rfl) | (simp_all [rnO, rnC]; omega))
  have g2 : above step = true := by simpa using g2
  repeat (first
    | (refine ⟨⟨by kernel_rfl, by kernel_rfl⟩, ?_⟩; conv => whnf)
    | (refine And.intro (by first | omega | (simp; done) | (simp; omega)) ?_; conv => whnf)
    | (refine Or.inl (And.intro (by omega) ?_); conv => whnf)
    | (refine Exists.intro _ (And.intro (iWithin) ?_); conv => whnf))
  (refine br_intro (fun g3 => ?_) (fun g3 => ?_) <;> (conv => whnf))
  · have g3 : inR n 0 128 = false := by simpa using g3
    all_goals (try (conv => whnf))
    all_goals (repeat' (first | exact True.intro | (refine And.intro ?_ ?_ <;> (conv => whnf))))
    all_goals (first | rfl | (simp_all [rnO, rnC]; done) | (simp only [rnO, rnC, cond_true, cond_false, Bool.and_true, Bool.true_and, Bool.and_false, Bool.false_and]; rfl) | (simp_all [rnO, rnC]; omega))
  have g3 : inR n 0 128 = true := by simpa using g3
  have g4 : 0 ≤ n ∧ n ≤ 128 := by simpa [inR] using g3
  have eC : rnC xs step n = rlC xs step n.toNat := by simp [rnC, g1, g2, g3]
  have eO : rnO xs step n = rlO xs step n.toNat := by simp [rnO, rlO, eC]
  rw [eC, eO]
  obtain ⟨n, rfl⟩ : ∃ m : Nat, n = m := ⟨n.toNat, by omega⟩
  have hn : n ≤ 128 := by omega
  rw [show ((n : Nat) : Int).toNat = n from by omega]
  clear g1 g2 g3 g4 eC eO
  repeat (first
    | (refine ⟨⟨by kernel_rfl, by kernel_rfl⟩, ?_⟩; conv => whnf)
    | (refine And.intro (by first | omega | (simp; done) | (simp; omega)) ?_; conv => whnf)
    | (refine Or.inl (And.intro (by omega) ?_); conv => whnf))
  refine ⟨Nat, fun i => i ≤ n ∧ allN (fun r => fin (rlT step ((r : Int) + 1))) i = true, fun i => [(0, .sli .f4 xs t), (1, .flt .f32 step), (8, .osl 116), (30, .int .i64 n), (31, .int .i64 i)], fun i => [(116, .tab .f32 (tabN (fun r => rlAt xs step r xs.length) i))], fun i => n - i, ⟨0, id, ⟨Nat.zero_le _, rfl⟩, rfl, ⟨rfl, rfl, rfl, rfl, rfl, trivial⟩, ⟨rfl, trivial⟩⟩, fun i hi => ?_⟩
  obtain ⟨hi, hA⟩ := hi
  conv => whnf
  (refine br_intro (fun h => ?_) (fun h => ?_) <;> (conv => whnf))
  · have h : i < n := by simp at h; omega
    repeat (first
      | (refine ⟨⟨by kernel_rfl, by kernel_rfl⟩, ?_⟩; conv => whnf)
      | (refine And.intro (by first | omega | (simp; done) | (simp; omega)) ?_; conv => whnf)
      | (refine Or.inl (And.intro (by omega) ?_); conv => whnf)
      | (refine Exists.intro _ (And.intro (iIsFinite) ?_); conv => whnf))
    (refine br_intro (fun h2 => ?_) (fun h2 => ?_) <;> (conv => whnf))
    · have h2 : (!fin (rlT step ((i : Int) + 1))) = true := h2
      have h2 : fin (rlT step ((i : Int) + 1)) = false := by simpa using h2
      have := allN_false (p := fun r : Nat => fin (rlT step ((r : Int) + 1))) h h2
      have hC : rlC xs step n = false := by simp [rlC, this]
      clear this hA
      all_goals (try (conv => whnf))
      all_goals (repeat' (first | exact True.intro | (refine And.intro ?_ ?_ <;> (conv => whnf))))
      all_goals (first | rfl | (simp_all [rlO, rlL, hC]; done) | (simp only [rlO, rlL, hC, cond_true, cond_false, Bool.and_true, Bool.true_and, Bool.and_false, Bool.false_and]; rfl) | (simp_all [rlO, rlL, hC]; omega))
    · have h2 : (!fin (rlT step ((i : Int) + 1))) = false := h2
      have h2 : fin (rlT step ((i : Int) + 1)) = true := by simpa using h2
      repeat (first
        | (refine ⟨⟨by kernel_rfl, by kernel_rfl⟩, ?_⟩; conv => whnf)
        | (refine And.intro (by first | omega | (simp; done) | (simp; omega)) ?_; conv => whnf)
        | (refine Or.inl (And.intro (by omega) ?_); conv => whnf))
      refine ⟨Nat, fun j => j ≤ xs.length, fun j => [(0, .sli .f4 xs t), (1, .flt .f32 step), (8, .osl 116), (9, .int .i64 i), (10, .flt .f32 (rlT step i)), (11, .flt .f32 (rlT step ((i : Int) + 1))), (12, .flt .f32 (rlAt xs step i j)), (30, .int .i64 n), (31, .int .i64 i), (46, .sli .f4 xs t), (47, .int .i64 xs.length), (48, .int .i64 j)], fun j => [(116, .tab .f32 (tabN (fun r => rlAt xs step r xs.length) i))], fun j => xs.length - j, ⟨0, id, Nat.zero_le _, rfl, ⟨rfl, rfl, rfl, rfl, rfl, rfl, rfl, rfl, rfl, rfl, rfl, rfl, trivial⟩, ⟨rfl, trivial⟩⟩, fun j hj => ?_⟩
      conv => whnf
      (refine br_intro (fun h3 => ?_) (fun h3 => ?_) <;> (conv => whnf))
      · have h3 : j < xs.length := by simp at h3; omega
        repeat (first
          | (refine ⟨⟨by kernel_rfl, by kernel_rfl⟩, ?_⟩; conv => whnf)
          | (refine And.intro (by first | omega | (simp; done) | (simp; omega)) ?_; conv => whnf)
          | (refine Or.inl (And.intro (by omega) ?_); conv => whnf)
          | (refine Exists.intro _ (And.intro (iFallen (s := xs.getD j z4)) ?_); conv => whnf))
        (refine br_intro (fun h4 => ?_) (fun h4 => ?_) <;> (conv => whnf))
        · have h4 : fcmp .gtr .f32 (rlD (xs.getD j z4) step i) (canon .f32 0) = true := h4
          repeat (first
            | (refine ⟨⟨by kernel_rfl, by kernel_rfl⟩, ?_⟩; conv => whnf)
            | (refine And.intro (by first | omega | (simp; done) | (simp; omega)) ?_; conv => whnf)
            | (refine Or.inl (And.intro (by omega) ?_); conv => whnf))
          refine ⟨j + 1, id, ⟨h3, by dsimp only; omega⟩, rfl, ⟨rfl, rfl, rfl, rfl, rfl, rfl, congrArg (AV.flt .f32) (by show _ = rlAt xs step i (j + 1); rw [rlAt, h4, cond_true]; rfl), rfl, rfl, rfl, rfl, rfl, trivial⟩, ⟨rfl, trivial⟩⟩
        · have h4 : fcmp .gtr .f32 (rlD (xs.getD j z4) step i) (canon .f32 0) = false := h4
          repeat (first
            | (refine ⟨⟨by kernel_rfl, by kernel_rfl⟩, ?_⟩; conv => whnf)
            | (refine And.intro (by first | omega | (simp; done) | (simp; omega)) ?_; conv => whnf)
            | (refine Or.inl (And.intro (by omega) ?_); conv => whnf))
          refine ⟨j + 1, id, ⟨h3, by dsimp only; omega⟩, rfl, ⟨rfl, rfl, rfl, rfl, rfl, rfl, congrArg (AV.flt .f32) (by show fop .add .f32 (rlAt xs step i j) (canon .f32 0) = rlAt xs step i (j + 1); rw [(rlAt_NN xs step i j).add0, rlAt, h4, cond_false]), rfl, rfl, rfl, rfl, rfl, trivial⟩, ⟨rfl, trivial⟩⟩
      · have h3 : j = xs.length := by simp at h3; omega
        subst h3
        repeat (first
          | (refine ⟨⟨by kernel_rfl, by kernel_rfl⟩, ?_⟩; conv => whnf)
          | (refine And.intro (by first | omega | (simp; done) | (simp; omega)) ?_; conv => whnf)
          | (refine Or.inl (And.intro (by omega) ?_); conv => whnf))
        refine ⟨i + 1, ren [(116, 280)], ⟨⟨h, by simp only [allN, hA, Bool.true_and]; exact h2⟩, by dsimp only; omega⟩, rfl, ⟨rfl, rfl, rfl, rfl, rfl, trivial⟩, ⟨rfl, trivial⟩⟩
  · have h : i = n := by simp at h; omega
    subst h
    repeat (first
      | (refine ⟨⟨by kernel_rfl, by kernel_rfl⟩, ?_⟩; conv => whnf)
      | (refine And.intro (by first | omega | (simp; done) | (simp; omega)) ?_; conv => whnf)
      | (refine Or.inl (And.intro (by omega) ?_); conv => whnf)
      | (refine Exists.intro _ (And.intro (iFinL (by first | omega | (simp; done) | (simp; omega))) ?_); conv => whnf))
    (refine br_intro (fun h6 => ?_) (fun h6 => ?_) <;> (conv => whnf))
    · have h6 : (!finL (rlL xs step i)) = true := h6
      have h6 : finL (rlL xs step i) = false := by simpa using h6
      have hC : rlC xs step i = false := by simp [rlC, h6]
      clear h6 hA
      all_goals (try (conv => whnf))
      all_goals (repeat' (first | exact True.intro | (refine And.intro ?_ ?_ <;> (conv => whnf))))
      all_goals (first | rfl | (simp_all [rlO, rlL, hC]; done) | (simp only [rlO, rlL, hC, cond_true, cond_false, Bool.and_true, Bool.true_and, Bool.and_false, Bool.false_and]; rfl) | (simp_all [rlO, rlL, hC]; omega))
    · have h6 : (!finL (rlL xs step i)) = false := h6
      have h6 : finL (rlL xs step i) = true := by simpa using h6
      have hC : rlC xs step i = true := by simp [rlC, h6, hA]
      clear h6 hA
      all_goals (try (conv => whnf))
      all_goals (repeat' (first | exact True.intro | (refine And.intro ?_ ?_ <;> (conv => whnf))))
      all_goals (first | rfl | (simp_all [rlO, rlL, hC]; done) | (simp only [rlO, rlL, hC, cond_true, cond_false, Bool.and_true, Bool.true_and, Bool.and_false, Bool.false_and]; rfl) | (simp_all [rlO, rlL, hC]; omega))

end Go.Proofs.Ytnepjbnoaemmdaa
