/- What each function of this seat does (Nr5). Printed from templates of this seat's own. -/
import Derived.Test.YtnepjbnoaemmdaaZu
namespace Go.Proofs.Ytnepjbnoaemmdaa
open Go.Ax Go.Bx
set_option maxRecDepth 8000
set_option linter.unusedSimpArgs false
set_option linter.unusedVariables false
/-! The longest dry run. -/
section
variable (xs : List Nat) (lv : Nat)
noncomputable def dyD (i : Nat) : Bool := fcmp .leq .f32 (xs.getD i 0) lv
/-- Where the run that is open begins; where the longest begins, and how long it is. -/
noncomputable def dyF : Nat → Nat
  | 0 => 0
  | i + 1 => bif dyD xs lv i then dyF i else i + 1
noncomputable def dyR : Nat → Nat × Nat
  | 0 => (0, 0)
  | i + 1 => bif dyD xs lv i && decide ((dyR i).2 < i + 1 - dyF xs lv i) then (dyF xs lv i, i + 1 - dyF xs lv i) else dyR i
end
section
variable {xs : List Nat} {lv : Nat}
theorem dyF_le : ∀ i, dyF xs lv i ≤ i
  | 0 => Nat.le_refl _
  | i + 1 => by
    have := dyF_le i
    rw [dyF]
    cases dyD xs lv i
    · exact Nat.le_refl _
    · show dyF xs lv i ≤ _; omega
theorem dyF_dry : ∀ i j, dyF xs lv i ≤ j → j < i → dyD xs lv j = true
  | 0, j, _, h => absurd h (by omega)
  | i + 1, j, h1, h2 => by
    rw [dyF] at h1
    cases hd : dyD xs lv i with
    | false => rw [hd] at h1; have h1 : i + 1 ≤ j := h1; omega
    | true =>
      rw [hd] at h1
      have h1 : dyF xs lv i ≤ j := h1
      by_cases e : j = i
      · rw [e]; exact hd
      · exact dyF_dry i j h1 (by omega)
theorem dyR_facts : ∀ i, (dyR xs lv i).1 + (dyR xs lv i).2 ≤ i ∧ (∀ j, (dyR xs lv i).1 ≤ j → j < (dyR xs lv i).1 + (dyR xs lv i).2 → dyD xs lv j = true) ∧ (∀ j, j ≤ i → j - dyF xs lv j ≤ (dyR xs lv i).2 ∧ (j - dyF xs lv j = (dyR xs lv i).2 → 0 < (dyR xs lv i).2 → (dyR xs lv i).1 ≤ dyF xs lv j))
  | 0 => ⟨Nat.le_refl _, fun j _ h => absurd h (by show ¬ j < 0 + 0; omega), fun j hj => by
      obtain rfl : j = 0 := by omega
      exact ⟨Nat.le_refl _, fun _ _ => Nat.le_refl _⟩⟩
  | i + 1 => by
    obtain ⟨h1, h2, h3⟩ := dyR_facts i
    have hf := dyF_le (xs := xs) (lv := lv) i
    rw [dyR]
    cases hc : dyD xs lv i && decide ((dyR xs lv i).2 < i + 1 - dyF xs lv i) with
    | true =>
      rw [Bool.and_eq_true, decide_eq_true_eq] at hc
      obtain ⟨hd, hlt⟩ := hc
      have eF : dyF xs lv (i + 1) = dyF xs lv i := by rw [dyF, hd]; rfl
      rw [cond_true]
      refine ⟨by dsimp only; omega, fun j g1 g2 => ?_, fun j hj => ?_⟩
      · dsimp only at g1 g2
        by_cases e : j = i
        · rw [e]; exact hd
        · exact dyF_dry i j g1 (by omega)
      · dsimp only
        by_cases e : j = i + 1
        · subst e
          rw [eF]
          exact ⟨Nat.le_refl _, fun _ _ => Nat.le_refl _⟩
        · have := (h3 j (by omega)).1
          exact ⟨by omega, fun g _ => by omega⟩
    | false =>
      rw [cond_false]
      refine ⟨by omega, h2, fun j hj => ?_⟩
      by_cases e : j = i + 1
      · subst e
        rw [dyF]
        cases hd : dyD xs lv i with
        | false => rw [cond_false]; exact ⟨by omega, fun g g0 => by omega⟩
        | true =>
          rw [hd, Bool.true_and, decide_eq_false_iff_not] at hc
          rw [cond_true]
          exact ⟨by omega, fun g g0 => by omega⟩
      · exact h3 j (by omega)
end

theorem iDryRun {xs : List Nat} {lv : Nat} {t : AV} (hr : rainB xs = true) : Does Try.prog 9 [.sli .f32 xs t, .flt .f32 lv] (.tup [.int .i64 ((dyR xs lv xs.length).1 : Int), .int .i64 ((dyR xs lv xs.length).2 : Int), .bool true]) := by
  have hn := rain_len hr
  have e1 : ∀ t, Does Try.prog 17 [.sli .f32 xs t] (.bool true) := fun t => hr ▸ iIsRain (by omega)
  refine Does.of_awp (X := cx 42) Try.func9 rfl (by kernel_rfl) rfl (by simp [cx]) [] rfl ?_
  conv => whnf
  repeat (first
    | (refine ⟨⟨by kernel_rfl, by kernel_rfl⟩, ?_⟩; conv => whnf)
    | (refine And.intro (by first | omega | (simp; done) | (simp; omega)) ?_; conv => whnf)
    | (refine Or.inl (And.intro (by omega) ?_); conv => whnf)
    | (refine Exists.intro _ (And.intro (e1 _) ?_); conv => whnf))
  refine ⟨Nat, fun i => i ≤ xs.length, fun i => [(1, .flt .f32 lv), (7, .int .i64 ((dyR xs lv i).1 : Int)), (8, .int .i64 ((dyR xs lv i).2 : Int)), (9, .int .i64 (dyF xs lv i : Int)), (15, .sli .f32 xs t), (16, .int .i64 xs.length), (17, .int .i64 i)], fun _ => [], fun i => xs.length - i, ⟨0, id, Nat.zero_le _, rfl, ⟨rfl, rfl, rfl, rfl, rfl, rfl, rfl, trivial⟩, trivial⟩, fun i hi => ?_⟩
  conv => whnf
  (refine br_intro (fun h => ?_) (fun h => ?_) <;> (conv => whnf))
  · have h : i < xs.length := by simp at h; omega
    have hf := dyF_le (xs := xs) (lv := lv) i
    obtain ⟨hb, _⟩ := dyR_facts (xs := xs) (lv := lv) i
    repeat (first
      | (refine ⟨⟨by kernel_rfl, by kernel_rfl⟩, ?_⟩; conv => whnf)
      | (refine And.intro (by first | omega | (simp; done) | (simp; omega)) ?_; conv => whnf)
      | (refine Or.inl (And.intro (by omega) ?_); conv => whnf))
    (refine br_intro (fun g => ?_) (fun g => ?_) <;> (conv => whnf))
    · have g : dyD xs lv i = false := by
        have : (!dyD xs lv i) = true := g
        simpa using this
      have eF : dyF xs lv (i + 1) = i + 1 := by rw [dyF, g]; rfl
      have eB : dyR xs lv (i + 1) = dyR xs lv i := by rw [dyR, g]; rfl
      repeat (first
        | (refine ⟨⟨by kernel_rfl, by kernel_rfl⟩, ?_⟩; conv => whnf)
        | (refine And.intro (by first | omega | (simp; done) | (simp; omega)) ?_; conv => whnf)
        | (refine Or.inl (And.intro (by omega) ?_); conv => whnf))
      refine ⟨i + 1, id, ⟨h, by dsimp only; omega⟩, rfl, ⟨rfl, congrArg (AV.int .i64) (by rw [eB]), congrArg (AV.int .i64) (by rw [eB]), congrArg (AV.int .i64) (by rw [eF]; omega), rfl, rfl, rfl, trivial⟩, trivial⟩
    · have g : dyD xs lv i = true := by
        have : (!dyD xs lv i) = false := g
        simpa using this
      have eF : dyF xs lv (i + 1) = dyF xs lv i := by rw [dyF, g]; rfl
      repeat (first
        | (refine ⟨⟨by kernel_rfl, by kernel_rfl⟩, ?_⟩; conv => whnf)
        | (refine And.intro (by first | omega | (simp; done) | (simp; omega)) ?_; conv => whnf)
        | (refine Or.inl (And.intro (by omega) ?_); conv => whnf))
      (refine br_intro (fun g2 => ?_) (fun g2 => ?_) <;> (conv => whnf))
      · have g2 : (dyR xs lv i).2 < i + 1 - dyF xs lv i := by simp at g2; omega
        have eB : dyR xs lv (i + 1) = (dyF xs lv i, i + 1 - dyF xs lv i) := by rw [dyR, g, decide_eq_true g2]; rfl
        repeat (first
          | (refine ⟨⟨by kernel_rfl, by kernel_rfl⟩, ?_⟩; conv => whnf)
          | (refine And.intro (by first | omega | (simp; done) | (simp; omega)) ?_; conv => whnf)
          | (refine Or.inl (And.intro (by omega) ?_); conv => whnf))
        refine ⟨i + 1, id, ⟨h, by dsimp only; omega⟩, rfl, ⟨rfl, congrArg (AV.int .i64) (by rw [eB]), congrArg (AV.int .i64) (by rw [eB]; dsimp only; omega), congrArg (AV.int .i64) (by rw [eF]), rfl, rfl, rfl, trivial⟩, trivial⟩
      · have g2 : ¬ (dyR xs lv i).2 < i + 1 - dyF xs lv i := by simp at g2; omega
        have eB : dyR xs lv (i + 1) = dyR xs lv i := by rw [dyR, g, decide_eq_false g2]; rfl
        repeat (first
          | (refine ⟨⟨by kernel_rfl, by kernel_rfl⟩, ?_⟩; conv => whnf)
          | (refine And.intro (by first | omega | (simp; done) | (simp; omega)) ?_; conv => whnf)
          | (refine Or.inl (And.intro (by omega) ?_); conv => whnf))
        refine ⟨i + 1, id, ⟨h, by dsimp only; omega⟩, rfl, ⟨rfl, congrArg (AV.int .i64) (by rw [eB]), congrArg (AV.int .i64) (by rw [eB]), congrArg (AV.int .i64) (by rw [eF]), rfl, rfl, rfl, trivial⟩, trivial⟩
  · have h : i = xs.length := by simp at h; omega
    subst h
    repeat (first
      | (refine ⟨⟨by kernel_rfl, by kernel_rfl⟩, ?_⟩; conv => whnf)
      | (refine And.intro (by first | omega | (simp; done) | (simp; omega)) ?_; conv => whnf)
      | (refine Or.inl (And.intro (by omega) ?_); conv => whnf))
    all_goals (first | rfl | trivial)

end Go.Proofs.Ytnepjbnoaemmdaa
