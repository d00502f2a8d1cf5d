/- What each function of this seat does (Rsn). Printed from templates of this seat's own. -/
import Derived.Test.YtddedcedkpigkaaSnw
namespace Go.Proofs.Ytddedcedkpigkaa
open Go.Ax Go.Bx
set_option maxRecDepth 8000
set_option linter.unusedSimpArgs false
set_option linter.unusedVariables false
section
variable (a b c d : Nat) (fs ws : List Nat) (tick : Nat)
noncomputable def snSt : Nat → Nat × Nat
  | 0 => (c, d)
  | n + 1 => (snC a (snSt n).1 (fs.getD n 0) (ws.getD n 0) tick, snD a b (snSt n).1 (snSt n).2 (fs.getD n 0) (ws.getD n 0) tick)
noncomputable def snOkAt (n : Nat) : Bool := snOk a b (snSt a b c d fs ws tick n).1 (snSt a b c d fs ws tick n).2 (fs.getD n 0) (ws.getD n 0) tick
noncomputable def snRunAt (n : Nat) : Nat := snR a b (snSt a b c d fs ws tick n).1 (snSt a b c d fs ws tick n).2 (fs.getD n 0) (ws.getD n 0) tick
noncomputable def rsOk : Bool := snV a b c d && rainB fs && decide (ws.length = fs.length) && finL ws && above tick && allN (snOkAt a b c d fs ws tick) fs.length
noncomputable def rsO : List Nat := bif rsOk a b c d fs ws tick then tabN (snRunAt a b c d fs ws tick) fs.length else []
noncomputable def rsR : AV := .tup [.agg [.flt .f32 (sel (rsOk a b c d fs ws tick) a), .flt .f32 (sel (rsOk a b c d fs ws tick) b), .flt .f32 (sel (rsOk a b c d fs ws tick) (snSt a b c d fs ws tick fs.length).1), .flt .f32 (sel (rsOk a b c d fs ws tick) (snSt a b c d fs ws tick fs.length).2)], .own 0 .f32 (rsO a b c d fs ws tick), .bool (rsOk a b c d fs ws tick)]
end
theorem rsO_len (a b c d : Nat) (fs ws : List Nat) (tick : Nat) (hn : fs.length ≤ 1048576) : (rsO a b c d fs ws tick).length ≤ 1048576 := by
  unfold rsO
  cases rsOk a b c d fs ws tick
  · exact Nat.zero_le _
  · rw [cond_true, tabN_len]; exact hn

theorem rain_least {fs : List Nat} (h : rainB fs = true) {i : Nat} (hi : i < fs.length) : least (fs.getD i 0) = true := by
  simp only [rainB, Bool.and_eq_true] at h
  exact allN_iff.1 h.2 i hi

theorem iRunSnow {a b c d tick : Nat} {fs ws : List Nat} {t t' : AV} (hn : fs.length ≤ 1048576) (hn' : ws.length ≤ 1048576) : Does Try.prog 10 [.agg [.flt .f32 a, .flt .f32 b, .flt .f32 c, .flt .f32 d], .sli .f32 fs t, .sli .f32 ws t', .flt .f32 tick] (rsR a b c d fs ws tick) := by
  refine Does.of_awp (X := cx 74) Try.func10 rfl (by kernel_rfl) rfl (by simp [cx]) [172] rfl ?_
  conv => whnf
  repeat (first
    | (refine ⟨⟨by kernel_rfl, by kernel_rfl⟩, ?_⟩; conv => whnf)
    | (refine And.intro (by first | omega | (simp; done) | (simp; omega)) ?_; conv => whnf)
    | (refine Or.inl (And.intro (by omega) ?_); conv => whnf)
    | (refine Exists.intro _ (And.intro (iSnow) ?_); conv => whnf)
    | (refine Exists.intro _ (And.intro (iIsRain (by first | omega | (simp; done) | (simp; omega))) ?_); conv => whnf)
    | (refine Exists.intro _ (And.intro (iFinL (by first | omega | (simp; done) | (simp; omega))) ?_); conv => whnf)
    | (refine Exists.intro _ (And.intro (iLength) ?_); conv => whnf))
  (refine br_intro (fun g1 => ?_) (fun g1 => ?_) <;> (conv => whnf))
  · all_goals (try (conv => whnf))
    all_goals (repeat' (first | exact True.intro | (refine And.intro ?_ ?_ <;> (conv => whnf))))
    all_goals (first | rfl | (simp_all [rsR, rsOk, rsO, sel]; done) | (simp only [rsR, rsOk, rsO, sel, cond_true, cond_false, Bool.and_true, Bool.true_and, Bool.and_false, Bool.false_and]; rfl) | (simp_all [rsR, rsOk, rsO, sel]; omega))
  repeat (first
    | (refine ⟨⟨by kernel_rfl, by kernel_rfl⟩, ?_⟩; conv => whnf)
    | (refine And.intro (by first | omega | (simp; done) | (simp; omega)) ?_; conv => whnf)
    | (refine Or.inl (And.intro (by omega) ?_); conv => whnf)
    | (refine Exists.intro _ (And.intro (iSnow) ?_); conv => whnf)
    | (refine Exists.intro _ (And.intro (iIsRain (by first | omega | (simp; done) | (simp; omega))) ?_); conv => whnf)
    | (refine Exists.intro _ (And.intro (iFinL (by first | omega | (simp; done) | (simp; omega))) ?_); conv => whnf)
    | (refine Exists.intro _ (And.intro (iLength) ?_); conv => whnf))
  (refine br_intro (fun g2 => ?_) (fun g2 => ?_) <;> (conv => whnf))
  · all_goals (try (conv => whnf))
    all_goals (repeat' (first | exact True.intro | (refine And.intro ?_ ?_ <;> (conv => whnf))))
    all_goals (first | rfl | (simp_all [rsR, rsOk, rsO, sel]; done) | (simp only [rsR, rsOk, rsO, sel, cond_true, cond_false, Bool.and_true, Bool.true_and, Bool.and_false, Bool.false_and]; rfl) | (simp_all [rsR, rsOk, rsO, sel]; omega))
  repeat (first
    | (refine ⟨⟨by kernel_rfl, by kernel_rfl⟩, ?_⟩; conv => whnf)
    | (refine And.intro (by first | omega | (simp; done) | (simp; omega)) ?_; conv => whnf)
    | (refine Or.inl (And.intro (by omega) ?_); conv => whnf)
    | (refine Exists.intro _ (And.intro (iSnow) ?_); conv => whnf)
    | (refine Exists.intro _ (And.intro (iIsRain (by first | omega | (simp; done) | (simp; omega))) ?_); conv => whnf)
    | (refine Exists.intro _ (And.intro (iFinL (by first | omega | (simp; done) | (simp; omega))) ?_); conv => whnf)
    | (refine Exists.intro _ (And.intro (iLength) ?_); conv => whnf))
  (refine br_intro (fun g3 => ?_) (fun g3 => ?_) <;> (conv => whnf))
  · have g3 : ws.length ≠ fs.length := by simp at g3; omega
    all_goals (try (conv => whnf))
    all_goals (repeat' (first | exact True.intro | (refine And.intro ?_ ?_ <;> (conv => whnf))))
    all_goals (first | rfl | (simp_all [rsR, rsOk, rsO, sel]; done) | (simp only [rsR, rsOk, rsO, sel, cond_true, cond_false, Bool.and_true, Bool.true_and, Bool.and_false, Bool.false_and]; rfl) | (simp_all [rsR, rsOk, rsO, sel]; omega))
  repeat (first
    | (refine ⟨⟨by kernel_rfl, by kernel_rfl⟩, ?_⟩; conv => whnf)
    | (refine And.intro (by first | omega | (simp; done) | (simp; omega)) ?_; conv => whnf)
    | (refine Or.inl (And.intro (by omega) ?_); conv => whnf)
    | (refine Exists.intro _ (And.intro (iSnow) ?_); conv => whnf)
    | (refine Exists.intro _ (And.intro (iIsRain (by first | omega | (simp; done) | (simp; omega))) ?_); conv => whnf)
    | (refine Exists.intro _ (And.intro (iFinL (by first | omega | (simp; done) | (simp; omega))) ?_); conv => whnf)
    | (refine Exists.intro _ (And.intro (iLength) ?_); conv => whnf))
  (refine br_intro (fun g4 => ?_) (fun g4 => ?_) <;> (conv => whnf))
  · all_goals (try (conv => whnf))
    all_goals (repeat' (first | exact True.intro | (refine And.intro ?_ ?_ <;> (conv => whnf))))
    all_goals (first | rfl | (simp_all [rsR, rsOk, rsO, sel]; done) | (simp only [rsR, rsOk, rsO, sel, cond_true, cond_false, Bool.and_true, Bool.true_and, Bool.and_false, Bool.false_and]; rfl) | (simp_all [rsR, rsOk, rsO, sel]; omega))
  repeat (first
    | (refine ⟨⟨by kernel_rfl, by kernel_rfl⟩, ?_⟩; conv => whnf)
    | (refine And.intro (by first | omega | (simp; done) | (simp; omega)) ?_; conv => whnf)
    | (refine Or.inl (And.intro (by omega) ?_); conv => whnf)
    | (refine Exists.intro _ (And.intro (iSnow) ?_); conv => whnf)
    | (refine Exists.intro _ (And.intro (iIsRain (by first | omega | (simp; done) | (simp; omega))) ?_); conv => whnf)
    | (refine Exists.intro _ (And.intro (iFinL (by first | omega | (simp; done) | (simp; omega))) ?_); conv => whnf)
    | (refine Exists.intro _ (And.intro (iLength) ?_); conv => whnf))
  (refine br_intro (fun g5 => ?_) (fun g5 => ?_) <;> (conv => whnf))
  · all_goals (try (conv => whnf))
    all_goals (repeat' (first | exact True.intro | (refine And.intro ?_ ?_ <;> (conv => whnf))))
    all_goals (first | rfl | (simp_all [rsR, rsOk, rsO, sel]; done) | (simp only [rsR, rsOk, rsO, sel, cond_true, cond_false, Bool.and_true, Bool.true_and, Bool.and_false, Bool.false_and]; rfl) | (simp_all [rsR, rsOk, rsO, sel]; omega))
  have g1 : snV a b c d = true := by simpa using g1
  have g2 : rainB fs = true := by simpa using g2
  have g3 : ws.length = fs.length := by simp at g3; omega
  have g4 : finL ws = true := by simpa using g4
  have g5 : above tick = true := by simpa using g5
  have l1 := rain_len g2
  repeat (first
    | (refine ⟨⟨by kernel_rfl, by kernel_rfl⟩, ?_⟩; conv => whnf)
    | (refine And.intro (by first | omega | (simp; done) | (simp; omega)) ?_; conv => whnf)
    | (refine Or.inl (And.intro (by omega) ?_); conv => whnf))
  refine ⟨Nat, fun i => i ≤ fs.length ∧ allN (snOkAt a b c d fs ws tick) i = true ∧ snV a b (snSt a b c d fs ws tick i).1 (snSt a b c d fs ws tick i).2 = true, fun i => [(1, .sli .f32 fs t), (2, .sli .f32 ws t'), (3, .flt .f32 tick), (4, .loc 16 0), (8, .loc 32 0), (11, .osl 172), (44, .sli .f32 fs t), (45, .int .i64 fs.length), (46, .int .i64 i)], fun i => [(16, .av [.flt .f32 a, .flt .f32 b, .flt .f32 (snSt a b c d fs ws tick i).1, .flt .f32 (snSt a b c d fs ws tick i).2]), (32, .av [.flt .f32 (canon .f32 0), .flt .f32 (canon .f32 0), .flt .f32 (canon .f32 0), .flt .f32 (canon .f32 0)]), (172, .tab .f32 (tabN (snRunAt a b c d fs ws tick) i))], fun i => fs.length - i, ⟨0, id, ⟨Nat.zero_le _, rfl, g1⟩, rfl, ⟨rfl, rfl, rfl, rfl, rfl, rfl, rfl, rfl, rfl, trivial⟩, ⟨rfl, rfl, rfl, trivial⟩⟩, fun i hi => ?_⟩
  obtain ⟨hi, hA, hV⟩ := hi
  conv => whnf
  (refine br_intro (fun h => ?_) (fun h => ?_) <;> (conv => whnf))
  · have h : i < fs.length := by simp at h; omega
    have h' : i < ws.length := by omega
    have e := iStepSnow hV (rain_least g2 h) (allN_iff.1 g4 i h') g5
    cases hok : snOkAt a b c d fs ws tick i with
    | true =>
      unfold snOkAt at hok
      rw [snStep, hok] at e
      simp only [sel, cond_true] at e
      repeat (first
        | (refine ⟨⟨by kernel_rfl, by kernel_rfl⟩, ?_⟩; conv => whnf)
        | (refine And.intro (by first | omega | (simp; done) | (simp; omega)) ?_; conv => whnf)
        | (refine Or.inl (And.intro (by omega) ?_); conv => whnf)
        | (refine Exists.intro _ (And.intro (e) ?_); conv => whnf))
      refine ⟨i + 1, ren [(172, 280)], ⟨⟨h, by simp only [allN, hA, Bool.true_and]; exact hok, by simp [snOk] at hok; exact hok.1⟩, by dsimp only; omega⟩, rfl, ⟨rfl, rfl, rfl, rfl, rfl, rfl, rfl, rfl, rfl, trivial⟩, ⟨rfl, rfl, rfl, trivial⟩⟩
    | false =>
      have ho := allN_false h hok
      unfold snOkAt at hok
      rw [snStep, hok] at e
      simp only [sel, cond_false] at e
      repeat (first
        | (refine ⟨⟨by kernel_rfl, by kernel_rfl⟩, ?_⟩; conv => whnf)
        | (refine And.intro (by first | omega | (simp; done) | (simp; omega)) ?_; conv => whnf)
        | (refine Or.inl (And.intro (by omega) ?_); conv => whnf)
        | (refine Exists.intro _ (And.intro (e) ?_); conv => whnf))
      have : rsOk a b c d fs ws tick = false := by simp [rsOk, ho]
      all_goals (try (conv => whnf))
      all_goals (repeat' (first | exact True.intro | (refine And.intro ?_ ?_ <;> (conv => whnf))))
      all_goals (first | rfl | (simp_all [rsR, rsO, sel]; done) | (simp only [rsR, rsO, sel, cond_true, cond_false, Bool.and_true, Bool.true_and, Bool.and_false, Bool.false_and]; rfl) | (simp_all [rsR, rsO, sel]; omega))
  · have h : i = fs.length := by simp at h; omega
    subst h
    have : rsOk a b c d fs ws tick = true := by simp [rsOk, hA, g1, g2, g3, g4, g5]
    repeat (first
      | (refine ⟨⟨by kernel_rfl, by kernel_rfl⟩, ?_⟩; conv => whnf)
      | (refine And.intro (by first | omega | (simp; done) | (simp; omega)) ?_; conv => whnf)
      | (refine Or.inl (And.intro (by omega) ?_); conv => whnf))
    all_goals (try (conv => whnf))
    all_goals (repeat' (first | exact True.intro | (refine And.intro ?_ ?_ <;> (conv => whnf))))
    all_goals (first | rfl | (simp_all [rsR, rsO, sel]; done) | (simp only [rsR, rsO, sel, cond_true, cond_false, Bool.and_true, Bool.true_and, Bool.and_false, Bool.false_and]; rfl) | (simp_all [rsR, rsO, sel]; omega))

end Go.Proofs.Ytddedcedkpigkaa
