/- What each function of this seat does (Hil). Printed from templates of this seat's own. -/
import Derived.Test.YtagiajolklbbiaaMrk
namespace Go.Proofs.Ytagiajolklbbiaa
open Go.Ax Go.Bx
set_option maxRecDepth 8000
set_option linter.unusedSimpArgs false
set_option linter.unusedVariables false
def hillB (W H : Int) (xs : List Nat) : Bool := inR W 1 16 && inR H 1 16 && decide ((xs.length : Int) = W * H) && finL xs
def hillV (W H : Int) (xs : List Nat) (t : AV) : List AV := [.int .i64 W, .int .i64 H, .sli .f32 xs t]
theorem hill_len {W H : Int} {xs : List Nat} (h : hillB W H xs = true) : 1 ≤ W ∧ W ≤ 16 ∧ 1 ≤ H ∧ H ≤ 16 ∧ (xs.length : Int) = W * H ∧ 1 ≤ W * H ∧ W * H ≤ 256 := by
  simp [hillB, inR] at h
  obtain ⟨⟨⟨h1, h2⟩, h3⟩, _⟩ := h
  have h4 : 1 ≤ W * H := by
    have := Int.mul_le_mul h1.1 h2.1 (by omega) (by omega); omega
  have h5 : W * H ≤ 256 := by
    have := Int.mul_le_mul h1.2 h2.2 (by omega) (by omega); omega
  exact ⟨h1.1, h1.2, h2.1, h2.2, h3, h4, h5⟩

theorem iSides {W H : Int} : Does Try.prog 33 [.int .i64 W, .int .i64 H] (.bool (inR W 1 16 && inR H 1 16)) := by
  refine Does.of_awp (X := cx 11) Try.func33 rfl (by kernel_rfl) rfl (by simp [cx]) [] rfl ?_
  conv => whnf
  repeat' (first
    | (refine br_intro (fun h => ?_) (fun h => ?_) <;> (conv => whnf))
    | (refine ⟨⟨by kernel_rfl, by kernel_rfl⟩, ?_⟩; conv => whnf)
    | (refine And.intro (by first | omega | (simp; done) | (simp; omega)) ?_; conv => whnf)
    | (refine Or.inl (And.intro (by omega) ?_); conv => whnf)
    | (refine Exists.intro _ (And.intro (iWithin) ?_); conv => whnf))
  all_goals (try (conv => whnf))
  all_goals (repeat' (first | exact True.intro | (refine And.intro ?_ ?_ <;> (conv => whnf))))
  all_goals (first | rfl | (simp_all []; done) | (simp only [cond_true, cond_false, Bool.and_true, Bool.true_and, Bool.and_false, Bool.false_and]; rfl) | (simp_all []; omega))
theorem sides_mul {W H : Int} (h : (inR W 1 16 && inR H 1 16) = true) : (1 ≤ W ∧ W ≤ 16 ∧ 1 ≤ H ∧ H ≤ 16) ∧ 1 ≤ W * H ∧ W * H ≤ 256 := by
  simp [inR] at h
  obtain ⟨h1, h2⟩ := h
  have h4 : 1 ≤ W * H := by
    have := Int.mul_le_mul h1.1 h2.1 (by omega) (by omega); omega
  have h5 : W * H ≤ 256 := by
    have := Int.mul_le_mul h1.2 h2.2 (by omega) (by omega); omega
  exact ⟨⟨h1.1, h1.2, h2.1, h2.2⟩, h4, h5⟩

theorem iIs {W H : Int} {xs : List Nat} {t : AV} (hn : xs.length ≤ 1048576) : Does Try.prog 21 [.agg [.int .i64 W, .int .i64 H, .sli .f32 xs t]] (.bool (hillB W H xs)) := by
  refine Does.of_awp (X := cx 24) Try.func21 rfl (by kernel_rfl) rfl (by simp [cx]) [] rfl ?_
  conv => whnf
  repeat (first
    | (refine ⟨⟨by kernel_rfl, by kernel_rfl⟩, ?_⟩; conv => whnf)
    | (refine And.intro (by first | omega | (simp; done) | (simp; omega)) ?_; conv => whnf)
    | (refine Or.inl (And.intro (by omega) ?_); conv => whnf)
    | (refine Exists.intro _ (And.intro (iSides) ?_); conv => whnf))
  (refine br_intro (fun h1 => ?_) (fun h1 => ?_) <;> (conv => whnf))
  · obtain ⟨g1, g2, g3⟩ := sides_mul h1
    repeat (first
      | (refine ⟨⟨by kernel_rfl, by kernel_rfl⟩, ?_⟩; conv => whnf)
      | (refine And.intro (by first | omega | (simp; done) | (simp; omega)) ?_; conv => whnf)
      | (refine Or.inl (And.intro (by omega) ?_); conv => whnf))
    (refine br_intro (fun h2 => ?_) (fun h2 => ?_) <;> (conv => whnf))
    · repeat (first
        | (refine ⟨⟨by kernel_rfl, by kernel_rfl⟩, ?_⟩; conv => whnf)
        | (refine And.intro (by first | omega | (simp; done) | (simp; omega)) ?_; conv => whnf)
        | (refine Or.inl (And.intro (by omega) ?_); conv => whnf)
        | (refine Exists.intro _ (And.intro (iFinL (by first | omega | (simp; done) | (simp; omega))) ?_); conv => whnf))
      all_goals (try (conv => whnf))
      all_goals (repeat' (first | exact True.intro | (refine And.intro ?_ ?_ <;> (conv => whnf))))
      all_goals (first | rfl | (simp_all [hillB]; done) | (simp only [hillB, cond_true, cond_false, Bool.and_true, Bool.true_and, Bool.and_false, Bool.false_and]; rfl) | (simp_all [hillB]; omega))
    · have h2 : ¬ (xs.length : Int) = W * H := by simpa using h2
      all_goals (try (conv => whnf))
      all_goals (repeat' (first | exact True.intro | (refine And.intro ?_ ?_ <;> (conv => whnf))))
      all_goals (first | rfl | (simp_all [hillB]; done) | (simp only [hillB, cond_true, cond_false, Bool.and_true, Bool.true_and, Bool.and_false, Bool.false_and]; rfl) | (simp_all [hillB]; omega))
  · all_goals (try (conv => whnf))
    all_goals (repeat' (first | exact True.intro | (refine And.intro ?_ ?_ <;> (conv => whnf))))
    all_goals (first | rfl | (simp_all [hillB]; done) | (simp only [hillB, cond_true, cond_false, Bool.and_true, Bool.true_and, Bool.and_false, Bool.false_and]; rfl) | (simp_all [hillB]; omega))

theorem iGive {W H : Int} {xs : List Nat} {t : AV} (hn : xs.length ≤ 1048576) (h : hillB W H xs = true) : Does Try.prog 44 [.agg [.int .i64 W, .int .i64 H, .sli .f32 xs t]] (.tup [.agg [.int .i64 W, .int .i64 H, .sli .f32 xs t], .bool true]) := by
  refine Does.of_awp (X := cx 9) Try.func44 rfl (by kernel_rfl) rfl (by simp [cx]) [] rfl ?_
  conv => whnf
  repeat (first
    | (refine ⟨⟨by kernel_rfl, by kernel_rfl⟩, ?_⟩; conv => whnf)
    | (refine And.intro (by first | omega | (simp; done) | (simp; omega)) ?_; conv => whnf)
    | (refine Or.inl (And.intro (by omega) ?_); conv => whnf)
    | (refine Exists.intro _ (And.intro (iIs (by first | omega | (simp; done) | (simp; omega))) ?_); conv => whnf))
  rw [h]
  conv => whnf
  repeat (first
    | (refine ⟨⟨by kernel_rfl, by kernel_rfl⟩, ?_⟩; conv => whnf)
    | (refine And.intro (by first | omega | (simp; done) | (simp; omega)) ?_; conv => whnf)
    | (refine Or.inl (And.intro (by omega) ?_); conv => whnf))
  all_goals (try (conv => whnf))
  all_goals (repeat' (first | exact True.intro | (refine And.intro ?_ ?_ <;> (conv => whnf))))
  all_goals (first | rfl | (simp_all []; done) | (simp only [cond_true, cond_false, Bool.and_true, Bool.true_and, Bool.and_false, Bool.false_and]; rfl) | (simp_all []; omega))
theorem iGive' {W H : Int} {xs : List Nat} {t : AV} (hn : xs.length ≤ 1048576) (h : hillB W H xs = false) : Does Try.prog 44 [.agg [.int .i64 W, .int .i64 H, .sli .f32 xs t]] (.tup [.agg [.int .i64 0, .int .i64 0, .emp .f32], .bool false]) := by
  refine Does.of_awp (X := cx 9) Try.func44 rfl (by kernel_rfl) rfl (by simp [cx]) [] rfl ?_
  conv => whnf
  repeat (first
    | (refine ⟨⟨by kernel_rfl, by kernel_rfl⟩, ?_⟩; conv => whnf)
    | (refine And.intro (by first | omega | (simp; done) | (simp; omega)) ?_; conv => whnf)
    | (refine Or.inl (And.intro (by omega) ?_); conv => whnf)
    | (refine Exists.intro _ (And.intro (iIs (by first | omega | (simp; done) | (simp; omega))) ?_); conv => whnf))
  rw [h]
  conv => whnf
  repeat (first
    | (refine ⟨⟨by kernel_rfl, by kernel_rfl⟩, ?_⟩; conv => whnf)
    | (refine And.intro (by first | omega | (simp; done) | (simp; omega)) ?_; conv => whnf)
    | (refine Or.inl (And.intro (by omega) ?_); conv => whnf))
  all_goals (try (conv => whnf))
  all_goals (repeat' (first | exact True.intro | (refine And.intro ?_ ?_ <;> (conv => whnf))))
  all_goals (first | rfl | (simp_all []; done) | (simp only [cond_true, cond_false, Bool.and_true, Bool.true_and, Bool.and_false, Bool.false_and]; rfl) | (simp_all []; omega))

theorem xClone {xs : List Nat} {t : AV} (hn : xs.length ≤ 1048576) (h0 : 0 < xs.length) : Does Try.prog 43 [.sli .f32 xs t] (.own 0 .f32 xs) := by
  refine Does.of_awp (X := cx 8) Try.func43 rfl (by kernel_rfl) rfl (by simp [cx]) [28] rfl ?_
  conv => whnf
  repeat (first
    | (refine ⟨⟨by kernel_rfl, by kernel_rfl⟩, ?_⟩; conv => whnf)
    | (refine And.intro (by first | omega | (simp; done) | (simp; omega)) ?_; conv => whnf)
    | (refine Or.inl (And.intro (by omega) ?_); conv => whnf))
  all_goals (try (conv => whnf))
  all_goals (repeat' (first | exact True.intro | (refine And.intro ?_ ?_ <;> (conv => whnf))))
  all_goals (first | rfl | (simp_all []; done) | (simp only [cond_true, cond_false, Bool.and_true, Bool.true_and, Bool.and_false, Bool.false_and]; rfl) | (simp_all []; omega))

def setAt (cs : List Int) (N : Int) (i : Nat) : Bool := inR (cs.getD i 0) 0 (N - 1) && !(decide (0 < i) && decide (cs.getD i 0 ≤ cs.getD (i - 1) 0))
def isSetB (cs : List Int) (N : Int) : Bool := allN (setAt cs N) cs.length
theorem iSet {cs : List Int} {t : AV} {N : Int} (hn : cs.length ≤ 1048576) (hN : 0 ≤ N ∧ N ≤ 1048576) : Does Try.prog 42 [.sli (.int .i64) cs t, .int .i64 N] (.bool (isSetB cs N)) := by
  refine Does.of_awp (X := cx 33) Try.func42 rfl (by kernel_rfl) rfl (by simp [cx]) [] rfl ?_
  conv => whnf
  repeat (first
    | (refine ⟨⟨by kernel_rfl, by kernel_rfl⟩, ?_⟩; conv => whnf)
    | (refine And.intro (by first | omega | (simp; done) | (simp; omega)) ?_; conv => whnf)
    | (refine Or.inl (And.intro (by omega) ?_); conv => whnf))
  refine ⟨Nat, fun i => i ≤ cs.length ∧ allN (setAt cs N) i = true, fun i => [(0, .sli (.int .i64) cs t), (1, .int .i64 N), (7, .sli (.int .i64) cs t), (8, .int .i64 cs.length), (9, .int .i64 i)], fun _ => [], fun i => cs.length - i, ⟨0, id, ⟨Nat.zero_le _, rfl⟩, rfl, ⟨rfl, rfl, rfl, rfl, rfl, trivial⟩, trivial⟩, fun i hi => ?_⟩
  obtain ⟨hi, hA⟩ := hi
  conv => whnf
  (refine br_intro (fun h => ?_) (fun h => ?_) <;> (conv => whnf))
  · have h : i < cs.length := by simp at h; omega
    repeat (first
      | (refine ⟨⟨by kernel_rfl, by kernel_rfl⟩, ?_⟩; conv => whnf)
      | (refine And.intro (by first | omega | (simp; done) | (simp; omega)) ?_; conv => whnf)
      | (refine Or.inl (And.intro (by omega) ?_); conv => whnf)
      | (refine Exists.intro _ (And.intro (iWithin) ?_); conv => whnf))
    (refine br_intro (fun h2 => ?_) (fun h2 => ?_) <;> (conv => whnf))
    · have h2 : (!inR (cs.getD i 0) 0 (N - 1)) = true := h2
      have h2 : inR (cs.getD i 0) 0 (N - 1) = false := by simpa using h2
      have := allN_false (p := setAt cs N) h (by unfold setAt; rw [h2]; rfl)
      clear hA
      all_goals (try (conv => whnf))
      all_goals (repeat' (first | exact True.intro | (refine And.intro ?_ ?_ <;> (conv => whnf))))
      all_goals (first | rfl | (simp_all [isSetB]; done) | (simp only [isSetB, cond_true, cond_false, Bool.and_true, Bool.true_and, Bool.and_false, Bool.false_and]; rfl) | (simp_all [isSetB]; omega))
    · have h2 : (!inR (cs.getD i 0) 0 (N - 1)) = false := h2
      have h2 : inR (cs.getD i 0) 0 (N - 1) = true := by simpa using h2
      (refine br_intro (fun h3 => ?_) (fun h3 => ?_) <;> (conv => whnf))
      · have h3 : 0 < i := by simp at h3; omega
        repeat (first
          | (refine ⟨⟨by kernel_rfl, by kernel_rfl⟩, ?_⟩; conv => whnf)
          | (refine And.intro (by first | omega | (simp; done) | (simp; omega)) ?_; conv => whnf)
          | (refine Or.inl (And.intro (by omega) ?_); conv => whnf))
        (refine br_intro (fun h4 => ?_) (fun h4 => ?_) <;> (conv => whnf))
        · have h4 : decide (cs.getD ((i : Int) - 1).toNat 0 ≥ cs.getD i 0) = true := h4
          have h4 : cs.getD i 0 ≤ cs.getD (i - 1) 0 := by rw [show ((i : Int) - 1).toNat = i - 1 by omega] at h4; simpa using h4
          have h5 : setAt cs N i = false := by
            unfold setAt
            rw [h2, decide_eq_true h3, decide_eq_true h4]; rfl
          have := allN_false (p := setAt cs N) h h5
          clear hA
          all_goals (try (conv => whnf))
          all_goals (repeat' (first | exact True.intro | (refine And.intro ?_ ?_ <;> (conv => whnf))))
          all_goals (first | rfl | (simp_all [isSetB]; done) | (simp only [isSetB, cond_true, cond_false, Bool.and_true, Bool.true_and, Bool.and_false, Bool.false_and]; rfl) | (simp_all [isSetB]; omega))
        · have h4 : decide (cs.getD ((i : Int) - 1).toNat 0 ≥ cs.getD i 0) = false := h4
          have h4 : ¬ cs.getD i 0 ≤ cs.getD (i - 1) 0 := by rw [show ((i : Int) - 1).toNat = i - 1 by omega] at h4; simpa using h4
          have h5 : setAt cs N i = true := by
            unfold setAt
            rw [h2, decide_eq_true h3, decide_eq_false h4]; rfl
          repeat (first
            | (refine ⟨⟨by kernel_rfl, by kernel_rfl⟩, ?_⟩; conv => whnf)
            | (refine And.intro (by first | omega | (simp; done) | (simp; omega)) ?_; conv => whnf)
            | (refine Or.inl (And.intro (by omega) ?_); conv => whnf))
          refine ⟨i + 1, id, ⟨⟨h, by simp only [allN, hA, h5, Bool.true_and]⟩, by dsimp only; omega⟩, rfl, ⟨rfl, rfl, rfl, rfl, rfl, trivial⟩, trivial⟩
      · have h3 : ¬ 0 < i := by simp at h3; omega
        have h5 : setAt cs N i = true := by
          unfold setAt
          rw [h2, decide_eq_false h3]; rfl
        repeat (first
          | (refine ⟨⟨by kernel_rfl, by kernel_rfl⟩, ?_⟩; conv => whnf)
          | (refine And.intro (by first | omega | (simp; done) | (simp; omega)) ?_; conv => whnf)
          | (refine Or.inl (And.intro (by omega) ?_); conv => whnf))
        refine ⟨i + 1, id, ⟨⟨h, by simp only [allN, hA, h5, Bool.true_and]⟩, by dsimp only; omega⟩, rfl, ⟨rfl, rfl, rfl, rfl, rfl, trivial⟩, trivial⟩
  · have h : i = cs.length := by simp at h; omega
    subst h
    all_goals (try (conv => whnf))
    all_goals (repeat' (first | exact True.intro | (refine And.intro ?_ ?_ <;> (conv => whnf))))
    all_goals (first | rfl | (simp_all [isSetB]; done) | (simp only [isSetB, cond_true, cond_false, Bool.and_true, Bool.true_and, Bool.and_false, Bool.false_and]; rfl) | (simp_all [isSetB]; omega))

def selI (b : Bool) (x : Int) : Int := bif b then x else 0

end Go.Proofs.Ytagiajolklbbiaa
