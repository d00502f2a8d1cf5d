/- What each function of this seat does (Hil). Printed from templates of this seat's own. -/
import Derived.Test.YtldlfjcaaaigkaaMrk
namespace Go.Proofs.Ytldlfjcaaaigkaa
open Go.Ax Go.Bx
set_option maxRecDepth 8000
set_option linter.unusedSimpArgs false
set_option linter.unusedVariables false
def hillB (W H : Int) (xs : List Nat) : Bool := inR W 1 16 && inR H 1 16 && decide ((xs.length : Int) = W * H) && finL xs
def hillV (W H : Int) (xs : List Nat) (t : AV) : List AV := [.int .i64 W, .int .i64 H, .sli .f32 xs t]
theorem hill_len {W H : Int} {xs : List Nat} (h : hillB W H xs = true) : 1 ≤ W ∧ W ≤ 16 ∧ 1 ≤ H ∧ H ≤ 16 ∧ (xs.length : Int) = W * H ∧ 1 ≤ W * H ∧ W * H ≤ 256 := by
  simp [hillB, inR] at h
  obtain ⟨⟨⟨h1, h2⟩, h3⟩, _⟩ := h
  have h4 : 1 ≤ W * H := by
    have := Int.mul_le_mul h1.1 h2.1 (by omega) (by omega); omega
  have h5 : W * H ≤ 256 := by
    have := Int.mul_le_mul h1.2 h2.2 (by omega) (by omega); omega
  exact ⟨h1.1, h1.2, h2.1, h2.2, h3, h4, h5⟩

theorem sSides {W H : Int} : Does Try.prog 78 [.int .i64 W, .int .i64 H] (.bool (inR W 1 16 && inR H 1 16)) := by
  refine Does.of_awp (X := cx 11) Try.func78 rfl (by kernel_rfl) rfl (by simp [cx]) [] rfl ?_
  conv => whnf
  repeat' (first
    | (refine br_intro (fun h => ?_) (fun h => ?_) <;> (conv => whnf))
    | (refine ⟨⟨by kernel_rfl, by kernel_rfl⟩, ?_⟩; conv => whnf)
    | (refine And.intro (by first | omega | (simp; done) | (simp; omega)) ?_; conv => whnf)
    | (refine Or.inl (And.intro (by omega) ?_); conv => whnf)
    | (refine Exists.intro _ (And.intro (sIn) ?_); conv => whnf))
  all_goals (try (conv => whnf))
  all_goals (repeat' (first | exact True.intro | (refine And.intro ?_ ?_ <;> (conv => whnf))))
  all_goals (first | rfl | (simp_all []; done) | (simp only [cond_true, cond_false, Bool.and_true, Bool.true_and, Bool.and_false, Bool.false_and]; rfl) | (simp_all []; omega))

theorem iSides {W H : Int} : Does Try.prog 81 [.int .i64 W, .int .i64 H] (.bool (inR W 1 16 && inR H 1 16)) := by
  refine Does.of_awp (X := cx 11) Try.func81 rfl (by kernel_rfl) rfl (by simp [cx]) [] rfl ?_
  conv => whnf
  repeat' (first
    | (refine br_intro (fun h => ?_) (fun h => ?_) <;> (conv => whnf))
    | (refine ⟨⟨by kernel_rfl, by kernel_rfl⟩, ?_⟩; conv => whnf)
    | (refine And.intro (by first | omega | (simp; done) | (simp; omega)) ?_; conv => whnf)
    | (refine Or.inl (And.intro (by omega) ?_); conv => whnf)
    | (refine Exists.intro _ (And.intro (iWithin) ?_); conv => whnf))
  all_goals (try (conv => whnf))
  all_goals (repeat' (first | exact True.intro | (refine And.intro ?_ ?_ <;> (conv => whnf))))
  all_goals (first | rfl | (simp_all []; done) | (simp only [cond_true, cond_false, Bool.and_true, Bool.true_and, Bool.and_false, Bool.false_and]; rfl) | (simp_all []; omega))
theorem sides_mul {W H : Int} (h : (inR W 1 16 && inR H 1 16) = true) : (1 ≤ W ∧ W ≤ 16 ∧ 1 ≤ H ∧ H ≤ 16) ∧ 1 ≤ W * H ∧ W * H ≤ 256 := by
  simp [inR] at h
  obtain ⟨h1, h2⟩ := h
  have h4 : 1 ≤ W * H := by
    have := Int.mul_le_mul h1.1 h2.1 (by omega) (by omega); omega
  have h5 : W * H ≤ 256 := by
    have := Int.mul_le_mul h1.2 h2.2 (by omega) (by omega); omega
  exact ⟨⟨h1.1, h1.2, h2.1, h2.2⟩, h4, h5⟩

theorem sIs {W H : Int} {xs : List Nat} {t t' : AV} (hn : xs.length ≤ 1048576) : Does Try.prog 53 [.ref [.int .i64 W, .int .i64 H, .sli .f32 xs t] t'] (.bool (hillB W H xs)) := by
  refine Does.of_awp (X := cx 36) Try.func53 rfl (by kernel_rfl) rfl (by simp [cx]) [] rfl ?_
  conv => whnf
  repeat (first
    | (refine ⟨⟨by kernel_rfl, by kernel_rfl⟩, ?_⟩; conv => whnf)
    | (refine And.intro (by first | omega | (simp; done) | (simp; omega)) ?_; conv => whnf)
    | (refine Or.inl (And.intro (by omega) ?_); conv => whnf)
    | (refine Exists.intro _ (And.intro (sSides) ?_); conv => whnf))
  (refine br_intro (fun h1 => ?_) (fun h1 => ?_) <;> (conv => whnf))
  · obtain ⟨g1, g2, g3⟩ := sides_mul h1
    repeat (first
      | (refine ⟨⟨by kernel_rfl, by kernel_rfl⟩, ?_⟩; conv => whnf)
      | (refine And.intro (by first | omega | (simp; done) | (simp; omega)) ?_; conv => whnf)
      | (refine Or.inl (And.intro (by omega) ?_); conv => whnf))
    (refine br_intro (fun h2 => ?_) (fun h2 => ?_) <;> (conv => whnf))
    · repeat (first
        | (refine ⟨⟨by kernel_rfl, by kernel_rfl⟩, ?_⟩; conv => whnf)
        | (refine And.intro (by first | omega | (simp; done) | (simp; omega)) ?_; conv => whnf)
        | (refine Or.inl (And.intro (by omega) ?_); conv => whnf)
        | (refine Exists.intro _ (And.intro (sFinL (by first | omega | (simp; done) | (simp; omega))) ?_); conv => whnf))
      all_goals (try (conv => whnf))
      all_goals (repeat' (first | exact True.intro | (refine And.intro ?_ ?_ <;> (conv => whnf))))
      all_goals (first | rfl | (simp_all [hillB]; done) | (simp only [hillB, cond_true, cond_false, Bool.and_true, Bool.true_and, Bool.and_false, Bool.false_and]; rfl) | (simp_all [hillB]; omega))
    · have h2 : ¬ (xs.length : Int) = W * H := by simpa using h2
      all_goals (try (conv => whnf))
      all_goals (repeat' (first | exact True.intro | (refine And.intro ?_ ?_ <;> (conv => whnf))))
      all_goals (first | rfl | (simp_all [hillB]; done) | (simp only [hillB, cond_true, cond_false, Bool.and_true, Bool.true_and, Bool.and_false, Bool.false_and]; rfl) | (simp_all [hillB]; omega))
  · all_goals (try (conv => whnf))
    all_goals (repeat' (first | exact True.intro | (refine And.intro ?_ ?_ <;> (conv => whnf))))
    all_goals (first | rfl | (simp_all [hillB]; done) | (simp only [hillB, cond_true, cond_false, Bool.and_true, Bool.true_and, Bool.and_false, Bool.false_and]; rfl) | (simp_all [hillB]; omega))

theorem iIs {W H : Int} {xs : List Nat} {t : AV} (hn : xs.length ≤ 1048576) : Does Try.prog 56 [.agg [.int .i64 W, .int .i64 H, .sli .f32 xs t]] (.bool (hillB W H xs)) := by
  refine Does.of_awp (X := cx 24) Try.func56 rfl (by kernel_rfl) rfl (by simp [cx]) [] rfl ?_
  conv => whnf
  repeat (first
    | (refine ⟨⟨by kernel_rfl, by kernel_rfl⟩, ?_⟩; conv => whnf)
    | (refine And.intro (by first | omega | (simp; done) | (simp; omega)) ?_; conv => whnf)
    | (refine Or.inl (And.intro (by omega) ?_); conv => whnf)
    | (refine Exists.intro _ (And.intro (iSides) ?_); conv => whnf))
  (refine br_intro (fun h1 => ?_) (fun h1 => ?_) <;> (conv => whnf))
  · obtain ⟨g1, g2, g3⟩ := sides_mul h1
    repeat (first
      | (refine ⟨⟨by kernel_rfl, by kernel_rfl⟩, ?_⟩; conv => whnf)
      | (refine And.intro (by first | omega | (simp; done) | (simp; omega)) ?_; conv => whnf)
      | (refine Or.inl (And.intro (by omega) ?_); conv => whnf))
    (refine br_intro (fun h2 => ?_) (fun h2 => ?_) <;> (conv => whnf))
    · repeat (first
        | (refine ⟨⟨by kernel_rfl, by kernel_rfl⟩, ?_⟩; conv => whnf)
        | (refine And.intro (by first | omega | (simp; done) | (simp; omega)) ?_; conv => whnf)
        | (refine Or.inl (And.intro (by omega) ?_); conv => whnf)
        | (refine Exists.intro _ (And.intro (iFinL (by first | omega | (simp; done) | (simp; omega))) ?_); conv => whnf))
      all_goals (try (conv => whnf))
      all_goals (repeat' (first | exact True.intro | (refine And.intro ?_ ?_ <;> (conv => whnf))))
      all_goals (first | rfl | (simp_all [hillB]; done) | (simp only [hillB, cond_true, cond_false, Bool.and_true, Bool.true_and, Bool.and_false, Bool.false_and]; rfl) | (simp_all [hillB]; omega))
    · have h2 : ¬ (xs.length : Int) = W * H := by simpa using h2
      all_goals (try (conv => whnf))
      all_goals (repeat' (first | exact True.intro | (refine And.intro ?_ ?_ <;> (conv => whnf))))
      all_goals (first | rfl | (simp_all [hillB]; done) | (simp only [hillB, cond_true, cond_false, Bool.and_true, Bool.true_and, Bool.and_false, Bool.false_and]; rfl) | (simp_all [hillB]; omega))
  · all_goals (try (conv => whnf))
    all_goals (repeat' (first | exact True.intro | (refine And.intro ?_ ?_ <;> (conv => whnf))))
    all_goals (first | rfl | (simp_all [hillB]; done) | (simp only [hillB, cond_true, cond_false, Bool.and_true, Bool.true_and, Bool.and_false, Bool.false_and]; rfl) | (simp_all [hillB]; omega))

theorem sOwn {W H : Int} {xs : List Nat} {t t' : AV} (hn : xs.length ≤ 1048576) : Does Try.prog 79 [.ref [.int .i64 W, .int .i64 H, .sli .f32 xs t] t'] (.agg [.int .i64 W, .int .i64 H, .own 0 .f32 xs]) := by
  refine Does.of_awp (X := cx 18) Try.func79 rfl (by kernel_rfl) rfl (by simp [cx]) [64] rfl ?_
  conv => whnf
  repeat (first
    | (refine ⟨⟨by kernel_rfl, by kernel_rfl⟩, ?_⟩; conv => whnf)
    | (refine And.intro (by first | omega | (simp; done) | (simp; omega)) ?_; conv => whnf)
    | (refine Or.inl (And.intro (by omega) ?_); conv => whnf))
  all_goals (try (conv => whnf))
  all_goals (repeat' (first | exact True.intro | (refine And.intro ?_ ?_ <;> (conv => whnf))))
  all_goals (first | rfl | (simp_all []; done) | (simp only [cond_true, cond_false, Bool.and_true, Bool.true_and, Bool.and_false, Bool.false_and]; rfl) | (simp_all []; omega))

theorem iGive {W H : Int} {xs : List Nat} {t : AV} (hn : xs.length ≤ 1048576) (h : hillB W H xs = true) : Does Try.prog 59 [.agg [.int .i64 W, .int .i64 H, .sli .f32 xs t]] (.tup [.agg [.int .i64 W, .int .i64 H, .sli .f32 xs t], .bool true]) := by
  refine Does.of_awp (X := cx 9) Try.func59 rfl (by kernel_rfl) rfl (by simp [cx]) [] rfl ?_
  conv => whnf
  repeat (first
    | (refine ⟨⟨by kernel_rfl, by kernel_rfl⟩, ?_⟩; conv => whnf)
    | (refine And.intro (by first | omega | (simp; done) | (simp; omega)) ?_; conv => whnf)
    | (refine Or.inl (And.intro (by omega) ?_); conv => whnf)
    | (refine Exists.intro _ (And.intro (iIs (by first | omega | (simp; done) | (simp; omega))) ?_); conv => whnf))
  rw [h]
  conv => whnf
  repeat (first
    | (refine ⟨⟨by kernel_rfl, by kernel_rfl⟩, ?_⟩; conv => whnf)
    | (refine And.intro (by first | omega | (simp; done) | (simp; omega)) ?_; conv => whnf)
    | (refine Or.inl (And.intro (by omega) ?_); conv => whnf))
  all_goals (try (conv => whnf))
  all_goals (repeat' (first | exact True.intro | (refine And.intro ?_ ?_ <;> (conv => whnf))))
  all_goals (first | rfl | (simp_all []; done) | (simp only [cond_true, cond_false, Bool.and_true, Bool.true_and, Bool.and_false, Bool.false_and]; rfl) | (simp_all []; omega))
theorem iGive' {W H : Int} {xs : List Nat} {t : AV} (hn : xs.length ≤ 1048576) (h : hillB W H xs = false) : Does Try.prog 59 [.agg [.int .i64 W, .int .i64 H, .sli .f32 xs t]] (.tup [.agg [.int .i64 0, .int .i64 0, .emp .f32], .bool false]) := by
  refine Does.of_awp (X := cx 9) Try.func59 rfl (by kernel_rfl) rfl (by simp [cx]) [] rfl ?_
  conv => whnf
  repeat (first
    | (refine ⟨⟨by kernel_rfl, by kernel_rfl⟩, ?_⟩; conv => whnf)
    | (refine And.intro (by first | omega | (simp; done) | (simp; omega)) ?_; conv => whnf)
    | (refine Or.inl (And.intro (by omega) ?_); conv => whnf)
    | (refine Exists.intro _ (And.intro (iIs (by first | omega | (simp; done) | (simp; omega))) ?_); conv => whnf))
  rw [h]
  conv => whnf
  repeat (first
    | (refine ⟨⟨by kernel_rfl, by kernel_rfl⟩, ?_⟩; conv => whnf)
    | (refine And.intro (by first | omega | (simp; done) | (simp; omega)) ?_; conv => whnf)
    | (refine Or.inl (And.intro (by omega) ?_); conv => whnf))
  all_goals (try (conv => whnf))
  all_goals (repeat' (first | exact True.intro | (refine And.intro ?_ ?_ <;> (conv => whnf))))
  all_goals (first | rfl | (simp_all []; done) | (simp only [cond_true, cond_false, Bool.and_true, Bool.true_and, Bool.and_false, Bool.false_and]; rfl) | (simp_all []; omega))

theorem lToHill {W H : Int} {xs : List Nat} {t : AV} (hn : xs.length ≤ 1048576) : Does Try.prog 11 [.agg [.int .i64 W, .int .i64 H, .sli .f32 xs t]] (.agg [.int .i64 W, .int .i64 H, .own 0 .f32 xs]) := by
  refine Does.of_awp (X := cx 15) Try.func11 rfl (by kernel_rfl) rfl (by simp [cx]) [48] rfl ?_
  conv => whnf
  repeat (first
    | (refine ⟨⟨by kernel_rfl, by kernel_rfl⟩, ?_⟩; conv => whnf)
    | (refine And.intro (by first | omega | (simp; done) | (simp; omega)) ?_; conv => whnf)
    | (refine Or.inl (And.intro (by omega) ?_); conv => whnf)
    | (refine Exists.intro _ (And.intro (lToF32 (by first | omega | (simp; done) | (simp; omega))) ?_); conv => whnf))
  all_goals (try (conv => whnf))
  all_goals (repeat' (first | exact True.intro | (refine And.intro ?_ ?_ <;> (conv => whnf))))
  all_goals (first | rfl | (simp_all []; done) | (simp only [cond_true, cond_false, Bool.and_true, Bool.true_and, Bool.and_false, Bool.false_and]; rfl) | (simp_all []; omega))

theorem lEqHill {W H : Int} {xs : List Nat} {t t' : AV} (hn : xs.length ≤ 1048576) : Does Try.prog 15 [.agg [.int .i64 W, .int .i64 H, .sli .f32 xs t], .agg [.int .i64 W, .int .i64 H, .sli .f32 xs t']] (.bool true) := by
  refine Does.of_awp (X := cx 21) Try.func15 rfl (by kernel_rfl) rfl (by simp [cx]) [] rfl ?_
  conv => whnf
  repeat (first
    | (refine ⟨⟨by kernel_rfl, by kernel_rfl⟩, ?_⟩; conv => whnf)
    | (refine And.intro (by first | omega | (simp; done) | (simp; omega)) ?_; conv => whnf)
    | (refine Or.inl (And.intro (by omega) ?_); conv => whnf)
    | (refine br_intro (fun h => by exfalso; first | (simp at h; done) | (simp at h; omega) | omega) (fun _ => ?_); conv => whnf)
    | (refine br_intro (fun _ => ?_) (fun h => by exfalso; first | (simp at h; done) | (simp at h; omega) | omega); conv => whnf)
    | (refine Exists.intro _ (And.intro (lEqF32' (by first | omega | (simp; done) | (simp; omega))) ?_); conv => whnf))
  all_goals (try (conv => whnf))
  all_goals (repeat' (first | exact True.intro | (refine And.intro ?_ ?_ <;> (conv => whnf))))
  all_goals (first | rfl | (simp_all []; done) | (simp only [cond_true, cond_false, Bool.and_true, Bool.true_and, Bool.and_false, Bool.false_and]; rfl) | (simp_all []; omega))

theorem lMarkHill {W H k : Int} {xs : List Nat} (hn : xs.length ≤ 67108864) (h0 : -1099511627776 ≤ k) (h1 : k ≤ 1099511627776) : DoesM Try.prog 16 [.agg [.int .i64 W, .int .i64 H, .osl LK], .int .i64 k] .f32 xs (.int .i64 (k + xs.length)) (mkF k xs.length) := by
  refine DoesM.of_awp (X := cx 10) Try.func16 rfl (by kernel_rfl) rfl (by simp [cx]) rfl (by simp) (by simp) ?_
  conv => whnf
  repeat (first
    | (refine ⟨⟨by kernel_rfl, by kernel_rfl⟩, ?_⟩; conv => whnf)
    | (refine And.intro (by first | omega | (simp; done) | (simp; omega)) ?_; conv => whnf)
    | (refine Or.inl (And.intro (by omega) ?_); conv => whnf)
    | (refine Exists.intro _ (Exists.intro _ (And.intro (And.intro (lMarkF (by first | omega | (simp; done) | (simp; omega)) (by first | omega | (simp; done) | (simp; omega)) (by first | omega | (simp; done) | (simp; omega))) (by simp)) ?_)); conv => whnf))
  first | exact rfl | exact ⟨rfl, rfl⟩

theorem lHeldHill {W H k : Int} {xs : List Nat} {t : AV} (hn : xs.length ≤ 67108864) (h0 : 0 ≤ k) (h1 : k ≤ 1099511627776) : Does Try.prog 32 [.agg [.int .i64 W, .int .i64 H, .sli .f32 (mkF k xs.length) t], .int .i64 k] (.int .i64 (k + xs.length)) := by
  refine Does.of_awp (X := cx 12) Try.func32 rfl (by kernel_rfl) rfl (by simp [cx]) [] rfl ?_
  conv => whnf
  repeat (first
    | (refine ⟨⟨by kernel_rfl, by kernel_rfl⟩, ?_⟩; conv => whnf)
    | (refine And.intro (by first | omega | (simp; done) | (simp; omega)) ?_; conv => whnf)
    | (refine Or.inl (And.intro (by omega) ?_); conv => whnf)
    | (refine br_intro (fun h => by exfalso; first | (simp at h; done) | (simp at h; omega) | omega) (fun _ => ?_); conv => whnf)
    | (refine br_intro (fun _ => ?_) (fun h => by exfalso; first | (simp at h; done) | (simp at h; omega) | omega); conv => whnf)
    | (refine Exists.intro _ (And.intro (lHeldF (by first | omega | (simp; done) | (simp; omega)) (by first | omega | (simp; done) | (simp; omega)) (by first | omega | (simp; done) | (simp; omega))) ?_); conv => whnf))
  all_goals (try (conv => whnf))
  all_goals (repeat' (first | exact True.intro | (refine And.intro ?_ ?_ <;> (conv => whnf))))
  all_goals (first | rfl | (simp_all []; done) | (simp only [cond_true, cond_false, Bool.and_true, Bool.true_and, Bool.and_false, Bool.false_and]; rfl) | (simp_all []; omega))

theorem lSzF {xs : List Nat} {t : AV} {k : Int} (hk : k = 1048576) (hn : xs.length ≤ 1048576) : Does Try.prog 38 [.sli .f32 xs t, .int .i64 k] (.int .i64 (k - xs.length)) := by
  refine Does.of_awp (X := cx 12) Try.func38 rfl (by kernel_rfl) rfl (by simp [cx]) [] rfl ?_
  conv => whnf
  repeat (first
    | (refine ⟨⟨by kernel_rfl, by kernel_rfl⟩, ?_⟩; conv => whnf)
    | (refine And.intro (by first | omega | (simp; done) | (simp; omega)) ?_; conv => whnf)
    | (refine Or.inl (And.intro (by omega) ?_); conv => whnf))
  (refine br_intro (fun h => ?_) (fun h => ?_) <;> (conv => whnf))
  exfalso; simp at h; omega
theorem lSzF' {xs : List Nat} {t : AV} {k : Int} (hk : k = 1048576) (hn : 1048576 < xs.length) (hn' : xs.length < 2 ^ 63) : Does Try.prog 38 [.sli .f32 xs t, .int .i64 k] (.int .i64 (-1)) := by
  refine Does.of_awp (X := cx 12) Try.func38 rfl (by kernel_rfl) rfl (by simp [cx]) [] rfl ?_
  conv => whnf
  repeat (first
    | (refine ⟨⟨by kernel_rfl, by kernel_rfl⟩, ?_⟩; conv => whnf)
    | (refine And.intro (by first | omega | (simp; done) | (simp; omega)) ?_; conv => whnf)
    | (refine Or.inl (And.intro (by omega) ?_); conv => whnf))
  (refine br_intro (fun h => ?_) (fun h => ?_) <;> (conv => whnf))
  exfalso; simp at h; omega

theorem lSzHill {W H : Int} {xs : List Nat} {t : AV} {k : Int} (hk : k = 1048576) (hn : xs.length ≤ 1048576) : Does Try.prog 9 [.agg [.int .i64 W, .int .i64 H, .sli .f32 xs t], .int .i64 k] (.int .i64 (k - xs.length)) := by
  refine Does.of_awp (X := cx 12) Try.func9 rfl (by kernel_rfl) rfl (by simp [cx]) [] rfl ?_
  conv => whnf
  repeat (first
    | (refine ⟨⟨by kernel_rfl, by kernel_rfl⟩, ?_⟩; conv => whnf)
    | (refine And.intro (by first | omega | (simp; done) | (simp; omega)) ?_; conv => whnf)
    | (refine Or.inl (And.intro (by omega) ?_); conv => whnf)
    | (refine br_intro (fun h => by exfalso; first | (simp at h; done) | (simp at h; omega) | omega) (fun _ => ?_); conv => whnf)
    | (refine br_intro (fun _ => ?_) (fun h => by exfalso; first | (simp at h; done) | (simp at h; omega) | omega); conv => whnf)
    | (refine Exists.intro _ (And.intro (lSzF (by first | omega | (simp; done) | (simp; omega)) (by first | omega | (simp; done) | (simp; omega))) ?_); conv => whnf))
theorem lSzHill' {W H : Int} {xs : List Nat} {t : AV} {k : Int} (hk : k = 1048576) (hn : 1048576 < xs.length) (hn' : xs.length < 2 ^ 63) : Does Try.prog 9 [.agg [.int .i64 W, .int .i64 H, .sli .f32 xs t], .int .i64 k] (.int .i64 (-1)) := by
  refine Does.of_awp (X := cx 12) Try.func9 rfl (by kernel_rfl) rfl (by simp [cx]) [] rfl ?_
  conv => whnf
  repeat (first
    | (refine ⟨⟨by kernel_rfl, by kernel_rfl⟩, ?_⟩; conv => whnf)
    | (refine And.intro (by first | omega | (simp; done) | (simp; omega)) ?_; conv => whnf)
    | (refine Or.inl (And.intro (by omega) ?_); conv => whnf)
    | (refine br_intro (fun h => by exfalso; first | (simp at h; done) | (simp at h; omega) | omega) (fun _ => ?_); conv => whnf)
    | (refine br_intro (fun _ => ?_) (fun h => by exfalso; first | (simp at h; done) | (simp at h; omega) | omega); conv => whnf)
    | (refine Exists.intro _ (And.intro (lSzF' (by first | omega | (simp; done) | (simp; omega)) (by first | omega | (simp; done) | (simp; omega)) (by first | omega | (simp; done) | (simp; omega))) ?_); conv => whnf))

def selI (b : Bool) (x : Int) : Int := bif b then x else 0

end Go.Proofs.Ytldlfjcaaaigkaa
