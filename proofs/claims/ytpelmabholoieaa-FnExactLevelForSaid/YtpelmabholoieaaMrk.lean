/- What each function of this seat does (Mrk). Printed from templates of this seat's own. -/
import Derived.Test.YtpelmabholoieaaLst
namespace Go.Proofs.Ytpelmabholoieaa
open Go.Ax Go.Bx
set_option maxRecDepth 8000
set_option linter.unusedSimpArgs false
set_option linter.unusedVariables false
theorem tabN_len {α : Type} (f : Nat → α) (n : Nat) : (tabN f n).length = n := by
  induction n with
  | zero => rfl
  | succ n ih => simp [tabN, ih]
/-- Block keys under other names. -/
def ren : List (Nat × Nat) → Nat → Nat
  | [], k => k
  | (a, b) :: l, k => bif Nat.beq k a then b else ren l k
theorem getD_set {α : Type} (l : List α) (i : Nat) (x d : α) (h : i < l.length) : (l.set i x).getD i d = x := by
  rw [List.getD_eq_getElem?_getD, List.getElem?_set_self h]; rfl
/-- A list gone through, 'j' steps of it. -/
def fo {α β : Type} (f : β → α → β) (a : β) (l : List α) (j : Nat) : β := (l.take j).foldl f a
theorem fo_succ {α β : Type} (f : β → α → β) (a : β) {l : List α} {j : Nat} (h : j < l.length) (d : α) : fo f a l (j + 1) = f (fo f a l j) (l.getD j d) := by
  unfold fo
  rw [List.take_add_one, List.getElem?_eq_getElem h, List.foldl_append, List.getD_eq_getElem?_getD, List.getElem?_eq_getElem h]
  rfl
theorem fo_all {α β : Type} (f : β → α → β) (a : β) (l : List α) : fo f a l l.length = l.foldl f a := by
  unfold fo; rw [List.take_length]

theorem nan_ofInt (n : Int) : isNaN .f32 (foi .f32 n) = false := by
  rw [foi_eq]
  refine nan_false ?_
  show rungOf Ieee.single (Ieee.single.nearest _ _ _) ≤ _
  unfold Ieee.Format.nearest
  split
  · rw [rungOf_word _ _ (by decide +kernel)]; exact Nat.zero_le _
  · rw [rungOf_word _ _ (by have : Ieee.single.infRung < Ieee.single.signWeight := by decide +kernel
                            omega)]
    exact Nat.min_le_right _ _
theorem ne_ofInt (n : Int) : fcmp .neq .f32 (foi .f32 n) (foi .f32 n) = false := by rw [neq_self, nan_ofInt]
@[simp] theorem mkF_len (k : Int) (n : Nat) : (mkF k n).length = n := tabN_len _ n

theorem lMarkF {xs : List Nat} {k : Int} (hn : xs.length ≤ 67108864) (h0 : -1099511627776 ≤ k) (h1 : k ≤ 1099511627776) : DoesM Try.prog 13 [.osl LK, .int .i64 k] .f32 xs (.int .i64 (k + xs.length)) (mkF k xs.length) := by
  refine DoesM.of_awp (X := cx 20) Try.func13 rfl (by kernel_rfl) rfl (by simp [cx]) rfl (by simp) (by simp) ?_
  conv => whnf
  repeat (first
    | (refine ⟨⟨by kernel_rfl, by kernel_rfl⟩, ?_⟩; conv => whnf)
    | (refine And.intro (by first | omega | (simp; done) | (simp; omega)) ?_; conv => whnf)
    | (refine Or.inl (And.intro (by omega) ?_); conv => whnf))
  refine ⟨Nat × Int, fun p => p.1 ≤ xs.length ∧ p.2 = k + p.1, fun p => [(0, .osl LK), (1, .int .i64 p.2), (5, .int .i64 p.1)], fun p => [(LK, .tab .f32 (wrN xs (fun i => foi .f32 (k + i)) p.1))], fun p => xs.length - p.1, ⟨(0, k), id, ⟨Nat.zero_le _, by simp⟩, rfl, ⟨rfl, rfl, rfl, trivial⟩, ⟨rfl, trivial⟩⟩, fun p hi => ?_⟩
  obtain ⟨i, j⟩ := p
  obtain ⟨hi, hj⟩ := hi
  dsimp only at hi hj
  subst hj
  conv => whnf
  (refine br_intro (fun h => ?_) (fun h => ?_) <;> (conv => whnf))
  · have h : i < xs.length := by simp at h; omega
    repeat (first
      | (refine ⟨⟨by kernel_rfl, by kernel_rfl⟩, ?_⟩; conv => whnf)
      | (refine And.intro (by first | omega | (simp; done) | (simp; omega)) ?_; conv => whnf)
      | (refine Or.inl (And.intro (by omega) ?_); conv => whnf))
    refine ⟨(i + 1, k + i + 1), id, ⟨⟨h, by dsimp only; omega⟩, by dsimp only; omega⟩, rfl, ⟨rfl, rfl, rfl, trivial⟩, ⟨rfl, trivial⟩⟩
  · have h : i = xs.length := by simp at h; omega
    subst h
    exact ⟨rfl, congrArg (fun l => KS.live (Blk.tab .f32 l)) (wrN_all xs (fun i => foi .f32 (k + i)))⟩

theorem lHeldF {xs : List Nat} {t : AV} {k : Int} (hn : xs.length ≤ 67108864) (h0 : -1099511627776 ≤ k) (h1 : k ≤ 1099511627776) : Does Try.prog 14 [.sli .f32 (mkF k xs.length) t, .int .i64 k] (.int .i64 (k + xs.length)) := by
  refine Does.of_awp (X := cx 22) Try.func14 rfl (by kernel_rfl) rfl (by simp [cx]) [] rfl ?_
  conv => whnf
  repeat (first
    | (refine ⟨⟨by kernel_rfl, by kernel_rfl⟩, ?_⟩; conv => whnf)
    | (refine And.intro (by first | omega | (simp; done) | (simp; omega)) ?_; conv => whnf)
    | (refine Or.inl (And.intro (by omega) ?_); conv => whnf))
  refine ⟨Nat × Int, fun p => p.1 ≤ xs.length ∧ p.2 = k + p.1, fun p => [(0, .sli .f32 (mkF k xs.length) t), (1, .int .i64 p.2), (5, .int .i64 p.1)], fun _ => [], fun p => xs.length - p.1, ⟨(0, k), id, ⟨Nat.zero_le _, by simp⟩, rfl, ⟨rfl, rfl, rfl, trivial⟩, trivial⟩, fun p hi => ?_⟩
  obtain ⟨i, j⟩ := p
  obtain ⟨hi, hj⟩ := hi
  dsimp only at hi hj
  subst hj
  conv => whnf
  (refine br_intro (fun h => ?_) (fun h => ?_) <;> (conv => whnf))
  · have h : i < xs.length := by simp at h; omega
    repeat (first
      | (refine ⟨⟨by kernel_rfl, by kernel_rfl⟩, ?_⟩; conv => whnf)
      | (refine And.intro (by first | omega | (simp; done) | (simp; omega)) ?_; conv => whnf)
      | (refine Or.inl (And.intro (by omega) ?_); conv => whnf))
    (refine br_intro (fun h2 => ?_) (fun h2 => ?_) <;> (conv => whnf))
    · exfalso
      have e : (mkF k xs.length).getD i 0 = foi .f32 (k + i) := by rw [mkF, tabN_getD _ h]
      have h3 : fcmp .neq .f32 ((mkF k xs.length).getD i 0) (foi .f32 (k + i)) = true := h2
      rw [e, ne_ofInt] at h3; cases h3
    · repeat (first
        | (refine ⟨⟨by kernel_rfl, by kernel_rfl⟩, ?_⟩; conv => whnf)
        | (refine And.intro (by first | omega | (simp; done) | (simp; omega)) ?_; conv => whnf)
        | (refine Or.inl (And.intro (by omega) ?_); conv => whnf))
      refine ⟨(i + 1, k + i + 1), id, ⟨⟨h, by dsimp only; omega⟩, by dsimp only; omega⟩, rfl, ⟨rfl, rfl, rfl, trivial⟩, trivial⟩
  · have h : i = xs.length := by simp at h; omega
    subst h
    repeat (first
      | (refine ⟨⟨by kernel_rfl, by kernel_rfl⟩, ?_⟩; conv => whnf)
      | (refine And.intro (by first | omega | (simp; done) | (simp; omega)) ?_; conv => whnf)
      | (refine Or.inl (And.intro (by omega) ?_); conv => whnf))
    all_goals (try (conv => whnf))
    all_goals (repeat' (first | exact True.intro | (refine And.intro ?_ ?_ <;> (conv => whnf))))
    all_goals (first | rfl | (simp_all []; done) | (simp only [cond_true, cond_false, Bool.and_true, Bool.true_and, Bool.and_false, Bool.false_and]; rfl) | (simp_all []; omega))

theorem rain_len {xs : List Nat} (h : rainB xs = true) : xs.length ≤ 128 := by
  simp only [rainB, Bool.and_eq_true, decide_eq_true_eq] at h
  omega

end Go.Proofs.Ytpelmabholoieaa
