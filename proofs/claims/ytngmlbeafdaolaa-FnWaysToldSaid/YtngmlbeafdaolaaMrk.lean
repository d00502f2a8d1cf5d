/- What each function of this seat does (Mrk). Printed from templates of this seat's own. -/
import Derived.Test.YtngmlbeafdaolaaLst
namespace Go.Proofs.Ytngmlbeafdaolaa
open Go.Ax Go.Bx
set_option maxRecDepth 8000
set_option linter.unusedSimpArgs false
set_option linter.unusedVariables false
theorem tabN_len {α : Type} (f : Nat → α) (n : Nat) : (tabN f n).length = n := by
  induction n with
  | zero => rfl
  | succ n ih => simp [tabN, ih]
/-- Block keys under other names. -/
def ren : List (Nat × Nat) → Nat → Nat
  | [], k => k
  | (a, b) :: l, k => bif Nat.beq k a then b else ren l k
theorem getD_set {α : Type} (l : List α) (i : Nat) (x d : α) (h : i < l.length) : (l.set i x).getD i d = x := by
  rw [List.getD_eq_getElem?_getD, List.getElem?_set_self h]; rfl
/-- A list gone through, 'j' steps of it. -/
def fo {α β : Type} (f : β → α → β) (a : β) (l : List α) (j : Nat) : β := (l.take j).foldl f a
theorem fo_succ {α β : Type} (f : β → α → β) (a : β) {l : List α} {j : Nat} (h : j < l.length) (d : α) : fo f a l (j + 1) = f (fo f a l j) (l.getD j d) := by
  unfold fo
  rw [List.take_add_one, List.getElem?_eq_getElem h, List.foldl_append, List.getD_eq_getElem?_getD, List.getElem?_eq_getElem h]
  rfl
theorem fo_all {α β : Type} (f : β → α → β) (a : β) (l : List α) : fo f a l l.length = l.foldl f a := by
  unfold fo; rw [List.take_length]

theorem nan_ofInt (n : Int) : isNaN .f32 (foi .f32 n) = false := by
  rw [foi_eq]
  refine nan_false ?_
  show rungOf Ieee.single (Ieee.single.nearest _ _ _) ≤ _
  unfold Ieee.Format.nearest
  split
  · rw [rungOf_word _ _ (by decide +kernel)]; exact Nat.zero_le _
  · rw [rungOf_word _ _ (by have : Ieee.single.infRung < Ieee.single.signWeight := by decide +kernel
                            omega)]
    exact Nat.min_le_right _ _
theorem ne_ofInt (n : Int) : fcmp .neq .f32 (foi .f32 n) (foi .f32 n) = false := by rw [neq_self, nan_ofInt]
@[simp] theorem mkF_len (k : Int) (n : Nat) : (mkF k n).length = n := tabN_len _ n

theorem lMarkF {xs : List Nat} {k : Int} (hn : xs.length ≤ 67108864) (h0 : -1099511627776 ≤ k) (h1 : k ≤ 1099511627776) : DoesM Try.prog 43 [.osl LK, .int .i64 k] .f32 xs (.int .i64 (k + xs.length)) (mkF k xs.length) := by
  refine DoesM.of_awp (X := cx 20) Try.func43 rfl (by kernel_rfl) rfl (by simp [cx]) rfl (by simp) (by simp) ?_
  conv => whnf
  repeat (first
    | (refine ⟨⟨by kernel_rfl, by kernel_rfl⟩, ?_⟩; conv => whnf)
    | (refine And.intro (by first | omega | (simp; done) | (simp; omega)) ?_; conv => whnf)
    | (refine Or.inl (And.intro (by omega) ?_); conv => whnf))
  refine ⟨Nat × Int, fun p => p.1 ≤ xs.length ∧ p.2 = k + p.1, fun p => [(0, .osl LK), (1, .int .i64 p.2), (5, .int .i64 p.1)], fun p => [(LK, .tab .f32 (wrN xs (fun i => foi .f32 (k + i)) p.1))], fun p => xs.length - p.1, ⟨(0, k), id, ⟨Nat.zero_le _, by simp⟩, rfl, ⟨rfl, rfl, rfl, trivial⟩, ⟨rfl, trivial⟩⟩, fun p hi => ?_⟩
  obtain ⟨i, j⟩ := p
  obtain ⟨hi, hj⟩ := hi
  dsimp only at hi hj
  subst hj
  conv => whnf
  (refine br_intro (fun h => ?_) (fun h => ?_) <;> (conv => whnf))
  · have h : i < xs.length := by simp at h; omega
    repeat (first
      | (refine ⟨⟨by kernel_rfl, by kernel_rfl⟩, ?_⟩; conv => whnf)
      | (refine And.intro (by first | omega | (simp; done) | (simp; omega)) ?_; conv => whnf)
      | (refine Or.inl (And.intro (by omega) ?_); conv => whnf))
    refine ⟨(i + 1, k + i + 1), id, ⟨⟨h, by dsimp only; omega⟩, by dsimp only; omega⟩, rfl, ⟨rfl, rfl, rfl, trivial⟩, ⟨rfl, trivial⟩⟩
  · have h : i = xs.length := by simp at h; omega
    subst h
    exact ⟨rfl, congrArg (fun l => KS.live (Blk.tab .f32 l)) (wrN_all xs (fun i => foi .f32 (k + i)))⟩

def mkI (k : Int) (n : Nat) : List Int := tabN (fun i => k + i) n
@[simp] theorem mkI_len (k : Int) (n : Nat) : (mkI k n).length = n := tabN_len _ n

theorem lEqI {xs : List Int} {t t' : AV} (hn : xs.length ≤ 1048576) : Does Try.prog 10 [.sli (.int .i64) xs t, .sli (.int .i64) xs t'] (.bool true) := by
  refine Does.of_awp (X := cx 26) Try.func10 rfl (by kernel_rfl) rfl (by simp [cx]) [] rfl ?_
  conv => whnf
  repeat (first
    | (refine ⟨⟨by kernel_rfl, by kernel_rfl⟩, ?_⟩; conv => whnf)
    | (refine And.intro (by first | omega | (simp; done) | (simp; omega)) ?_; conv => whnf)
    | (refine Or.inl (And.intro (by omega) ?_); conv => whnf)
    | (refine br_intro (fun h => by exfalso; first | (simp at h; done) | (simp at h; omega) | omega) (fun _ => ?_); conv => whnf)
    | (refine br_intro (fun _ => ?_) (fun h => by exfalso; first | (simp at h; done) | (simp at h; omega) | omega); conv => whnf))
  refine ⟨Nat, fun i => i ≤ xs.length, fun i => [(0, .sli (.int .i64) xs t), (1, .sli (.int .i64) xs t'), (5, .int .i64 i)], fun _ => [], fun i => xs.length - i, ⟨0, id, Nat.zero_le _, rfl, ⟨rfl, rfl, rfl, trivial⟩, trivial⟩, fun i hi => ?_⟩
  conv => whnf
  (refine br_intro (fun hlt => ?_) (fun hlt => ?_) <;> (conv => whnf))
  · have hlt : i < xs.length := by simp at hlt; omega
    repeat (first
      | (refine ⟨⟨by kernel_rfl, by kernel_rfl⟩, ?_⟩; conv => whnf)
      | (refine And.intro (by first | omega | (simp; done) | (simp; omega)) ?_; conv => whnf)
      | (refine Or.inl (And.intro (by omega) ?_); conv => whnf)
      | (refine br_intro (fun h => by exfalso; first | (simp at h; done) | (simp at h; omega) | omega) (fun _ => ?_); conv => whnf)
      | (refine br_intro (fun _ => ?_) (fun h => by exfalso; first | (simp at h; done) | (simp at h; omega) | omega); conv => whnf))
    refine ⟨i + 1, id, ⟨hlt, by dsimp only; omega⟩, rfl, ⟨rfl, rfl, rfl, trivial⟩, trivial⟩

theorem lMarkI {xs : List Int} {k : Int} (hn : xs.length ≤ 67108864) (h0 : -1099511627776 ≤ k) (h1 : k ≤ 1099511627776) : DoesM Try.prog 13 [.osl LK, .int .i64 k] (.int .i64) xs (.int .i64 (k + xs.length)) (mkI k xs.length) := by
  refine DoesM.of_awp (X := cx 19) Try.func13 rfl (by kernel_rfl) rfl (by simp [cx]) rfl (by simp) (by simp) ?_
  conv => whnf
  repeat (first
    | (refine ⟨⟨by kernel_rfl, by kernel_rfl⟩, ?_⟩; conv => whnf)
    | (refine And.intro (by first | omega | (simp; done) | (simp; omega)) ?_; conv => whnf)
    | (refine Or.inl (And.intro (by omega) ?_); conv => whnf))
  refine ⟨Nat × Int, fun p => p.1 ≤ xs.length ∧ p.2 = k + p.1, fun p => [(0, .osl LK), (1, .int .i64 p.2), (5, .int .i64 p.1)], fun p => [(LK, .tab (.int .i64) (wrN xs (fun i => k + i) p.1))], fun p => xs.length - p.1, ⟨(0, k), id, ⟨Nat.zero_le _, by simp⟩, rfl, ⟨rfl, rfl, rfl, trivial⟩, ⟨rfl, trivial⟩⟩, fun p hi => ?_⟩
  obtain ⟨i, j⟩ := p
  obtain ⟨hi, hj⟩ := hi
  dsimp only at hi hj
  subst hj
  conv => whnf
  (refine br_intro (fun h => ?_) (fun h => ?_) <;> (conv => whnf))
  · have h : i < xs.length := by simp at h; omega
    repeat (first
      | (refine ⟨⟨by kernel_rfl, by kernel_rfl⟩, ?_⟩; conv => whnf)
      | (refine And.intro (by first | omega | (simp; done) | (simp; omega)) ?_; conv => whnf)
      | (refine Or.inl (And.intro (by omega) ?_); conv => whnf))
    refine ⟨(i + 1, k + i + 1), id, ⟨⟨h, by dsimp only; omega⟩, by dsimp only; omega⟩, rfl, ⟨rfl, rfl, rfl, trivial⟩, ⟨rfl, trivial⟩⟩
  · have h : i = xs.length := by simp at h; omega
    subst h
    exact ⟨rfl, congrArg (fun l => KS.live (Blk.tab (.int .i64) l)) (wrN_all xs (fun i => k + i))⟩

theorem lHeldI {xs : List Int} {t : AV} {k : Int} (hn : xs.length ≤ 67108864) (h0 : -1099511627776 ≤ k) (h1 : k ≤ 1099511627776) : Does Try.prog 14 [.sli (.int .i64) (mkI k xs.length) t, .int .i64 k] (.int .i64 (k + xs.length)) := by
  refine Does.of_awp (X := cx 21) Try.func14 rfl (by kernel_rfl) rfl (by simp [cx]) [] rfl ?_
  conv => whnf
  repeat (first
    | (refine ⟨⟨by kernel_rfl, by kernel_rfl⟩, ?_⟩; conv => whnf)
    | (refine And.intro (by first | omega | (simp; done) | (simp; omega)) ?_; conv => whnf)
    | (refine Or.inl (And.intro (by omega) ?_); conv => whnf))
  refine ⟨Nat × Int, fun p => p.1 ≤ xs.length ∧ p.2 = k + p.1, fun p => [(0, .sli (.int .i64) (mkI k xs.length) t), (1, .int .i64 p.2), (5, .int .i64 p.1)], fun _ => [], fun p => xs.length - p.1, ⟨(0, k), id, ⟨Nat.zero_le _, by simp⟩, rfl, ⟨rfl, rfl, rfl, trivial⟩, trivial⟩, fun p hi => ?_⟩
  obtain ⟨i, j⟩ := p
  obtain ⟨hi, hj⟩ := hi
  dsimp only at hi hj
  subst hj
  conv => whnf
  (refine br_intro (fun h => ?_) (fun h => ?_) <;> (conv => whnf))
  · have h : i < xs.length := by simp at h; omega
    have e : (mkI k xs.length).getD i (0 : Int) = k + i := by rw [mkI, tabN_getD _ h]
    repeat (first
      | (refine ⟨⟨by kernel_rfl, by kernel_rfl⟩, ?_⟩; conv => whnf)
      | (refine And.intro (by first | omega | (simp; done) | (simp; omega)) ?_; conv => whnf)
      | (refine Or.inl (And.intro (by omega) ?_); conv => whnf))
    (refine br_intro (fun h2 => ?_) (fun h2 => ?_) <;> (conv => whnf))
    · exfalso
      have h3 : ((mkI k xs.length).getD i (0 : Int) != k + i) = true := h2
      rw [e] at h3; simp at h3
    · repeat (first
        | (refine ⟨⟨by kernel_rfl, by kernel_rfl⟩, ?_⟩; conv => whnf)
        | (refine And.intro (by first | omega | (simp; done) | (simp; omega)) ?_; conv => whnf)
        | (refine Or.inl (And.intro (by omega) ?_); conv => whnf))
      refine ⟨(i + 1, k + i + 1), id, ⟨⟨h, by dsimp only; omega⟩, by dsimp only; omega⟩, rfl, ⟨rfl, rfl, rfl, trivial⟩, trivial⟩
  · have h : i = xs.length := by simp at h; omega
    subst h
    repeat (first
      | (refine ⟨⟨by kernel_rfl, by kernel_rfl⟩, ?_⟩; conv => whnf)
      | (refine And.intro (by first | omega | (simp; done) | (simp; omega)) ?_; conv => whnf)
      | (refine Or.inl (And.intro (by omega) ?_); conv => whnf))
    all_goals (try (conv => whnf))
    all_goals (repeat' (first | exact True.intro | (refine And.intro ?_ ?_ <;> (conv => whnf))))
    all_goals (first | rfl | (simp_all []; done) | (simp only [cond_true, cond_false, Bool.and_true, Bool.true_and, Bool.and_false, Bool.false_and]; rfl) | (simp_all []; omega))

end Go.Proofs.Ytngmlbeafdaolaa
