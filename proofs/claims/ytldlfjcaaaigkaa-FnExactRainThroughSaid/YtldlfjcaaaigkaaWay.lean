/- What each function of this seat does (Way). Printed from templates of this seat's own. -/
import Derived.Test.YtldlfjcaaaigkaaFal
namespace Go.Proofs.Ytldlfjcaaaigkaa
open Go.Ax Go.Bx
set_option maxRecDepth 8000
set_option linter.unusedSimpArgs false
set_option linter.unusedVariables false
theorem allN_list {α : Type} (p : α → Bool) (l : List α) (d : α) : allN (fun j => p (l.getD j d)) l.length = l.all p := by
  rw [Bool.eq_iff_iff, allN_iff, List.all_eq_true]
  constructor
  · intro h x hx
    obtain ⟨j, hj, rfl⟩ := List.getElem_of_mem hx
    have := h j hj
    rwa [List.getD_eq_getElem?_getD, List.getElem?_eq_getElem hj] at this
  · intro h j hj
    exact h _ (getD_mem hj d)
def isBes (W H c d : Int) : Bool := (nbL W H c 8).any fun r => r.1 == d
theorem bes_mono {W H c d : Int} {k : Nat} (h : ((nbL W H c k).any fun r => r.1 == d) = true) : ∀ n, ((nbL W H c (k + n)).any fun r => r.1 == d) = true
  | 0 => h
  | n + 1 => by
    have := bes_mono h n
    show ((nbL W H c (k + n) ++ _).any fun r => r.1 == d) = true
    rw [List.any_append, this]; rfl

theorem sBeside {W H c d : Int} {xs : List Nat} {t t' : AV} (hC : Cel W H c) : Does Try.prog 66 [.ref [.int .i64 W, .int .i64 H, .sli .f32 xs t] t', .int .i64 c, .int .i64 d] (.bool (isBes W H c d)) := by
  have k1 := hC.1.1
  refine Does.of_awp (X := cx 29) Try.func66 rfl (by kernel_rfl) rfl (by simp [cx]) [] rfl ?_
  conv => whnf
  repeat (first
    | (refine ⟨⟨by kernel_rfl, by kernel_rfl⟩, ?_⟩; conv => whnf)
    | (refine And.intro (by first | omega | (simp; done) | (simp; omega)) ?_; conv => whnf)
    | (refine Or.inl (And.intro (by omega) ?_); conv => whnf)
    | (refine Exists.intro _ (And.intro (sNear hC) ?_); conv => whnf))
  refine ⟨Nat, fun k => k ≤ 8 ∧ ((nbL W H c k).any fun r => r.1 == d) = false, fun k => [(2, .int .i64 d), (7, .osl 44), (8, .int .i64 k)], fun k => [(44, .tab (.int .i64) (nearL W H c))], fun k => 8 - k, ⟨0, id, ⟨Nat.zero_le _, rfl⟩, rfl, ⟨rfl, rfl, rfl, trivial⟩, ⟨rfl, trivial⟩⟩, fun k hk => ?_⟩
  obtain ⟨hk, hA⟩ := hk
  conv => whnf
  (refine br_intro (fun h2 => ?_) (fun h2 => ?_) <;> (conv => whnf))
  · have h2 : k < 8 := by simp at h2; omega
    have hlN : (nearL W H c).length = 8 := tabN_len _ _
    have hg : (nearL W H c).getD (k : Int).toNat (RK.int .i64).z = nbAt W H c k := nearL_getD h2
    repeat (first
      | (refine ⟨⟨by kernel_rfl, by kernel_rfl⟩, ?_⟩; conv => whnf)
      | (refine And.intro (by first | omega | (simp; done) | (simp; omega)) ?_; conv => whnf)
      | (refine Or.inl (And.intro (by omega) ?_); conv => whnf))
    cases hO : nbOk W H c k with
    | false =>
      have hg' := hg
      rw [nbAt_neg hO] at hg'
      (refine br_intro (fun h3 => ?_) (fun h3 => ?_) <;> (conv => whnf))
      · exfalso
        have h3 : decide ((nearL W H c).getD (k : Int).toNat (RK.int .i64).z ≥ 0) = true := h3
        rw [hg'] at h3; simp at h3
      · repeat (first
          | (refine ⟨⟨by kernel_rfl, by kernel_rfl⟩, ?_⟩; conv => whnf)
          | (refine And.intro (by first | omega | (simp; done) | (simp; omega)) ?_; conv => whnf)
          | (refine Or.inl (And.intro (by omega) ?_); conv => whnf))
        refine ⟨k + 1, id, ⟨⟨h2, by rw [← nbL_no hO]; exact hA⟩, by dsimp only; omega⟩, rfl, ⟨rfl, rfl, rfl, trivial⟩, ⟨rfl, trivial⟩⟩
    | true =>
      have r := nbC_range k1 hO
      have hg' := hg
      rw [nbAt_pos hO] at hg'
      (refine br_intro (fun h3 => ?_) (fun h3 => ?_) <;> (conv => whnf))
      · repeat (first
          | (refine ⟨⟨by kernel_rfl, by kernel_rfl⟩, ?_⟩; conv => whnf)
          | (refine And.intro (by first | omega | (simp; done) | (simp; omega)) ?_; conv => whnf)
          | (refine Or.inl (And.intro (by omega) ?_); conv => whnf))
        (refine br_intro (fun h4 => ?_) (fun h4 => ?_) <;> (conv => whnf))
        · have h4 : ((nearL W H c).getD (k : Int).toNat (RK.int .i64).z == d) = true := h4
          rw [hg'] at h4
          have h5 : ((nbL W H c (k + 1)).any fun r => r.1 == d) = true := by rw [← nbL_yes hO, List.any_append, hA]; simp [h4]
          have h6 := bes_mono h5 (7 - k)
          rw [show k + 1 + (7 - k) = 8 by omega] at h6
          have h7 : isBes W H c d = true := h6
          clear h6 h5 hA
          all_goals (try (conv => whnf))
          all_goals (repeat' (first | exact True.intro | (refine And.intro ?_ ?_ <;> (conv => whnf))))
          all_goals (first | rfl | (simp_all [h7]; done) | (simp only [h7, cond_true, cond_false, Bool.and_true, Bool.true_and, Bool.and_false, Bool.false_and]; rfl) | (simp_all [h7]; omega))
        · have h4 : ((nearL W H c).getD (k : Int).toNat (RK.int .i64).z == d) = false := h4
          rw [hg'] at h4
          repeat (first
            | (refine ⟨⟨by kernel_rfl, by kernel_rfl⟩, ?_⟩; conv => whnf)
            | (refine And.intro (by first | omega | (simp; done) | (simp; omega)) ?_; conv => whnf)
            | (refine Or.inl (And.intro (by omega) ?_); conv => whnf))
          refine ⟨k + 1, id, ⟨⟨h2, by rw [← nbL_yes hO, List.any_append, hA]; simp [h4]⟩, by dsimp only; omega⟩, rfl, ⟨rfl, rfl, rfl, trivial⟩, ⟨rfl, trivial⟩⟩
      · exfalso
        have h3 : decide ((nearL W H c).getD (k : Int).toNat (RK.int .i64).z ≥ 0) = false := h3
        rw [hg'] at h3; simp at h3; omega
  · have h2 : k = 8 := by simp at h2; omega
    subst h2
    have h7 : isBes W H c d = false := hA
    clear hA
    all_goals (try (conv => whnf))
    all_goals (repeat' (first | exact True.intro | (refine And.intro ?_ ?_ <;> (conv => whnf))))
    all_goals (first | rfl | (simp_all [h7]; done) | (simp only [h7, cond_true, cond_false, Bool.and_true, Bool.true_and, Bool.and_false, Bool.false_and]; rfl) | (simp_all [h7]; omega))

theorem iWay1 {r : Int × Nat} {d : Int} {t : AV} : Does Try.prog 68 [.agg [.int .i64 r.1, .flt .f32 r.2], .ref [.int .i64 d] t] (.bool (r.1 == d)) := by
  refine Does.of_awp (X := cx 8) Try.func68 rfl (by kernel_rfl) rfl (by simp [cx]) [] rfl ?_
  conv => whnf
  repeat (first
    | (refine ⟨⟨by kernel_rfl, by kernel_rfl⟩, ?_⟩; conv => whnf)
    | (refine And.intro (by first | omega | (simp; done) | (simp; omega)) ?_; conv => whnf)
    | (refine Or.inl (And.intro (by omega) ?_); conv => whnf))
  all_goals (try (conv => whnf))
  all_goals (repeat' (first | exact True.intro | (refine And.intro ?_ ?_ <;> (conv => whnf))))
  all_goals (first | rfl | (simp_all []; done) | (simp only [cond_true, cond_false, Bool.and_true, Bool.true_and, Bool.and_false, Bool.false_and]; rfl) | (simp_all []; omega))

theorem xIndexFuncN {xs : List (Int × Nat)} {t t' : AV} {d : Int} (hn : xs.length ≤ 1048576) :
    ∃ n : Int, Does Try.prog 72 [.sli .nb xs t, .fn 68 [.ref [.int .i64 d] t']] (.int .i64 n) ∧ decide (n ≥ 0) = !allN (fun j => !((xs.getD j RK.nb.z).1 == d)) xs.length := by
  by_cases hex : ∃ i, i < xs.length ∧ (!((xs.getD i RK.nb.z).1 == d)) = false ∧ allN (fun j => !((xs.getD j RK.nb.z).1 == d)) i = true
  · obtain ⟨k, hk, hpk, hak⟩ := hex
    refine ⟨k, ?_, by rw [allN_false hk hpk]; simp⟩
    refine Does.of_awp (X := cx 19) Try.func72 rfl (by kernel_rfl) rfl (by simp [cx]) [] rfl ?_
    conv => whnf
    refine ⟨Nat, fun i => i ≤ k, fun i => [(0, .sli .nb xs t), (1, .fn 68 [.ref [.int .i64 d] t']), (7, .int .i64 xs.length), (8, .int .i64 i)], fun _ => [], fun i => xs.length - i, ⟨0, id, Nat.zero_le _, rfl, ⟨rfl, rfl, rfl, rfl, trivial⟩, trivial⟩, fun i hi => ?_⟩
    conv => whnf
    (refine br_intro (fun h => ?_) (fun h => ?_) <;> (conv => whnf))
    · have h : i < xs.length := by simp at h; omega
      repeat (first
        | (refine ⟨⟨by kernel_rfl, by kernel_rfl⟩, ?_⟩; conv => whnf)
        | (refine And.intro (by first | omega | (simp; done) | (simp; omega)) ?_; conv => whnf)
        | (refine Or.inl (And.intro (by omega) ?_); conv => whnf)
        | (refine Exists.intro _ (And.intro (iWay1 (r := xs.getD i RK.nb.z)) ?_); conv => whnf))
      (refine br_intro (fun hs => ?_) (fun hs => ?_) <;> (conv => whnf))
      · have hs : ((xs.getD i RK.nb.z).1 == d) = true := hs
        have : ¬ i < k := fun hlt => by have := allN_iff.1 hak i hlt; simp only [hs] at this; cases this
        have : i = k := by omega
        subst this
        all_goals (try (conv => whnf))
        all_goals (repeat' (first | exact True.intro | (refine And.intro ?_ ?_ <;> (conv => whnf))))
        all_goals (first | rfl | (simp_all []; done) | (simp only [cond_true, cond_false, Bool.and_true, Bool.true_and, Bool.and_false, Bool.false_and]; rfl) | (simp_all []; omega))
      · have hs : ((xs.getD i RK.nb.z).1 == d) = false := hs
        have : i ≠ k := fun e => by subst e; rw [hs] at hpk; cases hpk
        repeat (first
          | (refine ⟨⟨by kernel_rfl, by kernel_rfl⟩, ?_⟩; conv => whnf)
          | (refine And.intro (by first | omega | (simp; done) | (simp; omega)) ?_; conv => whnf)
          | (refine Or.inl (And.intro (by omega) ?_); conv => whnf))
        refine ⟨i + 1, id, ⟨by omega, by dsimp only; omega⟩, rfl, ⟨rfl, rfl, rfl, rfl, trivial⟩, trivial⟩
    · exfalso; simp at h; omega
  · have hall : ∀ i, i ≤ xs.length → allN (fun j => !((xs.getD j RK.nb.z).1 == d)) i = true := by
      intro i
      induction i with
      | zero => intro _; rfl
      | succ i ih =>
        intro hi
        have ih := ih (by omega)
        rw [allN, ih, Bool.true_and]
        cases hp : (!((xs.getD i RK.nb.z).1 == d)) with
        | true => rfl
        | false => exact absurd ⟨i, by omega, hp, ih⟩ hex
    refine ⟨-1, ?_, by rw [hall _ (Nat.le_refl _)]; simp⟩
    refine Does.of_awp (X := cx 19) Try.func72 rfl (by kernel_rfl) rfl (by simp [cx]) [] rfl ?_
    conv => whnf
    refine ⟨Nat, fun i => i ≤ xs.length, fun i => [(0, .sli .nb xs t), (1, .fn 68 [.ref [.int .i64 d] t']), (7, .int .i64 xs.length), (8, .int .i64 i)], fun _ => [], fun i => xs.length - i, ⟨0, id, Nat.zero_le _, rfl, ⟨rfl, rfl, rfl, rfl, trivial⟩, trivial⟩, fun i hi => ?_⟩
    conv => whnf
    (refine br_intro (fun h => ?_) (fun h => ?_) <;> (conv => whnf))
    · have h : i < xs.length := by simp at h; omega
      repeat (first
        | (refine ⟨⟨by kernel_rfl, by kernel_rfl⟩, ?_⟩; conv => whnf)
        | (refine And.intro (by first | omega | (simp; done) | (simp; omega)) ?_; conv => whnf)
        | (refine Or.inl (And.intro (by omega) ?_); conv => whnf)
        | (refine Exists.intro _ (And.intro (iWay1 (r := xs.getD i RK.nb.z)) ?_); conv => whnf))
      (refine br_intro (fun hs => ?_) (fun hs => ?_) <;> (conv => whnf))
      · have hs : ((xs.getD i RK.nb.z).1 == d) = true := hs
        have := allN_iff.1 (hall _ (Nat.le_refl _)) i h
        simp only [hs] at this; cases this
      · repeat (first
          | (refine ⟨⟨by kernel_rfl, by kernel_rfl⟩, ?_⟩; conv => whnf)
          | (refine And.intro (by first | omega | (simp; done) | (simp; omega)) ?_; conv => whnf)
          | (refine Or.inl (And.intro (by omega) ?_); conv => whnf))
        refine ⟨i + 1, id, ⟨h, by dsimp only; omega⟩, rfl, ⟨rfl, rfl, rfl, rfl, trivial⟩, trivial⟩
theorem any_allN {xs : List (Int × Nat)} {d : Int} : (!allN (fun j => !((xs.getD j RK.nb.z).1 == d)) xs.length) = xs.any fun r => r.1 == d := by
  rw [allN_list (fun r : Int × Nat => !(r.1 == d)) xs RK.nb.z, ← List.not_any_eq_all_not, Bool.not_not]
theorem xContainsFuncN {xs : List (Int × Nat)} {t t' : AV} {d : Int} (hn : xs.length ≤ 1048576) :
    Does Try.prog 46 [.sli .nb xs t, .fn 68 [.ref [.int .i64 d] t']] (.bool (xs.any fun r => r.1 == d)) := by
  obtain ⟨n, h1, h2⟩ := xIndexFuncN (t := .sli .nb xs t) (t' := .ref [.int .i64 d] t') (d := d) hn
  rw [← any_allN, ← h2]
  clear h2
  refine Does.of_awp (X := cx 9) Try.func46 rfl (by kernel_rfl) rfl (by simp [cx]) [] rfl ?_
  conv => whnf
  repeat (first
    | (refine ⟨⟨by kernel_rfl, by kernel_rfl⟩, ?_⟩; conv => whnf)
    | (refine And.intro (by first | omega | (simp; done) | (simp; omega)) ?_; conv => whnf)
    | (refine Or.inl (And.intro (by omega) ?_); conv => whnf)
    | (refine Exists.intro _ (And.intro (h1) ?_); conv => whnf))
  all_goals (try (conv => whnf))
  all_goals (repeat' (first | exact True.intro | (refine And.intro ?_ ?_ <;> (conv => whnf))))
  all_goals (first | rfl | (simp_all []; done) | (simp only [cond_true, cond_false, Bool.and_true, Bool.true_and, Bool.and_false, Bool.false_and]; rfl) | (simp_all []; omega))

end Go.Proofs.Ytldlfjcaaaigkaa
