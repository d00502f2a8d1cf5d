/- What each function of this seat does (Lon). Printed from templates of this seat's own. -/
import Derived.Test.YtfgmbbofmiegdaaPat
namespace Go.Proofs.Ytfgmbbofmiegdaa
open Go.Ax Go.Bx
set_option maxRecDepth 8000
set_option linter.unusedSimpArgs false
set_option linter.unusedVariables false
noncomputable def lpS (ds : List Int) : Nat → List Int
  | 0 => []
  | i + 1 => bif decide (((paL ds i).length : Int) > (lpS ds i).length) then paL ds i else lpS ds i
theorem lpS_len {W H : Int} {ds : List Int} (hW : Wys W H ds) : ∀ i, i ≤ ds.length → (lpS ds i).length ≤ 257
  | 0, _ => Nat.zero_le _
  | i + 1, hi => by
    have hl := hW.2.1
    have hm := hW.2.2.1
    obtain ⟨_, p3, p4, _⟩ := paM_spec hW (c := i) (by omega)
    have hpl : (paL ds i).length ≤ 257 := by rw [paL, tabN_len]; omega
    rw [lpS]
    cases decide (((paL ds i).length : Int) > (lpS ds i).length)
    · exact lpS_len hW i (by omega)
    · exact hpl
theorem lpS_one {W H : Int} {ds : List Int} (hW : Wys W H ds) (h : 0 < ds.length) : lpS ds 1 = paL ds 0 := by
  have hl := hW.2.1
  obtain ⟨_, p3, _, _⟩ := paM_spec hW (c := 0) (by omega)
  show (bif decide (((paL ds ((0 : Nat) : Int)).length : Int) > (([] : List Int).length : Nat)) then paL ds ((0 : Nat) : Int) else []) = _
  rw [decide_eq_true (by rw [show ((0 : Nat) : Int) = 0 from rfl, paL, tabN_len]; simp; omega)]; rfl
noncomputable def lpO (W H : Int) (xs : List Nat) (ds : List Int) : List Int := bif waysB W H xs ds then lpS ds ds.length else []
theorem lpO_len (W H : Int) (xs : List Nat) (ds : List Int) : (lpO W H xs ds).length ≤ 257 := by
  unfold lpO
  cases h : waysB W H xs ds
  · exact Nat.zero_le _
  · exact lpS_len (waysB_Wys h) _ (Nat.le_refl _)

theorem sLongest {W H : Int} {xs : List Nat} {ds : List Int} {t t2 : AV} (hn : xs.length ≤ 1048576) (hn' : ds.length ≤ 1048576) : Does Try.prog 37 [.agg [.int .i64 W, .int .i64 H, .sli .f32 xs t], .sli (.int .i64) ds t2] (.tup [.own 0 (.int .i64) (lpO W H xs ds), .bool (waysB W H xs ds)]) := by
  refine Does.of_awp (X := cx 30) Try.func37 rfl (by kernel_rfl) rfl (by simp [cx]) [400] rfl ?_
  conv => whnf
  repeat (first
    | (refine ⟨⟨by kernel_rfl, by kernel_rfl⟩, ?_⟩; conv => whnf)
    | (refine And.intro (by first | omega | (simp; done) | (simp; omega)) ?_; conv => whnf)
    | (refine Or.inl (And.intro (by omega) ?_); conv => whnf)
    | (refine Exists.intro _ (And.intro (sWaysB (by first | omega | (simp; done) | (simp; omega)) (by first | omega | (simp; done) | (simp; omega))) ?_); conv => whnf))
  (refine br_intro (fun g1 => ?_) (fun g1 => ?_) <;> (conv => whnf))
  · have g1 : waysB W H xs ds = false := by simpa using g1
    all_goals (try (conv => whnf))
    all_goals (repeat' (first | exact True.intro | (refine And.intro ?_ ?_ <;> (conv => whnf))))
    all_goals (first | rfl | (simp_all [lpO]; done) | (simp only [lpO, cond_true, cond_false, Bool.and_true, Bool.true_and, Bool.and_false, Bool.false_and]; rfl) | (simp_all [lpO]; omega))
  have g1 : waysB W H xs ds = true := by simpa using g1
  have hW := waysB_Wys g1
  have hl := hW.2.1
  have hm := hW.2.2.1
  have hp : 0 < ds.length := by
    have := hW.1
    have h4 : 1 ≤ W * H := by
      have := Int.mul_le_mul this.1 this.2.2.1 (by omega) (by omega); omega
    omega
  have eO : lpO W H xs ds = lpS ds ds.length := by rw [lpO, g1]; rfl
  rw [g1, eO]
  clear eO g1
  have hc0 : 0 ≤ (0 : Int) ∧ (0 : Int) < W * H := by omega
  repeat (first
    | (refine ⟨⟨by kernel_rfl, by kernel_rfl⟩, ?_⟩; conv => whnf)
    | (refine And.intro (by first | omega | (simp; done) | (simp; omega)) ?_; conv => whnf)
    | (refine Or.inl (And.intro (by omega) ?_); conv => whnf)
    | (refine Exists.intro _ (And.intro (sPath hW hc0) ?_); conv => whnf))
  refine ⟨Nat, fun i => 1 ≤ i ∧ i ≤ ds.length, fun i => [(1, .sli (.int .i64) ds t2), (6, .osl 400), (7, .int .i64 i)], fun i => [(400, .tab (.int .i64) (lpS ds i))], fun i => ds.length - i, ⟨1, ren [(400, 52)], ⟨Nat.le_refl _, hp⟩, rfl, ⟨rfl, rfl, rfl, trivial⟩, ⟨congrArg (fun l => KS.live (Blk.tab (.int .i64) l)) (lpS_one hW hp).symm, trivial⟩⟩, fun i hi => ?_⟩
  obtain ⟨hi1, hi⟩ := hi
  have hlen := lpS_len hW i hi
  conv => whnf
  (refine br_intro (fun h => ?_) (fun h => ?_) <;> (conv => whnf))
  · have h : i < ds.length := by simp at h; omega
    have hc : 0 ≤ (i : Int) ∧ (i : Int) < W * H := by omega
    repeat (first
      | (refine ⟨⟨by kernel_rfl, by kernel_rfl⟩, ?_⟩; conv => whnf)
      | (refine And.intro (by first | omega | (simp; done) | (simp; omega)) ?_; conv => whnf)
      | (refine Or.inl (And.intro (by omega) ?_); conv => whnf)
      | (refine Exists.intro _ (And.intro (sPath hW hc) ?_); conv => whnf))
    (refine br_intro (fun h2 => ?_) (fun h2 => ?_) <;> (conv => whnf))
    · have es : paL ds i = lpS ds (i + 1) := by rw [lpS, h2]; rfl
      repeat (first
        | (refine ⟨⟨by kernel_rfl, by kernel_rfl⟩, ?_⟩; conv => whnf)
        | (refine And.intro (by first | omega | (simp; done) | (simp; omega)) ?_; conv => whnf)
        | (refine Or.inl (And.intro (by omega) ?_); conv => whnf))
      refine ⟨i + 1, ren [(400, 88)], ⟨⟨by omega, h⟩, by dsimp only; omega⟩, rfl, ⟨rfl, rfl, rfl, trivial⟩, ⟨congrArg (fun l => KS.live (Blk.tab (.int .i64) l)) es, trivial⟩⟩
    · have es : lpS ds i = lpS ds (i + 1) := by rw [lpS, h2]; rfl
      repeat (first
        | (refine ⟨⟨by kernel_rfl, by kernel_rfl⟩, ?_⟩; conv => whnf)
        | (refine And.intro (by first | omega | (simp; done) | (simp; omega)) ?_; conv => whnf)
        | (refine Or.inl (And.intro (by omega) ?_); conv => whnf))
      refine ⟨i + 1, id, ⟨⟨by omega, h⟩, by dsimp only; omega⟩, rfl, ⟨rfl, rfl, rfl, trivial⟩, ⟨congrArg (fun l => KS.live (Blk.tab (.int .i64) l)) es, trivial⟩⟩
  · have h : i = ds.length := by simp at h; omega
    subst h
    repeat (first
      | (refine ⟨⟨by kernel_rfl, by kernel_rfl⟩, ?_⟩; conv => whnf)
      | (refine And.intro (by first | omega | (simp; done) | (simp; omega)) ?_; conv => whnf)
      | (refine Or.inl (And.intro (by omega) ?_); conv => whnf))
    all_goals (try (conv => whnf))
    all_goals (repeat' (first | exact True.intro | (refine And.intro ?_ ?_ <;> (conv => whnf))))
    all_goals (first | rfl | (simp_all []; done) | (simp only [cond_true, cond_false, Bool.and_true, Bool.true_and, Bool.and_false, Bool.false_and]; rfl) | (simp_all []; omega))

theorem iLongest {W H : Int} {xs : List Nat} {ds : List Int} {t t2 : AV} (hn : xs.length ≤ 1048576) (hn' : ds.length ≤ 1048576) : Does Try.prog 38 [.agg [.int .i64 W, .int .i64 H, .sli .f32 xs t], .sli (.int .i64) ds t2] (.tup [.own 0 (.int .i64) (lpO W H xs ds), .bool (waysB W H xs ds)]) := by
  refine Does.of_awp (X := cx 30) Try.func38 rfl (by kernel_rfl) rfl (by simp [cx]) [400] rfl ?_
  conv => whnf
  repeat (first
    | (refine ⟨⟨by kernel_rfl, by kernel_rfl⟩, ?_⟩; conv => whnf)
    | (refine And.intro (by first | omega | (simp; done) | (simp; omega)) ?_; conv => whnf)
    | (refine Or.inl (And.intro (by omega) ?_); conv => whnf)
    | (refine Exists.intro _ (And.intro (iWaysB (by first | omega | (simp; done) | (simp; omega)) (by first | omega | (simp; done) | (simp; omega))) ?_); conv => whnf))
  (refine br_intro (fun g1 => ?_) (fun g1 => ?_) <;> (conv => whnf))
  · have g1 : waysB W H xs ds = false := by simpa using g1
    all_goals (try (conv => whnf))
    all_goals (repeat' (first | exact True.intro | (refine And.intro ?_ ?_ <;> (conv => whnf))))
    all_goals (first | rfl | (simp_all [lpO]; done) | (simp only [lpO, cond_true, cond_false, Bool.and_true, Bool.true_and, Bool.and_false, Bool.false_and]; rfl) | (simp_all [lpO]; omega))
  have g1 : waysB W H xs ds = true := by simpa using g1
  have hW := waysB_Wys g1
  have hl := hW.2.1
  have hm := hW.2.2.1
  have eO : lpO W H xs ds = lpS ds ds.length := by rw [lpO, g1]; rfl
  rw [g1, eO]
  clear eO g1
  repeat (first
    | (refine ⟨⟨by kernel_rfl, by kernel_rfl⟩, ?_⟩; conv => whnf)
    | (refine And.intro (by first | omega | (simp; done) | (simp; omega)) ?_; conv => whnf)
    | (refine Or.inl (And.intro (by omega) ?_); conv => whnf))
  refine ⟨Nat, fun i => i ≤ ds.length, fun i => [(1, .sli (.int .i64) ds t2), (6, .osl 400), (15, .int .i64 ds.length), (16, .int .i64 i)], fun i => [(400, .tab (.int .i64) (lpS ds i))], fun i => ds.length - i, ⟨0, ren [(400, 52)], Nat.zero_le _, rfl, ⟨rfl, rfl, rfl, rfl, trivial⟩, ⟨rfl, trivial⟩⟩, fun i hi => ?_⟩
  have hlen := lpS_len hW i hi
  conv => whnf
  (refine br_intro (fun h => ?_) (fun h => ?_) <;> (conv => whnf))
  · have h : i < ds.length := by simp at h; omega
    have hc : 0 ≤ (i : Int) ∧ (i : Int) < W * H := by omega
    repeat (first
      | (refine ⟨⟨by kernel_rfl, by kernel_rfl⟩, ?_⟩; conv => whnf)
      | (refine And.intro (by first | omega | (simp; done) | (simp; omega)) ?_; conv => whnf)
      | (refine Or.inl (And.intro (by omega) ?_); conv => whnf)
      | (refine Exists.intro _ (And.intro (iPath hW hc) ?_); conv => whnf))
    (refine br_intro (fun h2 => ?_) (fun h2 => ?_) <;> (conv => whnf))
    · have es : paL ds i = lpS ds (i + 1) := by rw [lpS, h2]; rfl
      repeat (first
        | (refine ⟨⟨by kernel_rfl, by kernel_rfl⟩, ?_⟩; conv => whnf)
        | (refine And.intro (by first | omega | (simp; done) | (simp; omega)) ?_; conv => whnf)
        | (refine Or.inl (And.intro (by omega) ?_); conv => whnf))
      refine ⟨i + 1, ren [(400, 84)], ⟨h, by dsimp only; omega⟩, rfl, ⟨rfl, rfl, rfl, rfl, trivial⟩, ⟨congrArg (fun l => KS.live (Blk.tab (.int .i64) l)) es, trivial⟩⟩
    · have es : lpS ds i = lpS ds (i + 1) := by rw [lpS, h2]; rfl
      repeat (first
        | (refine ⟨⟨by kernel_rfl, by kernel_rfl⟩, ?_⟩; conv => whnf)
        | (refine And.intro (by first | omega | (simp; done) | (simp; omega)) ?_; conv => whnf)
        | (refine Or.inl (And.intro (by omega) ?_); conv => whnf))
      refine ⟨i + 1, id, ⟨h, by dsimp only; omega⟩, rfl, ⟨rfl, rfl, rfl, rfl, trivial⟩, ⟨congrArg (fun l => KS.live (Blk.tab (.int .i64) l)) es, trivial⟩⟩
  · have h : i = ds.length := by simp at h; omega
    subst h
    repeat (first
      | (refine ⟨⟨by kernel_rfl, by kernel_rfl⟩, ?_⟩; conv => whnf)
      | (refine And.intro (by first | omega | (simp; done) | (simp; omega)) ?_; conv => whnf)
      | (refine Or.inl (And.intro (by omega) ?_); conv => whnf))
    all_goals (try (conv => whnf))
    all_goals (repeat' (first | exact True.intro | (refine And.intro ?_ ?_ <;> (conv => whnf))))
    all_goals (first | rfl | (simp_all []; done) | (simp only [cond_true, cond_false, Bool.and_true, Bool.true_and, Bool.and_false, Bool.false_and]; rfl) | (simp_all []; omega))

theorem lawLongest (W H : Int) (xs : List Nat) (_ : (IntKind.i64.min ≤ W ∧ W ≤ IntKind.i64.max) ∧ IntKind.i64.min ≤ H ∧ H ≤ IntKind.i64.max) (hn : xs.length < 2 ^ 63) (_ : ∀ y ∈ xs, y < 2 ^ 32) (ds : List Int) (hn' : ds.length < 2 ^ 63) (_ : ∀ y ∈ ds, IntKind.i64.min ≤ y ∧ y ≤ IntKind.i64.max) : Does Try.prog 9 [.agg [.int .i64 W, .int .i64 H, .sli .f32 xs .undef], .sli (.int .i64) ds .undef] (.bool true) := by
  refine Does.of_awp (X := cx 117) Try.func9 rfl (by kernel_rfl) rfl (by simp [cx]) [] rfl ?_
  conv => whnf
  repeat (first
    | (refine ⟨⟨by kernel_rfl, by kernel_rfl⟩, ?_⟩; conv => whnf)
    | (refine And.intro (by first | omega | (simp; done) | (simp; omega)) ?_; conv => whnf)
    | (refine Or.inl (And.intro (by omega) ?_); conv => whnf))
  (refine br_intro (fun h => ?_) (fun h => ?_) <;> (conv => whnf))
  have hc : ds.length ≤ 1048576 := by simp at h; omega
  by_cases hl : xs.length ≤ 1048576
  · have h3 := lpO_len W H xs ds
    repeat (first
      | (refine ⟨⟨by kernel_rfl, by kernel_rfl⟩, ?_⟩; conv => whnf)
      | (refine And.intro (by first | omega | (simp; done) | (simp; omega)) ?_; conv => whnf)
      | (refine Or.inl (And.intro (by omega) ?_); conv => whnf)
      | (refine br_intro (fun h => by exfalso; first | (simp at h; done) | (simp at h; omega) | omega) (fun _ => ?_); conv => whnf)
      | (refine br_intro (fun _ => ?_) (fun h => by exfalso; first | (simp at h; done) | (simp at h; omega) | omega); conv => whnf)
      | (refine Exists.intro _ (And.intro (lSzHill (by first | omega | (simp; done) | (simp; omega)) (by first | omega | (simp; done) | (simp; omega))) ?_); conv => whnf)
      | (refine Exists.intro _ (And.intro (lToHill (by first | omega | (simp; done) | (simp; omega))) ?_); conv => whnf)
      | (refine Exists.intro _ (And.intro (lToI (by first | omega | (simp; done) | (simp; omega))) ?_); conv => whnf)
      | (refine Exists.intro _ (And.intro (sLongest (by first | omega | (simp; done) | (simp; omega)) (by first | omega | (simp; done) | (simp; omega))) ?_); conv => whnf)
      | (refine Exists.intro _ (And.intro (iLongest (by first | omega | (simp; done) | (simp; omega)) (by first | omega | (simp; done) | (simp; omega))) ?_); conv => whnf)
      | (refine Exists.intro _ (And.intro (lEqHill (by first | omega | (simp; done) | (simp; omega))) ?_); conv => whnf)
      | (refine Exists.intro _ (And.intro (lEqI (by first | omega | (simp; done) | (simp; omega))) ?_); conv => whnf)
      | (refine Exists.intro _ (Exists.intro _ (And.intro (And.intro (lMarkHill (by first | omega | (simp; done) | (simp; omega)) (by first | omega | (simp; done) | (simp; omega)) (by first | omega | (simp; done) | (simp; omega))) (by simp)) ?_)); conv => whnf)
      | (refine Exists.intro _ (Exists.intro _ (And.intro (And.intro (lMarkI (by first | omega | (simp; done) | (simp; omega)) (by first | omega | (simp; done) | (simp; omega)) (by first | omega | (simp; done) | (simp; omega))) (by simp)) ?_)); conv => whnf)
      | (refine Exists.intro _ (And.intro (lHeldI (by first | omega | (simp; done) | (simp; omega)) (by first | omega | (simp; done) | (simp; omega)) (by first | omega | (simp; done) | (simp; omega))) ?_); conv => whnf)
      | (refine Exists.intro _ (And.intro (lHeldHill (by first | omega | (simp; done) | (simp; omega)) (by first | omega | (simp; done) | (simp; omega)) (by first | omega | (simp; done) | (simp; omega))) ?_); conv => whnf))
  · repeat (first
      | (refine ⟨⟨by kernel_rfl, by kernel_rfl⟩, ?_⟩; conv => whnf)
      | (refine And.intro (by first | omega | (simp; done) | (simp; omega)) ?_; conv => whnf)
      | (refine Or.inl (And.intro (by omega) ?_); conv => whnf)
      | (refine br_intro (fun h => by exfalso; first | (simp at h; done) | (simp at h; omega) | omega) (fun _ => ?_); conv => whnf)
      | (refine br_intro (fun _ => ?_) (fun h => by exfalso; first | (simp at h; done) | (simp at h; omega) | omega); conv => whnf)
      | (refine Exists.intro _ (And.intro (lSzHill' (by first | omega | (simp; done) | (simp; omega)) (by first | omega | (simp; done) | (simp; omega)) (by first | omega | (simp; done) | (simp; omega))) ?_); conv => whnf))

end Go.Proofs.Ytfgmbbofmiegdaa
