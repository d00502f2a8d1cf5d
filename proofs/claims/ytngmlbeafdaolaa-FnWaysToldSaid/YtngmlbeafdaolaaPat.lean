/- What each function of this seat does (Pat). Printed from templates of this seat's own. -/
import Derived.Test.YtngmlbeafdaolaaWay
namespace Go.Proofs.Ytngmlbeafdaolaa
open Go.Ax Go.Bx
set_option maxRecDepth 8000
set_option linter.unusedSimpArgs false
set_option linter.unusedVariables false
noncomputable def paM (ds : List Int) (c : Int) : Nat := leastN fun n => wyCur ds c n < 0
noncomputable def paL (ds : List Int) (c : Int) : List Int := tabN (wyCur ds c) (paM ds c)
noncomputable def paC (W H : Int) (xs : List Nat) (ds : List Int) (c : Int) : Bool := waysB W H xs ds && inR c 0 (W * H - 1)
noncomputable def paO (W H : Int) (xs : List Nat) (ds : List Int) (c : Int) : List Int := bif paC W H xs ds c then paL ds c else []
/-- Ways that lead down, each to an end. -/
def Wys (W H : Int) (ds : List Int) : Prop := (1 ≤ W ∧ W ≤ 16 ∧ 1 ≤ H ∧ H ≤ 16) ∧ (ds.length : Int) = W * H ∧ W * H ≤ 256 ∧ allN (wyBe W H ds) ds.length = true ∧ allN (wyAc ds) ds.length = true
theorem waysB_Wys {W H : Int} {xs : List Nat} {ds : List Int} (h : waysB W H xs ds = true) : Wys W H ds := by
  simp only [waysB, Bool.and_eq_true, decide_eq_true_eq] at h
  obtain ⟨⟨⟨h1, h2⟩, h3⟩, h4⟩ := h
  obtain ⟨k1, k2, k3, k4, k5, k6, k7⟩ := hill_len h1
  exact ⟨⟨k1, k2, k3, k4⟩, by omega, k7, h3, h4⟩
theorem paM_spec {W H : Int} {ds : List Int} {c : Int} (hW : Wys W H ds) (hc : 0 ≤ c ∧ c < W * H) : (wyCur ds c (paM ds c) < 0 ∧ ∀ n, n < paM ds c → 0 ≤ wyCur ds c n) ∧ 1 ≤ paM ds c ∧ paM ds c ≤ ds.length + 1 ∧ ∀ n, -1 ≤ wyCur ds c n ∧ wyCur ds c n < W * H := by
  obtain ⟨hs, hl, hm, hB, hA⟩ := hW
  obtain ⟨i, rfl⟩ : ∃ i : Nat, c = i := ⟨c.toNat, by omega⟩
  have hi : i < ds.length := by omega
  have he : wyCur ds i (ds.length + 1) < 0 := by
    have := allN_iff.1 hA i hi
    unfold wyAc at this
    exact of_decide_eq_true this
  have hsp := leastN_spec (p := fun n => wyCur ds i n < 0) ⟨_, he⟩
  have hfirst : ∀ n, n < paM ds i → 0 ≤ wyCur ds i n := fun n hn => by
    rcases Int.lt_or_le (wyCur ds i n) 0 with h | h
    · have := leastN_le (p := fun n => wyCur ds i n < 0) h
      unfold paM at hn
      omega
    · exact h
  refine ⟨⟨hsp, hfirst⟩, ?_, ?_, wyCur_range hs.1 hB hl hi⟩
  · rcases Nat.eq_zero_or_pos (paM ds i) with h0 | h0
    · have := hsp
      change wyCur ds i (paM ds i) < 0 at this
      rw [h0] at this
      have h1 : wyCur ds i 0 = i := rfl
      omega
    · exact h0
  · rcases Nat.lt_or_ge (ds.length + 1) (paM ds i) with h | h
    · have := hfirst _ h; omega
    · exact h

theorem iPath {W H c : Int} {ds : List Int} {t : AV} (hW : Wys W H ds) (hc : 0 ≤ c ∧ c < W * H) : Does Try.prog 54 [.sli (.int .i64) ds t, .int .i64 c] (.own 0 (.int .i64) (paL ds c)) := by
  obtain ⟨⟨p1, p2⟩, p3, p4, p5⟩ := paM_spec hW hc
  obtain ⟨hs, hl, hm, _, _⟩ := hW
  refine Does.of_awp (X := cx 22) Try.func54 rfl (by kernel_rfl) rfl (by simp [cx]) [28] rfl ?_
  conv => whnf
  repeat (first
    | (refine ⟨⟨by kernel_rfl, by kernel_rfl⟩, ?_⟩; conv => whnf)
    | (refine And.intro (by first | omega | (simp; done) | (simp; omega)) ?_; conv => whnf)
    | (refine Or.inl (And.intro (by omega) ?_); conv => whnf))
  refine ⟨Nat, fun n => n < paM ds c, fun n => [(0, .sli (.int .i64) ds t), (1, .int .i64 (wyCur ds c n)), (5, .osl 28)], fun n => [(28, .tab (.int .i64) (tabN (wyCur ds c) (n + 1)))], fun n => paM ds c - n, ⟨0, id, p3, rfl, ⟨rfl, rfl, rfl, trivial⟩, ⟨rfl, trivial⟩⟩, fun n hn => ?_⟩
  have hr := p5 n
  have hr' := p5 (n + 1)
  have h0 := p2 n hn
  have es := wyCur_pos h0
  dsimp only at hn
  conv => whnf
  repeat (first
    | (refine ⟨⟨by kernel_rfl, by kernel_rfl⟩, ?_⟩; conv => whnf)
    | (refine And.intro (by first | omega | (simp; done) | (simp; omega)) ?_; conv => whnf)
    | (refine Or.inl (And.intro (by omega) ?_); conv => whnf))
  (refine br_intro (fun h => ?_) (fun h => ?_) <;> (conv => whnf))
  · have h : decide (ds.getD (wyCur ds c n).toNat 0 ≥ 0) = true := h
    have h : 0 ≤ wyCur ds c (n + 1) := by rw [es]; simpa using h
    have hlt : n + 1 < paM ds c := by
      rcases Nat.lt_or_eq_of_le (show n + 1 ≤ paM ds c from hn) with h' | h'
      · exact h'
      · rw [← h'] at p1; omega
    repeat (first
      | (refine ⟨⟨by kernel_rfl, by kernel_rfl⟩, ?_⟩; conv => whnf)
      | (refine And.intro (by first | omega | (simp; done) | (simp; omega)) ?_; conv => whnf)
      | (refine Or.inl (And.intro (by omega) ?_); conv => whnf))
    refine ⟨n + 1, ren [(28, 80)], ⟨hlt, by dsimp only; omega⟩, rfl, ⟨rfl, congrArg (AV.int .i64) es.symm, rfl, trivial⟩, ⟨congrArg (fun x => KS.live (Blk.tab (.int .i64) (tabN (wyCur ds c) (n + 1) ++ [x]))) es.symm, trivial⟩⟩
  · have h : decide (ds.getD (wyCur ds c n).toNat 0 ≥ 0) = false := h
    have h : wyCur ds c (n + 1) < 0 := by
      rw [es]
      have := of_decide_eq_false h
      omega
    have e : n + 1 = paM ds c := by
      rcases Nat.lt_or_eq_of_le (show n + 1 ≤ paM ds c from hn) with h' | h'
      · have := p2 _ h'; omega
      · exact h'
    have e' : tabN (wyCur ds c) (n + 1) = paL ds c := by rw [e]; rfl
    repeat (first
      | (refine ⟨⟨by kernel_rfl, by kernel_rfl⟩, ?_⟩; conv => whnf)
      | (refine And.intro (by first | omega | (simp; done) | (simp; omega)) ?_; conv => whnf)
      | (refine Or.inl (And.intro (by omega) ?_); conv => whnf))
    exact congrArg (AV.own 0 (.int .i64)) e'
theorem paO_len (W H : Int) (xs : List Nat) (ds : List Int) (c : Int) : (paO W H xs ds c).length ≤ 1048576 := by
  unfold paO
  cases h : paC W H xs ds c
  · exact Nat.zero_le _
  · simp only [paC, Bool.and_eq_true] at h
    have hW := waysB_Wys h.1
    have hc : 0 ≤ c ∧ c < W * H := by
      have := h.2
      simp only [inR, Bool.and_eq_true, decide_eq_true_eq] at this
      omega
    obtain ⟨_, p3, p4, _⟩ := paM_spec hW hc
    obtain ⟨hs, hl, hm, _, _⟩ := hW
    rw [cond_true, paL, tabN_len]; omega

theorem iPathFrom {W H c : Int} {xs : List Nat} {ds : List Int} {t t2 : AV} (hn : xs.length ≤ 1048576) (hn' : ds.length ≤ 1048576) : Does Try.prog 23 [.agg [.int .i64 W, .int .i64 H, .sli .f32 xs t], .sli (.int .i64) ds t2, .int .i64 c] (.tup [.own 0 (.int .i64) (paO W H xs ds c), .bool (paC W H xs ds c)]) := by
  refine Does.of_awp (X := cx 21) Try.func23 rfl (by kernel_rfl) rfl (by simp [cx]) [80] rfl ?_
  conv => whnf
  repeat (first
    | (refine ⟨⟨by kernel_rfl, by kernel_rfl⟩, ?_⟩; conv => whnf)
    | (refine And.intro (by first | omega | (simp; done) | (simp; omega)) ?_; conv => whnf)
    | (refine Or.inl (And.intro (by omega) ?_); conv => whnf)
    | (refine Exists.intro _ (And.intro (iWaysB (by first | omega | (simp; done) | (simp; omega)) (by first | omega | (simp; done) | (simp; omega))) ?_); conv => whnf))
  (refine br_intro (fun g1 => ?_) (fun g1 => ?_) <;> (conv => whnf))
  · have g1 : waysB W H xs ds = false := by simpa using g1
    all_goals (try (conv => whnf))
    all_goals (repeat' (first | exact True.intro | (refine And.intro ?_ ?_ <;> (conv => whnf))))
    all_goals (first | rfl | (simp_all [paO, paC]; done) | (simp only [paO, paC, cond_true, cond_false, Bool.and_true, Bool.true_and, Bool.and_false, Bool.false_and]; rfl) | (simp_all [paO, paC]; omega))
  have g1 : waysB W H xs ds = true := by simpa using g1
  have hH : hillB W H xs = true := by
    have := g1
    simp only [waysB, Bool.and_eq_true] at this
    exact this.1.1.1
  have hW := waysB_Wys g1
  have e : ∀ t, Does Try.prog 53 [.agg [.int .i64 W, .int .i64 H, .sli .f32 xs t], .int .i64 c] (.bool (inR c 0 (W * H - 1))) := fun t => by
    have := @iCell W H c xs t hn
    rw [hH] at this; exact this
  repeat (first
    | (refine ⟨⟨by kernel_rfl, by kernel_rfl⟩, ?_⟩; conv => whnf)
    | (refine And.intro (by first | omega | (simp; done) | (simp; omega)) ?_; conv => whnf)
    | (refine Or.inl (And.intro (by omega) ?_); conv => whnf)
    | (refine Exists.intro _ (And.intro (e _) ?_); conv => whnf))
  (refine br_intro (fun g2 => ?_) (fun g2 => ?_) <;> (conv => whnf))
  · have g2 : inR c 0 (W * H - 1) = false := by simpa using g2
    all_goals (try (conv => whnf))
    all_goals (repeat' (first | exact True.intro | (refine And.intro ?_ ?_ <;> (conv => whnf))))
    all_goals (first | rfl | (simp_all [paO, paC]; done) | (simp only [paO, paC, cond_true, cond_false, Bool.and_true, Bool.true_and, Bool.and_false, Bool.false_and]; rfl) | (simp_all [paO, paC]; omega))
  have g2 : inR c 0 (W * H - 1) = true := by simpa using g2
  have hc : 0 ≤ c ∧ c < W * H := by
    have := g2
    simp only [inR, Bool.and_eq_true, decide_eq_true_eq] at this
    omega
  have eC : paC W H xs ds c = true := by rw [paC, g1, g2]; rfl
  clear g1 g2 hH e
  repeat (first
    | (refine ⟨⟨by kernel_rfl, by kernel_rfl⟩, ?_⟩; conv => whnf)
    | (refine And.intro (by first | omega | (simp; done) | (simp; omega)) ?_; conv => whnf)
    | (refine Or.inl (And.intro (by omega) ?_); conv => whnf)
    | (refine Exists.intro _ (And.intro (iPath hW hc) ?_); conv => whnf))
  all_goals (try (conv => whnf))
  all_goals (repeat' (first | exact True.intro | (refine And.intro ?_ ?_ <;> (conv => whnf))))
  all_goals (first | rfl | (simp_all [paO, eC]; done) | (simp only [paO, eC, cond_true, cond_false, Bool.and_true, Bool.true_and, Bool.and_false, Bool.false_and]; rfl) | (simp_all [paO, eC]; omega))

end Go.Proofs.Ytngmlbeafdaolaa
