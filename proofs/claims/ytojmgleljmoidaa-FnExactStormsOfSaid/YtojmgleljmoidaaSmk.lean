/- What each function of this seat does (Smk). Printed from templates of this seat's own. -/
import Derived.Test.YtojmgleljmoidaaRli
namespace Go.Proofs.Ytojmgleljmoidaa
open Go.Ax Go.Bx
set_option maxRecDepth 8000
set_option linter.unusedSimpArgs false
set_option linter.unusedVariables false
noncomputable def mkS (k : Int) (n : Nat) : List S4 := tabN (fun i => (foi .f32 (k + 4 * i), foi .f32 (k + 4 * i + 1), foi .f32 (k + 4 * i + 1 + 1), foi .f32 (k + 4 * i + 1 + 1 + 1))) n
@[simp] theorem mkS_len (k : Int) (n : Nat) : (mkS k n).length = n := tabN_len _ n
theorem getD_set {α : Type} (l : List α) (i : Nat) (x d : α) (h : i < l.length) : (l.set i x).getD i d = x := by
  rw [List.getD_eq_getElem?_getD, List.getElem?_set_self h]; rfl
def st0 (W : List S4) (i a : Nat) : List S4 := W.set i (a, (W.getD i z4).2.1, (W.getD i z4).2.2.1, (W.getD i z4).2.2.2)
def st1 (W : List S4) (i a : Nat) : List S4 := W.set i ((W.getD i z4).1, a, (W.getD i z4).2.2.1, (W.getD i z4).2.2.2)
def st2 (W : List S4) (i a : Nat) : List S4 := W.set i ((W.getD i z4).1, (W.getD i z4).2.1, a, (W.getD i z4).2.2.2)
def st3 (W : List S4) (i a : Nat) : List S4 := W.set i ((W.getD i z4).1, (W.getD i z4).2.1, (W.getD i z4).2.2.1, a)
theorem set4 (W : List S4) (i a b c d : Nat) (h : i < W.length) : st3 (st2 (st1 (st0 W i a) i b) i c) i d = W.set i (a, b, c, d) := by
  have g1 : ∀ r x, st1 (W.set i r) i x = W.set i (r.1, x, r.2.2.1, r.2.2.2) := fun r x => by unfold st1; rw [getD_set _ _ _ _ h, List.set_set]
  have g2 : ∀ r x, st2 (W.set i r) i x = W.set i (r.1, r.2.1, x, r.2.2.2) := fun r x => by unfold st2; rw [getD_set _ _ _ _ h, List.set_set]
  have g3 : ∀ r x, st3 (W.set i r) i x = W.set i (r.1, r.2.1, r.2.2.1, x) := fun r x => by unfold st3; rw [getD_set _ _ _ _ h, List.set_set]
  unfold st0
  rw [g1, g2, g3]

theorem lSzS {xs : List S4} {t : AV} {k : Int} (hk : k = 1048576) (hn : xs.length ≤ 1048576) : Does Try.prog 34 [.sli .f4 xs t, .int .i64 k] (.int .i64 (k - xs.length)) := by
  refine Does.of_awp (X := cx 12) Try.func34 rfl (by kernel_rfl) rfl (by simp [cx]) [] rfl ?_
  conv => whnf
  repeat (first
    | (refine ⟨⟨by kernel_rfl, by kernel_rfl⟩, ?_⟩; conv => whnf)
    | (refine And.intro (by first | omega | (simp; done) | (simp; omega)) ?_; conv => whnf)
    | (refine Or.inl (And.intro (by omega) ?_); conv => whnf))
  (refine br_intro (fun h => ?_) (fun h => ?_) <;> (conv => whnf))
  exfalso; simp at h; omega
theorem lSzS' {xs : List S4} {t : AV} {k : Int} (hk : k = 1048576) (hn : 1048576 < xs.length) (hn' : xs.length < 2 ^ 63) : Does Try.prog 34 [.sli .f4 xs t, .int .i64 k] (.int .i64 (-1)) := by
  refine Does.of_awp (X := cx 12) Try.func34 rfl (by kernel_rfl) rfl (by simp [cx]) [] rfl ?_
  conv => whnf
  repeat (first
    | (refine ⟨⟨by kernel_rfl, by kernel_rfl⟩, ?_⟩; conv => whnf)
    | (refine And.intro (by first | omega | (simp; done) | (simp; omega)) ?_; conv => whnf)
    | (refine Or.inl (And.intro (by omega) ?_); conv => whnf))
  (refine br_intro (fun h => ?_) (fun h => ?_) <;> (conv => whnf))
  exfalso; simp at h; omega

theorem lToStorm {s : S4} : Does Try.prog 91 [.agg [.flt .f32 s.1, .flt .f32 s.2.1, .flt .f32 s.2.2.1, .flt .f32 s.2.2.2]] (.agg [.flt .f32 s.1, .flt .f32 s.2.1, .flt .f32 s.2.2.1, .flt .f32 s.2.2.2]) := by
  refine Does.of_awp (X := cx 17) Try.func91 rfl (by kernel_rfl) rfl (by simp [cx]) [] rfl ?_
  conv => whnf
  repeat (first
    | (refine ⟨⟨by kernel_rfl, by kernel_rfl⟩, ?_⟩; conv => whnf)
    | (refine And.intro (by first | omega | (simp; done) | (simp; omega)) ?_; conv => whnf)
    | (refine Or.inl (And.intro (by omega) ?_); conv => whnf))
  all_goals (try (conv => whnf))
  all_goals (repeat' (first | exact True.intro | (refine And.intro ?_ ?_ <;> (conv => whnf))))
  all_goals (first | rfl | (simp_all []; done) | (simp only [cond_true, cond_false, Bool.and_true, Bool.true_and, Bool.and_false, Bool.false_and]; rfl) | (simp_all []; omega))

theorem lToS {xs : List S4} {t : AV} (hn : xs.length ≤ 1048576) : Does Try.prog 36 [.sli .f4 xs t] (.own 0 .f4 xs) := by
  refine Does.of_awp (X := cx 23) Try.func36 rfl (by kernel_rfl) rfl (by simp [cx]) [28] rfl ?_
  conv => whnf
  repeat (first
    | (refine ⟨⟨by kernel_rfl, by kernel_rfl⟩, ?_⟩; conv => whnf)
    | (refine And.intro (by first | omega | (simp; done) | (simp; omega)) ?_; conv => whnf)
    | (refine Or.inl (And.intro (by omega) ?_); conv => whnf))
  refine ⟨Nat, fun i => i ≤ xs.length, fun i => [(0, .sli .f4 xs t), (3, .osl 28), (4, .int .i64 i)], fun i => [(28, .tab .f4 (wrN (List.replicate xs.length (canon .f32 0, canon .f32 0, canon .f32 0, canon .f32 0)) (fun i => xs.getD i z4) i))], fun i => xs.length - i, ⟨0, id, Nat.zero_le _, rfl, ⟨rfl, rfl, rfl, trivial⟩, ⟨rfl, trivial⟩⟩, fun i hi => ?_⟩
  conv => whnf
  (refine br_intro (fun h => ?_) (fun h => ?_) <;> (conv => whnf))
  · have h : i < xs.length := by simp at h; omega
    repeat (first
      | (refine ⟨⟨by kernel_rfl, by kernel_rfl⟩, ?_⟩; conv => whnf)
      | (refine And.intro (by first | omega | (simp; done) | (simp; omega)) ?_; conv => whnf)
      | (refine Or.inl (And.intro (by omega) ?_); conv => whnf)
      | (refine Exists.intro _ (And.intro (lToStorm (s := xs.getD i z4)) ?_); conv => whnf))
    refine ⟨i + 1, id, ⟨h, by dsimp only; omega⟩, rfl, ⟨rfl, rfl, rfl, trivial⟩, ⟨rfl, trivial⟩⟩
  · have h : i = xs.length := by simp at h; omega
    subst h
    have := wrN_all (List.replicate xs.length (canon .f32 0, canon .f32 0, canon .f32 0, canon .f32 0)) (fun i => xs.getD i z4)
    rw [List.length_replicate, tabN_self] at this
    exact congrArg (AV.own 0 .f4) this

theorem lEqStorm {s : S4} : Does Try.prog 80 [.agg [.flt .f32 s.1, .flt .f32 s.2.1, .flt .f32 s.2.2.1, .flt .f32 s.2.2.2], .agg [.flt .f32 s.1, .flt .f32 s.2.1, .flt .f32 s.2.2.1, .flt .f32 s.2.2.2]] (.bool true) := by
  have e : ∀ x, Does Try.prog 70 [.flt .f64 x, .flt .f64 x] (.bool true) := fun x => by
    have := @lSameFloat x x
    rwa [sameF_self] at this
  refine Does.of_awp (X := cx 37) Try.func80 rfl (by kernel_rfl) rfl (by simp [cx]) [] rfl ?_
  conv => whnf
  repeat (first
    | (refine ⟨⟨by kernel_rfl, by kernel_rfl⟩, ?_⟩; conv => whnf)
    | (refine And.intro (by first | omega | (simp; done) | (simp; omega)) ?_; conv => whnf)
    | (refine Or.inl (And.intro (by omega) ?_); conv => whnf)
    | (refine Exists.intro _ (And.intro (e _) ?_); conv => whnf))
  all_goals (try (conv => whnf))
  all_goals (repeat' (first | exact True.intro | (refine And.intro ?_ ?_ <;> (conv => whnf))))
  all_goals (first | rfl | (simp_all []; done) | (simp only [cond_true, cond_false, Bool.and_true, Bool.true_and, Bool.and_false, Bool.false_and]; rfl) | (simp_all []; omega))

theorem lEqS {xs : List S4} {t t' : AV} (hn : xs.length ≤ 1048576) : Does Try.prog 23 [.sli .f4 xs t, .sli .f4 xs t'] (.bool true) := by
  refine Does.of_awp (X := cx 27) Try.func23 rfl (by kernel_rfl) rfl (by simp [cx]) [] rfl ?_
  conv => whnf
  repeat (first
    | (refine ⟨⟨by kernel_rfl, by kernel_rfl⟩, ?_⟩; conv => whnf)
    | (refine And.intro (by first | omega | (simp; done) | (simp; omega)) ?_; conv => whnf)
    | (refine Or.inl (And.intro (by omega) ?_); conv => whnf)
    | (refine br_intro (fun h => by exfalso; first | (simp at h; done) | (simp at h; omega) | omega) (fun _ => ?_); conv => whnf)
    | (refine br_intro (fun _ => ?_) (fun h => by exfalso; first | (simp at h; done) | (simp at h; omega) | omega); conv => whnf))
  refine ⟨Nat, fun i => i ≤ xs.length, fun i => [(0, .sli .f4 xs t), (1, .sli .f4 xs t'), (5, .int .i64 i)], fun _ => [], fun i => xs.length - i, ⟨0, id, Nat.zero_le _, rfl, ⟨rfl, rfl, rfl, trivial⟩, trivial⟩, fun i hi => ?_⟩
  conv => whnf
  (refine br_intro (fun hlt => ?_) (fun hlt => ?_) <;> (conv => whnf))
  · have hlt : i < xs.length := by simp at hlt; omega
    repeat (first
      | (refine ⟨⟨by kernel_rfl, by kernel_rfl⟩, ?_⟩; conv => whnf)
      | (refine And.intro (by first | omega | (simp; done) | (simp; omega)) ?_; conv => whnf)
      | (refine Or.inl (And.intro (by omega) ?_); conv => whnf)
      | (refine Exists.intro _ (And.intro (lEqStorm (s := xs.getD i z4)) ?_); conv => whnf))
    refine ⟨i + 1, id, ⟨hlt, by dsimp only; omega⟩, rfl, ⟨rfl, rfl, rfl, trivial⟩, trivial⟩

theorem lMarkS {xs : List S4} {k : Int} (hn : xs.length ≤ 67108864) (h0 : -1099511627776 ≤ k) (h1 : k ≤ 1099511627776) : DoesM Try.prog 24 [.osl LK, .int .i64 k] .f4 xs (.int .i64 (k + 4 * xs.length)) (mkS k xs.length) := by
  refine DoesM.of_awp (X := cx 45) Try.func24 rfl (by kernel_rfl) rfl (by simp [cx]) rfl (by simp) (by simp) ?_
  conv => whnf
  repeat (first
    | (refine ⟨⟨by kernel_rfl, by kernel_rfl⟩, ?_⟩; conv => whnf)
    | (refine And.intro (by first | omega | (simp; done) | (simp; omega)) ?_; conv => whnf)
    | (refine Or.inl (And.intro (by omega) ?_); conv => whnf))
  refine ⟨Nat × Int, fun p => p.1 ≤ xs.length ∧ p.2 = k + 4 * p.1, fun p => [(0, .osl LK), (1, .int .i64 p.2), (5, .int .i64 p.1)], fun p => [(LK, .tab .f4 (wrN xs (fun i => (foi .f32 (k + 4 * i), foi .f32 (k + 4 * i + 1), foi .f32 (k + 4 * i + 1 + 1), foi .f32 (k + 4 * i + 1 + 1 + 1))) p.1))], fun p => xs.length - p.1, ⟨(0, k), id, ⟨Nat.zero_le _, by simp⟩, rfl, ⟨rfl, rfl, rfl, trivial⟩, ⟨rfl, trivial⟩⟩, fun p hi => ?_⟩
  obtain ⟨i, j⟩ := p
  obtain ⟨hi, hj⟩ := hi
  dsimp only at hi hj
  subst hj
  conv => whnf
  (refine br_intro (fun h => ?_) (fun h => ?_) <;> (conv => whnf))
  · have h : i < xs.length := by simp at h; omega
    repeat (first
      | (refine ⟨⟨by kernel_rfl, by kernel_rfl⟩, ?_⟩; conv => whnf)
      | (refine And.intro (by first | omega | (simp; done) | (simp; omega)) ?_; conv => whnf)
      | (refine Or.inl (And.intro (by omega) ?_); conv => whnf))
    refine ⟨(i + 1, k + 4 * i + 1 + 1 + 1 + 1), id, ⟨⟨h, by dsimp only; omega⟩, by dsimp only; omega⟩, rfl, ⟨rfl, rfl, rfl, trivial⟩, ⟨congrArg (fun l => KS.live (Blk.tab .f4 l)) ?_, trivial⟩⟩
    exact set4 (wrN xs (fun i => (foi .f32 (k + 4 * i), foi .f32 (k + 4 * i + 1), foi .f32 (k + 4 * i + 1 + 1), foi .f32 (k + 4 * i + 1 + 1 + 1))) i) i _ _ _ _ (by simpa using h)
  · have h : i = xs.length := by simp at h; omega
    subst h
    exact ⟨rfl, congrArg (fun l => KS.live (Blk.tab .f4 l)) (wrN_all xs _)⟩

theorem lHeldS {xs : List S4} {t : AV} {k : Int} (hn : xs.length ≤ 67108864) (h0 : -1099511627776 ≤ k) (h1 : k ≤ 1099511627776) : Does Try.prog 25 [.sli .f4 (mkS k xs.length) t, .int .i64 k] (.int .i64 (k + 4 * xs.length)) := by
  refine Does.of_awp (X := cx 53) Try.func25 rfl (by kernel_rfl) rfl (by simp [cx]) [] rfl ?_
  conv => whnf
  repeat (first
    | (refine ⟨⟨by kernel_rfl, by kernel_rfl⟩, ?_⟩; conv => whnf)
    | (refine And.intro (by first | omega | (simp; done) | (simp; omega)) ?_; conv => whnf)
    | (refine Or.inl (And.intro (by omega) ?_); conv => whnf))
  refine ⟨Nat × Int, fun p => p.1 ≤ xs.length ∧ p.2 = k + 4 * p.1, fun p => [(0, .sli .f4 (mkS k xs.length) t), (1, .int .i64 p.2), (5, .int .i64 p.1)], fun _ => [], fun p => xs.length - p.1, ⟨(0, k), id, ⟨Nat.zero_le _, by simp⟩, rfl, ⟨rfl, rfl, rfl, trivial⟩, trivial⟩, fun p hi => ?_⟩
  obtain ⟨i, j⟩ := p
  obtain ⟨hi, hj⟩ := hi
  dsimp only at hi hj
  subst hj
  conv => whnf
  (refine br_intro (fun h => ?_) (fun h => ?_) <;> (conv => whnf))
  · have h : i < xs.length := by simp at h; omega
    have e : (mkS k xs.length).getD i RK.f4.z = (foi .f32 (k + 4 * i), foi .f32 (k + 4 * i + 1), foi .f32 (k + 4 * i + 1 + 1), foi .f32 (k + 4 * i + 1 + 1 + 1)) := by rw [mkS, tabN_getD _ h]
    have e' : (mkS k xs.length).getD (i : Int).toNat RK.f4.z = (foi .f32 (k + 4 * i), foi .f32 (k + 4 * i + 1), foi .f32 (k + 4 * i + 1 + 1), foi .f32 (k + 4 * i + 1 + 1 + 1)) := e
    repeat (first
      | (refine ⟨⟨by kernel_rfl, by kernel_rfl⟩, ?_⟩; conv => whnf)
      | (refine And.intro (by first | omega | (simp; done) | (simp; omega)) ?_; conv => whnf)
      | (refine Or.inl (And.intro (by omega) ?_); conv => whnf))
    refine br_intro (fun h2 => ?_) (fun _ => ?_) <;> (conv => whnf)
    · exfalso
      rw [e'] at h2
      have h3 : fcmp .neq .f32 (foi .f32 (k + 4 * i)) (foi .f32 (k + 4 * i)) = true := h2
      rw [ne_ofInt] at h3; cases h3
    repeat (first
      | (refine ⟨⟨by kernel_rfl, by kernel_rfl⟩, ?_⟩; conv => whnf)
      | (refine And.intro (by first | omega | (simp; done) | (simp; omega)) ?_; conv => whnf)
      | (refine Or.inl (And.intro (by omega) ?_); conv => whnf))
    refine br_intro (fun h2 => ?_) (fun _ => ?_) <;> (conv => whnf)
    · exfalso
      rw [e'] at h2
      have h3 : fcmp .neq .f32 (foi .f32 (k + 4 * i + 1)) (foi .f32 (k + 4 * i + 1)) = true := h2
      rw [ne_ofInt] at h3; cases h3
    repeat (first
      | (refine ⟨⟨by kernel_rfl, by kernel_rfl⟩, ?_⟩; conv => whnf)
      | (refine And.intro (by first | omega | (simp; done) | (simp; omega)) ?_; conv => whnf)
      | (refine Or.inl (And.intro (by omega) ?_); conv => whnf))
    refine br_intro (fun h2 => ?_) (fun _ => ?_) <;> (conv => whnf)
    · exfalso
      rw [e'] at h2
      have h3 : fcmp .neq .f32 (foi .f32 (k + 4 * i + 1 + 1)) (foi .f32 (k + 4 * i + 1 + 1)) = true := h2
      rw [ne_ofInt] at h3; cases h3
    repeat (first
      | (refine ⟨⟨by kernel_rfl, by kernel_rfl⟩, ?_⟩; conv => whnf)
      | (refine And.intro (by first | omega | (simp; done) | (simp; omega)) ?_; conv => whnf)
      | (refine Or.inl (And.intro (by omega) ?_); conv => whnf))
    refine br_intro (fun h2 => ?_) (fun _ => ?_) <;> (conv => whnf)
    · exfalso
      rw [e'] at h2
      have h3 : fcmp .neq .f32 (foi .f32 (k + 4 * i + 1 + 1 + 1)) (foi .f32 (k + 4 * i + 1 + 1 + 1)) = true := h2
      rw [ne_ofInt] at h3; cases h3
    repeat (first
      | (refine ⟨⟨by kernel_rfl, by kernel_rfl⟩, ?_⟩; conv => whnf)
      | (refine And.intro (by first | omega | (simp; done) | (simp; omega)) ?_; conv => whnf)
      | (refine Or.inl (And.intro (by omega) ?_); conv => whnf))
    refine ⟨(i + 1, k + 4 * i + 1 + 1 + 1 + 1), id, ⟨⟨h, by dsimp only; omega⟩, by dsimp only; omega⟩, rfl, ⟨rfl, rfl, rfl, trivial⟩, trivial⟩
  · have h : i = xs.length := by simp at h; omega
    subst h
    repeat (first
      | (refine ⟨⟨by kernel_rfl, by kernel_rfl⟩, ?_⟩; conv => whnf)
      | (refine And.intro (by first | omega | (simp; done) | (simp; omega)) ?_; conv => whnf)
      | (refine Or.inl (And.intro (by omega) ?_); conv => whnf))
    all_goals (try (conv => whnf))
    all_goals (repeat' (first | exact True.intro | (refine And.intro ?_ ?_ <;> (conv => whnf))))
    all_goals (first | rfl | (simp_all []; done) | (simp only [cond_true, cond_false, Bool.and_true, Bool.true_and, Bool.and_false, Bool.false_and]; rfl) | (simp_all []; omega))

noncomputable def rsC (xs : List S4) (step : Nat) (n k : Int) : Bool := rnC xs step n && inR k 1 8
noncomputable def rsL (xs : List S4) (step : Nat) (n k : Int) : List Nat := bif inR k 1 8 then rnO xs step n else []
theorem rsL_len (xs : List S4) (step : Nat) (n k : Int) : (rsL xs step n k).length ≤ 128 := by
  unfold rsL
  cases inR k 1 8
  · exact Nat.zero_le _
  · exact rnO_len xs step n
theorem sRainShared {xs : List S4} {t : AV} {step : Nat} {n k : Int} (hx : xs.length ≤ 1048576) : Does Try.prog 38 [.sli .f4 xs t, .flt .f32 step, .int .i64 n, .int .i64 k] (.tup [.own 0 .f32 (rsL xs step n k), .bool (rsC xs step n k)]) := by
  refine Does.of_awp (X := cx 34) Try.func38 rfl (by kernel_rfl) rfl (by simp [cx]) [124] rfl ?_
  conv => whnf
  repeat (first
    | (refine ⟨⟨by kernel_rfl, by kernel_rfl⟩, ?_⟩; conv => whnf)
    | (refine And.intro (by first | omega | (simp; done) | (simp; omega)) ?_; conv => whnf)
    | (refine Or.inl (And.intro (by omega) ?_); conv => whnf)
    | (refine Exists.intro _ (And.intro (sStorms (by first | omega | (simp; done) | (simp; omega))) ?_); conv => whnf))
  (refine br_intro (fun g1 => ?_) (fun g1 => ?_) <;> (conv => whnf))
  · have g1 : stormsB xs = false := by simpa using g1
    all_goals (try (conv => whnf))
    all_goals (repeat' (first | exact True.intro | (refine And.intro ?_ ?_ <;> (conv => whnf))))
    all_goals (first | rfl | (simp_all [rsL, rsC, rnO, rnC, Bool.cond_self]; done) | (simp only [rsL, rsC, rnO, rnC, Bool.cond_self, cond_true, cond_false, Bool.and_true, Bool.true_and, Bool.and_false, Bool.false_and]; rfl) | (simp_all [rsL, rsC, rnO, rnC, Bool.cond_self]; omega))
  have g1 : stormsB xs = true := by simpa using g1
  repeat (first
    | (refine ⟨⟨by kernel_rfl, by kernel_rfl⟩, ?_⟩; conv => whnf)
    | (refine And.intro (by first | omega | (simp; done) | (simp; omega)) ?_; conv => whnf)
    | (refine Or.inl (And.intro (by omega) ?_); conv => whnf)
    | (refine Exists.intro _ (And.intro (sAbove) ?_); conv => whnf))
  (refine br_intro (fun g2 => ?_) (fun g2 => ?_) <;> (conv => whnf))
  · have g2 : above step = false := by simpa using g2
    all_goals (try (conv => whnf))
    all_goals (repeat' (first | exact True.intro | (refine And.intro ?_ ?_ <;> (conv => whnf))))
    all_goals (first | rfl | (simp_all [rsL, rsC, rnO, rnC, Bool.cond_self]; done) | (simp only [rsL, rsC, rnO, rnC, Bool.cond_self, cond_true, cond_false, Bool.and_true, Bool.true_and, Bool.and_false, Bool.false_and]; rfl) | (simp_all [rsL, rsC, rnO, rnC, Bool.cond_self]; omega))
  have g2 : above step = true := by simpa using g2
  repeat (first
    | (refine ⟨⟨by kernel_rfl, by kernel_rfl⟩, ?_⟩; conv => whnf)
    | (refine And.intro (by first | omega | (simp; done) | (simp; omega)) ?_; conv => whnf)
    | (refine Or.inl (And.intro (by omega) ?_); conv => whnf)
    | (refine Exists.intro _ (And.intro (sIn) ?_); conv => whnf))
  (refine br_intro (fun g3 => ?_) (fun g3 => ?_) <;> (conv => whnf))
  · have g3 : inR n 0 128 = false := by simpa using g3
    all_goals (try (conv => whnf))
    all_goals (repeat' (first | exact True.intro | (refine And.intro ?_ ?_ <;> (conv => whnf))))
    all_goals (first | rfl | (simp_all [rsL, rsC, rnO, rnC, Bool.cond_self]; done) | (simp only [rsL, rsC, rnO, rnC, Bool.cond_self, cond_true, cond_false, Bool.and_true, Bool.true_and, Bool.and_false, Bool.false_and]; rfl) | (simp_all [rsL, rsC, rnO, rnC, Bool.cond_self]; omega))
  have g3 : inR n 0 128 = true := by simpa using g3
  have g4 : 0 ≤ n ∧ n ≤ 128 := by simpa [inR] using g3
  repeat (first
    | (refine ⟨⟨by kernel_rfl, by kernel_rfl⟩, ?_⟩; conv => whnf)
    | (refine And.intro (by first | omega | (simp; done) | (simp; omega)) ?_; conv => whnf)
    | (refine Or.inl (And.intro (by omega) ?_); conv => whnf)
    | (refine Exists.intro _ (And.intro (sIn) ?_); conv => whnf))
  (refine br_intro (fun g5 => ?_) (fun g5 => ?_) <;> (conv => whnf))
  · have g5 : inR k 1 8 = false := by simpa using g5
    all_goals (try (conv => whnf))
    all_goals (repeat' (first | exact True.intro | (refine And.intro ?_ ?_ <;> (conv => whnf))))
    all_goals (first | rfl | (simp_all [rsL, rsC]; done) | (simp only [rsL, rsC, cond_true, cond_false, Bool.and_true, Bool.true_and, Bool.and_false, Bool.false_and]; rfl) | (simp_all [rsL, rsC]; omega))
  have g5 : inR k 1 8 = true := by simpa using g5
  have e : n = ((n.toNat : Nat) : Int) := by omega
  have eC : rsC xs step n k = rlC xs step n.toNat := by simp [rsC, rnC, g1, g2, g3, g5]
  have eO : rsL xs step n k = rlO xs step n.toNat := by simp [rsL, rnO, rlO, rnC, g1, g2, g3, g5]
  rw [eC, eO]
  have c := sList (t := .sli .f4 xs t) (step := step) (n := n.toNat) hx (by omega)
  rw [← e] at c
  repeat (first
    | (refine ⟨⟨by kernel_rfl, by kernel_rfl⟩, ?_⟩; conv => whnf)
    | (refine And.intro (by first | omega | (simp; done) | (simp; omega)) ?_; conv => whnf)
    | (refine Or.inl (And.intro (by omega) ?_); conv => whnf)
    | (refine Exists.intro _ (And.intro (c) ?_); conv => whnf))
  all_goals (try (conv => whnf))
  all_goals (repeat' (first | exact True.intro | (refine And.intro ?_ ?_ <;> (conv => whnf))))
  all_goals (first | rfl | (simp_all []; done) | (simp only [cond_true, cond_false, Bool.and_true, Bool.true_and, Bool.and_false, Bool.false_and]; rfl) | (simp_all []; omega))

theorem iRainShared {xs : List S4} {t : AV} {step : Nat} {n k : Int} (hx : xs.length ≤ 1048576) : Does Try.prog 39 [.sli .f4 xs t, .flt .f32 step, .int .i64 n, .int .i64 k] (.tup [.own 0 .f32 (rsL xs step n k), .bool (rsC xs step n k)]) := by
  refine Does.of_awp (X := cx 19) Try.func39 rfl (by kernel_rfl) rfl (by simp [cx]) [64] rfl ?_
  conv => whnf
  repeat (first
    | (refine ⟨⟨by kernel_rfl, by kernel_rfl⟩, ?_⟩; conv => whnf)
    | (refine And.intro (by first | omega | (simp; done) | (simp; omega)) ?_; conv => whnf)
    | (refine Or.inl (And.intro (by omega) ?_); conv => whnf)
    | (refine Exists.intro _ (And.intro (iWithin) ?_); conv => whnf))
  (refine br_intro (fun g1 => ?_) (fun g1 => ?_) <;> (conv => whnf))
  · have g1 : inR k 1 8 = false := by simpa using g1
    all_goals (try (conv => whnf))
    all_goals (repeat' (first | exact True.intro | (refine And.intro ?_ ?_ <;> (conv => whnf))))
    all_goals (first | rfl | (simp_all [rsL, rsC]; done) | (simp only [rsL, rsC, cond_true, cond_false, Bool.and_true, Bool.true_and, Bool.and_false, Bool.false_and]; rfl) | (simp_all [rsL, rsC]; omega))
  have g1 : inR k 1 8 = true := by simpa using g1
  have eC : rsC xs step n k = rnC xs step n := by simp [rsC, g1]
  have eO : rsL xs step n k = rnO xs step n := by simp [rsL, g1]
  rw [eC, eO]
  repeat (first
    | (refine ⟨⟨by kernel_rfl, by kernel_rfl⟩, ?_⟩; conv => whnf)
    | (refine And.intro (by first | omega | (simp; done) | (simp; omega)) ?_; conv => whnf)
    | (refine Or.inl (And.intro (by omega) ?_); conv => whnf)
    | (refine Exists.intro _ (And.intro (iRainList (by first | omega | (simp; done) | (simp; omega))) ?_); conv => whnf))
  all_goals (try (conv => whnf))
  all_goals (repeat' (first | exact True.intro | (refine And.intro ?_ ?_ <;> (conv => whnf))))
  all_goals (first | rfl | (simp_all []; done) | (simp only [cond_true, cond_false, Bool.and_true, Bool.true_and, Bool.and_false, Bool.false_and]; rfl) | (simp_all []; omega))

end Go.Proofs.Ytojmgleljmoidaa
