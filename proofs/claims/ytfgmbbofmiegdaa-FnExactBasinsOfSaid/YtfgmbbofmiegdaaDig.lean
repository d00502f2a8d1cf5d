/- What each function of this seat does (Dig). Printed from templates of this seat's own. -/
import Derived.Test.YtfgmbbofmiegdaaHil
namespace Go.Proofs.Ytfgmbbofmiegdaa
open Go.Ax Go.Bx
set_option maxRecDepth 8000
set_option linter.unusedSimpArgs false
set_option linter.unusedVariables false
noncomputable def dgN (xs : List Nat) (cs : List Int) (a : Nat) : Nat → List Nat
  | 0 => xs
  | i + 1 => (dgN xs cs a i).set (cs.getD i 0).toNat (fop .sub .f32 ((dgN xs cs a i).getD (cs.getD i 0).toNat 0) a)
@[simp] theorem dgN_len (xs : List Nat) (cs : List Int) (a : Nat) : ∀ i, (dgN xs cs a i).length = xs.length
  | 0 => rfl
  | i + 1 => by rw [dgN, List.length_set, dgN_len xs cs a i]
noncomputable def dgC0 (W H : Int) (xs : List Nat) (cs : List Int) (a : Nat) : Bool := hillB W H xs && fin a && isSetB cs (W * H)
noncomputable def dgC (W H : Int) (xs : List Nat) (cs : List Int) (a : Nat) : Bool := dgC0 W H xs cs a && hillB W H (dgN xs cs a cs.length)
noncomputable def dgO (W H : Int) (xs : List Nat) (cs : List Int) (a : Nat) : List Nat := bif dgC W H xs cs a then dgN xs cs a cs.length else []
def selI (b : Bool) (x : Int) : Int := bif b then x else 0
noncomputable def dgR (W H : Int) (xs : List Nat) (cs : List Int) (a : Nat) : AV := .tup [.agg [.int .i64 (selI (dgC W H xs cs a) W), .int .i64 (selI (dgC W H xs cs a) H), .own 0 .f32 (dgO W H xs cs a)], .bool (dgC W H xs cs a)]
theorem dgO_len (W H : Int) (xs : List Nat) (cs : List Int) (a : Nat) (h : xs.length ≤ 1048576) : (dgO W H xs cs a).length ≤ 1048576 := by
  unfold dgO
  cases dgC W H xs cs a
  · exact Nat.zero_le _
  · rw [cond_true, dgN_len]; exact h
theorem isSetB_at {cs : List Int} {N : Int} {i : Nat} (h : isSetB cs N = true) (hi : i < cs.length) : 0 ≤ cs.getD i 0 ∧ cs.getD i 0 < N := by
  have := allN_iff.1 h i hi
  simp only [setAt, inR, Bool.and_eq_true, decide_eq_true_eq] at this
  omega

theorem iDig {W H : Int} {xs : List Nat} {cs : List Int} {a : Nat} {t t' : AV} (hn : xs.length ≤ 1048576) (hn' : cs.length ≤ 1048576) : Does Try.prog 19 [.agg [.int .i64 W, .int .i64 H, .sli .f32 xs t], .sli (.int .i64) cs t', .flt .f32 a] (dgR W H xs cs a) := by
  refine Does.of_awp (X := cx 55) Try.func19 rfl (by kernel_rfl) rfl (by simp [cx]) [136] rfl ?_
  conv => whnf
  repeat (first
    | (refine ⟨⟨by kernel_rfl, by kernel_rfl⟩, ?_⟩; conv => whnf)
    | (refine And.intro (by first | omega | (simp; done) | (simp; omega)) ?_; conv => whnf)
    | (refine Or.inl (And.intro (by omega) ?_); conv => whnf)
    | (refine Exists.intro _ (And.intro (iIs (by first | omega | (simp; done) | (simp; omega))) ?_); conv => whnf))
  (refine br_intro (fun g1 => ?_) (fun g1 => ?_) <;> (conv => whnf))
  · have g1 : hillB W H xs = false := by simpa using g1
    all_goals (try (conv => whnf))
    all_goals (repeat' (first | exact True.intro | (refine And.intro ?_ ?_ <;> (conv => whnf))))
    all_goals (first | rfl | (simp_all [dgR, dgO, dgC, dgC0, selI]; done) | (simp only [dgR, dgO, dgC, dgC0, selI, cond_true, cond_false, Bool.and_true, Bool.true_and, Bool.and_false, Bool.false_and]; rfl) | (simp_all [dgR, dgO, dgC, dgC0, selI]; omega))
  have g1 : hillB W H xs = true := by simpa using g1
  obtain ⟨k1, k2, k3, k4, k5, k6, k7⟩ := hill_len g1
  repeat (first
    | (refine ⟨⟨by kernel_rfl, by kernel_rfl⟩, ?_⟩; conv => whnf)
    | (refine And.intro (by first | omega | (simp; done) | (simp; omega)) ?_; conv => whnf)
    | (refine Or.inl (And.intro (by omega) ?_); conv => whnf)
    | (refine Exists.intro _ (And.intro (iSet (by first | omega | (simp; done) | (simp; omega)) (by first | omega | (simp; done) | (simp; omega))) ?_); conv => whnf))
  (refine br_intro (fun g2 => ?_) (fun g2 => ?_) <;> (conv => whnf))
  · have g2 : isSetB cs xs.length = false := by simpa using g2
    rw [k5] at g2
    all_goals (try (conv => whnf))
    all_goals (repeat' (first | exact True.intro | (refine And.intro ?_ ?_ <;> (conv => whnf))))
    all_goals (first | rfl | (simp_all [dgR, dgO, dgC, dgC0, selI]; done) | (simp only [dgR, dgO, dgC, dgC0, selI, cond_true, cond_false, Bool.and_true, Bool.true_and, Bool.and_false, Bool.false_and]; rfl) | (simp_all [dgR, dgO, dgC, dgC0, selI]; omega))
  have g2 : isSetB cs xs.length = true := by simpa using g2
  repeat (first
    | (refine ⟨⟨by kernel_rfl, by kernel_rfl⟩, ?_⟩; conv => whnf)
    | (refine And.intro (by first | omega | (simp; done) | (simp; omega)) ?_; conv => whnf)
    | (refine Or.inl (And.intro (by omega) ?_); conv => whnf)
    | (refine Exists.intro _ (And.intro (iIsFinite) ?_); conv => whnf))
  (refine br_intro (fun g3 => ?_) (fun g3 => ?_) <;> (conv => whnf))
  · have g3 : fin a = false := by simpa using g3
    all_goals (try (conv => whnf))
    all_goals (repeat' (first | exact True.intro | (refine And.intro ?_ ?_ <;> (conv => whnf))))
    all_goals (first | rfl | (simp_all [dgR, dgO, dgC, dgC0, selI]; done) | (simp only [dgR, dgO, dgC, dgC0, selI, cond_true, cond_false, Bool.and_true, Bool.true_and, Bool.and_false, Bool.false_and]; rfl) | (simp_all [dgR, dgO, dgC, dgC0, selI]; omega))
  have g3 : fin a = true := by simpa using g3
  have eC : dgC W H xs cs a = hillB W H (dgN xs cs a cs.length) := by rw [dgC, dgC0, g1, g3, ← k5, g2]; rfl
  clear g1 g3
  repeat (first
    | (refine ⟨⟨by kernel_rfl, by kernel_rfl⟩, ?_⟩; conv => whnf)
    | (refine And.intro (by first | omega | (simp; done) | (simp; omega)) ?_; conv => whnf)
    | (refine Or.inl (And.intro (by omega) ?_); conv => whnf)
    | (refine Exists.intro _ (And.intro (xClone (by first | omega | (simp; done) | (simp; omega)) (by first | omega | (simp; done) | (simp; omega))) ?_); conv => whnf))
  refine ⟨Nat, fun i => i ≤ cs.length, fun i => [(2, .flt .f32 a), (6, .loc 24 0), (8, .loc 32 0), (36, .sli (.int .i64) cs t'), (37, .int .i64 cs.length), (38, .int .i64 i)], fun i => [(24, .av [.int .i64 0, .int .i64 0, .emp .f32]), (32, .av [.int .i64 W, .int .i64 H, .osl 136]), (136, .tab .f32 (dgN xs cs a i))], fun i => cs.length - i, ⟨0, id, Nat.zero_le _, rfl, ⟨rfl, rfl, rfl, rfl, rfl, rfl, trivial⟩, ⟨rfl, rfl, rfl, trivial⟩⟩, fun i hi => ?_⟩
  have hl := dgN_len xs cs a i
  conv => whnf
  (refine br_intro (fun h => ?_) (fun h => ?_) <;> (conv => whnf))
  · have h : i < cs.length := by simp at h; omega
    have hc : 0 ≤ cs.getD (i : Int).toNat (RK.int .i64).z ∧ cs.getD (i : Int).toNat (RK.int .i64).z < xs.length := isSetB_at g2 h
    repeat (first
      | (refine ⟨⟨by kernel_rfl, by kernel_rfl⟩, ?_⟩; conv => whnf)
      | (refine And.intro (by first | omega | (simp; done) | (simp; omega)) ?_; conv => whnf)
      | (refine Or.inl (And.intro (by omega) ?_); conv => whnf))
    refine ⟨i + 1, id, ⟨h, by dsimp only; omega⟩, rfl, ⟨rfl, rfl, rfl, rfl, rfl, rfl, trivial⟩, ⟨rfl, rfl, rfl, trivial⟩⟩
  · have h : i = cs.length := by simp at h; omega
    subst h
    cases hG : hillB W H (dgN xs cs a cs.length) with
    | true =>
      rw [hG] at eC
      have e := iGive (t := .osl 136) (by omega) hG
      repeat (first
        | (refine ⟨⟨by kernel_rfl, by kernel_rfl⟩, ?_⟩; conv => whnf)
        | (refine And.intro (by first | omega | (simp; done) | (simp; omega)) ?_; conv => whnf)
        | (refine Or.inl (And.intro (by omega) ?_); conv => whnf)
        | (refine Exists.intro _ (And.intro (e) ?_); conv => whnf))
      all_goals (try (conv => whnf))
      all_goals (repeat' (first | exact True.intro | (refine And.intro ?_ ?_ <;> (conv => whnf))))
      all_goals (first | rfl | (simp_all [dgR, dgO, eC, selI]; done) | (simp only [dgR, dgO, eC, selI, cond_true, cond_false, Bool.and_true, Bool.true_and, Bool.and_false, Bool.false_and]; rfl) | (simp_all [dgR, dgO, eC, selI]; omega))
    | false =>
      rw [hG] at eC
      have e := iGive' (t := .osl 136) (by omega) hG
      repeat (first
        | (refine ⟨⟨by kernel_rfl, by kernel_rfl⟩, ?_⟩; conv => whnf)
        | (refine And.intro (by first | omega | (simp; done) | (simp; omega)) ?_; conv => whnf)
        | (refine Or.inl (And.intro (by omega) ?_); conv => whnf)
        | (refine Exists.intro _ (And.intro (e) ?_); conv => whnf))
      all_goals (try (conv => whnf))
      all_goals (repeat' (first | exact True.intro | (refine And.intro ?_ ?_ <;> (conv => whnf))))
      all_goals (first | rfl | (simp_all [dgR, dgO, eC, selI]; done) | (simp only [dgR, dgO, eC, selI, cond_true, cond_false, Bool.and_true, Bool.true_and, Bool.and_false, Bool.false_and]; rfl) | (simp_all [dgR, dgO, eC, selI]; omega))

theorem sDig {W H : Int} {xs : List Nat} {cs : List Int} {a : Nat} {t t' : AV} (hn : xs.length ≤ 1048576) (hn' : cs.length ≤ 1048576) : Does Try.prog 16 [.agg [.int .i64 W, .int .i64 H, .sli .f32 xs t], .sli (.int .i64) cs t', .flt .f32 a] (dgR W H xs cs a) := by
  refine Does.of_awp (X := cx 69) Try.func16 rfl (by kernel_rfl) rfl (by simp [cx]) [72] rfl ?_
  conv => whnf
  repeat (first
    | (refine ⟨⟨by kernel_rfl, by kernel_rfl⟩, ?_⟩; conv => whnf)
    | (refine And.intro (by first | omega | (simp; done) | (simp; omega)) ?_; conv => whnf)
    | (refine Or.inl (And.intro (by omega) ?_); conv => whnf)
    | (refine Exists.intro _ (And.intro (sIs (by first | omega | (simp; done) | (simp; omega))) ?_); conv => whnf))
  (refine br_intro (fun g1 => ?_) (fun g1 => ?_) <;> (conv => whnf))
  · have g1 : hillB W H xs = false := by simpa using g1
    all_goals (try (conv => whnf))
    all_goals (repeat' (first | exact True.intro | (refine And.intro ?_ ?_ <;> (conv => whnf))))
    all_goals (first | rfl | (simp_all [dgR, dgO, dgC, dgC0, selI]; done) | (simp only [dgR, dgO, dgC, dgC0, selI, cond_true, cond_false, Bool.and_true, Bool.true_and, Bool.and_false, Bool.false_and]; rfl) | (simp_all [dgR, dgO, dgC, dgC0, selI]; omega))
  have g1 : hillB W H xs = true := by simpa using g1
  obtain ⟨k1, k2, k3, k4, k5, k6, k7⟩ := hill_len g1
  repeat (first
    | (refine ⟨⟨by kernel_rfl, by kernel_rfl⟩, ?_⟩; conv => whnf)
    | (refine And.intro (by first | omega | (simp; done) | (simp; omega)) ?_; conv => whnf)
    | (refine Or.inl (And.intro (by omega) ?_); conv => whnf)
    | (refine Exists.intro _ (And.intro (sFinite) ?_); conv => whnf))
  (refine br_intro (fun g3 => ?_) (fun g3 => ?_) <;> (conv => whnf))
  · have g3 : fin a = false := by simpa using g3
    all_goals (try (conv => whnf))
    all_goals (repeat' (first | exact True.intro | (refine And.intro ?_ ?_ <;> (conv => whnf))))
    all_goals (first | rfl | (simp_all [dgR, dgO, dgC, dgC0, selI]; done) | (simp only [dgR, dgO, dgC, dgC0, selI, cond_true, cond_false, Bool.and_true, Bool.true_and, Bool.and_false, Bool.false_and]; rfl) | (simp_all [dgR, dgO, dgC, dgC0, selI]; omega))
  have g3 : fin a = true := by simpa using g3
  have eC0 : dgC0 W H xs cs a = isSetB cs (W * H) := by rw [dgC0, g1, g3]; rfl
  have hH : ∀ (c : Int) (t t' : AV), Does Try.prog 57 [.ref [.int .i64 W, .int .i64 H, .sli .f32 xs t] t', .int .i64 c] (.bool (inR c 0 (W * H - 1))) := fun c t t' => by
    have := @sHas W H c xs t t' hn
    rw [g1] at this; exact this
  clear g1 g3
  repeat (first
    | (refine ⟨⟨by kernel_rfl, by kernel_rfl⟩, ?_⟩; conv => whnf)
    | (refine And.intro (by first | omega | (simp; done) | (simp; omega)) ?_; conv => whnf)
    | (refine Or.inl (And.intro (by omega) ?_); conv => whnf)
    | (refine Exists.intro _ (And.intro (sOwn (by first | omega | (simp; done) | (simp; omega))) ?_); conv => whnf))
  refine ⟨Nat, fun i => i ≤ cs.length ∧ allN (setAt cs (W * H)) i = true, fun i => [(1, .sli (.int .i64) cs t'), (2, .flt .f32 a), (3, .loc 12 0), (6, .loc 24 0), (8, .loc 32 0), (9, .int .i64 i)], fun i => [(12, .av [.int .i64 W, .int .i64 H, .sli .f32 xs t]), (24, .av [.int .i64 0, .int .i64 0, .emp .f32]), (32, .av [.int .i64 W, .int .i64 H, .osl 72]), (72, .tab .f32 (dgN xs cs a i))], fun i => cs.length - i, ⟨0, id, ⟨Nat.zero_le _, rfl⟩, rfl, ⟨rfl, rfl, rfl, rfl, rfl, rfl, trivial⟩, ⟨rfl, rfl, rfl, rfl, trivial⟩⟩, fun i hi => ?_⟩
  obtain ⟨hi, hA⟩ := hi
  have hl := dgN_len xs cs a i
  conv => whnf
  (refine br_intro (fun h => ?_) (fun h => ?_) <;> (conv => whnf))
  · have h : i < cs.length := by simp at h; omega
    repeat (first
      | (refine ⟨⟨by kernel_rfl, by kernel_rfl⟩, ?_⟩; conv => whnf)
      | (refine And.intro (by first | omega | (simp; done) | (simp; omega)) ?_; conv => whnf)
      | (refine Or.inl (And.intro (by omega) ?_); conv => whnf)
      | (refine Exists.intro _ (And.intro (hH _ _ _) ?_); conv => whnf))
    (refine br_intro (fun h2 => ?_) (fun h2 => ?_) <;> (conv => whnf))
    · have h2 : (!inR (cs.getD i 0) 0 (W * H - 1)) = true := h2
      have h2 : inR (cs.getD i 0) 0 (W * H - 1) = false := by simpa using h2
      have hF := allN_false (p := setAt cs (W * H)) h (by unfold setAt; rw [h2]; rfl)
      have eC : dgC W H xs cs a = false := by rw [dgC, eC0, isSetB, hF]; rfl
      clear hA hF
      all_goals (try (conv => whnf))
      all_goals (repeat' (first | exact True.intro | (refine And.intro ?_ ?_ <;> (conv => whnf))))
      all_goals (first | rfl | (simp_all [dgR, dgO, eC, selI]; done) | (simp only [dgR, dgO, eC, selI, cond_true, cond_false, Bool.and_true, Bool.true_and, Bool.and_false, Bool.false_and]; rfl) | (simp_all [dgR, dgO, eC, selI]; omega))
    · have h2 : (!inR (cs.getD i 0) 0 (W * H - 1)) = false := h2
      have h2 : inR (cs.getD i 0) 0 (W * H - 1) = true := by simpa using h2
      have hc : 0 ≤ cs.getD (i : Int).toNat (RK.int .i64).z ∧ cs.getD (i : Int).toNat (RK.int .i64).z < xs.length := by
        have h2' := h2
        simp only [inR, Bool.and_eq_true, decide_eq_true_eq] at h2'
        show 0 ≤ cs.getD i 0 ∧ cs.getD i 0 < xs.length
        omega
      (refine br_intro (fun h3 => ?_) (fun h3 => ?_) <;> (conv => whnf))
      · have h3 : 0 < i := by simp at h3; omega
        repeat (first
          | (refine ⟨⟨by kernel_rfl, by kernel_rfl⟩, ?_⟩; conv => whnf)
          | (refine And.intro (by first | omega | (simp; done) | (simp; omega)) ?_; conv => whnf)
          | (refine Or.inl (And.intro (by omega) ?_); conv => whnf))
        (refine br_intro (fun h4 => ?_) (fun h4 => ?_) <;> (conv => whnf))
        · have h4 : decide (cs.getD i 0 ≤ cs.getD ((i : Int) - 1).toNat 0) = true := h4
          have h4 : cs.getD i 0 ≤ cs.getD (i - 1) 0 := by rw [show ((i : Int) - 1).toNat = i - 1 by omega] at h4; simpa using h4
          have h5 : setAt cs (W * H) i = false := by
            unfold setAt
            rw [h2, decide_eq_true h3, decide_eq_true h4]; rfl
          have hF := allN_false (p := setAt cs (W * H)) h h5
          have eC : dgC W H xs cs a = false := by rw [dgC, eC0, isSetB, hF]; rfl
          clear hA hF
          all_goals (try (conv => whnf))
          all_goals (repeat' (first | exact True.intro | (refine And.intro ?_ ?_ <;> (conv => whnf))))
          all_goals (first | rfl | (simp_all [dgR, dgO, eC, selI]; done) | (simp only [dgR, dgO, eC, selI, cond_true, cond_false, Bool.and_true, Bool.true_and, Bool.and_false, Bool.false_and]; rfl) | (simp_all [dgR, dgO, eC, selI]; omega))
        · have h4 : decide (cs.getD i 0 ≤ cs.getD ((i : Int) - 1).toNat 0) = false := h4
          have h4 : ¬ cs.getD i 0 ≤ cs.getD (i - 1) 0 := by rw [show ((i : Int) - 1).toNat = i - 1 by omega] at h4; simpa using h4
          have h5 : setAt cs (W * H) i = true := by
            unfold setAt
            rw [h2, decide_eq_true h3, decide_eq_false h4]; rfl
          repeat (first
            | (refine ⟨⟨by kernel_rfl, by kernel_rfl⟩, ?_⟩; conv => whnf)
            | (refine And.intro (by first | omega | (simp; done) | (simp; omega)) ?_; conv => whnf)
            | (refine Or.inl (And.intro (by omega) ?_); conv => whnf))
          refine ⟨i + 1, id, ⟨⟨h, by simp only [allN, hA, h5, Bool.true_and]⟩, by dsimp only; omega⟩, rfl, ⟨rfl, rfl, rfl, rfl, rfl, rfl, trivial⟩, ⟨rfl, rfl, rfl, rfl, trivial⟩⟩
      · have h3 : ¬ 0 < i := by simp at h3; omega
        have h5 : setAt cs (W * H) i = true := by
          unfold setAt
          rw [h2, decide_eq_false h3]; rfl
        repeat (first
          | (refine ⟨⟨by kernel_rfl, by kernel_rfl⟩, ?_⟩; conv => whnf)
          | (refine And.intro (by first | omega | (simp; done) | (simp; omega)) ?_; conv => whnf)
          | (refine Or.inl (And.intro (by omega) ?_); conv => whnf))
        refine ⟨i + 1, id, ⟨⟨h, by simp only [allN, hA, h5, Bool.true_and]⟩, by dsimp only; omega⟩, rfl, ⟨rfl, rfl, rfl, rfl, rfl, rfl, trivial⟩, ⟨rfl, rfl, rfl, rfl, trivial⟩⟩
  · have h : i = cs.length := by simp at h; omega
    subst h
    have eC : dgC W H xs cs a = hillB W H (dgN xs cs a cs.length) := by rw [dgC, eC0, isSetB, hA]; rfl
    clear hA
    cases hG : hillB W H (dgN xs cs a cs.length) with
    | true =>
      rw [hG] at eC
      have e := sGive (t := .osl 72) (by omega) hG
      repeat (first
        | (refine ⟨⟨by kernel_rfl, by kernel_rfl⟩, ?_⟩; conv => whnf)
        | (refine And.intro (by first | omega | (simp; done) | (simp; omega)) ?_; conv => whnf)
        | (refine Or.inl (And.intro (by omega) ?_); conv => whnf)
        | (refine Exists.intro _ (And.intro (e) ?_); conv => whnf))
      all_goals (try (conv => whnf))
      all_goals (repeat' (first | exact True.intro | (refine And.intro ?_ ?_ <;> (conv => whnf))))
      all_goals (first | rfl | (simp_all [dgR, dgO, eC, selI]; done) | (simp only [dgR, dgO, eC, selI, cond_true, cond_false, Bool.and_true, Bool.true_and, Bool.and_false, Bool.false_and]; rfl) | (simp_all [dgR, dgO, eC, selI]; omega))
    | false =>
      rw [hG] at eC
      have e := sGive' (t := .osl 72) (by omega) hG
      repeat (first
        | (refine ⟨⟨by kernel_rfl, by kernel_rfl⟩, ?_⟩; conv => whnf)
        | (refine And.intro (by first | omega | (simp; done) | (simp; omega)) ?_; conv => whnf)
        | (refine Or.inl (And.intro (by omega) ?_); conv => whnf)
        | (refine Exists.intro _ (And.intro (e) ?_); conv => whnf))
      all_goals (try (conv => whnf))
      all_goals (repeat' (first | exact True.intro | (refine And.intro ?_ ?_ <;> (conv => whnf))))
      all_goals (first | rfl | (simp_all [dgR, dgO, eC, selI]; done) | (simp only [dgR, dgO, eC, selI, cond_true, cond_false, Bool.and_true, Bool.true_and, Bool.and_false, Bool.false_and]; rfl) | (simp_all [dgR, dgO, eC, selI]; omega))

theorem lawDig (W H : Int) (xs : List Nat) (_ : (IntKind.i64.min ≤ W ∧ W ≤ IntKind.i64.max) ∧ IntKind.i64.min ≤ H ∧ H ≤ IntKind.i64.max) (hn : xs.length < 2 ^ 63) (_ : ∀ y ∈ xs, y < 2 ^ 32) (cs : List Int) (hn' : cs.length < 2 ^ 63) (_ : ∀ y ∈ cs, IntKind.i64.min ≤ y ∧ y ≤ IntKind.i64.max) (a : Nat) (_ : a < 2 ^ 32) : Does Try.prog 3 [.agg [.int .i64 W, .int .i64 H, .sli .f32 xs .undef], .sli (.int .i64) cs .undef, .flt .f32 a] (.bool true) := by
  refine Does.of_awp (X := cx 122) Try.func3 rfl (by kernel_rfl) rfl (by simp [cx]) [] rfl ?_
  conv => whnf
  repeat (first
    | (refine ⟨⟨by kernel_rfl, by kernel_rfl⟩, ?_⟩; conv => whnf)
    | (refine And.intro (by first | omega | (simp; done) | (simp; omega)) ?_; conv => whnf)
    | (refine Or.inl (And.intro (by omega) ?_); conv => whnf))
  (refine br_intro (fun h => ?_) (fun h => ?_) <;> (conv => whnf))
  have hc : cs.length ≤ 1048576 := by simp at h; omega
  by_cases hl : xs.length ≤ 1048576
  · have h3 := dgO_len W H xs cs a hl
    repeat (first
      | (refine ⟨⟨by kernel_rfl, by kernel_rfl⟩, ?_⟩; conv => whnf)
      | (refine And.intro (by first | omega | (simp; done) | (simp; omega)) ?_; conv => whnf)
      | (refine Or.inl (And.intro (by omega) ?_); conv => whnf)
      | (refine br_intro (fun h => by exfalso; first | (simp at h; done) | (simp at h; omega) | omega) (fun _ => ?_); conv => whnf)
      | (refine br_intro (fun _ => ?_) (fun h => by exfalso; first | (simp at h; done) | (simp at h; omega) | omega); conv => whnf)
      | (refine Exists.intro _ (And.intro (lSzHill (by first | omega | (simp; done) | (simp; omega)) (by first | omega | (simp; done) | (simp; omega))) ?_); conv => whnf)
      | (refine Exists.intro _ (And.intro (lToHill (by first | omega | (simp; done) | (simp; omega))) ?_); conv => whnf)
      | (refine Exists.intro _ (And.intro (lToI (by first | omega | (simp; done) | (simp; omega))) ?_); conv => whnf)
      | (refine Exists.intro _ (And.intro (sDig (by first | omega | (simp; done) | (simp; omega)) (by first | omega | (simp; done) | (simp; omega))) ?_); conv => whnf)
      | (refine Exists.intro _ (And.intro (iDig (by first | omega | (simp; done) | (simp; omega)) (by first | omega | (simp; done) | (simp; omega))) ?_); conv => whnf)
      | (refine Exists.intro _ (And.intro (lEqHill (by first | omega | (simp; done) | (simp; omega))) ?_); conv => whnf)
      | (refine Exists.intro _ (And.intro (lEqI (by first | omega | (simp; done) | (simp; omega))) ?_); conv => whnf)
      | (refine Exists.intro _ (Exists.intro _ (And.intro (And.intro (lMarkHill (by first | omega | (simp; done) | (simp; omega)) (by first | omega | (simp; done) | (simp; omega)) (by first | omega | (simp; done) | (simp; omega))) (by simp)) ?_)); conv => whnf)
      | (refine Exists.intro _ (Exists.intro _ (And.intro (And.intro (lMarkI (by first | omega | (simp; done) | (simp; omega)) (by first | omega | (simp; done) | (simp; omega)) (by first | omega | (simp; done) | (simp; omega))) (by simp)) ?_)); conv => whnf)
      | (refine Exists.intro _ (And.intro (lHeldHill (by first | omega | (simp; done) | (simp; omega)) (by first | omega | (simp; done) | (simp; omega)) (by first | omega | (simp; done) | (simp; omega))) ?_); conv => whnf))
  · repeat (first
      | (refine ⟨⟨by kernel_rfl, by kernel_rfl⟩, ?_⟩; conv => whnf)
      | (refine And.intro (by first | omega | (simp; done) | (simp; omega)) ?_; conv => whnf)
      | (refine Or.inl (And.intro (by omega) ?_); conv => whnf)
      | (refine br_intro (fun h => by exfalso; first | (simp at h; done) | (simp at h; omega) | omega) (fun _ => ?_); conv => whnf)
      | (refine br_intro (fun _ => ?_) (fun h => by exfalso; first | (simp at h; done) | (simp at h; omega) | omega); conv => whnf)
      | (refine Exists.intro _ (And.intro (lSzHill' (by first | omega | (simp; done) | (simp; omega)) (by first | omega | (simp; done) | (simp; omega)) (by first | omega | (simp; done) | (simp; omega))) ?_); conv => whnf))

end Go.Proofs.Ytfgmbbofmiegdaa
