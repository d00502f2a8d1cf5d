/- What each function of this seat does (Dig). Printed from templates of this seat's own. -/
import Derived.Test.YtagiajolklbbiaaR8b
namespace Go.Proofs.Ytagiajolklbbiaa
open Go.Ax Go.Bx
set_option maxRecDepth 8000
set_option linter.unusedSimpArgs false
set_option linter.unusedVariables false
noncomputable def dgN (xs : List Nat) (cs : List Int) (a : Nat) : Nat → List Nat
  | 0 => xs
  | i + 1 => (dgN xs cs a i).set (cs.getD i 0).toNat (fop .sub .f32 ((dgN xs cs a i).getD (cs.getD i 0).toNat 0) a)
@[simp] theorem dgN_len (xs : List Nat) (cs : List Int) (a : Nat) : ∀ i, (dgN xs cs a i).length = xs.length
  | 0 => rfl
  | i + 1 => by rw [dgN, List.length_set, dgN_len xs cs a i]
noncomputable def dgC0 (W H : Int) (xs : List Nat) (cs : List Int) (a : Nat) : Bool := hillB W H xs && fin a && isSetB cs (W * H)
noncomputable def dgC (W H : Int) (xs : List Nat) (cs : List Int) (a : Nat) : Bool := dgC0 W H xs cs a && hillB W H (dgN xs cs a cs.length)
noncomputable def dgO (W H : Int) (xs : List Nat) (cs : List Int) (a : Nat) : List Nat := bif dgC W H xs cs a then dgN xs cs a cs.length else []
noncomputable def dgR (W H : Int) (xs : List Nat) (cs : List Int) (a : Nat) : AV := .tup [.agg [.int .i64 (selI (dgC W H xs cs a) W), .int .i64 (selI (dgC W H xs cs a) H), .own 0 .f32 (dgO W H xs cs a)], .bool (dgC W H xs cs a)]
theorem dgO_len (W H : Int) (xs : List Nat) (cs : List Int) (a : Nat) (h : xs.length ≤ 1048576) : (dgO W H xs cs a).length ≤ 1048576 := by
  unfold dgO
  cases dgC W H xs cs a
  · exact Nat.zero_le _
  · rw [cond_true, dgN_len]; exact h
theorem isSetB_at {cs : List Int} {N : Int} {i : Nat} (h : isSetB cs N = true) (hi : i < cs.length) : 0 ≤ cs.getD i 0 ∧ cs.getD i 0 < N := by
  have := allN_iff.1 h i hi
  simp only [setAt, inR, Bool.and_eq_true, decide_eq_true_eq] at this
  omega

theorem iDig {W H : Int} {xs : List Nat} {cs : List Int} {a : Nat} {t t' : AV} (hn : xs.length ≤ 1048576) (hn' : cs.length ≤ 1048576) : Does Try.prog 17 [.agg [.int .i64 W, .int .i64 H, .sli .f32 xs t], .sli (.int .i64) cs t', .flt .f32 a] (dgR W H xs cs a) := by
  refine Does.of_awp (X := cx 55) Try.func17 rfl (by kernel_rfl) rfl (by simp [cx]) [136] rfl ?_
  conv => whnf
  repeat (first
    | (refine ⟨⟨by kernel_rfl, by kernel_rfl⟩, ?_⟩; conv => whnf)
    | (refine And.intro (by first | omega | (simp; done) | (simp; omega)) ?_; conv => whnf)
    | (refine Or.inl (And.intro (by omega) ?_); conv => whnf)
    | (refine Exists.intro _ (And.intro (iIs (by first | omega | (simp; done) | (simp; omega))) ?_); conv => whnf))
  (refine br_intro (fun g1 => ?_) (fun g1 => ?_) <;> (conv => whnf))
  · have g1 : hillB W H xs = false := by simpa using g1
    all_goals (try (conv => whnf))
    all_goals (repeat' (first | exact True.intro | (refine And.intro ?_ ?_ <;> (conv => whnf))))
    all_goals (first | rfl | (simp_all [dgR, dgO, dgC, dgC0, selI]; done) | (simp only [dgR, dgO, dgC, dgC0, selI, cond_true, cond_false, Bool.and_true, Bool.true_and, Bool.and_false, Bool.false_and]; rfl) | (simp_all [dgR, dgO, dgC, dgC0, selI]; omega))
  have g1 : hillB W H xs = true := by simpa using g1
  obtain ⟨k1, k2, k3, k4, k5, k6, k7⟩ := hill_len g1
  repeat (first
    | (refine ⟨⟨by kernel_rfl, by kernel_rfl⟩, ?_⟩; conv => whnf)
    | (refine And.intro (by first | omega | (simp; done) | (simp; omega)) ?_; conv => whnf)
    | (refine Or.inl (And.intro (by omega) ?_); conv => whnf)
    | (refine Exists.intro _ (And.intro (iSet (by first | omega | (simp; done) | (simp; omega)) (by first | omega | (simp; done) | (simp; omega))) ?_); conv => whnf))
  (refine br_intro (fun g2 => ?_) (fun g2 => ?_) <;> (conv => whnf))
  · have g2 : isSetB cs xs.length = false := by simpa using g2
    rw [k5] at g2
    all_goals (try (conv => whnf))
    all_goals (repeat' (first | exact True.intro | (refine And.intro ?_ ?_ <;> (conv => whnf))))
    all_goals (first | rfl | (simp_all [dgR, dgO, dgC, dgC0, selI]; done) | (simp only [dgR, dgO, dgC, dgC0, selI, cond_true, cond_false, Bool.and_true, Bool.true_and, Bool.and_false, Bool.false_and]; rfl) | (simp_all [dgR, dgO, dgC, dgC0, selI]; omega))
  have g2 : isSetB cs xs.length = true := by simpa using g2
  repeat (first
    | (refine ⟨⟨by kernel_rfl, by kernel_rfl⟩, ?_⟩; conv => whnf)
    | (refine And.intro (by first | omega | (simp; done) | (simp; omega)) ?_; conv => whnf)
    | (refine Or.inl (And.intro (by omega) ?_); conv => whnf)
    | (refine Exists.intro _ (And.intro (iIsFinite) ?_); conv => whnf))
  (refine br_intro (fun g3 => ?_) (fun g3 => ?_) <;> (conv => whnf))
  · have g3 : fin a = false := by simpa using g3
    all_goals (try (conv => whnf))
    all_goals (repeat' (first | exact True.intro | (refine And.intro ?_ ?_ <;> (conv => whnf))))
    all_goals (first | rfl | (simp_all [dgR, dgO, dgC, dgC0, selI]; done) | (simp only [dgR, dgO, dgC, dgC0, selI, cond_true, cond_false, Bool.and_true, Bool.true_and, Bool.and_false, Bool.false_and]; rfl) | (simp_all [dgR, dgO, dgC, dgC0, selI]; omega))
  have g3 : fin a = true := by simpa using g3
  have eC : dgC W H xs cs a = hillB W H (dgN xs cs a cs.length) := by rw [dgC, dgC0, g1, g3, ← k5, g2]; rfl
  clear g1 g3
  repeat (first
    | (refine ⟨⟨by kernel_rfl, by kernel_rfl⟩, ?_⟩; conv => whnf)
    | (refine And.intro (by first | omega | (simp; done) | (simp; omega)) ?_; conv => whnf)
    | (refine Or.inl (And.intro (by omega) ?_); conv => whnf)
    | (refine Exists.intro _ (And.intro (xClone (by first | omega | (simp; done) | (simp; omega)) (by first | omega | (simp; done) | (simp; omega))) ?_); conv => whnf))
  refine ⟨Nat, fun i => i ≤ cs.length, fun i => [(2, .flt .f32 a), (6, .loc 24 0), (8, .loc 32 0), (36, .sli (.int .i64) cs t'), (37, .int .i64 cs.length), (38, .int .i64 i)], fun i => [(24, .av [.int .i64 0, .int .i64 0, .emp .f32]), (32, .av [.int .i64 W, .int .i64 H, .osl 136]), (136, .tab .f32 (dgN xs cs a i))], fun i => cs.length - i, ⟨0, id, Nat.zero_le _, rfl, ⟨rfl, rfl, rfl, rfl, rfl, rfl, trivial⟩, ⟨rfl, rfl, rfl, trivial⟩⟩, fun i hi => ?_⟩
  have hl := dgN_len xs cs a i
  conv => whnf
  (refine br_intro (fun h => ?_) (fun h => ?_) <;> (conv => whnf))
  · have h : i < cs.length := by simp at h; omega
    have hc : 0 ≤ cs.getD (i : Int).toNat (RK.int .i64).z ∧ cs.getD (i : Int).toNat (RK.int .i64).z < xs.length := isSetB_at g2 h
    repeat (first
      | (refine ⟨⟨by kernel_rfl, by kernel_rfl⟩, ?_⟩; conv => whnf)
      | (refine And.intro (by first | omega | (simp; done) | (simp; omega)) ?_; conv => whnf)
      | (refine Or.inl (And.intro (by omega) ?_); conv => whnf))
    refine ⟨i + 1, id, ⟨h, by dsimp only; omega⟩, rfl, ⟨rfl, rfl, rfl, rfl, rfl, rfl, trivial⟩, ⟨rfl, rfl, rfl, trivial⟩⟩
  · have h : i = cs.length := by simp at h; omega
    subst h
    cases hG : hillB W H (dgN xs cs a cs.length) with
    | true =>
      rw [hG] at eC
      have e := iGive (t := .osl 136) (by omega) hG
      repeat (first
        | (refine ⟨⟨by kernel_rfl, by kernel_rfl⟩, ?_⟩; conv => whnf)
        | (refine And.intro (by first | omega | (simp; done) | (simp; omega)) ?_; conv => whnf)
        | (refine Or.inl (And.intro (by omega) ?_); conv => whnf)
        | (refine Exists.intro _ (And.intro (e) ?_); conv => whnf))
      all_goals (try (conv => whnf))
      all_goals (repeat' (first | exact True.intro | (refine And.intro ?_ ?_ <;> (conv => whnf))))
      all_goals (first | rfl | (simp_all [dgR, dgO, eC, selI]; done) | (simp only [dgR, dgO, eC, selI, cond_true, cond_false, Bool.and_true, Bool.true_and, Bool.and_false, Bool.false_and]; rfl) | (simp_all [dgR, dgO, eC, selI]; omega))
    | false =>
      rw [hG] at eC
      have e := iGive' (t := .osl 136) (by omega) hG
      repeat (first
        | (refine ⟨⟨by kernel_rfl, by kernel_rfl⟩, ?_⟩; conv => whnf)
        | (refine And.intro (by first | omega | (simp; done) | (simp; omega)) ?_; conv => whnf)
        | (refine Or.inl (And.intro (by omega) ?_); conv => whnf)
        | (refine Exists.intro _ (And.intro (e) ?_); conv => whnf))
      all_goals (try (conv => whnf))
      all_goals (repeat' (first | exact True.intro | (refine And.intro ?_ ?_ <;> (conv => whnf))))
      all_goals (first | rfl | (simp_all [dgR, dgO, eC, selI]; done) | (simp only [dgR, dgO, eC, selI, cond_true, cond_false, Bool.and_true, Bool.true_and, Bool.and_false, Bool.false_and]; rfl) | (simp_all [dgR, dgO, eC, selI]; omega))

end Go.Proofs.Ytagiajolklbbiaa
