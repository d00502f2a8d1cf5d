/- What each function of this seat does (Smo). Printed from templates of this seat's own. -/
import Derived.Test.YtfgmbbofmiegdaaNbr
namespace Go.Proofs.Ytfgmbbofmiegdaa
open Go.Ax Go.Bx
set_option maxRecDepth 8000
set_option linter.unusedSimpArgs false
set_option linter.unusedVariables false
section
variable (W H : Int) (xs : List Nat) (c : Int)
noncomputable def smF (a : Nat) (r : Int × Nat) : Nat := fop .add .f32 a (xs.getD r.1.toNat 0)
noncomputable def smI : Nat := fop .add .f32 (canon .f32 0) (xs.getD c.toNat 0)
noncomputable def smS (k : Nat) : Nat := (nbL W H c k).foldl (smF xs) (smI xs c)
noncomputable def smV : Nat := fop .quo .f32 (smS W H xs c 8) (foi .f32 ((nbL W H c 8).length + 1))
noncomputable def smL : List Nat := tabN (fun i => smV W H xs (i : Nat)) (W * H).toNat
end
theorem smS_no {W H c : Int} {xs : List Nat} {k : Nat} (h : nbOk W H c k = false) : smS W H xs c k = smS W H xs c (k + 1) := by
  unfold smS; rw [← nbL_no h]
theorem smS_yes {W H c : Int} {xs : List Nat} {k : Nat} (h : nbOk W H c k = true) : fop .add .f32 (smS W H xs c k) (xs.getD (nbC W c k).toNat 0) = smS W H xs c (k + 1) := by
  unfold smS; rw [← nbL_yes h, List.foldl_append]; rfl
theorem nbAt_neg {W H c : Int} {k : Nat} (h : nbOk W H c k = false) : nbAt W H c k = -1 := by unfold nbAt; rw [h]; rfl
theorem nbAt_pos {W H c : Int} {k : Nat} (h : nbOk W H c k = true) : nbAt W H c k = nbC W c k := by unfold nbAt; rw [h]; rfl
theorem nearL_getD {W H c : Int} {k : Nat} (h : k < 8) : (nearL W H c).getD k 0 = nbAt W H c k := tabN_getD _ h _
noncomputable def hlC (W H : Int) (xs out : List Nat) : Bool := hillB W H xs && hillB W H out
noncomputable def hlO (W H : Int) (xs out : List Nat) : List Nat := bif hlC W H xs out then out else []
noncomputable def hlR (W H : Int) (xs out : List Nat) : AV := .tup [.agg [.int .i64 (selI (hlC W H xs out) W), .int .i64 (selI (hlC W H xs out) H), .own 0 .f32 (hlO W H xs out)], .bool (hlC W H xs out)]

theorem sSmooth {W H : Int} {xs : List Nat} {t : AV} (hn : xs.length ≤ 1048576) : Does Try.prog 25 [.agg [.int .i64 W, .int .i64 H, .sli .f32 xs t]] (hlR W H xs (smL W H xs)) := by
  refine Does.of_awp (X := cx 70) Try.func25 rfl (by kernel_rfl) rfl (by simp [cx]) [68] rfl ?_
  conv => whnf
  repeat (first
    | (refine ⟨⟨by kernel_rfl, by kernel_rfl⟩, ?_⟩; conv => whnf)
    | (refine And.intro (by first | omega | (simp; done) | (simp; omega)) ?_; conv => whnf)
    | (refine Or.inl (And.intro (by omega) ?_); conv => whnf)
    | (refine Exists.intro _ (And.intro (sIs (by first | omega | (simp; done) | (simp; omega))) ?_); conv => whnf))
  (refine br_intro (fun g1 => ?_) (fun g1 => ?_) <;> (conv => whnf))
  · have g1 : hillB W H xs = false := by simpa using g1
    all_goals (try (conv => whnf))
    all_goals (repeat' (first | exact True.intro | (refine And.intro ?_ ?_ <;> (conv => whnf))))
    all_goals (first | rfl | (simp_all [hlR, hlO, hlC, selI]; done) | (simp only [hlR, hlO, hlC, selI, cond_true, cond_false, Bool.and_true, Bool.true_and, Bool.and_false, Bool.false_and]; rfl) | (simp_all [hlR, hlO, hlC, selI]; omega))
  have g1 : hillB W H xs = true := by simpa using g1
  obtain ⟨k1, k2, k3, k4, k5, k6, k7⟩ := hill_len g1
  repeat (first
    | (refine ⟨⟨by kernel_rfl, by kernel_rfl⟩, ?_⟩; conv => whnf)
    | (refine And.intro (by first | omega | (simp; done) | (simp; omega)) ?_; conv => whnf)
    | (refine Or.inl (And.intro (by omega) ?_); conv => whnf))
  refine ⟨Nat, fun i => i ≤ (W * H).toNat, fun i => [(1, .loc 4 0), (2, .loc 8 0), (4, .loc 16 0), (5, .int .i64 i)], fun i => [(4, .av [.int .i64 W, .int .i64 H, .sli .f32 xs t]), (8, .av [.int .i64 0, .int .i64 0, .emp .f32]), (16, .av [.int .i64 W, .int .i64 H, .osl 68]), (68, .tab .f32 (tabN (fun i => smV W H xs (i : Nat)) i))], fun i => (W * H).toNat - i, ⟨0, id, Nat.zero_le _, rfl, ⟨rfl, rfl, rfl, rfl, trivial⟩, ⟨rfl, rfl, rfl, rfl, trivial⟩⟩, fun i hi => ?_⟩
  conv => whnf
  repeat (first
    | (refine ⟨⟨by kernel_rfl, by kernel_rfl⟩, ?_⟩; conv => whnf)
    | (refine And.intro (by first | omega | (simp; done) | (simp; omega)) ?_; conv => whnf)
    | (refine Or.inl (And.intro (by omega) ?_); conv => whnf))
  (refine br_intro (fun h => ?_) (fun h => ?_) <;> (conv => whnf))
  · have h : i < (W * H).toNat := by simp at h; omega
    have hC : Cel W H i := ⟨⟨k1, k2, k3, k4⟩, by omega, by omega⟩
    repeat (first
      | (refine ⟨⟨by kernel_rfl, by kernel_rfl⟩, ?_⟩; conv => whnf)
      | (refine And.intro (by first | omega | (simp; done) | (simp; omega)) ?_; conv => whnf)
      | (refine Or.inl (And.intro (by omega) ?_); conv => whnf)
      | (refine Exists.intro _ (And.intro (sNear hC) ?_); conv => whnf))
    refine ⟨Nat, fun k => k ≤ 8, fun k => [(1, .loc 4 0), (2, .loc 8 0), (4, .loc 16 0), (5, .int .i64 i), (6, .osl 116), (7, .flt .f32 (smS W H xs i k)), (8, .int .i64 ((nbL W H i k).length + 1)), (9, .int .i64 k)], fun k => [(4, .av [.int .i64 W, .int .i64 H, .sli .f32 xs t]), (8, .av [.int .i64 0, .int .i64 0, .emp .f32]), (16, .av [.int .i64 W, .int .i64 H, .osl 68]), (68, .tab .f32 (tabN (fun i => smV W H xs (i : Nat)) i)), (116, .tab (.int .i64) (nearL W H i))], fun k => 8 - k, ⟨0, id, Nat.zero_le _, rfl, ⟨rfl, rfl, rfl, rfl, rfl, rfl, rfl, rfl, trivial⟩, ⟨rfl, rfl, rfl, rfl, rfl, trivial⟩⟩, fun k hk => ?_⟩
    conv => whnf
    (refine br_intro (fun h2 => ?_) (fun h2 => ?_) <;> (conv => whnf))
    · have h2 : k < 8 := by simp at h2; omega
      have hl : (nearL W H i).length = 8 := tabN_len _ _
      have hg : (nearL W H i).getD (k : Int).toNat (RK.int .i64).z = nbAt W H i k := nearL_getD h2
      have hlen := nbL_len W H i k
      repeat (first
        | (refine ⟨⟨by kernel_rfl, by kernel_rfl⟩, ?_⟩; conv => whnf)
        | (refine And.intro (by first | omega | (simp; done) | (simp; omega)) ?_; conv => whnf)
        | (refine Or.inl (And.intro (by omega) ?_); conv => whnf))
      cases hO : nbOk W H i k with
      | true =>
        have r := nbC_range k1 hO
        have hg' := hg
        rw [nbAt_pos hO] at hg'
        (refine br_intro (fun h3 => ?_) (fun h3 => ?_) <;> (conv => whnf))
        · repeat (first
            | (refine ⟨⟨by kernel_rfl, by kernel_rfl⟩, ?_⟩; conv => whnf)
            | (refine And.intro (by first | omega | (simp; done) | (simp; omega)) ?_; conv => whnf)
            | (refine Or.inl (And.intro (by omega) ?_); conv => whnf))
          have e7 : fop .add .f32 (smS W H xs i k) (xs.getD ((nearL W H i).getD (k : Int).toNat (RK.int .i64).z).toNat 0) = smS W H xs i (k + 1) := by rw [hg', smS_yes hO]
          have e8 : ((nbL W H i k).length : Int) + 1 + 1 = (nbL W H i (k + 1)).length + 1 := by rw [← nbL_yes hO]; simp
          refine ⟨k + 1, id, ⟨h2, by dsimp only; omega⟩, rfl, ⟨rfl, rfl, rfl, rfl, rfl, congrArg (AV.flt .f32) e7, congrArg (AV.int .i64) e8, rfl, trivial⟩, ⟨rfl, rfl, rfl, rfl, rfl, trivial⟩⟩
        · exfalso
          have h3 : decide ((nearL W H i).getD (k : Int).toNat (RK.int .i64).z ≥ 0) = false := h3
          rw [hg'] at h3; simp at h3; omega
      | false =>
        have hg' := hg
        rw [nbAt_neg hO] at hg'
        (refine br_intro (fun h3 => ?_) (fun h3 => ?_) <;> (conv => whnf))
        · exfalso
          have h3 : decide ((nearL W H i).getD (k : Int).toNat (RK.int .i64).z ≥ 0) = true := h3
          rw [hg'] at h3; simp at h3
        · repeat (first
            | (refine ⟨⟨by kernel_rfl, by kernel_rfl⟩, ?_⟩; conv => whnf)
            | (refine And.intro (by first | omega | (simp; done) | (simp; omega)) ?_; conv => whnf)
            | (refine Or.inl (And.intro (by omega) ?_); conv => whnf))
          refine ⟨k + 1, id, ⟨h2, by dsimp only; omega⟩, rfl, ⟨rfl, rfl, rfl, rfl, rfl, congrArg (AV.flt .f32) (smS_no hO), congrArg (fun l : List (Int × Nat) => AV.int .i64 ((l.length : Int) + 1)) (nbL_no hO), rfl, trivial⟩, ⟨rfl, rfl, rfl, rfl, rfl, trivial⟩⟩
    · have h2 : k = 8 := by simp at h2; omega
      subst h2
      have hlen := nbL_len W H i 8
      repeat (first
        | (refine ⟨⟨by kernel_rfl, by kernel_rfl⟩, ?_⟩; conv => whnf)
        | (refine And.intro (by first | omega | (simp; done) | (simp; omega)) ?_; conv => whnf)
        | (refine Or.inl (And.intro (by omega) ?_); conv => whnf))
      refine ⟨i + 1, ren [(68, 256)], ⟨h, by dsimp only; omega⟩, rfl, ⟨rfl, rfl, rfl, rfl, trivial⟩, ⟨rfl, rfl, rfl, rfl, trivial⟩⟩
  · have h : i = (W * H).toNat := by simp at h; omega
    subst h
    have hl : (smL W H xs).length = (W * H).toNat := tabN_len _ _
    have hl' : (tabN (fun i => smV W H xs (i : Nat)) (W * H).toNat).length ≤ 1048576 := by rw [tabN_len]; omega
    cases hG : hillB W H (smL W H xs) with
    | true =>
      have eC : hlC W H xs (smL W H xs) = true := by rw [hlC, g1, hG]; rfl
      have e := sGive (t := .osl 68) hl' hG
      repeat (first
        | (refine ⟨⟨by kernel_rfl, by kernel_rfl⟩, ?_⟩; conv => whnf)
        | (refine And.intro (by first | omega | (simp; done) | (simp; omega)) ?_; conv => whnf)
        | (refine Or.inl (And.intro (by omega) ?_); conv => whnf)
        | (refine Exists.intro _ (And.intro (e) ?_); conv => whnf))
      all_goals (try (conv => whnf))
      all_goals (repeat' (first | exact True.intro | (refine And.intro ?_ ?_ <;> (conv => whnf))))
      all_goals (first | rfl | (simp_all [hlR, hlO, eC, selI]; done) | (simp only [hlR, hlO, eC, selI, cond_true, cond_false, Bool.and_true, Bool.true_and, Bool.and_false, Bool.false_and]; rfl) | (simp_all [hlR, hlO, eC, selI]; omega))
    | false =>
      have eC : hlC W H xs (smL W H xs) = false := by rw [hlC, g1, hG]; rfl
      have e := sGive' (t := .osl 68) hl' hG
      repeat (first
        | (refine ⟨⟨by kernel_rfl, by kernel_rfl⟩, ?_⟩; conv => whnf)
        | (refine And.intro (by first | omega | (simp; done) | (simp; omega)) ?_; conv => whnf)
        | (refine Or.inl (And.intro (by omega) ?_); conv => whnf)
        | (refine Exists.intro _ (And.intro (e) ?_); conv => whnf))
      all_goals (try (conv => whnf))
      all_goals (repeat' (first | exact True.intro | (refine And.intro ?_ ?_ <;> (conv => whnf))))
      all_goals (first | rfl | (simp_all [hlR, hlO, eC, selI]; done) | (simp only [hlR, hlO, eC, selI, cond_true, cond_false, Bool.and_true, Bool.true_and, Bool.and_false, Bool.false_and]; rfl) | (simp_all [hlR, hlO, eC, selI]; omega))

end Go.Proofs.Ytfgmbbofmiegdaa
