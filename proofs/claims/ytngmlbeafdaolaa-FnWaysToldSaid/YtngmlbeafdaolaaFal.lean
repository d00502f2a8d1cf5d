/- What each function of this seat does (Fal). Printed from templates of this seat's own. -/
import Derived.Test.YtngmlbeafdaolaaSmo
import Derived.Test.YtngmlbeafdaolaaBxA
namespace Go.Proofs.Ytngmlbeafdaolaa
open Go.Ax Go.Bx
set_option maxRecDepth 8000
set_option linter.unusedSimpArgs false
set_option linter.unusedVariables false
section
variable (W H : Int) (xs : List Nat) (c : Int)
noncomputable def flD (r : Int × Nat) : Nat := fop .quo .f32 (fop .sub .f32 (xs.getD c.toNat 0) (xs.getD r.1.toNat 0)) r.2
noncomputable def flF (s : Int × Nat) (r : Int × Nat) : Int × Nat := bif fcmp .gtr .f32 (flD xs c r) s.2 then (r.1, flD xs c r) else s
noncomputable def flS (k : Nat) : Int × Nat := (nbL W H c k).foldl (flF xs c) (-1, canon .f32 0)
end
theorem hid_ex {α : Type} (x : α) : ∃ y, y = x := ⟨x, rfl⟩
/-- A value that no reckoner unfolds. -/
noncomputable def hid {α : Type} (x : α) : α := Classical.choose (hid_ex x)
theorem hid_eq {α : Type} (x : α) : hid x = x := Classical.choose_spec (hid_ex x)
noncomputable def flR (W H : Int) (xs : List Nat) (c : Int) : Int × Nat := hid (flS W H xs c 8)
theorem flR_eq (W H : Int) (xs : List Nat) (c : Int) : flR W H xs c = flS W H xs c 8 := hid_eq _
theorem flS_no {W H c : Int} {xs : List Nat} {k : Nat} (h : nbOk W H c k = false) : flS W H xs c k = flS W H xs c (k + 1) := by
  unfold flS; rw [← nbL_no h]
theorem flS_yes {W H c : Int} {xs : List Nat} {k : Nat} (h : nbOk W H c k = true) : flF xs c (flS W H xs c k) (nbC W c k, farK k) = flS W H xs c (k + 1) := by
  unfold flS; rw [← nbL_yes h, List.foldl_append]; rfl

theorem sFalls {W H c : Int} {xs : List Nat} {t t' : AV} (hl : (xs.length : Int) = W * H) (hC : Cel W H c) : Does Try.prog 88 [.ref [.int .i64 W, .int .i64 H, .sli .f32 xs t] t', .int .i64 c] (.tup [.int .i64 (flR W H xs c).1, .flt .f32 (flR W H xs c).2]) := by
  rw [flR_eq]
  have hC' := hC
  obtain ⟨⟨k1, k2, k3, k4⟩, k5, k6⟩ := hC'
  refine Does.of_awp (X := cx 56) Try.func88 rfl (by kernel_rfl) rfl (by simp [cx]) [] rfl ?_
  conv => whnf
  repeat (first
    | (refine ⟨⟨by kernel_rfl, by kernel_rfl⟩, ?_⟩; conv => whnf)
    | (refine And.intro (by first | omega | (simp; done) | (simp; omega)) ?_; conv => whnf)
    | (refine Or.inl (And.intro (by omega) ?_); conv => whnf)
    | (refine Exists.intro _ (And.intro (sNear hC) ?_); conv => whnf))
  refine ⟨Nat, fun k => k ≤ 8, fun k => [(0, .ref [.int .i64 W, .int .i64 H, .sli .f32 xs t] t'), (1, .int .i64 c), (6, .osl 52), (7, .int .i64 (flS W H xs c k).1), (8, .flt .f32 (flS W H xs c k).2), (9, .int .i64 k)], fun k => [(52, .tab (.int .i64) (nearL W H c))], fun k => 8 - k, ⟨0, id, Nat.zero_le _, rfl, ⟨rfl, rfl, rfl, rfl, rfl, rfl, trivial⟩, ⟨rfl, trivial⟩⟩, fun k hk => ?_⟩
  conv => whnf
  (refine br_intro (fun h2 => ?_) (fun h2 => ?_) <;> (conv => whnf))
  · have h2 : k < 8 := by simp at h2; omega
    have hlN : (nearL W H c).length = 8 := tabN_len _ _
    have hg : (nearL W H c).getD (k : Int).toNat (RK.int .i64).z = nbAt W H c k := nearL_getD h2
    repeat (first
      | (refine ⟨⟨by kernel_rfl, by kernel_rfl⟩, ?_⟩; conv => whnf)
      | (refine And.intro (by first | omega | (simp; done) | (simp; omega)) ?_; conv => whnf)
      | (refine Or.inl (And.intro (by omega) ?_); conv => whnf))
    cases hO : nbOk W H c k with
    | false =>
      have hg' := hg
      rw [nbAt_neg hO] at hg'
      (refine br_intro (fun h3 => ?_) (fun h3 => ?_) <;> (conv => whnf))
      · repeat (first
          | (refine ⟨⟨by kernel_rfl, by kernel_rfl⟩, ?_⟩; conv => whnf)
          | (refine And.intro (by first | omega | (simp; done) | (simp; omega)) ?_; conv => whnf)
          | (refine Or.inl (And.intro (by omega) ?_); conv => whnf))
        refine ⟨k + 1, id, ⟨h2, by dsimp only; omega⟩, rfl, ⟨rfl, rfl, rfl, congrArg (fun p : Int × Nat => AV.int .i64 p.1) (flS_no hO), congrArg (fun p : Int × Nat => AV.flt .f32 p.2) (flS_no hO), rfl, trivial⟩, ⟨rfl, trivial⟩⟩
      · exfalso
        have h3 : decide ((nearL W H c).getD (k : Int).toNat (RK.int .i64).z < 0) = false := h3
        rw [hg'] at h3; simp at h3
    | true =>
      have r := nbC_range k1 hO
      have hg' := hg
      rw [nbAt_pos hO] at hg'
      (refine br_intro (fun h3 => ?_) (fun h3 => ?_) <;> (conv => whnf))
      · exfalso
        have h3 : decide ((nearL W H c).getD (k : Int).toNat (RK.int .i64).z < 0) = true := h3
        rw [hg'] at h3; simp at h3; omega
      · repeat (first
          | (refine ⟨⟨by kernel_rfl, by kernel_rfl⟩, ?_⟩; conv => whnf)
          | (refine And.intro (by first | omega | (simp; done) | (simp; omega)) ?_; conv => whnf)
          | (refine Or.inl (And.intro (by omega) ?_); conv => whnf))
        (refine br_intro (fun h4 => ?_) (fun h4 => ?_) <;> (conv => whnf))
        · have h4 : ((k : Int) % 2 == 1) = true := h4
          have hp : farK k = canon .f32 1068827891 := by
            have : k % 2 = 1 := by simp at h4; omega
            unfold farK; rw [this]; rfl
          have eD : flD xs c (nbC W c k, farK k) = fop .quo .f32 (fop .sub .f32 (xs.getD c.toNat 0) (xs.getD ((nearL W H c).getD (k : Int).toNat (RK.int .i64).z).toNat 0)) (canon .f32 1068827891) := by
            unfold flD; rw [hp, hg']
          repeat (first
            | (refine ⟨⟨by kernel_rfl, by kernel_rfl⟩, ?_⟩; conv => whnf)
            | (refine And.intro (by first | omega | (simp; done) | (simp; omega)) ?_; conv => whnf)
            | (refine Or.inl (And.intro (by omega) ?_); conv => whnf))
          (refine br_intro (fun h5 => ?_) (fun h5 => ?_) <;> (conv => whnf))
          · have h5 : fcmp .gtr .f32 (flD xs c (nbC W c k, farK k)) (flS W H xs c k).2 = true := by rw [eD]; exact h5
            have eS : ((nearL W H c).getD (k : Int).toNat (RK.int .i64).z, fop .quo .f32 (fop .sub .f32 (xs.getD c.toNat 0) (xs.getD ((nearL W H c).getD (k : Int).toNat (RK.int .i64).z).toNat 0)) (canon .f32 1068827891)) = flS W H xs c (k + 1) := by
              rw [← flS_yes hO, flF, h5, cond_true, eD, hg']
            repeat (first
              | (refine ⟨⟨by kernel_rfl, by kernel_rfl⟩, ?_⟩; conv => whnf)
              | (refine And.intro (by first | omega | (simp; done) | (simp; omega)) ?_; conv => whnf)
              | (refine Or.inl (And.intro (by omega) ?_); conv => whnf))
            refine ⟨k + 1, id, ⟨h2, by dsimp only; omega⟩, rfl, ⟨rfl, rfl, rfl, congrArg (fun p : Int × Nat => AV.int .i64 p.1) eS, congrArg (fun p : Int × Nat => AV.flt .f32 p.2) eS, rfl, trivial⟩, ⟨rfl, trivial⟩⟩
          · have h5 : fcmp .gtr .f32 (flD xs c (nbC W c k, farK k)) (flS W H xs c k).2 = false := by rw [eD]; exact h5
            have eS : flS W H xs c k = flS W H xs c (k + 1) := by rw [← flS_yes hO, flF, h5, cond_false]
            repeat (first
              | (refine ⟨⟨by kernel_rfl, by kernel_rfl⟩, ?_⟩; conv => whnf)
              | (refine And.intro (by first | omega | (simp; done) | (simp; omega)) ?_; conv => whnf)
              | (refine Or.inl (And.intro (by omega) ?_); conv => whnf))
            refine ⟨k + 1, id, ⟨h2, by dsimp only; omega⟩, rfl, ⟨rfl, rfl, rfl, congrArg (fun p : Int × Nat => AV.int .i64 p.1) eS, congrArg (fun p : Int × Nat => AV.flt .f32 p.2) eS, rfl, trivial⟩, ⟨rfl, trivial⟩⟩
        · have h4 : ((k : Int) % 2 == 1) = false := h4
          have hp : farK k = canon .f32 1065353216 := by
            have : k % 2 = 0 := by simp at h4; omega
            unfold farK; rw [this]; rfl
          have eD : flD xs c (nbC W c k, farK k) = fop .sub .f32 (xs.getD c.toNat 0) (xs.getD ((nearL W H c).getD (k : Int).toNat (RK.int .i64).z).toNat 0) := by
            unfold flD; rw [hp, hg', (sub_Cn _ _).quo1]
          repeat (first
            | (refine ⟨⟨by kernel_rfl, by kernel_rfl⟩, ?_⟩; conv => whnf)
            | (refine And.intro (by first | omega | (simp; done) | (simp; omega)) ?_; conv => whnf)
            | (refine Or.inl (And.intro (by omega) ?_); conv => whnf))
          (refine br_intro (fun h5 => ?_) (fun h5 => ?_) <;> (conv => whnf))
          · have h5 : fcmp .gtr .f32 (flD xs c (nbC W c k, farK k)) (flS W H xs c k).2 = true := by rw [eD]; exact h5
            have eS : ((nearL W H c).getD (k : Int).toNat (RK.int .i64).z, fop .sub .f32 (xs.getD c.toNat 0) (xs.getD ((nearL W H c).getD (k : Int).toNat (RK.int .i64).z).toNat 0)) = flS W H xs c (k + 1) := by
              rw [← flS_yes hO, flF, h5, cond_true, eD, hg']
            repeat (first
              | (refine ⟨⟨by kernel_rfl, by kernel_rfl⟩, ?_⟩; conv => whnf)
              | (refine And.intro (by first | omega | (simp; done) | (simp; omega)) ?_; conv => whnf)
              | (refine Or.inl (And.intro (by omega) ?_); conv => whnf))
            refine ⟨k + 1, id, ⟨h2, by dsimp only; omega⟩, rfl, ⟨rfl, rfl, rfl, congrArg (fun p : Int × Nat => AV.int .i64 p.1) eS, congrArg (fun p : Int × Nat => AV.flt .f32 p.2) eS, rfl, trivial⟩, ⟨rfl, trivial⟩⟩
          · have h5 : fcmp .gtr .f32 (flD xs c (nbC W c k, farK k)) (flS W H xs c k).2 = false := by rw [eD]; exact h5
            have eS : flS W H xs c k = flS W H xs c (k + 1) := by rw [← flS_yes hO, flF, h5, cond_false]
            repeat (first
              | (refine ⟨⟨by kernel_rfl, by kernel_rfl⟩, ?_⟩; conv => whnf)
              | (refine And.intro (by first | omega | (simp; done) | (simp; omega)) ?_; conv => whnf)
              | (refine Or.inl (And.intro (by omega) ?_); conv => whnf))
            refine ⟨k + 1, id, ⟨h2, by dsimp only; omega⟩, rfl, ⟨rfl, rfl, rfl, congrArg (fun p : Int × Nat => AV.int .i64 p.1) eS, congrArg (fun p : Int × Nat => AV.flt .f32 p.2) eS, rfl, trivial⟩, ⟨rfl, trivial⟩⟩
  · have h2 : k = 8 := by simp at h2; omega
    subst h2
    repeat (first
      | (refine ⟨⟨by kernel_rfl, by kernel_rfl⟩, ?_⟩; conv => whnf)
      | (refine And.intro (by first | omega | (simp; done) | (simp; omega)) ?_; conv => whnf)
      | (refine Or.inl (And.intro (by omega) ?_); conv => whnf))
    all_goals (try (conv => whnf))
    all_goals (repeat' (first | exact True.intro | (refine And.intro ?_ ?_ <;> (conv => whnf))))
    all_goals (first | rfl | (simp_all []; done) | (simp only [cond_true, cond_false, Bool.and_true, Bool.true_and, Bool.and_false, Bool.false_and]; rfl) | (simp_all []; omega))

theorem iFall {W H c : Int} {xs : List Nat} {t : AV} (hl : (xs.length : Int) = W * H) (hC : Cel W H c) : Does Try.prog 60 [.agg [.int .i64 W, .int .i64 H, .sli .f32 xs t], .int .i64 c] (.tup [.int .i64 (flR W H xs c).1, .flt .f32 (flR W H xs c).2]) := by
  rw [flR_eq]
  have hC' := hC
  obtain ⟨⟨k1, k2, k3, k4⟩, k5, k6⟩ := hC'
  have hlen := nbL_len W H c 8
  refine Does.of_awp (X := cx 43) Try.func60 rfl (by kernel_rfl) rfl (by simp [cx]) [] rfl ?_
  conv => whnf
  repeat (first
    | (refine ⟨⟨by kernel_rfl, by kernel_rfl⟩, ?_⟩; conv => whnf)
    | (refine And.intro (by first | omega | (simp; done) | (simp; omega)) ?_; conv => whnf)
    | (refine Or.inl (And.intro (by omega) ?_); conv => whnf)
    | (refine Exists.intro _ (And.intro (iNbrs hC) ?_); conv => whnf))
  refine ⟨Nat, fun j => j ≤ (nbL W H c 8).length, fun j => [(1, .int .i64 c), (2, .loc 8 0), (6, .int .i64 (fo (flF xs c) (-1, canon .f32 0) (nbL W H c 8) j).1), (7, .flt .f32 (fo (flF xs c) (-1, canon .f32 0) (nbL W H c 8) j).2), (13, .osl 52), (14, .int .i64 (nbL W H c 8).length), (15, .int .i64 j)], fun j => [(8, .av [.int .i64 W, .int .i64 H, .sli .f32 xs t]), (52, .tab .nb (nbL W H c 8))], fun j => (nbL W H c 8).length - j, ⟨0, id, Nat.zero_le _, rfl, ⟨rfl, rfl, rfl, rfl, rfl, rfl, rfl, trivial⟩, ⟨rfl, rfl, trivial⟩⟩, fun j hj => ?_⟩
  conv => whnf
  (refine br_intro (fun h => ?_) (fun h => ?_) <;> (conv => whnf))
  · have h : j < (nbL W H c 8).length := by simp at h; omega
    have hr : 0 ≤ ((nbL W H c 8).getD (j : Int).toNat RK.nb.z).1 ∧ ((nbL W H c 8).getD (j : Int).toNat RK.nb.z).1 < W * H := nbL_mem k1 (getD_mem h _)
    have hfo := fo_succ (flF xs c) (-1, canon .f32 0) h RK.nb.z
    repeat (first
      | (refine ⟨⟨by kernel_rfl, by kernel_rfl⟩, ?_⟩; conv => whnf)
      | (refine And.intro (by first | omega | (simp; done) | (simp; omega)) ?_; conv => whnf)
      | (refine Or.inl (And.intro (by omega) ?_); conv => whnf))
    (refine br_intro (fun h5 => ?_) (fun h5 => ?_) <;> (conv => whnf))
    · have h5 : fcmp .gtr .f32 (flD xs c ((nbL W H c 8).getD j RK.nb.z)) (fo (flF xs c) (-1, canon .f32 0) (nbL W H c 8) j).2 = true := h5
      have eS : (((nbL W H c 8).getD j RK.nb.z).1, flD xs c ((nbL W H c 8).getD j RK.nb.z)) = fo (flF xs c) (-1, canon .f32 0) (nbL W H c 8) (j + 1) := by rw [hfo, flF, h5, cond_true]
      have e1 : ((nbL W H c 8).getD j RK.nb.z).1 = (fo (flF xs c) (-1, canon .f32 0) (nbL W H c 8) (j + 1)).1 := by rw [← eS]
      have e2 : flD xs c ((nbL W H c 8).getD j RK.nb.z) = (fo (flF xs c) (-1, canon .f32 0) (nbL W H c 8) (j + 1)).2 := by rw [← eS]
      repeat (first
        | (refine ⟨⟨by kernel_rfl, by kernel_rfl⟩, ?_⟩; conv => whnf)
        | (refine And.intro (by first | omega | (simp; done) | (simp; omega)) ?_; conv => whnf)
        | (refine Or.inl (And.intro (by omega) ?_); conv => whnf))
      refine ⟨j + 1, id, ⟨h, by dsimp only; omega⟩, rfl, ⟨rfl, rfl, congrArg (AV.int .i64) e1, congrArg (AV.flt .f32) e2, rfl, rfl, rfl, trivial⟩, ⟨rfl, rfl, trivial⟩⟩
    · have h5 : fcmp .gtr .f32 (flD xs c ((nbL W H c 8).getD j RK.nb.z)) (fo (flF xs c) (-1, canon .f32 0) (nbL W H c 8) j).2 = false := h5
      have eS : fo (flF xs c) (-1, canon .f32 0) (nbL W H c 8) j = fo (flF xs c) (-1, canon .f32 0) (nbL W H c 8) (j + 1) := by rw [hfo, flF, h5, cond_false]
      have e1 := congrArg Prod.fst eS
      have e2 := congrArg Prod.snd eS
      repeat (first
        | (refine ⟨⟨by kernel_rfl, by kernel_rfl⟩, ?_⟩; conv => whnf)
        | (refine And.intro (by first | omega | (simp; done) | (simp; omega)) ?_; conv => whnf)
        | (refine Or.inl (And.intro (by omega) ?_); conv => whnf))
      refine ⟨j + 1, id, ⟨h, by dsimp only; omega⟩, rfl, ⟨rfl, rfl, congrArg (AV.int .i64) e1, congrArg (AV.flt .f32) e2, rfl, rfl, rfl, trivial⟩, ⟨rfl, rfl, trivial⟩⟩
  · have h : j = (nbL W H c 8).length := by simp at h; omega
    subst h
    have e : fo (flF xs c) (-1, canon .f32 0) (nbL W H c 8) (nbL W H c 8).length = flS W H xs c 8 := fo_all _ _ _
    repeat (first
      | (refine ⟨⟨by kernel_rfl, by kernel_rfl⟩, ?_⟩; conv => whnf)
      | (refine And.intro (by first | omega | (simp; done) | (simp; omega)) ?_; conv => whnf)
      | (refine Or.inl (And.intro (by omega) ?_); conv => whnf))
    exact ⟨congrArg (fun p : Int × Nat => AV.int .i64 p.1) e, congrArg (fun p : Int × Nat => AV.flt .f32 p.2) e, trivial⟩

noncomputable def waL (W H : Int) (xs : List Nat) : List Int := tabN (fun i => (flR W H xs (i : Nat)).1) (W * H).toNat
noncomputable def waC (W H : Int) (xs : List Nat) : Bool := hillB W H xs && allN (fun i => fin (flR W H xs (i : Nat)).2) (W * H).toNat
noncomputable def waO (W H : Int) (xs : List Nat) : List Int := bif waC W H xs then waL W H xs else []
theorem waO_len (W H : Int) (xs : List Nat) : (waO W H xs).length ≤ 256 := by
  unfold waO
  cases h : waC W H xs
  · exact Nat.zero_le _
  · simp only [waC, Bool.and_eq_true] at h
    have := hill_len h.1
    rw [cond_true, waL, tabN_len]; omega
theorem sDown {W H : Int} {xs : List Nat} {t t' : AV} (h0 : hillB W H xs = true) : Does Try.prog 69 [.ref [.int .i64 W, .int .i64 H, .sli .f32 xs t] t'] (.tup [.own 0 (.int .i64) (waO W H xs), .bool (waC W H xs)]) := by
  obtain ⟨k1, k2, k3, k4, k5, k6, k7⟩ := hill_len h0
  have eC : waC W H xs = allN (fun i => fin (flR W H xs (i : Nat)).2) (W * H).toNat := by rw [waC, h0]; rfl
  refine Does.of_awp (X := cx 36) Try.func69 rfl (by kernel_rfl) rfl (by simp [cx]) [32] rfl ?_
  conv => whnf
  repeat (first
    | (refine ⟨⟨by kernel_rfl, by kernel_rfl⟩, ?_⟩; conv => whnf)
    | (refine And.intro (by first | omega | (simp; done) | (simp; omega)) ?_; conv => whnf)
    | (refine Or.inl (And.intro (by omega) ?_); conv => whnf))
  refine ⟨Nat, fun i => i ≤ (W * H).toNat ∧ allN (fun i => fin (flR W H xs (i : Nat)).2) i = true, fun i => [(0, .ref [.int .i64 W, .int .i64 H, .sli .f32 xs t] t'), (4, .osl 32), (5, .int .i64 i)], fun i => [(32, .tab (.int .i64) (tabN (fun i => (flR W H xs (i : Nat)).1) i))], fun i => (W * H).toNat - i, ⟨0, id, ⟨Nat.zero_le _, rfl⟩, rfl, ⟨rfl, rfl, rfl, trivial⟩, ⟨rfl, trivial⟩⟩, fun i hi => ?_⟩
  obtain ⟨hi, hA⟩ := hi
  conv => whnf
  repeat (first
    | (refine ⟨⟨by kernel_rfl, by kernel_rfl⟩, ?_⟩; conv => whnf)
    | (refine And.intro (by first | omega | (simp; done) | (simp; omega)) ?_; conv => whnf)
    | (refine Or.inl (And.intro (by omega) ?_); conv => whnf))
  (refine br_intro (fun h => ?_) (fun h => ?_) <;> (conv => whnf))
  · have h : i < (W * H).toNat := by simp at h; omega
    have hC : Cel W H i := ⟨⟨k1, k2, k3, k4⟩, by omega, by omega⟩
    repeat (first
      | (refine ⟨⟨by kernel_rfl, by kernel_rfl⟩, ?_⟩; conv => whnf)
      | (refine And.intro (by first | omega | (simp; done) | (simp; omega)) ?_; conv => whnf)
      | (refine Or.inl (And.intro (by omega) ?_); conv => whnf)
      | (refine Exists.intro _ (And.intro (sFalls k5 hC) ?_); conv => whnf)
      | (refine Exists.intro _ (And.intro (sFinite) ?_); conv => whnf))
    (refine br_intro (fun h2 => ?_) (fun h2 => ?_) <;> (conv => whnf))
    · have hF := allN_false (p := fun i : Nat => fin (flR W H xs (i : Nat)).2) h (by simpa using h2)
      rw [hF] at eC
      clear hA hF
      all_goals (try (conv => whnf))
      all_goals (repeat' (first | exact True.intro | (refine And.intro ?_ ?_ <;> (conv => whnf))))
      all_goals (first | rfl | (simp_all [waO, eC]; done) | (simp only [waO, eC, cond_true, cond_false, Bool.and_true, Bool.true_and, Bool.and_false, Bool.false_and]; rfl) | (simp_all [waO, eC]; omega))
    · have h2 : fin (flR W H xs (i : Nat)).2 = true := by simpa using h2
      repeat (first
        | (refine ⟨⟨by kernel_rfl, by kernel_rfl⟩, ?_⟩; conv => whnf)
        | (refine And.intro (by first | omega | (simp; done) | (simp; omega)) ?_; conv => whnf)
        | (refine Or.inl (And.intro (by omega) ?_); conv => whnf))
      refine ⟨i + 1, ren [(32, 136)], ⟨⟨h, by simp only [allN, hA, Bool.true_and]; exact h2⟩, by dsimp only; omega⟩, rfl, ⟨rfl, rfl, rfl, trivial⟩, ⟨rfl, trivial⟩⟩
  · have h : i = (W * H).toNat := by simp at h; omega
    subst h
    rw [hA] at eC
    clear hA
    repeat (first
      | (refine ⟨⟨by kernel_rfl, by kernel_rfl⟩, ?_⟩; conv => whnf)
      | (refine And.intro (by first | omega | (simp; done) | (simp; omega)) ?_; conv => whnf)
      | (refine Or.inl (And.intro (by omega) ?_); conv => whnf))
    all_goals (try (conv => whnf))
    all_goals (repeat' (first | exact True.intro | (refine And.intro ?_ ?_ <;> (conv => whnf))))
    all_goals (first | rfl | (simp_all [waO, waL, eC]; done) | (simp only [waO, waL, eC, cond_true, cond_false, Bool.and_true, Bool.true_and, Bool.and_false, Bool.false_and]; rfl) | (simp_all [waO, waL, eC]; omega))

theorem iCell {W H c : Int} {xs : List Nat} {t : AV} (hn : xs.length ≤ 1048576) : Does Try.prog 53 [.agg [.int .i64 W, .int .i64 H, .sli .f32 xs t], .int .i64 c] (.bool (hillB W H xs && inR c 0 (W * H - 1))) := by
  refine Does.of_awp (X := cx 15) Try.func53 rfl (by kernel_rfl) rfl (by simp [cx]) [] rfl ?_
  conv => whnf
  repeat (first
    | (refine ⟨⟨by kernel_rfl, by kernel_rfl⟩, ?_⟩; conv => whnf)
    | (refine And.intro (by first | omega | (simp; done) | (simp; omega)) ?_; conv => whnf)
    | (refine Or.inl (And.intro (by omega) ?_); conv => whnf)
    | (refine Exists.intro _ (And.intro (iIs (by first | omega | (simp; done) | (simp; omega))) ?_); conv => whnf))
  (refine br_intro (fun h1 => ?_) (fun h1 => ?_) <;> (conv => whnf))
  · obtain ⟨g1, g2, g3, g4, g5, g6, g7⟩ := hill_len h1
    repeat (first
      | (refine ⟨⟨by kernel_rfl, by kernel_rfl⟩, ?_⟩; conv => whnf)
      | (refine And.intro (by first | omega | (simp; done) | (simp; omega)) ?_; conv => whnf)
      | (refine Or.inl (And.intro (by omega) ?_); conv => whnf)
      | (refine Exists.intro _ (And.intro (iWithin) ?_); conv => whnf))
    rw [← g5]
    all_goals (try (conv => whnf))
    all_goals (repeat' (first | exact True.intro | (refine And.intro ?_ ?_ <;> (conv => whnf))))
    all_goals (first | rfl | (simp_all []; done) | (simp only [cond_true, cond_false, Bool.and_true, Bool.true_and, Bool.and_false, Bool.false_and]; rfl) | (simp_all []; omega))
  · all_goals (try (conv => whnf))
    all_goals (repeat' (first | exact True.intro | (refine And.intro ?_ ?_ <;> (conv => whnf))))
    all_goals (first | rfl | (simp_all []; done) | (simp only [cond_true, cond_false, Bool.and_true, Bool.true_and, Bool.and_false, Bool.false_and]; rfl) | (simp_all []; omega))

theorem iFallAt {W H c : Int} {xs : List Nat} {t : AV} (h0 : hillB W H xs = true) (hC : Cel W H c) : Does Try.prog 29 [.agg [.int .i64 W, .int .i64 H, .sli .f32 xs t], .int .i64 c] (.tup [.int .i64 (selI (fin (flR W H xs c).2) (flR W H xs c).1), .flt .f32 (bif fin (flR W H xs c).2 then (flR W H xs c).2 else canon .f32 0), .bool (fin (flR W H xs c).2)]) := by
  obtain ⟨k1, k2, k3, k4, k5, k6, k7⟩ := hill_len h0
  have hc : (hillB W H xs && inR c 0 (W * H - 1)) = true := by
    have := hC.2
    rw [h0]
    simp [inR]; omega
  have e := @iCell W H c xs (.sli .f32 xs t) (by omega)
  have e' := @iCell W H c xs t (by omega)
  rw [hc] at e e'
  refine Does.of_awp (X := cx 24) Try.func29 rfl (by kernel_rfl) rfl (by simp [cx]) [] rfl ?_
  conv => whnf
  repeat (first
    | (refine ⟨⟨by kernel_rfl, by kernel_rfl⟩, ?_⟩; conv => whnf)
    | (refine And.intro (by first | omega | (simp; done) | (simp; omega)) ?_; conv => whnf)
    | (refine Or.inl (And.intro (by omega) ?_); conv => whnf)
    | (refine Exists.intro _ (And.intro (e) ?_); conv => whnf)
    | (refine Exists.intro _ (And.intro (e') ?_); conv => whnf)
    | (refine Exists.intro _ (And.intro (iFall k5 hC) ?_); conv => whnf)
    | (refine Exists.intro _ (And.intro (iIsFinite) ?_); conv => whnf))
  (refine br_intro (fun h => ?_) (fun h => ?_) <;> (conv => whnf))
  · have h : fin (flR W H xs c).2 = false := by simpa using h
    all_goals (try (conv => whnf))
    all_goals (repeat' (first | exact True.intro | (refine And.intro ?_ ?_ <;> (conv => whnf))))
    all_goals (first | rfl | (simp_all [selI]; done) | (simp only [selI, cond_true, cond_false, Bool.and_true, Bool.true_and, Bool.and_false, Bool.false_and]; rfl) | (simp_all [selI]; omega))
  · have h : fin (flR W H xs c).2 = true := by simpa using h
    all_goals (try (conv => whnf))
    all_goals (repeat' (first | exact True.intro | (refine And.intro ?_ ?_ <;> (conv => whnf))))
    all_goals (first | rfl | (simp_all [selI]; done) | (simp only [selI, cond_true, cond_false, Bool.and_true, Bool.true_and, Bool.and_false, Bool.false_and]; rfl) | (simp_all [selI]; omega))

theorem iWays {W H : Int} {xs : List Nat} {t : AV} (hn : xs.length ≤ 1048576) : Does Try.prog 28 [.agg [.int .i64 W, .int .i64 H, .sli .f32 xs t]] (.tup [.own 0 (.int .i64) (waO W H xs), .bool (waC W H xs)]) := by
  refine Does.of_awp (X := cx 34) Try.func28 rfl (by kernel_rfl) rfl (by simp [cx]) [48] rfl ?_
  conv => whnf
  repeat (first
    | (refine ⟨⟨by kernel_rfl, by kernel_rfl⟩, ?_⟩; conv => whnf)
    | (refine And.intro (by first | omega | (simp; done) | (simp; omega)) ?_; conv => whnf)
    | (refine Or.inl (And.intro (by omega) ?_); conv => whnf)
    | (refine Exists.intro _ (And.intro (iIs (by first | omega | (simp; done) | (simp; omega))) ?_); conv => whnf))
  (refine br_intro (fun g1 => ?_) (fun g1 => ?_) <;> (conv => whnf))
  · have g1 : hillB W H xs = false := by simpa using g1
    all_goals (try (conv => whnf))
    all_goals (repeat' (first | exact True.intro | (refine And.intro ?_ ?_ <;> (conv => whnf))))
    all_goals (first | rfl | (simp_all [waO, waC]; done) | (simp only [waO, waC, cond_true, cond_false, Bool.and_true, Bool.true_and, Bool.and_false, Bool.false_and]; rfl) | (simp_all [waO, waC]; omega))
  have g1 : hillB W H xs = true := by simpa using g1
  have eC : waC W H xs = allN (fun i => fin (flR W H xs (i : Nat)).2) (W * H).toNat := by rw [waC, g1]; rfl
  obtain ⟨k1, k2, k3, k4, k5, k6, k7⟩ := hill_len g1
  repeat (first
    | (refine ⟨⟨by kernel_rfl, by kernel_rfl⟩, ?_⟩; conv => whnf)
    | (refine And.intro (by first | omega | (simp; done) | (simp; omega)) ?_; conv => whnf)
    | (refine Or.inl (And.intro (by omega) ?_); conv => whnf))
  refine ⟨Nat, fun i => i ≤ (W * H).toNat ∧ allN (fun i => fin (flR W H xs (i : Nat)).2) i = true, fun i => [(1, .loc 4 0), (4, .osl 48), (15, .int .i64 xs.length), (16, .int .i64 i)], fun i => [(4, .av [.int .i64 W, .int .i64 H, .sli .f32 xs t]), (48, .tab (.int .i64) (tabN (fun i => (flR W H xs (i : Nat)).1) i))], fun i => (W * H).toNat - i, ⟨0, id, ⟨Nat.zero_le _, rfl⟩, rfl, ⟨rfl, rfl, rfl, rfl, trivial⟩, ⟨rfl, rfl, trivial⟩⟩, fun i hi => ?_⟩
  obtain ⟨hi, hA⟩ := hi
  conv => whnf
  (refine br_intro (fun h => ?_) (fun h => ?_) <;> (conv => whnf))
  · have h : i < (W * H).toNat := by simp at h; omega
    have hC : Cel W H i := ⟨⟨k1, k2, k3, k4⟩, by omega, by omega⟩
    cases hf : fin (flR W H xs (i : Nat)).2 with
    | false =>
      have e := iFallAt (t := .sli .f32 xs t) g1 hC
      have e' := iFallAt (t := t) g1 hC
      rw [hf] at e e'
      have hF := allN_false (p := fun i : Nat => fin (flR W H xs (i : Nat)).2) h hf
      rw [hF] at eC
      clear hA hF
      repeat (first
        | (refine ⟨⟨by kernel_rfl, by kernel_rfl⟩, ?_⟩; conv => whnf)
        | (refine And.intro (by first | omega | (simp; done) | (simp; omega)) ?_; conv => whnf)
        | (refine Or.inl (And.intro (by omega) ?_); conv => whnf)
        | (refine Exists.intro _ (And.intro (e) ?_); conv => whnf)
        | (refine Exists.intro _ (And.intro (e') ?_); conv => whnf))
      all_goals (try (conv => whnf))
      all_goals (repeat' (first | exact True.intro | (refine And.intro ?_ ?_ <;> (conv => whnf))))
      all_goals (first | rfl | (simp_all [waO, eC]; done) | (simp only [waO, eC, cond_true, cond_false, Bool.and_true, Bool.true_and, Bool.and_false, Bool.false_and]; rfl) | (simp_all [waO, eC]; omega))
    | true =>
      have e := iFallAt (t := .sli .f32 xs t) g1 hC
      have e' := iFallAt (t := t) g1 hC
      rw [hf] at e e'
      repeat (first
        | (refine ⟨⟨by kernel_rfl, by kernel_rfl⟩, ?_⟩; conv => whnf)
        | (refine And.intro (by first | omega | (simp; done) | (simp; omega)) ?_; conv => whnf)
        | (refine Or.inl (And.intro (by omega) ?_); conv => whnf)
        | (refine Exists.intro _ (And.intro (e) ?_); conv => whnf)
        | (refine Exists.intro _ (And.intro (e') ?_); conv => whnf))
      refine ⟨i + 1, ren [(48, 124)], ⟨⟨h, by simp only [allN, hA, Bool.true_and]; exact hf⟩, by dsimp only; omega⟩, rfl, ⟨rfl, rfl, rfl, rfl, trivial⟩, ⟨rfl, rfl, trivial⟩⟩
  · have h : i = (W * H).toNat := by simp at h; omega
    subst h
    rw [hA] at eC
    clear hA
    repeat (first
      | (refine ⟨⟨by kernel_rfl, by kernel_rfl⟩, ?_⟩; conv => whnf)
      | (refine And.intro (by first | omega | (simp; done) | (simp; omega)) ?_; conv => whnf)
      | (refine Or.inl (And.intro (by omega) ?_); conv => whnf))
    all_goals (try (conv => whnf))
    all_goals (repeat' (first | exact True.intro | (refine And.intro ?_ ?_ <;> (conv => whnf))))
    all_goals (first | rfl | (simp_all [waO, waL, eC]; done) | (simp only [waO, waL, eC, cond_true, cond_false, Bool.and_true, Bool.true_and, Bool.and_false, Bool.false_and]; rfl) | (simp_all [waO, waL, eC]; omega))

theorem getD_setG {α : Type} {d : α} (l : List α) (i c : Nat) (x : α) (h : i < l.length) : (l.set i x).getD c d = if c = i then x else l.getD c d := by
  rw [List.getD_eq_getElem?_getD, List.getD_eq_getElem?_getD]
  by_cases e : c = i
  · subst e; rw [List.getElem?_set_self h, if_pos rfl]; rfl
  · rw [List.getElem?_set_ne (fun h => e h.symm), if_neg e]
theorem pig : ∀ (n m : Nat) (f : Nat → Nat), (∀ i, i < m → f i < n) → (∀ i j, i < m → j < m → f i = f j → i = j) → m ≤ n
  | 0, m, f, h, _ => by
    rcases Nat.eq_zero_or_pos m with h0 | h0
    · omega
    · have := h 0 h0; omega
  | n + 1, 0, f, _, _ => by omega
  | n + 1, m + 1, f, h, hi => by
    have := pig n m (fun i => if f i = n then f m else f i) (fun i hlt => by
      have h1 := h i (by omega)
      have h2 := h m (by omega)
      try dsimp only
      split
      · rename_i e
        have : f i ≠ f m := fun e' => by have := hi i m (by omega) (by omega) e'; omega
        omega
      · omega) (fun i j h1 h2 e => by
      try dsimp only at e
      split at e <;> split at e
      · rename_i e1 e2; exact hi i j (by omega) (by omega) (e1.trans e2.symm)
      · have := hi m j (by omega) (by omega) e; omega
      · have := hi i m (by omega) (by omega) e; omega
      · exact hi i j (by omega) (by omega) e)
    omega

end Go.Proofs.Ytngmlbeafdaolaa
