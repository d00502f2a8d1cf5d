/- What each function of this seat does (Ru2). Printed from templates of this seat's own. -/
import Derived.Test.YtngmlbeafdaolaaRun
namespace Go.Proofs.Ytngmlbeafdaolaa
open Go.Ax Go.Bx
set_option maxRecDepth 8000
set_option linter.unusedSimpArgs false
set_option linter.unusedVariables false
theorem wrG {ds : List Int} {F : Nat → Int} {i : Nat} (h : i ≤ ds.length) : (wrN ds F i).getD i 0 = ds.getD i 0 := by
  rw [wrN_getD _ _ _ h, if_neg (by omega)]
theorem rwF_Z {N W H : Int} {f : List Nat} {ds : List Int} {i : Nat} (h : stZ W H ds i = true) : rwF N W H f ds i = ds.getD i 0 := by rw [rwF, h, cond_true]
theorem rwF_no {N W H : Int} {f : List Nat} {ds : List Int} {i : Nat} (h : stZ W H ds i = false) : rwF N W H f ds i = bwS W H f (stW N W H f ds) i 8 := by rw [rwF, h, cond_false, bwR, hid_eq]
theorem bwF_ne {f : List Nat} {s : List Int} {i : Nat} {b : Int} {r : Int × Nat} (h : fcmp .eql .f32 (f.getD r.1.toNat 0) (f.getD i 0) = false) : bwF f s i b r = b := by rw [bwF, h]; rfl
theorem bwF_neg {f : List Nat} {s : List Int} {i : Nat} {b : Int} {r : Int × Nat} (h : fcmp .eql .f32 (f.getD r.1.toNat 0) (f.getD i 0) = true) (h2 : b < 0) : bwF f s i b r = r.1 := by rw [bwF, h, decide_eq_true h2]; rfl
theorem bwF_lt {f : List Nat} {s : List Int} {i : Nat} {b : Int} {r : Int × Nat} (h : fcmp .eql .f32 (f.getD r.1.toNat 0) (f.getD i 0) = true) (h2 : s.getD r.1.toNat 0 < s.getD b.toNat 0) : bwF f s i b r = r.1 := by rw [bwF, h, decide_eq_true h2, Bool.or_true]; rfl
theorem bwF_ge {f : List Nat} {s : List Int} {i : Nat} {b : Int} {r : Int × Nat} (h1 : ¬ b < 0) (h2 : ¬ s.getD r.1.toNat 0 < s.getD b.toNat 0) : bwF f s i b r = b := by rw [bwF, decide_eq_false h1, decide_eq_false h2, Bool.or_false, Bool.and_false]; rfl

set_option maxHeartbeats 4000000 in
theorem sRun {W H : Int} {xs : List Nat} {t t' : AV} (hh : HillW W H xs) : Does Try.prog 38 [.ref [.int .i64 W, .int .i64 H, .sli .f32 xs t] t'] (.tup [.own 0 (.int .i64) (rwO W H xs), .bool (rwB W H xs)]) := by
  obtain ⟨k1, k2, k3, k4, k5, k6, k7⟩ := hill_len hh.1
  obtain ⟨w1, w2⟩ := filW_ok hh
  have eD : ∀ t t', Does Try.prog 69 [.ref [.int .i64 W, .int .i64 H, .sli .f32 (filW W H xs) t] t'] (.tup [.own 0 (.int .i64) (waO W H (filW W H xs)), .bool (waC W H (filW W H xs))]) := fun t t' => sDown w1.1
  have eB : rwB W H xs = waC W H (filW W H xs) := by rw [rwB, hh.1]; rfl
  have eF : ∀ t t', Does Try.prog 68 [.ref [.int .i64 W, .int .i64 H, .sli .f32 xs t] t'] (.agg [.int .i64 W, .int .i64 H, .own 0 .f32 (filW W H xs)]) := fun t t' => sFill hh
  refine Does.of_awp (X := cx 102) Try.func38 rfl (by kernel_rfl) rfl (by simp [cx]) [100] rfl ?_
  conv => whnf
  cases hC : waC W H (filW W H xs) with
  | false =>
    rw [hC] at eD eB
    have eO : rwO W H xs = [] := by rw [rwO, eB]; rfl
    rw [eB, eO]
    repeat (first
      | (refine ⟨⟨by kernel_rfl, by kernel_rfl⟩, ?_⟩; conv => whnf)
      | (refine And.intro (by first | omega | (simp; done) | (simp; omega)) ?_; conv => whnf)
      | (refine Or.inl (And.intro (by omega) ?_); conv => whnf)
      | (refine Exists.intro _ (And.intro (eF _ _) ?_); conv => whnf)
      | (refine Exists.intro _ (And.intro (eD _ _) ?_); conv => whnf))
    all_goals (try (conv => whnf))
    all_goals (repeat' (first | exact True.intro | (refine And.intro ?_ ?_ <;> (conv => whnf))))
    all_goals (first | rfl | (simp_all []; done) | (simp only [cond_true, cond_false, Bool.and_true, Bool.true_and, Bool.and_false, Bool.false_and]; rfl) | (simp_all []; omega))
  | true =>
    have eW : waO W H (filW W H xs) = waL W H (filW W H xs) := by rw [waO, hC]; rfl
    rw [hC, eW] at eD
    rw [hC] at eB
    have hdl : (waL W H (filW W H xs)).length = (filW W H xs).length := by rw [waL, tabN_len]; omega
    have eO : rwO W H xs = rwL (W * H) W H (filW W H xs) (waL W H (filW W H xs)) := by rw [rwO, eB, rwL_eq w1]; rfl
    rw [eB, eO]
    have eL : rwL (W * H) W H (filW W H xs) (waL W H (filW W H xs)) = wrN (waL W H (filW W H xs)) (rwF (W * H) W H (filW W H xs) (waL W H (filW W H xs))) (waL W H (filW W H xs)).length := by rw [wrN_all]; rfl
    rw [eL]
    clear eB eO eW hC eL
    generalize filW W H xs = f at *
    generalize waL W H f = ds at *
    have hS := stW_fix (N := W * H) (ds := ds) w1 k6
    have hSl := hS.1.1
    repeat (first
      | (refine ⟨⟨by kernel_rfl, by kernel_rfl⟩, ?_⟩; conv => whnf)
      | (refine And.intro (by first | omega | (simp; done) | (simp; omega)) ?_; conv => whnf)
      | (refine Or.inl (And.intro (by omega) ?_); conv => whnf)
      | (refine Exists.intro _ (And.intro (eF _ _) ?_); conv => whnf)
      | (refine Exists.intro _ (And.intro (eD _ _) ?_); conv => whnf)
      | (refine Exists.intro _ (And.intro (sSteps w1 hdl) ?_); conv => whnf))
    refine ⟨Nat, fun i => i ≤ ds.length, fun i => [(0, .ref [.int .i64 W, .int .i64 H, .sli .f32 xs t] t'), (4, .loc 16 0), (7, .osl 88), (8, .osl 100), (9, .int .i64 i)], fun i => [(16, .av [.int .i64 W, .int .i64 H, .osl 56]), (56, .tab .f32 f), (88, .tab (.int .i64) (stW (W * H) W H f ds)), (100, .tab (.int .i64) (wrN ds (rwF (W * H) W H f ds) i))], fun i => ds.length - i, ⟨0, id, Nat.zero_le _, rfl, ⟨rfl, rfl, rfl, rfl, rfl, trivial⟩, ⟨rfl, rfl, rfl, rfl, trivial⟩⟩, fun i hi => ?_⟩
    dsimp only at hi
    have hwl := wrN_length ds (rwF (W * H) W H f ds) i
    have eG := wrG (F := rwF (W * H) W H f ds) hi
    conv => whnf
    repeat (first
      | (refine ⟨⟨by kernel_rfl, by kernel_rfl⟩, ?_⟩; conv => whnf)
      | (refine And.intro (by first | omega | (simp; done) | (simp; omega)) ?_; conv => whnf)
      | (refine Or.inl (And.intro (by omega) ?_); conv => whnf))
    (refine br_intro (fun h => ?_) (fun h => ?_) <;> (conv => whnf))
    · have h : i < ds.length := by simp at h; omega
      have hC : Cel W H i := ⟨⟨k1, k2, k3, k4⟩, by omega, by omega⟩
      repeat (first
        | (refine ⟨⟨by kernel_rfl, by kernel_rfl⟩, ?_⟩; conv => whnf)
        | (refine And.intro (by first | omega | (simp; done) | (simp; omega)) ?_; conv => whnf)
        | (refine Or.inl (And.intro (by omega) ?_); conv => whnf))
      (refine br_intro (fun h2 => ?_) (fun h2 => ?_) <;> (conv => whnf))
      · have h2 : decide ((wrN ds (rwF (W * H) W H f ds) i).getD i 0 ≥ 0) = true := h2
        rw [eG] at h2
        have e := wrN_skip (f := rwF (W * H) W H f ds) (d := 0) h (rwF_Z (by rw [stZ, h2, Bool.or_true]))
        repeat (first
          | (refine ⟨⟨by kernel_rfl, by kernel_rfl⟩, ?_⟩; conv => whnf)
          | (refine And.intro (by first | omega | (simp; done) | (simp; omega)) ?_; conv => whnf)
          | (refine Or.inl (And.intro (by omega) ?_); conv => whnf)
          | (refine br_intro (fun h => by exfalso; first | (simp at h; done) | (simp at h; omega) | omega) (fun _ => ?_); conv => whnf)
          | (refine br_intro (fun _ => ?_) (fun h => by exfalso; first | (simp at h; done) | (simp at h; omega) | omega); conv => whnf))
        refine ⟨i + 1, id, ⟨h, by dsimp only; omega⟩, rfl, ⟨rfl, rfl, rfl, rfl, rfl, trivial⟩, ⟨rfl, rfl, rfl, congrArg (fun l => KS.live (Blk.tab (.int .i64) l)) e, trivial⟩⟩
      · have h2 : decide ((wrN ds (rwF (W * H) W H f ds) i).getD i 0 ≥ 0) = false := h2
        rw [eG] at h2
        repeat (first
          | (refine ⟨⟨by kernel_rfl, by kernel_rfl⟩, ?_⟩; conv => whnf)
          | (refine And.intro (by first | omega | (simp; done) | (simp; omega)) ?_; conv => whnf)
          | (refine Or.inl (And.intro (by omega) ?_); conv => whnf)
          | (refine Exists.intro _ (And.intro (sEdge hC) ?_); conv => whnf))
        (refine br_intro (fun h3 => ?_) (fun h3 => ?_) <;> (conv => whnf))
        · have h3 : edB W H i = true := h3
          have e := wrN_skip (f := rwF (W * H) W H f ds) (d := 0) h (rwF_Z (by rw [stZ, h3, Bool.true_or]))
          repeat (first
            | (refine ⟨⟨by kernel_rfl, by kernel_rfl⟩, ?_⟩; conv => whnf)
            | (refine And.intro (by first | omega | (simp; done) | (simp; omega)) ?_; conv => whnf)
            | (refine Or.inl (And.intro (by omega) ?_); conv => whnf)
            | (refine br_intro (fun h => by exfalso; first | (simp at h; done) | (simp at h; omega) | omega) (fun _ => ?_); conv => whnf)
            | (refine br_intro (fun _ => ?_) (fun h => by exfalso; first | (simp at h; done) | (simp at h; omega) | omega); conv => whnf))
          refine ⟨i + 1, id, ⟨h, by dsimp only; omega⟩, rfl, ⟨rfl, rfl, rfl, rfl, rfl, trivial⟩, ⟨rfl, rfl, rfl, congrArg (fun l => KS.live (Blk.tab (.int .i64) l)) e, trivial⟩⟩
        · have h3 : edB W H i = false := h3
          have hZ : stZ W H ds i = false := by rw [stZ, h2, h3]; rfl
          repeat (first
            | (refine ⟨⟨by kernel_rfl, by kernel_rfl⟩, ?_⟩; conv => whnf)
            | (refine And.intro (by first | omega | (simp; done) | (simp; omega)) ?_; conv => whnf)
            | (refine Or.inl (And.intro (by omega) ?_); conv => whnf)
            | (refine Exists.intro _ (And.intro (sNear hC) ?_); conv => whnf))
          refine ⟨Nat, fun k => k ≤ 8, fun k => [(0, .ref [.int .i64 W, .int .i64 H, .sli .f32 xs t] t'), (4, .loc 16 0), (7, .osl 88), (8, .osl 100), (9, .int .i64 i), (10, .osl 204), (11, .int .i64 (bwS W H f (stW (W * H) W H f ds) i k)), (12, .int .i64 k)], fun k => [(16, .av [.int .i64 W, .int .i64 H, .osl 56]), (56, .tab .f32 f), (88, .tab (.int .i64) (stW (W * H) W H f ds)), (100, .tab (.int .i64) (wrN ds (rwF (W * H) W H f ds) i)), (204, .tab (.int .i64) (nearL W H i))], fun k => 8 - k, ⟨0, id, Nat.zero_le _, rfl, ⟨rfl, rfl, rfl, rfl, rfl, rfl, rfl, rfl, trivial⟩, ⟨rfl, rfl, rfl, rfl, rfl, trivial⟩⟩, fun k hk => ?_⟩
          dsimp only at hk
          have hbr := bwS_range (s := stW (W * H) W H f ds) (i := i) w1 hk
          conv => whnf
          (refine br_intro (fun h4 => ?_) (fun h4 => ?_) <;> (conv => whnf))
          · have h4 : k < 8 := by simp at h4; omega
            have hlN : (nearL W H i).length = 8 := tabN_len _ _
            have hg : (nearL W H i).getD (k : Int).toNat (RK.int .i64).z = nbAt W H i k := nearL_getD h4
            cases hO : nbOk W H i k with
            | false =>
              have hg' := hg
              rw [nbAt_neg hO] at hg'
              have eB := bwS_no (f := f) (s := stW (W * H) W H f ds) hO
              repeat (first
                | (refine ⟨⟨by kernel_rfl, by kernel_rfl⟩, ?_⟩; conv => whnf)
                | (refine And.intro (by first | omega | (simp; done) | (simp; omega)) ?_; conv => whnf)
                | (refine Or.inl (And.intro (by omega) ?_); conv => whnf))
              (refine br_intro (fun h5 => ?_) (fun h5 => ?_) <;> (conv => whnf))
              · repeat (first
                  | (refine ⟨⟨by kernel_rfl, by kernel_rfl⟩, ?_⟩; conv => whnf)
                  | (refine And.intro (by first | omega | (simp; done) | (simp; omega)) ?_; conv => whnf)
                  | (refine Or.inl (And.intro (by omega) ?_); conv => whnf)
                  | (refine br_intro (fun h => by exfalso; first | (simp at h; done) | (simp at h; omega) | omega) (fun _ => ?_); conv => whnf)
                  | (refine br_intro (fun _ => ?_) (fun h => by exfalso; first | (simp at h; done) | (simp at h; omega) | omega); conv => whnf))
                refine ⟨k + 1, id, ⟨h4, by dsimp only; omega⟩, rfl, ⟨rfl, rfl, rfl, rfl, rfl, rfl, congrArg (AV.int .i64) eB, rfl, trivial⟩, ⟨rfl, rfl, rfl, rfl, rfl, trivial⟩⟩
              · exfalso
                have h5 : decide ((nearL W H i).getD (k : Int).toNat (RK.int .i64).z < 0) = false := h5
                rw [hg'] at h5; simp at h5
            | true =>
              obtain ⟨r1, r2, r3⟩ := nbC_lt w1 hO
              have hg' := hg
              rw [nbAt_pos hO] at hg'
              have eB := bwS_yes (f := f) (s := stW (W * H) W H f ds) hO
              have hc1 : (stW (W * H) W H f ds).getD ((nearL W H i).getD (k : Int).toNat (RK.int .i64).z).toNat 0 = (stW (W * H) W H f ds).getD (nbC W i k).toNat 0 := by rw [hg']
              repeat (first
                | (refine ⟨⟨by kernel_rfl, by kernel_rfl⟩, ?_⟩; conv => whnf)
                | (refine And.intro (by first | omega | (simp; done) | (simp; omega)) ?_; conv => whnf)
                | (refine Or.inl (And.intro (by omega) ?_); conv => whnf))
              (refine br_intro (fun h5 => ?_) (fun h5 => ?_) <;> (conv => whnf))
              · exfalso
                have h5 : decide ((nearL W H i).getD (k : Int).toNat (RK.int .i64).z < 0) = true := h5
                rw [hg'] at h5; simp at h5; omega
              · repeat (first
                  | (refine ⟨⟨by kernel_rfl, by kernel_rfl⟩, ?_⟩; conv => whnf)
                  | (refine And.intro (by first | omega | (simp; done) | (simp; omega)) ?_; conv => whnf)
                  | (refine Or.inl (And.intro (by omega) ?_); conv => whnf))
                (refine br_intro (fun h6 => ?_) (fun h6 => ?_) <;> (conv => whnf))
                · have h6 : fcmp .neq .f32 (f.getD ((nearL W H i).getD (k : Int).toNat (RK.int .i64).z).toNat 0) (f.getD i 0) = true := h6
                  rw [hg'] at h6
                  have h6' : fcmp .eql .f32 (f.getD (nbC W i k).toNat 0) (f.getD i 0) = false := by
                    have e : fcmp .neq .f32 (f.getD (nbC W i k).toNat 0) (f.getD i 0) = !(fcmp .eql .f32 (f.getD (nbC W i k).toNat 0) (f.getD i 0)) := rfl
                    rw [e] at h6; simpa using h6
                  rw [bwF_ne h6'] at eB
                  repeat (first
                    | (refine ⟨⟨by kernel_rfl, by kernel_rfl⟩, ?_⟩; conv => whnf)
                    | (refine And.intro (by first | omega | (simp; done) | (simp; omega)) ?_; conv => whnf)
                    | (refine Or.inl (And.intro (by omega) ?_); conv => whnf)
                    | (refine br_intro (fun h => by exfalso; first | (simp at h; done) | (simp at h; omega) | omega) (fun _ => ?_); conv => whnf)
                    | (refine br_intro (fun _ => ?_) (fun h => by exfalso; first | (simp at h; done) | (simp at h; omega) | omega); conv => whnf))
                  refine ⟨k + 1, id, ⟨h4, by dsimp only; omega⟩, rfl, ⟨rfl, rfl, rfl, rfl, rfl, rfl, congrArg (AV.int .i64) eB, rfl, trivial⟩, ⟨rfl, rfl, rfl, rfl, rfl, trivial⟩⟩
                · have h6 : fcmp .neq .f32 (f.getD ((nearL W H i).getD (k : Int).toNat (RK.int .i64).z).toNat 0) (f.getD i 0) = false := h6
                  rw [hg'] at h6
                  have h6' : fcmp .eql .f32 (f.getD (nbC W i k).toNat 0) (f.getD i 0) = true := by
                    have e : fcmp .neq .f32 (f.getD (nbC W i k).toNat 0) (f.getD i 0) = !(fcmp .eql .f32 (f.getD (nbC W i k).toNat 0) (f.getD i 0)) := rfl
                    rw [e] at h6; simpa using h6
                  repeat (first
                    | (refine ⟨⟨by kernel_rfl, by kernel_rfl⟩, ?_⟩; conv => whnf)
                    | (refine And.intro (by first | omega | (simp; done) | (simp; omega)) ?_; conv => whnf)
                    | (refine Or.inl (And.intro (by omega) ?_); conv => whnf))
                  (refine br_intro (fun h7 => ?_) (fun h7 => ?_) <;> (conv => whnf))
                  · have h7 : decide (bwS W H f (stW (W * H) W H f ds) i k < 0) = true := h7
                    rw [bwF_neg h6' (of_decide_eq_true h7)] at eB
                    have eB := hg'.trans eB
                    repeat (first
                      | (refine ⟨⟨by kernel_rfl, by kernel_rfl⟩, ?_⟩; conv => whnf)
                      | (refine And.intro (by first | omega | (simp; done) | (simp; omega)) ?_; conv => whnf)
                      | (refine Or.inl (And.intro (by omega) ?_); conv => whnf))
                    refine ⟨k + 1, id, ⟨h4, by dsimp only; omega⟩, rfl, ⟨rfl, rfl, rfl, rfl, rfl, rfl, congrArg (AV.int .i64) eB, rfl, trivial⟩, ⟨rfl, rfl, rfl, rfl, rfl, trivial⟩⟩
                  · have h7 : decide (bwS W H f (stW (W * H) W H f ds) i k < 0) = false := h7
                    have h7 := of_decide_eq_false h7
                    repeat (first
                      | (refine ⟨⟨by kernel_rfl, by kernel_rfl⟩, ?_⟩; conv => whnf)
                      | (refine And.intro (by first | omega | (simp; done) | (simp; omega)) ?_; conv => whnf)
                      | (refine Or.inl (And.intro (by omega) ?_); conv => whnf))
                    (refine br_intro (fun h8 => ?_) (fun h8 => ?_) <;> (conv => whnf))
                    · have h8 : decide ((stW (W * H) W H f ds).getD ((nearL W H i).getD (k : Int).toNat (RK.int .i64).z).toNat 0 < (stW (W * H) W H f ds).getD (bwS W H f (stW (W * H) W H f ds) i k).toNat 0) = true := h8
                      rw [hc1] at h8
                      rw [bwF_lt h6' (of_decide_eq_true h8)] at eB
                      have eB := hg'.trans eB
                      repeat (first
                        | (refine ⟨⟨by kernel_rfl, by kernel_rfl⟩, ?_⟩; conv => whnf)
                        | (refine And.intro (by first | omega | (simp; done) | (simp; omega)) ?_; conv => whnf)
                        | (refine Or.inl (And.intro (by omega) ?_); conv => whnf))
                      refine ⟨k + 1, id, ⟨h4, by dsimp only; omega⟩, rfl, ⟨rfl, rfl, rfl, rfl, rfl, rfl, congrArg (AV.int .i64) eB, rfl, trivial⟩, ⟨rfl, rfl, rfl, rfl, rfl, trivial⟩⟩
                    · have h8 : decide ((stW (W * H) W H f ds).getD ((nearL W H i).getD (k : Int).toNat (RK.int .i64).z).toNat 0 < (stW (W * H) W H f ds).getD (bwS W H f (stW (W * H) W H f ds) i k).toNat 0) = false := h8
                      rw [hc1] at h8
                      rw [bwF_ge h7 (of_decide_eq_false h8)] at eB
                      repeat (first
                        | (refine ⟨⟨by kernel_rfl, by kernel_rfl⟩, ?_⟩; conv => whnf)
                        | (refine And.intro (by first | omega | (simp; done) | (simp; omega)) ?_; conv => whnf)
                        | (refine Or.inl (And.intro (by omega) ?_); conv => whnf)
                        | (refine br_intro (fun h => by exfalso; first | (simp at h; done) | (simp at h; omega) | omega) (fun _ => ?_); conv => whnf)
                        | (refine br_intro (fun _ => ?_) (fun h => by exfalso; first | (simp at h; done) | (simp at h; omega) | omega); conv => whnf))
                      refine ⟨k + 1, id, ⟨h4, by dsimp only; omega⟩, rfl, ⟨rfl, rfl, rfl, rfl, rfl, rfl, congrArg (AV.int .i64) eB, rfl, trivial⟩, ⟨rfl, rfl, rfl, rfl, rfl, trivial⟩⟩
          · have h4 : k = 8 := by simp at h4; omega
            subst h4
            have e : bwS W H f (stW (W * H) W H f ds) i 8 = rwF (W * H) W H f ds i := (rwF_no hZ).symm
            repeat (first
              | (refine ⟨⟨by kernel_rfl, by kernel_rfl⟩, ?_⟩; conv => whnf)
              | (refine And.intro (by first | omega | (simp; done) | (simp; omega)) ?_; conv => whnf)
              | (refine Or.inl (And.intro (by omega) ?_); conv => whnf))
            refine ⟨i + 1, id, ⟨h, by dsimp only; omega⟩, rfl, ⟨rfl, rfl, rfl, rfl, rfl, trivial⟩, ⟨rfl, rfl, rfl, congrArg (fun x => KS.live (Blk.tab (.int .i64) ((wrN ds (rwF (W * H) W H f ds) i).set i x))) e, trivial⟩⟩
    · have h : i = ds.length := by simp at h; omega
      subst h
      repeat (first
        | (refine ⟨⟨by kernel_rfl, by kernel_rfl⟩, ?_⟩; conv => whnf)
        | (refine And.intro (by first | omega | (simp; done) | (simp; omega)) ?_; conv => whnf)
        | (refine Or.inl (And.intro (by omega) ?_); conv => whnf))
      all_goals (try (conv => whnf))
      all_goals (repeat' (first | exact True.intro | (refine And.intro ?_ ?_ <;> (conv => whnf))))
      all_goals (first | rfl | (simp_all []; done) | (simp only [cond_true, cond_false, Bool.and_true, Bool.true_and, Bool.and_false, Bool.false_and]; rfl) | (simp_all []; omega))

theorem sRunWays {W H : Int} {xs : List Nat} {t : AV} (hl : ∀ y ∈ xs, y < 2 ^ 32) (hn : xs.length ≤ 1048576) : Does Try.prog 7 [.agg [.int .i64 W, .int .i64 H, .sli .f32 xs t]] (.tup [.own 0 (.int .i64) (rwO W H xs), .bool (rwB W H xs)]) := by
  refine Does.of_awp (X := cx 9) Try.func7 rfl (by kernel_rfl) rfl (by simp [cx]) [24] rfl ?_
  conv => whnf
  repeat (first
    | (refine ⟨⟨by kernel_rfl, by kernel_rfl⟩, ?_⟩; conv => whnf)
    | (refine And.intro (by first | omega | (simp; done) | (simp; omega)) ?_; conv => whnf)
    | (refine Or.inl (And.intro (by omega) ?_); conv => whnf)
    | (refine Exists.intro _ (And.intro (sIs (by first | omega | (simp; done) | (simp; omega))) ?_); conv => whnf))
  (refine br_intro (fun g1 => ?_) (fun g1 => ?_) <;> (conv => whnf))
  · have g1 : hillB W H xs = false := by simpa using g1
    have eB : rwB W H xs = false := by rw [rwB, g1]; rfl
    have eO : rwO W H xs = [] := by rw [rwO, eB]; rfl
    rw [eB, eO]
    all_goals (try (conv => whnf))
    all_goals (repeat' (first | exact True.intro | (refine And.intro ?_ ?_ <;> (conv => whnf))))
    all_goals (first | rfl | (simp_all []; done) | (simp only [cond_true, cond_false, Bool.and_true, Bool.true_and, Bool.and_false, Bool.false_and]; rfl) | (simp_all []; omega))
  have g1 : hillB W H xs = true := by simpa using g1
  have hh : HillW W H xs := ⟨g1, hl⟩
  repeat (first
    | (refine ⟨⟨by kernel_rfl, by kernel_rfl⟩, ?_⟩; conv => whnf)
    | (refine And.intro (by first | omega | (simp; done) | (simp; omega)) ?_; conv => whnf)
    | (refine Or.inl (And.intro (by omega) ?_); conv => whnf)
    | (refine Exists.intro _ (And.intro (sRun hh) ?_); conv => whnf))
  all_goals (try (conv => whnf))
  all_goals (repeat' (first | exact True.intro | (refine And.intro ?_ ?_ <;> (conv => whnf))))
  all_goals (first | rfl | (simp_all []; done) | (simp only [cond_true, cond_false, Bool.and_true, Bool.true_and, Bool.and_false, Bool.false_and]; rfl) | (simp_all []; omega))

end Go.Proofs.Ytngmlbeafdaolaa
