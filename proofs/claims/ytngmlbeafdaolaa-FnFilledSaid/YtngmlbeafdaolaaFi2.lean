/- What each function of this seat does (Fi2). Printed from templates of this seat's own. -/
import Derived.Test.YtngmlbeafdaolaaFil
namespace Go.Proofs.Ytngmlbeafdaolaa
open Go.Ax Go.Bx
set_option maxRecDepth 8000
set_option linter.unusedSimpArgs false
set_option linter.unusedVariables false
theorem wt_le {o0 o : List Nat} {ch : Bool} (h1 : ch = true → wt o < wt o0) (h2 : ch = false → o = o0) : wt o ≤ wt o0 := by
  cases ch
  · rw [h2 rfl]; exact Nat.le_refl _
  · exact Nat.le_of_lt (h1 rfl)
/-- There is a filled hill. -/
theorem fh_ex' {W H : Int} {xs : List Nat} (hh : HillW W H xs) : ∀ (n : Nat) (o : List Nat), fhInv W H xs o → wt o ≤ n → ∃ o', fhFix W H xs o' := by
  intro n
  induction n with
  | zero =>
    intro o h hw
    refine ⟨o, h, fun i hi he k hk hO => ?_⟩
    obtain ⟨r, hr, e⟩ := nbL_in hO hk
    obtain ⟨v1, v2, v3, v4⟩ := ow_spec hh h hi hr
    rw [e] at v1 v2 v3 v4
    refine v4 fun hlt => ?_
    have := (fh_upd h hi v1 v2 hlt v3).2
    omega
  | succ n ih =>
    intro o h hw
    by_cases hall : fhFix W H xs o
    · exact ⟨o, hall⟩
    · have : ∃ i k, i < xs.length ∧ k < 8 ∧ nbOk W H i k = true ∧ ¬ P32 (o.getD i 0) ≤ max (P32 (o.getD (nbC W i k).toNat 0)) (P32 (xs.getD i 0)) := by
        apply Classical.byContradiction
        intro hno
        refine hall ⟨h, fun i hi he k hk hO => ?_⟩
        apply Classical.byContradiction
        intro hno'
        exact hno ⟨i, k, hi, hk, hO, hno'⟩
      obtain ⟨i, k, hi, hk, hO, hno⟩ := this
      obtain ⟨r, hr, e⟩ := nbL_in hO hk
      obtain ⟨v1, v2, v3, v4⟩ := ow_spec hh h hi hr
      rw [e] at v1 v2 v3 v4
      have hlt : P32 (fmaxA .f32 (o.getD (nbC W i k).toNat 0) (xs.getD i 0)) < P32 (o.getD i 0) := by
        apply Classical.byContradiction
        intro hn
        exact hno (v4 hn)
      obtain ⟨u1, u2⟩ := fh_upd h hi v1 v2 hlt v3
      exact ih _ u1 (by omega)
theorem fh_ex {W H : Int} {xs : List Nat} (hh : HillW W H xs) : ∃ o, fhFix W H xs o :=
  fh_ex' hh _ _ (in_inv hh infW_nn.1 fun i hi => infW_top hh hi) (Nat.le_refl _)
theorem filW_ok {W H : Int} {xs : List Nat} (hh : HillW W H xs) : HillW W H (filW W H xs) ∧ (filW W H xs).length = xs.length := by
  obtain ⟨o, h⟩ := fh_ex hh
  exact ⟨filW_hill hh h, by rw [← filW_eq hh h]; exact tabN_len _ _⟩
theorem gt_not {x o : Nat} (hx : NN x) (ho : NN o) (hle : P32 x ≤ P32 o) (h : fcmp .gtr .f32 o x = false) : x = nzW x o := by
  rw [gtr_num ho.1 hx.1] at h
  have h := of_decide_eq_false h
  have e : pos .f32 o = pos .f32 x := by show P32 o = P32 x; omega
  rw [nzW, eql_num ho.1 hx.1, decide_eq_true e]; rfl
theorem gt_yes {x o : Nat} (hx : NN x) (ho : NN o) (h : fcmp .gtr .f32 o x = true) : nzW x o = bif fcmp .eql .f32 o (canon .f32 0) then canon .f32 0 else o := by
  rw [gtr_num ho.1 hx.1] at h
  have h := of_decide_eq_true h
  have e : ¬ pos .f32 o = pos .f32 x := by
    intro e
    have e : P32 o = P32 x := e
    omega
  rw [nzW, eql_num ho.1 hx.1, decide_eq_false e, cond_false]

set_option maxHeartbeats 4000000 in
theorem iFilled {W H : Int} {xs : List Nat} {t : AV} (hh : HillW W H xs) : Does Try.prog 48 [.agg [.int .i64 W, .int .i64 H, .sli .f32 xs t]] (.agg [.int .i64 W, .int .i64 H, .own 0 .f32 (filW W H xs)]) := by
  obtain ⟨k1, k2, k3, k4, k5, k6, k7⟩ := hill_len hh.1
  have hn : xs.length ≤ 1048576 := by omega
  refine Does.of_awp (X := cx 115) Try.func48 rfl (by kernel_rfl) rfl (by simp [cx]) [72] rfl ?_
  conv => whnf
  repeat (first
    | (refine ⟨⟨by kernel_rfl, by kernel_rfl⟩, ?_⟩; conv => whnf)
    | (refine And.intro (by first | omega | (simp; done) | (simp; omega)) ?_; conv => whnf)
    | (refine Or.inl (And.intro (by omega) ?_); conv => whnf))
  refine ⟨Nat, fun i => i ≤ xs.length, fun i => [(1, .loc 4 0), (2, .loc 8 0), (3, .loc 12 0), (21, .sli .f32 xs t), (22, .int .i64 xs.length), (23, .int .i64 i)], fun i => [(4, .av [.int .i64 W, .int .i64 H, .sli .f32 xs t]), (8, .av [.int .i64 0, .int .i64 0, .emp .f32]), (12, .av [.int .i64 W, .int .i64 H, .osl 72]), (72, .tab .f32 (tabN (inF W H xs infW) i))], fun i => xs.length - i, ⟨0, id, Nat.zero_le _, rfl, ⟨rfl, rfl, rfl, rfl, rfl, rfl, trivial⟩, ⟨rfl, rfl, rfl, rfl, trivial⟩⟩, fun i hi => ?_⟩
  dsimp only at hi
  have htl := tabN_len (inF W H xs infW) i
  conv => whnf
  (refine br_intro (fun h => ?_) (fun h => ?_) <;> (conv => whnf))
  · have h : i < xs.length := by simp at h; omega
    have hC : Cel W H i := ⟨⟨k1, k2, k3, k4⟩, by omega, by omega⟩
    repeat (first
      | (refine ⟨⟨by kernel_rfl, by kernel_rfl⟩, ?_⟩; conv => whnf)
      | (refine And.intro (by first | omega | (simp; done) | (simp; omega)) ?_; conv => whnf)
      | (refine Or.inl (And.intro (by omega) ?_); conv => whnf)
      | (refine Exists.intro _ (And.intro (iEdge hC) ?_); conv => whnf))
    (refine br_intro (fun h2 => ?_) (fun h2 => ?_) <;> (conv => whnf))
    · have h2 : edB W H i = false := by simpa using h2
      have e : fnarrow (canon .f64 9218868437227405312) = inF W H xs infW i := by unfold inF infW; rw [h2, cond_false]
      repeat (first
        | (refine ⟨⟨by kernel_rfl, by kernel_rfl⟩, ?_⟩; conv => whnf)
        | (refine And.intro (by first | omega | (simp; done) | (simp; omega)) ?_; conv => whnf)
        | (refine Or.inl (And.intro (by omega) ?_); conv => whnf)
        | (refine Exists.intro _ (And.intro (xInf) ?_); conv => whnf))
      refine And.intro (by decide +kernel) ?_
      conv => whnf
      repeat (first
        | (refine ⟨⟨by kernel_rfl, by kernel_rfl⟩, ?_⟩; conv => whnf)
        | (refine And.intro (by first | omega | (simp; done) | (simp; omega)) ?_; conv => whnf)
        | (refine Or.inl (And.intro (by omega) ?_); conv => whnf))
      refine ⟨i + 1, ren [(72, 152)], ⟨h, by dsimp only; omega⟩, rfl, ⟨rfl, rfl, rfl, rfl, rfl, rfl, trivial⟩, ⟨rfl, rfl, rfl, congrArg (fun x => KS.live (Blk.tab .f32 (tabN (inF W H xs infW) i ++ [x]))) e, trivial⟩⟩
    · have h2 : edB W H i = true := by simpa using h2
      have e : xs.getD i 0 = inF W H xs infW i := by unfold inF; rw [h2]; rfl
      repeat (first
        | (refine ⟨⟨by kernel_rfl, by kernel_rfl⟩, ?_⟩; conv => whnf)
        | (refine And.intro (by first | omega | (simp; done) | (simp; omega)) ?_; conv => whnf)
        | (refine Or.inl (And.intro (by omega) ?_); conv => whnf))
      refine ⟨i + 1, ren [(72, 152)], ⟨h, by dsimp only; omega⟩, rfl, ⟨rfl, rfl, rfl, rfl, rfl, rfl, trivial⟩, ⟨rfl, rfl, rfl, congrArg (fun x => KS.live (Blk.tab .f32 (tabN (inF W H xs infW) i ++ [x]))) e, trivial⟩⟩
  have h : i = xs.length := by simp at h; omega
  subst h
  have hI0 : fhInv W H xs (tabN (inF W H xs infW) xs.length) := in_inv hh infW_nn.1 fun i hi => infW_top hh hi
  repeat (first
    | (refine ⟨⟨by kernel_rfl, by kernel_rfl⟩, ?_⟩; conv => whnf)
    | (refine And.intro (by first | omega | (simp; done) | (simp; omega)) ?_; conv => whnf)
    | (refine Or.inl (And.intro (by omega) ?_); conv => whnf))
  refine ⟨List Nat × Bool, fun p => fhInv W H xs p.1 ∧ (p.2 = false → fhFix W H xs p.1), fun p => [(1, .loc 4 0), (2, .loc 8 0), (3, .loc 12 0), (6, .bool p.2)], fun p => [(4, .av [.int .i64 W, .int .i64 H, .sli .f32 xs t]), (8, .av [.int .i64 0, .int .i64 0, .emp .f32]), (12, .av [.int .i64 W, .int .i64 H, .osl 72]), (72, .tab .f32 p.1)], fun p => 2 * wt p.1 + (bif p.2 then 1 else 0), ⟨(tabN (inF W H xs infW) xs.length, true), id, ⟨hI0, fun e => by cases e⟩, rfl, ⟨rfl, rfl, rfl, rfl, trivial⟩, ⟨rfl, rfl, rfl, rfl, trivial⟩⟩, fun p hp => ?_⟩
  obtain ⟨o0, c0⟩ := p
  obtain ⟨hI, hF⟩ := hp
  dsimp only at hI hF
  clear hI0 htl
  conv => whnf
  (refine br_intro (fun hc => ?_) (fun hc => ?_) <;> (conv => whnf))
  · have hc : c0 = true := hc
    subst hc
    repeat (first
      | (refine ⟨⟨by kernel_rfl, by kernel_rfl⟩, ?_⟩; conv => whnf)
      | (refine And.intro (by first | omega | (simp; done) | (simp; omega)) ?_; conv => whnf)
      | (refine Or.inl (And.intro (by omega) ?_); conv => whnf))
    refine ⟨List Nat × Bool × Nat, fun q => fhInv W H xs q.1 ∧ q.2.2 ≤ xs.length ∧ (q.2.1 = true → wt q.1 < wt o0) ∧ (q.2.1 = false → q.1 = o0 ∧ ∀ j : Nat, j < q.2.2 → fhAt W H xs (fun i => P32 (o0.getD i 0)) j), fun q => [(1, .loc 4 0), (2, .loc 8 0), (3, .loc 12 0), (6, .bool q.2.1), (43, .sli .f32 xs t), (44, .int .i64 xs.length), (45, .int .i64 q.2.2)], fun q => [(4, .av [.int .i64 W, .int .i64 H, .sli .f32 xs t]), (8, .av [.int .i64 0, .int .i64 0, .emp .f32]), (12, .av [.int .i64 W, .int .i64 H, .osl 72]), (72, .tab .f32 q.1)], fun q => xs.length - q.2.2, ⟨(o0, false, 0), id, ⟨hI, Nat.zero_le _, (fun e => by cases e), fun _ => ⟨rfl, fun j hj => by dsimp only at hj; omega⟩⟩, rfl, ⟨rfl, rfl, rfl, rfl, rfl, rfl, rfl, trivial⟩, ⟨rfl, rfl, rfl, rfl, trivial⟩⟩, fun q hq => ?_⟩
    obtain ⟨o, ch, i⟩ := q
    obtain ⟨hJ, hi, hw1, hw2⟩ := hq
    dsimp only at hJ hi hw1 hw2
    conv => whnf
    (refine br_intro (fun h => ?_) (fun h => ?_) <;> (conv => whnf))
    · have h : i < xs.length := by simp at h; omega
      have hC : Cel W H i := ⟨⟨k1, k2, k3, k4⟩, by omega, by omega⟩
      have hlen := nbL_len W H i 8
      repeat (first
        | (refine ⟨⟨by kernel_rfl, by kernel_rfl⟩, ?_⟩; conv => whnf)
        | (refine And.intro (by first | omega | (simp; done) | (simp; omega)) ?_; conv => whnf)
        | (refine Or.inl (And.intro (by omega) ?_); conv => whnf)
        | (refine Exists.intro _ (And.intro (iNbrs hC) ?_); conv => whnf))
      refine ⟨List Nat × Bool × Nat, fun q => fhInv W H xs q.1 ∧ q.2.2 ≤ (nbL W H i 8).length ∧ (q.2.1 = true → wt q.1 < wt o0) ∧ (q.2.1 = false → q.1 = o0 ∧ (∀ j : Nat, j < i → fhAt W H xs (fun i => P32 (o0.getD i 0)) j) ∧ ∀ j : Nat, j < q.2.2 → P32 (o0.getD i 0) ≤ max (P32 (o0.getD ((nbL W H i 8).getD j RK.nb.z).1.toNat 0)) (P32 (xs.getD i 0))), fun q => [(1, .loc 4 0), (2, .loc 8 0), (3, .loc 12 0), (6, .bool q.2.1), (7, .int .i64 i), (8, .flt .f32 (xs.getD i 0)), (43, .sli .f32 xs t), (44, .int .i64 xs.length), (45, .int .i64 i), (52, .osl 208), (53, .int .i64 (nbL W H i 8).length), (54, .int .i64 q.2.2)], fun q => [(4, .av [.int .i64 W, .int .i64 H, .sli .f32 xs t]), (8, .av [.int .i64 0, .int .i64 0, .emp .f32]), (12, .av [.int .i64 W, .int .i64 H, .osl 72]), (72, .tab .f32 q.1), (208, .tab .nb (nbL W H i 8))], fun q => (nbL W H i 8).length - q.2.2, ⟨(o, ch, 0), id, ⟨hJ, Nat.zero_le _, hw1, fun e => ⟨(hw2 e).1, (hw2 e).2, fun j hj => by dsimp only at hj; omega⟩⟩, rfl, ⟨rfl, rfl, rfl, rfl, rfl, rfl, rfl, rfl, rfl, rfl, rfl, rfl, trivial⟩, ⟨rfl, rfl, rfl, rfl, rfl, trivial⟩⟩, fun q hq => ?_⟩
      clear hJ hw1 hw2
      obtain ⟨o, ch, j⟩ := q
      obtain ⟨hJ, hj, hw1, hw2⟩ := hq
      dsimp only at hJ hj hw1 hw2
      have hol := hJ.1
      conv => whnf
      (refine br_intro (fun h2 => ?_) (fun h2 => ?_) <;> (conv => whnf))
      · have h2 : j < (nbL W H i 8).length := by simp at h2; omega
        have hm : (nbL W H i 8).getD j RK.nb.z ∈ nbL W H i 8 := getD_mem h2 _
        have hr : 0 ≤ ((nbL W H i 8).getD (j : Int).toNat RK.nb.z).1 ∧ ((nbL W H i 8).getD (j : Int).toNat RK.nb.z).1 < W * H := nbL_mem k1 hm
        obtain ⟨v1, v2, v3, v4⟩ := ow_spec hh hJ h hm
        have hr2 := hr
        have hm2 : j < (nbL W H i 8).length := h2
        simp at hr2 hm2
        repeat (first
          | (refine ⟨⟨by kernel_rfl, by kernel_rfl⟩, ?_⟩; conv => whnf)
          | (refine And.intro (by first | omega | (simp; done) | (simp; omega)) ?_; conv => whnf)
          | (refine Or.inl (And.intro (by omega) ?_); conv => whnf))
        (refine br_intro (fun h5 => ?_) (fun h5 => ?_) <;> (conv => whnf))
        · have h5 : fcmp .lss .f32 (fmaxA .f32 (o.getD ((nbL W H i 8).getD j RK.nb.z).1.toNat 0) (xs.getD i 0)) (o.getD i 0) = true := h5
          rw [lss_num v1.1 (hJ.2.1 i h).1] at h5
          have h5 := of_decide_eq_true h5
          obtain ⟨u1, u2⟩ := fh_upd hJ h v1 v2 h5 v3
          have hwo := wt_le hw1 fun e => (hw2 e).1
          repeat (first
            | (refine ⟨⟨by kernel_rfl, by kernel_rfl⟩, ?_⟩; conv => whnf)
            | (refine And.intro (by first | omega | (simp; done) | (simp; omega)) ?_; conv => whnf)
            | (refine Or.inl (And.intro (by omega) ?_); conv => whnf))
          refine ⟨(o.set i (fmaxA .f32 (o.getD ((nbL W H i 8).getD j RK.nb.z).1.toNat 0) (xs.getD i 0)), true, j + 1), id, ⟨⟨u1, h2, fun _ => Nat.lt_of_lt_of_le u2 hwo, fun e => by cases e⟩, by dsimp only; omega⟩, rfl, ⟨rfl, rfl, rfl, rfl, rfl, rfl, rfl, rfl, rfl, rfl, rfl, rfl, trivial⟩, ⟨rfl, rfl, rfl, rfl, rfl, trivial⟩⟩
        · have h5 : fcmp .lss .f32 (fmaxA .f32 (o.getD ((nbL W H i 8).getD j RK.nb.z).1.toNat 0) (xs.getD i 0)) (o.getD i 0) = false := h5
          rw [lss_num v1.1 (hJ.2.1 i h).1] at h5
          have b5 := v4 (of_decide_eq_false h5)
          repeat (first
            | (refine ⟨⟨by kernel_rfl, by kernel_rfl⟩, ?_⟩; conv => whnf)
            | (refine And.intro (by first | omega | (simp; done) | (simp; omega)) ?_; conv => whnf)
            | (refine Or.inl (And.intro (by omega) ?_); conv => whnf))
          refine ⟨(o, ch, j + 1), id, ⟨⟨hJ, h2, hw1, fun e => ⟨(hw2 e).1, (hw2 e).2.1, fun j' hj' => ?_⟩⟩, by dsimp only; omega⟩, rfl, ⟨rfl, rfl, rfl, rfl, rfl, rfl, rfl, rfl, rfl, rfl, rfl, rfl, trivial⟩, ⟨rfl, rfl, rfl, rfl, rfl, trivial⟩⟩
          rcases Nat.lt_or_eq_of_le (show j' ≤ j from Nat.le_of_lt_succ hj') with h' | h'
          · exact (hw2 e).2.2 j' h'
          · subst h'; rw [← (hw2 e).1]; exact b5
      · have h2 : j = (nbL W H i 8).length := by simp at h2; omega
        subst h2
        repeat (first
          | (refine ⟨⟨by kernel_rfl, by kernel_rfl⟩, ?_⟩; conv => whnf)
          | (refine And.intro (by first | omega | (simp; done) | (simp; omega)) ?_; conv => whnf)
          | (refine Or.inl (And.intro (by omega) ?_); conv => whnf))
        refine ⟨(o, ch, i + 1), id, ⟨⟨hJ, h, hw1, fun e => ⟨(hw2 e).1, fun j hj => ?_⟩⟩, by dsimp only; omega⟩, rfl, ⟨rfl, rfl, rfl, rfl, rfl, rfl, rfl, trivial⟩, ⟨rfl, rfl, rfl, rfl, trivial⟩⟩
        rcases Nat.lt_or_eq_of_le (show j ≤ i from Nat.le_of_lt_succ hj) with h' | h'
        · exact (hw2 e).2.1 j h'
        · subst h'; exact at_of_list (hw2 e).2.2
    · have h : i = xs.length := by simp at h; omega
      subst h
      repeat (first
        | (refine ⟨⟨by kernel_rfl, by kernel_rfl⟩, ?_⟩; conv => whnf)
        | (refine And.intro (by first | omega | (simp; done) | (simp; omega)) ?_; conv => whnf)
        | (refine Or.inl (And.intro (by omega) ?_); conv => whnf))
      refine ⟨(o, ch), id, ⟨⟨hJ, fun e => ⟨hJ, fun j hj _ => ?_⟩⟩, ?_⟩, rfl, ⟨rfl, rfl, rfl, rfl, trivial⟩, ⟨rfl, rfl, rfl, rfl, trivial⟩⟩
      · have := (hw2 e).2 j hj
        rw [(hw2 e).1]; exact this
      · dsimp only
        cases ch
        · rw [(hw2 rfl).1, cond_true, cond_false]; omega
        · have := hw1 rfl
          rw [cond_true]; omega
  have hc : c0 = false := hc
  subst hc
  have hX := hF rfl
  have hol := hX.1.1
  rw [← filW_eq hh hX, ← filR_wr hol]
  clear hF hI
  repeat (first
    | (refine ⟨⟨by kernel_rfl, by kernel_rfl⟩, ?_⟩; conv => whnf)
    | (refine And.intro (by first | omega | (simp; done) | (simp; omega)) ?_; conv => whnf)
    | (refine Or.inl (And.intro (by omega) ?_); conv => whnf))
  refine ⟨Nat, fun i => i ≤ xs.length, fun i => [(1, .loc 4 0), (2, .loc 8 0), (3, .loc 12 0), (81, .sli .f32 xs t), (82, .int .i64 xs.length), (83, .int .i64 i)], fun i => [(4, .av [.int .i64 W, .int .i64 H, .sli .f32 xs t]), (8, .av [.int .i64 0, .int .i64 0, .emp .f32]), (12, .av [.int .i64 W, .int .i64 H, .osl 72]), (72, .tab .f32 (wrN o0 (fun i => nzW (xs.getD i 0) (o0.getD i 0)) i))], fun i => xs.length - i, ⟨0, id, Nat.zero_le _, rfl, ⟨rfl, rfl, rfl, rfl, rfl, rfl, trivial⟩, ⟨rfl, rfl, rfl, rfl, trivial⟩⟩, fun i hi => ?_⟩
  dsimp only at hi
  have hwl := wrN_length o0 (fun i => nzW (xs.getD i 0) (o0.getD i 0)) i
  conv => whnf
  (refine br_intro (fun h => ?_) (fun h => ?_) <;> (conv => whnf))
  · have h : i < xs.length := by simp at h; omega
    have hx := (hh.nn h).1
    have ho := hX.1.2.1 i h
    have eG : (wrN o0 (fun i => nzW (xs.getD i 0) (o0.getD i 0)) i).getD (i : Int).toNat RK.f32.z = o0.getD i 0 := by
      show (wrN o0 (fun i => nzW (xs.getD i 0) (o0.getD i 0)) i).getD i 0 = _
      rw [wrN_getD _ _ _ (by omega), if_neg (by omega)]
    repeat (first
      | (refine ⟨⟨by kernel_rfl, by kernel_rfl⟩, ?_⟩; conv => whnf)
      | (refine And.intro (by first | omega | (simp; done) | (simp; omega)) ?_; conv => whnf)
      | (refine Or.inl (And.intro (by omega) ?_); conv => whnf))
    (refine br_intro (fun h2 => ?_) (fun h2 => ?_) <;> (conv => whnf))
    · have h2 : (!(fcmp .gtr .f32 ((wrN o0 (fun i => nzW (xs.getD i 0) (o0.getD i 0)) i).getD (i : Int).toNat RK.f32.z) (xs.getD i 0))) = true := h2
      rw [eG] at h2
      have eV := gt_not hx ho (hX.1.2.2.2.1 i h) (by simpa using h2)
      repeat (first
        | (refine ⟨⟨by kernel_rfl, by kernel_rfl⟩, ?_⟩; conv => whnf)
        | (refine And.intro (by first | omega | (simp; done) | (simp; omega)) ?_; conv => whnf)
        | (refine Or.inl (And.intro (by omega) ?_); conv => whnf))
      refine ⟨i + 1, id, ⟨h, by dsimp only; omega⟩, rfl, ⟨rfl, rfl, rfl, rfl, rfl, rfl, trivial⟩, ⟨rfl, rfl, rfl, congrArg (fun x => KS.live (Blk.tab .f32 ((wrN o0 (fun i => nzW (xs.getD i 0) (o0.getD i 0)) i).set i x))) eV, trivial⟩⟩
    · have h2 : (!(fcmp .gtr .f32 ((wrN o0 (fun i => nzW (xs.getD i 0) (o0.getD i 0)) i).getD (i : Int).toNat RK.f32.z) (xs.getD i 0))) = false := h2
      rw [eG] at h2
      have eN := gt_yes hx ho (by simpa using h2)
      repeat (first
        | (refine ⟨⟨by kernel_rfl, by kernel_rfl⟩, ?_⟩; conv => whnf)
        | (refine And.intro (by first | omega | (simp; done) | (simp; omega)) ?_; conv => whnf)
        | (refine Or.inl (And.intro (by omega) ?_); conv => whnf))
      (refine br_intro (fun h3 => ?_) (fun h3 => ?_) <;> (conv => whnf))
      · have h3 : fcmp .eql .f32 ((wrN o0 (fun i => nzW (xs.getD i 0) (o0.getD i 0)) i).getD (i : Int).toNat RK.f32.z) (canon .f32 0) = true := h3
        rw [eG] at h3
        have eV : canon .f32 0 = nzW (xs.getD i 0) (o0.getD i 0) := by rw [eN, h3]; rfl
        repeat (first
          | (refine ⟨⟨by kernel_rfl, by kernel_rfl⟩, ?_⟩; conv => whnf)
          | (refine And.intro (by first | omega | (simp; done) | (simp; omega)) ?_; conv => whnf)
          | (refine Or.inl (And.intro (by omega) ?_); conv => whnf))
        refine ⟨i + 1, id, ⟨h, by dsimp only; omega⟩, rfl, ⟨rfl, rfl, rfl, rfl, rfl, rfl, trivial⟩, ⟨rfl, rfl, rfl, congrArg (fun x => KS.live (Blk.tab .f32 ((wrN o0 (fun i => nzW (xs.getD i 0) (o0.getD i 0)) i).set i x))) eV, trivial⟩⟩
      · have h3 : fcmp .eql .f32 ((wrN o0 (fun i => nzW (xs.getD i 0) (o0.getD i 0)) i).getD (i : Int).toNat RK.f32.z) (canon .f32 0) = false := h3
        rw [eG] at h3
        have e := wrN_skip (xs := o0) (i := i) (f := fun i => nzW (xs.getD i 0) (o0.getD i 0)) (d := 0) (by omega) (by (try dsimp only); rw [eN, h3]; rfl)
        repeat (first
          | (refine ⟨⟨by kernel_rfl, by kernel_rfl⟩, ?_⟩; conv => whnf)
          | (refine And.intro (by first | omega | (simp; done) | (simp; omega)) ?_; conv => whnf)
          | (refine Or.inl (And.intro (by omega) ?_); conv => whnf))
        refine ⟨i + 1, id, ⟨h, by dsimp only; omega⟩, rfl, ⟨rfl, rfl, rfl, rfl, rfl, rfl, trivial⟩, ⟨rfl, rfl, rfl, congrArg (fun l => KS.live (Blk.tab .f32 l)) e, trivial⟩⟩
  · have h : i = xs.length := by simp at h; omega
    subst h
    rw [hol]
    repeat (first
      | (refine ⟨⟨by kernel_rfl, by kernel_rfl⟩, ?_⟩; conv => whnf)
      | (refine And.intro (by first | omega | (simp; done) | (simp; omega)) ?_; conv => whnf)
      | (refine Or.inl (And.intro (by omega) ?_); conv => whnf))
    all_goals (try (conv => whnf))
    all_goals (repeat' (first | exact True.intro | (refine And.intro ?_ ?_ <;> (conv => whnf))))
    all_goals (first | rfl | (simp_all []; done) | (simp only [cond_true, cond_false, Bool.and_true, Bool.true_and, Bool.and_false, Bool.false_and]; rfl) | (simp_all []; omega))

noncomputable def filO (W H : Int) (xs : List Nat) : List Nat := bif hillB W H xs then filW W H xs else []
noncomputable def filV (W H : Int) (xs : List Nat) : AV := .tup [.agg [.int .i64 (selI (hillB W H xs) W), .int .i64 (selI (hillB W H xs) H), .own 0 .f32 (filO W H xs)], .bool (hillB W H xs)]
theorem filO_len {W H : Int} {xs : List Nat} (h : ∀ y ∈ xs, y < 2 ^ 32) : (filO W H xs).length ≤ 256 := by
  unfold filO
  cases h1 : hillB W H xs
  · exact Nat.zero_le _
  · have := hill_len h1
    have := (filW_ok ⟨h1, h⟩).2
    rw [cond_true]; omega

theorem iFillHill {W H : Int} {xs : List Nat} {t : AV} (hl : ∀ y ∈ xs, y < 2 ^ 32) (hn : xs.length ≤ 1048576) : Does Try.prog 17 [.agg [.int .i64 W, .int .i64 H, .sli .f32 xs t]] (filV W H xs) := by
  refine Does.of_awp (X := cx 13) Try.func17 rfl (by kernel_rfl) rfl (by simp [cx]) [36] rfl ?_
  conv => whnf
  repeat (first
    | (refine ⟨⟨by kernel_rfl, by kernel_rfl⟩, ?_⟩; conv => whnf)
    | (refine And.intro (by first | omega | (simp; done) | (simp; omega)) ?_; conv => whnf)
    | (refine Or.inl (And.intro (by omega) ?_); conv => whnf)
    | (refine Exists.intro _ (And.intro (iIs (by first | omega | (simp; done) | (simp; omega))) ?_); conv => whnf))
  (refine br_intro (fun g1 => ?_) (fun g1 => ?_) <;> (conv => whnf))
  · have g1 : hillB W H xs = false := by simpa using g1
    all_goals (try (conv => whnf))
    all_goals (repeat' (first | exact True.intro | (refine And.intro ?_ ?_ <;> (conv => whnf))))
    all_goals (first | rfl | (simp_all [filV, filO, selI]; done) | (simp only [filV, filO, selI, cond_true, cond_false, Bool.and_true, Bool.true_and, Bool.and_false, Bool.false_and]; rfl) | (simp_all [filV, filO, selI]; omega))
  have g1 : hillB W H xs = true := by simpa using g1
  have hh : HillW W H xs := ⟨g1, hl⟩
  obtain ⟨w1, w2⟩ := filW_ok hh
  have e : ∀ t, Does Try.prog 47 [.agg [.int .i64 W, .int .i64 H, .sli .f32 (filW W H xs) t]] (.tup [.agg [.int .i64 W, .int .i64 H, .sli .f32 (filW W H xs) t], .bool true]) := fun t => iGive (by omega) w1.1
  repeat (first
    | (refine ⟨⟨by kernel_rfl, by kernel_rfl⟩, ?_⟩; conv => whnf)
    | (refine And.intro (by first | omega | (simp; done) | (simp; omega)) ?_; conv => whnf)
    | (refine Or.inl (And.intro (by omega) ?_); conv => whnf)
    | (refine Exists.intro _ (And.intro (iFilled hh) ?_); conv => whnf)
    | (refine Exists.intro _ (And.intro (e _) ?_); conv => whnf))
  all_goals (try (conv => whnf))
  all_goals (repeat' (first | exact True.intro | (refine And.intro ?_ ?_ <;> (conv => whnf))))
  all_goals (first | rfl | (simp_all [filV, filO, selI]; done) | (simp only [filV, filO, selI, cond_true, cond_false, Bool.and_true, Bool.true_and, Bool.and_false, Bool.false_and]; rfl) | (simp_all [filV, filO, selI]; omega))

noncomputable def hoN (xs f : List Nat) : Nat → Nat
  | 0 => canon .f32 0
  | i + 1 => fop .add .f32 (hoN xs f i) (fop .sub .f32 (f.getD i 0) (xs.getD i 0))
noncomputable def hoB (W H : Int) (xs : List Nat) : Bool := hillB W H xs && fin (hoN xs (filW W H xs) xs.length)
noncomputable def hoV (W H : Int) (xs : List Nat) : AV := .tup [.flt .f32 (bif hoB W H xs then hoN xs (filW W H xs) xs.length else canon .f32 0), .bool (hoB W H xs)]

theorem iNumber {x : Nat} : Does Try.prog 49 [.flt .f32 x] (.tup [.flt .f32 (bif fin x then x else canon .f32 0), .bool (fin x)]) := by
  refine Does.of_awp (X := cx 8) Try.func49 rfl (by kernel_rfl) rfl (by simp [cx]) [] rfl ?_
  conv => whnf
  repeat' (first
    | (refine br_intro (fun h => ?_) (fun h => ?_) <;> (conv => whnf))
    | (refine ⟨⟨by kernel_rfl, by kernel_rfl⟩, ?_⟩; conv => whnf)
    | (refine And.intro (by first | omega | (simp; done) | (simp; omega)) ?_; conv => whnf)
    | (refine Or.inl (And.intro (by omega) ?_); conv => whnf)
    | (refine Exists.intro _ (And.intro (iIsFinite) ?_); conv => whnf))
  all_goals (try (conv => whnf))
  all_goals (repeat' (first | exact True.intro | (refine And.intro ?_ ?_ <;> (conv => whnf))))
  all_goals (first | rfl | (simp_all []; done) | (simp only [cond_true, cond_false, Bool.and_true, Bool.true_and, Bool.and_false, Bool.false_and]; rfl) | (simp_all []; omega))

theorem iHollow {W H : Int} {xs : List Nat} {t : AV} (hl : ∀ y ∈ xs, y < 2 ^ 32) (hn : xs.length ≤ 1048576) : Does Try.prog 18 [.agg [.int .i64 W, .int .i64 H, .sli .f32 xs t]] (hoV W H xs) := by
  refine Does.of_awp (X := cx 33) Try.func18 rfl (by kernel_rfl) rfl (by simp [cx]) [] rfl ?_
  conv => whnf
  repeat (first
    | (refine ⟨⟨by kernel_rfl, by kernel_rfl⟩, ?_⟩; conv => whnf)
    | (refine And.intro (by first | omega | (simp; done) | (simp; omega)) ?_; conv => whnf)
    | (refine Or.inl (And.intro (by omega) ?_); conv => whnf)
    | (refine Exists.intro _ (And.intro (iIs (by first | omega | (simp; done) | (simp; omega))) ?_); conv => whnf))
  (refine br_intro (fun g1 => ?_) (fun g1 => ?_) <;> (conv => whnf))
  · have g1 : hillB W H xs = false := by simpa using g1
    have eB : hoB W H xs = false := by rw [hoB, g1]; rfl
    all_goals (try (conv => whnf))
    all_goals (repeat' (first | exact True.intro | (refine And.intro ?_ ?_ <;> (conv => whnf))))
    all_goals (first | rfl | (simp_all [hoV, eB]; done) | (simp only [hoV, eB, cond_true, cond_false, Bool.and_true, Bool.true_and, Bool.and_false, Bool.false_and]; rfl) | (simp_all [hoV, eB]; omega))
  have g1 : hillB W H xs = true := by simpa using g1
  have hh : HillW W H xs := ⟨g1, hl⟩
  obtain ⟨w1, w2⟩ := filW_ok hh
  have eB : hoB W H xs = fin (hoN xs (filW W H xs) xs.length) := by rw [hoB, g1]; rfl
  unfold hoV
  rw [eB]
  repeat (first
    | (refine ⟨⟨by kernel_rfl, by kernel_rfl⟩, ?_⟩; conv => whnf)
    | (refine And.intro (by first | omega | (simp; done) | (simp; omega)) ?_; conv => whnf)
    | (refine Or.inl (And.intro (by omega) ?_); conv => whnf)
    | (refine Exists.intro _ (And.intro (iFilled hh) ?_); conv => whnf))
  refine ⟨Nat, fun i => i ≤ xs.length, fun i => [(1, .loc 4 0), (4, .flt .f32 (hoN xs (filW W H xs) i)), (12, .osl 44), (13, .int .i64 (filW W H xs).length), (14, .int .i64 i)], fun i => [(4, .av [.int .i64 W, .int .i64 H, .sli .f32 xs t]), (44, .tab .f32 (filW W H xs))], fun i => xs.length - i, ⟨0, id, Nat.zero_le _, rfl, ⟨rfl, rfl, rfl, rfl, rfl, trivial⟩, ⟨rfl, rfl, trivial⟩⟩, fun i hi => ?_⟩
  dsimp only at hi
  conv => whnf
  (refine br_intro (fun h => ?_) (fun h => ?_) <;> (conv => whnf))
  · have h : i < xs.length := by simp at h; omega
    repeat (first
      | (refine ⟨⟨by kernel_rfl, by kernel_rfl⟩, ?_⟩; conv => whnf)
      | (refine And.intro (by first | omega | (simp; done) | (simp; omega)) ?_; conv => whnf)
      | (refine Or.inl (And.intro (by omega) ?_); conv => whnf))
    refine ⟨i + 1, id, ⟨h, by dsimp only; omega⟩, rfl, ⟨rfl, rfl, rfl, rfl, rfl, trivial⟩, ⟨rfl, rfl, trivial⟩⟩
  · have h : i = xs.length := by simp at h; omega
    subst h
    repeat (first
      | (refine ⟨⟨by kernel_rfl, by kernel_rfl⟩, ?_⟩; conv => whnf)
      | (refine And.intro (by first | omega | (simp; done) | (simp; omega)) ?_; conv => whnf)
      | (refine Or.inl (And.intro (by omega) ?_); conv => whnf)
      | (refine Exists.intro _ (And.intro (iNumber) ?_); conv => whnf))
    all_goals (try (conv => whnf))
    all_goals (repeat' (first | exact True.intro | (refine And.intro ?_ ?_ <;> (conv => whnf))))
    all_goals (first | rfl | (simp_all []; done) | (simp only [cond_true, cond_false, Bool.and_true, Bool.true_and, Bool.and_false, Bool.false_and]; rfl) | (simp_all []; omega))

end Go.Proofs.Ytngmlbeafdaolaa
