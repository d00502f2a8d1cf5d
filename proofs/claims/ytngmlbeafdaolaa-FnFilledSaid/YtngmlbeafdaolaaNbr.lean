/- What each function of this seat does (Nbr). Printed from templates of this seat's own. -/
import Derived.Test.YtngmlbeafdaolaaNea
namespace Go.Proofs.Ytngmlbeafdaolaa
open Go.Ax Go.Bx
set_option maxRecDepth 8000
set_option linter.unusedSimpArgs false
set_option linter.unusedVariables false

set_option maxHeartbeats 4000000 in
theorem iNbrs {W H c : Int} {xs : List Nat} {t : AV} (hc : Cel W H c) : Does Try.prog 41 [.agg [.int .i64 W, .int .i64 H, .sli .f32 xs t], .int .i64 c] (.own 0 .nb (nbL W H c 8)) := by
  obtain ⟨f1, f2, f3, f4, f5⟩ := hc.fact
  have hc' := hc
  obtain ⟨⟨q1, q2, q3, q4⟩, q5, q6⟩ := hc'
  refine Does.of_awp (X := cx 69) Try.func41 rfl (by kernel_rfl) rfl (by simp [cx]) [44] rfl ?_
  conv => whnf
  repeat (first
    | (refine ⟨⟨by kernel_rfl, by kernel_rfl⟩, ?_⟩; conv => whnf)
    | (refine And.intro (by first | omega | (simp; done) | (simp; omega)) ?_; conv => whnf)
    | (refine Or.inl (And.intro (by omega) ?_); conv => whnf))
  refine ⟨Nat, fun k => k ≤ 8, fun k => [(1, .int .i64 c), (2, .loc 8 0), (5, .osl 44), (20, .agg [.int .i64 0, .int .i64 (-1), .int .i64 1, .int .i64 (-1), .int .i64 1, .int .i64 0, .int .i64 1, .int .i64 1, .int .i64 0, .int .i64 1, .int .i64 (-1), .int .i64 1, .int .i64 (-1), .int .i64 0, .int .i64 (-1), .int .i64 (-1)]), (21, .int .i64 k)], fun k => [(8, .av [.int .i64 W, .int .i64 H, .sli .f32 xs t]), (44, .tab .nb (nbL W H c k))], fun k => 8 - k, ⟨0, id, Nat.zero_le _, rfl, ⟨rfl, rfl, rfl, rfl, rfl, trivial⟩, ⟨rfl, rfl, trivial⟩⟩, fun k hk => ?_⟩
  have hk' : k = 0 ∨ k = 1 ∨ k = 2 ∨ k = 3 ∨ k = 4 ∨ k = 5 ∨ k = 6 ∨ k = 7 ∨ k = 8 := by dsimp only at hk; omega
  rcases hk' with rfl | rfl | rfl | rfl | rfl | rfl | rfl | rfl | rfl
  · have hlen := nbL_len W H c 0
    conv => whnf
    repeat (first
      | (refine ⟨⟨by kernel_rfl, by kernel_rfl⟩, ?_⟩; conv => whnf)
      | (refine And.intro (by first | omega | (simp; done) | (simp; omega)) ?_; conv => whnf)
      | (refine Or.inl (And.intro (by omega) ?_); conv => whnf)
      | (refine br_intro (fun h => by exfalso; first | (simp at h; done) | (simp at h; omega) | omega) (fun _ => ?_); conv => whnf)
      | (refine br_intro (fun _ => ?_) (fun h => by exfalso; first | (simp at h; done) | (simp at h; omega) | omega); conv => whnf))
    refine And.intro (Nat.le_of_ble_eq_true (by kernel_rfl)) ?_
    conv => whnf
    repeat (first
      | (refine ⟨⟨by kernel_rfl, by kernel_rfl⟩, ?_⟩; conv => whnf)
      | (refine And.intro (by first | omega | (simp; done) | (simp; omega)) ?_; conv => whnf)
      | (refine Or.inl (And.intro (by omega) ?_); conv => whnf)
      | (refine br_intro (fun h => by exfalso; first | (simp at h; done) | (simp at h; omega) | omega) (fun _ => ?_); conv => whnf)
      | (refine br_intro (fun _ => ?_) (fun h => by exfalso; first | (simp at h; done) | (simp at h; omega) | omega); conv => whnf)
      | (refine Exists.intro _ (And.intro (iWithin) ?_); conv => whnf))
    (refine br_intro (fun h2 => ?_) (fun h2 => ?_) <;> (conv => whnf))
    · have h2 : (!inR (nbX W c 0) 0 (W - 1)) = true := h2
      have h2 : inR (nbX W c 0) 0 (W - 1) = false := by simpa using h2
      have hO : nbOk W H c 0 = false := by unfold nbOk; rw [h2]; rfl
      have eA : nbL W H c 0 = nbL W H c 1 := nbL_no hO
      repeat (first
        | (refine ⟨⟨by kernel_rfl, by kernel_rfl⟩, ?_⟩; conv => whnf)
        | (refine And.intro (by first | omega | (simp; done) | (simp; omega)) ?_; conv => whnf)
        | (refine Or.inl (And.intro (by omega) ?_); conv => whnf)
        | (refine br_intro (fun h => by exfalso; first | (simp at h; done) | (simp at h; omega) | omega) (fun _ => ?_); conv => whnf)
        | (refine br_intro (fun _ => ?_) (fun h => by exfalso; first | (simp at h; done) | (simp at h; omega) | omega); conv => whnf))
      refine ⟨1, id, ⟨by dsimp only; omega, by dsimp only; omega⟩, rfl, ⟨rfl, rfl, rfl, rfl, rfl, trivial⟩, ⟨rfl, congrArg (fun l => KS.live (Blk.tab .nb l)) eA, trivial⟩⟩
    · have h2 : (!inR (nbX W c 0) 0 (W - 1)) = false := h2
      have h2 : inR (nbX W c 0) 0 (W - 1) = true := by simpa using h2
      repeat (first
        | (refine ⟨⟨by kernel_rfl, by kernel_rfl⟩, ?_⟩; conv => whnf)
        | (refine And.intro (by first | omega | (simp; done) | (simp; omega)) ?_; conv => whnf)
        | (refine Or.inl (And.intro (by omega) ?_); conv => whnf)
        | (refine br_intro (fun h => by exfalso; first | (simp at h; done) | (simp at h; omega) | omega) (fun _ => ?_); conv => whnf)
        | (refine br_intro (fun _ => ?_) (fun h => by exfalso; first | (simp at h; done) | (simp at h; omega) | omega); conv => whnf)
        | (refine Exists.intro _ (And.intro (iWithin) ?_); conv => whnf))
      (refine br_intro (fun h3 => ?_) (fun h3 => ?_) <;> (conv => whnf))
      · have h3 : (!inR (nbY W c 0) 0 (H - 1)) = true := h3
        have h3 : inR (nbY W c 0) 0 (H - 1) = false := by simpa using h3
        have hO : nbOk W H c 0 = false := by unfold nbOk; rw [h2, h3]; rfl
        have eA : nbL W H c 0 = nbL W H c 1 := nbL_no hO
        repeat (first
          | (refine ⟨⟨by kernel_rfl, by kernel_rfl⟩, ?_⟩; conv => whnf)
          | (refine And.intro (by first | omega | (simp; done) | (simp; omega)) ?_; conv => whnf)
          | (refine Or.inl (And.intro (by omega) ?_); conv => whnf)
          | (refine br_intro (fun h => by exfalso; first | (simp at h; done) | (simp at h; omega) | omega) (fun _ => ?_); conv => whnf)
          | (refine br_intro (fun _ => ?_) (fun h => by exfalso; first | (simp at h; done) | (simp at h; omega) | omega); conv => whnf))
        refine ⟨1, id, ⟨by dsimp only; omega, by dsimp only; omega⟩, rfl, ⟨rfl, rfl, rfl, rfl, rfl, trivial⟩, ⟨rfl, congrArg (fun l => KS.live (Blk.tab .nb l)) eA, trivial⟩⟩
      · have h3 : (!inR (nbY W c 0) 0 (H - 1)) = false := h3
        have h3 : inR (nbY W c 0) 0 (H - 1) = true := by simpa using h3
        have hO : nbOk W H c 0 = true := by unfold nbOk; rw [h2, h3]; rfl
        have r := nbC_range q1 hO
        have r' : 0 ≤ (c / W + (-1)) * W + (c % W + 0) ∧ (c / W + (-1)) * W + (c % W + 0) < W * H := r
        have eA : nbL W H c 0 ++ [(nbC W c 0, farK 0)] = nbL W H c 1 := nbL_yes hO
        repeat (first
          | (refine ⟨⟨by kernel_rfl, by kernel_rfl⟩, ?_⟩; conv => whnf)
          | (refine And.intro (by first | omega | (simp; done) | (simp; omega)) ?_; conv => whnf)
          | (refine Or.inl (And.intro (by omega) ?_); conv => whnf)
          | (refine br_intro (fun h => by exfalso; first | (simp at h; done) | (simp at h; omega) | omega) (fun _ => ?_); conv => whnf)
          | (refine br_intro (fun _ => ?_) (fun h => by exfalso; first | (simp at h; done) | (simp at h; omega) | omega); conv => whnf))
        refine ⟨1, ren [(44, 264)], ⟨by dsimp only; omega, by dsimp only; omega⟩, rfl, ⟨rfl, rfl, rfl, rfl, rfl, trivial⟩, ⟨rfl, congrArg (fun l => KS.live (Blk.tab .nb l)) eA, trivial⟩⟩
  · have hlen := nbL_len W H c 1
    conv => whnf
    repeat (first
      | (refine ⟨⟨by kernel_rfl, by kernel_rfl⟩, ?_⟩; conv => whnf)
      | (refine And.intro (by first | omega | (simp; done) | (simp; omega)) ?_; conv => whnf)
      | (refine Or.inl (And.intro (by omega) ?_); conv => whnf)
      | (refine br_intro (fun h => by exfalso; first | (simp at h; done) | (simp at h; omega) | omega) (fun _ => ?_); conv => whnf)
      | (refine br_intro (fun _ => ?_) (fun h => by exfalso; first | (simp at h; done) | (simp at h; omega) | omega); conv => whnf))
    refine And.intro (Nat.le_of_ble_eq_true (by kernel_rfl)) ?_
    conv => whnf
    repeat (first
      | (refine ⟨⟨by kernel_rfl, by kernel_rfl⟩, ?_⟩; conv => whnf)
      | (refine And.intro (by first | omega | (simp; done) | (simp; omega)) ?_; conv => whnf)
      | (refine Or.inl (And.intro (by omega) ?_); conv => whnf)
      | (refine br_intro (fun h => by exfalso; first | (simp at h; done) | (simp at h; omega) | omega) (fun _ => ?_); conv => whnf)
      | (refine br_intro (fun _ => ?_) (fun h => by exfalso; first | (simp at h; done) | (simp at h; omega) | omega); conv => whnf)
      | (refine Exists.intro _ (And.intro (iWithin) ?_); conv => whnf))
    (refine br_intro (fun h2 => ?_) (fun h2 => ?_) <;> (conv => whnf))
    · have h2 : (!inR (nbX W c 1) 0 (W - 1)) = true := h2
      have h2 : inR (nbX W c 1) 0 (W - 1) = false := by simpa using h2
      have hO : nbOk W H c 1 = false := by unfold nbOk; rw [h2]; rfl
      have eA : nbL W H c 1 = nbL W H c 2 := nbL_no hO
      repeat (first
        | (refine ⟨⟨by kernel_rfl, by kernel_rfl⟩, ?_⟩; conv => whnf)
        | (refine And.intro (by first | omega | (simp; done) | (simp; omega)) ?_; conv => whnf)
        | (refine Or.inl (And.intro (by omega) ?_); conv => whnf)
        | (refine br_intro (fun h => by exfalso; first | (simp at h; done) | (simp at h; omega) | omega) (fun _ => ?_); conv => whnf)
        | (refine br_intro (fun _ => ?_) (fun h => by exfalso; first | (simp at h; done) | (simp at h; omega) | omega); conv => whnf))
      refine ⟨2, id, ⟨by dsimp only; omega, by dsimp only; omega⟩, rfl, ⟨rfl, rfl, rfl, rfl, rfl, trivial⟩, ⟨rfl, congrArg (fun l => KS.live (Blk.tab .nb l)) eA, trivial⟩⟩
    · have h2 : (!inR (nbX W c 1) 0 (W - 1)) = false := h2
      have h2 : inR (nbX W c 1) 0 (W - 1) = true := by simpa using h2
      repeat (first
        | (refine ⟨⟨by kernel_rfl, by kernel_rfl⟩, ?_⟩; conv => whnf)
        | (refine And.intro (by first | omega | (simp; done) | (simp; omega)) ?_; conv => whnf)
        | (refine Or.inl (And.intro (by omega) ?_); conv => whnf)
        | (refine br_intro (fun h => by exfalso; first | (simp at h; done) | (simp at h; omega) | omega) (fun _ => ?_); conv => whnf)
        | (refine br_intro (fun _ => ?_) (fun h => by exfalso; first | (simp at h; done) | (simp at h; omega) | omega); conv => whnf)
        | (refine Exists.intro _ (And.intro (iWithin) ?_); conv => whnf))
      (refine br_intro (fun h3 => ?_) (fun h3 => ?_) <;> (conv => whnf))
      · have h3 : (!inR (nbY W c 1) 0 (H - 1)) = true := h3
        have h3 : inR (nbY W c 1) 0 (H - 1) = false := by simpa using h3
        have hO : nbOk W H c 1 = false := by unfold nbOk; rw [h2, h3]; rfl
        have eA : nbL W H c 1 = nbL W H c 2 := nbL_no hO
        repeat (first
          | (refine ⟨⟨by kernel_rfl, by kernel_rfl⟩, ?_⟩; conv => whnf)
          | (refine And.intro (by first | omega | (simp; done) | (simp; omega)) ?_; conv => whnf)
          | (refine Or.inl (And.intro (by omega) ?_); conv => whnf)
          | (refine br_intro (fun h => by exfalso; first | (simp at h; done) | (simp at h; omega) | omega) (fun _ => ?_); conv => whnf)
          | (refine br_intro (fun _ => ?_) (fun h => by exfalso; first | (simp at h; done) | (simp at h; omega) | omega); conv => whnf))
        refine ⟨2, id, ⟨by dsimp only; omega, by dsimp only; omega⟩, rfl, ⟨rfl, rfl, rfl, rfl, rfl, trivial⟩, ⟨rfl, congrArg (fun l => KS.live (Blk.tab .nb l)) eA, trivial⟩⟩
      · have h3 : (!inR (nbY W c 1) 0 (H - 1)) = false := h3
        have h3 : inR (nbY W c 1) 0 (H - 1) = true := by simpa using h3
        have hO : nbOk W H c 1 = true := by unfold nbOk; rw [h2, h3]; rfl
        have r := nbC_range q1 hO
        have r' : 0 ≤ (c / W + (-1)) * W + (c % W + 1) ∧ (c / W + (-1)) * W + (c % W + 1) < W * H := r
        have eA : nbL W H c 1 ++ [(nbC W c 1, farK 1)] = nbL W H c 2 := nbL_yes hO
        repeat (first
          | (refine ⟨⟨by kernel_rfl, by kernel_rfl⟩, ?_⟩; conv => whnf)
          | (refine And.intro (by first | omega | (simp; done) | (simp; omega)) ?_; conv => whnf)
          | (refine Or.inl (And.intro (by omega) ?_); conv => whnf)
          | (refine br_intro (fun h => by exfalso; first | (simp at h; done) | (simp at h; omega) | omega) (fun _ => ?_); conv => whnf)
          | (refine br_intro (fun _ => ?_) (fun h => by exfalso; first | (simp at h; done) | (simp at h; omega) | omega); conv => whnf))
        refine ⟨2, ren [(44, 264)], ⟨by dsimp only; omega, by dsimp only; omega⟩, rfl, ⟨rfl, rfl, rfl, rfl, rfl, trivial⟩, ⟨rfl, congrArg (fun l => KS.live (Blk.tab .nb l)) eA, trivial⟩⟩
  · have hlen := nbL_len W H c 2
    conv => whnf
    repeat (first
      | (refine ⟨⟨by kernel_rfl, by kernel_rfl⟩, ?_⟩; conv => whnf)
      | (refine And.intro (by first | omega | (simp; done) | (simp; omega)) ?_; conv => whnf)
      | (refine Or.inl (And.intro (by omega) ?_); conv => whnf)
      | (refine br_intro (fun h => by exfalso; first | (simp at h; done) | (simp at h; omega) | omega) (fun _ => ?_); conv => whnf)
      | (refine br_intro (fun _ => ?_) (fun h => by exfalso; first | (simp at h; done) | (simp at h; omega) | omega); conv => whnf))
    refine And.intro (Nat.le_of_ble_eq_true (by kernel_rfl)) ?_
    conv => whnf
    repeat (first
      | (refine ⟨⟨by kernel_rfl, by kernel_rfl⟩, ?_⟩; conv => whnf)
      | (refine And.intro (by first | omega | (simp; done) | (simp; omega)) ?_; conv => whnf)
      | (refine Or.inl (And.intro (by omega) ?_); conv => whnf)
      | (refine br_intro (fun h => by exfalso; first | (simp at h; done) | (simp at h; omega) | omega) (fun _ => ?_); conv => whnf)
      | (refine br_intro (fun _ => ?_) (fun h => by exfalso; first | (simp at h; done) | (simp at h; omega) | omega); conv => whnf)
      | (refine Exists.intro _ (And.intro (iWithin) ?_); conv => whnf))
    (refine br_intro (fun h2 => ?_) (fun h2 => ?_) <;> (conv => whnf))
    · have h2 : (!inR (nbX W c 2) 0 (W - 1)) = true := h2
      have h2 : inR (nbX W c 2) 0 (W - 1) = false := by simpa using h2
      have hO : nbOk W H c 2 = false := by unfold nbOk; rw [h2]; rfl
      have eA : nbL W H c 2 = nbL W H c 3 := nbL_no hO
      repeat (first
        | (refine ⟨⟨by kernel_rfl, by kernel_rfl⟩, ?_⟩; conv => whnf)
        | (refine And.intro (by first | omega | (simp; done) | (simp; omega)) ?_; conv => whnf)
        | (refine Or.inl (And.intro (by omega) ?_); conv => whnf)
        | (refine br_intro (fun h => by exfalso; first | (simp at h; done) | (simp at h; omega) | omega) (fun _ => ?_); conv => whnf)
        | (refine br_intro (fun _ => ?_) (fun h => by exfalso; first | (simp at h; done) | (simp at h; omega) | omega); conv => whnf))
      refine ⟨3, id, ⟨by dsimp only; omega, by dsimp only; omega⟩, rfl, ⟨rfl, rfl, rfl, rfl, rfl, trivial⟩, ⟨rfl, congrArg (fun l => KS.live (Blk.tab .nb l)) eA, trivial⟩⟩
    · have h2 : (!inR (nbX W c 2) 0 (W - 1)) = false := h2
      have h2 : inR (nbX W c 2) 0 (W - 1) = true := by simpa using h2
      repeat (first
        | (refine ⟨⟨by kernel_rfl, by kernel_rfl⟩, ?_⟩; conv => whnf)
        | (refine And.intro (by first | omega | (simp; done) | (simp; omega)) ?_; conv => whnf)
        | (refine Or.inl (And.intro (by omega) ?_); conv => whnf)
        | (refine br_intro (fun h => by exfalso; first | (simp at h; done) | (simp at h; omega) | omega) (fun _ => ?_); conv => whnf)
        | (refine br_intro (fun _ => ?_) (fun h => by exfalso; first | (simp at h; done) | (simp at h; omega) | omega); conv => whnf)
        | (refine Exists.intro _ (And.intro (iWithin) ?_); conv => whnf))
      (refine br_intro (fun h3 => ?_) (fun h3 => ?_) <;> (conv => whnf))
      · have h3 : (!inR (nbY W c 2) 0 (H - 1)) = true := h3
        have h3 : inR (nbY W c 2) 0 (H - 1) = false := by simpa using h3
        have hO : nbOk W H c 2 = false := by unfold nbOk; rw [h2, h3]; rfl
        have eA : nbL W H c 2 = nbL W H c 3 := nbL_no hO
        repeat (first
          | (refine ⟨⟨by kernel_rfl, by kernel_rfl⟩, ?_⟩; conv => whnf)
          | (refine And.intro (by first | omega | (simp; done) | (simp; omega)) ?_; conv => whnf)
          | (refine Or.inl (And.intro (by omega) ?_); conv => whnf)
          | (refine br_intro (fun h => by exfalso; first | (simp at h; done) | (simp at h; omega) | omega) (fun _ => ?_); conv => whnf)
          | (refine br_intro (fun _ => ?_) (fun h => by exfalso; first | (simp at h; done) | (simp at h; omega) | omega); conv => whnf))
        refine ⟨3, id, ⟨by dsimp only; omega, by dsimp only; omega⟩, rfl, ⟨rfl, rfl, rfl, rfl, rfl, trivial⟩, ⟨rfl, congrArg (fun l => KS.live (Blk.tab .nb l)) eA, trivial⟩⟩
      · have h3 : (!inR (nbY W c 2) 0 (H - 1)) = false := h3
        have h3 : inR (nbY W c 2) 0 (H - 1) = true := by simpa using h3
        have hO : nbOk W H c 2 = true := by unfold nbOk; rw [h2, h3]; rfl
        have r := nbC_range q1 hO
        have r' : 0 ≤ (c / W + 0) * W + (c % W + 1) ∧ (c / W + 0) * W + (c % W + 1) < W * H := r
        have eA : nbL W H c 2 ++ [(nbC W c 2, farK 2)] = nbL W H c 3 := nbL_yes hO
        repeat (first
          | (refine ⟨⟨by kernel_rfl, by kernel_rfl⟩, ?_⟩; conv => whnf)
          | (refine And.intro (by first | omega | (simp; done) | (simp; omega)) ?_; conv => whnf)
          | (refine Or.inl (And.intro (by omega) ?_); conv => whnf)
          | (refine br_intro (fun h => by exfalso; first | (simp at h; done) | (simp at h; omega) | omega) (fun _ => ?_); conv => whnf)
          | (refine br_intro (fun _ => ?_) (fun h => by exfalso; first | (simp at h; done) | (simp at h; omega) | omega); conv => whnf))
        refine ⟨3, ren [(44, 264)], ⟨by dsimp only; omega, by dsimp only; omega⟩, rfl, ⟨rfl, rfl, rfl, rfl, rfl, trivial⟩, ⟨rfl, congrArg (fun l => KS.live (Blk.tab .nb l)) eA, trivial⟩⟩
  · have hlen := nbL_len W H c 3
    conv => whnf
    repeat (first
      | (refine ⟨⟨by kernel_rfl, by kernel_rfl⟩, ?_⟩; conv => whnf)
      | (refine And.intro (by first | omega | (simp; done) | (simp; omega)) ?_; conv => whnf)
      | (refine Or.inl (And.intro (by omega) ?_); conv => whnf)
      | (refine br_intro (fun h => by exfalso; first | (simp at h; done) | (simp at h; omega) | omega) (fun _ => ?_); conv => whnf)
      | (refine br_intro (fun _ => ?_) (fun h => by exfalso; first | (simp at h; done) | (simp at h; omega) | omega); conv => whnf))
    refine And.intro (Nat.le_of_ble_eq_true (by kernel_rfl)) ?_
    conv => whnf
    repeat (first
      | (refine ⟨⟨by kernel_rfl, by kernel_rfl⟩, ?_⟩; conv => whnf)
      | (refine And.intro (by first | omega | (simp; done) | (simp; omega)) ?_; conv => whnf)
      | (refine Or.inl (And.intro (by omega) ?_); conv => whnf)
      | (refine br_intro (fun h => by exfalso; first | (simp at h; done) | (simp at h; omega) | omega) (fun _ => ?_); conv => whnf)
      | (refine br_intro (fun _ => ?_) (fun h => by exfalso; first | (simp at h; done) | (simp at h; omega) | omega); conv => whnf)
      | (refine Exists.intro _ (And.intro (iWithin) ?_); conv => whnf))
    (refine br_intro (fun h2 => ?_) (fun h2 => ?_) <;> (conv => whnf))
    · have h2 : (!inR (nbX W c 3) 0 (W - 1)) = true := h2
      have h2 : inR (nbX W c 3) 0 (W - 1) = false := by simpa using h2
      have hO : nbOk W H c 3 = false := by unfold nbOk; rw [h2]; rfl
      have eA : nbL W H c 3 = nbL W H c 4 := nbL_no hO
      repeat (first
        | (refine ⟨⟨by kernel_rfl, by kernel_rfl⟩, ?_⟩; conv => whnf)
        | (refine And.intro (by first | omega | (simp; done) | (simp; omega)) ?_; conv => whnf)
        | (refine Or.inl (And.intro (by omega) ?_); conv => whnf)
        | (refine br_intro (fun h => by exfalso; first | (simp at h; done) | (simp at h; omega) | omega) (fun _ => ?_); conv => whnf)
        | (refine br_intro (fun _ => ?_) (fun h => by exfalso; first | (simp at h; done) | (simp at h; omega) | omega); conv => whnf))
      refine ⟨4, id, ⟨by dsimp only; omega, by dsimp only; omega⟩, rfl, ⟨rfl, rfl, rfl, rfl, rfl, trivial⟩, ⟨rfl, congrArg (fun l => KS.live (Blk.tab .nb l)) eA, trivial⟩⟩
    · have h2 : (!inR (nbX W c 3) 0 (W - 1)) = false := h2
      have h2 : inR (nbX W c 3) 0 (W - 1) = true := by simpa using h2
      repeat (first
        | (refine ⟨⟨by kernel_rfl, by kernel_rfl⟩, ?_⟩; conv => whnf)
        | (refine And.intro (by first | omega | (simp; done) | (simp; omega)) ?_; conv => whnf)
        | (refine Or.inl (And.intro (by omega) ?_); conv => whnf)
        | (refine br_intro (fun h => by exfalso; first | (simp at h; done) | (simp at h; omega) | omega) (fun _ => ?_); conv => whnf)
        | (refine br_intro (fun _ => ?_) (fun h => by exfalso; first | (simp at h; done) | (simp at h; omega) | omega); conv => whnf)
        | (refine Exists.intro _ (And.intro (iWithin) ?_); conv => whnf))
      (refine br_intro (fun h3 => ?_) (fun h3 => ?_) <;> (conv => whnf))
      · have h3 : (!inR (nbY W c 3) 0 (H - 1)) = true := h3
        have h3 : inR (nbY W c 3) 0 (H - 1) = false := by simpa using h3
        have hO : nbOk W H c 3 = false := by unfold nbOk; rw [h2, h3]; rfl
        have eA : nbL W H c 3 = nbL W H c 4 := nbL_no hO
        repeat (first
          | (refine ⟨⟨by kernel_rfl, by kernel_rfl⟩, ?_⟩; conv => whnf)
          | (refine And.intro (by first | omega | (simp; done) | (simp; omega)) ?_; conv => whnf)
          | (refine Or.inl (And.intro (by omega) ?_); conv => whnf)
          | (refine br_intro (fun h => by exfalso; first | (simp at h; done) | (simp at h; omega) | omega) (fun _ => ?_); conv => whnf)
          | (refine br_intro (fun _ => ?_) (fun h => by exfalso; first | (simp at h; done) | (simp at h; omega) | omega); conv => whnf))
        refine ⟨4, id, ⟨by dsimp only; omega, by dsimp only; omega⟩, rfl, ⟨rfl, rfl, rfl, rfl, rfl, trivial⟩, ⟨rfl, congrArg (fun l => KS.live (Blk.tab .nb l)) eA, trivial⟩⟩
      · have h3 : (!inR (nbY W c 3) 0 (H - 1)) = false := h3
        have h3 : inR (nbY W c 3) 0 (H - 1) = true := by simpa using h3
        have hO : nbOk W H c 3 = true := by unfold nbOk; rw [h2, h3]; rfl
        have r := nbC_range q1 hO
        have r' : 0 ≤ (c / W + 1) * W + (c % W + 1) ∧ (c / W + 1) * W + (c % W + 1) < W * H := r
        have eA : nbL W H c 3 ++ [(nbC W c 3, farK 3)] = nbL W H c 4 := nbL_yes hO
        repeat (first
          | (refine ⟨⟨by kernel_rfl, by kernel_rfl⟩, ?_⟩; conv => whnf)
          | (refine And.intro (by first | omega | (simp; done) | (simp; omega)) ?_; conv => whnf)
          | (refine Or.inl (And.intro (by omega) ?_); conv => whnf)
          | (refine br_intro (fun h => by exfalso; first | (simp at h; done) | (simp at h; omega) | omega) (fun _ => ?_); conv => whnf)
          | (refine br_intro (fun _ => ?_) (fun h => by exfalso; first | (simp at h; done) | (simp at h; omega) | omega); conv => whnf))
        refine ⟨4, ren [(44, 264)], ⟨by dsimp only; omega, by dsimp only; omega⟩, rfl, ⟨rfl, rfl, rfl, rfl, rfl, trivial⟩, ⟨rfl, congrArg (fun l => KS.live (Blk.tab .nb l)) eA, trivial⟩⟩
  · have hlen := nbL_len W H c 4
    conv => whnf
    repeat (first
      | (refine ⟨⟨by kernel_rfl, by kernel_rfl⟩, ?_⟩; conv => whnf)
      | (refine And.intro (by first | omega | (simp; done) | (simp; omega)) ?_; conv => whnf)
      | (refine Or.inl (And.intro (by omega) ?_); conv => whnf)
      | (refine br_intro (fun h => by exfalso; first | (simp at h; done) | (simp at h; omega) | omega) (fun _ => ?_); conv => whnf)
      | (refine br_intro (fun _ => ?_) (fun h => by exfalso; first | (simp at h; done) | (simp at h; omega) | omega); conv => whnf))
    refine And.intro (Nat.le_of_ble_eq_true (by kernel_rfl)) ?_
    conv => whnf
    repeat (first
      | (refine ⟨⟨by kernel_rfl, by kernel_rfl⟩, ?_⟩; conv => whnf)
      | (refine And.intro (by first | omega | (simp; done) | (simp; omega)) ?_; conv => whnf)
      | (refine Or.inl (And.intro (by omega) ?_); conv => whnf)
      | (refine br_intro (fun h => by exfalso; first | (simp at h; done) | (simp at h; omega) | omega) (fun _ => ?_); conv => whnf)
      | (refine br_intro (fun _ => ?_) (fun h => by exfalso; first | (simp at h; done) | (simp at h; omega) | omega); conv => whnf)
      | (refine Exists.intro _ (And.intro (iWithin) ?_); conv => whnf))
    (refine br_intro (fun h2 => ?_) (fun h2 => ?_) <;> (conv => whnf))
    · have h2 : (!inR (nbX W c 4) 0 (W - 1)) = true := h2
      have h2 : inR (nbX W c 4) 0 (W - 1) = false := by simpa using h2
      have hO : nbOk W H c 4 = false := by unfold nbOk; rw [h2]; rfl
      have eA : nbL W H c 4 = nbL W H c 5 := nbL_no hO
      repeat (first
        | (refine ⟨⟨by kernel_rfl, by kernel_rfl⟩, ?_⟩; conv => whnf)
        | (refine And.intro (by first | omega | (simp; done) | (simp; omega)) ?_; conv => whnf)
        | (refine Or.inl (And.intro (by omega) ?_); conv => whnf)
        | (refine br_intro (fun h => by exfalso; first | (simp at h; done) | (simp at h; omega) | omega) (fun _ => ?_); conv => whnf)
        | (refine br_intro (fun _ => ?_) (fun h => by exfalso; first | (simp at h; done) | (simp at h; omega) | omega); conv => whnf))
      refine ⟨5, id, ⟨by dsimp only; omega, by dsimp only; omega⟩, rfl, ⟨rfl, rfl, rfl, rfl, rfl, trivial⟩, ⟨rfl, congrArg (fun l => KS.live (Blk.tab .nb l)) eA, trivial⟩⟩
    · have h2 : (!inR (nbX W c 4) 0 (W - 1)) = false := h2
      have h2 : inR (nbX W c 4) 0 (W - 1) = true := by simpa using h2
      repeat (first
        | (refine ⟨⟨by kernel_rfl, by kernel_rfl⟩, ?_⟩; conv => whnf)
        | (refine And.intro (by first | omega | (simp; done) | (simp; omega)) ?_; conv => whnf)
        | (refine Or.inl (And.intro (by omega) ?_); conv => whnf)
        | (refine br_intro (fun h => by exfalso; first | (simp at h; done) | (simp at h; omega) | omega) (fun _ => ?_); conv => whnf)
        | (refine br_intro (fun _ => ?_) (fun h => by exfalso; first | (simp at h; done) | (simp at h; omega) | omega); conv => whnf)
        | (refine Exists.intro _ (And.intro (iWithin) ?_); conv => whnf))
      (refine br_intro (fun h3 => ?_) (fun h3 => ?_) <;> (conv => whnf))
      · have h3 : (!inR (nbY W c 4) 0 (H - 1)) = true := h3
        have h3 : inR (nbY W c 4) 0 (H - 1) = false := by simpa using h3
        have hO : nbOk W H c 4 = false := by unfold nbOk; rw [h2, h3]; rfl
        have eA : nbL W H c 4 = nbL W H c 5 := nbL_no hO
        repeat (first
          | (refine ⟨⟨by kernel_rfl, by kernel_rfl⟩, ?_⟩; conv => whnf)
          | (refine And.intro (by first | omega | (simp; done) | (simp; omega)) ?_; conv => whnf)
          | (refine Or.inl (And.intro (by omega) ?_); conv => whnf)
          | (refine br_intro (fun h => by exfalso; first | (simp at h; done) | (simp at h; omega) | omega) (fun _ => ?_); conv => whnf)
          | (refine br_intro (fun _ => ?_) (fun h => by exfalso; first | (simp at h; done) | (simp at h; omega) | omega); conv => whnf))
        refine ⟨5, id, ⟨by dsimp only; omega, by dsimp only; omega⟩, rfl, ⟨rfl, rfl, rfl, rfl, rfl, trivial⟩, ⟨rfl, congrArg (fun l => KS.live (Blk.tab .nb l)) eA, trivial⟩⟩
      · have h3 : (!inR (nbY W c 4) 0 (H - 1)) = false := h3
        have h3 : inR (nbY W c 4) 0 (H - 1) = true := by simpa using h3
        have hO : nbOk W H c 4 = true := by unfold nbOk; rw [h2, h3]; rfl
        have r := nbC_range q1 hO
        have r' : 0 ≤ (c / W + 1) * W + (c % W + 0) ∧ (c / W + 1) * W + (c % W + 0) < W * H := r
        have eA : nbL W H c 4 ++ [(nbC W c 4, farK 4)] = nbL W H c 5 := nbL_yes hO
        repeat (first
          | (refine ⟨⟨by kernel_rfl, by kernel_rfl⟩, ?_⟩; conv => whnf)
          | (refine And.intro (by first | omega | (simp; done) | (simp; omega)) ?_; conv => whnf)
          | (refine Or.inl (And.intro (by omega) ?_); conv => whnf)
          | (refine br_intro (fun h => by exfalso; first | (simp at h; done) | (simp at h; omega) | omega) (fun _ => ?_); conv => whnf)
          | (refine br_intro (fun _ => ?_) (fun h => by exfalso; first | (simp at h; done) | (simp at h; omega) | omega); conv => whnf))
        refine ⟨5, ren [(44, 264)], ⟨by dsimp only; omega, by dsimp only; omega⟩, rfl, ⟨rfl, rfl, rfl, rfl, rfl, trivial⟩, ⟨rfl, congrArg (fun l => KS.live (Blk.tab .nb l)) eA, trivial⟩⟩
  · have hlen := nbL_len W H c 5
    conv => whnf
    repeat (first
      | (refine ⟨⟨by kernel_rfl, by kernel_rfl⟩, ?_⟩; conv => whnf)
      | (refine And.intro (by first | omega | (simp; done) | (simp; omega)) ?_; conv => whnf)
      | (refine Or.inl (And.intro (by omega) ?_); conv => whnf)
      | (refine br_intro (fun h => by exfalso; first | (simp at h; done) | (simp at h; omega) | omega) (fun _ => ?_); conv => whnf)
      | (refine br_intro (fun _ => ?_) (fun h => by exfalso; first | (simp at h; done) | (simp at h; omega) | omega); conv => whnf))
    refine And.intro (Nat.le_of_ble_eq_true (by kernel_rfl)) ?_
    conv => whnf
    repeat (first
      | (refine ⟨⟨by kernel_rfl, by kernel_rfl⟩, ?_⟩; conv => whnf)
      | (refine And.intro (by first | omega | (simp; done) | (simp; omega)) ?_; conv => whnf)
      | (refine Or.inl (And.intro (by omega) ?_); conv => whnf)
      | (refine br_intro (fun h => by exfalso; first | (simp at h; done) | (simp at h; omega) | omega) (fun _ => ?_); conv => whnf)
      | (refine br_intro (fun _ => ?_) (fun h => by exfalso; first | (simp at h; done) | (simp at h; omega) | omega); conv => whnf)
      | (refine Exists.intro _ (And.intro (iWithin) ?_); conv => whnf))
    (refine br_intro (fun h2 => ?_) (fun h2 => ?_) <;> (conv => whnf))
    · have h2 : (!inR (nbX W c 5) 0 (W - 1)) = true := h2
      have h2 : inR (nbX W c 5) 0 (W - 1) = false := by simpa using h2
      have hO : nbOk W H c 5 = false := by unfold nbOk; rw [h2]; rfl
      have eA : nbL W H c 5 = nbL W H c 6 := nbL_no hO
      repeat (first
        | (refine ⟨⟨by kernel_rfl, by kernel_rfl⟩, ?_⟩; conv => whnf)
        | (refine And.intro (by first | omega | (simp; done) | (simp; omega)) ?_; conv => whnf)
        | (refine Or.inl (And.intro (by omega) ?_); conv => whnf)
        | (refine br_intro (fun h => by exfalso; first | (simp at h; done) | (simp at h; omega) | omega) (fun _ => ?_); conv => whnf)
        | (refine br_intro (fun _ => ?_) (fun h => by exfalso; first | (simp at h; done) | (simp at h; omega) | omega); conv => whnf))
      refine ⟨6, id, ⟨by dsimp only; omega, by dsimp only; omega⟩, rfl, ⟨rfl, rfl, rfl, rfl, rfl, trivial⟩, ⟨rfl, congrArg (fun l => KS.live (Blk.tab .nb l)) eA, trivial⟩⟩
    · have h2 : (!inR (nbX W c 5) 0 (W - 1)) = false := h2
      have h2 : inR (nbX W c 5) 0 (W - 1) = true := by simpa using h2
      repeat (first
        | (refine ⟨⟨by kernel_rfl, by kernel_rfl⟩, ?_⟩; conv => whnf)
        | (refine And.intro (by first | omega | (simp; done) | (simp; omega)) ?_; conv => whnf)
        | (refine Or.inl (And.intro (by omega) ?_); conv => whnf)
        | (refine br_intro (fun h => by exfalso; first | (simp at h; done) | (simp at h; omega) | omega) (fun _ => ?_); conv => whnf)
        | (refine br_intro (fun _ => ?_) (fun h => by exfalso; first | (simp at h; done) | (simp at h; omega) | omega); conv => whnf)
        | (refine Exists.intro _ (And.intro (iWithin) ?_); conv => whnf))
      (refine br_intro (fun h3 => ?_) (fun h3 => ?_) <;> (conv => whnf))
      · have h3 : (!inR (nbY W c 5) 0 (H - 1)) = true := h3
        have h3 : inR (nbY W c 5) 0 (H - 1) = false := by simpa using h3
        have hO : nbOk W H c 5 = false := by unfold nbOk; rw [h2, h3]; rfl
        have eA : nbL W H c 5 = nbL W H c 6 := nbL_no hO
        repeat (first
          | (refine ⟨⟨by kernel_rfl, by kernel_rfl⟩, ?_⟩; conv => whnf)
          | (refine And.intro (by first | omega | (simp; done) | (simp; omega)) ?_; conv => whnf)
          | (refine Or.inl (And.intro (by omega) ?_); conv => whnf)
          | (refine br_intro (fun h => by exfalso; first | (simp at h; done) | (simp at h; omega) | omega) (fun _ => ?_); conv => whnf)
          | (refine br_intro (fun _ => ?_) (fun h => by exfalso; first | (simp at h; done) | (simp at h; omega) | omega); conv => whnf))
        refine ⟨6, id, ⟨by dsimp only; omega, by dsimp only; omega⟩, rfl, ⟨rfl, rfl, rfl, rfl, rfl, trivial⟩, ⟨rfl, congrArg (fun l => KS.live (Blk.tab .nb l)) eA, trivial⟩⟩
      · have h3 : (!inR (nbY W c 5) 0 (H - 1)) = false := h3
        have h3 : inR (nbY W c 5) 0 (H - 1) = true := by simpa using h3
        have hO : nbOk W H c 5 = true := by unfold nbOk; rw [h2, h3]; rfl
        have r := nbC_range q1 hO
        have r' : 0 ≤ (c / W + 1) * W + (c % W + (-1)) ∧ (c / W + 1) * W + (c % W + (-1)) < W * H := r
        have eA : nbL W H c 5 ++ [(nbC W c 5, farK 5)] = nbL W H c 6 := nbL_yes hO
        repeat (first
          | (refine ⟨⟨by kernel_rfl, by kernel_rfl⟩, ?_⟩; conv => whnf)
          | (refine And.intro (by first | omega | (simp; done) | (simp; omega)) ?_; conv => whnf)
          | (refine Or.inl (And.intro (by omega) ?_); conv => whnf)
          | (refine br_intro (fun h => by exfalso; first | (simp at h; done) | (simp at h; omega) | omega) (fun _ => ?_); conv => whnf)
          | (refine br_intro (fun _ => ?_) (fun h => by exfalso; first | (simp at h; done) | (simp at h; omega) | omega); conv => whnf))
        refine ⟨6, ren [(44, 264)], ⟨by dsimp only; omega, by dsimp only; omega⟩, rfl, ⟨rfl, rfl, rfl, rfl, rfl, trivial⟩, ⟨rfl, congrArg (fun l => KS.live (Blk.tab .nb l)) eA, trivial⟩⟩
  · have hlen := nbL_len W H c 6
    conv => whnf
    repeat (first
      | (refine ⟨⟨by kernel_rfl, by kernel_rfl⟩, ?_⟩; conv => whnf)
      | (refine And.intro (by first | omega | (simp; done) | (simp; omega)) ?_; conv => whnf)
      | (refine Or.inl (And.intro (by omega) ?_); conv => whnf)
      | (refine br_intro (fun h => by exfalso; first | (simp at h; done) | (simp at h; omega) | omega) (fun _ => ?_); conv => whnf)
      | (refine br_intro (fun _ => ?_) (fun h => by exfalso; first | (simp at h; done) | (simp at h; omega) | omega); conv => whnf))
    refine And.intro (Nat.le_of_ble_eq_true (by kernel_rfl)) ?_
    conv => whnf
    repeat (first
      | (refine ⟨⟨by kernel_rfl, by kernel_rfl⟩, ?_⟩; conv => whnf)
      | (refine And.intro (by first | omega | (simp; done) | (simp; omega)) ?_; conv => whnf)
      | (refine Or.inl (And.intro (by omega) ?_); conv => whnf)
      | (refine br_intro (fun h => by exfalso; first | (simp at h; done) | (simp at h; omega) | omega) (fun _ => ?_); conv => whnf)
      | (refine br_intro (fun _ => ?_) (fun h => by exfalso; first | (simp at h; done) | (simp at h; omega) | omega); conv => whnf)
      | (refine Exists.intro _ (And.intro (iWithin) ?_); conv => whnf))
    (refine br_intro (fun h2 => ?_) (fun h2 => ?_) <;> (conv => whnf))
    · have h2 : (!inR (nbX W c 6) 0 (W - 1)) = true := h2
      have h2 : inR (nbX W c 6) 0 (W - 1) = false := by simpa using h2
      have hO : nbOk W H c 6 = false := by unfold nbOk; rw [h2]; rfl
      have eA : nbL W H c 6 = nbL W H c 7 := nbL_no hO
      repeat (first
        | (refine ⟨⟨by kernel_rfl, by kernel_rfl⟩, ?_⟩; conv => whnf)
        | (refine And.intro (by first | omega | (simp; done) | (simp; omega)) ?_; conv => whnf)
        | (refine Or.inl (And.intro (by omega) ?_); conv => whnf)
        | (refine br_intro (fun h => by exfalso; first | (simp at h; done) | (simp at h; omega) | omega) (fun _ => ?_); conv => whnf)
        | (refine br_intro (fun _ => ?_) (fun h => by exfalso; first | (simp at h; done) | (simp at h; omega) | omega); conv => whnf))
      refine ⟨7, id, ⟨by dsimp only; omega, by dsimp only; omega⟩, rfl, ⟨rfl, rfl, rfl, rfl, rfl, trivial⟩, ⟨rfl, congrArg (fun l => KS.live (Blk.tab .nb l)) eA, trivial⟩⟩
    · have h2 : (!inR (nbX W c 6) 0 (W - 1)) = false := h2
      have h2 : inR (nbX W c 6) 0 (W - 1) = true := by simpa using h2
      repeat (first
        | (refine ⟨⟨by kernel_rfl, by kernel_rfl⟩, ?_⟩; conv => whnf)
        | (refine And.intro (by first | omega | (simp; done) | (simp; omega)) ?_; conv => whnf)
        | (refine Or.inl (And.intro (by omega) ?_); conv => whnf)
        | (refine br_intro (fun h => by exfalso; first | (simp at h; done) | (simp at h; omega) | omega) (fun _ => ?_); conv => whnf)
        | (refine br_intro (fun _ => ?_) (fun h => by exfalso; first | (simp at h; done) | (simp at h; omega) | omega); conv => whnf)
        | (refine Exists.intro _ (And.intro (iWithin) ?_); conv => whnf))
      (refine br_intro (fun h3 => ?_) (fun h3 => ?_) <;> (conv => whnf))
      · have h3 : (!inR (nbY W c 6) 0 (H - 1)) = true := h3
        have h3 : inR (nbY W c 6) 0 (H - 1) = false := by simpa using h3
        have hO : nbOk W H c 6 = false := by unfold nbOk; rw [h2, h3]; rfl
        have eA : nbL W H c 6 = nbL W H c 7 := nbL_no hO
        repeat (first
          | (refine ⟨⟨by kernel_rfl, by kernel_rfl⟩, ?_⟩; conv => whnf)
          | (refine And.intro (by first | omega | (simp; done) | (simp; omega)) ?_; conv => whnf)
          | (refine Or.inl (And.intro (by omega) ?_); conv => whnf)
          | (refine br_intro (fun h => by exfalso; first | (simp at h; done) | (simp at h; omega) | omega) (fun _ => ?_); conv => whnf)
          | (refine br_intro (fun _ => ?_) (fun h => by exfalso; first | (simp at h; done) | (simp at h; omega) | omega); conv => whnf))
        refine ⟨7, id, ⟨by dsimp only; omega, by dsimp only; omega⟩, rfl, ⟨rfl, rfl, rfl, rfl, rfl, trivial⟩, ⟨rfl, congrArg (fun l => KS.live (Blk.tab .nb l)) eA, trivial⟩⟩
      · have h3 : (!inR (nbY W c 6) 0 (H - 1)) = false := h3
        have h3 : inR (nbY W c 6) 0 (H - 1) = true := by simpa using h3
        have hO : nbOk W H c 6 = true := by unfold nbOk; rw [h2, h3]; rfl
        have r := nbC_range q1 hO
        have r' : 0 ≤ (c / W + 0) * W + (c % W + (-1)) ∧ (c / W + 0) * W + (c % W + (-1)) < W * H := r
        have eA : nbL W H c 6 ++ [(nbC W c 6, farK 6)] = nbL W H c 7 := nbL_yes hO
        repeat (first
          | (refine ⟨⟨by kernel_rfl, by kernel_rfl⟩, ?_⟩; conv => whnf)
          | (refine And.intro (by first | omega | (simp; done) | (simp; omega)) ?_; conv => whnf)
          | (refine Or.inl (And.intro (by omega) ?_); conv => whnf)
          | (refine br_intro (fun h => by exfalso; first | (simp at h; done) | (simp at h; omega) | omega) (fun _ => ?_); conv => whnf)
          | (refine br_intro (fun _ => ?_) (fun h => by exfalso; first | (simp at h; done) | (simp at h; omega) | omega); conv => whnf))
        refine ⟨7, ren [(44, 264)], ⟨by dsimp only; omega, by dsimp only; omega⟩, rfl, ⟨rfl, rfl, rfl, rfl, rfl, trivial⟩, ⟨rfl, congrArg (fun l => KS.live (Blk.tab .nb l)) eA, trivial⟩⟩
  · have hlen := nbL_len W H c 7
    conv => whnf
    repeat (first
      | (refine ⟨⟨by kernel_rfl, by kernel_rfl⟩, ?_⟩; conv => whnf)
      | (refine And.intro (by first | omega | (simp; done) | (simp; omega)) ?_; conv => whnf)
      | (refine Or.inl (And.intro (by omega) ?_); conv => whnf)
      | (refine br_intro (fun h => by exfalso; first | (simp at h; done) | (simp at h; omega) | omega) (fun _ => ?_); conv => whnf)
      | (refine br_intro (fun _ => ?_) (fun h => by exfalso; first | (simp at h; done) | (simp at h; omega) | omega); conv => whnf))
    refine And.intro (Nat.le_of_ble_eq_true (by kernel_rfl)) ?_
    conv => whnf
    repeat (first
      | (refine ⟨⟨by kernel_rfl, by kernel_rfl⟩, ?_⟩; conv => whnf)
      | (refine And.intro (by first | omega | (simp; done) | (simp; omega)) ?_; conv => whnf)
      | (refine Or.inl (And.intro (by omega) ?_); conv => whnf)
      | (refine br_intro (fun h => by exfalso; first | (simp at h; done) | (simp at h; omega) | omega) (fun _ => ?_); conv => whnf)
      | (refine br_intro (fun _ => ?_) (fun h => by exfalso; first | (simp at h; done) | (simp at h; omega) | omega); conv => whnf)
      | (refine Exists.intro _ (And.intro (iWithin) ?_); conv => whnf))
    (refine br_intro (fun h2 => ?_) (fun h2 => ?_) <;> (conv => whnf))
    · have h2 : (!inR (nbX W c 7) 0 (W - 1)) = true := h2
      have h2 : inR (nbX W c 7) 0 (W - 1) = false := by simpa using h2
      have hO : nbOk W H c 7 = false := by unfold nbOk; rw [h2]; rfl
      have eA : nbL W H c 7 = nbL W H c 8 := nbL_no hO
      repeat (first
        | (refine ⟨⟨by kernel_rfl, by kernel_rfl⟩, ?_⟩; conv => whnf)
        | (refine And.intro (by first | omega | (simp; done) | (simp; omega)) ?_; conv => whnf)
        | (refine Or.inl (And.intro (by omega) ?_); conv => whnf)
        | (refine br_intro (fun h => by exfalso; first | (simp at h; done) | (simp at h; omega) | omega) (fun _ => ?_); conv => whnf)
        | (refine br_intro (fun _ => ?_) (fun h => by exfalso; first | (simp at h; done) | (simp at h; omega) | omega); conv => whnf))
      refine ⟨8, id, ⟨by dsimp only; omega, by dsimp only; omega⟩, rfl, ⟨rfl, rfl, rfl, rfl, rfl, trivial⟩, ⟨rfl, congrArg (fun l => KS.live (Blk.tab .nb l)) eA, trivial⟩⟩
    · have h2 : (!inR (nbX W c 7) 0 (W - 1)) = false := h2
      have h2 : inR (nbX W c 7) 0 (W - 1) = true := by simpa using h2
      repeat (first
        | (refine ⟨⟨by kernel_rfl, by kernel_rfl⟩, ?_⟩; conv => whnf)
        | (refine And.intro (by first | omega | (simp; done) | (simp; omega)) ?_; conv => whnf)
        | (refine Or.inl (And.intro (by omega) ?_); conv => whnf)
        | (refine br_intro (fun h => by exfalso; first | (simp at h; done) | (simp at h; omega) | omega) (fun _ => ?_); conv => whnf)
        | (refine br_intro (fun _ => ?_) (fun h => by exfalso; first | (simp at h; done) | (simp at h; omega) | omega); conv => whnf)
        | (refine Exists.intro _ (And.intro (iWithin) ?_); conv => whnf))
      (refine br_intro (fun h3 => ?_) (fun h3 => ?_) <;> (conv => whnf))
      · have h3 : (!inR (nbY W c 7) 0 (H - 1)) = true := h3
        have h3 : inR (nbY W c 7) 0 (H - 1) = false := by simpa using h3
        have hO : nbOk W H c 7 = false := by unfold nbOk; rw [h2, h3]; rfl
        have eA : nbL W H c 7 = nbL W H c 8 := nbL_no hO
        repeat (first
          | (refine ⟨⟨by kernel_rfl, by kernel_rfl⟩, ?_⟩; conv => whnf)
          | (refine And.intro (by first | omega | (simp; done) | (simp; omega)) ?_; conv => whnf)
          | (refine Or.inl (And.intro (by omega) ?_); conv => whnf)
          | (refine br_intro (fun h => by exfalso; first | (simp at h; done) | (simp at h; omega) | omega) (fun _ => ?_); conv => whnf)
          | (refine br_intro (fun _ => ?_) (fun h => by exfalso; first | (simp at h; done) | (simp at h; omega) | omega); conv => whnf))
        refine ⟨8, id, ⟨by dsimp only; omega, by dsimp only; omega⟩, rfl, ⟨rfl, rfl, rfl, rfl, rfl, trivial⟩, ⟨rfl, congrArg (fun l => KS.live (Blk.tab .nb l)) eA, trivial⟩⟩
      · have h3 : (!inR (nbY W c 7) 0 (H - 1)) = false := h3
        have h3 : inR (nbY W c 7) 0 (H - 1) = true := by simpa using h3
        have hO : nbOk W H c 7 = true := by unfold nbOk; rw [h2, h3]; rfl
        have r := nbC_range q1 hO
        have r' : 0 ≤ (c / W + (-1)) * W + (c % W + (-1)) ∧ (c / W + (-1)) * W + (c % W + (-1)) < W * H := r
        have eA : nbL W H c 7 ++ [(nbC W c 7, farK 7)] = nbL W H c 8 := nbL_yes hO
        repeat (first
          | (refine ⟨⟨by kernel_rfl, by kernel_rfl⟩, ?_⟩; conv => whnf)
          | (refine And.intro (by first | omega | (simp; done) | (simp; omega)) ?_; conv => whnf)
          | (refine Or.inl (And.intro (by omega) ?_); conv => whnf)
          | (refine br_intro (fun h => by exfalso; first | (simp at h; done) | (simp at h; omega) | omega) (fun _ => ?_); conv => whnf)
          | (refine br_intro (fun _ => ?_) (fun h => by exfalso; first | (simp at h; done) | (simp at h; omega) | omega); conv => whnf))
        refine ⟨8, ren [(44, 264)], ⟨by dsimp only; omega, by dsimp only; omega⟩, rfl, ⟨rfl, rfl, rfl, rfl, rfl, trivial⟩, ⟨rfl, congrArg (fun l => KS.live (Blk.tab .nb l)) eA, trivial⟩⟩
  · conv => whnf
    repeat (first
      | (refine ⟨⟨by kernel_rfl, by kernel_rfl⟩, ?_⟩; conv => whnf)
      | (refine And.intro (by first | omega | (simp; done) | (simp; omega)) ?_; conv => whnf)
      | (refine Or.inl (And.intro (by omega) ?_); conv => whnf)
      | (refine br_intro (fun h => by exfalso; first | (simp at h; done) | (simp at h; omega) | omega) (fun _ => ?_); conv => whnf)
      | (refine br_intro (fun _ => ?_) (fun h => by exfalso; first | (simp at h; done) | (simp at h; omega) | omega); conv => whnf))
    all_goals (try (conv => whnf))
    all_goals (repeat' (first | exact True.intro | (refine And.intro ?_ ?_ <;> (conv => whnf))))
    all_goals (first | rfl | (simp_all []; done) | (simp only [cond_true, cond_false, Bool.and_true, Bool.true_and, Bool.and_false, Bool.false_and]; rfl) | (simp_all []; omega))

end Go.Proofs.Ytngmlbeafdaolaa
