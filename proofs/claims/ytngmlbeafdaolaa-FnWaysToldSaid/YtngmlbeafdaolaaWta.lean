/- What each function of this seat does (Wta). Printed from templates of this seat's own. -/
import Derived.Test.YtngmlbeafdaolaaWt7
namespace Go.Proofs.Ytngmlbeafdaolaa
open Go.Ax Go.Bx
set_option maxRecDepth 8000
set_option linter.unusedSimpArgs false
set_option linter.unusedVariables false
/-! Ridges: cells beside cells of other basins. -/
theorem rdL_at {W H : Int} {ds : List Int} : ∀ n, (∀ k, k < (rdL W H ds n).length → 0 ≤ (rdL W H ds n).getD k 0 ∧ (rdL W H ds n).getD k 0 < n) ∧ (∀ k, k + 1 < (rdL W H ds n).length → (rdL W H ds n).getD k 0 < (rdL W H ds n).getD (k + 1) 0)
  | 0 => ⟨fun k h => by simp [rdL] at h, fun k h => by simp [rdL] at h⟩
  | n + 1 => by
    obtain ⟨a, b⟩ := rdL_at (W := W) (H := H) (ds := ds) n
    cases g : rdQ W H (baS ds ds.length).2 n 8 with
    | false =>
      rw [rdL_no g]
      exact ⟨fun k h => by have := a k h; omega, b⟩
    | true =>
      rw [rdL_yes g, List.length_append, List.length_singleton]
      refine ⟨fun k h => ?_, fun k h => ?_⟩
      · by_cases e : k = (rdL W H ds n).length
        · rw [getD_hi _ e]; omega
        · have := a k (by omega)
          rw [getD_lo _ (by omega)]; omega
      · have := a k (by omega)
        rw [getD_lo _ (show k < (rdL W H ds n).length by omega)]
        by_cases e : k + 1 = (rdL W H ds n).length
        · rw [getD_hi _ e]; omega
        · rw [getD_lo _ (by omega)]
          exact b k (by omega)
theorem rdL_nil {W H : Int} {ds : List Int} : ∀ n, rdL W H ds n = [] ↔ ∀ c, c < n → rdQ W H (baS ds ds.length).2 c 8 = false
  | 0 => ⟨fun _ c h => by omega, fun _ => rfl⟩
  | n + 1 => by
    cases g : rdQ W H (baS ds ds.length).2 n 8 with
    | false =>
      rw [rdL_no g, rdL_nil n]
      exact ⟨fun h c hc => by
        by_cases e : c = n
        · rw [e]; exact g
        · exact h c (by omega), fun h c hc => h c (by omega)⟩
    | true =>
      rw [rdL_yes g]
      refine ⟨fun h => by simp at h, fun h => ?_⟩
      have := h n (by omega)
      rw [g] at this; cases this
theorem rdQ_flat {W H : Int} {bs : List Int} {c : Nat} (h : rdQ W H bs c 8 = false) {k : Nat} (hk : k < 8) (hO : nbOk W H c k = true) : bs.getD (nbC W c k).toNat 0 = bs.getD c 0 := by
  obtain ⟨r, m, e⟩ := nbL_in hO hk
  unfold rdQ at h
  rw [List.any_eq_false] at h
  have := h r m
  unfold rdP at this
  rw [e] at this
  simpa using this
/-- Were no cell beside one of another basin, all were of one. -/
theorem flat_all {W H : Int} {bs : List Int} {n : Nat} (hW : 1 ≤ W) (hH : 1 ≤ H) (hn : (n : Int) = W * H) (h : ∀ c, c < n → rdQ W H bs c 8 = false) : ∀ c, c < n → bs.getD c 0 = bs.getD 0 0 := by
  intro c
  induction c using Nat.strongRecOn with
  | ind c ih =>
    intro hc
    by_cases c0 : c = 0
    · rw [c0]
    have d1 : W * ((c : Int) / W) + (c : Int) % W = c := Int.mul_ediv_add_emod _ _
    have m1 := Int.emod_nonneg (c : Int) (show W ≠ 0 by omega)
    have m2 := Int.emod_lt_of_pos (c : Int) (show 0 < W by omega)
    have q1 := Int.ediv_nonneg (show (0 : Int) ≤ c by omega) (show 0 ≤ W by omega)
    have q2 : (c : Int) / W < H := Int.ediv_lt_of_lt_mul (by omega) (by rw [Int.mul_comm]; omega)
    by_cases cx : (c : Int) % W = 0
    · have qp : 1 ≤ (c : Int) / W := by
        rcases Int.lt_or_le 0 ((c : Int) / W) with g | g
        · omega
        · have g0 : (c : Int) / W = 0 := by omega
          rw [g0, cx] at d1
          simp at d1; omega
      have hO : nbOk W H c 0 = true := by
        unfold nbOk nbX nbY
        simp [inR, dxL, dyL]; omega
      have e : nbC W c 0 = (c : Int) - W := by
        unfold nbC nbX nbY
        show ((c : Int) / W + -1) * W + ((c : Int) % W + 0) = _
        rw [Int.add_mul, Int.mul_comm]; omega
      have f := rdQ_flat (h c hc) (by omega) hO
      rw [e] at f
      have cW : W ≤ c := by
        have : W * 1 ≤ W * ((c : Int) / W) := Int.mul_le_mul_of_nonneg_left qp (by omega)
        omega
      rw [← f]
      exact ih _ (by omega) (by omega)
    · have hO : nbOk W H c 6 = true := by
        unfold nbOk nbX nbY
        simp [inR, dxL, dyL]; omega
      have e : nbC W c 6 = (c : Int) - 1 := by
        unfold nbC nbX nbY
        show ((c : Int) / W + 0) * W + ((c : Int) % W + -1) = _
        rw [Int.add_zero, Int.mul_comm]; omega
      have f := rdQ_flat (h c hc) (by omega) hO
      rw [e] at f
      rw [← f]
      exact ih _ (by omega) (by omega)
theorem no_ridges {W H : Int} {ds : List Int} (h : (baS ds ds.length).1.length = 1) : rdL W H ds ds.length = [] := by
  have z : ∀ i, (baS ds ds.length).2.getD i 0 = 0 := fun i => by
    by_cases hi : i < ds.length
    · obtain ⟨a, b, _⟩ := baS_at ds ds.length i hi
      omega
    · have := (baS_len ds ds.length).2
      rw [List.getD_eq_getElem?_getD, List.getElem?_eq_none (by omega)]; rfl
  refine (rdL_nil _).2 fun c hc => ?_
  unfold rdQ
  rw [List.any_eq_false]
  intro r _
  unfold rdP
  rw [z, z]
  simp
theorem some_ridge {W H : Int} {ds : List Int} (hW : Wys W H ds) (h : (baS ds ds.length).1.length ≠ 1) : 0 < (rdL W H ds ds.length).length := by
  have hl := hW.2.1
  obtain ⟨k1, _, k3, _⟩ := hW.1
  have hp : 1 ≤ W * H := by
    have := Int.mul_le_mul k1 k3 (by omega) (by omega); omega
  apply Classical.byContradiction
  intro hno
  have e : rdL W H ds ds.length = [] := List.eq_nil_of_length_eq_zero (by omega)
  have fl := flat_all k1 k3 hl ((rdL_nil _).1 e)
  have one : ∀ i, i < ds.length → mth ds (i : Int) = mth ds ((0 : Nat) : Int) := fun i hi => (baS_eq ds hi (show 0 < ds.length by omega)).1 (fl i hi)
  have z := (baS_at ds ds.length 0 (by omega))
  have at' : ∀ j, j < (baS ds ds.length).1.length → (baS ds ds.length).1.getD j 0 = mth ds ((0 : Nat) : Int) := fun j hj => by
    obtain ⟨i, hi, e⟩ := mouth_of hW _ (Nat.le_refl _) _ (mem_getD.2 ⟨j, hj, rfl⟩)
    rw [e, one i hi]
  have := baS_dis ds ds.length 0 1 (by omega) (by omega) (by rw [at' 0 (by omega), at' 1 (by omega)])
  omega

/-! Where cells fall: what the law asks of each. -/
theorem sv_pos' {x : Nat} (h : Ax.Fin .f32 x) (hp : 0 < sv .f32 x) : fcmp .lss .f32 x (canon .f32 0) = false := by
  have z := dy_zero 0 (by omega)
  rw [cmp_lss h.num z.1.num]
  refine decide_eq_false fun g => ?_
  have := (pos_sv (k := .f32) (x := canon .f32 0) (y := x)).2 (by
    have e : sv .f32 (canon .f32 0) = 0 := by have := z.2.2; omega
    omega)
  omega
theorem fall_tests {W H : Int} {xs : List Nat} (hx : HalfH W H xs) {i : Nat} (hi : i < xs.length) : fin (flR W H xs (i : Nat)).2 = true ∧ fcmp .lss .f32 (flR W H xs (i : Nat)).2 (canon .f32 0) = false ∧ ((0 ≤ (flR W H xs (i : Nat)).1 ∧ (flR W H xs (i : Nat)).1 < xs.length ∧ fcmp .geq .f32 (xs.getD (flR W H xs (i : Nat)).1.toNat 0) (xs.getD i 0) = false) ∨ ((flR W H xs (i : Nat)).1 = -1 ∧ fcmp .neq .f32 (flR W H xs (i : Nat)).2 (canon .f32 0) = false)) := by
  have hh := hx.1
  obtain ⟨f, g⟩ := fl_facts hx (cel_of hh hi)
  refine ⟨by rw [fin_eq]; exact decide_eq_true f, ?_, ?_⟩
  · rcases g with ⟨e, _⟩ | ⟨k, hk, hO, e, hp, h⟩
    · rw [e]; decide +kernel
    · exact sv_pos' f hp
  · rcases g with ⟨e, _⟩ | ⟨k, hk, hO, e, hp, h⟩
    · right
      rw [e]
      exact ⟨rfl, by decide +kernel⟩
    · left
      have r := nbC_lt hh hO
      rw [e]
      refine ⟨r.1, r.2.1, ?_⟩
      rw [cmp_geq (hh.nn r.2.2).1.1 (hh.nn hi).1.1]
      rw [Int.toNat_natCast] at h
      exact decide_eq_false (by
        have h : P32 (xs.getD (nbC W i k).toNat 0) < P32 (xs.getD i 0) := h
        show ¬ pos .f32 _ ≤ pos .f32 _
        have e1 : P32 (xs.getD (nbC W i k).toNat 0) = pos .f32 (xs.getD (nbC W i k).toNat 0) := rfl
        have e2 : P32 (xs.getD i 0) = pos .f32 (xs.getD i 0) := rfl
        omega)
theorem down_ways {W H : Int} {xs : List Nat} (hx : HalfH W H xs) : waysB W H xs (waL W H xs) = true := leads_ways hx.1 (down_leads hx)
/-- The ways that run lead on, cell by cell. -/
theorem way_tests {W H : Int} {ds : List Int} (hW : Wys W H ds) {i : Nat} (hi : i < ds.length) (h : 0 ≤ ds.getD i 0) : (ds.getD i 0).toNat < ds.length ∧ ctT ds i + 1 ≤ ctT ds (ds.getD i 0).toNat ∧ (baS ds ds.length).2.getD (ds.getD i 0).toNat 0 = (baS ds ds.length).2.getD i 0 ∧ orT ds i ≤ orT ds (ds.getD i 0).toNat := by
  have hr := wyBe_range hW.1.1 hW.2.2.2.1 hi
  have hl := hW.2.1
  obtain ⟨j, hj⟩ : ∃ j : Nat, ds.getD i 0 = (j : Int) := ⟨(ds.getD i 0).toNat, by omega⟩
  have hj' : j < ds.length := by omega
  rw [hj, Int.toNat_natCast]
  exact ⟨hj', ctT_up hW hi hj' hj, (baS_eq ds hj' hi).2 (mth_next hW hi hj' hj).symm, orT_up hW hi hj' hj⟩
theorem lone_tests {W H : Int} {ds : List Int} (hW : Wys W H ds) {i : Nat} (hi : i < ds.length) : 1 ≤ ctT ds i ∧ 1 ≤ orT ds i ∧ (ctT ds i = 1 → orT ds i = 1) :=
  ⟨ctT_pos hW hi, (orT_range hW hi).1, fun h => orT_lone hW hi (ctT_lone hW hi h)⟩

end Go.Proofs.Ytngmlbeafdaolaa
