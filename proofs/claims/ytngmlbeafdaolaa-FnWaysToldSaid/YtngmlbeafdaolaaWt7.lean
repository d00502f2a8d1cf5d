/- What each function of this seat does (Wt7). Printed from templates of this seat's own. -/
import Derived.Test.YtngmlbeafdaolaaWt1
import Derived.Test.YtngmlbeafdaolaaBas
namespace Go.Proofs.Ytngmlbeafdaolaa
open Go.Ax Go.Bx
set_option maxRecDepth 8000
set_option linter.unusedSimpArgs false
set_option linter.unusedVariables false
/-! Mouths along ways. -/
theorem mth_cur {W H : Int} {ds : List Int} (hW : Wys W H ds) {i : Nat} (hi : i < ds.length) : mth ds (i : Int) = wyCur ds (i : Int) (paM ds (i : Int) - 1) := by
  have hl := hW.2.1
  obtain ⟨_, a3, _, _⟩ := paM_spec hW (c := (i : Int)) (by omega)
  unfold mth paL
  rw [tabN_length, tabN_getD _ (by omega)]
theorem mth_end {W H : Int} {ds : List Int} (hW : Wys W H ds) {i : Nat} (hi : i < ds.length) (h : ds.getD i 0 < 0) : mth ds (i : Int) = i := by
  rw [mth_cur hW hi, paM_end hW hi h]
  rfl
theorem mth_next {W H : Int} {ds : List Int} (hW : Wys W H ds) {i j : Nat} (hi : i < ds.length) (hj : j < ds.length) (e : ds.getD i 0 = (j : Int)) : mth ds (i : Int) = mth ds (j : Int) := by
  have hl := hW.2.1
  obtain ⟨_, a3, _, _⟩ := paM_spec hW (c := (j : Int)) (by omega)
  rw [mth_cur hW hi, mth_cur hW hj, paM_next hW hi (by omega), e]
  obtain ⟨m, hm⟩ : ∃ m, paM ds (j : Int) = m + 1 := ⟨paM ds (j : Int) - 1, by omega⟩
  rw [hm]
  show wyCur ds (i : Int) (m + 1) = wyCur ds (j : Int) m
  rw [wyCur_next (by omega), e]

/-! Basins tell mouths apart. -/
theorem fstN_at {l : List Int} {d : Int} : ∀ {n : Nat}, ¬ fstN l d n < 0 → l.getD (fstN l d n).toNat 0 = d
  | 0, h => absurd (show fstN l d 0 < 0 from by unfold fstN; omega) h
  | n + 1, h => by
    rw [fstN] at h ⊢
    by_cases g : fstN l d n < 0
    · rw [decide_eq_true g, Bool.true_and] at h ⊢
      by_cases e : l.getD n 0 = d
      · rw [show (l.getD n 0 == d) = true from by rw [e]; exact beq_self_eq_true d, cond_true, Int.toNat_natCast]
        exact e
      · rw [show (l.getD n 0 == d) = false by simpa using e, cond_false] at h
        exact absurd g h
    · rw [decide_eq_false g, Bool.false_and, cond_false]
      exact fstN_at g
theorem getD_lo {l : List Int} {i : Nat} (x : Int) (h : i < l.length) : (l ++ [x]).getD i 0 = l.getD i 0 := by
  rw [List.getD_eq_getElem?_getD, List.getElem?_append_left h, ← List.getD_eq_getElem?_getD]
theorem getD_hi {l : List Int} {i : Nat} (x : Int) (h : i = l.length) : (l ++ [x]).getD i 0 = x := by
  rw [List.getD_eq_getElem?_getD, h, List.getElem?_append_right (Nat.le_refl _), Nat.sub_self]
  rfl
theorem baS_at (ds : List Int) : ∀ n i, i < n → 0 ≤ (baS ds n).2.getD i 0 ∧ (baS ds n).2.getD i 0 < (baS ds n).1.length ∧ (baS ds n).1.getD ((baS ds n).2.getD i 0).toNat 0 = mth ds i
  | n + 1, i, hi => by
    have hl := (baS_len ds n).2
    rw [baS]
    by_cases g : fstN (baS ds n).1 (mth ds n) (baS ds n).1.length < 0
    · rw [baF_new g]
      dsimp only
      rw [List.length_append]
      by_cases e : i = n
      · rw [getD_hi _ (by omega), getD_hi _ (Int.toNat_natCast _), e]
        exact ⟨by omega, by show ((baS ds n).1.length : Int) < (((baS ds n).1.length + 1 : Nat) : Int); omega, rfl⟩
      · obtain ⟨a, b, c⟩ := baS_at ds n i (by omega)
        rw [getD_lo _ (by omega), getD_lo _ (by omega)]
        exact ⟨a, by show _ < (((baS ds n).1.length + 1 : Nat) : Int); omega, c⟩
    · rw [baF_old g]
      dsimp only
      by_cases e : i = n
      · rw [getD_hi _ (by omega), e]
        have := (fstN_range (baS ds n).1 (mth ds n) (baS ds n).1.length).2
        exact ⟨by omega, this, fstN_at g⟩
      · obtain ⟨a, b, c⟩ := baS_at ds n i (by omega)
        rw [getD_lo _ (by omega)]
        exact ⟨a, b, c⟩
/-- Two cells are of one basin when their paths end at one mouth. -/
theorem baS_eq (ds : List Int) {n i j : Nat} (hi : i < n) (hj : j < n) : (baS ds n).2.getD i 0 = (baS ds n).2.getD j 0 ↔ mth ds i = mth ds j := by
  obtain ⟨a, b, c⟩ := baS_at ds n i hi
  obtain ⟨a', b', c'⟩ := baS_at ds n j hj
  constructor
  · intro h
    rw [← c, ← c', h]
  · intro h
    have := baS_dis ds n _ _ (show ((baS ds n).2.getD i 0).toNat < (baS ds n).1.length by omega) (show ((baS ds n).2.getD j 0).toNat < (baS ds n).1.length by omega) (by rw [c, c', h])
    omega

/-! There is one mouth for each end. -/
theorem cells_total {W H : Int} {ds : List Int} (hW : Wys W H ds) : gaEnd ds (ctT ds) ds.length = ds.length := by
  rw [ga_total (r := fun _ => 1) (fun i hi => by have := wyBe_range hW.1.1 hW.2.2.2.1 hi; have := hW.2.1; omega) (fun c hc => ctT_rec hW hc)]
  have : ∀ m, sI (fun _ => 1) m = (m : Int) := fun m => by
    induction m with
    | zero => rfl
    | succ m ih => rw [sI, ih]; rfl
  exact this _
theorem mem_getD {l : List Int} {x : Int} : x ∈ l ↔ ∃ j, j < l.length ∧ l.getD j 0 = x := by
  rw [List.mem_iff_getElem]
  constructor
  · rintro ⟨j, hj, e⟩
    exact ⟨j, hj, by rw [List.getD_eq_getElem?_getD, List.getElem?_eq_getElem hj]; exact e⟩
  · rintro ⟨j, hj, e⟩
    refine ⟨j, hj, ?_⟩
    rw [List.getD_eq_getElem?_getD, List.getElem?_eq_getElem hj] at e
    exact e
theorem mth_stop {W H : Int} {ds : List Int} (hW : Wys W H ds) {i : Nat} (hi : i < ds.length) : ∃ e : Nat, e < ds.length ∧ mth ds (i : Int) = (e : Int) ∧ ds.getD e 0 < 0 := by
  have hl := hW.2.1
  obtain ⟨⟨p1, p2⟩, p3, p4, p5⟩ := paM_spec hW (c := (i : Int)) (by omega)
  obtain ⟨m, hm⟩ : ∃ m, paM ds (i : Int) = m + 1 := ⟨paM ds (i : Int) - 1, by omega⟩
  have h1 := p2 m (by omega)
  have h2 := (p5 m).2
  refine ⟨(wyCur ds (i : Int) m).toNat, by omega, ?_, ?_⟩
  · rw [mth_cur hW hi, hm]
    show wyCur ds (i : Int) m = _
    omega
  · rw [hm, wyCur_pos h1] at p1
    exact p1
/-- The mouths found so far are of different cells: how many there are. -/
theorem mouths_count {W H : Int} {ds : List Int} (hW : Wys W H ds) : ∀ i, i ≤ ds.length → sI (fun c => if ((c : Nat) : Int) ∈ (baS ds i).1 then 1 else 0) ds.length = (baS ds i).1.length
  | 0, _ => by
    have : ∀ m, sI (fun c => if ((c : Nat) : Int) ∈ (baS ds 0).1 then 1 else 0) m = 0 := fun m => by
      induction m with
      | zero => rfl
      | succ m ih => rw [sI, ih, if_neg (by show ¬ (m : Int) ∈ []; simp)]; rfl
    exact this _
  | i + 1, hi => by
    have ih := mouths_count hW i (by omega)
    obtain ⟨e, he, hm, _⟩ := mth_stop hW (i := i) (by omega)
    rw [baS]
    by_cases g : fstN (baS ds i).1 (mth ds i) (baS ds i).1.length < 0
    · have no : ¬ mth ds i ∈ (baS ds i).1 := fun h => by
        obtain ⟨j, hj, e⟩ := mem_getD.1 h
        exact fstN_neg.1 g j hj e
      rw [baF_new g]
      dsimp only
      rw [List.length_append, List.length_singleton]
      have ec : sI (fun c => if ((c : Nat) : Int) ∈ (baS ds i).1 ++ [mth ds i] then 1 else 0) ds.length = sI (fun c => (if ((c : Nat) : Int) ∈ (baS ds i).1 then 1 else 0) + if (e : Int) = ((c : Nat) : Int) then 1 else 0) ds.length := sI_congr _ fun c hc => by
        by_cases h1 : ((c : Nat) : Int) ∈ (baS ds i).1
        · have h2 : ¬ (e : Int) = ((c : Nat) : Int) := fun h => no (by rw [hm, h]; exact h1)
          rw [if_pos (List.mem_append_left _ h1), if_pos h1, if_neg h2]; rfl
        · by_cases h2 : (e : Int) = ((c : Nat) : Int)
          · rw [if_pos (List.mem_append_right _ (by rw [hm, h2]; exact List.mem_singleton_self _)), if_neg h1, if_pos h2]; rfl
          · rw [if_neg, if_neg h1, if_neg h2]; rfl
            intro h
            rcases List.mem_append.1 h with h | h
            · exact h1 h
            · rw [List.mem_singleton, hm] at h; omega
      rw [ec, sI_add, ih, sI_one, if_pos he]
      omega
    · rw [baF_old g]
      exact ih
theorem mouth_of {W H : Int} {ds : List Int} (hW : Wys W H ds) : ∀ n, n ≤ ds.length → ∀ x ∈ (baS ds n).1, ∃ i : Nat, i < n ∧ x = mth ds i
  | 0, _, x, h => by simp [baS] at h
  | n + 1, hn, x, h => by
    rw [baS] at h
    by_cases g : fstN (baS ds n).1 (mth ds n) (baS ds n).1.length < 0
    · rw [baF_new g] at h
      rcases List.mem_append.1 h with h | h
      · obtain ⟨i, hi, e⟩ := mouth_of hW n (by omega) x h
        exact ⟨i, by omega, e⟩
      · rw [List.mem_singleton] at h
        exact ⟨n, by omega, h⟩
    · rw [baF_old g] at h
      obtain ⟨i, hi, e⟩ := mouth_of hW n (by omega) x h
      exact ⟨i, by omega, e⟩
theorem mouth_iff {W H : Int} {ds : List Int} (hW : Wys W H ds) {c : Nat} (hc : c < ds.length) : ((c : Nat) : Int) ∈ (baS ds ds.length).1 ↔ ds.getD c 0 < 0 := by
  constructor
  · intro h
    obtain ⟨i, hi, e⟩ := mouth_of hW _ (Nat.le_refl _) _ h
    obtain ⟨d, hd, e2, e3⟩ := mth_stop hW hi
    have : c = d := by omega
    rw [this]; exact e3
  · intro h
    obtain ⟨a, b, e⟩ := baS_at ds ds.length c hc
    rw [mth_end hW hc h] at e
    exact mem_getD.2 ⟨_, by omega, e⟩
theorem ends_mouths {W H : Int} {ds : List Int} (hW : Wys W H ds) : gaEnd ds (fun _ => 1) ds.length = (baS ds ds.length).1.length := by
  rw [← mouths_count hW _ (Nat.le_refl _)]
  have : ∀ m, gaEnd ds (fun _ => 1) m = sI (fun c => if ds.getD c 0 < 0 then 1 else 0) m := fun m => by
    induction m with
    | zero => rfl
    | succ m ih => rw [gaEnd, sI, ih]
  rw [this]
  exact sI_congr _ fun c hc => by
    by_cases h : ds.getD c 0 < 0
    · rw [if_pos h, if_pos ((mouth_iff hW hc).2 h)]
    · rw [if_neg h, if_neg (fun g => h ((mouth_iff hW hc).1 g))]
theorem baS_first (ds : List Int) : ∀ n, (baS ds (n + 1)).2.getD 0 0 = 0
  | 0 => by
    rw [baS, baF_new (by show fstN [] _ 0 < 0; unfold fstN; omega)]
    rfl
  | n + 1 => by
    have hl := (baS_len ds (n + 1)).2
    have ih := baS_first ds n
    rw [baS]
    by_cases g : fstN (baS ds (n + 1)).1 (mth ds ((n + 1 : Nat) : Int)) (baS ds (n + 1)).1.length < 0
    · rw [baF_new g]
      dsimp only
      rw [getD_lo _ (by omega)]; exact ih
    · rw [baF_old g]
      dsimp only
      rw [getD_lo _ (by omega)]; exact ih
/-- No path is longer than the longest. -/
theorem lpS_ge (ds : List Int) : ∀ n i : Nat, i < n → (paL ds (i : Int)).length ≤ (lpS ds n).length
  | n + 1, i, hi => by
    rw [lpS]
    by_cases g : ((paL ds (n : Int)).length : Int) > ((lpS ds n).length : Int)
    · rw [decide_eq_true g, cond_true]
      by_cases e : i = n
      · rw [e]; exact Nat.le_refl _
      · have := lpS_ge ds n i (by omega)
        omega
    · rw [decide_eq_false g, cond_false]
      by_cases e : i = n
      · rw [e]; omega
      · exact lpS_ge ds n i (by omega)

end Go.Proofs.Ytngmlbeafdaolaa
