/- What each function of this seat does (Uni). Printed from templates of this seat's own. -/
import Derived.Test.YtddedcedkpigkaaBk2
namespace Go.Proofs.Ytddedcedkpigkaa
open Go.Ax Go.Bx
set_option maxRecDepth 8000
set_option linter.unusedSimpArgs false
set_option linter.unusedVariables false
noncomputable def ulZ (b : Int) : List Nat := List.replicate b.toNat (canon .f32 0)
noncomputable def ulR (c : Int) : List Nat := (List.replicate c.toNat (canon .f32 0)).set 0 one32
def ulG (b : Int) (rate tick : Nat) (c : Int) : Bool := inR b 1 8 && least rate && above tick && inR c 1 128
noncomputable def ulB (b : Int) (rate tick : Nat) (c : Int) : Bool := ulG b rate tick c && bkE (ulZ b) rate tick (ulR c)
noncomputable def ulO (b : Int) (rate tick : Nat) (c : Int) : List Nat := bif ulB b rate tick c then (bkO (bkS rate tick) (ulZ b) (ulR c) (ulR c).length).2 else []
theorem ulR_len (c : Int) : (ulR c).length = c.toNat := by simp [ulR]
theorem ulZ_len (b : Int) : (ulZ b).length = b.toNat := by simp [ulZ]
theorem ulO_len {b : Int} {rate tick : Nat} {c : Int} : (ulO b rate tick c).length ≤ 128 := by
  unfold ulO
  cases h : ulB b rate tick c
  · exact Nat.zero_le _
  · rw [cond_true, (bkO_len _ _ _ _).2, ulR_len]
    simp only [ulB, ulG, inR, Bool.and_eq_true, decide_eq_true_eq] at h
    omega
theorem least0 : least (canon .f32 0) = true := by unfold least K; decide +kernel
theorem least1 : least one32 = true := by unfold least K one32; decide +kernel
theorem ulZ_least (b : Int) : leastL (ulZ b) = true := by
  unfold leastL
  rw [allN_iff]
  intro i hi
  rw [ulZ_len] at hi
  rw [ulZ, List.getD_eq_getElem?_getD, List.getElem?_replicate, if_pos hi]
  exact least0
theorem ulR_rain {c : Int} (h : inR c 1 128 = true) : rainB (ulR c) = true := by
  simp only [inR, Bool.and_eq_true, decide_eq_true_eq] at h
  unfold rainB
  rw [ulR_len, decide_eq_true (by omega), Bool.true_and]
  unfold leastL
  rw [allN_iff]
  intro i hi
  rw [ulR_len] at hi
  unfold ulR
  by_cases h0 : i = 0
  · subst h0
    rw [getD_set _ _ _ _ (by simp; omega)]
    exact least1
  · rw [List.getD_eq_getElem?_getD, List.getElem?_set_ne (fun h => h0 h.symm), List.getElem?_replicate, if_pos hi]
    exact least0
theorem ulZ_32 (b : Int) : ∀ y ∈ ulZ b, y < 2 ^ 32 := fun y hy => by
  rw [List.eq_of_mem_replicate hy]; decide +kernel
theorem ulR_32 (c : Int) : ∀ y ∈ ulR c, y < 2 ^ 32 := fun y hy => by
  rcases List.mem_or_eq_of_mem_set hy with h | h
  · rw [List.eq_of_mem_replicate h]; decide +kernel
  · rw [h]; unfold one32; decide +kernel
theorem inR_w {b lo hi : Int} : inR b lo hi = true ↔ lo ≤ b ∧ b ≤ hi := by simp [inR]

theorem iUnit {b c : Int} {rate tick : Nat} (l1 : rate < 2 ^ 32) (l2 : tick < 2 ^ 32) : Does Try.prog 25 [.int .i64 b, .flt .f32 rate, .flt .f32 tick, .int .i64 c] (.tup [.own 0 .f32 (ulO b rate tick c), .bool (ulB b rate tick c)]) := by
  have no : ulG b rate tick c = false → ulB b rate tick c = false := fun h => by rw [ulB, h]; rfl
  have noO : ulB b rate tick c = false → ulO b rate tick c = [] := fun h => by rw [ulO, h]; rfl
  refine Does.of_awp (X := cx 38) Try.func25 rfl (by kernel_rfl) rfl (by simp [cx]) [129] rfl ?_
  conv => whnf
  repeat (first
    | (refine ⟨⟨by kernel_rfl, by kernel_rfl⟩, ?_⟩; conv => whnf)
    | (refine And.intro (by first | omega | (simp; done) | (simp; omega)) ?_; conv => whnf)
    | (refine Or.inl (And.intro (by omega) ?_); conv => whnf)
    | (refine Exists.intro _ (And.intro (iWithin) ?_); conv => whnf))
  (refine br_intro (fun g1 => ?_) (fun g1 => ?_) <;> (conv => whnf))
  · have g1 : inR b 1 8 = false := by simpa using g1
    have h := no (by simp [ulG, g1])
    rw [noO h, h]
    repeat (first
      | (refine ⟨⟨by kernel_rfl, by kernel_rfl⟩, ?_⟩; conv => whnf)
      | (refine And.intro (by first | omega | (simp; done) | (simp; omega)) ?_; conv => whnf)
      | (refine Or.inl (And.intro (by omega) ?_); conv => whnf)
      | (refine br_intro (fun h => by exfalso; first | (simp at h; done) | (simp at h; omega) | omega) (fun _ => ?_); conv => whnf)
      | (refine br_intro (fun _ => ?_) (fun h => by exfalso; first | (simp at h; done) | (simp at h; omega) | omega); conv => whnf))
    all_goals (try (conv => whnf))
    all_goals (repeat' (first | exact True.intro | (refine And.intro ?_ ?_ <;> (conv => whnf))))
    all_goals (first | rfl | (simp_all []; done) | (simp only [cond_true, cond_false, Bool.and_true, Bool.true_and, Bool.and_false, Bool.false_and]; rfl) | (simp_all []; omega))
  have g1 : inR b 1 8 = true := by simpa using g1
  repeat (first
    | (refine ⟨⟨by kernel_rfl, by kernel_rfl⟩, ?_⟩; conv => whnf)
    | (refine And.intro (by first | omega | (simp; done) | (simp; omega)) ?_; conv => whnf)
    | (refine Or.inl (And.intro (by omega) ?_); conv => whnf)
    | (refine Exists.intro _ (And.intro (iWithin) ?_); conv => whnf))
  (refine br_intro (fun g5 => ?_) (fun g5 => ?_) <;> (conv => whnf))
  · have g5 : inR c 1 128 = false := by simpa using g5
    have h := no (by simp [ulG, g5])
    rw [noO h, h]
    repeat (first
      | (refine ⟨⟨by kernel_rfl, by kernel_rfl⟩, ?_⟩; conv => whnf)
      | (refine And.intro (by first | omega | (simp; done) | (simp; omega)) ?_; conv => whnf)
      | (refine Or.inl (And.intro (by omega) ?_); conv => whnf)
      | (refine br_intro (fun h => by exfalso; first | (simp at h; done) | (simp at h; omega) | omega) (fun _ => ?_); conv => whnf)
      | (refine br_intro (fun _ => ?_) (fun h => by exfalso; first | (simp at h; done) | (simp at h; omega) | omega); conv => whnf))
    all_goals (try (conv => whnf))
    all_goals (repeat' (first | exact True.intro | (refine And.intro ?_ ?_ <;> (conv => whnf))))
    all_goals (first | rfl | (simp_all []; done) | (simp only [cond_true, cond_false, Bool.and_true, Bool.true_and, Bool.and_false, Bool.false_and]; rfl) | (simp_all []; omega))
  have g5 : inR c 1 128 = true := by simpa using g5
  have r1 := inR_w.1 g1
  have r2 := inR_w.1 g5
  have eB : ulB b rate tick c = bkB (ulZ b) rate tick (ulR c) := by
    have hz : inR ((ulZ b).length : Int) 1 8 = true := by rw [ulZ_len]; exact inR_w.2 (by omega)
    rw [ulB, ulG, bkB, bkG, g1, g5, hz, ulZ_least, ulR_rain g5]
    cases least rate <;> cases above tick <;> rfl
  clear no noO g1 g5
  have e : ∀ t t', Does Try.prog 24 [.sli .f32 (List.replicate b.toNat (canon .f32 0)) t, .flt .f32 rate, .flt .f32 tick, .sli .f32 ((List.replicate c.toNat (canon .f32 0)).set 0 (canon .f32 1065353216)) t'] (bkV (bkB (ulZ b) rate tick (ulR c)) (ulZ b) rate tick (ulR c)) := fun t t' => iRunBuckets (st := ulZ b) (rs := ulR c) (by rw [ulZ_len]; omega) (by rw [ulR_len]; omega) l1 l2 (ulZ_32 b) (ulR_32 c)
  unfold bkV at e
  cases hb : bkB (ulZ b) rate tick (ulR c) with
  | true =>
    rw [hb] at e eB
    have eO : ulO b rate tick c = (bkO (bkS rate tick) (ulZ b) (ulR c) (ulR c).length).2 := by rw [ulO, eB]; rfl
    rw [eB, eO]
    simp only [cond_true] at e
    repeat (first
      | (refine ⟨⟨by kernel_rfl, by kernel_rfl⟩, ?_⟩; conv => whnf)
      | (refine And.intro (by first | omega | (simp; done) | (simp; omega)) ?_; conv => whnf)
      | (refine Or.inl (And.intro (by omega) ?_); conv => whnf)
      | (refine Exists.intro _ (And.intro (e _ _) ?_); conv => whnf))
    all_goals (try (conv => whnf))
    all_goals (repeat' (first | exact True.intro | (refine And.intro ?_ ?_ <;> (conv => whnf))))
    all_goals (first | rfl | (simp_all []; done) | (simp only [cond_true, cond_false, Bool.and_true, Bool.true_and, Bool.and_false, Bool.false_and]; rfl) | (simp_all []; omega))
  | false =>
    rw [hb] at e eB
    have eO : ulO b rate tick c = [] := by rw [ulO, eB]; rfl
    rw [eB, eO]
    simp only [cond_false] at e
    repeat (first
      | (refine ⟨⟨by kernel_rfl, by kernel_rfl⟩, ?_⟩; conv => whnf)
      | (refine And.intro (by first | omega | (simp; done) | (simp; omega)) ?_; conv => whnf)
      | (refine Or.inl (And.intro (by omega) ?_); conv => whnf)
      | (refine Exists.intro _ (And.intro (e _ _) ?_); conv => whnf))
    all_goals (try (conv => whnf))
    all_goals (repeat' (first | exact True.intro | (refine And.intro ?_ ?_ <;> (conv => whnf))))
    all_goals (first | rfl | (simp_all []; done) | (simp only [cond_true, cond_false, Bool.and_true, Bool.true_and, Bool.and_false, Bool.false_and]; rfl) | (simp_all []; omega))

end Go.Proofs.Ytddedcedkpigkaa
